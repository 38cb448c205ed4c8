import Derived.Test.YtimillpakjgnoaaGreatM1
import Derived.Lib.SlicesCompact
import Derived.Test.YtimillpakjgnoaaGreatRows
import Derived.ChangeKeysEq
import Derived.Laws.Bits64
import Derived.Shelf.Sort.Plain
import Derived.Shelf.Slices.In.SortNone
import Derived.Shelf.Slices.CompactI
import Derived.Lib.RowBridge
import Derived.Ground.Names2Prog
namespace Go.Proofs.YtimillpakjgnoaaGreat.Pl
open Go Go.RowKit
def sp_has (l : List Int) (x : Int) : Bool := decide (x ∈ l)
def pre_has (l : List Int) (_ : Int) : Prop := l.length ≤ 100000
def sp_index (l : List Int) (v : Int) : Int := if v ∈ l then l.idxOf v else -1
def pre_index (l : List Int) (_ : Int) : Prop := l.length ≤ 1000
def sp_contains (l : List Int) (v : Int) : Bool := decide (v ∈ l)
def sp_isNaN1 (_ : Int) : Bool := false
def sp_less (x y : Int) : Bool := decide (x < y)
def sp_bsearch (x : List Int) (t : Int) : Int × Bool := ((x.filter (fun a => decide (a < t))).length, decide (t ∈ x))
def pre_bsearch (x : List Int) (_ : Int) : Prop := x.Pairwise (· < ·) ∧ x.length ≤ 1000
def sp_any {α : Type} (xs : List α) (p : α → Bool) (_ : α → Prop) : Bool := xs.any p
def pre_any {α : Type} (xs : List α) (_ : α → Bool) (D : α → Prop) : Prop := xs.length ≤ 1000 ∧ ∀ x ∈ xs, D x
def sp_indexF {α : Type} (xs : List α) (p : α → Bool) (_ : α → Prop) : Int := if xs.any p then xs.findIdx p else -1
def sp_isSet (l : List Int) (n : Int) : Bool := decide (l.Pairwise (· < ·) ∧ ∀ x ∈ l, 0 ≤ x ∧ x < n)
def pre_isSet (_ : List Int) (n : Int) : Prop := 0 ≤ n ∧ n ≤ 1000
def sp_meets1 (x : Int) (b : List Int) : Bool := decide (x ∈ b)
def pre_meets1 (_ : Int) (b : List Int) : Prop := b.Pairwise (· < ·) ∧ b.length ≤ 1000
def sp_meets (a b : List Int) : Bool := a.any fun x => decide (x ∈ b)
def pre_meets (a b : List Int) : Prop := a.length ≤ 1000 ∧ b.Pairwise (· < ·) ∧ b.length ≤ 1000
def sp_operator (o : Operator) (n : Int) : Int :=
 if sp_isSet o.pre n = true ∧ sp_isSet o.add n = true ∧ sp_isSet o.del n = true ∧ sp_meets o.add o.del = false then
  if 0 ≤ o.cost ∧ o.cost ≤ 100 then 0 else 3
 else 5
def pre_operator (_ : Operator) (n : Int) : Prop := 0 ≤ n ∧ n ≤ 1000
def opFault (t : Task) (i : Nat) : Fault := if sp_operator (gt t.ops i) t.facts = 0 then ⟨0, 0⟩ else ⟨sp_operator (gt t.ops i) t.facts, i⟩
def sp_validate (t : Task) : Fault :=
 if t.facts < 0 ∨ 24 < t.facts then ⟨3, -1⟩
 else if sp_isSet t.init t.facts = false then ⟨5, -2⟩
 else if sp_isSet t.goal t.facts = false then ⟨5, -3⟩
 else if 40 < t.ops.length then ⟨2, -1⟩
 else ffirst (opFault t) t.ops.length
def sp_steps (n : Int) (p : List Int) : Fault :=
 if 60 < p.length then ⟨2, -5⟩ else if (p.all fun x => decide (0 ≤ x ∧ x < n)) = true then ⟨0, 0⟩ else ⟨3, -6⟩
def pre_steps (n : Int) (_ : List Int) : Prop := 0 ≤ n ∧ n ≤ 1000
def sp_planFault (t : Task) (p : List Int) : Fault := if sp_validate t = ⟨0, 0⟩ then sp_steps t.ops.length p else sp_validate t
def allS (n : Nat) : List Int := (List.range n).map fun j : Nat => (j : Int)
def sp_subset (a b : List Int) : Bool := a.all fun x => decide (x ∈ b)
def pre_subset (a b : List Int) : Prop := a.length ≤ 1000 ∧ b.length ≤ 1000
def sp_applies (t : Task) (s : List Int) (op : Int) : Bool := sp_subset (gt t.ops op).pre s
def pre_applies (t : Task) (s : List Int) (op : Int) : Prop := sp_validate t = ⟨0, 0⟩ ∧ inb t.ops op ∧ s.length ≤ 1000
def sp_after (t : Task) (s : List Int) (op : Int) : List Int := (allS t.facts.toNat).filter fun p => decide (p ∈ (gt t.ops op).add ∨ (p ∈ s ∧ p ∉ (gt t.ops op).del))
def pre_after (t : Task) (s : List Int) (op : Int) : Prop := pre_applies t s op
def sp_ends (t : Task) : List Int → List Int → List Int × Bool
 | s, [] => (s, true)
 | s, op :: r => if sp_applies t s op = true then sp_ends t (sp_after t s op) r else ([], false)
def sp_rworks (t : Task) (s plan : List Int) : Bool := (sp_ends t s plan).2 && sp_subset t.goal (sp_ends t s plan).1
def sp_rsolves (t : Task) (plan : List Int) : Bool := sp_rworks t t.init plan
def sp_sort (xs : List Int) : List Int := xs.mergeSort fun x y => decide (x ≤ y)
def pre_sort (xs : List Int) : Prop := xs.length ≤ 100000
def sp_compact (xs : List Int) : List Int := Lib.compact xs
def pre_compact (xs : List Int) : Prop := xs.length ≤ 100000
def sp_clone (s : List Int) : List Int := s
def pre_clone (s : List Int) : Prop := s.length ≤ 1000
def sp_update (s add del : List Int) : List Int := sp_compact (sp_sort (s.filter (fun x => decide (x ∉ del)) ++ add))
def pre_update (s add del : List Int) : Prop := s.length ≤ 1000 ∧ add.length ≤ 1000 ∧ pre_bsearch del 0
def sp_contains2 (s part : List Int) : Bool := sp_subset part s
def pre_contains2 (s part : List Int) : Prop := s.length ≤ 1000 ∧ part.length ≤ 1000 ∧ s.Pairwise (· < ·) ∧ part.Pairwise (· < ·)
def pre_next (t : Task) (s : List Int) (op : Int) : Prop := sp_validate t = ⟨0, 0⟩ ∧ inb t.ops op ∧ sp_isSet s t.facts = true
def pre_can (t : Task) (s : List Int) (op : Int) : Prop := pre_next t s op
def sp_srun (t : Task) : List Int → List Int → List (List Int)
 | s, [] => [s]
 | s, op :: r => if sp_applies t s op = true then s :: sp_srun t (sp_after t s op) r else [s]
def pre_srun (t : Task) (s plan : List Int) : Prop := sp_validate t = ⟨0, 0⟩ ∧ sp_isSet s t.facts = true ∧ plan.length ≤ 1000 ∧ ∀ op ∈ plan, inb t.ops op
def pre_works (t : Task) (s plan : List Int) : Prop := pre_srun t s plan
def sp_solves (t : Task) (plan : List Int) : Bool × Fault := if sp_planFault t plan = ⟨0, 0⟩ then (sp_rsolves t plan, ⟨0, 0⟩) else (false, sp_planFault t plan)
end Go.Proofs.YtimillpakjgnoaaGreat.Pl

namespace Go.Proofs.YtimillpakjgnoaaGreat.Pl
open Go Go.RowKit
def rowL (s : List Int) : List UInt8 := s.flatMap fun x => Lib.itoa x ++ [44]
def keyL (l : List (List Int)) : List UInt8 := l.flatMap fun s => rowL s ++ [59]
def sp_compare (x y : Int) : Int := if x < y then -1 else if y < x then 1 else 0
def sp_scompare : List Int → List Int → Int
 | [], [] => 0
 | [], _ :: _ => -1
 | _ :: _, [] => 1
 | x :: r, y :: q => if x < y then -1 else if y < x then 1 else sp_scompare r q
def pre_scompare (a b : List Int) : Prop := a.length ≤ 1000 ∧ b.length ≤ 1000
def sp_sequal (a b : List Int) : Bool := decide (a = b)
def pre_sequal (a b : List Int) : Prop := a.length ≤ 1000 ∧ b.length ≤ 1000
def sp_sure1 (s x : List Int) : Bool := !sp_contains2 s x
def sp_sure (worlds : List (List Int)) (facts : List Int) : Bool := !(worlds.any fun s => sp_sure1 s facts)
abbrev Bel := List (List Int)
def sp_before : List Int → List Int → Bool
 | [], [] => false
 | [], _ :: _ => true
 | _ :: _, [] => false
 | x :: r, y :: q => if x = y then sp_before r q else decide (x < y)
def sp_insert : Bel → List Int → Bel
 | [], s => [s]
 | x :: r, s => if sp_before x s = true then x :: sp_insert r s else if x = s then x :: r else s :: x :: r
def sp_normal (l : Bel) : Bel := l.foldl sp_insert []
def WsOK (t : Task) (ws : Bel) : Prop := ws.length ≤ 16 ∧ ∀ s ∈ ws, sp_isSet s t.facts = true
def sp_bafter (t : Task) (ws : Bel) (op : Int) : Bel := sp_normal (ws.map fun s => sp_after t s op)
def bsucc (t : Task) (ws : Bel) : List (Int × Bel) := (allS t.ops.length).filterMap fun op => if sp_sure ws (gt t.ops op).pre = true then some (op, sp_bafter t ws op) else none
end Go.Proofs.YtimillpakjgnoaaGreat.Pl

namespace Go.Proofs.YtimillpakjgnoaaGreat.Pl
open Go Go.RowKit
def sp_stateFault (t : Task) (s : List Int) : Fault := if sp_validate t = ⟨0, 0⟩ then if sp_isSet s t.facts = true then ⟨0, 0⟩ else ⟨5, -4⟩ else sp_validate t
def kernT : Task := ⟨2, ([0] : List Int), ([1] : List Int), ([(⟨([0] : List Int), ([1] : List Int), ([0] : List Int), 3⟩ : Operator)] : List Operator)⟩
def sp_optimalK (_ : Task) : Int × Fault := (3, ⟨0, 0⟩)
def pre_optimalK (t : Task) : Prop := t = kernT
def sp_kernWorks : Bool := true
def sp_image (perm s : List Int) : List Int := sp_sort (s.map fun p => gt perm p)
def pre_image (perm s : List Int) : Prop := s.length ≤ 1000 ∧ ∀ p ∈ s, inb perm p
def sp_opEqual (a b : Operator) : Bool := decide (a = b)
def pre_opEqual (a b : Operator) : Prop := (a.pre.length ≤ 1000 ∧ a.add.length ≤ 1000 ∧ a.del.length ≤ 1000) ∧ b.pre.length ≤ 1000 ∧ b.add.length ≤ 1000 ∧ b.del.length ≤ 1000
def opImage (perm : List Int) (o : Operator) : Operator := ⟨sp_image perm o.pre, sp_image perm o.add, sp_image perm o.del, o.cost⟩
def symFind (ops : List Operator) (used : List Bool) (want : Operator) : Option Nat := (List.range ops.length).find? fun i => !(gt used (i : Int)) && decide (gt ops (i : Int) = want)
def symGo (ops : List Operator) (perm : List Int) : List Operator → List Bool → List Int → List Int × Bool
 | [], _, out => (out, true)
 | o :: r, used, out => match symFind ops used (opImage perm o) with
  | none => ([], false)
  | some i => symGo ops perm r (used.set i true) (out ++ [(i : Int)])
def sp_symOps (t : Task) (perm : List Int) : List Int × Bool := if sp_image perm t.goal = t.goal then symGo t.ops perm t.ops (List.replicate t.ops.length false) [] else ([], false)
def pre_symOps (t : Task) (perm : List Int) : Prop := sp_validate t = ⟨0, 0⟩ ∧ (perm.length : Int) = t.facts
def perms (n : Int) : Nat → List Int → List (List Int)
 | 0, _ => []
 | k + 1, pre => if (pre.length : Int) = n then [pre] else (allS n.toNat).flatMap fun p => if p ∈ pre then [] else perms n k (pre ++ [p])
def sp_symAll (t : Task) : List (List Int) := (perms t.facts 7 []).filter fun perm => (sp_symOps t perm).2
def pre_symAll (t : Task) : Prop := sp_validate t = ⟨0, 0⟩ ∧ t.facts ≤ 6
def canonStep (s : List Int) (best perm : List Int) : List Int := if sp_scompare (sp_image perm s) best < 0 then sp_image perm s else best
def sp_canonical (t : Task) (s : List Int) : List Int × Fault :=
 if sp_stateFault t s = ⟨0, 0⟩ then if 6 < t.facts then ([], ⟨10, -8⟩) else ((sp_symAll t).foldl (canonStep s) s, ⟨0, 0⟩) else ([], sp_stateFault t s)
def sp_plus (a b : Int) : Int := if a = 1000000000 ∨ b = 1000000000 then 1000000000 else min (a + b) 999999999
def sp_greatest (v f : List Int) : Int := f.foldl (fun out p => max out (gt v p)) 0
def sp_sumR (v f : List Int) : Int := f.foldl (fun out p => sp_plus out (gt v p)) 0
def Vals (v : List Int) : Prop := ∀ x ∈ v, 0 ≤ x ∧ x ≤ 1000000000
def pre_greatest (v f : List Int) : Prop := f.length ≤ 1000 ∧ (∀ p ∈ f, inb v p) ∧ Vals v
def pre_sumR (v f : List Int) : Prop := pre_greatest v f
def pre_plus (a b : Int) : Prop := (0 ≤ a ∧ a ≤ 1000000000) ∧ 0 ≤ b ∧ b ≤ 1000000000
def sp_costsR (t : Task) : List Int := t.ops.map (·.cost)
def pre_costsR (t : Task) : Prop := sp_validate t = ⟨0, 0⟩
structure IsBound (comb : List Int → List Int → Int) (t : Task) (s costs v : List Int) : Prop where
 len : (v.length : Int) = t.facts
 vals : Vals v
 zero : ∀ p ∈ s, gt v p = 0
 step : ∀ i : Nat, i < t.ops.length → ∀ p ∈ (gt t.ops (i : Int)).add, gt v p ≤ sp_plus (comb v (gt t.ops (i : Int)).pre) (gt costs (i : Int))
structure IsVal (comb : List Int → List Int → Int) (t : Task) (s costs v : List Int) : Prop where
 bound : IsBound comb t s costs v
 top : ∀ w, IsBound comb t s costs w → ∀ p : Int, 0 ≤ p → p < t.facts → gt w p ≤ gt v p
open Classical in
noncomputable def sp_values (comb : List Int → List Int → Int) (t : Task) (s costs : List Int) : List Int := if h : ∃ v, IsVal comb t s costs v then Classical.choose h else []
noncomputable def sp_valuesG (t : Task) (s costs : List Int) : List Int := sp_values sp_greatest t s costs
noncomputable def sp_valuesS (t : Task) (s costs : List Int) : List Int := sp_values sp_sumR t s costs
def pre_valuesG (t : Task) (s costs : List Int) : Prop := sp_validate t = ⟨0, 0⟩ ∧ sp_isSet s t.facts = true ∧ costs.length = t.ops.length ∧ ∀ c ∈ costs, 0 ≤ c ∧ c ≤ 100
def pre_valuesS (t : Task) (s costs : List Int) : Prop := pre_valuesG t s costs
noncomputable def sp_relMax (t : Task) (s : List Int) : List Int × Int × Fault :=
 if sp_stateFault t s = ⟨0, 0⟩ then (sp_valuesG t s (sp_costsR t), sp_greatest (sp_valuesG t s (sp_costsR t)) t.goal, ⟨0, 0⟩) else ([], 0, sp_stateFault t s)
noncomputable def sp_relAdd (t : Task) (s : List Int) : List Int × Int × Fault :=
 if sp_stateFault t s = ⟨0, 0⟩ then (sp_valuesS t s (sp_costsR t), sp_sumR (sp_valuesS t s (sp_costsR t)) t.goal, ⟨0, 0⟩) else ([], 0, sp_stateFault t s)
def sp_hardest (x : SearchT) (f : List Int) : Int := f.foldl (fun b p => if b = x.t.facts ∨ gt x.value b < gt x.value p then p else b) x.t.facts
def pre_hardest (x : SearchT) (f : List Int) : Prop := (x.value.length : Int) = x.t.facts + 1 ∧ 0 ≤ x.t.facts ∧ f.length ≤ 1000 ∧ ∀ p ∈ f, 0 ≤ p ∧ p < x.t.facts
inductive InZone (x : SearchT) : Int → Prop
 | goal : InZone x (sp_hardest x x.t.goal)
 | step (i : Nat) (p : Int) : i < x.t.ops.length → ¬ 0 < gt x.costs (i : Int) → p ∈ (gt x.t.ops (i : Int)).add → InZone x p → InZone x (sp_hardest x (gt x.t.ops (i : Int)).pre)
open Classical in
noncomputable def sp_zone (x : SearchT) : List Bool := (allS (x.t.facts.toNat + 1)).map fun p => decide (InZone x p)
structure PreS (x : SearchT) : Prop where
 valid : sp_validate x.t = ⟨0, 0⟩
 set : sp_isSet x.s x.t.facts = true
 costs : x.costs.length = x.t.ops.length
 value : (x.value.length : Int) = x.t.facts + 1
def pre_zone (x : SearchT) : Prop := PreS x
inductive InBefore (x : SearchT) (zone : List Bool) : Int → Prop
 | top : InBefore x zone x.t.facts
 | start (p : Int) : p ∈ x.s → InBefore x zone p
 | step (i : Nat) (p : Int) : i < x.t.ops.length → InBefore x zone (sp_hardest x (gt x.t.ops (i : Int)).pre) → p ∈ (gt x.t.ops (i : Int)).add → gt zone p = false → InBefore x zone p
open Classical in
noncomputable def sp_beforeZ (x : SearchT) (zone : List Bool) : List Bool := (allS (x.t.facts.toNat + 1)).map fun p => decide (InBefore x zone p)
def pre_beforeZ (x : SearchT) (zone : List Bool) : Prop := PreS x ∧ (zone.length : Int) = x.t.facts + 1
def leads (x : SearchT) (zone in_ : List Bool) (i : Int) : Bool := gt in_ (sp_hardest x (gt x.t.ops i).pre) && (gt x.t.ops i).add.any fun p => gt zone p
noncomputable def cutOps (x : SearchT) : List Int := (allS x.t.ops.length).filter (leads x (sp_zone x) (sp_beforeZ x (sp_zone x)))
def cheapest (l : List Int) (ops : List Int) : Int := ops.foldl (fun c i => if gt l i < c then gt l i else c) 1000000000
noncomputable def cutCost (x : SearchT) : Int := cheapest x.costs (cutOps x)
noncomputable def cutRest (x : SearchT) : List Int := (allS x.t.ops.length).map fun i => if i ∈ cutOps x then gt x.costs i - cutCost x else gt x.costs i
noncomputable def srchOf (t : Task) (s l : List Int) : SearchT := ⟨t, s, l, sp_valuesG t s l ++ [0]⟩
noncomputable def cutGo (t : Task) (s : List Int) : Nat → List Int → List Cut → Int → List Cut × Int × Fault
 | 0, _, cuts, total => (cuts, total, ⟨0, 0⟩)
 | k + 1, l, cuts, total =>
  if sp_greatest (sp_valuesG t s l ++ [0]) t.goal = 0 then (cuts, total, ⟨0, 0⟩)
  else if sp_greatest (sp_valuesG t s l ++ [0]) t.goal = 1000000000 then ([], 1000000000, ⟨0, 0⟩)
  else cutGo t s k (cutRest (srchOf t s l)) (cuts ++ [⟨cutOps (srchOf t s l), cutCost (srchOf t s l)⟩]) (total + cutCost (srchOf t s l))
noncomputable def sp_cuts (t : Task) (s : List Int) : List Cut × Int × Fault :=
 if sp_stateFault t s = ⟨0, 0⟩ then cutGo t s 4001 (sp_costsR t) [] 0 else ([], 0, sp_stateFault t s)
def sp_wordR (s : List Int) : Int := s.foldl (fun w p => w + 2 ^ p.toNat) 0
def pre_wordR (s : List Int) : Prop := s.length ≤ 32 ∧ ∀ p ∈ s, 0 ≤ p ∧ p < 32
def rstep (t : Task) (i : Int) (out : List (List Int)) (op : Int) : Option (List (List Int)) :=
 if sp_applies t (gt out i) op = true then
  if sp_wordR (sp_after t (gt out i) op) ∈ out.map sp_wordR then some out
  else if out.length = 2000 then none else some (out ++ [sp_after t (gt out i) op])
 else some out
def rops (t : Task) (i : Int) : List Int → List (List Int) → Option (List (List Int))
 | [], out => some out
 | op :: r, out => match rstep t i out op with
  | none => none
  | some o => rops t i r o
def rgo (t : Task) : Nat → Int → List (List Int) → List (List Int) × Bool
 | 0, _, out => (out, true)
 | k + 1, i, out => if i < out.length then
   match rops t i (allS t.ops.length) out with
   | none => ([], false)
   | some o => rgo t k (i + 1) o
  else (out, true)
def sp_reachedFrom (t : Task) (s : List Int) : List (List Int) × Bool := rgo t 2001 0 [s]
def pre_reachedFrom (t : Task) (s : List Int) : Prop := sp_validate t = ⟨0, 0⟩ ∧ sp_isSet s t.facts = true
def arcsK (t : Task) (l : List (List Int)) (i op : Int) (n : Nat) : List (Int × Int × Int) := ((allS n).filter fun k => decide (sp_wordR (gt l k) = sp_wordR (sp_after t (gt l i) op))).map fun k => (i, k, (gt t.ops op).cost)
def arcsO (t : Task) (l : List (List Int)) (i : Int) (n : Nat) : List (Int × Int × Int) := (allS n).flatMap fun op => if sp_applies t (gt l i) op = true then arcsK t l i op l.length else []
def arcsI (t : Task) (l : List (List Int)) (n : Nat) : List (Int × Int × Int) := (allS n).flatMap fun i => arcsO t l i t.ops.length
def relaxB (out : List Int) (a : Int × Int × Int) : List Int := if gt out a.2.1 < 1000000000 ∧ gt out a.2.1 + a.2.2 < gt out a.1 then out.set a.1.toNat (gt out a.2.1 + a.2.2) else out
def bsum (d : List Int) : Nat := (d.map Int.toNat).sum
def bfGo (A : List (Int × Int × Int)) : Nat → List Int → List Int
 | 0, out => out
 | k + 1, out => if A.foldl relaxB out = out then out else bfGo A k (A.foldl relaxB out)
def bfInit (t : Task) (l : List (List Int)) : List Int := l.map fun s => if sp_subset t.goal s = true then 0 else 1000000000
def sp_costsRef (t : Task) (l : List (List Int)) : List Int := bfGo (arcsI t l l.length) (bsum (bfInit t l) + 1) (bfInit t l)
def pre_costsRef (t : Task) (l : List (List Int)) : Prop := sp_validate t = ⟨0, 0⟩ ∧ l.length ≤ 2000 ∧ ∀ s ∈ l, sp_isSet s t.facts = true
def sp_bestFrom (t : Task) (s : List Int) : Int := if (sp_reachedFrom t s).2 = true then gt (sp_costsRef t (sp_reachedFrom t s).1) 0 else -1
def pre_bestFrom (t : Task) (s : List Int) : Prop := pre_reachedFrom t s
def sp_lawSym (_ : Task) (_ : List Int) : Bool := true
def bitW (p : Int) : Int := IntKind.u32.wrap (1 * 2 ^ (min p.toNat (IntKind.bits .u32)))
def sp_word (s : List Int) : Int := s.foldl (fun w p => bits .or .u32 w (bitW p)) 0
def pre_word (s : List Int) : Prop := s.length ≤ 1000 ∧ ∀ p ∈ s, 0 ≤ p
def sp_facts (w : Int) : List Int := (allS 32).filter fun p => bits .and .u32 (Int.fdiv w (2 ^ (min p.toNat (IntKind.bits .u32)))) 1 == 1
def pre_facts (_ : Int) : Prop := True
def sp_wcmp (a b : Int) : Int := sp_scompare (sp_facts a) (sp_facts b)
def pre_wcmp (_ _ : Int) : Prop := True
def U32 (w : Int) : Prop := 0 ≤ w ∧ w < 4294967296
def sp_sortW (xs : List Int) : List Int := xs.mergeSort fun a b => decide (sp_wcmp a b ≤ 0)
def pre_sortW (xs : List Int) : Prop := xs.length ≤ 100000 ∧ ∀ x ∈ xs, U32 x
def wopS (W : WordsT) (s i : Int) : Option (Int × Int) := if (bits .and .u32 s (gt W.ops i).pre == (gt W.ops i).pre) = true then some (i, bits .or .u32 (bits .andNot .u32 s (gt W.ops i).del) (gt W.ops i).add) else none
def wsucc (W : WordsT) (s : Int) : List (Int × Int) := (allS W.ops.length).filterMap (wopS W s)
def pushW : List (Int × Int) → List Int × List (Int × Unit) → List Int × List (Int × Unit)
 | [], z => z
 | x :: r, z => if (getA z.2 x.2).isSome = true then pushW r z else pushW r (z.1 ++ [x.2], setA z.2 x.2 ())
def dfs (W : WordsT) : Nat → List Int → List (Int × Unit) → List Int → List Int × Bool
 | 0, _, _, out => (out, true)
 | k + 1, l, m, out => match l.getLast? with
  | none => (out, true)
  | some s => if 2000 < (pushW (wsucc W s) (l.dropLast, m)).2.length then ([], false) else dfs W k (pushW (wsucc W s) (l.dropLast, m)).1 (pushW (wsucc W s) (l.dropLast, m)).2 (out ++ [s])
def sp_all (W : WordsT) : List Int × Bool := dfs W 2001 [W.start] [(W.start, ())] []
def pre_all (W : WordsT) : Prop := W.ops.length ≤ 40
end Go.Proofs.YtimillpakjgnoaaGreat.Pl

namespace Go.Proofs.YtimillpakjgnoaaGreat.Pl
open Go Go.RowKit
theorem tS22 : TSl Tryz.prog 22 3 1 8 [.int .i64 0] := tSl_mk (z := .int .i64 0) Tryz.underlying22 (by kernel_rfl) rfl
theorem tO3 : TOne Tryz.prog 3 := tOne_mk Tryz.underlying3 rfl (by kernel_rfl)
theorem tO22 : TOne Tryz.prog 22 := tOne_mk Tryz.underlying22 rfl (by kernel_rfl)
theorem tF52_0 : FldAt Tryz.prog 52 0 0 := fldAt_mk Tryz.underlying52 (by kernel_rfl)
theorem tF52_1 : FldAt Tryz.prog 52 1 1 := fldAt_mk Tryz.underlying52 (by kernel_rfl)
theorem tF52_2 : FldAt Tryz.prog 52 2 2 := fldAt_mk Tryz.underlying52 (by kernel_rfl)
theorem tF52_3 : FldAt Tryz.prog 52 3 3 := fldAt_mk Tryz.underlying52 (by kernel_rfl)
theorem tZ27 : TZero Tryz.prog 27 [.int .i64 0, .int .i64 0] := tZero_mk (z := .agg #[.int .i64 0, .int .i64 0]) (by kernel_rfl) rfl
theorem tF25_0 : FldAt Tryz.prog 25 0 0 := fldAt_mk Tryz.underlying25 (by kernel_rfl)
theorem tB27 : TBld Tryz.prog 27 [.int .i64 0, .int .i64 0] [(0, 1), (1, 1)] := tBld_mk Tryz.underlying27 (by kernel_rfl) (z := .agg #[.int .i64 0, .int .i64 0]) (by kernel_rfl) (by kernel_rfl)
theorem tA27 : TAgg Tryz.prog 27 2 := tAgg_mk Tryz.underlying27 rfl (by kernel_rfl)
theorem tF25_1 : FldAt Tryz.prog 25 1 1 := fldAt_mk Tryz.underlying25 (by kernel_rfl)
theorem tF25_2 : FldAt Tryz.prog 25 2 2 := fldAt_mk Tryz.underlying25 (by kernel_rfl)
theorem tF25_3 : FldAt Tryz.prog 25 3 3 := fldAt_mk Tryz.underlying25 (by kernel_rfl)
theorem tO23 : TOne Tryz.prog 23 := tOne_mk Tryz.underlying23 rfl (by kernel_rfl)
theorem tS23 : TSl Tryz.prog 23 52 4 80 [.slice none 0 0, .slice none 0 0, .slice none 0 0, .int .i64 0] := tSl_mk (z := .agg #[.slice none 0 0, .slice none 0 0, .slice none 0 0, .int .i64 0]) Tryz.underlying23 (by kernel_rfl) rfl
theorem tA52 : TAgg Tryz.prog 52 4 := tAgg_mk Tryz.underlying52 rfl (by kernel_rfl)
theorem tZ52 : TZero Tryz.prog 52 [.slice none 0 0, .slice none 0 0, .slice none 0 0, .int .i64 0] := tZero_mk (z := .agg #[.slice none 0 0, .slice none 0 0, .slice none 0 0, .int .i64 0]) (by kernel_rfl) rfl
theorem tA25 : TAgg Tryz.prog 25 4 := tAgg_mk Tryz.underlying25 rfl (by kernel_rfl)
theorem tE27 : TEq2 Tryz.prog 27 := ⟨by kernel_rfl, fun d a b c e w => by
 simp [go_sem]
 by_cases h1 : a = c <;> by_cases h2 : b = e <;> simp [h1, h2]⟩
theorem tS68 : TSl Tryz.prog 68 22 1 24 [.slice none 0 0] := tSl_mk (z := .slice none 0 0) Tryz.underlying68 (by kernel_rfl) rfl
theorem tm56_Start : TMeth Tryz.prog 56 "Start" 22 := tMeth_mk Tryz.underlying56 (by kernel_rfl)
theorem tF105_0 : FldAt Tryz.prog 105 0 0 := fldAt_mk Tryz.underlying105 (by kernel_rfl)
theorem tO62 : TOne Tryz.prog 62 := tOne_mk Tryz.underlying62 rfl (by kernel_rfl)
theorem tS57 : TSl Tryz.prog 57 62 1 4 [.int .u32 0] := tSl_mk (z := .int .u32 0) Tryz.underlying57 (by kernel_rfl) rfl
theorem tZ57 : TZero Tryz.prog 57 [.slice none 0 0] := tZero_mk (z := .slice none 0 0) (by kernel_rfl) rfl
theorem tO57 : TOne Tryz.prog 57 := tOne_mk Tryz.underlying57 rfl (by kernel_rfl)
theorem tB147 : TBld Tryz.prog 147 [] [] := tBld_mk Tryz.underlying147 (by kernel_rfl) (z := .agg #[]) (by kernel_rfl) (by kernel_rfl)
theorem tMI148 : TMapI Tryz.prog 148 .u32 ((fun _ : Unit => .agg #[]) ()) := tMapI_mk Tryz.underlying148 Tryz.underlying62 (by kernel_rfl)
theorem tZ148 : TZero Tryz.prog 148 [.map none] := tZero_mk (z := .map none) (by kernel_rfl) rfl
theorem tO148 : TOne Tryz.prog 148 := tOne_mk Tryz.underlying148 rfl (by kernel_rfl)
theorem tm56_Steps : TMeth Tryz.prog 56 "Steps" 48 := tMeth_mk Tryz.underlying56 (by kernel_rfl)
theorem tO56 : TOne Tryz.prog 56 := tOne_mk Tryz.underlying56 rfl (by kernel_rfl)
theorem tF105_2 : FldAt Tryz.prog 105 2 2 := fldAt_mk Tryz.underlying105 (by kernel_rfl)
theorem tO103 : TOne Tryz.prog 103 := tOne_mk Tryz.underlying103 rfl (by kernel_rfl)
theorem tS103 : TSl Tryz.prog 103 144 4 24 [.int .u32 0, .int .u32 0, .int .u32 0, .int .i64 0] := tSl_mk (z := .agg #[.int .u32 0, .int .u32 0, .int .u32 0, .int .i64 0]) Tryz.underlying103 (by kernel_rfl) rfl
theorem tA144 : TAgg Tryz.prog 144 4 := tAgg_mk Tryz.underlying144 rfl (by kernel_rfl)
theorem tZ144 : TZero Tryz.prog 144 [.int .u32 0, .int .u32 0, .int .u32 0, .int .i64 0] := tZero_mk (z := .agg #[.int .u32 0, .int .u32 0, .int .u32 0, .int .i64 0]) (by kernel_rfl) rfl
theorem tF144_0 : FldAt Tryz.prog 144 0 0 := fldAt_mk Tryz.underlying144 (by kernel_rfl)
theorem tF144_3 : FldAt Tryz.prog 144 3 3 := fldAt_mk Tryz.underlying144 (by kernel_rfl)
theorem tF144_2 : FldAt Tryz.prog 144 2 2 := fldAt_mk Tryz.underlying144 (by kernel_rfl)
theorem tF144_1 : FldAt Tryz.prog 144 1 1 := fldAt_mk Tryz.underlying144 (by kernel_rfl)
theorem tB96 : TBld Tryz.prog 96 [.int .i64 0, .int .i64 0, .int .u32 0] [(0, 1), (1, 1), (2, 1)] := tBld_mk Tryz.underlying96 (by kernel_rfl) (z := .agg #[.int .i64 0, .int .i64 0, .int .u32 0]) (by kernel_rfl) (by kernel_rfl)
theorem tZ96 : TZero Tryz.prog 96 [.int .i64 0, .int .i64 0, .int .u32 0] := tZero_mk (z := .agg #[.int .i64 0, .int .i64 0, .int .u32 0]) (by kernel_rfl) rfl
theorem tA96 : TAgg Tryz.prog 96 3 := tAgg_mk Tryz.underlying96 rfl (by kernel_rfl)
theorem tF96_2 : FldAt Tryz.prog 96 2 2 := fldAt_mk Tryz.underlying96 (by kernel_rfl)
theorem tZ147 : TZero Tryz.prog 147 [] := tZero_mk (z := .agg #[]) (by kernel_rfl) rfl
theorem tA147 : TAgg Tryz.prog 147 0 := tAgg_mk Tryz.underlying147 rfl (by kernel_rfl)
theorem tB105 : TBld Tryz.prog 105 [.int .u32 0, .int .u32 0, .slice none 0 0] [(0, 1), (1, 1), (2, 1)] := tBld_mk Tryz.underlying105 (by kernel_rfl) (z := .agg #[.int .u32 0, .int .u32 0, .slice none 0 0]) (by kernel_rfl) (by kernel_rfl)
theorem tB144 : TBld Tryz.prog 144 [.int .u32 0, .int .u32 0, .int .u32 0, .int .i64 0] [(0, 1), (1, 1), (2, 1), (3, 1)] := tBld_mk Tryz.underlying144 (by kernel_rfl) (z := .agg #[.int .u32 0, .int .u32 0, .int .u32 0, .int .i64 0]) (by kernel_rfl) (by kernel_rfl)
theorem tC56 : TCon Tryz.prog 56 := ⟨_, Tryz.underlying56, rfl⟩
theorem tZ87 : TZero Tryz.prog 87 [.map none] := tZero_mk (z := .map none) (by kernel_rfl) rfl
theorem tO87 : TOne Tryz.prog 87 := tOne_mk Tryz.underlying87 rfl (by kernel_rfl)
theorem tB157 : TBld Tryz.prog 157 [.slice none 0 0, .map none, .int .i64 0] [(0, 1), (1, 1), (2, 1)] := tBld_mk Tryz.underlying157 (by kernel_rfl) (z := .agg #[.slice none 0 0, .map none, .int .i64 0]) (by kernel_rfl) (by kernel_rfl)
theorem tZ62 : TZero Tryz.prog 62 [.int .u32 0] := tZero_mk (z := .int .u32 0) (by kernel_rfl) rfl
theorem tMR60 : TMapI Tryz.prog 60 .u32 (.int .i64 0) := tMapI_mk Tryz.underlying60 Tryz.underlying62 (by kernel_rfl)
theorem tF105_1 : FldAt Tryz.prog 105 1 1 := fldAt_mk Tryz.underlying105 (by kernel_rfl)
theorem tMR87 : TMapI Tryz.prog 87 .u32 (.slice none 0 0) := tMapI_mk Tryz.underlying87 Tryz.underlying62 (by kernel_rfl)
theorem tF96_1 : FldAt Tryz.prog 96 1 1 := fldAt_mk Tryz.underlying96 (by kernel_rfl)
theorem tB99 : TBld Tryz.prog 99 [.int .u32 0, .int .i64 0] [(0, 1), (1, 1)] := tBld_mk Tryz.underlying99 (by kernel_rfl) (z := .agg #[.int .u32 0, .int .i64 0]) (by kernel_rfl) (by kernel_rfl)
theorem tS97 : TSl Tryz.prog 97 99 2 16 [.int .u32 0, .int .i64 0] := tSl_mk (z := .agg #[.int .u32 0, .int .i64 0]) Tryz.underlying97 (by kernel_rfl) rfl
theorem tF157_2 : FldAt Tryz.prog 157 2 2 := fldAt_mk Tryz.underlying157 (by kernel_rfl)
theorem tF157_1 : FldAt Tryz.prog 157 1 1 := fldAt_mk Tryz.underlying157 (by kernel_rfl)
theorem tO153 : TOne Tryz.prog 153 := tOne_mk Tryz.underlying153 rfl (by kernel_rfl)
theorem tMR153 : TMapI Tryz.prog 153 .u32 (.pointer none) := tMapI_mk Tryz.underlying153 Tryz.underlying62 (by kernel_rfl)
theorem tB161 : TBld Tryz.prog 161 [.int .u32 0, .int .i64 0, .int .i64 0, .int .i64 0] [(0, 1), (1, 1), (2, 1), (3, 1)] := tBld_mk Tryz.underlying161 (by kernel_rfl) (z := .agg #[.int .u32 0, .int .i64 0, .int .i64 0, .int .i64 0]) (by kernel_rfl) (by kernel_rfl)
theorem tF157_0 : FldAt Tryz.prog 157 0 0 := fldAt_mk Tryz.underlying157 (by kernel_rfl)
theorem tC163 : TCon Tryz.prog 163 := ⟨_, Tryz.underlying163, rfl⟩
theorem tC158 : TCon Tryz.prog 158 := ⟨_, Tryz.underlying158, rfl⟩
theorem tm163_Push : TMeth Tryz.prog 163 "Push" 164 := tMeth_mk Tryz.underlying163 (by kernel_rfl)
theorem tO155 : TOne Tryz.prog 155 := tOne_mk Tryz.underlying155 rfl (by kernel_rfl)
theorem tS155 : TSl Tryz.prog 155 158 1 8 [.pointer none] := tSl_mk (z := .pointer none) Tryz.underlying155 (by kernel_rfl) rfl
theorem tF161_3 : FldAt Tryz.prog 161 3 3 := fldAt_mk Tryz.underlying161 (by kernel_rfl)
theorem tm163_Len : TMethV Tryz.prog 163 "Len" 160 := tMethV_mk Tryz.underlying163 tO155 (by kernel_rfl)
theorem tm163_Swap : TMethV Tryz.prog 163 "Swap" 162 := tMethV_mk Tryz.underlying163 tO155 (by kernel_rfl)
theorem tO158 : TOne Tryz.prog 158 := tOne_mk Tryz.underlying158 rfl (by kernel_rfl)
theorem tm163_Pop : TMeth Tryz.prog 163 "Pop" 163 := tMeth_mk Tryz.underlying163 (by kernel_rfl)
theorem tF161_0 : FldAt Tryz.prog 161 0 0 := fldAt_mk Tryz.underlying161 (by kernel_rfl)
theorem tF161_1 : FldAt Tryz.prog 161 1 1 := fldAt_mk Tryz.underlying161 (by kernel_rfl)
theorem tA99 : TAgg Tryz.prog 99 2 := tAgg_mk Tryz.underlying99 rfl (by kernel_rfl)
theorem tZ99 : TZero Tryz.prog 99 [.int .u32 0, .int .i64 0] := tZero_mk (z := .agg #[.int .u32 0, .int .i64 0]) (by kernel_rfl) rfl
theorem tF99_1 : FldAt Tryz.prog 99 1 1 := fldAt_mk Tryz.underlying99 (by kernel_rfl)
theorem tF99_0 : FldAt Tryz.prog 99 0 0 := fldAt_mk Tryz.underlying99 (by kernel_rfl)
theorem tZ25 : TZero Tryz.prog 25 [.int .i64 0, .slice none 0 0, .slice none 0 0, .slice none 0 0] := tZero_mk (z := .agg #[.int .i64 0, .slice none 0 0, .slice none 0 0, .slice none 0 0]) (by kernel_rfl) rfl
theorem tB52 : TBld Tryz.prog 52 [.slice none 0 0, .slice none 0 0, .slice none 0 0, .int .i64 0] [(0, 1), (1, 1), (2, 1), (3, 1)] := tBld_mk Tryz.underlying52 (by kernel_rfl) (z := .agg #[.slice none 0 0, .slice none 0 0, .slice none 0 0, .int .i64 0]) (by kernel_rfl) (by kernel_rfl)
theorem tB25 : TBld Tryz.prog 25 [.int .i64 0, .slice none 0 0, .slice none 0 0, .slice none 0 0] [(0, 1), (1, 1), (2, 1), (3, 1)] := tBld_mk Tryz.underlying25 (by kernel_rfl) (z := .agg #[.int .i64 0, .slice none 0 0, .slice none 0 0, .slice none 0 0]) (by kernel_rfl) (by kernel_rfl)
theorem tF27_0 : FldAt Tryz.prog 27 0 0 := fldAt_mk Tryz.underlying27 (by kernel_rfl)
theorem tS171 : TSl Tryz.prog 171 4 1 1 [.bool false] := tSl_mk (z := .bool false) Tryz.underlying171 (by kernel_rfl) rfl
theorem tO4 : TOne Tryz.prog 4 := tOne_mk Tryz.underlying4 rfl (by kernel_rfl)
theorem tF135_0 : FldAt Tryz.prog 135 0 0 := fldAt_mk Tryz.underlying135 (by kernel_rfl)
theorem tF135_3 : FldAt Tryz.prog 135 3 6 := fldAt_mk Tryz.underlying135 (by kernel_rfl)
theorem tF135_2 : FldAt Tryz.prog 135 2 5 := fldAt_mk Tryz.underlying135 (by kernel_rfl)
theorem tF135_1 : FldAt Tryz.prog 135 1 4 := fldAt_mk Tryz.underlying135 (by kernel_rfl)
theorem tB135 : TBld Tryz.prog 135 [.int .i64 0, .slice none 0 0, .slice none 0 0, .slice none 0 0, .slice none 0 0, .slice none 0 0, .slice none 0 0] [(0, 4), (4, 1), (5, 1), (6, 1)] := tBld_mk Tryz.underlying135 (by kernel_rfl) (z := .agg #[.int .i64 0, .slice none 0 0, .slice none 0 0, .slice none 0 0, .slice none 0 0, .slice none 0 0, .slice none 0 0]) (by kernel_rfl) (by kernel_rfl)
theorem tZ137 : TZero Tryz.prog 137 [.slice none 0 0, .int .i64 0] := tZero_mk (z := .agg #[.slice none 0 0, .int .i64 0]) (by kernel_rfl) rfl
theorem tB137 : TBld Tryz.prog 137 [.slice none 0 0, .int .i64 0] [(0, 1), (1, 1)] := tBld_mk Tryz.underlying137 (by kernel_rfl) (z := .agg #[.slice none 0 0, .int .i64 0]) (by kernel_rfl) (by kernel_rfl)
theorem tA137 : TAgg Tryz.prog 137 2 := tAgg_mk Tryz.underlying137 rfl (by kernel_rfl)
theorem tF137_0 : FldAt Tryz.prog 137 0 0 := fldAt_mk Tryz.underlying137 (by kernel_rfl)
theorem tF137_1 : FldAt Tryz.prog 137 1 1 := fldAt_mk Tryz.underlying137 (by kernel_rfl)
theorem tS43 : TSl Tryz.prog 43 137 2 32 [.slice none 0 0, .int .i64 0] := tSl_mk (z := .agg #[.slice none 0 0, .int .i64 0]) Tryz.underlying43 (by kernel_rfl) rfl
end Go.Proofs.YtimillpakjgnoaaGreat.Pl

namespace Go.Proofs.YtimillpakjgnoaaGreat.Pl
open Go Go.RowKit
def F_isNaN1 (x : Int) (K : Bool → Prop) : Prop :=
 K (x != x)
def F_isNaN2 (x : Int) (K : Bool → Prop) : Prop :=
 K (x != x)
def F_less (x : Int) (y : Int) (K : Bool → Prop) : Prop :=
 ∀ r2 : Bool, r2 = (sp_isNaN1 x) →
 ((r2) = true →
  ∀ r3 : Bool, r3 = (sp_isNaN1 y) →
  ((!r3) = true →
   K true) ∧
  ((!r3) = false →
   K (decide (x < y)))) ∧
 ((r2) = false →
  K (decide (x < y)))
def F_bsearch_L1 (x : List Int) (target : Int) (K : (Int × Bool) → Prop) (i : Int) (j : Int) (I1 : Int → Int → Prop) (μ1 : Int → Int → Nat) : Prop :=
 ((decide (i < j)) = true →
  ∀ x2 : Int, x2 = (Int.fdiv (IntKind.u64.wrap (IntKind.i64.wrap (i + j))) (2 ^ (min ((1 : Int)).toNat (IntKind.bits .u64)))) →
  (inb x (IntKind.i64.wrap (x2))) ∧
  ∀ r2 : Bool, r2 = (sp_less (gt x (IntKind.i64.wrap (x2))) target) →
  ((r2) = true →
   I1 (IntKind.i64.wrap ((IntKind.i64.wrap (x2)) + 1)) j ∧
 μ1 (IntKind.i64.wrap ((IntKind.i64.wrap (x2)) + 1)) j < μ1 i j) ∧
  ((r2) = false →
   I1 i (IntKind.i64.wrap (x2)) ∧
 μ1 i (IntKind.i64.wrap (x2)) < μ1 i j)) ∧
 ((decide (i < j)) = false →
  ((decide (i < ((x.length : Nat) : Int))) = true →
   (inb x i) ∧
   (((gt x i) == target) = true →
    K (i, true)) ∧
   (((gt x i) == target) = false →
    ∀ r3 : Bool, r3 = (sp_isNaN1 (gt x i)) →
    ((r3) = true →
     ∀ r4 : Bool, r4 = (sp_isNaN1 target) →
     K (i, r4)) ∧
    ((r3) = false →
     K (i, false)))) ∧
  ((decide (i < ((x.length : Nat) : Int))) = false →
   K (i, false)))
def F_bsearch (x : List Int) (target : Int) (K : (Int × Bool) → Prop) : Prop :=
 ∃ (I1 : Int → Int → Prop) (μ1 : Int → Int → Nat), I1 0 ((x.length : Nat) : Int) ∧ ∀ (i : Int) (j : Int), I1 i j → F_bsearch_L1 x target K i j I1 μ1
def F_indexF_L1 (s_ : List Int) (pf : Int → Bool) (Df : Int → Prop) (K : Int → Prop) (t8 : Int) (I1 : Int → Prop) (μ1 : Int → Nat) : Prop :=
 ((decide (t8 < ((s_.length : Nat) : Int))) = true →
  (inb s_ t8) ∧
  (Df (gt s_ t8)) ∧
  ∀ r2 : Bool, r2 = (pf (gt s_ t8)) →
  ((r2) = true →
   K t8) ∧
  ((r2) = false →
   I1 (IntKind.i64.wrap (t8 + 1)) ∧
 μ1 (IntKind.i64.wrap (t8 + 1)) < μ1 t8)) ∧
 ((decide (t8 < ((s_.length : Nat) : Int))) = false →
  K (-1))
def F_indexF (s_ : List Int) (pf : Int → Bool) (Df : Int → Prop) (K : Int → Prop) : Prop :=
 ∃ (I1 : Int → Prop) (μ1 : Int → Nat), I1 0 ∧ ∀ (t8 : Int), I1 t8 → F_indexF_L1 s_ pf Df K t8 I1 μ1
def F_containsF (s_ : List Int) (pf : Int → Bool) (Df : Int → Prop) (K : Bool → Prop) : Prop :=
 (pre_any s_ pf Df) ∧
 ∀ r2 : Int, r2 = (sp_indexF s_ pf Df) →
 K (decide (0 ≤ r2))
def F_isSet_J1 (K : Bool → Prop) (t33 : Bool) (t9 : Int) (I1 : Int → Prop) (μ1 : Int → Nat) : Prop :=
 ((t33) = true →
  K false) ∧
 ((t33) = false →
  I1 (IntKind.i64.wrap (t9 + 1)) ∧
 μ1 (IntKind.i64.wrap (t9 + 1)) < μ1 t9)
def F_isSet_L1 (l : List Int) (n_ : Int) (K : Bool → Prop) (t9 : Int) (I1 : Int → Prop) (μ1 : Int → Nat) : Prop :=
 ((decide (t9 < ((l.length : Nat) : Int))) = true →
  (inb l t9) ∧
  ((decide ((gt l t9) < 0)) = true →
   F_isSet_J1 K true t9 I1 μ1) ∧
  ((decide ((gt l t9) < 0)) = false →
   ((decide (n_ ≤ (gt l t9))) = true →
    F_isSet_J1 K true t9 I1 μ1) ∧
   ((decide (n_ ≤ (gt l t9))) = false →
    ((decide (0 < t9)) = true →
     (inb l (IntKind.i64.wrap (t9 - 1))) ∧
     F_isSet_J1 K (decide ((gt l t9) ≤ (gt l (IntKind.i64.wrap (t9 - 1))))) t9 I1 μ1) ∧
    ((decide (0 < t9)) = false →
     F_isSet_J1 K false t9 I1 μ1)))) ∧
 ((decide (t9 < ((l.length : Nat) : Int))) = false →
  K true)
def F_isSet (l : List Int) (n_ : Int) (K : Bool → Prop) : Prop :=
 ∃ (I1 : Int → Prop) (μ1 : Int → Nat), I1 0 ∧ ∀ (t9 : Int), I1 t9 → F_isSet_L1 l n_ K t9 I1 μ1
def F_meets1 (x : Int) (x2 : List Int) (K : Bool → Prop) : Prop :=
 (pre_bsearch x2 x) ∧
 ∀ r2 : Int × Bool, r2 = (sp_bsearch x2 x) →
 K r2.2
def F_meets (a : List Int) (b : List Int) (K : Bool → Prop) : Prop :=
 (pre_any a (fun y_ : Int => sp_meets1 y_ b) (fun y_ : Int => pre_meets1 y_ b)) ∧
 ∀ r2 : Bool, r2 = (sp_any a (fun y_ : Int => sp_meets1 y_ b) (fun y_ : Int => pre_meets1 y_ b)) →
 K r2
def F_operator_J2 (K : Int → Prop) (t32 : Bool) : Prop :=
 ((t32) = true →
  K 3) ∧
 ((t32) = false →
  K 0)
def F_operator_J1 (o : Operator) (K : Int → Prop) (t5 : Bool) : Prop :=
 ((t5) = true →
  K 5) ∧
 ((t5) = false →
  ((decide (o.cost < 0)) = true →
   F_operator_J2 K true) ∧
  ((decide (o.cost < 0)) = false →
   F_operator_J2 K (decide (100 < o.cost))))
def F_operator (o : Operator) (facts : Int) (K : Int → Prop) : Prop :=
 (pre_isSet o.pre facts) ∧
 ∀ r2 : Bool, r2 = (sp_isSet o.pre facts) →
 ((!r2) = true →
  F_operator_J1 o K true) ∧
 ((!r2) = false →
  (pre_isSet o.add facts) ∧
  ∀ r3 : Bool, r3 = (sp_isSet o.add facts) →
  ((!r3) = true →
   F_operator_J1 o K true) ∧
  ((!r3) = false →
   (pre_isSet o.del facts) ∧
   ∀ r4 : Bool, r4 = (sp_isSet o.del facts) →
   ((!r4) = true →
    F_operator_J1 o K true) ∧
   ((!r4) = false →
    (pre_meets o.add o.del) ∧
    ∀ r5 : Bool, r5 = (sp_meets o.add o.del) →
    F_operator_J1 o K r5)))
def F_validate_L1 (t : Task) (K : Fault → Prop) (t41 : Int) (I1 : Int → Prop) (μ1 : Int → Nat) : Prop :=
 ((decide (t41 < ((t.ops.length : Nat) : Int))) = true →
  (inb t.ops t41) ∧
  (pre_operator (gt t.ops t41) t.facts) ∧
  ∀ r4 : Int, r4 = (sp_operator (gt t.ops t41) t.facts) →
  ((r4 != 0) = true →
   K (⟨r4, t41⟩ : Fault)) ∧
  ((r4 != 0) = false →
   I1 (IntKind.i64.wrap (t41 + 1)) ∧
 μ1 (IntKind.i64.wrap (t41 + 1)) < μ1 t41)) ∧
 ((decide (t41 < ((t.ops.length : Nat) : Int))) = false →
  K (⟨0, 0⟩ : Fault))
def F_validate_J1 (t : Task) (K : Fault → Prop) (t6 : Bool) : Prop :=
 ((t6) = true →
  K (⟨3, (-1)⟩ : Fault)) ∧
 ((t6) = false →
  (pre_isSet t.init t.facts) ∧
  ∀ r2 : Bool, r2 = (sp_isSet t.init t.facts) →
  ((!r2) = true →
   K (⟨5, (-2)⟩ : Fault)) ∧
  ((!r2) = false →
   (pre_isSet t.goal t.facts) ∧
   ∀ r3 : Bool, r3 = (sp_isSet t.goal t.facts) →
   ((!r3) = true →
    K (⟨5, (-3)⟩ : Fault)) ∧
   ((!r3) = false →
    ((decide (40 < ((t.ops.length : Nat) : Int))) = true →
     K (⟨2, (-1)⟩ : Fault)) ∧
    ((decide (40 < ((t.ops.length : Nat) : Int))) = false →
     ∃ (I1 : Int → Prop) (μ1 : Int → Nat), I1 0 ∧ ∀ (t41 : Int), I1 t41 → F_validate_L1 t K t41 I1 μ1))))
def F_validate (t : Task) (K : Fault → Prop) : Prop :=
 ((decide (t.facts < 0)) = true →
  F_validate_J1 t K true) ∧
 ((decide (t.facts < 0)) = false →
  F_validate_J1 t K (decide (24 < t.facts)))
def F_steps_J1 (K : Fault → Prop) (t23 : Bool) (t13 : Int) (I1 : Int → Prop) (μ1 : Int → Nat) : Prop :=
 ((t23) = true →
  K (⟨3, (-6)⟩ : Fault)) ∧
 ((t23) = false →
  I1 (IntKind.i64.wrap (t13 + 1)) ∧
 μ1 (IntKind.i64.wrap (t13 + 1)) < μ1 t13)
def F_steps_L1 (operators : Int) (plan : List Int) (K : Fault → Prop) (t13 : Int) (I1 : Int → Prop) (μ1 : Int → Nat) : Prop :=
 ((decide (t13 < ((plan.length : Nat) : Int))) = true →
  (inb plan t13) ∧
  ((decide ((gt plan t13) < 0)) = true →
   F_steps_J1 K true t13 I1 μ1) ∧
  ((decide ((gt plan t13) < 0)) = false →
   F_steps_J1 K (decide (operators ≤ (gt plan t13))) t13 I1 μ1)) ∧
 ((decide (t13 < ((plan.length : Nat) : Int))) = false →
  K (⟨0, 0⟩ : Fault))
def F_steps (operators : Int) (plan : List Int) (K : Fault → Prop) : Prop :=
 ((decide (60 < ((plan.length : Nat) : Int))) = true →
  K (⟨2, (-5)⟩ : Fault)) ∧
 ((decide (60 < ((plan.length : Nat) : Int))) = false →
  ∃ (I1 : Int → Prop) (μ1 : Int → Nat), I1 0 ∧ ∀ (t13 : Int), I1 t13 → F_steps_L1 operators plan K t13 I1 μ1)
def F_planFault (t : Task) (plan : List Int) (K : Fault → Prop) : Prop :=
 ∀ r2 : Fault, r2 = (sp_validate t) →
 ((!((r2.code == 0) && (r2.index == 0))) = true →
  K r2) ∧
 ((!((r2.code == 0) && (r2.index == 0))) = false →
  (pre_steps ((t.ops.length : Nat) : Int) plan) ∧
  ∀ r3 : Fault, r3 = (sp_steps ((t.ops.length : Nat) : Int) plan) →
  K r3)
def F_clone (s_ : List Int) (K : (List Int) → Prop) : Prop :=
 (s_ = [] → 
  K ([] : List Int)) ∧
 (room ((([] : List Int) ++ s_)).length 8) ∧
 K (([] : List Int) ++ s_)
def F_cloneO (s_ : List Int) (K : (List Int) → Prop) : Prop :=
 (s_ = [] → 
  K ([] : List Int)) ∧
 (room ((([] : List Int) ++ s_)).length 8) ∧
 K (([] : List Int) ++ s_)
def F_update_J1 (out : List Int) (t14 : Int) (I1 : Int → (List Int) → Prop) (μ1 : Int → (List Int) → Nat) (out3 : List Int) : Prop :=
 I1 (IntKind.i64.wrap (t14 + 1)) out3 ∧
 μ1 (IntKind.i64.wrap (t14 + 1)) out3 < μ1 t14 out
def F_update_L1 (s_ : List Int) (add : List Int) (del : List Int) (K : (List Int) → Prop) (out : List Int) (t14 : Int) (I1 : Int → (List Int) → Prop) (μ1 : Int → (List Int) → Nat) : Prop :=
 ((decide (t14 < ((s_.length : Nat) : Int))) = true →
  (inb s_ t14) ∧
  (pre_bsearch del (gt s_ t14)) ∧
  ∀ r2 : Int × Bool, r2 = (sp_bsearch del (gt s_ t14)) →
  ((!r2.2) = true →
   (room ((out ++ ([(gt s_ t14)] : List Int))).length 8) ∧
   F_update_J1 out t14 I1 μ1 (out ++ ([(gt s_ t14)] : List Int))) ∧
  ((!r2.2) = false →
   F_update_J1 out t14 I1 μ1 out)) ∧
 ((decide (t14 < ((s_.length : Nat) : Int))) = false →
  (room ((out ++ add)).length 8) ∧
  (pre_sort (out ++ add)) ∧
  ∀ r3 : List Int, r3 = (sp_sort (out ++ add)) →
  (pre_compact r3) ∧
  ∀ r4 : List Int, r4 = (sp_compact r3) →
  K r4)
def F_update (s_ : List Int) (add : List Int) (del : List Int) (K : (List Int) → Prop) : Prop :=
 ∃ (I1 : Int → (List Int) → Prop) (μ1 : Int → (List Int) → Nat), I1 0 ([] : List Int) ∧ ∀ (t14 : Int) (out : List Int), I1 t14 out → F_update_L1 s_ add del K out t14 I1 μ1
def F_contains2_J2 (K : Bool → Prop) (i : Int) (t39 : Bool) (t10 : Int) (i3 : Int) (I1 : Int → Int → Prop) (μ1 : Int → Int → Nat) : Prop :=
 ((t39) = true →
  K false) ∧
 ((t39) = false →
  I1 i3 (IntKind.i64.wrap (t10 + 1)) ∧
 μ1 i3 (IntKind.i64.wrap (t10 + 1)) < μ1 i t10)
def F_contains2_J1 (s_ : List Int) (part : List Int) (K : Bool → Prop) (t25 : Bool) (i : Int) (I2 : Int → Prop) (μ2 : Int → Nat) (t10 : Int) (i3 : Int) (I1 : Int → Int → Prop) (μ1 : Int → Int → Nat) : Prop :=
 ((t25) = true →
  I2 (IntKind.i64.wrap (i3 + 1)) ∧
 μ2 (IntKind.i64.wrap (i3 + 1)) < μ2 i3) ∧
 ((t25) = false →
  ((i3 == ((s_.length : Nat) : Int)) = true →
   F_contains2_J2 K i true t10 i3 I1 μ1) ∧
  ((i3 == ((s_.length : Nat) : Int)) = false →
   (inb s_ i3) ∧
   F_contains2_J2 K i ((gt s_ i3) != (gt part t10)) t10 i3 I1 μ1))
def F_contains2_L2 (s_ : List Int) (part : List Int) (K : Bool → Prop) (i : Int) (I2 : Int → Prop) (μ2 : Int → Nat) (t10 : Int) (i3 : Int) (I1 : Int → Int → Prop) (μ1 : Int → Int → Nat) : Prop :=
 ((decide (i3 < ((s_.length : Nat) : Int))) = true →
  (inb s_ i3) ∧
  F_contains2_J1 s_ part K (decide ((gt s_ i3) < (gt part t10))) i I2 μ2 t10 i3 I1 μ1) ∧
 ((decide (i3 < ((s_.length : Nat) : Int))) = false →
  F_contains2_J1 s_ part K false i I2 μ2 t10 i3 I1 μ1)
def F_contains2_L1 (s_ : List Int) (part : List Int) (K : Bool → Prop) (i : Int) (t10 : Int) (I1 : Int → Int → Prop) (μ1 : Int → Int → Nat) : Prop :=
 ((decide (t10 < ((part.length : Nat) : Int))) = true →
  (inb part t10) ∧
  ∃ (I2 : Int → Prop) (μ2 : Int → Nat), I2 i ∧ ∀ (i3 : Int), I2 i3 → F_contains2_L2 s_ part K i I2 μ2 t10 i3 I1 μ1) ∧
 ((decide (t10 < ((part.length : Nat) : Int))) = false →
  K true)
def F_contains2 (s_ : List Int) (part : List Int) (K : Bool → Prop) : Prop :=
 ∃ (I1 : Int → Int → Prop) (μ1 : Int → Int → Nat), I1 0 0 ∧ ∀ (i : Int) (t10 : Int), I1 i t10 → F_contains2_L1 s_ part K i t10 I1 μ1
def F_can (t : Task) (s_ : List Int) (op : Int) (K : Bool → Prop) : Prop :=
 (inb t.ops op) ∧
 (pre_contains2 s_ ((gt t.ops op).pre)) ∧
 ∀ r2 : Bool, r2 = (sp_contains2 s_ ((gt t.ops op).pre)) →
 K r2
def F_next (t : Task) (s_ : List Int) (op : Int) (K : (List Int) → Prop) : Prop :=
 (inb t.ops op) ∧
 (pre_update s_ ((gt t.ops op).add) ((gt t.ops op).del)) ∧
 ∀ r2 : List Int, r2 = (sp_update s_ ((gt t.ops op).add) ((gt t.ops op).del)) →
 K r2
def F_srun_L1 (t : Task) (plan : List Int) (K : (List (List Int)) → Prop) (s_2 : List Int) (t15 : Int) (out : List (List Int)) (I1 : (List Int) → Int → (List (List Int)) → Prop) (μ1 : (List Int) → Int → (List (List Int)) → Nat) : Prop :=
 ((decide (t15 < ((plan.length : Nat) : Int))) = true →
  (inb plan t15) ∧
  (pre_can t s_2 (gt plan t15)) ∧
  ∀ r3 : Bool, r3 = (sp_applies t s_2 (gt plan t15)) →
  ((!r3) = true →
   K out) ∧
  ((!r3) = false →
   (pre_next t s_2 (gt plan t15)) ∧
   ∀ r4 : List Int, r4 = (sp_after t s_2 (gt plan t15)) →
   (room ((out ++ ([r4] : List (List Int)))).length 24) ∧
   I1 r4 (IntKind.i64.wrap (t15 + 1)) (out ++ ([r4] : List (List Int))) ∧
 μ1 r4 (IntKind.i64.wrap (t15 + 1)) (out ++ ([r4] : List (List Int))) < μ1 s_2 t15 out)) ∧
 ((decide (t15 < ((plan.length : Nat) : Int))) = false →
  K out)
def F_srun (t : Task) (s_ : List Int) (plan : List Int) (K : (List (List Int)) → Prop) : Prop :=
 (pre_clone s_) ∧
 ∀ r2 : List Int, r2 = (sp_clone s_) →
 ∃ (I1 : (List Int) → Int → (List (List Int)) → Prop) (μ1 : (List Int) → Int → (List (List Int)) → Nat), I1 s_ 0 ([r2] : List (List Int)) ∧ ∀ (s_2 : List Int) (t15 : Int) (out : List (List Int)), I1 s_2 t15 out → F_srun_L1 t plan K s_2 t15 out I1 μ1
def F_works (t : Task) (s_ : List Int) (plan : List Int) (K : Bool → Prop) : Prop :=
 (pre_srun t s_ plan) ∧
 ∀ r2 : List (List Int), r2 = (sp_srun t s_ plan) →
 ∀ x : Bool, x = (((r2.length : Nat) : Int) == (IntKind.i64.wrap (((plan.length : Nat) : Int) + 1))) →
 ((x) = true →
  (inb r2 ((plan.length : Nat) : Int)) ∧
  (pre_contains2 (gt r2 ((plan.length : Nat) : Int)) t.goal) ∧
  ∀ r3 : Bool, r3 = (sp_contains2 (gt r2 ((plan.length : Nat) : Int)) t.goal) →
  K r3) ∧
 ((x) = false →
  K false)
def F_solves (t : Task) (plan : List Int) (K : (Bool × Fault) → Prop) : Prop :=
 ∀ r2 : Fault, r2 = (sp_planFault t plan) →
 ((!((r2.code == 0) && (r2.index == 0))) = true →
  K (false, r2)) ∧
 ((!((r2.code == 0) && (r2.index == 0))) = false →
  (pre_works t t.init plan) ∧
  ∀ r3 : Bool, r3 = (sp_rworks t t.init plan) →
  K (r3, (⟨0, 0⟩ : Fault)))
def F_compare (x : Int) (y : Int) (K : Int → Prop) : Prop :=
 ∀ r2 : Bool, r2 = (sp_isNaN1 x) →
 ∀ r3 : Bool, r3 = (sp_isNaN1 y) →
 ((r2) = true →
  ((r3) = true →
   K 0) ∧
  ((r3) = false →
   K (-1))) ∧
 ((r2) = false →
  ((r3) = true →
   K 1) ∧
  ((r3) = false →
   ((decide (x < y)) = true →
    K (-1)) ∧
   ((decide (x < y)) = false →
    ((decide (y < x)) = true →
     K 1) ∧
    ((decide (y < x)) = false →
     K 0))))
def F_scompare_L1 (s1 : List Int) (s2 : List Int) (K : Int → Prop) (t11 : Int) (I1 : Int → Prop) (μ1 : Int → Nat) : Prop :=
 ((decide (t11 < ((s1.length : Nat) : Int))) = true →
  (inb s1 t11) ∧
  ((decide (((s2.length : Nat) : Int) ≤ t11)) = true →
   K 1) ∧
  ((decide (((s2.length : Nat) : Int) ≤ t11)) = false →
   (inb s2 t11) ∧
   ∀ r2 : Int, r2 = (sp_compare (gt s1 t11) (gt s2 t11)) →
   ((r2 != 0) = true →
    K r2) ∧
   ((r2 != 0) = false →
    I1 (IntKind.i64.wrap (t11 + 1)) ∧
 μ1 (IntKind.i64.wrap (t11 + 1)) < μ1 t11))) ∧
 ((decide (t11 < ((s1.length : Nat) : Int))) = false →
  ((decide (((s1.length : Nat) : Int) < ((s2.length : Nat) : Int))) = true →
   K (-1)) ∧
  ((decide (((s1.length : Nat) : Int) < ((s2.length : Nat) : Int))) = false →
   K 0))
def F_scompare (s1 : List Int) (s2 : List Int) (K : Int → Prop) : Prop :=
 ∃ (I1 : Int → Prop) (μ1 : Int → Nat), I1 0 ∧ ∀ (t11 : Int), I1 t11 → F_scompare_L1 s1 s2 K t11 I1 μ1
def F_sequal_L1 (s1 : List Int) (s2 : List Int) (K : Bool → Prop) (t13 : Int) (I1 : Int → Prop) (μ1 : Int → Nat) : Prop :=
 ((decide (t13 < ((s1.length : Nat) : Int))) = true →
  (inb s1 t13) ∧
  (inb s2 t13) ∧
  (((gt s1 t13) != (gt s2 t13)) = true →
   K false) ∧
  (((gt s1 t13) != (gt s2 t13)) = false →
   I1 (IntKind.i64.wrap (t13 + 1)) ∧
 μ1 (IntKind.i64.wrap (t13 + 1)) < μ1 t13)) ∧
 ((decide (t13 < ((s1.length : Nat) : Int))) = false →
  K true)
def F_sequal (s1 : List Int) (s2 : List Int) (K : Bool → Prop) : Prop :=
 ((((s1.length : Nat) : Int) != ((s2.length : Nat) : Int)) = true →
  K false) ∧
 ((((s1.length : Nat) : Int) != ((s2.length : Nat) : Int)) = false →
  ∃ (I1 : Int → Prop) (μ1 : Int → Nat), I1 0 ∧ ∀ (t13 : Int), I1 t13 → F_sequal_L1 s1 s2 K t13 I1 μ1)
def F_stateFault (t : Task) (s_ : List Int) (K : Fault → Prop) : Prop :=
 ∀ r2 : Fault, r2 = (sp_validate t) →
 ((!((r2.code == 0) && (r2.index == 0))) = true →
  K r2) ∧
 ((!((r2.code == 0) && (r2.index == 0))) = false →
  (pre_isSet s_ t.facts) ∧
  ∀ r3 : Bool, r3 = (sp_isSet s_ t.facts) →
  ((!r3) = true →
   K (⟨5, (-4)⟩ : Fault)) ∧
  ((!r3) = false →
   K (⟨0, 0⟩ : Fault)))
def F_word_L1 (s_ : List Int) (K : Int → Prop) (w_ : Int) (t8 : Int) (I1 : Int → Int → Prop) (μ1 : Int → Int → Nat) : Prop :=
 ((decide (t8 < ((s_.length : Nat) : Int))) = true →
  (inb s_ t8) ∧
  (0 ≤ (gt s_ t8)) ∧
  ∀ x : Int, x = (IntKind.u32.wrap (1 * 2 ^ (min (((gt s_ t8) : Int)).toNat (IntKind.bits .u32)))) →
  I1 (bits .or .u32 w_ x) (IntKind.i64.wrap (t8 + 1)) ∧
 μ1 (bits .or .u32 w_ x) (IntKind.i64.wrap (t8 + 1)) < μ1 w_ t8) ∧
 ((decide (t8 < ((s_.length : Nat) : Int))) = false →
  K w_)
def F_word (s_ : List Int) (K : Int → Prop) : Prop :=
 ∃ (I1 : Int → Int → Prop) (μ1 : Int → Int → Nat), I1 0 0 ∧ ∀ (w_ : Int) (t8 : Int), I1 w_ t8 → F_word_L1 s_ K w_ t8 I1 μ1
def F_facts_J1 (out : List Int) (t5 : Int) (I1 : Int → (List Int) → Prop) (μ1 : Int → (List Int) → Nat) (out3 : List Int) : Prop :=
 I1 (IntKind.i64.wrap (t5 + 1)) out3 ∧
 μ1 (IntKind.i64.wrap (t5 + 1)) out3 < μ1 t5 out
def F_facts_L1 (w_ : Int) (K : (List Int) → Prop) (out : List Int) (t5 : Int) (I1 : Int → (List Int) → Prop) (μ1 : Int → (List Int) → Nat) : Prop :=
 ((decide (t5 < 32)) = true →
  (0 ≤ t5) ∧
  ∀ x : Int, x = (bits .and .u32 (Int.fdiv w_ (2 ^ (min ((t5 : Int)).toNat (IntKind.bits .u32)))) 1) →
  ((x == 1) = true →
   (room ((out ++ ([t5] : List Int))).length 8) ∧
   F_facts_J1 out t5 I1 μ1 (out ++ ([t5] : List Int))) ∧
  ((x == 1) = false →
   F_facts_J1 out t5 I1 μ1 out)) ∧
 ((decide (t5 < 32)) = false →
  K out)
def F_facts (w_ : Int) (K : (List Int) → Prop) : Prop :=
 ∃ (I1 : Int → (List Int) → Prop) (μ1 : Int → (List Int) → Nat), I1 0 ([] : List Int) ∧ ∀ (t5 : Int) (out : List Int), I1 t5 out → F_facts_L1 w_ K out t5 I1 μ1
def F_wcmp (a : Int) (b : Int) (K : Int → Prop) : Prop :=
 (pre_facts a) ∧
 ∀ r2 : List Int, r2 = (sp_facts a) →
 (pre_facts b) ∧
 ∀ r3 : List Int, r3 = (sp_facts b) →
 (pre_scompare r2 r3) ∧
 ∀ r4 : Int, r4 = (sp_scompare r2 r3) →
 K r4
def F_all_J1 (t11 : Int) (m4 : List (Int × Unit)) (I2 : Int → (List Int) → (List (Int × Unit)) → Prop) (μ2 : Int → (List Int) → (List (Int × Unit)) → Nat) (l4 : List Int) (m6 : List (Int × Unit)) (l6 : List Int) : Prop :=
 I2 (IntKind.i64.wrap (t11 + 1)) l6 m6 ∧
 μ2 (IntKind.i64.wrap (t11 + 1)) l6 m6 < μ2 t11 l4 m4
def F_all_L2 (x : WordsT) (K : (List Int × Bool) → Prop) (m2 : List (Int × Unit)) (t11 : Int) (m4 : List (Int × Unit)) (I2 : Int → (List Int) → (List (Int × Unit)) → Prop) (μ2 : Int → (List Int) → (List (Int × Unit)) → Nat) (l4 : List Int) (out : List Int) (l : List Int) (I1 : (List Int) → (List Int) → (List (Int × Unit)) → Prop) (μ1 : (List Int) → (List Int) → (List (Int × Unit)) → Nat) : Prop :=
 ((decide (t11 < ((x.ops.length : Nat) : Int))) = true →
  (inb x.ops t11) ∧
  ∀ x2 : Int, x2 = (bits .and .u32 (gt l (IntKind.i64.wrap (((l.length : Nat) : Int) - 1))) ((gt x.ops t11).pre)) →
  ((x2 == ((gt x.ops t11).pre)) = true →
   ∀ x3 : Int, x3 = (bits .andNot .u32 (gt l (IntKind.i64.wrap (((l.length : Nat) : Int) - 1))) ((gt x.ops t11).del)) →
   ((!((getA m4 (bits .or .u32 x3 ((gt x.ops t11).add))).isSome)) = true →
    ∀ m7 : List (Int × Unit), m7 = (setA m4 (bits .or .u32 x3 ((gt x.ops t11).add)) ()) →
    (room ((l4 ++ ([bits .or .u32 x3 ((gt x.ops t11).add)] : List Int))).length 4) ∧
    F_all_J1 t11 m4 I2 μ2 l4 m7 (l4 ++ ([bits .or .u32 x3 ((gt x.ops t11).add)] : List Int))) ∧
   ((!((getA m4 (bits .or .u32 x3 ((gt x.ops t11).add))).isSome)) = false →
    F_all_J1 t11 m4 I2 μ2 l4 m4 l4)) ∧
  ((x2 == ((gt x.ops t11).pre)) = false →
   F_all_J1 t11 m4 I2 μ2 l4 m4 l4)) ∧
 ((decide (t11 < ((x.ops.length : Nat) : Int))) = false →
  ((decide (2000 < ((m4.length : Nat) : Int))) = true →
   K (([] : List Int), false)) ∧
  ((decide (2000 < ((m4.length : Nat) : Int))) = false →
   I1 (out ++ ([(gt l (IntKind.i64.wrap (((l.length : Nat) : Int) - 1)))] : List Int)) l4 m4 ∧
 μ1 (out ++ ([(gt l (IntKind.i64.wrap (((l.length : Nat) : Int) - 1)))] : List Int)) l4 m4 < μ1 out l m2))
def F_all_L1 (x : WordsT) (K : (List Int × Bool) → Prop) (m2 : List (Int × Unit)) (out : List Int) (l : List Int) (I1 : (List Int) → (List Int) → (List (Int × Unit)) → Prop) (μ1 : (List Int) → (List Int) → (List (Int × Unit)) → Nat) : Prop :=
 ((decide (0 < ((l.length : Nat) : Int))) = true →
  (inb l (IntKind.i64.wrap (((l.length : Nat) : Int) - 1))) ∧
  (0 ≤ (IntKind.i64.wrap (((l.length : Nat) : Int) - 1)) ∧ (IntKind.i64.wrap (((l.length : Nat) : Int) - 1)) ≤ ((l.length : Nat) : Int)) ∧
  ∀ d : List Int, d = (l.take (IntKind.i64.wrap (((l.length : Nat) : Int) - 1)).toNat) →
  (room ((out ++ ([(gt l (IntKind.i64.wrap (((l.length : Nat) : Int) - 1)))] : List Int))).length 4) ∧
  ∃ (I2 : Int → (List Int) → (List (Int × Unit)) → Prop) (μ2 : Int → (List Int) → (List (Int × Unit)) → Nat), I2 0 d m2 ∧ ∀ (t11 : Int) (l4 : List Int) (m4 : List (Int × Unit)), I2 t11 l4 m4 → F_all_L2 x K m2 t11 m4 I2 μ2 l4 out l I1 μ1) ∧
 ((decide (0 < ((l.length : Nat) : Int))) = false →
  K (out, true))
def F_all (x : WordsT) (K : (List Int × Bool) → Prop) : Prop :=
 ∀ m : List (Int × Unit), m = (setA ([] : List (Int × Unit)) x.start ()) →
 ∃ (I1 : (List Int) → (List Int) → (List (Int × Unit)) → Prop) (μ1 : (List Int) → (List Int) → (List (Int × Unit)) → Nat), I1 ([] : List Int) ([x.start] : List Int) m ∧ ∀ (out : List Int) (l : List Int) (m2 : List (Int × Unit)), I1 out l m2 → F_all_L1 x K m2 out l I1 μ1
def F_optimalK (t : Task) (K : (Int × Fault) → Prop) : Prop :=
 (t = (⟨2, ([0] : List Int), ([1] : List Int), ([(⟨([0] : List Int), ([1] : List Int), ([0] : List Int), 3⟩ : Operator)] : List Operator)⟩ : Task)) ∧
 ∀ r2 : Fault, r2 = (sp_validate (⟨2, ([0] : List Int), ([1] : List Int), ([(⟨([0] : List Int), ([1] : List Int), ([0] : List Int), 3⟩ : Operator)] : List Operator)⟩ : Task)) →
 (pre_word ([0] : List Int)) ∧
 ∀ r3 : Int, r3 = (sp_word ([0] : List Int)) →
 (pre_word ([1] : List Int)) ∧
 ∀ r4 : Int, r4 = (sp_word ([1] : List Int)) →
 ∀ r5 : Int, r5 = (sp_word ([0] : List Int)) →
 ∀ r6 : Int, r6 = (sp_word ([1] : List Int)) →
 ∀ r7 : Int, r7 = (sp_word ([0] : List Int)) →
 (pre_all (⟨1, 2, ([(⟨1, 2, 1, 3⟩ : Masks)] : List Masks)⟩ : WordsT)) ∧
 ∀ r8 : List Int × Bool, r8 = (sp_all (⟨1, 2, ([(⟨1, 2, 1, 3⟩ : Masks)] : List Masks)⟩ : WordsT)) →
 (pre_sortW ([1, 2] : List Int)) ∧
 ∀ r9 : List Int, r9 = (sp_sortW ([1, 2] : List Int)) →
 K (3, (⟨0, 0⟩ : Fault))
def F_kernWorks (K : Bool → Prop) : Prop :=
 (pre_optimalK (⟨2, ([0] : List Int), ([1] : List Int), ([(⟨([0] : List Int), ([1] : List Int), ([0] : List Int), 3⟩ : Operator)] : List Operator)⟩ : Task)) ∧
 ∀ r2 : Int × Fault, r2 = (sp_optimalK (⟨2, ([0] : List Int), ([1] : List Int), ([(⟨([0] : List Int), ([1] : List Int), ([0] : List Int), 3⟩ : Operator)] : List Operator)⟩ : Task)) →
 ∀ r3 : Bool × Fault, r3 = (sp_solves (⟨2, ([0] : List Int), ([1] : List Int), ([(⟨([0] : List Int), ([1] : List Int), ([0] : List Int), 3⟩ : Operator)] : List Operator)⟩ : Task) ([0] : List Int)) →
 K true
def F_index_L1 (s_ : List Int) (v : Int) (K : Int → Prop) (t8 : Int) (I1 : Int → Prop) (μ1 : Int → Nat) : Prop :=
 ((decide (t8 < ((s_.length : Nat) : Int))) = true →
  (inb s_ t8) ∧
  ((v == (gt s_ t8)) = true →
   K t8) ∧
  ((v == (gt s_ t8)) = false →
   I1 (IntKind.i64.wrap (t8 + 1)) ∧
 μ1 (IntKind.i64.wrap (t8 + 1)) < μ1 t8)) ∧
 ((decide (t8 < ((s_.length : Nat) : Int))) = false →
  K (-1))
def F_index (s_ : List Int) (v : Int) (K : Int → Prop) : Prop :=
 ∃ (I1 : Int → Prop) (μ1 : Int → Nat), I1 0 ∧ ∀ (t8 : Int), I1 t8 → F_index_L1 s_ v K t8 I1 μ1
def F_contains (s_ : List Int) (v : Int) (K : Bool → Prop) : Prop :=
 (pre_index s_ v) ∧
 ∀ r2 : Int, r2 = (sp_index s_ v) →
 K (decide (0 ≤ r2))
def F_image_L1 (perm : List Int) (s_ : List Int) (K : (List Int) → Prop) (t10 : Int) (out : List Int) (I1 : Int → (List Int) → Prop) (μ1 : Int → (List Int) → Nat) : Prop :=
 ((decide (t10 < ((s_.length : Nat) : Int))) = true →
  (inb s_ t10) ∧
  (inb perm (gt s_ t10)) ∧
  (room ((out ++ ([(gt perm (gt s_ t10))] : List Int))).length 8) ∧
  I1 (IntKind.i64.wrap (t10 + 1)) (out ++ ([(gt perm (gt s_ t10))] : List Int)) ∧
 μ1 (IntKind.i64.wrap (t10 + 1)) (out ++ ([(gt perm (gt s_ t10))] : List Int)) < μ1 t10 out) ∧
 ((decide (t10 < ((s_.length : Nat) : Int))) = false →
  (pre_sort out) ∧
  ∀ r2 : List Int, r2 = (sp_sort out) →
  K r2)
def F_image (perm : List Int) (s_ : List Int) (K : (List Int) → Prop) : Prop :=
 ∃ (I1 : Int → (List Int) → Prop) (μ1 : Int → (List Int) → Nat), I1 0 ([] : List Int) ∧ ∀ (t10 : Int) (out : List Int), I1 t10 out → F_image_L1 perm s_ K t10 out I1 μ1
def F_opEqual (a : Operator) (b : Operator) (K : Bool → Prop) : Prop :=
 ((a.cost == b.cost) = true →
  (pre_sequal a.pre b.pre) ∧
  ∀ r2 : Bool, r2 = (sp_sequal a.pre b.pre) →
  ((r2) = true →
   (pre_sequal a.add b.add) ∧
   ∀ r3 : Bool, r3 = (sp_sequal a.add b.add) →
   ((r3) = true →
    (pre_sequal a.del b.del) ∧
    ∀ r4 : Bool, r4 = (sp_sequal a.del b.del) →
    K r4) ∧
   ((r3) = false →
    K false)) ∧
  ((r2) = false →
   K false)) ∧
 ((a.cost == b.cost) = false →
  K false)
def F_symOps_J2 (found : Int) (t50 : Int) (I2 : Int → Int → Prop) (μ2 : Int → Int → Nat) (found3 : Int) : Prop :=
 I2 found3 (IntKind.i64.wrap (t50 + 1)) ∧
 μ2 found3 (IntKind.i64.wrap (t50 + 1)) < μ2 found t50
def F_symOps_J3 (t70 : Bool) (found : Int) (t50 : Int) (I2 : Int → Int → Prop) (μ2 : Int → Int → Nat) : Prop :=
 ((t70) = true →
  F_symOps_J2 found t50 I2 μ2 t50) ∧
 ((t70) = false →
  F_symOps_J2 found t50 I2 μ2 found)
def F_symOps_L2 (t : Task) (K : (List Int × Bool) → Prop) (x : List Int) (x2 : List Int) (x3 : List Int) (found : Int) (t50 : Int) (I2 : Int → Int → Prop) (μ2 : Int → Int → Nat) (t28 : Int) (used : List Bool) (out : List Int) (I1 : Int → (List Bool) → (List Int) → Prop) (μ1 : Int → (List Bool) → (List Int) → Nat) : Prop :=
 ((decide (t50 < ((t.ops.length : Nat) : Int))) = true →
  ((decide (found < 0)) = true →
   (inb used t50) ∧
   ((!(gt used t50)) = true →
    (inb t.ops t50) ∧
    (pre_opEqual (gt t.ops t50) (⟨x, x2, x3, (gt t.ops t28).cost⟩ : Operator)) ∧
    ∀ r4 : Bool, r4 = (sp_opEqual (gt t.ops t50) (⟨x, x2, x3, (gt t.ops t28).cost⟩ : Operator)) →
    F_symOps_J3 r4 found t50 I2 μ2) ∧
   ((!(gt used t50)) = false →
    F_symOps_J3 false found t50 I2 μ2)) ∧
  ((decide (found < 0)) = false →
   F_symOps_J3 false found t50 I2 μ2)) ∧
 ((decide (t50 < ((t.ops.length : Nat) : Int))) = false →
  ((decide (found < 0)) = true →
   K (([] : List Int), false)) ∧
  ((decide (found < 0)) = false →
   (inb used found) ∧
   ∀ d : List Bool, d = (used.set (found).toNat true) →
   (room ((out ++ ([found] : List Int))).length 8) ∧
   I1 (IntKind.i64.wrap (t28 + 1)) d (out ++ ([found] : List Int)) ∧
 μ1 (IntKind.i64.wrap (t28 + 1)) d (out ++ ([found] : List Int)) < μ1 t28 used out))
def F_symOps_J1 (t : Task) (K : (List Int × Bool) → Prop) (x : List Int) (x2 : List Int) (x3 : List Int) (t28 : Int) (used : List Bool) (out : List Int) (I1 : Int → (List Bool) → (List Int) → Prop) (μ1 : Int → (List Bool) → (List Int) → Nat) : Prop :=
 ∃ (I2 : Int → Int → Prop) (μ2 : Int → Int → Nat), I2 (-1) 0 ∧ ∀ (found : Int) (t50 : Int), I2 found t50 → F_symOps_L2 t K x x2 x3 found t50 I2 μ2 t28 used out I1 μ1
def F_symOps_L1 (t : Task) (perm : List Int) (K : (List Int × Bool) → Prop) (t28 : Int) (used : List Bool) (out : List Int) (I1 : Int → (List Bool) → (List Int) → Prop) (μ1 : Int → (List Bool) → (List Int) → Nat) : Prop :=
 ((decide (t28 < ((t.ops.length : Nat) : Int))) = true →
  (inb t.ops t28) ∧
  (pre_image perm ((gt t.ops t28).pre)) ∧
  ∀ r5 : List Int, r5 = (sp_image perm ((gt t.ops t28).pre)) →
  (pre_image perm ((gt t.ops t28).add)) ∧
  ∀ r6 : List Int, r6 = (sp_image perm ((gt t.ops t28).add)) →
  (pre_image perm ((gt t.ops t28).del)) ∧
  ∀ r7 : List Int, r7 = (sp_image perm ((gt t.ops t28).del)) →
  F_symOps_J1 t K r5 r6 r7 t28 used out I1 μ1) ∧
 ((decide (t28 < ((t.ops.length : Nat) : Int))) = false →
  K (out, true))
def F_symOps (t : Task) (perm : List Int) (K : (List Int × Bool) → Prop) : Prop :=
 (pre_image perm t.goal) ∧
 ∀ r2 : List Int, r2 = (sp_image perm t.goal) →
 (pre_sequal r2 t.goal) ∧
 ∀ r3 : Bool, r3 = (sp_sequal r2 t.goal) →
 ((!r3) = true →
  K (([] : List Int), false)) ∧
 ((!r3) = false →
  (mkok ((t.ops.length : Nat) : Int) 1) ∧
  ∃ (I1 : Int → (List Bool) → (List Int) → Prop) (μ1 : Int → (List Bool) → (List Int) → Nat), I1 0 (List.replicate (((t.ops.length : Nat) : Int)).toNat (false : Bool)) ([] : List Int) ∧ ∀ (t28 : Int) (used : List Bool) (out : List Int), I1 t28 used out → F_symOps_L1 t perm K t28 used out I1 μ1)
def F_plus_J1 (a : Int) (b : Int) (K : Int → Prop) (t10 : Bool) : Prop :=
 ((t10) = true →
  K 1000000000) ∧
 ((t10) = false →
  ∀ x : Int, x = (if 999999999 < (IntKind.i64.wrap (a + b)) then 999999999 else (IntKind.i64.wrap (a + b))) →
  K x)
def F_plus (a : Int) (b : Int) (K : Int → Prop) : Prop :=
 ((a == 1000000000) = true →
  F_plus_J1 a b K true) ∧
 ((a == 1000000000) = false →
  F_plus_J1 a b K (b == 1000000000))
def F_greatest_L1 (values : List Int) (facts : List Int) (K : Int → Prop) (out : Int) (t10 : Int) (I1 : Int → Int → Prop) (μ1 : Int → Int → Nat) : Prop :=
 ((decide (t10 < ((facts.length : Nat) : Int))) = true →
  (inb facts t10) ∧
  (inb values (gt facts t10)) ∧
  ∀ x : Int, x = (if out < (gt values (gt facts t10)) then (gt values (gt facts t10)) else out) →
  I1 x (IntKind.i64.wrap (t10 + 1)) ∧
 μ1 x (IntKind.i64.wrap (t10 + 1)) < μ1 out t10) ∧
 ((decide (t10 < ((facts.length : Nat) : Int))) = false →
  K out)
def F_greatest (values : List Int) (facts : List Int) (K : Int → Prop) : Prop :=
 ∃ (I1 : Int → Int → Prop) (μ1 : Int → Int → Nat), I1 0 0 ∧ ∀ (out : Int) (t10 : Int), I1 out t10 → F_greatest_L1 values facts K out t10 I1 μ1
def F_sumR_L1 (values : List Int) (facts : List Int) (K : Int → Prop) (out : Int) (t10 : Int) (I1 : Int → Int → Prop) (μ1 : Int → Int → Nat) : Prop :=
 ((decide (t10 < ((facts.length : Nat) : Int))) = true →
  (inb facts t10) ∧
  (inb values (gt facts t10)) ∧
  (pre_plus out (gt values (gt facts t10))) ∧
  ∀ r2 : Int, r2 = (sp_plus out (gt values (gt facts t10))) →
  I1 r2 (IntKind.i64.wrap (t10 + 1)) ∧
 μ1 r2 (IntKind.i64.wrap (t10 + 1)) < μ1 out t10) ∧
 ((decide (t10 < ((facts.length : Nat) : Int))) = false →
  K out)
def F_sumR (values : List Int) (facts : List Int) (K : Int → Prop) : Prop :=
 ∃ (I1 : Int → Int → Prop) (μ1 : Int → Int → Nat), I1 0 0 ∧ ∀ (out : Int) (t10 : Int), I1 out t10 → F_sumR_L1 values facts K out t10 I1 μ1
def F_costsR_L1 (t : Task) (K : (List Int) → Prop) (t9 : Int) (out : List Int) (I1 : Int → (List Int) → Prop) (μ1 : Int → (List Int) → Nat) : Prop :=
 ((decide (t9 < ((t.ops.length : Nat) : Int))) = true →
  (inb t.ops t9) ∧
  (room ((out ++ ([(gt t.ops t9).cost] : List Int))).length 8) ∧
  I1 (IntKind.i64.wrap (t9 + 1)) (out ++ ([(gt t.ops t9).cost] : List Int)) ∧
 μ1 (IntKind.i64.wrap (t9 + 1)) (out ++ ([(gt t.ops t9).cost] : List Int)) < μ1 t9 out) ∧
 ((decide (t9 < ((t.ops.length : Nat) : Int))) = false →
  K out)
def F_costsR (t : Task) (K : (List Int) → Prop) : Prop :=
 ∃ (I1 : Int → (List Int) → Prop) (μ1 : Int → (List Int) → Nat), I1 0 ([] : List Int) ∧ ∀ (t9 : Int) (out : List Int), I1 t9 out → F_costsR_L1 t K t9 out I1 μ1
def F_valuesG_J1 (t63 : Int) (I5 : Bool → Int → (List Int) → Prop) (μ5 : Bool → Int → (List Int) → Nat) (changed5 : Bool) (values9 : List Int) (changed7 : Bool) (values11 : List Int) : Prop :=
 I5 changed7 (IntKind.i64.wrap (t63 + 1)) values11 ∧
 μ5 changed7 (IntKind.i64.wrap (t63 + 1)) values11 < μ5 changed5 t63 values9
def F_valuesG_L5 (t : Task) (r3 : Int) (t63 : Int) (I5 : Bool → Int → (List Int) → Prop) (μ5 : Bool → Int → (List Int) → Nat) (changed3 : Bool) (values7 : List Int) (t45 : Int) (I4 : Bool → Int → (List Int) → Prop) (μ4 : Bool → Int → (List Int) → Nat) (changed5 : Bool) (values9 : List Int) : Prop :=
 ((decide (t63 < (((gt t.ops t45).add.length : Nat) : Int))) = true →
  (inb ((gt t.ops t45).add) t63) ∧
  (inb values9 (gt ((gt t.ops t45).add) t63)) ∧
  ((decide (r3 < (gt values9 (gt ((gt t.ops t45).add) t63)))) = true →
   ∀ d3 : List Int, d3 = (values9.set ((gt ((gt t.ops t45).add) t63)).toNat r3) →
   F_valuesG_J1 t63 I5 μ5 changed5 values9 true d3) ∧
  ((decide (r3 < (gt values9 (gt ((gt t.ops t45).add) t63)))) = false →
   F_valuesG_J1 t63 I5 μ5 changed5 values9 changed5 values9)) ∧
 ((decide (t63 < (((gt t.ops t45).add.length : Nat) : Int))) = false →
  I4 changed5 (IntKind.i64.wrap (t45 + 1)) values9 ∧
 μ4 changed5 (IntKind.i64.wrap (t45 + 1)) values9 < μ4 changed3 t45 values7)
def F_valuesG_L4 (t : Task) (costs : List Int) (changed : Bool) (values5 : List Int) (changed3 : Bool) (values7 : List Int) (t45 : Int) (I4 : Bool → Int → (List Int) → Prop) (μ4 : Bool → Int → (List Int) → Nat) (I3 : Bool → (List Int) → Prop) (μ3 : Bool → (List Int) → Nat) : Prop :=
 ((decide (t45 < ((t.ops.length : Nat) : Int))) = true →
  (inb t.ops t45) ∧
  (pre_greatest values7 ((gt t.ops t45).pre)) ∧
  ∀ r2 : Int, r2 = (sp_greatest values7 ((gt t.ops t45).pre)) →
  (inb costs t45) ∧
  (pre_plus r2 (gt costs t45)) ∧
  ∀ r3 : Int, r3 = (sp_plus r2 (gt costs t45)) →
  ∃ (I5 : Bool → Int → (List Int) → Prop) (μ5 : Bool → Int → (List Int) → Nat), I5 changed3 0 values7 ∧ ∀ (changed5 : Bool) (t63 : Int) (values9 : List Int), I5 changed5 t63 values9 → F_valuesG_L5 t r3 t63 I5 μ5 changed3 values7 t45 I4 μ4 changed5 values9) ∧
 ((decide (t45 < ((t.ops.length : Nat) : Int))) = false →
  I3 changed3 values7 ∧
 μ3 changed3 values7 < μ3 changed values5)
def F_valuesG_L3 (t : Task) (costs : List Int) (K : (List Int) → Prop) (changed : Bool) (values5 : List Int) (I3 : Bool → (List Int) → Prop) (μ3 : Bool → (List Int) → Nat) : Prop :=
 ((changed) = true →
  ∃ (I4 : Bool → Int → (List Int) → Prop) (μ4 : Bool → Int → (List Int) → Nat), I4 false 0 values5 ∧ ∀ (changed3 : Bool) (t45 : Int) (values7 : List Int), I4 changed3 t45 values7 → F_valuesG_L4 t costs changed values5 changed3 values7 t45 I4 μ4 I3 μ3) ∧
 ((changed) = false →
  K values5)
def F_valuesG_L2 (t : Task) (s_ : List Int) (costs : List Int) (K : (List Int) → Prop) (t33 : Int) (values3 : List Int) (I2 : Int → (List Int) → Prop) (μ2 : Int → (List Int) → Nat) : Prop :=
 ((decide (t33 < ((s_.length : Nat) : Int))) = true →
  (inb s_ t33) ∧
  (inb values3 (gt s_ t33)) ∧
  ∀ d2 : List Int, d2 = (values3.set ((gt s_ t33)).toNat 0) →
  I2 (IntKind.i64.wrap (t33 + 1)) d2 ∧
 μ2 (IntKind.i64.wrap (t33 + 1)) d2 < μ2 t33 values3) ∧
 ((decide (t33 < ((s_.length : Nat) : Int))) = false →
  ∃ (I3 : Bool → (List Int) → Prop) (μ3 : Bool → (List Int) → Nat), I3 true values3 ∧ ∀ (changed : Bool) (values5 : List Int), I3 changed values5 → F_valuesG_L3 t costs K changed values5 I3 μ3)
def F_valuesG_L1 (t : Task) (s_ : List Int) (costs : List Int) (K : (List Int) → Prop) (t24 : Int) (values : List Int) (I1 : Int → (List Int) → Prop) (μ1 : Int → (List Int) → Nat) : Prop :=
 ((decide (t24 < (((t.facts).toNat : Nat) : Int))) = true →
  (inb values t24) ∧
  ∀ d : List Int, d = (values.set (t24).toNat 1000000000) →
  I1 (IntKind.i64.wrap (t24 + 1)) d ∧
 μ1 (IntKind.i64.wrap (t24 + 1)) d < μ1 t24 values) ∧
 ((decide (t24 < (((t.facts).toNat : Nat) : Int))) = false →
  ∃ (I2 : Int → (List Int) → Prop) (μ2 : Int → (List Int) → Nat), I2 0 values ∧ ∀ (t33 : Int) (values3 : List Int), I2 t33 values3 → F_valuesG_L2 t s_ costs K t33 values3 I2 μ2)
def F_valuesG (t : Task) (s_ : List Int) (costs : List Int) (K : (List Int) → Prop) : Prop :=
 (mkok t.facts 8) ∧
 ∃ (I1 : Int → (List Int) → Prop) (μ1 : Int → (List Int) → Nat), I1 0 (List.replicate (t.facts).toNat (0 : Int)) ∧ ∀ (t24 : Int) (values : List Int), I1 t24 values → F_valuesG_L1 t s_ costs K t24 values I1 μ1
def F_valuesS_J1 (t63 : Int) (I5 : Bool → Int → (List Int) → Prop) (μ5 : Bool → Int → (List Int) → Nat) (changed5 : Bool) (values9 : List Int) (changed7 : Bool) (values11 : List Int) : Prop :=
 I5 changed7 (IntKind.i64.wrap (t63 + 1)) values11 ∧
 μ5 changed7 (IntKind.i64.wrap (t63 + 1)) values11 < μ5 changed5 t63 values9
def F_valuesS_L5 (t : Task) (r3 : Int) (t63 : Int) (I5 : Bool → Int → (List Int) → Prop) (μ5 : Bool → Int → (List Int) → Nat) (changed3 : Bool) (values7 : List Int) (t45 : Int) (I4 : Bool → Int → (List Int) → Prop) (μ4 : Bool → Int → (List Int) → Nat) (changed5 : Bool) (values9 : List Int) : Prop :=
 ((decide (t63 < (((gt t.ops t45).add.length : Nat) : Int))) = true →
  (inb ((gt t.ops t45).add) t63) ∧
  (inb values9 (gt ((gt t.ops t45).add) t63)) ∧
  ((decide (r3 < (gt values9 (gt ((gt t.ops t45).add) t63)))) = true →
   ∀ d3 : List Int, d3 = (values9.set ((gt ((gt t.ops t45).add) t63)).toNat r3) →
   F_valuesS_J1 t63 I5 μ5 changed5 values9 true d3) ∧
  ((decide (r3 < (gt values9 (gt ((gt t.ops t45).add) t63)))) = false →
   F_valuesS_J1 t63 I5 μ5 changed5 values9 changed5 values9)) ∧
 ((decide (t63 < (((gt t.ops t45).add.length : Nat) : Int))) = false →
  I4 changed5 (IntKind.i64.wrap (t45 + 1)) values9 ∧
 μ4 changed5 (IntKind.i64.wrap (t45 + 1)) values9 < μ4 changed3 t45 values7)
def F_valuesS_L4 (t : Task) (costs : List Int) (changed : Bool) (values5 : List Int) (changed3 : Bool) (values7 : List Int) (t45 : Int) (I4 : Bool → Int → (List Int) → Prop) (μ4 : Bool → Int → (List Int) → Nat) (I3 : Bool → (List Int) → Prop) (μ3 : Bool → (List Int) → Nat) : Prop :=
 ((decide (t45 < ((t.ops.length : Nat) : Int))) = true →
  (inb t.ops t45) ∧
  (pre_sumR values7 ((gt t.ops t45).pre)) ∧
  ∀ r2 : Int, r2 = (sp_sumR values7 ((gt t.ops t45).pre)) →
  (inb costs t45) ∧
  (pre_plus r2 (gt costs t45)) ∧
  ∀ r3 : Int, r3 = (sp_plus r2 (gt costs t45)) →
  ∃ (I5 : Bool → Int → (List Int) → Prop) (μ5 : Bool → Int → (List Int) → Nat), I5 changed3 0 values7 ∧ ∀ (changed5 : Bool) (t63 : Int) (values9 : List Int), I5 changed5 t63 values9 → F_valuesS_L5 t r3 t63 I5 μ5 changed3 values7 t45 I4 μ4 changed5 values9) ∧
 ((decide (t45 < ((t.ops.length : Nat) : Int))) = false →
  I3 changed3 values7 ∧
 μ3 changed3 values7 < μ3 changed values5)
def F_valuesS_L3 (t : Task) (costs : List Int) (K : (List Int) → Prop) (changed : Bool) (values5 : List Int) (I3 : Bool → (List Int) → Prop) (μ3 : Bool → (List Int) → Nat) : Prop :=
 ((changed) = true →
  ∃ (I4 : Bool → Int → (List Int) → Prop) (μ4 : Bool → Int → (List Int) → Nat), I4 false 0 values5 ∧ ∀ (changed3 : Bool) (t45 : Int) (values7 : List Int), I4 changed3 t45 values7 → F_valuesS_L4 t costs changed values5 changed3 values7 t45 I4 μ4 I3 μ3) ∧
 ((changed) = false →
  K values5)
def F_valuesS_L2 (t : Task) (s_ : List Int) (costs : List Int) (K : (List Int) → Prop) (t33 : Int) (values3 : List Int) (I2 : Int → (List Int) → Prop) (μ2 : Int → (List Int) → Nat) : Prop :=
 ((decide (t33 < ((s_.length : Nat) : Int))) = true →
  (inb s_ t33) ∧
  (inb values3 (gt s_ t33)) ∧
  ∀ d2 : List Int, d2 = (values3.set ((gt s_ t33)).toNat 0) →
  I2 (IntKind.i64.wrap (t33 + 1)) d2 ∧
 μ2 (IntKind.i64.wrap (t33 + 1)) d2 < μ2 t33 values3) ∧
 ((decide (t33 < ((s_.length : Nat) : Int))) = false →
  ∃ (I3 : Bool → (List Int) → Prop) (μ3 : Bool → (List Int) → Nat), I3 true values3 ∧ ∀ (changed : Bool) (values5 : List Int), I3 changed values5 → F_valuesS_L3 t costs K changed values5 I3 μ3)
def F_valuesS_L1 (t : Task) (s_ : List Int) (costs : List Int) (K : (List Int) → Prop) (t24 : Int) (values : List Int) (I1 : Int → (List Int) → Prop) (μ1 : Int → (List Int) → Nat) : Prop :=
 ((decide (t24 < (((t.facts).toNat : Nat) : Int))) = true →
  (inb values t24) ∧
  ∀ d : List Int, d = (values.set (t24).toNat 1000000000) →
  I1 (IntKind.i64.wrap (t24 + 1)) d ∧
 μ1 (IntKind.i64.wrap (t24 + 1)) d < μ1 t24 values) ∧
 ((decide (t24 < (((t.facts).toNat : Nat) : Int))) = false →
  ∃ (I2 : Int → (List Int) → Prop) (μ2 : Int → (List Int) → Nat), I2 0 values ∧ ∀ (t33 : Int) (values3 : List Int), I2 t33 values3 → F_valuesS_L2 t s_ costs K t33 values3 I2 μ2)
def F_valuesS (t : Task) (s_ : List Int) (costs : List Int) (K : (List Int) → Prop) : Prop :=
 (mkok t.facts 8) ∧
 ∃ (I1 : Int → (List Int) → Prop) (μ1 : Int → (List Int) → Nat), I1 0 (List.replicate (t.facts).toNat (0 : Int)) ∧ ∀ (t24 : Int) (values : List Int), I1 t24 values → F_valuesS_L1 t s_ costs K t24 values I1 μ1
def F_relMax (t : Task) (s_ : List Int) (K : (List Int × Int × Fault) → Prop) : Prop :=
 ∀ r2 : Fault, r2 = (sp_stateFault t s_) →
 ((!((r2.code == 0) && (r2.index == 0))) = true →
  K (([] : List Int), 0, r2)) ∧
 ((!((r2.code == 0) && (r2.index == 0))) = false →
  (pre_costsR t) ∧
  ∀ r3 : List Int, r3 = (sp_costsR t) →
  (pre_valuesG t s_ r3) ∧
  ∀ r4 : List Int, r4 = (sp_valuesG t s_ r3) →
  (pre_greatest r4 t.goal) ∧
  ∀ r5 : Int, r5 = (sp_greatest r4 t.goal) →
  K (r4, r5, (⟨0, 0⟩ : Fault)))
def F_relAdd (t : Task) (s_ : List Int) (K : (List Int × Int × Fault) → Prop) : Prop :=
 ∀ r2 : Fault, r2 = (sp_stateFault t s_) →
 ((!((r2.code == 0) && (r2.index == 0))) = true →
  K (([] : List Int), 0, r2)) ∧
 ((!((r2.code == 0) && (r2.index == 0))) = false →
  (pre_costsR t) ∧
  ∀ r3 : List Int, r3 = (sp_costsR t) →
  (pre_valuesS t s_ r3) ∧
  ∀ r4 : List Int, r4 = (sp_valuesS t s_ r3) →
  (pre_sumR r4 t.goal) ∧
  ∀ r5 : Int, r5 = (sp_sumR r4 t.goal) →
  K (r4, r5, (⟨0, 0⟩ : Fault)))
def F_has_L1 (l : List Int) (n_ : Int) (K : Bool → Prop) (i : Int) (I1 : Int → Prop) (μ1 : Int → Nat) : Prop :=
 ((decide (i < ((l.length : Nat) : Int))) = true →
  (inb l i) ∧
  (((gt l i) == n_) = true →
   K true) ∧
  (((gt l i) == n_) = false →
   I1 (IntKind.i64.wrap (i + 1)) ∧
 μ1 (IntKind.i64.wrap (i + 1)) < μ1 i)) ∧
 ((decide (i < ((l.length : Nat) : Int))) = false →
  K false)
def F_has (l : List Int) (n_ : Int) (K : Bool → Prop) : Prop :=
 ∃ (I1 : Int → Prop) (μ1 : Int → Nat), I1 0 ∧ ∀ (i : Int), I1 i → F_has_L1 l n_ K i I1 μ1
def F_subset_L1 (part : List Int) (l : List Int) (K : Bool → Prop) (i : Int) (I1 : Int → Prop) (μ1 : Int → Nat) : Prop :=
 ((decide (i < ((part.length : Nat) : Int))) = true →
  (inb part i) ∧
  (pre_has l (gt part i)) ∧
  ∀ r2 : Bool, r2 = (sp_has l (gt part i)) →
  ((!r2) = true →
   K false) ∧
  ((!r2) = false →
   I1 (IntKind.i64.wrap (i + 1)) ∧
 μ1 (IntKind.i64.wrap (i + 1)) < μ1 i)) ∧
 ((decide (i < ((part.length : Nat) : Int))) = false →
  K true)
def F_subset (part : List Int) (l : List Int) (K : Bool → Prop) : Prop :=
 ∃ (I1 : Int → Prop) (μ1 : Int → Nat), I1 0 ∧ ∀ (i : Int), I1 i → F_subset_L1 part l K i I1 μ1
def F_applies (t : Task) (s_ : List Int) (op : Int) (K : Bool → Prop) : Prop :=
 (inb t.ops op) ∧
 (pre_subset ((gt t.ops op).pre) s_) ∧
 ∀ r2 : Bool, r2 = (sp_subset ((gt t.ops op).pre) s_) →
 K r2
def F_after_J1 (out : List Int) (p : Int) (I1 : Int → (List Int) → Prop) (μ1 : Int → (List Int) → Nat) (out3 : List Int) : Prop :=
 I1 (IntKind.i64.wrap (p + 1)) out3 ∧
 μ1 (IntKind.i64.wrap (p + 1)) out3 < μ1 p out
def F_after_J2 (t38 : Bool) (out : List Int) (p : Int) (I1 : Int → (List Int) → Prop) (μ1 : Int → (List Int) → Nat) : Prop :=
 ((t38) = true →
  (room ((out ++ ([p] : List Int))).length 8) ∧
  F_after_J1 out p I1 μ1 (out ++ ([p] : List Int))) ∧
 ((t38) = false →
  F_after_J1 out p I1 μ1 out)
def F_after_L1 (t : Task) (s_ : List Int) (op : Int) (K : (List Int) → Prop) (out : List Int) (p : Int) (I1 : Int → (List Int) → Prop) (μ1 : Int → (List Int) → Nat) : Prop :=
 ((decide (p < t.facts)) = true →
  (inb t.ops op) ∧
  (pre_has ((gt t.ops op).add) p) ∧
  ∀ r2 : Bool, r2 = (sp_has ((gt t.ops op).add) p) →
  ((r2) = true →
   F_after_J2 true out p I1 μ1) ∧
  ((r2) = false →
   (pre_has s_ p) ∧
   ∀ r3 : Bool, r3 = (sp_has s_ p) →
   ((r3) = true →
    (pre_has ((gt t.ops op).del) p) ∧
    ∀ r4 : Bool, r4 = (sp_has ((gt t.ops op).del) p) →
    F_after_J2 (!r4) out p I1 μ1) ∧
   ((r3) = false →
    F_after_J2 false out p I1 μ1))) ∧
 ((decide (p < t.facts)) = false →
  K out)
def F_after (t : Task) (s_ : List Int) (op : Int) (K : (List Int) → Prop) : Prop :=
 ∃ (I1 : Int → (List Int) → Prop) (μ1 : Int → (List Int) → Nat), I1 0 ([] : List Int) ∧ ∀ (p : Int) (out : List Int), I1 p out → F_after_L1 t s_ op K out p I1 μ1
def F_hardest_J1 (best : Int) (t15 : Int) (I1 : Int → Int → Prop) (μ1 : Int → Int → Nat) (best3 : Int) : Prop :=
 I1 best3 (IntKind.i64.wrap (t15 + 1)) ∧
 μ1 best3 (IntKind.i64.wrap (t15 + 1)) < μ1 best t15
def F_hardest_J2 (facts : List Int) (t42 : Bool) (best : Int) (t15 : Int) (I1 : Int → Int → Prop) (μ1 : Int → Int → Nat) : Prop :=
 ((t42) = true →
  F_hardest_J1 best t15 I1 μ1 (gt facts t15)) ∧
 ((t42) = false →
  F_hardest_J1 best t15 I1 μ1 best)
def F_hardest_L1 (x : SearchT) (facts : List Int) (K : Int → Prop) (best : Int) (t15 : Int) (I1 : Int → Int → Prop) (μ1 : Int → Int → Nat) : Prop :=
 ((decide (t15 < ((facts.length : Nat) : Int))) = true →
  (inb facts t15) ∧
  ((best == x.t.facts) = true →
   F_hardest_J2 facts true best t15 I1 μ1) ∧
  ((best == x.t.facts) = false →
   (inb x.value (gt facts t15)) ∧
   (inb x.value best) ∧
   F_hardest_J2 facts (decide ((gt x.value best) < (gt x.value (gt facts t15)))) best t15 I1 μ1)) ∧
 ((decide (t15 < ((facts.length : Nat) : Int))) = false →
  K best)
def F_hardest (x : SearchT) (facts : List Int) (K : Int → Prop) : Prop :=
 ∃ (I1 : Int → Int → Prop) (μ1 : Int → Int → Nat), I1 x.t.facts 0 ∧ ∀ (best : Int) (t15 : Int), I1 best t15 → F_hardest_L1 x facts K best t15 I1 μ1
def F_zone_J1 (changed3 : Bool) (in_3 : List Bool) (t33 : Int) (changed5 : Bool) (in_5 : List Bool) (I2 : Bool → Int → (List Bool) → Prop) (μ2 : Bool → Int → (List Bool) → Nat) : Prop :=
 I2 changed5 (IntKind.i64.wrap (t33 + 1)) in_5 ∧
 μ2 changed5 (IntKind.i64.wrap (t33 + 1)) in_5 < μ2 changed3 t33 in_3
def F_zone_J3 (t59 : Int) (I3 : Bool → Int → (List Bool) → Prop) (μ3 : Bool → Int → (List Bool) → Nat) (changed6 : Bool) (in_6 : List Bool) (changed8 : Bool) (in_8 : List Bool) : Prop :=
 I3 changed8 (IntKind.i64.wrap (t59 + 1)) in_8 ∧
 μ3 changed8 (IntKind.i64.wrap (t59 + 1)) in_8 < μ3 changed6 t59 in_6
def F_zone_L3 (x : SearchT) (r3 : Int) (t59 : Int) (I3 : Bool → Int → (List Bool) → Prop) (μ3 : Bool → Int → (List Bool) → Nat) (changed3 : Bool) (in_3 : List Bool) (t33 : Int) (I2 : Bool → Int → (List Bool) → Prop) (μ2 : Bool → Int → (List Bool) → Nat) (changed6 : Bool) (in_6 : List Bool) : Prop :=
 ((decide (t59 < (((gt x.t.ops t33).add.length : Nat) : Int))) = true →
  (inb ((gt x.t.ops t33).add) t59) ∧
  (inb in_6 (gt ((gt x.t.ops t33).add) t59)) ∧
  (((gt in_6 (gt ((gt x.t.ops t33).add) t59))) = true →
   (inb in_6 r3) ∧
   ∀ d2 : List Bool, d2 = (in_6.set (r3).toNat true) →
   F_zone_J3 t59 I3 μ3 changed6 in_6 true d2) ∧
  (((gt in_6 (gt ((gt x.t.ops t33).add) t59))) = false →
   F_zone_J3 t59 I3 μ3 changed6 in_6 changed6 in_6)) ∧
 ((decide (t59 < (((gt x.t.ops t33).add.length : Nat) : Int))) = false →
  F_zone_J1 changed3 in_3 t33 changed6 in_6 I2 μ2)
def F_zone_J2 (x : SearchT) (r3 : Int) (t55 : Bool) (changed3 : Bool) (in_3 : List Bool) (t33 : Int) (I2 : Bool → Int → (List Bool) → Prop) (μ2 : Bool → Int → (List Bool) → Nat) : Prop :=
 ((t55) = true →
  F_zone_J1 changed3 in_3 t33 changed3 in_3 I2 μ2) ∧
 ((t55) = false →
  ∃ (I3 : Bool → Int → (List Bool) → Prop) (μ3 : Bool → Int → (List Bool) → Nat), I3 changed3 0 in_3 ∧ ∀ (changed6 : Bool) (t59 : Int) (in_6 : List Bool), I3 changed6 t59 in_6 → F_zone_L3 x r3 t59 I3 μ3 changed3 in_3 t33 I2 μ2 changed6 in_6)
def F_zone_L2 (x : SearchT) (changed : Bool) (in_ : List Bool) (changed3 : Bool) (in_3 : List Bool) (t33 : Int) (I2 : Bool → Int → (List Bool) → Prop) (μ2 : Bool → Int → (List Bool) → Nat) (I1 : Bool → (List Bool) → Prop) (μ1 : Bool → (List Bool) → Nat) : Prop :=
 ((decide (t33 < ((x.t.ops.length : Nat) : Int))) = true →
  (inb x.t.ops t33) ∧
  (pre_hardest x ((gt x.t.ops t33).pre)) ∧
  ∀ r3 : Int, r3 = (sp_hardest x ((gt x.t.ops t33).pre)) →
  (inb x.costs t33) ∧
  ((decide (0 < (gt x.costs t33))) = true →
   F_zone_J2 x r3 true changed3 in_3 t33 I2 μ2) ∧
  ((decide (0 < (gt x.costs t33))) = false →
   (inb in_3 r3) ∧
   F_zone_J2 x r3 (gt in_3 r3) changed3 in_3 t33 I2 μ2)) ∧
 ((decide (t33 < ((x.t.ops.length : Nat) : Int))) = false →
  I1 changed3 in_3 ∧
 μ1 changed3 in_3 < μ1 changed in_)
def F_zone_L1 (x : SearchT) (K : (List Bool) → Prop) (changed : Bool) (in_ : List Bool) (I1 : Bool → (List Bool) → Prop) (μ1 : Bool → (List Bool) → Nat) : Prop :=
 ((changed) = true →
  ∃ (I2 : Bool → Int → (List Bool) → Prop) (μ2 : Bool → Int → (List Bool) → Nat), I2 false 0 in_ ∧ ∀ (changed3 : Bool) (t33 : Int) (in_3 : List Bool), I2 changed3 t33 in_3 → F_zone_L2 x changed in_ changed3 in_3 t33 I2 μ2 I1 μ1) ∧
 ((changed) = false →
  K in_)
def F_zone (x : SearchT) (K : (List Bool) → Prop) : Prop :=
 (mkok (IntKind.i64.wrap (x.t.facts + 1)) 1) ∧
 (pre_hardest x x.t.goal) ∧
 ∀ r2 : Int, r2 = (sp_hardest x x.t.goal) →
 (inb (List.replicate (IntKind.i64.wrap (x.t.facts + 1)).toNat (false : Bool)) r2) ∧
 ∀ d : List Bool, d = ((List.replicate (IntKind.i64.wrap (x.t.facts + 1)).toNat (false : Bool)).set (r2).toNat true) →
 ∃ (I1 : Bool → (List Bool) → Prop) (μ1 : Bool → (List Bool) → Nat), I1 true d ∧ ∀ (changed : Bool) (in_ : List Bool), I1 changed in_ → F_zone_L1 x K changed in_ I1 μ1
def F_beforeZ_J1 (changed3 : Bool) (in_5 : List Bool) (t47 : Int) (changed5 : Bool) (in_7 : List Bool) (I3 : Bool → Int → (List Bool) → Prop) (μ3 : Bool → Int → (List Bool) → Nat) : Prop :=
 I3 changed5 (IntKind.i64.wrap (t47 + 1)) in_7 ∧
 μ3 changed5 (IntKind.i64.wrap (t47 + 1)) in_7 < μ3 changed3 t47 in_5
def F_beforeZ_J2 (t62 : Int) (I4 : Bool → Int → (List Bool) → Prop) (μ4 : Bool → Int → (List Bool) → Nat) (changed6 : Bool) (in_8 : List Bool) (changed8 : Bool) (in_10 : List Bool) : Prop :=
 I4 changed8 (IntKind.i64.wrap (t62 + 1)) in_10 ∧
 μ4 changed8 (IntKind.i64.wrap (t62 + 1)) in_10 < μ4 changed6 t62 in_8
def F_beforeZ_J3 (x : SearchT) (t77 : Bool) (t62 : Int) (I4 : Bool → Int → (List Bool) → Prop) (μ4 : Bool → Int → (List Bool) → Nat) (t47 : Int) (changed6 : Bool) (in_8 : List Bool) : Prop :=
 ((t77) = true →
  (inb in_8 (gt ((gt x.t.ops t47).add) t62)) ∧
  ∀ d3 : List Bool, d3 = (in_8.set ((gt ((gt x.t.ops t47).add) t62)).toNat true) →
  F_beforeZ_J2 t62 I4 μ4 changed6 in_8 true d3) ∧
 ((t77) = false →
  F_beforeZ_J2 t62 I4 μ4 changed6 in_8 changed6 in_8)
def F_beforeZ_L4 (x : SearchT) (zone : List Bool) (t62 : Int) (I4 : Bool → Int → (List Bool) → Prop) (μ4 : Bool → Int → (List Bool) → Nat) (changed3 : Bool) (in_5 : List Bool) (t47 : Int) (I3 : Bool → Int → (List Bool) → Prop) (μ3 : Bool → Int → (List Bool) → Nat) (changed6 : Bool) (in_8 : List Bool) : Prop :=
 ((decide (t62 < (((gt x.t.ops t47).add.length : Nat) : Int))) = true →
  (inb ((gt x.t.ops t47).add) t62) ∧
  (inb in_8 (gt ((gt x.t.ops t47).add) t62)) ∧
  ((!(gt in_8 (gt ((gt x.t.ops t47).add) t62))) = true →
   (inb zone (gt ((gt x.t.ops t47).add) t62)) ∧
   F_beforeZ_J3 x (!(gt zone (gt ((gt x.t.ops t47).add) t62))) t62 I4 μ4 t47 changed6 in_8) ∧
  ((!(gt in_8 (gt ((gt x.t.ops t47).add) t62))) = false →
   F_beforeZ_J3 x false t62 I4 μ4 t47 changed6 in_8)) ∧
 ((decide (t62 < (((gt x.t.ops t47).add.length : Nat) : Int))) = false →
  F_beforeZ_J1 changed3 in_5 t47 changed6 in_8 I3 μ3)
def F_beforeZ_L3 (x : SearchT) (zone : List Bool) (changed : Bool) (in_3 : List Bool) (changed3 : Bool) (in_5 : List Bool) (t47 : Int) (I3 : Bool → Int → (List Bool) → Prop) (μ3 : Bool → Int → (List Bool) → Nat) (I2 : Bool → (List Bool) → Prop) (μ2 : Bool → (List Bool) → Nat) : Prop :=
 ((decide (t47 < ((x.t.ops.length : Nat) : Int))) = true →
  (inb x.t.ops t47) ∧
  (pre_hardest x ((gt x.t.ops t47).pre)) ∧
  ∀ r2 : Int, r2 = (sp_hardest x ((gt x.t.ops t47).pre)) →
  (inb in_5 r2) ∧
  ((!(gt in_5 r2)) = true →
   F_beforeZ_J1 changed3 in_5 t47 changed3 in_5 I3 μ3) ∧
  ((!(gt in_5 r2)) = false →
   ∃ (I4 : Bool → Int → (List Bool) → Prop) (μ4 : Bool → Int → (List Bool) → Nat), I4 changed3 0 in_5 ∧ ∀ (changed6 : Bool) (t62 : Int) (in_8 : List Bool), I4 changed6 t62 in_8 → F_beforeZ_L4 x zone t62 I4 μ4 changed3 in_5 t47 I3 μ3 changed6 in_8)) ∧
 ((decide (t47 < ((x.t.ops.length : Nat) : Int))) = false →
  I2 changed3 in_5 ∧
 μ2 changed3 in_5 < μ2 changed in_3)
def F_beforeZ_L2 (x : SearchT) (zone : List Bool) (K : (List Bool) → Prop) (changed : Bool) (in_3 : List Bool) (I2 : Bool → (List Bool) → Prop) (μ2 : Bool → (List Bool) → Nat) : Prop :=
 ((changed) = true →
  ∃ (I3 : Bool → Int → (List Bool) → Prop) (μ3 : Bool → Int → (List Bool) → Nat), I3 false 0 in_3 ∧ ∀ (changed3 : Bool) (t47 : Int) (in_5 : List Bool), I3 changed3 t47 in_5 → F_beforeZ_L3 x zone changed in_3 changed3 in_5 t47 I3 μ3 I2 μ2) ∧
 ((changed) = false →
  K in_3)
def F_beforeZ_L1 (x : SearchT) (zone : List Bool) (K : (List Bool) → Prop) (t32 : Int) (in_ : List Bool) (I1 : Int → (List Bool) → Prop) (μ1 : Int → (List Bool) → Nat) : Prop :=
 ((decide (t32 < ((x.s.length : Nat) : Int))) = true →
  (inb x.s t32) ∧
  (inb in_ (gt x.s t32)) ∧
  ∀ d2 : List Bool, d2 = (in_.set ((gt x.s t32)).toNat true) →
  I1 (IntKind.i64.wrap (t32 + 1)) d2 ∧
 μ1 (IntKind.i64.wrap (t32 + 1)) d2 < μ1 t32 in_) ∧
 ((decide (t32 < ((x.s.length : Nat) : Int))) = false →
  ∃ (I2 : Bool → (List Bool) → Prop) (μ2 : Bool → (List Bool) → Nat), I2 true in_ ∧ ∀ (changed : Bool) (in_3 : List Bool), I2 changed in_3 → F_beforeZ_L2 x zone K changed in_3 I2 μ2)
def F_beforeZ (x : SearchT) (zone : List Bool) (K : (List Bool) → Prop) : Prop :=
 (mkok (IntKind.i64.wrap (x.t.facts + 1)) 1) ∧
 (inb (List.replicate (IntKind.i64.wrap (x.t.facts + 1)).toNat (false : Bool)) x.t.facts) ∧
 ∀ d : List Bool, d = ((List.replicate (IntKind.i64.wrap (x.t.facts + 1)).toNat (false : Bool)).set (x.t.facts).toNat true) →
 ∃ (I1 : Int → (List Bool) → Prop) (μ1 : Int → (List Bool) → Nat), I1 0 d ∧ ∀ (t32 : Int) (in_ : List Bool), I1 t32 in_ → F_beforeZ_L1 x zone K t32 in_ I1 μ1
def F_cuts_J2 (x : Int) (t22 : Int) (I2 : Int → Int → (List Int) → Prop) (μ2 : Int → Int → (List Int) → Nat) (x3 : Int) (l6 : List Int) (l8 : List Int) : Prop :=
 I2 (IntKind.i64.wrap (t22 + 1)) x3 l8 ∧
 μ2 (IntKind.i64.wrap (t22 + 1)) x3 l8 < μ2 t22 x l6
def F_cuts_L3 (t : Task) (l : List Int) (r5 : List Bool) (t38 : Int) (I3 : Int → Prop) (μ3 : Int → Nat) (x : Int) (t22 : Int) (I2 : Int → Int → (List Int) → Prop) (μ2 : Int → Int → (List Int) → Nat) (l6 : List Int) : Prop :=
 ((decide (t38 < (((gt t.ops t22).add.length : Nat) : Int))) = true →
  (inb ((gt t.ops t22).add) t38) ∧
  (inb r5 (gt ((gt t.ops t22).add) t38)) ∧
  (((gt r5 (gt ((gt t.ops t22).add) t38))) = true →
   (room ((l6 ++ ([t22] : List Int))).length 8) ∧
   (inb l t22) ∧
   F_cuts_J2 x t22 I2 μ2 (if (gt l t22) < x then (gt l t22) else x) l6 (l6 ++ ([t22] : List Int))) ∧
  (((gt r5 (gt ((gt t.ops t22).add) t38))) = false →
   I3 (IntKind.i64.wrap (t38 + 1)) ∧
 μ3 (IntKind.i64.wrap (t38 + 1)) < μ3 t38)) ∧
 ((decide (t38 < (((gt t.ops t22).add.length : Nat) : Int))) = false →
  F_cuts_J2 x t22 I2 μ2 x l6 l6)
def F_cuts_L4 (l : List Int) (x : Int) (l2 : List Int) (t48 : Int) (l5 : List Int) (l6 : List Int) (I4 : Int → (List Int) → Prop) (μ4 : Int → (List Int) → Nat) (total : Int) (cuts : List Cut) (I1 : Int → (List Cut) → (List Int) → (List Int) → Prop) (μ1 : Int → (List Cut) → (List Int) → (List Int) → Nat) (l9 : List Int) : Prop :=
 ((decide (t48 < ((l6.length : Nat) : Int))) = true →
  (inb l6 t48) ∧
  (inb l9 (gt l6 t48)) ∧
  ∀ d : List Int, d = (l9.set ((gt l6 t48)).toNat (IntKind.i64.wrap ((gt l9 (gt l6 t48)) - x))) →
  I4 (IntKind.i64.wrap (t48 + 1)) d ∧
 μ4 (IntKind.i64.wrap (t48 + 1)) d < μ4 t48 l9) ∧
 ((decide (t48 < ((l6.length : Nat) : Int))) = false →
  (room ((cuts ++ ([(⟨l6, x⟩ : Cut)] : List Cut))).length 32) ∧
  I1 (IntKind.i64.wrap (total + x)) (cuts ++ ([(⟨l6, x⟩ : Cut)] : List Cut)) l9 l5 ∧
 μ1 (IntKind.i64.wrap (total + x)) (cuts ++ ([(⟨l6, x⟩ : Cut)] : List Cut)) l9 l5 < μ1 total cuts l l2)
def F_cuts_L2 (t : Task) (s_ : List Int) (l : List Int) (r5 : List Bool) (r6 : List Bool) (x : Int) (l2 : List Int) (t22 : Int) (I2 : Int → Int → (List Int) → Prop) (μ2 : Int → Int → (List Int) → Nat) (l5 : List Int) (l6 : List Int) (total : Int) (cuts : List Cut) (I1 : Int → (List Cut) → (List Int) → (List Int) → Prop) (μ1 : Int → (List Cut) → (List Int) → (List Int) → Nat) : Prop :=
 ((decide (t22 < ((t.ops.length : Nat) : Int))) = true →
  (inb t.ops t22) ∧
  (pre_hardest (⟨t, s_, l, l5⟩ : SearchT) ((gt t.ops t22).pre)) ∧
  ∀ r7 : Int, r7 = (sp_hardest (⟨t, s_, l, l5⟩ : SearchT) ((gt t.ops t22).pre)) →
  (inb r6 r7) ∧
  ((!(gt r6 r7)) = true →
   F_cuts_J2 x t22 I2 μ2 x l6 l6) ∧
  ((!(gt r6 r7)) = false →
   ∃ (I3 : Int → Prop) (μ3 : Int → Nat), I3 0 ∧ ∀ (t38 : Int), I3 t38 → F_cuts_L3 t l r5 t38 I3 μ3 x t22 I2 μ2 l6)) ∧
 ((decide (t22 < ((t.ops.length : Nat) : Int))) = false →
  ∃ (I4 : Int → (List Int) → Prop) (μ4 : Int → (List Int) → Nat), I4 0 l ∧ ∀ (t48 : Int) (l9 : List Int), I4 t48 l9 → F_cuts_L4 l x l2 t48 l5 l6 I4 μ4 total cuts I1 μ1 l9)
def F_cuts_J1 (t : Task) (s_ : List Int) (K : (List Cut × Int × Fault) → Prop) (l : List Int) (l2 : List Int) (l5 : List Int) (total : Int) (cuts : List Cut) (I1 : Int → (List Cut) → (List Int) → (List Int) → Prop) (μ1 : Int → (List Cut) → (List Int) → (List Int) → Nat) : Prop :=
 (pre_greatest l5 t.goal) ∧
 ∀ r4 : Int, r4 = (sp_greatest l5 t.goal) →
 ((r4 == 0) = true →
  K (cuts, total, (⟨0, 0⟩ : Fault))) ∧
 ((r4 == 0) = false →
  ((r4 == 1000000000) = true →
   K (([] : List Cut), 1000000000, (⟨0, 0⟩ : Fault))) ∧
  ((r4 == 1000000000) = false →
   (pre_zone (⟨t, s_, l, l5⟩ : SearchT)) ∧
   ∀ r5 : List Bool, r5 = (sp_zone (⟨t, s_, l, l5⟩ : SearchT)) →
   (pre_beforeZ (⟨t, s_, l, l5⟩ : SearchT) r5) ∧
   ∀ r6 : List Bool, r6 = (sp_beforeZ (⟨t, s_, l, l5⟩ : SearchT) r5) →
   ∃ (I2 : Int → Int → (List Int) → Prop) (μ2 : Int → Int → (List Int) → Nat), I2 0 1000000000 ([] : List Int) ∧ ∀ (t22 : Int) (x : Int) (l6 : List Int), I2 t22 x l6 → F_cuts_L2 t s_ l r5 r6 x l2 t22 I2 μ2 l5 l6 total cuts I1 μ1))
def F_cuts_L1 (t : Task) (s_ : List Int) (K : (List Cut × Int × Fault) → Prop) (l : List Int) (l2 : List Int) (total : Int) (cuts : List Cut) (I1 : Int → (List Cut) → (List Int) → (List Int) → Prop) (μ1 : Int → (List Cut) → (List Int) → (List Int) → Nat) : Prop :=
 (pre_valuesG t s_ l) ∧
 ∀ r8 : List Int, r8 = (sp_valuesG t s_ l) →
 (room ((r8 ++ ([0] : List Int))).length 8) ∧
 F_cuts_J1 t s_ K l l2 (r8 ++ ([0] : List Int)) total cuts I1 μ1
def F_cuts (t : Task) (s_ : List Int) (K : (List Cut × Int × Fault) → Prop) : Prop :=
 ∀ r2 : Fault, r2 = (sp_stateFault t s_) →
 ((!((r2.code == 0) && (r2.index == 0))) = true →
  K (([] : List Cut), 0, r2)) ∧
 ((!((r2.code == 0) && (r2.index == 0))) = false →
  (pre_costsR t) ∧
  ∀ r3 : List Int, r3 = (sp_costsR t) →
  ∃ (I1 : Int → (List Cut) → (List Int) → (List Int) → Prop) (μ1 : Int → (List Cut) → (List Int) → (List Int) → Nat), I1 0 ([] : List Cut) r3 ([] : List Int) ∧ ∀ (total : Int) (cuts : List Cut) (l : List Int) (l2 : List Int), I1 total cuts l l2 → F_cuts_L1 t s_ K l l2 total cuts I1 μ1)
def F_wordR_L1 (s_ : List Int) (K : Int → Prop) (w_ : Int) (i : Int) (I1 : Int → Int → Prop) (μ1 : Int → Int → Nat) : Prop :=
 ((decide (i < ((s_.length : Nat) : Int))) = true →
  (inb s_ i) ∧
  (0 ≤ (IntKind.u64.wrap ((gt s_ i)))) ∧
  ∀ x : Int, x = (IntKind.i64.wrap (1 * 2 ^ (min ((IntKind.u64.wrap ((gt s_ i)) : Int)).toNat (IntKind.bits .i64)))) →
  I1 (IntKind.i64.wrap (w_ + x)) (IntKind.i64.wrap (i + 1)) ∧
 μ1 (IntKind.i64.wrap (w_ + x)) (IntKind.i64.wrap (i + 1)) < μ1 w_ i) ∧
 ((decide (i < ((s_.length : Nat) : Int))) = false →
  K w_)
def F_wordR (s_ : List Int) (K : Int → Prop) : Prop :=
 ∃ (I1 : Int → Int → Prop) (μ1 : Int → Int → Nat), I1 0 0 ∧ ∀ (w_ : Int) (i : Int), I1 w_ i → F_wordR_L1 s_ K w_ i I1 μ1
def F_reachedFrom_J1 (op : Int) (I2 : Int → (List (List Int)) → (List Int) → Prop) (μ2 : Int → (List (List Int)) → (List Int) → Nat) (out3 : List (List Int)) (words3 : List Int) (out5 : List (List Int)) (words5 : List Int) : Prop :=
 I2 (IntKind.i64.wrap (op + 1)) out5 words5 ∧
 μ2 (IntKind.i64.wrap (op + 1)) out5 words5 < μ2 op out3 words3
def F_reachedFrom_L2 (t : Task) (K : (List (List Int) × Bool) → Prop) (out : List (List Int)) (words : List Int) (op : Int) (I2 : Int → (List (List Int)) → (List Int) → Prop) (μ2 : Int → (List (List Int)) → (List Int) → Nat) (out3 : List (List Int)) (words3 : List Int) (i : Int) (I1 : Int → (List (List Int)) → (List Int) → Prop) (μ1 : Int → (List (List Int)) → (List Int) → Nat) : Prop :=
 ((decide (op < ((t.ops.length : Nat) : Int))) = true →
  (inb out3 i) ∧
  (pre_applies t (gt out3 i) op) ∧
  ∀ r3 : Bool, r3 = (sp_applies t (gt out3 i) op) →
  ((!r3) = true →
   F_reachedFrom_J1 op I2 μ2 out3 words3 out3 words3) ∧
  ((!r3) = false →
   (pre_after t (gt out3 i) op) ∧
   ∀ r4 : List Int, r4 = (sp_after t (gt out3 i) op) →
   (pre_wordR r4) ∧
   ∀ r5 : Int, r5 = (sp_wordR r4) →
   (pre_has words3 r5) ∧
   ∀ r6 : Bool, r6 = (sp_has words3 r5) →
   ((r6) = true →
    F_reachedFrom_J1 op I2 μ2 out3 words3 out3 words3) ∧
   ((r6) = false →
    ((((out3.length : Nat) : Int) == 2000) = true →
     K (([] : List (List Int)), false)) ∧
    ((((out3.length : Nat) : Int) == 2000) = false →
     (room ((out3 ++ ([r4] : List (List Int)))).length 24) ∧
     ∀ r7 : Int, r7 = (sp_wordR r4) →
     (room ((words3 ++ ([r7] : List Int))).length 8) ∧
     F_reachedFrom_J1 op I2 μ2 out3 words3 (out3 ++ ([r4] : List (List Int))) (words3 ++ ([r7] : List Int)))))) ∧
 ((decide (op < ((t.ops.length : Nat) : Int))) = false →
  I1 (IntKind.i64.wrap (i + 1)) out3 words3 ∧
 μ1 (IntKind.i64.wrap (i + 1)) out3 words3 < μ1 i out words)
def F_reachedFrom_L1 (t : Task) (K : (List (List Int) × Bool) → Prop) (out : List (List Int)) (words : List Int) (i : Int) (I1 : Int → (List (List Int)) → (List Int) → Prop) (μ1 : Int → (List (List Int)) → (List Int) → Nat) : Prop :=
 ((decide (i < ((out.length : Nat) : Int))) = true →
  ∃ (I2 : Int → (List (List Int)) → (List Int) → Prop) (μ2 : Int → (List (List Int)) → (List Int) → Nat), I2 0 out words ∧ ∀ (op : Int) (out3 : List (List Int)) (words3 : List Int), I2 op out3 words3 → F_reachedFrom_L2 t K out words op I2 μ2 out3 words3 i I1 μ1) ∧
 ((decide (i < ((out.length : Nat) : Int))) = false →
  K (out, true))
def F_reachedFrom (t : Task) (s_ : List Int) (K : (List (List Int) × Bool) → Prop) : Prop :=
 (pre_wordR s_) ∧
 ∀ r2 : Int, r2 = (sp_wordR s_) →
 ∃ (I1 : Int → (List (List Int)) → (List Int) → Prop) (μ1 : Int → (List (List Int)) → (List Int) → Nat), I1 0 ([s_] : List (List Int)) ([r2] : List Int) ∧ ∀ (i : Int) (out : List (List Int)) (words : List Int), I1 i out words → F_reachedFrom_L1 t K out words i I1 μ1
def F_costsRef_J1 (out : List Int) (words : List Int) (i : Int) (I1 : Int → (List Int) → (List Int) → Prop) (μ1 : Int → (List Int) → (List Int) → Nat) (out3 : List Int) (words3 : List Int) : Prop :=
 I1 (IntKind.i64.wrap (i + 1)) out3 words3 ∧
 μ1 (IntKind.i64.wrap (i + 1)) out3 words3 < μ1 i out words
def F_costsRef_J2 (from_3 : List Int) (to3 : List Int) (cost3 : List Int) (op : Int) (from_5 : List Int) (to5 : List Int) (cost5 : List Int) (I3 : Int → (List Int) → (List Int) → (List Int) → Prop) (μ3 : Int → (List Int) → (List Int) → (List Int) → Nat) : Prop :=
 I3 (IntKind.i64.wrap (op + 1)) from_5 to5 cost5 ∧
 μ3 (IntKind.i64.wrap (op + 1)) from_5 to5 cost5 < μ3 op from_3 to3 cost3
def F_costsRef_J3 (k : Int) (I4 : Int → (List Int) → (List Int) → (List Int) → Prop) (μ4 : Int → (List Int) → (List Int) → (List Int) → Nat) (from_6 : List Int) (to6 : List Int) (cost6 : List Int) (from_8 : List Int) (to8 : List Int) (cost8 : List Int) : Prop :=
 I4 (IntKind.i64.wrap (k + 1)) from_8 to8 cost8 ∧
 μ4 (IntKind.i64.wrap (k + 1)) from_8 to8 cost8 < μ4 k from_6 to6 cost6
def F_costsRef_L4 (t : Task) (words : List Int) (r6 : Int) (k : Int) (I4 : Int → (List Int) → (List Int) → (List Int) → Prop) (μ4 : Int → (List Int) → (List Int) → (List Int) → Nat) (from_3 : List Int) (to3 : List Int) (cost3 : List Int) (op : Int) (I3 : Int → (List Int) → (List Int) → (List Int) → Prop) (μ3 : Int → (List Int) → (List Int) → (List Int) → Nat) (from_6 : List Int) (to6 : List Int) (cost6 : List Int) (i3 : Int) : Prop :=
 ((decide (k < ((words.length : Nat) : Int))) = true →
  (inb words k) ∧
  (((gt words k) == r6) = true →
   (room ((from_6 ++ ([i3] : List Int))).length 8) ∧
   (room ((to6 ++ ([k] : List Int))).length 8) ∧
   (inb t.ops op) ∧
   (room ((cost6 ++ ([(gt t.ops op).cost] : List Int))).length 8) ∧
   F_costsRef_J3 k I4 μ4 from_6 to6 cost6 (from_6 ++ ([i3] : List Int)) (to6 ++ ([k] : List Int)) (cost6 ++ ([(gt t.ops op).cost] : List Int))) ∧
  (((gt words k) == r6) = false →
   F_costsRef_J3 k I4 μ4 from_6 to6 cost6 from_6 to6 cost6)) ∧
 ((decide (k < ((words.length : Nat) : Int))) = false →
  F_costsRef_J2 from_3 to3 cost3 op from_6 to6 cost6 I3 μ3)
def F_costsRef_L3 (t : Task) (l : List (List Int)) (words : List Int) (from_ : List Int) (cost : List Int) (to : List Int) (from_3 : List Int) (to3 : List Int) (cost3 : List Int) (op : Int) (I3 : Int → (List Int) → (List Int) → (List Int) → Prop) (μ3 : Int → (List Int) → (List Int) → (List Int) → Nat) (i3 : Int) (I2 : Int → (List Int) → (List Int) → (List Int) → Prop) (μ2 : Int → (List Int) → (List Int) → (List Int) → Nat) : Prop :=
 ((decide (op < ((t.ops.length : Nat) : Int))) = true →
  (inb l i3) ∧
  (pre_applies t (gt l i3) op) ∧
  ∀ r4 : Bool, r4 = (sp_applies t (gt l i3) op) →
  ((r4) = true →
   (pre_after t (gt l i3) op) ∧
   ∀ r5 : List Int, r5 = (sp_after t (gt l i3) op) →
   (pre_wordR r5) ∧
   ∀ r6 : Int, r6 = (sp_wordR r5) →
   ∃ (I4 : Int → (List Int) → (List Int) → (List Int) → Prop) (μ4 : Int → (List Int) → (List Int) → (List Int) → Nat), I4 0 from_3 to3 cost3 ∧ ∀ (k : Int) (from_6 : List Int) (to6 : List Int) (cost6 : List Int), I4 k from_6 to6 cost6 → F_costsRef_L4 t words r6 k I4 μ4 from_3 to3 cost3 op I3 μ3 from_6 to6 cost6 i3) ∧
  ((r4) = false →
   F_costsRef_J2 from_3 to3 cost3 op from_3 to3 cost3 I3 μ3)) ∧
 ((decide (op < ((t.ops.length : Nat) : Int))) = false →
  I2 (IntKind.i64.wrap (i3 + 1)) from_3 to3 cost3 ∧
 μ2 (IntKind.i64.wrap (i3 + 1)) from_3 to3 cost3 < μ2 i3 from_ to cost)
def F_costsRef_J4 (a19 : Int) (I6 : Bool → Int → (List Int) → Prop) (μ6 : Bool → Int → (List Int) → Nat) (again3 : Bool) (out6 : List Int) (again5 : Bool) (out8 : List Int) : Prop :=
 I6 again5 (IntKind.i64.wrap (a19 + 1)) out8 ∧
 μ6 again5 (IntKind.i64.wrap (a19 + 1)) out8 < μ6 again3 a19 out6
def F_costsRef_J5 (from_ : List Int) (cost : List Int) (to : List Int) (t137 : Bool) (a19 : Int) (I6 : Bool → Int → (List Int) → Prop) (μ6 : Bool → Int → (List Int) → Nat) (again3 : Bool) (out6 : List Int) : Prop :=
 ((t137) = true →
  (inb from_ a19) ∧
  (inb to a19) ∧
  (inb out6 (gt to a19)) ∧
  (inb cost a19) ∧
  (inb out6 (gt from_ a19)) ∧
  ∀ d : List Int, d = (out6.set ((gt from_ a19)).toNat (IntKind.i64.wrap ((gt out6 (gt to a19)) + (gt cost a19)))) →
  F_costsRef_J4 a19 I6 μ6 again3 out6 true d) ∧
 ((t137) = false →
  F_costsRef_J4 a19 I6 μ6 again3 out6 again3 out6)
def F_costsRef_L6 (from_ : List Int) (cost : List Int) (to : List Int) (again : Bool) (out4 : List Int) (a19 : Int) (I6 : Bool → Int → (List Int) → Prop) (μ6 : Bool → Int → (List Int) → Nat) (again3 : Bool) (out6 : List Int) (I5 : Bool → (List Int) → Prop) (μ5 : Bool → (List Int) → Nat) : Prop :=
 ((decide (a19 < ((from_.length : Nat) : Int))) = true →
  (inb to a19) ∧
  (inb out6 (gt to a19)) ∧
  ((decide ((gt out6 (gt to a19)) < 1000000000)) = true →
   (inb cost a19) ∧
   (inb from_ a19) ∧
   (inb out6 (gt from_ a19)) ∧
   ∀ x : Bool, x = (decide ((IntKind.i64.wrap ((gt out6 (gt to a19)) + (gt cost a19))) < (gt out6 (gt from_ a19)))) →
   F_costsRef_J5 from_ cost to x a19 I6 μ6 again3 out6) ∧
  ((decide ((gt out6 (gt to a19)) < 1000000000)) = false →
   F_costsRef_J5 from_ cost to false a19 I6 μ6 again3 out6)) ∧
 ((decide (a19 < ((from_.length : Nat) : Int))) = false →
  I5 again3 out6 ∧
 μ5 again3 out6 < μ5 again out4)
def F_costsRef_L5 (K : (List Int) → Prop) (from_ : List Int) (cost : List Int) (to : List Int) (again : Bool) (out4 : List Int) (I5 : Bool → (List Int) → Prop) (μ5 : Bool → (List Int) → Nat) : Prop :=
 ((again) = true →
  ∃ (I6 : Bool → Int → (List Int) → Prop) (μ6 : Bool → Int → (List Int) → Nat), I6 false 0 out4 ∧ ∀ (again3 : Bool) (a19 : Int) (out6 : List Int), I6 again3 a19 out6 → F_costsRef_L6 from_ cost to again out4 a19 I6 μ6 again3 out6 I5 μ5) ∧
 ((again) = false →
  K out4)
def F_costsRef_L2 (t : Task) (l : List (List Int)) (K : (List Int) → Prop) (out : List Int) (words : List Int) (from_ : List Int) (cost : List Int) (to : List Int) (i3 : Int) (I2 : Int → (List Int) → (List Int) → (List Int) → Prop) (μ2 : Int → (List Int) → (List Int) → (List Int) → Nat) : Prop :=
 ((decide (i3 < ((l.length : Nat) : Int))) = true →
  ∃ (I3 : Int → (List Int) → (List Int) → (List Int) → Prop) (μ3 : Int → (List Int) → (List Int) → (List Int) → Nat), I3 0 from_ to cost ∧ ∀ (op : Int) (from_3 : List Int) (to3 : List Int) (cost3 : List Int), I3 op from_3 to3 cost3 → F_costsRef_L3 t l words from_ cost to from_3 to3 cost3 op I3 μ3 i3 I2 μ2) ∧
 ((decide (i3 < ((l.length : Nat) : Int))) = false →
  ∃ (I5 : Bool → (List Int) → Prop) (μ5 : Bool → (List Int) → Nat), I5 true out ∧ ∀ (again : Bool) (out4 : List Int), I5 again out4 → F_costsRef_L5 K from_ cost to again out4 I5 μ5)
def F_costsRef_L1 (t : Task) (l : List (List Int)) (K : (List Int) → Prop) (out : List Int) (words : List Int) (i : Int) (I1 : Int → (List Int) → (List Int) → Prop) (μ1 : Int → (List Int) → (List Int) → Nat) : Prop :=
 ((decide (i < ((l.length : Nat) : Int))) = true →
  (inb l i) ∧
  (pre_wordR (gt l i)) ∧
  ∀ r2 : Int, r2 = (sp_wordR (gt l i)) →
  (room ((words ++ ([r2] : List Int))).length 8) ∧
  (pre_subset t.goal (gt l i)) ∧
  ∀ r3 : Bool, r3 = (sp_subset t.goal (gt l i)) →
  ((r3) = true →
   (room ((out ++ ([0] : List Int))).length 8) ∧
   F_costsRef_J1 out words i I1 μ1 (out ++ ([0] : List Int)) (words ++ ([r2] : List Int))) ∧
  ((r3) = false →
   (room ((out ++ ([1000000000] : List Int))).length 8) ∧
   F_costsRef_J1 out words i I1 μ1 (out ++ ([1000000000] : List Int)) (words ++ ([r2] : List Int)))) ∧
 ((decide (i < ((l.length : Nat) : Int))) = false →
  ∃ (I2 : Int → (List Int) → (List Int) → (List Int) → Prop) (μ2 : Int → (List Int) → (List Int) → (List Int) → Nat), I2 0 ([] : List Int) ([] : List Int) ([] : List Int) ∧ ∀ (i3 : Int) (from_ : List Int) (to : List Int) (cost : List Int), I2 i3 from_ to cost → F_costsRef_L2 t l K out words from_ cost to i3 I2 μ2)
def F_costsRef (t : Task) (l : List (List Int)) (K : (List Int) → Prop) : Prop :=
 ∃ (I1 : Int → (List Int) → (List Int) → Prop) (μ1 : Int → (List Int) → (List Int) → Nat), I1 0 ([] : List Int) ([] : List Int) ∧ ∀ (i : Int) (out : List Int) (words : List Int), I1 i out words → F_costsRef_L1 t l K out words i I1 μ1
def F_bestFrom (t : Task) (s_ : List Int) (K : Int → Prop) : Prop :=
 (pre_reachedFrom t s_) ∧
 ∀ r2 : List (List Int) × Bool, r2 = (sp_reachedFrom t s_) →
 ((!r2.2) = true →
  K (-1)) ∧
 ((!r2.2) = false →
  (pre_costsRef t r2.1) ∧
  ∀ r3 : List Int, r3 = (sp_costsRef t r2.1) →
  (inb r3 (0 : Int)) ∧
  K (gt r3 (0 : Int)))
def F_canonical_J1 (best : List Int) (t27 : Int) (I1 : (List Int) → Int → Prop) (μ1 : (List Int) → Int → Nat) (best3 : List Int) : Prop :=
 I1 best3 (IntKind.i64.wrap (t27 + 1)) ∧
 μ1 best3 (IntKind.i64.wrap (t27 + 1)) < μ1 best t27
def F_canonical_L1 (s_ : List Int) (K : (List Int × Fault) → Prop) (r4 : List (List Int)) (best : List Int) (t27 : Int) (I1 : (List Int) → Int → Prop) (μ1 : (List Int) → Int → Nat) : Prop :=
 ((decide (t27 < ((r4.length : Nat) : Int))) = true →
  (inb r4 t27) ∧
  (pre_image (gt r4 t27) s_) ∧
  ∀ r5 : List Int, r5 = (sp_image (gt r4 t27) s_) →
  (pre_scompare r5 best) ∧
  ∀ r6 : Int, r6 = (sp_scompare r5 best) →
  ((decide (r6 < 0)) = true →
   F_canonical_J1 best t27 I1 μ1 r5) ∧
  ((decide (r6 < 0)) = false →
   F_canonical_J1 best t27 I1 μ1 best)) ∧
 ((decide (t27 < ((r4.length : Nat) : Int))) = false →
  K (best, (⟨0, 0⟩ : Fault)))
def F_canonical (t : Task) (s_ : List Int) (K : (List Int × Fault) → Prop) : Prop :=
 ∀ r2 : Fault, r2 = (sp_stateFault t s_) →
 ((!((r2.code == 0) && (r2.index == 0))) = true →
  K (([] : List Int), r2)) ∧
 ((!((r2.code == 0) && (r2.index == 0))) = false →
  ((decide (6 < t.facts)) = true →
   K (([] : List Int), (⟨10, (-8)⟩ : Fault))) ∧
  ((decide (6 < t.facts)) = false →
   (pre_clone s_) ∧
   ∀ r3 : List Int, r3 = (sp_clone s_) →
   (pre_symAll t) ∧
   ∀ r4 : List (List Int), r4 = (sp_symAll t) →
   ∃ (I1 : (List Int) → Int → Prop) (μ1 : (List Int) → Int → Nat), I1 r3 0 ∧ ∀ (best : List Int) (t27 : Int), I1 best t27 → F_canonical_L1 s_ K r4 best t27 I1 μ1))
def F_lawSym_J2 (K : Bool → Prop) (r8 : List Cut × Int × Fault) (r9 : List Cut × Int × Fault) (r10 : Int) (t127 : Bool) : Prop :=
 ((t127) = true →
  K false) ∧
 ((t127) = false →
  ((decide (r10 < 0)) = true →
   K true) ∧
  ((decide (r10 < 0)) = false →
   ((decide (r8.2.1 ≤ r10)) = true →
    K (decide (r9.2.1 ≤ r10))) ∧
   ((decide (r8.2.1 ≤ r10)) = false →
    K false)))
def F_lawSym_J1 (t : Task) (s_ : List Int) (K : Bool → Prop) (r2 : List Int × Fault) (t38 : Bool) : Prop :=
 ((t38) = true →
  ∀ r3 : Bool, r3 = sp_kernWorks →
  ((r3) = true →
   K (((r2.1.length : Nat) : Int) == 0)) ∧
  ((r3) = false →
   K false)) ∧
 ((t38) = false →
  ∀ r4 : List Int × Int × Fault, r4 = (sp_relMax t s_) →
  ∀ r5 : List Int × Int × Fault, r5 = (sp_relMax t r2.1) →
  ∀ r6 : List Int × Int × Fault, r6 = (sp_relAdd t s_) →
  ∀ r7 : List Int × Int × Fault, r7 = (sp_relAdd t r2.1) →
  ∀ r8 : List Cut × Int × Fault, r8 = (sp_cuts t s_) →
  ∀ r9 : List Cut × Int × Fault, r9 = (sp_cuts t r2.1) →
  (pre_bestFrom t s_) ∧
  ∀ r10 : Int, r10 = (sp_bestFrom t s_) →
  ((r4.2.2.code != 0) = true →
   F_lawSym_J2 K r8 r9 r10 true) ∧
  ((r4.2.2.code != 0) = false →
   ((r5.2.2.code != 0) = true →
    F_lawSym_J2 K r8 r9 r10 true) ∧
   ((r5.2.2.code != 0) = false →
    ((r6.2.2.code != 0) = true →
     F_lawSym_J2 K r8 r9 r10 true) ∧
    ((r6.2.2.code != 0) = false →
     ((r7.2.2.code != 0) = true →
      F_lawSym_J2 K r8 r9 r10 true) ∧
     ((r7.2.2.code != 0) = false →
      ((r8.2.2.code != 0) = true →
       F_lawSym_J2 K r8 r9 r10 true) ∧
      ((r8.2.2.code != 0) = false →
       ((r9.2.2.code != 0) = true →
        F_lawSym_J2 K r8 r9 r10 true) ∧
       ((r9.2.2.code != 0) = false →
        ((r4.2.1 != r5.2.1) = true →
         F_lawSym_J2 K r8 r9 r10 true) ∧
        ((r4.2.1 != r5.2.1) = false →
         F_lawSym_J2 K r8 r9 r10 (r6.2.1 != r7.2.1)))))))))
def F_lawSym (t : Task) (s_ : List Int) (K : Bool → Prop) : Prop :=
 ∀ r2 : List Int × Fault, r2 = (sp_canonical t s_) →
 ∀ r11 : Bool, r11 = sp_kernWorks →
 ((!r11) = true →
  F_lawSym_J1 t s_ K r2 true) ∧
 ((!r11) = false →
  F_lawSym_J1 t s_ K r2 (r2.2.code != 0))
end Go.Proofs.YtimillpakjgnoaaGreat.Pl

namespace Go.Proofs.YtimillpakjgnoaaGreat.Pl
open Go Go.RowKit
end Go.Proofs.YtimillpakjgnoaaGreat.Pl

namespace Go.Proofs.YtimillpakjgnoaaGreat.Pl
open Go Go.RowKit
theorem ok_has : ∀ (l : List Int) (n_ : Int), pre_has l n_ → F_has l n_ (fun r => r = sp_has l n_) := fun l x hp => by
 unfold pre_has at hp
 refine ⟨fun t => ∃ k : Nat, t = k ∧ k ≤ l.length ∧ x ∉ l.take k, fun t => (l.length - t).toNat, ⟨0, rfl, Nat.zero_le _, by simp⟩, ?_⟩
 rintro _ ⟨k, rfl, k1, k2⟩
 unfold F_has_L1
 simp only [decide_eq_true_eq, decide_eq_false_iff_not, beq_iff_eq, beq_eq_false_iff_ne, ne_eq]
 refine ⟨fun h => ?_, fun h => ?_⟩
 ·have hk : k < l.length := by omega
  refine ⟨⟨by omega, h⟩, fun q => ?_, fun q => ?_⟩
  ·have : x ∈ l := q ▸ gt_memN hk
   simp [sp_has, this]
  ·rw [w64 (by omega)]
   refine ⟨⟨k + 1, by omega, by omega, ?_⟩, by omega⟩
   rw [takeN_gt hk]
   simp only [List.mem_append, List.mem_singleton, not_or]
   exact ⟨k2, fun e => q e.symm⟩
 ·rw [List.take_of_length_le (by omega)] at k2
  simp [sp_has, k2]
theorem idxOf_hit {l : List Int} {v : Int} {k : Nat} (hk : k < l.length) (h : v ∉ l.take k) (e : v = gt l (k : Int)) : l.idxOf v = k := by
 have h1 : l = l.take k ++ (gt l (k : Int) :: l.drop (k + 1)) := by
  have h2 := drop_gt (xs := l) (i := (k : Int)) ⟨by omega, by omega⟩
  have h3 : ((k : Int) + 1).toNat = k + 1 := by omega
  rw [h3, Int.toNat_natCast] at h2
  rw [← h2, List.take_append_drop]
 rw [h1, List.idxOf_append, if_neg h, ← e, List.idxOf_cons_self, List.length_take]
 omega
theorem ok_index : ∀ (s_ : List Int) (v : Int), pre_index s_ v → F_index s_ v (fun r => r = sp_index s_ v) := fun l x hp => by
 unfold pre_index at hp
 refine ⟨fun t => ∃ k : Nat, t = k ∧ k ≤ l.length ∧ x ∉ l.take k, fun t => (l.length - t).toNat, ⟨0, rfl, Nat.zero_le _, by simp⟩, ?_⟩
 rintro _ ⟨k, rfl, k1, k2⟩
 unfold F_index_L1
 simp only [decide_eq_true_eq, decide_eq_false_iff_not, beq_iff_eq, beq_eq_false_iff_ne, ne_eq]
 refine ⟨fun h => ?_, fun h => ?_⟩
 ·have hk : k < l.length := by omega
  refine ⟨⟨by omega, h⟩, fun q => ?_, fun q => ?_⟩
  ·have : x ∈ l := q ▸ gt_memN hk
   rw [sp_index, if_pos this, idxOf_hit hk k2 q]
  ·rw [w64 (by omega)]
   refine ⟨⟨k + 1, by omega, by omega, ?_⟩, by omega⟩
   rw [takeN_gt hk]
   simp only [List.mem_append, List.mem_singleton, not_or]
   exact ⟨k2, q⟩
 ·rw [List.take_of_length_le (by omega)] at k2
  rw [sp_index, if_neg k2]
theorem ok_contains : ∀ (s_ : List Int) (v : Int), pre_index s_ v → F_contains s_ v (fun r => r = sp_contains s_ v) := fun l x hp => by
 refine ⟨hp, fun r hr => ?_⟩
 rw [hr]
 unfold sp_index sp_contains
 by_cases h : x ∈ l
 ·rw [if_pos h]; simp [h]
 ·rw [if_neg h]; simp [h]
theorem ok_isNaN1 : ∀ (x : Int), F_isNaN1 x (fun r => r = sp_isNaN1 x) := fun x => by
 show (x != x) = false
 simp
theorem ok_isNaN2 : ∀ (x : Int), F_isNaN2 x (fun r => r = sp_isNaN1 x) := fun x => by
 show (x != x) = false
 simp
theorem ok_less : ∀ (x : Int) (y : Int), F_less x y (fun r => r = sp_less x y) := fun x y => by
 unfold F_less
 simp only [forall_eq, sp_isNaN1]
 exact ⟨fun h => absurd h (by decide), fun _ => rfl⟩
theorem ok_indexF : ∀ (s_ : List Int) (pf : Int → Bool) (Df : Int → Prop), pre_any s_ pf Df → F_indexF s_ pf Df (fun r => r = sp_indexF s_ pf Df) := fun xs p D ⟨hl, hD⟩ => by
 refine ⟨fun t => 0 ≤ t ∧ t ≤ xs.length ∧ ∀ x ∈ xs.take t.toNat, p x = false, fun t => (xs.length - t).toNat, ⟨Int.le_refl _, by omega, by simp⟩, ?_⟩
 rintro t ⟨h0, h1, h2⟩
 unfold F_indexF_L1
 obtain ⟨k1, k2⟩ := any_split h0 h2
 simp only [decide_eq_true_eq, decide_eq_false_iff_not, forall_eq]
 refine ⟨fun h => ⟨⟨h0, h⟩, hD _ (gt_mem ⟨h0, h⟩), fun q => (k1 h q).symm, fun q => ?_⟩, fun h => (k2 h).symm⟩
 rw [w64 (by omega)]
 exact ⟨⟨by omega, by omega, any_next h0 h2 h q⟩, by omega⟩
theorem ok_containsF : ∀ (s_ : List Int) (pf : Int → Bool) (Df : Int → Prop), pre_any s_ pf Df → F_containsF s_ pf Df (fun r => r = sp_any s_ pf Df) := fun xs p D hp => by
 refine ⟨hp, fun r hr => ?_⟩
 rw [hr]
 show decide (0 ≤ sp_indexF xs p D) = sp_any xs p D
 unfold sp_indexF sp_any
 cases h : xs.any p
 ·simp
 ·simp
end Go.Proofs.YtimillpakjgnoaaGreat.Pl

namespace Go.Proofs.YtimillpakjgnoaaGreat.Pl
open Go Go.RowKit
theorem half {n : Int} (h0 : 0 ≤ n) (h1 : n ≤ 100000) : IntKind.i64.wrap (Int.fdiv (IntKind.u64.wrap (IntKind.i64.wrap n)) (2 ^ (min ((1 : Int)).toNat (IntKind.bits .u64)))) = n / 2 := by
 have e : (2 : Int) ^ (min ((1 : Int)).toNat (IntKind.bits .u64)) = 2 := by decide
 rw [e, w64 (n := n) (by omega), IntKind.wrap_u64, Int.fdiv_eq_ediv_of_nonneg _ (by omega), w64 (by omega)]
 omega
theorem filter_lt {x : List Int} {t : Int} {i : Nat} (hi : i ≤ x.length) (h1 : ∀ p : Nat, p < i → gt x (p : Int) < t) (h2 : ∀ p : Nat, i ≤ p → p < x.length → t ≤ gt x (p : Int)) : (x.filter fun a => decide (a < t)).length = i := by
 have e1 : (x.take i).filter (fun a => decide (a < t)) = x.take i := List.filter_eq_self.2 fun a ha => by
  obtain ⟨p, hp, rfl⟩ := List.mem_take_iff_getElem.1 ha
  have := h1 p (by omega)
  rw [gt_of ⟨by omega, by omega⟩] at this
  simpa using this
 have e2 : (x.drop i).filter (fun a => decide (a < t)) = [] := List.filter_eq_nil_iff.2 fun a ha => by
  obtain ⟨p, hp, rfl⟩ := List.mem_drop_iff_getElem.1 ha
  have := h2 (i + p) (by omega) (by omega)
  rw [gt_of ⟨by omega, by omega⟩] at this
  simp only [Int.toNat_natCast] at this
  simpa [Nat.add_comm] using this
 conv => lhs; rw [← List.take_append_drop i x]
 rw [List.filter_append, e1, e2, List.append_nil, List.length_take]
 omega
theorem sorted_gt {x : List Int} (hs : x.Pairwise (· < ·)) {p q : Nat} (hpq : p < q) (hq : q < x.length) : gt x (p : Int) < gt x (q : Int) := by
 rw [gt_of ⟨by omega, by omega⟩, gt_of ⟨by omega, by omega⟩]
 exact List.pairwise_iff_getElem.1 hs _ _ _ _ (by simpa using hpq)
theorem ok_bsearch : ∀ (x : List Int) (target : Int), pre_bsearch x target → F_bsearch x target (fun r => r = sp_bsearch x target) := fun x t ⟨hs, hl⟩ => by
 refine ⟨fun i j => ∃ a b : Nat, i = a ∧ j = b ∧ a ≤ b ∧ b ≤ x.length ∧ (∀ p : Nat, p < a → gt x (p : Int) < t) ∧ ∀ p : Nat, b ≤ p → p < x.length → t ≤ gt x (p : Int), fun i j => (j - i).toNat, ⟨0, x.length, rfl, rfl, by omega, by omega, fun p hp => by omega, fun p h1 h2 => by omega⟩, ?_⟩
 rintro _ _ ⟨a, b, rfl, rfl, hab, hb, h1, h2⟩
 unfold F_bsearch_L1
 simp only [decide_eq_true_eq, decide_eq_false_iff_not, forall_eq, beq_iff_eq, beq_eq_false_iff_ne, ne_eq, sp_isNaN1, sp_less]
 have ew := half (n := (a : Int) + b) (by omega) (by omega)
 refine ⟨fun h => ?_, fun h => ?_⟩
 ·rw [ew]
  have em : ((a : Int) + b) / 2 = ((a + b) / 2 : Nat) := by omega
  rw [em]
  have hm : (a + b) / 2 < b := by omega
  refine ⟨⟨by omega, by omega⟩, fun q => ?_, fun q => ?_⟩
  ·rw [w64 (by omega)]
   refine ⟨⟨(a + b) / 2 + 1, b, by omega, rfl, by omega, hb, fun p hp => ?_, h2⟩, by omega⟩
   rcases Nat.lt_or_ge p ((a + b) / 2) with g | g
   ·exact Int.lt_trans (sorted_gt hs g (by omega)) q
   ·rw [show p = (a + b) / 2 by omega]; exact q
  ·refine ⟨⟨a, (a + b) / 2, rfl, rfl, by omega, by omega, h1, fun p g1 g2 => ?_⟩, by omega⟩
   rcases Nat.lt_or_ge ((a + b) / 2) p with g | g
   ·have := sorted_gt hs g g2
    omega
   ·rw [show p = (a + b) / 2 by omega]; omega
 ·have e : a = b := by omega
  subst e
  have hf := filter_lt hb h1 h2
  have hm : (t ∈ x) ↔ a < x.length ∧ gt x (a : Int) = t := by
   constructor
   ·intro hx
    obtain ⟨p, hp, e⟩ := mem_gt hx
    rcases Nat.lt_trichotomy p a with g | g | g
    ·have := h1 p g; omega
    ·subst g; exact ⟨hp, e⟩
    ·have := sorted_gt hs g hp
     have := h2 a (Nat.le_refl _) (by omega)
     omega
   ·rintro ⟨g1, g2⟩
    exact g2 ▸ gt_memN g1
  unfold sp_bsearch
  rw [hf]
  refine ⟨fun g => ⟨⟨by omega, g⟩, fun q => ?_, fun q => ⟨fun g => absurd g (by decide), fun _ => ?_⟩⟩, fun g => ?_⟩
  ·rw [decide_eq_true (hm.2 ⟨by omega, q⟩)]
  ·rw [decide_eq_false fun k => q (hm.1 k).2]
  ·rw [decide_eq_false fun k => g (by have := (hm.1 k).1; omega)]
def SetTo (l : List Int) (n : Int) (k : Nat) : Prop := ∀ p : Nat, p < k → (0 ≤ gt l (p : Int) ∧ gt l (p : Int) < n) ∧ (0 < p → gt l ((p - 1 : Nat) : Int) < gt l (p : Int))
theorem SetTo.pair {l : List Int} {n : Int} {k : Nat} (h : SetTo l n k) : ∀ q : Nat, q < k → ∀ p : Nat, p < q → gt l (p : Int) < gt l (q : Int)
 | 0, _, p, hp => by omega
 | q + 1, hq, p, hp => by
  have h1 := (h (q + 1) hq).2 (by omega)
  rw [Nat.add_sub_cancel] at h1
  rcases Nat.lt_or_ge p q with g | g
  ·exact Int.lt_trans (h.pair q (by omega) p g) h1
  ·rw [show p = q by omega]; exact h1
theorem SetTo.all {l : List Int} {n : Int} (h : SetTo l n l.length) : sp_isSet l n = true := decide_eq_true ⟨List.pairwise_iff_getElem.2 fun p q hp hq hpq => by
  have := h.pair q hq p hpq
  rw [gt_of ⟨by omega, by omega⟩, gt_of ⟨by omega, by omega⟩] at this
  simpa using this, fun x hx => by
  obtain ⟨p, hp, rfl⟩ := mem_gt hx
  exact (h p hp).1⟩
theorem setTo_of {l : List Int} {n : Int} (h : sp_isSet l n = true) : SetTo l n l.length := fun p hp =>
 ⟨(of_decide_eq_true h).2 _ (gt_memN hp), fun h0 => sorted_gt (of_decide_eq_true h).1 (by omega) hp⟩
theorem not_setTo {l : List Int} {n : Int} {k : Nat} (hk : k < l.length) (h : ¬ SetTo l n (k + 1)) : sp_isSet l n = false := by
 cases e : sp_isSet l n
 ·rfl
 ·exact absurd (fun p hp => setTo_of e p (by omega)) h
theorem SetTo.small {l : List Int} {n : Int} (hn : 0 ≤ n) : ∀ {k : Nat}, SetTo l n k → (k : Int) ≤ n ∧ (0 < k → (k : Int) ≤ gt l ((k - 1 : Nat) : Int) + 1)
 | 0, _ => ⟨by omega, fun h => by omega⟩
 | k + 1, h => by
  have ih := SetTo.small hn (k := k) (fun p hp => h p (by omega))
  have h1 := h k (by omega)
  rw [Nat.add_sub_cancel]
  rcases Nat.eq_zero_or_pos k with rfl | q
  ·constructor
   ·have := h1.1; omega
   ·intro _; have := h1.1; omega
  ·have h2 := h1.2 q
   have h3 := ih.2 q
   constructor
   ·have := h1.1; omega
   ·intro _; omega
theorem setTo_next {l : List Int} {n : Int} {k : Nat} (h : SetTo l n k) : SetTo l n (k + 1) ↔ (0 ≤ gt l (k : Int) ∧ gt l (k : Int) < n) ∧ (0 < k → gt l ((k - 1 : Nat) : Int) < gt l (k : Int)) := by
 refine ⟨fun g => g k (by omega), fun g p hp => ?_⟩
 rcases Nat.lt_or_ge p k with q | q
 ·exact h p q
 ·rw [show p = k by omega]; exact g
theorem ok_isSet : ∀ (l : List Int) (n_ : Int), pre_isSet l n_ → F_isSet l n_ (fun r => r = sp_isSet l n_) := fun l n ⟨n0, n1⟩ => by
 refine ⟨fun t => ∃ k : Nat, t = k ∧ k ≤ l.length ∧ SetTo l n k, fun t => (l.length - t).toNat, ⟨0, rfl, Nat.zero_le _, fun p hp => by omega⟩, ?_⟩
 rintro _ ⟨k, rfl, k1, k2⟩
 unfold F_isSet_L1 F_isSet_J1
 simp only [decide_eq_true_eq, decide_eq_false_iff_not]
 have hk := k2.small n0
 rw [w64 (n := (k : Int) + 1) (by omega)]
 refine ⟨fun h => ?_, fun h => ?_⟩
 ·have bad : ¬ ((0 ≤ gt l (k : Int) ∧ gt l (k : Int) < n) ∧ (0 < k → gt l ((k - 1 : Nat) : Int) < gt l (k : Int))) → false = sp_isSet l n := fun q => (not_setTo (k := k) (by omega) (fun g => q ((setTo_next k2).1 g))).symm
  have good : ((0 ≤ gt l (k : Int) ∧ gt l (k : Int) < n) ∧ (0 < k → gt l ((k - 1 : Nat) : Int) < gt l (k : Int))) → (∃ k' : Nat, (k : Int) + 1 = k' ∧ k' ≤ l.length ∧ SetTo l n k') ∧ ((l.length : Int) - (k + 1)).toNat < ((l.length : Int) - k).toNat := fun q => ⟨⟨k + 1, by omega, by omega, (setTo_next k2).2 q⟩, by omega⟩
  refine ⟨⟨by omega, h⟩, fun q => ⟨fun _ => bad fun g => ?_, fun g => absurd g (by decide)⟩, fun q => ⟨fun q2 => ⟨fun _ => bad fun g => ?_, fun g => absurd g (by decide)⟩, fun q2 => ⟨fun q3 => ?_, fun q3 => ⟨fun g => absurd g (by decide), fun _ => good ⟨by omega, fun q4 => by omega⟩⟩⟩⟩⟩
  ·have := g.1.1; omega
  ·have := g.1.2; omega
  ·rw [w64 (by omega), show ((k : Int) - 1) = ((k - 1 : Nat) : Int) by omega]
   refine ⟨⟨by omega, by omega⟩, fun g => bad fun g2 => ?_, fun g => good ⟨by omega, fun _ => by omega⟩⟩
   have := g2.2 (by omega); omega
 ·have : k = l.length := by omega
  subst this
  exact k2.all.symm
end Go.Proofs.YtimillpakjgnoaaGreat.Pl

namespace Go.Proofs.YtimillpakjgnoaaGreat.Pl
open Go Go.RowKit
theorem ok_meets1 : ∀ (x : Int) (x2 : List Int), pre_meets1 x x2 → F_meets1 x x2 (fun r => r = sp_meets1 x x2) := fun x b hp => by
 refine ⟨hp, fun r hr => ?_⟩
 rw [hr]; rfl
theorem ok_meets : ∀ (a : List Int) (b : List Int), pre_meets a b → F_meets a b (fun r => r = sp_meets a b) := fun a b ⟨h1, h2⟩ => by
 refine ⟨⟨h1, fun x _ => h2⟩, fun r hr => ?_⟩
 rw [hr]; rfl
theorem set_len {l : List Int} {n : Int} (hn : 0 ≤ n) (h : sp_isSet l n = true) : (l.length : Int) ≤ n := (setTo_of h).small hn |>.1
theorem set_sorted {l : List Int} {n : Int} (h : sp_isSet l n = true) : l.Pairwise (· < ·) := (of_decide_eq_true h).1
theorem set_rng {l : List Int} {n : Int} (h : sp_isSet l n = true) : ∀ x ∈ l, 0 ≤ x ∧ x < n := (of_decide_eq_true h).2
theorem ok_operator : ∀ (o : Operator) (facts : Int), pre_operator o facts → F_operator o facts (fun r => r = sp_operator o facts) := fun o n ⟨n0, n1⟩ => by
 have bad : ¬ (sp_isSet o.pre n = true ∧ sp_isSet o.add n = true ∧ sp_isSet o.del n = true ∧ sp_meets o.add o.del = false) → (5 : Int) = sp_operator o n := fun h => by rw [sp_operator, if_neg h]
 unfold F_operator F_operator_J1 F_operator_J2
 simp only [forall_eq, Bool.not_eq_true', Bool.not_eq_false', decide_eq_true_eq, decide_eq_false_iff_not]
 refine ⟨⟨n0, n1⟩, fun h => ⟨fun _ => bad fun g => ?_, fun g => absurd g (by decide)⟩, fun h1 => ⟨⟨n0, n1⟩, fun h => ⟨fun _ => bad fun g => ?_, fun g => absurd g (by decide)⟩, fun h2 => ⟨⟨n0, n1⟩, fun h => ⟨fun _ => bad fun g => ?_, fun g => absurd g (by decide)⟩, fun h3 => ?_⟩⟩⟩
 ·rw [g.1] at h; exact absurd h (by decide)
 ·rw [g.2.1] at h; exact absurd h (by decide)
 ·rw [g.2.2.1] at h; exact absurd h (by decide)
 ·have l1 := set_len n0 h2
  have l2 := set_len n0 h3
  refine ⟨⟨by omega, set_sorted h3, by omega⟩, fun h => bad fun g => ?_, fun h => ?_⟩
  ·rw [g.2.2.2] at h; exact absurd h (by decide)
  ·have e : sp_operator o n = if 0 ≤ o.cost ∧ o.cost ≤ 100 then 0 else 3 := by rw [sp_operator, if_pos ⟨h1, h2, h3, h⟩]
   rw [e]
   refine ⟨fun q => ⟨fun _ => ?_, fun g => absurd g (by decide)⟩, fun q => ⟨fun g => ?_, fun g => ?_⟩⟩
   ·rw [if_neg (by omega)]
   ·rw [if_neg (by omega)]
   ·rw [if_pos (by omega)]
theorem opFault_zero {t : Task} {k : Nat} (h : sp_operator (gt t.ops k) t.facts = 0) : opFault t k = ⟨0, 0⟩ := by rw [opFault, if_pos h]
theorem opFault_ne {t : Task} {k : Nat} (h : sp_operator (gt t.ops k) t.facts ≠ 0) : opFault t k = ⟨sp_operator (gt t.ops k) t.facts, k⟩ := by rw [opFault, if_neg h]
theorem ok_validate : ∀ (t : Task), F_validate t (fun r => r = sp_validate t) := fun t => by
 have hs : sp_validate t = if t.facts < 0 ∨ 24 < t.facts then ⟨3, -1⟩ else if sp_isSet t.init t.facts = false then ⟨5, -2⟩ else if sp_isSet t.goal t.facts = false then ⟨5, -3⟩ else if 40 < t.ops.length then ⟨2, -1⟩ else ffirst (opFault t) t.ops.length := rfl
 have key : ¬ (t.facts < 0 ∨ 24 < t.facts) → F_validate_J1 t (fun r => r = sp_validate t) false := fun hf => by
  unfold F_validate_J1
  simp only [forall_eq, Bool.not_eq_true', Bool.not_eq_false', decide_eq_true_eq, decide_eq_false_iff_not]
  refine ⟨fun g => absurd g (by decide), fun _ => ⟨⟨by omega, by omega⟩, fun h => ?_, fun h1 => ⟨⟨by omega, by omega⟩, fun h => ?_, fun h2 => ⟨fun h => ?_, fun h3 => ?_⟩⟩⟩⟩
  ·rw [hs, if_neg hf, if_pos h]
  ·rw [hs, if_neg hf, if_neg (by rw [h1]; decide), if_pos h]
  ·rw [hs, if_neg hf, if_neg (by rw [h1]; decide), if_neg (by rw [h2]; decide), if_pos (by omega)]
  ·have e : sp_validate t = ffirst (opFault t) t.ops.length := by rw [hs, if_neg hf, if_neg (by rw [h1]; decide), if_neg (by rw [h2]; decide), if_neg (by omega)]
   rw [e]
   refine ⟨fun i => ∃ k : Nat, i = k ∧ k ≤ t.ops.length ∧ ∀ j, j < k → opFault t j = ⟨0, 0⟩, fun i => (t.ops.length - i).toNat, ⟨0, rfl, by omega, fun j hj => by omega⟩, ?_⟩
   rintro _ ⟨k, rfl, k1, k2⟩
   unfold F_validate_L1
   simp only [decide_eq_true_eq, decide_eq_false_iff_not, forall_eq, bne_iff_ne, ne_eq, bne_eq_false_iff_eq]
   refine ⟨fun h => ⟨⟨by omega, h⟩, ⟨by omega, by omega⟩, fun q => ?_, fun q => ?_⟩, fun h => ?_⟩
   ·rw [ffirst_hit (i := k) (by omega) k2 (by rw [opFault_ne q]; exact fault_mk q), opFault_ne q]
   ·rw [w64 (by omega)]
    exact ⟨⟨k + 1, by omega, by omega, zero_next k2 (opFault_zero q)⟩, by omega⟩
   ·rw [ffirst_none fun j hj => k2 j (by omega)]
 unfold F_validate
 simp only [decide_eq_true_eq, decide_eq_false_iff_not]
 refine ⟨fun h => ⟨fun _ => ?_, fun g => absurd g (by decide)⟩, fun h => ?_⟩
 ·rw [hs, if_pos (.inl h)]
 ·by_cases h2 : 24 < t.facts
  ·rw [decide_eq_true h2]
   refine ⟨fun _ => ?_, fun g => absurd g (by decide)⟩
   rw [hs, if_pos (.inr h2)]
  ·rw [decide_eq_false h2]
   exact key (by omega)
theorem steps_tail {n : Int} {p : List Int} {k : Nat} (hl : ¬ 60 < p.length) (hk : ∀ x ∈ p.take k, 0 ≤ x ∧ x < n) : (k < p.length → ¬ (0 ≤ gt p (k : Int) ∧ gt p (k : Int) < n) → sp_steps n p = ⟨3, -6⟩) ∧ (k < p.length → (0 ≤ gt p (k : Int) ∧ gt p (k : Int) < n) → ∀ x ∈ p.take (k + 1), 0 ≤ x ∧ x < n) ∧ (¬ k < p.length → sp_steps n p = ⟨0, 0⟩) := by
 refine ⟨fun h q => ?_, fun h q x hx => ?_, fun h => ?_⟩
 ·rw [sp_steps, if_neg hl, if_neg]
  intro g
  have := List.all_eq_true.1 g _ (gt_memN (i := k) h)
  exact q (of_decide_eq_true this)
 ·rw [takeN_gt h] at hx
  rcases List.mem_append.1 hx with hx | hx
  ·exact hk x hx
  ·rw [List.mem_singleton.1 hx]; exact q
 ·rw [List.take_of_length_le (by omega)] at hk
  rw [sp_steps, if_neg hl, if_pos (List.all_eq_true.2 fun x hx => decide_eq_true (hk x hx))]
theorem ok_steps : ∀ (operators : Int) (plan : List Int), pre_steps operators plan → F_steps operators plan (fun r => r = sp_steps operators plan) := fun n p ⟨n0, n1⟩ => by
 unfold F_steps
 simp only [decide_eq_true_eq, decide_eq_false_iff_not]
 refine ⟨fun h => ?_, fun hl => ⟨fun t => ∃ k : Nat, t = k ∧ k ≤ p.length ∧ ∀ x ∈ p.take k, 0 ≤ x ∧ x < n, fun t => (p.length - t).toNat, ⟨0, rfl, Nat.zero_le _, by simp⟩, ?_⟩⟩
 ·rw [sp_steps, if_pos (by omega)]
 ·rintro _ ⟨k, rfl, k1, k2⟩
  unfold F_steps_L1 F_steps_J1
  obtain ⟨e1, e2, e3⟩ := steps_tail (by omega) k2
  rw [w64 (n := (k : Int) + 1) (by omega)]
  simp only [decide_eq_true_eq, decide_eq_false_iff_not]
  refine ⟨fun h => ⟨⟨by omega, h⟩, fun q => ⟨fun _ => (e1 (by omega) (by omega)).symm, fun g => absurd g (by decide)⟩, fun q => ⟨fun q2 => (e1 (by omega) (by omega)).symm, fun q2 => ⟨⟨k + 1, by omega, by omega, e2 (by omega) (by omega)⟩, by omega⟩⟩⟩, fun h => (e3 (by omega)).symm⟩
structure TaskOK (t : Task) : Prop where
 facts : 0 ≤ t.facts ∧ t.facts ≤ 24
 init : sp_isSet t.init t.facts = true
 goal : sp_isSet t.goal t.facts = true
 len : t.ops.length ≤ 40
 ops : ∀ k : Nat, k < t.ops.length → sp_operator (gt t.ops k) t.facts = 0
theorem taskOK_of {t : Task} (h : sp_validate t = ⟨0, 0⟩) : TaskOK t := by
 unfold sp_validate at h
 split at h
 ·exact absurd h (fault_mk (by decide))
 ·split at h
  ·exact absurd h (fault_mk (by decide))
  ·split at h
   ·exact absurd h (fault_mk (by decide))
   ·split at h
    ·exact absurd h (fault_mk (by decide))
    ·rename_i h1 h2 h3 h4
     refine ⟨by omega, by simpa using h2, by simpa using h3, by omega, fun k hk => ?_⟩
     have := ffirst_zero h k hk
     unfold opFault at this
     split at this
     ·assumption
     ·rename_i h5
      exact absurd this (fault_mk h5)
theorem fault_code_ff {f : Nat → Fault} {n : Nat} (h : ∀ k, (f k).code = 0 → f k = ⟨0, 0⟩) : (ffirst f n).code = 0 → ffirst f n = ⟨0, 0⟩ := by
 unfold ffirst
 split
 ·exact h _
 ·exact fun _ => rfl
theorem validate_code {t : Task} : (sp_validate t).code = 0 → sp_validate t = ⟨0, 0⟩ := by
 unfold sp_validate
 repeat' split
 ·exact fun h => absurd h (by decide)
 ·exact fun h => absurd h (by decide)
 ·exact fun h => absurd h (by decide)
 ·exact fun h => absurd h (by decide)
 ·refine fault_code_ff fun k => ?_
  unfold opFault
  split
  ·exact fun _ => rfl
  ·rename_i h1
   exact fun h => absurd h h1
theorem ok_planFault : ∀ (t : Task) (plan : List Int), F_planFault t plan (fun r => r = sp_planFault t plan) := fun t p => by
 unfold F_planFault
 simp only [forall_eq, fault_ne, fault_eq]
 refine ⟨fun h => ?_, fun h => ⟨⟨by omega, ?_⟩, ?_⟩⟩
 ·rw [sp_planFault, if_neg h]
 ·have := (taskOK_of h).len; omega
 ·rw [sp_planFault, if_pos h]
end Go.Proofs.YtimillpakjgnoaaGreat.Pl

namespace Go.Proofs.YtimillpakjgnoaaGreat.Pl
open Go Go.RowKit
theorem mem_allS {n : Nat} {x : Int} : x ∈ allS n ↔ 0 ≤ x ∧ x < n := by
 unfold allS
 simp only [List.mem_map, List.mem_range]
 constructor
 ·rintro ⟨j, hj, rfl⟩; omega
 ·intro h; exact ⟨x.toNat, by omega, by omega⟩
theorem allS_len (n : Nat) : (allS n).length = n := by simp [allS]
theorem filter1_pos {p : Int → Bool} {k : Int} (h : p k = true) : [k].filter p = [k] := by rw [List.filter_cons, if_pos h]; rfl
theorem filter1_neg {p : Int → Bool} {k : Int} (h : p k = false) : [k].filter p = [] := by rw [List.filter_cons, if_neg (by rw [h]; decide)]; rfl
theorem subset_iff {a b : List Int} : sp_subset a b = true ↔ ∀ x ∈ a, x ∈ b := by
 simp only [sp_subset, List.all_eq_true, decide_eq_true_eq]
theorem ok_subset : ∀ (part : List Int) (l : List Int), pre_subset part l → F_subset part l (fun r => r = sp_subset part l) := fun a b ⟨h1, h2⟩ => by
 refine ⟨fun t => ∃ k : Nat, t = k ∧ k ≤ a.length ∧ ∀ x ∈ a.take k, x ∈ b, fun t => (a.length - t).toNat, ⟨0, rfl, Nat.zero_le _, by simp⟩, ?_⟩
 rintro _ ⟨k, rfl, k1, k2⟩
 unfold F_subset_L1
 simp only [decide_eq_true_eq, decide_eq_false_iff_not, forall_eq, sp_has, Bool.not_eq_true', Bool.not_eq_false']
 refine ⟨fun h => ⟨⟨by omega, h⟩, Nat.le_trans h2 (by decide), fun q => ?_, fun q => ?_⟩, fun h => ?_⟩
 ·cases e : sp_subset a b
  ·rfl
  ·exact absurd (subset_iff.1 e _ (gt_memN (i := k) (by omega))) q
 ·rw [w64 (by omega)]
  refine ⟨⟨k + 1, by omega, by omega, fun x hx => ?_⟩, by omega⟩
  rw [takeN_gt (by omega)] at hx
  rcases List.mem_append.1 hx with hx | hx
  ·exact k2 x hx
  ·rw [List.mem_singleton.1 hx]; exact q
 ·rw [List.take_of_length_le (by omega)] at k2
  exact (subset_iff.2 k2).symm
theorem TaskOK.op {t : Task} (h : TaskOK t) {i : Int} (hi : inb t.ops i) : sp_isSet (gt t.ops i).pre t.facts = true ∧ sp_isSet (gt t.ops i).add t.facts = true ∧ sp_isSet (gt t.ops i).del t.facts = true ∧ sp_meets (gt t.ops i).add (gt t.ops i).del = false := by
 have h1 := h.ops i.toNat (by have := hi.2; have := hi.1; omega)
 rw [Int.toNat_of_nonneg hi.1] at h1
 unfold sp_operator at h1
 split at h1
 ·assumption
 ·exact absurd h1 (by decide)
theorem TaskOK.lens {t : Task} (h : TaskOK t) {i : Int} (hi : inb t.ops i) : (gt t.ops i).pre.length ≤ 24 ∧ (gt t.ops i).add.length ≤ 24 ∧ (gt t.ops i).del.length ≤ 24 := by
 obtain ⟨h1, h2, h3, _⟩ := h.op hi
 have hf := h.facts
 have := set_len hf.1 h1
 have := set_len hf.1 h2
 have := set_len hf.1 h3
 omega
theorem ok_applies : ∀ (t : Task) (s_ : List Int) (op : Int), pre_applies t s_ op → F_applies t s_ op (fun r => r = sp_applies t s_ op) := fun t s op ⟨h1, h2, h3⟩ => by
 have := (taskOK_of h1).lens h2
 refine ⟨h2, ⟨by omega, h3⟩, fun r hr => ?_⟩
 rw [hr]; rfl
theorem allS_succ (n : Nat) : allS (n + 1) = allS n ++ [(n : Int)] := by
 unfold allS
 rw [List.range_succ, List.map_append]; rfl
theorem mem_after {t : Task} (hf : 0 ≤ t.facts) {s : List Int} {op f : Int} : f ∈ sp_after t s op ↔ (0 ≤ f ∧ f < t.facts) ∧ (f ∈ (gt t.ops op).add ∨ (f ∈ s ∧ f ∉ (gt t.ops op).del)) := by
 rw [sp_after, List.mem_filter, mem_allS, decide_eq_true_eq, Int.toNat_of_nonneg hf]
theorem ok_after : ∀ (t : Task) (s_ : List Int) (op : Int), pre_after t s_ op → F_after t s_ op (fun r => r = sp_after t s_ op) := fun t s op ⟨h1, h2, h3⟩ => by
 have tk := taskOK_of h1
 have hl := tk.lens h2
 have hf := tk.facts
 refine ⟨fun p out => ∃ k : Nat, p = k ∧ k ≤ t.facts.toNat ∧ out = (allS k).filter (fun p => decide (p ∈ (gt t.ops op).add ∨ (p ∈ s ∧ p ∉ (gt t.ops op).del))), fun p _ => (t.facts - p).toNat, ⟨0, rfl, Nat.zero_le _, rfl⟩, ?_⟩
 rintro _ out ⟨k, rfl, k1, k2⟩
 unfold F_after_L1 F_after_J2 F_after_J1
 have hlen : out.length ≤ k := by
  rw [k2]
  have := List.length_filter_le (fun p => decide (p ∈ (gt t.ops op).add ∨ (p ∈ s ∧ p ∉ (gt t.ops op).del))) (allS k)
  rwa [allS_len] at this
 rw [w64 (n := (k : Int) + 1) (by omega)]
 simp only [decide_eq_true_eq, decide_eq_false_iff_not, forall_eq, sp_has, Bool.not_eq_true', Bool.not_eq_false', List.length_append, List.length_singleton]
 refine ⟨fun h => ?_, fun h => ?_⟩
 ·have yes : ((k : Int) ∈ (gt t.ops op).add ∨ ((k : Int) ∈ s ∧ (k : Int) ∉ (gt t.ops op).del)) → room (out.length + 1) 8 ∧ (∃ k' : Nat, (k : Int) + 1 = k' ∧ k' ≤ t.facts.toNat ∧ out ++ [(k : Int)] = (allS k').filter (fun p => decide (p ∈ (gt t.ops op).add ∨ (p ∈ s ∧ p ∉ (gt t.ops op).del)))) ∧ (t.facts - ((k : Int) + 1)).toNat < (t.facts - (k : Int)).toNat := fun q => by
   refine ⟨⟨by simp only [maxLen]; omega, by omega⟩, ⟨k + 1, by omega, by omega, ?_⟩, by omega⟩
   rw [allS_succ, List.filter_append, ← k2, filter1_pos (p := fun p => decide (p ∈ (gt t.ops op).add ∨ (p ∈ s ∧ p ∉ (gt t.ops op).del))) (decide_eq_true q)]
  have no : ¬ ((k : Int) ∈ (gt t.ops op).add ∨ ((k : Int) ∈ s ∧ (k : Int) ∉ (gt t.ops op).del)) → (∃ k' : Nat, (k : Int) + 1 = k' ∧ k' ≤ t.facts.toNat ∧ out = (allS k').filter (fun p => decide (p ∈ (gt t.ops op).add ∨ (p ∈ s ∧ p ∉ (gt t.ops op).del)))) ∧ (t.facts - ((k : Int) + 1)).toNat < (t.facts - (k : Int)).toNat := fun q => by
   refine ⟨⟨k + 1, by omega, by omega, ?_⟩, by omega⟩
   rw [allS_succ, List.filter_append, ← k2, filter1_neg (p := fun p => decide (p ∈ (gt t.ops op).add ∨ (p ∈ s ∧ p ∉ (gt t.ops op).del))) (decide_eq_false q), List.append_nil]
  refine ⟨h2, show _ ≤ _ by omega, fun q => ⟨fun _ => yes (.inl q), fun g => absurd g (by decide)⟩, fun q => ⟨Nat.le_trans h3 (by decide), fun q2 => ⟨show _ ≤ _ by omega, fun q3 => yes (.inr ⟨q2, q3⟩), fun q3 => no ?_⟩, fun q2 => ⟨fun g => absurd g (by decide), fun _ => no ?_⟩⟩⟩
  ·exact fun g => g.elim q fun g => g.2 q3
  ·exact fun g => g.elim q fun g => q2 g.1
 ·have e : k = t.facts.toNat := by omega
  rw [k2, e]; rfl
theorem steps_ok {n : Int} {p : List Int} (h : sp_steps n p = ⟨0, 0⟩) : p.length ≤ 60 ∧ ∀ x ∈ p, 0 ≤ x ∧ x < n := by
 unfold sp_steps at h
 split at h
 ·exact absurd h (fault_mk (by decide))
 ·split at h
  ·rename_i h1 h2
   exact ⟨by omega, fun x hx => of_decide_eq_true (List.all_eq_true.1 h2 x hx)⟩
  ·exact absurd h (fault_mk (by decide))
theorem plan_ok {t : Task} {p : List Int} (h : sp_planFault t p = ⟨0, 0⟩) : sp_validate t = ⟨0, 0⟩ ∧ p.length ≤ 60 ∧ ∀ x ∈ p, inb t.ops x := by
 unfold sp_planFault at h
 split at h
 ·rename_i h1
  exact ⟨h1, steps_ok h⟩
 ·rename_i h1
  exact absurd h h1
end Go.Proofs.YtimillpakjgnoaaGreat.Pl

namespace Go.Proofs.YtimillpakjgnoaaGreat.Pl
open Go Go.RowKit
theorem sorted_ext : ∀ (a b : List Int), a.Pairwise (· < ·) → b.Pairwise (· < ·) → (∀ x, x ∈ a ↔ x ∈ b) → a = b
 | [], b, _, _, h => by
  cases b with
  | nil => rfl
  | cons y s => exact absurd ((h y).2 List.mem_cons_self) (by simp)
 | x :: r, [], _, _, h => absurd ((h x).1 List.mem_cons_self) (by simp)
 | x :: r, y :: s, ha, hb, h => by
  obtain ⟨a1, a2⟩ := List.pairwise_cons.1 ha
  obtain ⟨b1, b2⟩ := List.pairwise_cons.1 hb
  have e : x = y := by
   rcases List.mem_cons.1 ((h x).1 List.mem_cons_self) with q | q
   ·exact q
   ·rcases List.mem_cons.1 ((h y).2 List.mem_cons_self) with q2 | q2
    ·exact q2.symm
    ·have := a1 _ q2; have := b1 _ q; omega
  subst e
  rw [sorted_ext r s a2 b2 fun z => ?_]
  constructor
  ·intro hz
   rcases List.mem_cons.1 ((h z).1 (List.mem_cons_of_mem _ hz)) with q | q
   ·have := a1 _ hz; omega
   ·exact q
  ·intro hz
   rcases List.mem_cons.1 ((h z).2 (List.mem_cons_of_mem _ hz)) with q | q
   ·have := b1 _ hz; omega
   ·exact q
theorem mem_sort {xs : List Int} {x : Int} : x ∈ sp_sort xs ↔ x ∈ xs := List.mem_mergeSort
theorem sort_sorted (xs : List Int) : (sp_sort xs).Pairwise (· ≤ ·) := by
 have := List.pairwise_mergeSort (le := fun x y : Int => decide (x ≤ y)) (fun a b c h1 h2 => by simp only [decide_eq_true_eq] at *; omega) (fun a b => by simp only [Bool.or_eq_true, decide_eq_true_eq]; omega) xs
 exact this.imp fun h => by simpa using h
theorem getB {xs : List Int} {j : Nat} (h : j < xs.length) : xs.toArray[j]! = xs[j] := by simp [h]
theorem compact_eq (xs : List Int) : sp_compact xs = ((List.range xs.length).filter (Lib.keeps xs.toArray)).map (fun j => xs.toArray[j]!) := rfl
theorem mem_compact {xs : List Int} {x : Int} : x ∈ sp_compact xs ↔ x ∈ xs := by
 rw [compact_eq, List.mem_map]
 constructor
 ·rintro ⟨j, hj, rfl⟩
  have := List.mem_range.1 (List.mem_filter.1 hj).1
  rw [getB this]; exact List.getElem_mem _
 ·intro hx
  obtain ⟨j, hj, rfl⟩ := List.mem_iff_getElem.1 hx
  have key : ∀ j : Nat, (h : j < xs.length) → ∃ i, i ∈ (List.range xs.length).filter (Lib.keeps xs.toArray) ∧ xs.toArray[i]! = xs[j] := by
   intro j
   induction j with
   | zero => intro h; exact ⟨0, List.mem_filter.2 ⟨List.mem_range.2 h, by simp [Lib.keeps]⟩, getB h⟩
   | succ j ih =>
    intro h
    by_cases q : xs[j + 1] = xs[j]
    ·obtain ⟨i, h1, h2⟩ := ih (by omega)
     exact ⟨i, h1, by rw [h2, q]⟩
    ·refine ⟨j + 1, List.mem_filter.2 ⟨List.mem_range.2 h, ?_⟩, getB h⟩
     refine Lib.keeps_pos ?_
     rw [Nat.add_sub_cancel, getB h, getB (by omega)]; exact q
  exact key j hj
theorem compact_sorted {xs : List Int} (h : xs.Pairwise (· ≤ ·)) : (sp_compact xs).Pairwise (· < ·) := by
 rw [compact_eq, List.pairwise_map]
 refine List.Pairwise.imp_of_mem (fun {a b} ha hb hab => ?_) ((List.pairwise_lt_range (n := xs.length)).filter _)
 have ha' := List.mem_range.1 (List.mem_filter.1 ha).1
 obtain ⟨hb1, hb2⟩ := List.mem_filter.1 hb
 have hb' := List.mem_range.1 hb1
 rw [getB ha', getB hb']
 have hle := List.pairwise_iff_getElem.1 h
 have hk : xs[b] ≠ xs[b - 1]'(by omega) := by
  simp only [Lib.keeps, decide_eq_true_eq] at hb2
  rcases hb2 with q | q
  ·omega
  ·rwa [getB hb', getB (by omega)] at q
 have h1 : xs[b - 1]'(by omega) ≤ xs[b] := hle _ _ (by omega) hb' (by omega)
 have h2 : xs[a] ≤ xs[b - 1]'(by omega) := by
  rcases Nat.lt_or_ge a (b - 1) with q | q
  ·exact hle _ _ ha' (by omega) q
  ·have : a = b - 1 := by omega
   subst this; exact Int.le_refl _
 omega
theorem mem_update {s add del : List Int} {x : Int} : x ∈ sp_update s add del ↔ (x ∈ s ∧ x ∉ del) ∨ x ∈ add := by
 rw [sp_update, mem_compact, mem_sort, List.mem_append, List.mem_filter, decide_eq_true_eq]
theorem update_sorted (s add del : List Int) : (sp_update s add del).Pairwise (· < ·) := compact_sorted (sort_sorted _)
theorem allS_sorted (n : Nat) : (allS n).Pairwise (· < ·) := List.pairwise_map.2 ((List.pairwise_lt_range (n := n)).imp fun h => by omega)
theorem after_set {t : Task} (hf : 0 ≤ t.facts) (s : List Int) (op : Int) : sp_isSet (sp_after t s op) t.facts = true :=
 decide_eq_true ⟨(allS_sorted _).filter _, fun _ hx => ((mem_after hf).1 hx).1⟩
theorem update_after {t : Task} {s : List Int} {op : Int} (hp : pre_next t s op) : sp_update s (gt t.ops op).add (gt t.ops op).del = sp_after t s op := by
 obtain ⟨h1, h2, h3⟩ := hp
 have tk := taskOK_of h1
 have hf := tk.facts.1
 refine sorted_ext _ _ (update_sorted _ _ _) (set_sorted (after_set hf s op)) fun x => ?_
 rw [mem_update, mem_after hf]
 constructor
 ·rintro (⟨a, b⟩ | a)
  ·exact ⟨set_rng h3 x a, .inr ⟨a, b⟩⟩
  ·exact ⟨set_rng (tk.op h2).2.1 x a, .inl a⟩
 ·rintro ⟨_, a | a⟩
  ·exact .inr a
  ·exact .inl a
theorem ok_clone : ∀ (s_ : List Int), pre_clone s_ → F_clone s_ (fun r => r = sp_clone s_) := fun s hp => by
 unfold pre_clone at hp
 exact ⟨fun h => by rw [h]; rfl, ⟨by simp only [List.nil_append, maxLen]; omega, by simp only [List.nil_append]; omega⟩, by simp [sp_clone]⟩
theorem ok_update : ∀ (s_ : List Int) (add : List Int) (del : List Int), pre_update s_ add del → F_update s_ add del (fun r => r = sp_update s_ add del) := fun s add del ⟨h1, h2, h3⟩ => by
 refine ⟨fun t out => ∃ k : Nat, t = k ∧ k ≤ s.length ∧ out = (s.take k).filter (fun x => decide (x ∉ del)), fun t _ => (s.length - t).toNat, ⟨0, rfl, Nat.zero_le _, rfl⟩, ?_⟩
 rintro _ out ⟨k, rfl, k1, k2⟩
 unfold F_update_L1 F_update_J1
 have hlen : out.length ≤ k := by
  rw [k2]
  exact Nat.le_trans (List.length_filter_le _ _) (by rw [List.length_take]; omega)
 simp only [decide_eq_true_eq, decide_eq_false_iff_not, forall_eq, sp_bsearch, Bool.not_eq_true', Bool.not_eq_false', List.length_append, List.length_singleton]
 refine ⟨fun h => ?_, fun h => ?_⟩
 ·rw [w64 (by omega)]
  have hk : k < s.length := by omega
  refine ⟨⟨by omega, h⟩, h3, fun q => ⟨⟨by simp only [maxLen]; omega, by omega⟩, ⟨k + 1, by omega, by omega, ?_⟩, by omega⟩, fun q => ⟨⟨k + 1, by omega, by omega, ?_⟩, by omega⟩⟩
  ·rw [takeN_gt hk, List.filter_append, ← k2, filter1_pos (p := fun x => decide (x ∉ del)) (decide_eq_true q)]
  ·rw [takeN_gt hk, List.filter_append, ← k2, filter1_neg (p := fun x => decide (x ∉ del)) (decide_eq_false fun g => g q), List.append_nil]
 ·have e : k = s.length := by omega
  rw [e, List.take_length] at k2
  refine ⟨⟨by simp only [maxLen]; omega, by omega⟩, show (out ++ add).length ≤ 100000 by rw [List.length_append]; omega, show (sp_sort (out ++ add)).length ≤ 100000 by rw [sp_sort, List.length_mergeSort, List.length_append]; omega, ?_⟩
  rw [k2]; rfl
theorem contains_past {s : List Int} (hs : s.Pairwise (· < ·)) {i : Nat} {x : Int} (hlt : ∀ p : Nat, p < i → p < s.length → gt s (p : Int) < x) (h : i < s.length → gt s (i : Int) ≠ x ∧ ¬ gt s (i : Int) < x) : x ∉ s := fun hx => by
 obtain ⟨p, hp, e⟩ := mem_gt hx
 rcases Nat.lt_trichotomy p i with g | g | g
 ·have := hlt p g hp; omega
 ·subst g; exact (h hp).1 e
 ·have h1 := h (by omega)
  have := sorted_gt hs g hp
  omega
theorem ok_contains2 : ∀ (s_ : List Int) (part : List Int), pre_contains2 s_ part → F_contains2 s_ part (fun r => r = sp_contains2 s_ part) := fun s part ⟨h1, h2, h3, h4⟩ => by
 have bad : ∀ k : Nat, k < part.length → gt part (k : Int) ∉ s → false = sp_contains2 s part := fun k hk q => by
  cases e : sp_contains2 s part
  ·rfl
  ·exact absurd (subset_iff.1 e _ (gt_memN hk)) q
 refine ⟨fun i t => ∃ a k : Nat, i = a ∧ t = k ∧ a ≤ s.length ∧ k ≤ part.length ∧ (∀ x ∈ part.take k, x ∈ s) ∧ (k < part.length → ∀ p : Nat, p < a → p < s.length → gt s (p : Int) < gt part (k : Int)), fun _ t => (part.length - t).toNat, ⟨0, 0, rfl, rfl, Nat.zero_le _, Nat.zero_le _, by simp, fun _ p hp => by omega⟩, ?_⟩
 rintro _ _ ⟨a, k, rfl, rfl, a1, k1, k2, k3⟩
 unfold F_contains2_L1
 simp only [decide_eq_true_eq, decide_eq_false_iff_not]
 refine ⟨fun h => ⟨⟨by omega, h⟩, ?_⟩, fun h => ?_⟩
 ·have hk : k < part.length := by omega
  refine ⟨fun i => ∃ b : Nat, i = b ∧ a ≤ b ∧ b ≤ s.length ∧ ∀ p : Nat, p < b → p < s.length → gt s (p : Int) < gt part (k : Int), fun i => (s.length - i).toNat, ⟨a, rfl, Nat.le_refl _, a1, k3 hk⟩, ?_⟩
  rintro _ ⟨b, rfl, b1, b2, b3⟩
  have fin : (¬ (b < s.length ∧ gt s (b : Int) < gt part (k : Int))) → F_contains2_J1 s part (fun r => r = sp_contains2 s part) false a (fun i => ∃ b : Nat, i = b ∧ a ≤ b ∧ b ≤ s.length ∧ ∀ p : Nat, p < b → p < s.length → gt s (p : Int) < gt part (k : Int)) (fun i => (s.length - i).toNat) k b (fun i t => ∃ a k : Nat, i = a ∧ t = k ∧ a ≤ s.length ∧ k ≤ part.length ∧ (∀ x ∈ part.take k, x ∈ s) ∧ (k < part.length → ∀ p : Nat, p < a → p < s.length → gt s (p : Int) < gt part (k : Int))) (fun _ t => (part.length - t).toNat) := fun hn => by
   unfold F_contains2_J1 F_contains2_J2
   rw [w64 (n := (k : Int) + 1) (by omega)]
   simp only [beq_iff_eq, beq_eq_false_iff_ne, ne_eq, bne_iff_ne, bne_eq_false_iff_eq]
   refine ⟨fun g => absurd g (by decide), fun _ => ⟨fun e => ⟨fun _ => bad k hk (contains_past h3 b3 fun g => by omega), fun g => absurd g (by decide)⟩, fun e => ⟨⟨by omega, by omega⟩, fun q => bad k hk (contains_past h3 b3 fun g => ⟨q, fun g2 => hn ⟨g, g2⟩⟩), fun q => ⟨⟨b, k + 1, rfl, by omega, b2, by omega, fun x hx => ?_, fun hk2 p hp hp2 => ?_⟩, by omega⟩⟩⟩⟩
   ·rw [takeN_gt hk] at hx
    rcases List.mem_append.1 hx with hx | hx
    ·exact k2 x hx
    ·rw [List.mem_singleton.1 hx, ← q]; exact gt_memN (by omega)
   ·exact Int.lt_trans (b3 p hp hp2) (sorted_gt h4 (Nat.lt_succ_self k) hk2)
  unfold F_contains2_L2
  simp only [decide_eq_true_eq, decide_eq_false_iff_not]
  refine ⟨fun h2 => ⟨⟨by omega, h2⟩, ?_⟩, fun h2 => fin fun g => by omega⟩
  by_cases q : gt s (b : Int) < gt part (k : Int)
  ·rw [decide_eq_true q]
   unfold F_contains2_J1
   refine ⟨fun _ => ?_, fun g => absurd g (by decide)⟩
   rw [w64 (by omega)]
   refine ⟨⟨b + 1, by omega, by omega, by omega, fun p hp hp2 => ?_⟩, show ((s.length : Int) - (b + 1)).toNat < ((s.length : Int) - b).toNat by omega⟩
   rcases Nat.lt_or_ge p b with g | g
   ·exact b3 p g hp2
   ·rw [show p = b by omega]; exact q
  ·rw [decide_eq_false q]
   exact fin fun g => q g.2
 ·rw [List.take_of_length_le (by omega)] at k2
  exact (subset_iff.2 k2).symm
theorem next_lens {t : Task} {s : List Int} {op : Int} (hp : pre_next t s op) : s.length ≤ 24 ∧ (gt t.ops op).pre.length ≤ 24 ∧ (gt t.ops op).add.length ≤ 24 ∧ (gt t.ops op).del.length ≤ 24 := by
 obtain ⟨h1, h2, h3⟩ := hp
 have tk := taskOK_of h1
 have := set_len tk.facts.1 h3
 have := tk.facts
 have := tk.lens h2
 omega
theorem ok_can : ∀ (t : Task) (s_ : List Int) (op : Int), pre_can t s_ op → F_can t s_ op (fun r => r = sp_applies t s_ op) := fun t s op hp => by
 have hl := next_lens hp
 have tk := taskOK_of hp.1
 refine ⟨hp.2.1, ⟨by omega, by omega, set_sorted hp.2.2, set_sorted (tk.op hp.2.1).1⟩, fun r hr => ?_⟩
 rw [hr]; rfl
theorem ok_next : ∀ (t : Task) (s_ : List Int) (op : Int), pre_next t s_ op → F_next t s_ op (fun r => r = sp_after t s_ op) := fun t s op hp => by
 have hl := next_lens hp
 have tk := taskOK_of hp.1
 refine ⟨hp.2.1, ⟨by omega, by omega, set_sorted (tk.op hp.2.1).2.2.1, by omega⟩, fun r hr => ?_⟩
 rw [hr, update_after hp]
end Go.Proofs.YtimillpakjgnoaaGreat.Pl

namespace Go.Proofs.YtimillpakjgnoaaGreat.Pl
open Go Go.RowKit
theorem ok_srun : ∀ (t : Task) (s_ : List Int) (plan : List Int), pre_srun t s_ plan → F_srun t s_ plan (fun r => r = sp_srun t s_ plan) := fun t s plan ⟨h1, h2, h3, h4⟩ => by
 have tk := taskOK_of h1
 have hf := tk.facts
 have hs := set_len hf.1 h2
 refine ⟨show s.length ≤ 1000 by omega, fun r2 hr2 => ?_⟩
 rw [show r2 = s from hr2]
 refine ⟨fun s2 x out => ∃ (k : Nat) (p : List (List Int)), x = k ∧ k ≤ plan.length ∧ sp_isSet s2 t.facts = true ∧ out = p ++ [s2] ∧ p.length = k ∧ sp_srun t s plan = p ++ sp_srun t s2 (plan.drop k), fun _ x _ => (plan.length - x).toNat, ⟨0, [], rfl, Nat.zero_le _, h2, rfl, rfl, by simp⟩, ?_⟩
 rintro s2 _ out ⟨k, p, rfl, k1, k2, rfl, k3, k4⟩
 unfold F_srun_L1
 simp only [decide_eq_true_eq, decide_eq_false_iff_not, forall_eq, Bool.not_eq_true', Bool.not_eq_false', List.length_append, List.length_singleton]
 refine ⟨fun h => ?_, fun h => ?_⟩
 ·have hk : k < plan.length := by omega
  have hop := h4 _ (gt_memN hk)
  have hd := drop_gt (xs := plan) (i := (k : Int)) ⟨by omega, h⟩
  rw [Int.toNat_natCast, show ((k : Int) + 1).toNat = k + 1 by omega] at hd
  rw [hd, sp_srun] at k4
  refine ⟨⟨by omega, h⟩, ⟨h1, hop, k2⟩, fun q => ?_, fun q => ⟨⟨h1, hop, k2⟩, ⟨by simp only [maxLen]; omega, by omega⟩, ?_⟩⟩
  ·rw [k4, if_neg (by rw [q]; decide)]
  ·rw [if_pos q] at k4
   rw [w64 (by omega)]
   refine ⟨⟨k + 1, p ++ [s2], by omega, by omega, after_set hf.1 _ _, rfl, by rw [List.length_append, List.length_singleton, k3], ?_⟩, by omega⟩
   rw [k4]; simp
 ·rw [List.drop_of_length_le (by omega), sp_srun] at k4
  rw [k4]
theorem srun_ends {t : Task} (hf : 0 ≤ t.facts) : ∀ (plan s : List Int), sp_isSet s t.facts = true → ((sp_srun t s plan).length = plan.length + 1 → (sp_ends t s plan).2 = true ∧ gt (sp_srun t s plan) ((plan.length : Nat) : Int) = (sp_ends t s plan).1 ∧ sp_isSet (sp_ends t s plan).1 t.facts = true) ∧ ((sp_srun t s plan).length ≠ plan.length + 1 → (sp_ends t s plan).2 = false)
 | [], s, h => ⟨fun _ => ⟨rfl, rfl, h⟩, fun g => absurd rfl g⟩
 | op :: r, s, h => by
  have ih := srun_ends hf r (sp_after t s op) (after_set hf s op)
  rw [sp_srun, sp_ends]
  by_cases q : sp_applies t s op = true
  ·rw [if_pos q, if_pos q]
   simp only [List.length_cons]
   refine ⟨fun g => ?_, fun g => ih.2 (by omega)⟩
   obtain ⟨a, b, c⟩ := ih.1 (by omega)
   refine ⟨a, ?_, c⟩
   rw [← b]
   unfold gt
   rw [Int.toNat_natCast, Int.toNat_natCast, List.getD_cons_succ]
  ·rw [if_neg q, if_neg q]
   refine ⟨fun g => ?_, fun _ => rfl⟩
   simp at g
theorem ok_works : ∀ (t : Task) (s_ : List Int) (plan : List Int), pre_works t s_ plan → F_works t s_ plan (fun r => r = sp_rworks t s_ plan) := fun t s plan hp => by
 obtain ⟨h1, h2, h3, h4⟩ := hp
 have tk := taskOK_of h1
 have hf := tk.facts
 have hg := set_len hf.1 tk.goal
 unfold F_works
 rw [w64 (by omega)]
 refine ⟨⟨h1, h2, h3, h4⟩, ?_⟩
 simp only [forall_eq, beq_iff_eq, beq_eq_false_iff_ne, ne_eq]
 obtain ⟨a, b⟩ := srun_ends hf.1 plan s h2
 refine ⟨fun q => ?_, fun q => ?_⟩
 ·obtain ⟨e1, e2, e3⟩ := a (by omega)
  have hl := set_len hf.1 e3
  rw [e2]
  refine ⟨⟨by omega, by omega⟩, ⟨by omega, by omega, set_sorted e3, set_sorted tk.goal⟩, ?_⟩
  rw [sp_rworks, e1, Bool.true_and]; rfl
 ·rw [sp_rworks, b (by omega), Bool.false_and]
theorem ok_solves : ∀ (t : Task) (plan : List Int), F_solves t plan (fun r => r = sp_solves t plan) := fun t p => by
 unfold F_solves
 simp only [forall_eq, fault_ne, fault_eq]
 refine ⟨fun h => ?_, fun h => ⟨?_, ?_⟩⟩
 ·rw [sp_solves, if_neg h]
 ·obtain ⟨h1, h2, h3⟩ := plan_ok h
  exact ⟨h1, (taskOK_of h1).init, by omega, h3⟩
 ·rw [sp_solves, if_pos h]; rfl
end Go.Proofs.YtimillpakjgnoaaGreat.Pl

namespace Go.Proofs.YtimillpakjgnoaaGreat.Pl
open Go Go.RowKit
theorem ok_compare : ∀ (x : Int) (y : Int), F_compare x y (fun r => r = sp_compare x y) := fun x y => by
 unfold F_compare
 simp only [forall_eq, sp_isNaN1, decide_eq_true_eq, decide_eq_false_iff_not]
 refine ⟨fun h => absurd h (by decide), fun _ => ⟨fun h => absurd h (by decide), fun _ => ⟨fun h => ?_, fun h => ⟨fun g => ?_, fun g => ?_⟩⟩⟩⟩
 ·rw [sp_compare, if_pos h]
 ·rw [sp_compare, if_neg h, if_pos g]
 ·rw [sp_compare, if_neg h, if_neg g]
end Go.Proofs.YtimillpakjgnoaaGreat.Pl

namespace Go.Proofs.YtimillpakjgnoaaGreat.Pl
open Go Go.RowKit
theorem drop_gtN {α : Type} [Inhabited α] {xs : List α} {k : Nat} (h : k < xs.length) : xs.drop k = gt xs (k : Int) :: xs.drop (k + 1) := by
 have h2 := drop_gt (xs := xs) (i := (k : Int)) ⟨by omega, by omega⟩
 have h3 : ((k : Int) + 1).toNat = k + 1 := by omega
 rwa [h3, Int.toNat_natCast] at h2
theorem TaskOK.rng {t : Task} (h : sp_validate t = ⟨0, 0⟩) : 0 ≤ t.facts ∧ t.facts ≤ 24 ∧ sp_isSet t.init t.facts = true ∧ sp_isSet t.goal t.facts = true := by
 have := taskOK_of h
 exact ⟨this.facts.1, this.facts.2, this.init, this.goal⟩
theorem ok_scompare : ∀ (s1 : List Int) (s2 : List Int), pre_scompare s1 s2 → F_scompare s1 s2 (fun r => r = sp_scompare s1 s2) := fun a b ⟨h1, h2⟩ => by
 refine ⟨fun t => ∃ k : Nat, t = k ∧ k ≤ a.length ∧ k ≤ b.length ∧ sp_scompare (a.drop k) (b.drop k) = sp_scompare a b, fun t => (a.length - t).toNat, ⟨0, rfl, Nat.zero_le _, Nat.zero_le _, by simp⟩, ?_⟩
 rintro _ ⟨k, rfl, k1, k2, k3⟩
 unfold F_scompare_L1
 simp only [forall_eq, decide_eq_true_eq, decide_eq_false_iff_not, bne_iff_ne, ne_eq, bne_eq_false_iff_eq, sp_compare]
 refine ⟨fun h => ?_, fun h => ?_⟩
 ·have hk : k < a.length := by omega
  have ea := drop_gtN hk
  refine ⟨⟨by omega, h⟩, fun g => ?_, fun g => ?_⟩
  ·rw [← k3, ea, List.drop_eq_nil_of_le (show b.length ≤ k by omega)]; rfl
  ·have hb : k < b.length := by omega
   rw [ea, drop_gtN hb, sp_scompare] at k3
   refine ⟨⟨by omega, by omega⟩, ?_⟩
   rcases Int.lt_trichotomy (gt a (k : Int)) (gt b (k : Int)) with q | q | q
   ·rw [if_pos q] at k3 ⊢
    exact ⟨fun _ => k3, fun e => absurd e (by decide)⟩
   ·have n1 : ¬ gt a (k : Int) < gt b (k : Int) := by omega
    have n2 : ¬ gt b (k : Int) < gt a (k : Int) := by omega
    rw [if_neg n1, if_neg n2] at k3 ⊢
    refine ⟨fun e => absurd rfl e, fun _ => ?_⟩
    rw [w64 (by omega)]
    exact ⟨⟨k + 1, by omega, by omega, by omega, k3⟩, by omega⟩
   ·have n1 : ¬ gt a (k : Int) < gt b (k : Int) := by omega
    rw [if_neg n1, if_pos q] at k3 ⊢
    exact ⟨fun _ => k3, fun e => absurd e (by decide)⟩
 ·rw [List.drop_eq_nil_of_le (show a.length ≤ k by omega)] at k3
  refine ⟨fun g => ?_, fun g => ?_⟩
  ·rw [← k3, drop_gtN (xs := b) (k := k) (by omega)]; rfl
  ·rw [← k3, List.drop_eq_nil_of_le (show b.length ≤ k by omega)]; rfl
theorem take_same {α : Type} [Inhabited α] {a b : List α} {k : Nat} (ha : k < a.length) (hb : k < b.length) (h : a.take k = b.take k) (e : gt a (k : Int) = gt b (k : Int)) : a.take (k + 1) = b.take (k + 1) := by
 rw [takeN_gt ha, takeN_gt hb, h, e]
theorem ok_sequal : ∀ (s1 : List Int) (s2 : List Int), pre_sequal s1 s2 → F_sequal s1 s2 (fun r => r = sp_sequal s1 s2) := fun a b ⟨h1, h2⟩ => by
 unfold F_sequal
 simp only [bne_iff_ne, ne_eq, bne_eq_false_iff_eq]
 refine ⟨fun h => (decide_eq_false fun e => h (by rw [e])).symm, fun h => ?_⟩
 have hl : a.length = b.length := by omega
 refine ⟨fun t => ∃ k : Nat, t = k ∧ k ≤ a.length ∧ a.take k = b.take k, fun t => (a.length - t).toNat, ⟨0, rfl, Nat.zero_le _, by simp⟩, ?_⟩
 rintro _ ⟨k, rfl, k1, k2⟩
 unfold F_sequal_L1
 simp only [decide_eq_true_eq, decide_eq_false_iff_not, bne_iff_ne, ne_eq, bne_eq_false_iff_eq]
 refine ⟨fun g => ⟨⟨by omega, g⟩, ⟨by omega, by omega⟩, fun q => (decide_eq_false fun e => q (by rw [e])).symm, fun q => ?_⟩, fun g => ?_⟩
 ·rw [w64 (by omega)]
  exact ⟨⟨k + 1, by omega, by omega, take_same (by omega) (by omega) k2 q⟩, by omega⟩
 ·rw [List.take_of_length_le (by omega), List.take_of_length_le (by omega)] at k2
  exact (decide_eq_true k2).symm
end Go.Proofs.YtimillpakjgnoaaGreat.Pl

namespace Go.Proofs.YtimillpakjgnoaaGreat.Pl
open Go Go.RowKit
theorem before_irr : ∀ a : List Int, sp_before a a = false
 | [] => rfl
 | x :: r => by simp [sp_before, before_irr r]
theorem before_trans : ∀ a b c : List Int, sp_before a b = true → sp_before b c = true → sp_before a c = true
 | [], [], _, h, _ => by simp [sp_before] at h
 | [], _ :: _, [], _, h => by simp [sp_before] at h
 | [], _ :: _, _ :: _, _, _ => rfl
 | _ :: _, [], _, h, _ => by simp [sp_before] at h
 | _ :: _, _ :: _, [], _, h => by simp [sp_before] at h
 | x :: a, y :: b, z :: c, h, g => by
  unfold sp_before at h g ⊢
  by_cases e : x = y
  ·subst e
   rw [if_pos rfl] at h
   by_cases e2 : x = z
   ·subst e2
    rw [if_pos rfl] at g ⊢
    exact before_trans a b c h g
   ·rw [if_neg e2] at g ⊢; exact g
  ·rw [if_neg e] at h
   have h := of_decide_eq_true h
   by_cases e2 : y = z
   ·subst e2
    rw [if_neg e]; exact decide_eq_true h
   ·rw [if_neg e2] at g
    have g := of_decide_eq_true g
    rw [if_neg (by omega)]
    exact decide_eq_true (by omega)
theorem before_tri : ∀ a b : List Int, sp_before a b = true ∨ a = b ∨ sp_before b a = true
 | [], [] => .inr (.inl rfl)
 | [], _ :: _ => .inl rfl
 | _ :: _, [] => .inr (.inr rfl)
 | x :: a, y :: b => by
  by_cases e : x = y
  ·subst e
   rcases before_tri a b with h | h | h
   ·exact .inl (by simp [sp_before, h])
   ·exact .inr (.inl (by rw [h]))
   ·exact .inr (.inr (by simp [sp_before, h]))
  ·rcases Int.lt_or_lt_of_ne e with h | h
   ·exact .inl (by simp [sp_before, e, h])
   ·exact .inr (.inr (by simp [sp_before, Ne.symm e, h]))
theorem scompare_before : ∀ a b : List Int, (sp_scompare a b < 0 ↔ sp_before a b = true) ∧ (sp_scompare a b = 0 ↔ a = b)
 | [], [] => by simp [sp_scompare, sp_before]
 | [], _ :: _ => by simp [sp_scompare, sp_before]
 | _ :: _, [] => by simp [sp_scompare, sp_before]
 | x :: a, y :: b => by
  have ih := scompare_before a b
  by_cases e : x = y
  ·subst e
   simp [sp_scompare, sp_before, ih]
  ·rcases Int.lt_or_lt_of_ne e with h | h
   ·simp [sp_scompare, sp_before, e, h]
   ·have : ¬ x < y := by omega
    simp [sp_scompare, sp_before, e, h, this]
end Go.Proofs.YtimillpakjgnoaaGreat.Pl

namespace Go.Proofs.YtimillpakjgnoaaGreat.Pl
open Go Go.RowKit
def Nle (x y : List Int) : Prop := sp_before y x = false
theorem nle_trans {x y z : List Int} (h : Nle x y) (g : Nle y z) : Nle x z := by
 unfold Nle at *
 rcases before_tri y x with a | a | a
 ·rw [h] at a; cases a
 ·rw [← a]; exact g
 ·rcases before_tri z y with b | b | b
  ·rw [g] at b; cases b
  ·rw [b]; exact h
  ·have := before_trans _ _ _ a b
   cases e : sp_before z x
   ·rfl
   ·have := before_trans _ _ _ this e
    rw [before_irr] at this; cases this
theorem sorted_perm : ∀ (a b : Bel), a.Pairwise Nle → b.Pairwise Nle → a.Perm b → a = b
 | [], b, _, _, h => (List.nil_perm.1 h).symm
 | x :: a, [], _, _, h => absurd h.length_eq (by simp)
 | x :: a, y :: b, ha, hb, h => by
  rw [List.pairwise_cons] at ha hb
  have e : x = y := by
   rcases List.mem_cons.1 (h.mem_iff.1 (List.mem_cons_self (a := x) (l := a))) with e | e
   ·exact e
   ·rcases List.mem_cons.1 (h.mem_iff.2 (List.mem_cons_self (a := y) (l := b))) with e' | e'
    ·exact e'.symm
    ·have h1 := ha.1 y e'
     have h2 := hb.1 x e
     rcases before_tri x y with g | g | g
     ·rw [show sp_before x y = false from h2] at g; cases g
     ·exact g
     ·rw [show sp_before y x = false from h1] at g; cases g
  subst e
  rw [sorted_perm a b ha.2 hb.2 h.cons_inv]
end Go.Proofs.YtimillpakjgnoaaGreat.Pl

namespace Go.Proofs
open Go.Shelf
def YtimillpakjgnoaaGreat.lays189_ren : Go.Shelf.Ren := ⟨fun | 189 => 62 | 125 => 78 | 257 => 98 | 128 => 114 | 129 => 115 | 294 => 119 | 295 => 120 | 296 => 121 | 297 => 122 | 298 => 123 | 299 => 124 | 216 => 125 | 300 => 126 | 301 => 127 | 328 => 135 | 329 => 131 | 330 => 132 | 331 => 136 | 332 => 137 | 215 => 99 | 343 => 139 | n => n, fun | 28 => 22 | 3 => 3 | 46 => 152 | 0 => 0 | 51 => 62 | 53 => 193 | 4 => 4 | 183 => 186 | 182 => 185 | 131 => 110 | 5 => 5 | 9 => 9 | 218 => 202 | 222 => 206 | 228 => 210 | 229 => 211 | n => n, fun | n => n⟩
theorem YtimillpakjgnoaaGreat.lays189 : Go.Proofs.Lays.n189 Tryz.prog YtimillpakjgnoaaGreat.lays189_ren := {
  mixed := by kernel_rfl
  f125 := Tryz.func78.trans (congrArg some (by kernel_rfl))
  f128 := Tryz.func114.trans (congrArg some (by kernel_rfl))
  f129 := Tryz.func115.trans (congrArg some (by kernel_rfl))
  f189 := Tryz.func62.trans (congrArg some (by kernel_rfl))
  f215 := Tryz.func99.trans (congrArg some (by kernel_rfl))
  f216 := Tryz.func125.trans (congrArg some (by kernel_rfl))
  f257 := Tryz.func98.trans (congrArg some (by kernel_rfl))
  f294 := Tryz.func119.trans (congrArg some (by kernel_rfl))
  f295 := Tryz.func120.trans (congrArg some (by kernel_rfl))
  f296 := Tryz.func121.trans (congrArg some (by kernel_rfl))
  f297 := Tryz.func122.trans (congrArg some (by kernel_rfl))
  f298 := Tryz.func123.trans (congrArg some (by kernel_rfl))
  f299 := Tryz.func124.trans (congrArg some (by kernel_rfl))
  f300 := Tryz.func126.trans (congrArg some (by kernel_rfl))
  f301 := Tryz.func127.trans (congrArg some (by kernel_rfl))
  f328 := Tryz.func135.trans (congrArg some (by kernel_rfl))
  f329 := Tryz.func131.trans (congrArg some (by kernel_rfl))
  f330 := Tryz.func132.trans (congrArg some (by kernel_rfl))
  f331 := Tryz.func136.trans (congrArg some (by kernel_rfl))
  f332 := Tryz.func137.trans (congrArg some (by kernel_rfl))
  f343 := Tryz.func139.trans (congrArg some (by kernel_rfl))
  t0 := Tryz.underlying0
  a0 := Tryz.isAgg0
  z0 := Tryz.sizeOf0
  v0 := Tryz.zeroValue0
  t3 := Tryz.underlying3
  a3 := Tryz.isAgg3
  z3 := Tryz.sizeOf3
  v3 := Tryz.zeroValue3
  t4 := Tryz.underlying4
  a4 := Tryz.isAgg4
  z4 := Tryz.sizeOf4
  v4 := Tryz.zeroValue4
  t5 := Tryz.underlying5
  a5 := Tryz.isAgg5
  z5 := Tryz.sizeOf5
  v5 := Tryz.zeroValue5
  t9 := Tryz.underlying9
  a9 := Tryz.isAgg9
  z9 := Tryz.sizeOf9
  v9 := Tryz.zeroValue9
  t28 := Tryz.underlying22
  a28 := Tryz.isAgg22
  z28 := Tryz.sizeOf22
  v28 := Tryz.zeroValue22
  t46 := Tryz.underlying152
  a46 := Tryz.isAgg152
  z46 := Tryz.sizeOf152
  v46 := Tryz.zeroValue152
  t51 := Tryz.underlying62
  a51 := Tryz.isAgg62
  z51 := Tryz.sizeOf62
  v51 := Tryz.zeroValue62
  t53 := Tryz.underlying193
  a53 := Tryz.isAgg193
  z53 := Tryz.sizeOf193
  v53 := Tryz.zeroValue193
  t131 := Tryz.underlying110
  a131 := Tryz.isAgg110
  z131 := Tryz.sizeOf110
  v131 := Tryz.zeroValue110
  t182 := Tryz.underlying185
  a182 := Tryz.isAgg185
  z182 := Tryz.sizeOf185
  v182 := Tryz.zeroValue185
  t183 := Tryz.underlying186
  a183 := Tryz.isAgg186
  z183 := Tryz.sizeOf186
  v183 := Tryz.zeroValue186
  t218 := Tryz.underlying202
  a218 := Tryz.isAgg202
  z218 := Tryz.sizeOf202
  v218 := Tryz.zeroValue202
  t222 := Tryz.underlying206
  a222 := Tryz.isAgg206
  z222 := Tryz.sizeOf206
  v222 := Tryz.zeroValue206
  t228 := Tryz.underlying210
  a228 := Tryz.isAgg210
  z228 := Tryz.sizeOf210
  v228 := Tryz.zeroValue210
  t229 := Tryz.underlying211
  a229 := Tryz.isAgg211
  z229 := Tryz.sizeOf211
  v229 := Tryz.zeroValue211 }
def YtimillpakjgnoaaGreat.lays220_ren : Go.Shelf.Ren := ⟨fun | 20 => 118 | n => n, fun | 22 => 22 | 3 => 3 | 4 => 4 | 0 => 0 | n => n, fun | n => n⟩
theorem YtimillpakjgnoaaGreat.lays220 : Go.Proofs.Lays2.n20 Tryz.prog YtimillpakjgnoaaGreat.lays220_ren := {
  mixed := by kernel_rfl
  f20 := Tryz.func118.trans (congrArg some (by kernel_rfl))
  t0 := Tryz.underlying0
  a0 := Tryz.isAgg0
  z0 := Tryz.sizeOf0
  v0 := Tryz.zeroValue0
  t3 := Tryz.underlying3
  a3 := Tryz.isAgg3
  z3 := Tryz.sizeOf3
  v3 := Tryz.zeroValue3
  t4 := Tryz.underlying4
  a4 := Tryz.isAgg4
  z4 := Tryz.sizeOf4
  v4 := Tryz.zeroValue4
  t22 := Tryz.underlying22
  a22 := Tryz.isAgg22
  z22 := Tryz.sizeOf22
  v22 := Tryz.zeroValue22
  i3 := by kernel_rfl }
end Go.Proofs
namespace Go.Proofs.YtimillpakjgnoaaGreat.Pl
open Go Go.RowKit Go.Sort
theorem flL_int (xs : List Int) : flL xs = xs.map (Value.int .i64) := by
 induction xs with
 | nil => rfl
 | cons x r ih => rw [List.map_cons, ← ih]; rfl
theorem putX {w : World} {h : FH} {b c m q : Nat} {cur : Array Value} {e : TypeId} {ds : List Int} {os : Array Obj} (hs : Sub h w) (sg : Sub (FH.one b (.cells cur e (0, 0))) w) (hd : Disj h (FH.one b (.cells cur e (0, 0)))) (hmax : c ≤ maxLen) (hsz : cur.size = c * 1) (hds : ds.length ≤ c) (hm : m ≤ ds.length) :
  SH (Kp.ex w h (FH.one b (.cells cur e (0, 0)))) h (grow (putRow (Value.int .i64) (Sort.ahead w q) b 0 ds.toArray) os) [OwnSl e 1 (some ⟨b, 0, none⟩) m c (flL (ds.take m))] := by
 have hb : w.heap[b]? = some (.cells cur e (0, 0)) := sg b _ (FH.one_self _ _)
 have hlt : b < w.heap.size := sg.lt (FH.one_self _ _)
 have hheap : ∀ i, i < w.heap.size → (grow (putRow (Value.int .i64) (Sort.ahead w q) b 0 ds.toArray) os).heap[i]? = if b = i then some (.cells (putCells (Value.int .i64) 0 ds.toArray cur) e (0, 0)) else w.heap[i]? := fun i hi => by
  show ((w.heap.modify b (onCells (putCells (Value.int .i64) 0 ds.toArray))) ++ os)[i]? = _
  rw [Array.getElem?_append_left (by rw [Array.size_modify]; exact hi), Array.getElem?_modify]
  by_cases q : b = i
  ·subst q
   rw [if_pos rfl, if_pos rfl, hb]; rfl
  ·rw [if_neg q, if_neg q]
 have hsize : w.heap.size ≤ (grow (putRow (Value.int .i64) (Sort.ahead w q) b 0 ds.toArray) os).heap.size := by
  show w.heap.size ≤ ((w.heap.modify b (onCells (putCells (Value.int .i64) 0 ds.toArray))) ++ os).size
  rw [Array.size_append, Array.size_modify]; omega
 have hone : ∀ i, FH.one b (.cells cur e (0, 0)) i = none → b ≠ i := fun i g q => by
  subst q
  rw [FH.one_self] at g; cases g
 have hnb : ∀ i, h i ≠ none → b ≠ i := fun i hi => hone i ((hd i).resolve_left hi)
 refine ⟨⟨rfl, rfl, rfl, hsize, fun i hi => ?_, (by unfold dr; first | exact Nat.le_add_right _ _ | exact Nat.le_refl _)⟩, fun i o ho => ?_, fun i hi => .inl hi, [FH.one b (.cells (putCells (Value.int .i64) 0 ds.toArray cur) e (0, 0))], rfl, ?_, ?_, ?_⟩
 ·rw [hheap i hi.1, if_neg (hone i hi.2)]; rfl
 ·rw [hheap i (hs.lt ho), if_neg (hnb i (by rw [ho]; simp))]; exact hs i o ho
 ·intro i g X hi hX
  cases i with
  | succ i => simp at hi
  | zero =>
   simp at hi hX
   subst hi; subst hX
   refine ⟨by rw [flL_len]; simp [Flat.sz, hm], .inr ⟨b, _, rfl, rfl, by omega, hmax, by simp [putCells, hsz], ?_⟩⟩
   rw [flL_int, Nat.mul_one]
   refine List.ext_getElem? fun k => ?_
   rw [List.getElem?_take, List.getElem?_map, List.getElem?_take]
   by_cases g : k < m
   ·have g2 : k < ds.length := by omega
    have g3 : k < cur.size := by omega
    rw [if_pos g, if_pos g, Array.getElem?_toList]
    simp [putCells, g2, g3]
   ·rw [if_neg g, if_neg g]; rfl
 ·intro i g hi
  cases i with
  | succ i => simp at hi
  | zero =>
   simp at hi
   subst hi
   refine ⟨fun j => ?_, Sub.one ?_, fun j hj hk => ?_⟩
   ·by_cases g : h j = none
    ·exact .inl g
    ·exact .inr (by unfold FH.one; rw [if_neg (fun e => hnb j g e.symm)])
   ·rw [hheap b hlt, if_pos rfl]
   ·exact hone j hk.2 (FH.one_ne hj).symm
 ·intro i j g g' hij hi hj
  cases i with
  | succ i => simp at hi
  | zero => cases j with
   | zero => exact absurd rfl hij
   | succ j => simp at hj
theorem ownHolds {w : World} {b : Nat} {cur : Array Value} {e : TypeId} {xs : List Int} (hb : w.heap[b]? = some (.cells cur e (0, 0))) (ht : cur.toList.take (xs.length * 1) = flL xs) : Go.Sort.Holds (Value.int .i64) w b 0 xs.toArray := fun j hj => by
 have hj' : j < xs.length := by simpa using hj
 refine ⟨?_, ?_⟩
 ·unfold World.cell?
  rw [hb]
  show (if (none : Option _).isSome = true then none else cur[0 + j]?) = _
  rw [flL_int, Nat.mul_one] at ht
  have h1 := congrArg (fun l => l[j]?) ht
  simp only [List.getElem?_take, hj', if_true, List.getElem?_map] at h1
  rw [Array.getElem?_toList, List.getElem?_eq_getElem hj'] at h1
  rw [Nat.zero_add]
  simp [h1, hj']
 ·unfold World.frozen?
  rw [hb]
  simp
theorem sort_len (xs : List Int) : (sp_sort xs).length = xs.length := List.length_mergeSort _
theorem c_sort {h : FH} {w : World} (hs : Sub h w) (s_ : List Int) (a : Option Addr) (c : Nat) {gX : FH} (ownX : OwnSl 3 1 a s_.length c (flL s_) gX) (subX : Sub gX w) (disX : Disj h gX) (hp : pre_sort s_) : Calls Tryz.prog 62 #[.slice a s_.length c] w fun e w' => e = .returned (.tuple #[]) ∧ SH (Kp.ex w h gX) h w' [OwnSl 3 1 a s_.length c (flL (sp_sort s_))] := by
 have own0 := ownX
 obtain ⟨h1, ⟨rfl, h2, rfl, rfl⟩ | ⟨b, cur, rfl, rfl, h4, h5, h6, h7⟩⟩ := ownX
 ·have e : s_ = [] := List.length_eq_zero_iff.1 h2
  subst e
  refine (Any.slices_Sort_int_none YtimillpakjgnoaaGreat.lays189 none 0 w).mono fun e w' ⟨he, hw⟩ => ⟨he, ?_⟩
  subst hw
  rw [show sp_sort [] = [] by simp [sp_sort]]
  exact SH.startX hs subX disX own0
 ·have hb := subX b _ (FH.one_self _ _)
  refine (Any.slices_Sort_int YtimillpakjgnoaaGreat.lays189 b 0 c s_ w (ownHolds hb h7) (subX.lt (FH.one_self _ _)) (Nat.lt_of_le_of_lt hp (by decide))).mono fun e w' ⟨he, n, os, hw⟩ => ⟨he, ?_⟩
  subst hw
  have := putX (q := n) (os := os) (ds := sp_sort s_) (m := s_.length) hs subX disX h5 h6 (by rw [sort_len]; exact h4) (by rw [sort_len]; exact Nat.le_refl _)
  rwa [List.take_of_length_le (by rw [sort_len]; exact Nat.le_refl _)] at this
theorem compact_len (xs : List Int) : (sp_compact xs).length ≤ xs.length := Lib.compact_length_le xs
theorem c_compact {h : FH} {w : World} (hs : Sub h w) (s_ : List Int) (a : Option Addr) (c : Nat) {gX : FH} (ownX : OwnSl 3 1 a s_.length c (flL s_) gX) (subX : Sub gX w) (disX : Disj h gX) (hp : pre_compact s_) : Calls Tryz.prog 118 #[.slice a s_.length c] w fun e w' => e = .returned (.slice a (sp_compact s_).length c) ∧ SH (Kp.ex w h gX) h w' [OwnSl 3 1 a (sp_compact s_).length c (flL (sp_compact s_))] := by
 have own0 := ownX
 obtain ⟨h1, ⟨rfl, h2, rfl, rfl⟩ | ⟨b, cur, rfl, rfl, h4, h5, h6, h7⟩⟩ := ownX
 ·have e : s_ = [] := List.length_eq_zero_iff.1 h2
  subst e
  refine (Any.slices_Compact_int_empty YtimillpakjgnoaaGreat.lays220 none 0 w).mono fun e w' ⟨he, hw⟩ => ⟨he, ?_⟩
  subst hw
  exact SH.startX hs subX disX own0
 ·have hb := subX b _ (FH.one_self _ _)
  have hl := compact_len s_
  unfold pre_compact at hp
  refine (Any.slices_Compact_int YtimillpakjgnoaaGreat.lays220 b 0 c s_ w (ownHolds hb h7) (by omega) h4).mono fun e w' ⟨he, n, hw⟩ => ⟨he, ?_⟩
  subst hw
  have e2 : (sp_compact s_ ++ List.replicate (s_.length - (sp_compact s_).length) 0).length = s_.length := by rw [List.length_append, List.length_replicate]; omega
  have := putX (q := n) (os := #[]) (ds := sp_compact s_ ++ List.replicate (s_.length - (sp_compact s_).length) 0) (m := (sp_compact s_).length) hs subX disX h5 h6 (by rw [e2]; exact h4) (by rw [e2]; exact hl)
  rw [List.take_left, grow_empty] at this
  exact this
end Go.Proofs.YtimillpakjgnoaaGreat.Pl

namespace Go.Proofs.YtimillpakjgnoaaGreat.Pl
open Go Go.RowKit
end Go.Proofs.YtimillpakjgnoaaGreat.Pl

namespace Go.Proofs.YtimillpakjgnoaaGreat.Pl
open Go Go.RowKit
def mapOf (l : List Entry) : List UInt8 → Int := fun k => if k ∈ l.map (fun e => keyL e.node) then 1 else 0
theorem mapOf_push (l : List Entry) (e : Entry) : upd (mapOf l) (keyL e.node) 1 = mapOf (l ++ [e]) := by
 funext k
 unfold upd mapOf
 rw [List.map_append]
 by_cases h : k = keyL e.node
 ·rw [if_pos h, if_pos (by simp [h])]
 ·rw [if_neg h]
  simp [h]
theorem mapOf_one (e : Entry) : upd (fun _ => 0) (keyL e.node) 1 = mapOf [e] := by
 funext k
 unfold upd mapOf
 by_cases h : k = keyL e.node
 ·rw [if_pos h, if_pos (by simp [h])]
 ·rw [if_neg h, if_neg (by simp [h])]
theorem allS_drop {n j : Nat} (h : j < n) : (allS n).drop j = (j : Int) :: (allS n).drop (j + 1) := by
 have hl : j < (allS n).length := by rw [allS_len]; exact h
 rw [List.drop_eq_getElem_cons hl]
 congr 1
 simp [allS]
structure QOK (t : Task) (start : Bel) (l : List Entry) (m : List UInt8 → Int) : Prop where
 map : m = mapOf l
 shape : Shape (bsucc t) start l
 len : l.length ≤ 2000
 ok : ∀ e ∈ l, WsOK t e.node
theorem QOK.start {t : Task} {start : Bel} (h : WsOK t start) : QOK t start [⟨start, -1, 0⟩] (upd (fun _ => 0) (keyL start) 1) :=
 ⟨mapOf_one ⟨start, -1, 0⟩, Shape.start _ _, by simp, fun e he => by rw [List.mem_singleton.1 he]; exact h⟩
theorem QOK.push {t : Task} {start : Bel} {l : List Entry} {m : List UInt8 → Int} (h : QOK t start l m) {i : Nat} {e : Entry} (hi : l[i]? = some e) {s : Int} {n : Bel} (hs : (s, n) ∈ bsucc t e.node) (hn : n ∉ l.map (·.node)) (hw : WsOK t n) (hl : l.length ≠ 2000) : QOK t start (l ++ [⟨n, (i : Int), s⟩]) (upd m (keyL n) 1) := by
 refine ⟨by rw [h.map]; exact mapOf_push l ⟨n, (i : Int), s⟩, h.shape.push hi hs hn, by have := h.len; simp; omega, fun e' he' => ?_⟩
 rcases List.mem_append.1 he' with he' | he'
 ·exact h.ok e' he'
 ·rw [List.mem_singleton.1 he']; exact hw
end Go.Proofs.YtimillpakjgnoaaGreat.Pl

namespace Go.Proofs.YtimillpakjgnoaaGreat.Pl
open Go Go.RowKit
theorem ok_word : ∀ (s_ : List Int), pre_word s_ → F_word s_ (fun r => r = sp_word s_) := fun s ⟨hl, h0⟩ => by
 refine ⟨fun w t => ∃ k : Nat, t = k ∧ k ≤ s.length ∧ w = sp_word (s.take k), fun _ t => (s.length - t).toNat, ⟨0, rfl, Nat.zero_le _, rfl⟩, ?_⟩
 rintro w _ ⟨k, rfl, k1, rfl⟩
 unfold F_word_L1
 simp only [decide_eq_true_eq, decide_eq_false_iff_not, forall_eq]
 refine ⟨fun h => ?_, fun h => ?_⟩
 ·have hk : k < s.length := by omega
  rw [w64 (by omega)]
  refine ⟨⟨by omega, h⟩, h0 _ (gt_memN hk), ⟨k + 1, by omega, by omega, ?_⟩, by omega⟩
  rw [takeN_gt hk, sp_word, sp_word, List.foldl_append]
  rfl
 ·rw [List.take_of_length_le (by omega)]
theorem ok_facts : ∀ (w_ : Int), pre_facts w_ → F_facts w_ (fun r => r = sp_facts w_) := fun w _ => by
 refine ⟨fun t out => ∃ k : Nat, t = k ∧ k ≤ 32 ∧ out = (allS k).filter fun p => bits .and .u32 (Int.fdiv w (2 ^ (min p.toNat (IntKind.bits .u32)))) 1 == 1, fun t _ => (32 - t).toNat, ⟨0, rfl, Nat.zero_le _, rfl⟩, ?_⟩
 rintro _ out ⟨k, rfl, k1, k2⟩
 have hlen : out.length ≤ k := by
  rw [k2]
  exact Nat.le_trans (List.length_filter_le _ _) (by rw [allS_len]; exact Nat.le_refl _)
 unfold F_facts_L1 F_facts_J1
 simp only [decide_eq_true_eq, decide_eq_false_iff_not, forall_eq, List.length_append, List.length_singleton]
 refine ⟨fun h => ?_, fun h => ?_⟩
 ·rw [w64 (by omega)]
  refine ⟨by omega, fun q => ⟨⟨by simp only [maxLen]; omega, by omega⟩, ⟨k + 1, by omega, by omega, ?_⟩, by omega⟩, fun q => ⟨⟨k + 1, by omega, by omega, ?_⟩, by omega⟩⟩
  ·rw [allS_succ, List.filter_append, ← k2, filter1_pos (p := fun p => bits .and .u32 (Int.fdiv w (2 ^ (min p.toNat (IntKind.bits .u32)))) 1 == 1) q]
  ·rw [allS_succ, List.filter_append, ← k2, filter1_neg (p := fun p => bits .and .u32 (Int.fdiv w (2 ^ (min p.toNat (IntKind.bits .u32)))) 1 == 1) q, List.append_nil]
 ·have hk : k = 32 := by omega
  subst hk
  exact k2
theorem facts_len (w : Int) : (sp_facts w).length ≤ 32 := Nat.le_trans (List.length_filter_le _ _) (by rw [allS_len]; exact Nat.le_refl _)
theorem ok_wcmp : ∀ (a : Int) (b : Int), pre_wcmp a b → F_wcmp a b (fun r => r = sp_wcmp a b) := fun a b _ => by
 refine ⟨trivial, fun r2 h2 => ⟨trivial, fun r3 h3 => ⟨?_, fun r4 h4 => ?_⟩⟩⟩
 ·subst h2; subst h3
  have := facts_len a
  have := facts_len b
  exact ⟨by omega, by omega⟩
 ·rw [h4, h2, h3]; rfl
theorem or32 (a b : Nat) (ha : a < 4294967296) (hb : b < 4294967296) : bits .or .u32 (a : Int) (b : Int) = ((a ||| b : Nat) : Int) ∧ a ||| b < 4294967296 := by
 have hx : a ||| b < 2 ^ 32 := Nat.or_lt_two_pow (by omega) (by omega)
 have h1 : (BitVec.ofInt 32 (a : Int)).toNat = a := by
  rw [BitVec.ofInt_natCast, BitVec.toNat_ofNat]; exact Nat.mod_eq_of_lt (by omega)
 have h2 : (BitVec.ofInt 32 (b : Int)).toNat = b := by
  rw [BitVec.ofInt_natCast, BitVec.toNat_ofNat]; exact Nat.mod_eq_of_lt (by omega)
 refine ⟨?_, by omega⟩
 show IntKind.u32.wrap ((BitVec.ofInt 32 (a : Int) ||| BitVec.ofInt 32 (b : Int)).toNat : Int) = _
 rw [BitVec.toNat_or, h1, h2, IntKind.wrap_u32]; omega
theorem and32 (a b : Nat) (ha : a < 4294967296) (hb : b < 4294967296) : bits .and .u32 (a : Int) (b : Int) = ((a &&& b : Nat) : Int) ∧ a &&& b < 4294967296 := by
 have hx : a &&& b < 2 ^ 32 := Nat.and_lt_two_pow _ (by omega)
 have h1 : (BitVec.ofInt 32 (a : Int)).toNat = a := by
  rw [BitVec.ofInt_natCast, BitVec.toNat_ofNat]; exact Nat.mod_eq_of_lt (by omega)
 have h2 : (BitVec.ofInt 32 (b : Int)).toNat = b := by
  rw [BitVec.ofInt_natCast, BitVec.toNat_ofNat]; exact Nat.mod_eq_of_lt (by omega)
 refine ⟨?_, by omega⟩
 show IntKind.u32.wrap ((BitVec.ofInt 32 (a : Int) &&& BitVec.ofInt 32 (b : Int)).toNat : Int) = _
 rw [BitVec.toNat_and, h1, h2, IntKind.wrap_u32]; omega
theorem andNot32 (a b : Nat) : ∃ c : Nat, bits .andNot .u32 (a : Int) (b : Int) = (c : Int) ∧ c < 4294967296 ∧ ∀ i, i < 32 → c.testBit i = (a.testBit i && !b.testBit i) := by
 have h1 : (BitVec.ofInt 32 (a : Int)) = BitVec.ofNat 32 a := BitVec.ofInt_natCast 32 a
 have h2 : (BitVec.ofInt 32 (b : Int)) = BitVec.ofNat 32 b := BitVec.ofInt_natCast 32 b
 have hlt := (BitVec.ofNat 32 a &&& ~~~(BitVec.ofNat 32 b)).isLt
 refine ⟨(BitVec.ofNat 32 a &&& ~~~(BitVec.ofNat 32 b)).toNat, ?_, by omega, fun i hi => ?_⟩
 ·show IntKind.u32.wrap ((BitVec.ofInt 32 (a : Int) &&& ~~~(BitVec.ofInt 32 (b : Int))).toNat : Int) = _
  rw [h1, h2, IntKind.wrap_u32]; omega
 ·rw [BitVec.testBit_toNat, BitVec.getLsbD_and, BitVec.getLsbD_not, BitVec.getLsbD_ofNat, BitVec.getLsbD_ofNat]
  simp [hi]
structure Wd (w : Int) (s : Int → Prop) : Prop where
 ex : ∃ n : Nat, w = (n : Int) ∧ n < 4294967296 ∧ ∀ i : Nat, i < 32 → (n.testBit i = true ↔ s (i : Int))
theorem bitW_eq {p : Nat} (hp : p < 32) : bitW (p : Int) = ((2 ^ p : Nat) : Int) ∧ 2 ^ p < 4294967296 := by
 have e1 : min ((p : Int)).toNat (IntKind.bits .u32) = p := by
  rw [Int.toNat_natCast]; show min p 32 = p; omega
 have e2 : 2 ^ p < 2 ^ 32 := Nat.pow_lt_pow_right (by omega) hp
 refine ⟨?_, by omega⟩
 unfold bitW
 rw [e1, Int.one_mul, show (2 : Int) ^ p = ((2 ^ p : Nat) : Int) by simp, IntKind.wrap_u32]
 generalize 2 ^ p = N at e2 ⊢
 omega
theorem Wd.word : ∀ (s : List Int), (∀ p ∈ s, 0 ≤ p ∧ p < 32) → Wd (sp_word s) (fun p => p ∈ s) := by
 have key : ∀ (s acc : List Int) (w : Int), Wd w (fun p => p ∈ acc) → (∀ p ∈ s, 0 ≤ p ∧ p < 32) → Wd (s.foldl (fun w p => bits .or .u32 w (bitW p)) w) (fun p => p ∈ acc ∨ p ∈ s) := by
  intro s
  induction s with
  | nil => intro acc w h _; exact ⟨by obtain ⟨n, a, b, c⟩ := h.ex; exact ⟨n, a, b, fun i hi => by rw [c i hi]; simp⟩⟩
  | cons x r ih =>
   intro acc w h hs
   obtain ⟨n, rfl, n1, n2⟩ := h.ex
   obtain ⟨x0, x1⟩ := hs x List.mem_cons_self
   obtain ⟨k, rfl⟩ : ∃ k : Nat, x = k := ⟨x.toNat, by omega⟩
   obtain ⟨b1, b2⟩ := bitW_eq (p := k) (by omega)
   obtain ⟨o1, o2⟩ := or32 n (2 ^ k) n1 b2
   have := ih (acc ++ [(k : Int)]) (bits .or .u32 (n : Int) (bitW (k : Int))) ⟨⟨n ||| 2 ^ k, by rw [b1]; exact o1, o2, fun i hi => by
    rw [Nat.testBit_or, Nat.testBit_two_pow, Bool.or_eq_true, n2 i hi, decide_eq_true_eq, List.mem_append, List.mem_singleton]
    exact or_congr_right ⟨fun e => by rw [e], fun e => by omega⟩⟩⟩ fun p hp => hs p (List.mem_cons_of_mem _ hp)
   rw [List.foldl_cons]
   obtain ⟨m, m1, m2, m3⟩ := this.ex
   refine ⟨m, m1, m2, fun i hi => ?_⟩
   rw [m3 i hi, List.mem_append, List.mem_singleton, List.mem_cons]
   exact or_assoc
 intro s hs
 have := key s [] 0 ⟨⟨0, rfl, by omega, fun i _ => by simp⟩⟩ hs
 obtain ⟨m, m1, m2, m3⟩ := this.ex
 exact ⟨m, m1, m2, fun i hi => by rw [m3 i hi]; simp⟩
theorem Wd.u32 {w : Int} {s : Int → Prop} (h : Wd w s) : U32 w := by
 obtain ⟨n, rfl, n1, _⟩ := h.ex
 exact ⟨by omega, by omega⟩
theorem Wd.unique {w w' : Int} {s : Int → Prop} (h : Wd w s) (h' : Wd w' s) : w = w' := by
 obtain ⟨n, rfl, n1, n2⟩ := h.ex
 obtain ⟨m, rfl, m1, m2⟩ := h'.ex
 congr 1
 refine Nat.eq_of_testBit_eq fun i => ?_
 by_cases hi : i < 32
 ·have a := n2 i hi
  have b := m2 i hi
  cases hx : n.testBit i <;> cases hy : m.testBit i <;> simp_all
 ·have h32 : 2 ^ 32 ≤ 2 ^ i := Nat.pow_le_pow_right (by omega) (by omega)
  rw [Nat.testBit_lt_two_pow (by omega), Nat.testBit_lt_two_pow (by omega)]
theorem Wd.iff {w : Int} {s s' : Int → Prop} (h : Wd w s) (e : ∀ i : Nat, i < 32 → (s (i : Int) ↔ s' (i : Int))) : Wd w s' := by
 obtain ⟨n, n0, n1, n2⟩ := h.ex
 exact ⟨n, n0, n1, fun i hi => (n2 i hi).trans (e i hi)⟩
theorem Wd.inj {w : Int} {s s' : Int → Prop} (h : Wd w s) (h' : Wd w s') : ∀ i : Nat, i < 32 → (s (i : Int) ↔ s' (i : Int)) := fun i hi => by
 obtain ⟨n, rfl, n1, n2⟩ := h.ex
 obtain ⟨m, m0, m1, m2⟩ := h'.ex
 obtain rfl : n = m := by omega
 rw [← n2 i hi, ← m2 i hi]
theorem Wd.or {a b : Int} {s s' : Int → Prop} (h : Wd a s) (h' : Wd b s') : Wd (bits .or .u32 a b) (fun p => s p ∨ s' p) := by
 obtain ⟨n, rfl, n1, n2⟩ := h.ex
 obtain ⟨m, rfl, m1, m2⟩ := h'.ex
 obtain ⟨o1, o2⟩ := or32 n m n1 m1
 exact ⟨n ||| m, o1, o2, fun i hi => by rw [Nat.testBit_or, Bool.or_eq_true, n2 i hi, m2 i hi]⟩
theorem Wd.and {a b : Int} {s s' : Int → Prop} (h : Wd a s) (h' : Wd b s') : Wd (bits .and .u32 a b) (fun p => s p ∧ s' p) := by
 obtain ⟨n, rfl, n1, n2⟩ := h.ex
 obtain ⟨m, rfl, m1, m2⟩ := h'.ex
 obtain ⟨o1, o2⟩ := and32 n m n1 m1
 exact ⟨n &&& m, o1, o2, fun i hi => by rw [Nat.testBit_and, Bool.and_eq_true, n2 i hi, m2 i hi]⟩
theorem Wd.andNot {a b : Int} {s s' : Int → Prop} (h : Wd a s) (h' : Wd b s') : Wd (bits .andNot .u32 a b) (fun p => s p ∧ ¬ s' p) := by
 obtain ⟨n, rfl, n1, n2⟩ := h.ex
 obtain ⟨m, rfl, m1, m2⟩ := h'.ex
 obtain ⟨c, c1, c2, c3⟩ := andNot32 n m
 refine ⟨c, c1, c2, fun i hi => ?_⟩
 have := m2 i hi
 rw [c3 i hi, Bool.and_eq_true, n2 i hi]
 cases hb : m.testBit i <;> simp_all
theorem Wd.sub {a b : Int} {s s' : Int → Prop} (h : Wd a s) (h' : Wd b s') : (bits .and .u32 a b == b) = true ↔ ∀ i : Nat, i < 32 → s' (i : Int) → s (i : Int) := by
 rw [beq_iff_eq]
 constructor
 ·intro e i hi hs
  have hx := h.and h'
  rw [e] at hx
  exact ((hx.inj h' i hi).2 hs).1
 ·intro g
  exact Wd.unique (h.and h') (h'.iff fun i hi => ⟨fun q => ⟨g i hi q, q⟩, fun q => q.2⟩)
theorem mem_facts {w : Int} {s : Int → Prop} (h : Wd w s) {p : Int} : p ∈ sp_facts w ↔ (0 ≤ p ∧ p < 32) ∧ s p := by
 obtain ⟨n, rfl, n1, n2⟩ := h.ex
 unfold sp_facts
 rw [List.mem_filter, mem_allS]
 refine and_congr_right fun hp => ?_
 obtain ⟨k, rfl⟩ : ∃ k : Nat, p = k := ⟨p.toNat, by omega⟩
 have hk : k < 32 := by have := hp.2; omega
 have e1 : min ((k : Int)).toNat (IntKind.bits .u32) = k := by
  rw [Int.toNat_natCast]; show min k 32 = k; omega
 have e2 : Int.fdiv (n : Int) (2 ^ k) = ((n / 2 ^ k : Nat) : Int) := by
  rw [Int.fdiv_eq_ediv_of_nonneg _ (Int.le_of_lt (Int.pow_pos (by decide)))]
  simp
 have e3 : n / 2 ^ k ≤ n := Nat.div_le_self _ _
 have e4 := (and32 (n / 2 ^ k) 1 (by omega) (by omega)).1
 rw [show ((1 : Nat) : Int) = 1 from rfl] at e4
 rw [e1, e2, e4, ← n2 k hk, Nat.and_one_is_mod, Nat.testBit_eq_decide_div_mod_eq, beq_iff_eq, decide_eq_true_eq]
 omega
theorem pushW_spec : ∀ (r : List (Int × Int)) (z : List Int × List (Int × Unit)), (∃ l, (pushW r z).1 = z.1 ++ l ∧ (pushW r z).2.length = z.2.length + l.length) ∧ (∀ x, x ∈ (pushW r z).2.map (·.1) → x ∈ z.2.map (·.1) ∨ x ∈ (pushW r z).1) ∧ (∀ x, x ∈ z.2.map (·.1) → x ∈ (pushW r z).2.map (·.1)) ∧ (∀ x ∈ r, x.2 ∈ (pushW r z).2.map (·.1)) ∧ (pushW r z).2.length ≤ z.2.length + r.length
 | [], z => ⟨⟨[], by simp [pushW], rfl⟩, fun _ h => .inl h, fun _ h => h, fun _ h => (by cases h), Nat.le_refl _⟩
 | x :: r, z => by
  rw [pushW]
  split
  ·rename_i hx
   obtain ⟨h1, h2, h3, h4, h5⟩ := pushW_spec r z
   refine ⟨h1, h2, h3, fun y hy => ?_, by simp; omega⟩
   rcases List.mem_cons.1 hy with rfl | hy
   ·exact h3 _ (getA_some.1 hx)
   ·exact h4 y hy
  ·rename_i hx
   obtain ⟨⟨l, g1, g2⟩, h2, h3, h4, h5⟩ := pushW_spec r (z.1 ++ [x.2], setA z.2 x.2 ())
   have hn : getA z.2 x.2 = none := by
    cases h : getA z.2 x.2 with
    | none => rfl
    | some v => rw [h] at hx; exact absurd rfl hx
   have hs := setA_new (v := ()) hn
   rw [hs] at g1 g2 h2 h3 h4 h5 ⊢
   simp only [List.length_append, List.length_singleton] at g2 h5
   refine ⟨⟨x.2 :: l, by rw [g1]; simp, by simp; omega⟩, fun y hy => ?_, fun y hy => ?_, fun y hy => ?_, by simp; omega⟩
   ·rcases h2 y hy with q | q
    ·rw [List.map_append, List.mem_append] at q
     rcases q with q | q
     ·exact .inl q
     ·simp at q
      refine .inr ?_
      rw [g1, q]; simp
    ·exact .inr q
   ·exact h3 y (by rw [List.map_append]; exact List.mem_append_left _ hy)
   ·rcases List.mem_cons.1 hy with rfl | hy
    ·exact h3 _ (by rw [List.map_append]; exact List.mem_append_right _ (by simp))
    ·exact h4 y hy
theorem last_takeW {l : List Int} (h : 0 < l.length) : l.getLast? = some (gt l ((l.length : Int) - 1)) ∧ l.take ((l.length : Int) - 1).toNat = l.dropLast := by
 have e : ((l.length : Int) - 1).toNat = l.length - 1 := by omega
 refine ⟨?_, by rw [e, List.dropLast_eq_take]⟩
 rw [List.getLast?_eq_getElem?]
 have := gt_get (xs := l) (i := (l.length : Int) - 1) ⟨by omega, by omega⟩
 rw [e] at this
 exact this
theorem ok_all : ∀ (x : WordsT), pre_all x → F_all x (fun r => r = sp_all x) := fun W hp => by
 have hops : W.ops.length ≤ 40 := hp
 intro m hm
 rw [show m = [(W.start, ())] from hm]
 refine ⟨fun out l m => out.length + l.length = m.length ∧ m.length ≤ 2000 ∧ dfs W (2001 - out.length) l m out = sp_all W, fun out _ _ => 2001 - out.length, ⟨rfl, by simp, rfl⟩, ?_⟩
 rintro out l m ⟨h1, h2, h3⟩
 unfold F_all_L1
 simp only [decide_eq_true_eq, decide_eq_false_iff_not, forall_eq, List.length_append, List.length_singleton]
 refine ⟨fun h => ?_, fun h => ?_⟩
 ·have hl : 0 < l.length := by omega
  obtain ⟨g1, g2⟩ := last_takeW hl
  rw [w64 (by omega), g2]
  have hdl : l.dropLast.length = l.length - 1 := List.length_dropLast
  rw [show 2001 - out.length = (2000 - out.length) + 1 by omega, dfs] at h3
  simp only [g1] at h3
  obtain ⟨⟨lx, p1, p2⟩, _, _, _, p5⟩ := pushW_spec (wsucc W (gt l ((l.length : Int) - 1))) (l.dropLast, m)
  refine ⟨⟨by omega, by omega⟩, ⟨by omega, by omega⟩, ⟨by simp only [maxLen]; omega, by omega⟩, ?_⟩
  refine ⟨fun t l4 m4 => ∃ j : Nat, t = j ∧ j ≤ W.ops.length ∧ l4.length + (out.length + 1) = m4.length ∧ m4.length ≤ m.length + j ∧ pushW (((allS W.ops.length).drop j).filterMap (wopS W (gt l ((l.length : Int) - 1)))) (l4, m4) = pushW (wsucc W (gt l ((l.length : Int) - 1))) (l.dropLast, m), fun t _ _ => (W.ops.length - t).toNat, ⟨0, rfl, Nat.zero_le _, by omega, Nat.le_refl _, rfl⟩, ?_⟩
  rintro _ l4 m4 ⟨j, rfl, j1, j2, j3, j4⟩
  unfold F_all_L2 F_all_J1
  rw [w64 (n := (l.length : Int) - 1) (by omega)]
  simp only [decide_eq_true_eq, decide_eq_false_iff_not, forall_eq, List.length_append, List.length_singleton, Bool.not_eq_true', Bool.not_eq_false']
  refine ⟨fun g => ?_, fun g => ?_⟩
  ·have hj : j < W.ops.length := by omega
   rw [allS_drop hj, List.filterMap_cons] at j4
   rw [w64 (n := (j : Int) + 1) (by omega)]
   refine ⟨⟨by omega, g⟩, fun q => ?_, fun q => ?_⟩
   ·have eo : wopS W (gt l ((l.length : Int) - 1)) (j : Int) = some ((j : Int), bits .or .u32 (bits .andNot .u32 (gt l ((l.length : Int) - 1)) (gt W.ops (j : Int)).del) (gt W.ops (j : Int)).add) := by rw [wopS, if_pos q]
    rw [eo] at j4
    simp only [pushW] at j4
    refine ⟨fun k => ?_, fun k => ?_⟩
    ·rw [if_neg (by rw [k]; decide)] at j4
     have hn : getA m4 (bits .or .u32 (bits .andNot .u32 (gt l ((l.length : Int) - 1)) (gt W.ops (j : Int)).del) (gt W.ops (j : Int)).add) = none := by
      cases h : getA m4 (bits .or .u32 (bits .andNot .u32 (gt l ((l.length : Int) - 1)) (gt W.ops (j : Int)).del) (gt W.ops (j : Int)).add) with
      | none => rfl
      | some v => rw [h] at k; cases k
     have hsl : (setA m4 (bits .or .u32 (bits .andNot .u32 (gt l ((l.length : Int) - 1)) (gt W.ops (j : Int)).del) (gt W.ops (j : Int)).add) ()).length = m4.length + 1 := by rw [setA_new hn, List.length_append]; rfl
     exact ⟨⟨by simp only [maxLen]; omega, by omega⟩, ⟨j + 1, by omega, by omega, by rw [hsl]; omega, by rw [hsl]; omega, j4⟩, by omega⟩
    ·rw [if_pos k] at j4
     exact ⟨⟨j + 1, by omega, by omega, j2, by omega, j4⟩, by omega⟩
   ·have eo : wopS W (gt l ((l.length : Int) - 1)) (j : Int) = none := by rw [wopS, if_neg (by rw [q]; decide)]
    rw [eo] at j4
    exact ⟨⟨j + 1, by omega, by omega, j2, by omega, j4⟩, by omega⟩
  ·have ed : (allS W.ops.length).drop j = [] := List.drop_eq_nil_of_le (by rw [allS_len]; omega)
   rw [ed, List.filterMap_nil, pushW] at j4
   rw [← j4] at h3
   refine ⟨fun q => ?_, fun q => ⟨⟨by omega, by omega, ?_⟩, by omega⟩⟩
   ·rw [if_pos (by simp only; omega)] at h3
    exact h3
   ·rw [if_neg (by simp only; omega)] at h3
    rw [show 2001 - (out.length + 1) = 2000 - out.length by omega]
    exact h3
 ·have hl : l = [] := List.eq_nil_of_length_eq_zero (by omega)
  subst hl
  rw [show 2001 - out.length = (2000 - out.length) + 1 by simp at h1; omega, dfs] at h3
  exact h3
end Go.Proofs.YtimillpakjgnoaaGreat.Pl

namespace Go.Proofs.YtimillpakjgnoaaGreat.Pl
open Go Go.RowKit
theorem ok_stateFault : ∀ (t : Task) (s_ : List Int), F_stateFault t s_ (fun r => r = sp_stateFault t s_) := fun t s => by
 unfold F_stateFault
 simp only [forall_eq, fault_ne, fault_eq]
 simp only [Bool.not_eq_true', Bool.not_eq_false']
 refine ⟨fun h => ?_, fun h => ?_⟩
 ·rw [sp_stateFault, if_neg h]
 ·have hf := (taskOK_of h).facts
  refine ⟨⟨hf.1, by omega⟩, fun q => ?_, fun q => ?_⟩
  ·rw [sp_stateFault, if_pos h, if_neg (by rw [q]; decide)]
  ·rw [sp_stateFault, if_pos h, if_pos q]
theorem ok_image : ∀ (perm : List Int) (s_ : List Int), pre_image perm s_ → F_image perm s_ (fun r => r = sp_image perm s_) := fun perm s ⟨hl, hp⟩ => by
 refine ⟨fun t out => ∃ k : Nat, t = k ∧ k ≤ s.length ∧ out = (s.take k).map fun p => gt perm p, fun t _ => (s.length - t).toNat, ⟨0, rfl, Nat.zero_le _, rfl⟩, ?_⟩
 rintro _ out ⟨k, rfl, k1, rfl⟩
 unfold F_image_L1
 simp only [decide_eq_true_eq, decide_eq_false_iff_not, forall_eq, List.length_append, List.length_singleton, List.length_map, List.length_take]
 refine ⟨fun h => ?_, fun h => ?_⟩
 ·have hk : k < s.length := by omega
  rw [w64 (by omega)]
  refine ⟨⟨by omega, h⟩, hp _ (gt_memN hk), ⟨by simp only [maxLen]; omega, by omega⟩, ⟨k + 1, by omega, by omega, ?_⟩, by omega⟩
  rw [takeN_gt hk, List.map_append]
  rfl
 ·rw [List.take_of_length_le (by omega)]
  exact ⟨by unfold pre_sort; rw [List.length_map]; omega, rfl⟩
theorem ok_opEqual : ∀ (a : Operator) (b : Operator), pre_opEqual a b → F_opEqual a b (fun r => r = sp_opEqual a b) := fun a b ⟨⟨a1, a2, a3⟩, b1, b2, b3⟩ => by
 obtain ⟨ap, aa, ad, ac⟩ := a
 obtain ⟨bp, ba, bd, bc⟩ := b
 simp only at a1 a2 a3 b1 b2 b3
 unfold F_opEqual sp_opEqual
 simp only [beq_iff_eq, beq_eq_false_iff_ne, ne_eq, forall_eq, Operator.mk.injEq, sp_sequal, decide_eq_true_eq, decide_eq_false_iff_not]
 refine ⟨fun h => ⟨⟨a1, b1⟩, fun h1 => ⟨⟨a2, b2⟩, fun h2 => ⟨⟨a3, b3⟩, ?_⟩, fun h2 => ?_⟩, fun h1 => ?_⟩, fun h => ?_⟩ <;> simp_all
theorem image_len (perm s : List Int) : (sp_image perm s).length = s.length := by
 unfold sp_image sp_sort
 rw [List.length_mergeSort, List.length_map]
theorem image_pre {t : Task} {perm s : List Int} (tk : TaskOK t) (hp : (perm.length : Int) = t.facts) (hs : sp_isSet s t.facts = true) : pre_image perm s := by
 have hf := tk.facts
 have hl := set_len hf.1 hs
 exact ⟨by omega, fun p h => ⟨(set_rng hs p h).1, by rw [hp]; exact (set_rng hs p h).2⟩⟩
def symAt (ops : List Operator) (used : List Bool) (want : Operator) (j : Nat) : Int := match (List.range j).find? fun i : Nat => !(gt used (i : Int)) && decide (gt ops (i : Int) = want) with
 | none => -1
 | some i => (i : Int)
theorem symAt_succ {ops : List Operator} {used : List Bool} {want : Operator} {j : Nat} : symAt ops used want (j + 1) = if symAt ops used want j < 0 then if (!(gt used (j : Int)) && decide (gt ops (j : Int) = want)) = true then (j : Int) else -1 else symAt ops used want j := by
 unfold symAt
 rw [List.range_succ, List.find?_append]
 cases h : (List.range j).find? fun i : Nat => !(gt used (i : Int)) && decide (gt ops (i : Int) = want) with
 | some i =>
  simp only [Option.some_or]
  rw [if_neg (by omega)]
 | none =>
  simp only [Option.none_or]
  rw [if_pos (by omega)]
  simp only [List.find?_cons, List.find?_nil]
  cases hq : !(gt used (j : Int)) && decide (gt ops (j : Int) = want) with
  | true => rfl
  | false => rfl
theorem symAt_neg {ops : List Operator} {used : List Bool} {want : Operator} {j : Nat} (h : symAt ops used want j < 0) : symAt ops used want j = -1 := by
 unfold symAt at h ⊢
 split at h
 ·rfl
 ·omega
theorem ok_symOps : ∀ (t : Task) (perm : List Int), pre_symOps t perm → F_symOps t perm (fun r => r = sp_symOps t perm) := fun t perm ⟨hv, hp⟩ => by
 have tk := taskOK_of hv
 have hlen := tk.len
 have pg := image_pre tk hp tk.goal
 unfold F_symOps
 simp only [forall_eq]
 refine ⟨pg, ⟨by rw [image_len]; exact pg.1, pg.1⟩, fun h => ?_, fun h => ⟨⟨by omega, by omega, by simp only [maxLen]; omega⟩, ?_⟩⟩
 ·have hg : ¬ sp_image perm t.goal = t.goal := by simpa [sp_sequal] using h
  rw [sp_symOps, if_neg hg]
 have hg : sp_image perm t.goal = t.goal := by simpa [sp_sequal] using h
 refine ⟨fun i used out => ∃ k : Nat, i = k ∧ k ≤ t.ops.length ∧ used.length = t.ops.length ∧ out.length = k ∧ symGo t.ops perm (t.ops.drop k) used out = symGo t.ops perm t.ops (List.replicate t.ops.length false) [], fun i _ _ => (t.ops.length - i).toNat, ⟨0, rfl, Nat.zero_le _, by simp, rfl, by rw [List.drop_zero]; rfl⟩, ?_⟩
 rintro _ used out ⟨k, rfl, k1, hu, ho, hgo⟩
 have hspec : sp_symOps t perm = symGo t.ops perm t.ops (List.replicate t.ops.length false) [] := by rw [sp_symOps, if_pos hg]
 unfold F_symOps_L1 F_symOps_J1
 simp only [decide_eq_true_eq, decide_eq_false_iff_not, forall_eq]
 refine ⟨fun hk => ?_, fun hk => ?_⟩
 ·have hk' : k < t.ops.length := by omega
  have hik : inb t.ops (k : Int) := ⟨by omega, hk⟩
  have hop := tk.op hik
  have hls := tk.lens hik
  refine ⟨hik, image_pre tk hp hop.1, image_pre tk hp hop.2.1, image_pre tk hp hop.2.2.1, ?_⟩
  have hw : (⟨sp_image perm (gt t.ops (k : Int)).pre, sp_image perm (gt t.ops (k : Int)).add, sp_image perm (gt t.ops (k : Int)).del, (gt t.ops (k : Int)).cost⟩ : Operator) = opImage perm (gt t.ops (k : Int)) := rfl
  refine ⟨fun found i => ∃ j : Nat, i = j ∧ j ≤ t.ops.length ∧ found = symAt t.ops used (opImage perm (gt t.ops (k : Int))) j, fun _ i => (t.ops.length - i).toNat, ⟨0, rfl, Nat.zero_le _, rfl⟩, ?_⟩
  rintro _ _ ⟨j, rfl, j1, rfl⟩
  unfold F_symOps_L2 F_symOps_J3 F_symOps_J2
  simp only [decide_eq_true_eq, decide_eq_false_iff_not, forall_eq, hw]
  have next : ∀ f : Int, f = symAt t.ops used (opImage perm (gt t.ops (k : Int))) (j + 1) → j < t.ops.length → (∃ j' : Nat, IntKind.i64.wrap ((j : Int) + 1) = j' ∧ j' ≤ t.ops.length ∧ f = symAt t.ops used (opImage perm (gt t.ops (k : Int))) j') ∧ ((t.ops.length : Int) - IntKind.i64.wrap ((j : Int) + 1)).toNat < ((t.ops.length : Int) - j).toNat := fun f hf hj => by
   rw [w64 (by omega)]
   exact ⟨⟨j + 1, by omega, by omega, hf⟩, by omega⟩
  refine ⟨fun hj => ?_, fun hj => ?_⟩
  ·have hj' : j < t.ops.length := by omega
   refine ⟨fun hf => ⟨⟨by omega, by omega⟩, fun hu0 => ⟨⟨by omega, hj⟩, ?_, ?_, ?_⟩, fun hu0 => ?_⟩, fun hf => ?_⟩
   ·have hl2 := tk.lens (i := (j : Int)) ⟨by omega, hj⟩
    refine ⟨⟨by omega, by omega, by omega⟩, ?_, ?_, ?_⟩ <;> (simp only [opImage, image_len]; omega)
   ·intro he
    refine next _ ?_ hj'
    rw [symAt_succ, if_pos hf, if_pos]
    unfold sp_opEqual at he
    rw [hu0, he]; rfl
   ·intro he
    refine next _ ?_ hj'
    rw [symAt_succ, if_pos hf, if_neg, symAt_neg hf]
    unfold sp_opEqual at he
    rw [hu0, he]; decide
   ·refine ⟨fun e => absurd e (by decide), fun _ => next _ ?_ hj'⟩
    rw [symAt_succ, if_pos hf, if_neg, symAt_neg hf]
    rw [hu0]; simp
   ·refine ⟨fun e => absurd e (by decide), fun _ => next _ ?_ hj'⟩
    rw [symAt_succ, if_neg hf]
  ·have hjl : j = t.ops.length := by omega
   subst hjl
   have hfind : symAt t.ops used (opImage perm (gt t.ops (k : Int))) t.ops.length = match symFind t.ops used (opImage perm (gt t.ops (k : Int))) with
    | none => -1
    | some i => (i : Int) := rfl
   rw [drop_gtN hk', symGo] at hgo
   cases hfd : symFind t.ops used (opImage perm (gt t.ops (k : Int))) with
   | none =>
    rw [hfd] at hfind hgo
    simp only at hfind hgo
    rw [hfind]
    exact ⟨fun _ => by rw [hspec, ← hgo], fun q => absurd (by decide) q⟩
   | some i =>
    rw [hfd] at hfind hgo
    simp only at hfind hgo
    rw [hfind]
    have hi : i < t.ops.length := by
     have := List.mem_of_find?_eq_some hfd
     exact List.mem_range.1 this
    refine ⟨fun q => absurd q (by omega), fun _ => ⟨⟨by omega, by omega⟩, ⟨by simp only [maxLen, List.length_append, List.length_singleton]; omega, by simp only [List.length_append, List.length_singleton]; omega⟩, ?_, ?_⟩⟩
    ·rw [w64 (by omega), Int.toNat_natCast]
     exact ⟨k + 1, by omega, by omega, by rw [List.length_set]; exact hu, by simp [ho], hgo⟩
    ·rw [w64 (by omega)]; omega
 ·rw [hspec, ← hgo, List.drop_eq_nil_of_le (by omega), symGo]
end Go.Proofs.YtimillpakjgnoaaGreat.Pl

namespace Go.Proofs.YtimillpakjgnoaaGreat.Pl
open Go Go.RowKit
theorem perms_mem {n : Int} : ∀ (k : Nat) (pre perm : List Int), perm ∈ perms n k pre → (perm.length : Int) = n ∧ (∀ x ∈ perm, x ∈ pre ∨ (0 ≤ x ∧ x < n)) ∧ (pre.Nodup → perm.Nodup)
 | 0, _, _, h => by rw [perms] at h; cases h
 | k + 1, pre, perm, h => by
  rw [perms] at h
  split at h
  ·rename_i hn
   rw [List.mem_singleton] at h
   subst h
   exact ⟨hn, fun x hx => .inl hx, fun q => q⟩
  ·rw [List.mem_flatMap] at h
   obtain ⟨p, hp, h⟩ := h
   split at h
   ·cases h
   ·rename_i hnp
    obtain ⟨h1, h2, h3⟩ := perms_mem k _ perm h
    have hr : 0 ≤ p ∧ p < n := by
     have := mem_allS.1 hp
     omega
    refine ⟨h1, fun x hx => ?_, fun q => h3 ?_⟩
    ·rcases h2 x hx with g | g
     ·rcases List.mem_append.1 g with g | g
      ·exact .inl g
      ·rw [List.mem_singleton.1 g]; exact .inr hr
     ·exact .inr g
    ·rw [List.nodup_append]
     refine ⟨q, by simp, fun a ha b hb => ?_⟩
     rw [List.mem_singleton.1 hb]
     intro e; subst e; exact hnp ha
theorem perms_len {n : Int} (hn : n ≤ 6) : ∀ (k : Nat) (pre : List Int), (perms n k pre).length ≤ 6 ^ k
 | 0, _ => by rw [perms]; simp
 | k + 1, pre => by
  rw [perms]
  split
  ·simp only [List.length_singleton]; exact Nat.one_le_pow _ _ (by decide)
  ·have key : ∀ l : List Int, (l.flatMap fun p => if p ∈ pre then [] else perms n k (pre ++ [p])).length ≤ l.length * 6 ^ k := by
    intro l
    induction l with
    | nil => simp
    | cons x r ih =>
     rw [List.flatMap_cons, List.length_append, List.length_cons, Nat.add_mul, Nat.one_mul]
     have : (if x ∈ pre then [] else perms n k (pre ++ [x])).length ≤ 6 ^ k := by
      split
      ·simp
      ·exact perms_len hn k _
     omega
   have h1 := key (allS n.toNat)
   rw [allS_len] at h1
   refine Nat.le_trans h1 ?_
   rw [Nat.pow_succ, Nat.mul_comm]
   exact Nat.mul_le_mul_left _ (by omega)
theorem symAll_mem {t : Task} {perm : List Int} (h : perm ∈ sp_symAll t) : (perm.length : Int) = t.facts ∧ (∀ x ∈ perm, 0 ≤ x ∧ x < t.facts) ∧ perm.Nodup ∧ (sp_symOps t perm).2 = true := by
 unfold sp_symAll at h
 rw [List.mem_filter] at h
 obtain ⟨h1, h2, h3⟩ := perms_mem _ _ _ h.1
 exact ⟨h1, fun x hx => (h2 x hx).resolve_left (by simp), h3 List.nodup_nil, h.2⟩
theorem symAll_len {t : Task} (h : t.facts ≤ 6) : (sp_symAll t).length ≤ 279936 := Nat.le_trans (List.length_filter_le _ _) (perms_len h 7 [])
theorem canon_len {t : Task} (s : List Int) : ∀ (l : List (List Int)) (best : List Int), best.length = s.length → (l.foldl (canonStep s) best).length = s.length
 | [], _, h => h
 | p :: r, best, h => by
  rw [List.foldl_cons]
  refine canon_len (t := t) s r _ ?_
  unfold canonStep
  split
  ·exact image_len _ _
  ·exact h
theorem ok_canonical : ∀ (t : Task) (s_ : List Int), F_canonical t s_ (fun r => r = sp_canonical t s_) := fun t s => by
 unfold F_canonical
 simp only [forall_eq, fault_ne, fault_eq]
 simp only [decide_eq_true_eq, decide_eq_false_iff_not]
 refine ⟨fun h => by rw [sp_canonical, if_neg h], fun h => ⟨fun h6 => by rw [sp_canonical, if_pos h, if_pos h6], fun h6 => ?_⟩⟩
 have hv : sp_validate t = ⟨0, 0⟩ ∧ sp_isSet s t.facts = true := by
  unfold sp_stateFault at h
  split at h
  ·rename_i hv
   split at h
   ·rename_i hs; exact ⟨hv, hs⟩
   ·simp at h
  ·rename_i hv; exact absurd h hv
 have tk := taskOK_of hv.1
 have hf := tk.facts
 have hls := set_len hf.1 hv.2
 have hl := symAll_len (t := t) (by omega)
 refine ⟨by unfold pre_clone; omega, ⟨hv.1, by omega⟩, fun best i => ∃ k : Nat, i = k ∧ k ≤ (sp_symAll t).length ∧ best = ((sp_symAll t).take k).foldl (canonStep s) s, fun _ i => ((sp_symAll t).length - i).toNat, ⟨0, rfl, Nat.zero_le _, rfl⟩, ?_⟩
 rintro _ _ ⟨k, rfl, k1, rfl⟩
 unfold F_canonical_L1 F_canonical_J1
 simp only [decide_eq_true_eq, decide_eq_false_iff_not, forall_eq]
 refine ⟨fun hk => ?_, fun hk => ?_⟩
 ·have hk' : k < (sp_symAll t).length := by omega
  have hm := symAll_mem (gt_memN hk')
  have hi := image_pre tk hm.1 hv.2
  have hb := canon_len (t := t) s ((sp_symAll t).take k) s rfl
  have nx : ((sp_symAll t).take (k + 1)).foldl (canonStep s) s = canonStep s (((sp_symAll t).take k).foldl (canonStep s) s) (gt (sp_symAll t) (k : Int)) := by
   rw [takeN_gt hk', List.foldl_append]; rfl
  rw [w64 (by omega)]
  refine ⟨⟨by omega, hk⟩, hi, ⟨by rw [image_len]; omega, by omega⟩, fun q => ⟨⟨k + 1, by omega, by omega, ?_⟩, by omega⟩, fun q => ⟨⟨k + 1, by omega, by omega, ?_⟩, by omega⟩⟩
  ·rw [nx, canonStep, if_pos q]
  ·rw [nx, canonStep, if_neg q]
 ·rw [sp_canonical, if_pos h, if_neg h6, List.take_of_length_le (by omega)]
end Go.Proofs.YtimillpakjgnoaaGreat.Pl

namespace Go.Proofs.YtimillpakjgnoaaGreat.Pl
open Go Go.RowKit
theorem plus_rng {a b : Int} (ha : 0 ≤ a ∧ a ≤ 1000000000) (hb : 0 ≤ b ∧ b ≤ 1000000000) : 0 ≤ sp_plus a b ∧ sp_plus a b ≤ 1000000000 := by
 unfold sp_plus
 split <;> omega
theorem plus_mono {a b a' b' : Int} (ha : 0 ≤ a) (hb : 0 ≤ b) (h1 : a ≤ a') (h2 : b ≤ b') (h1' : a' ≤ 1000000000) (h2' : b' ≤ 1000000000) : sp_plus a b ≤ sp_plus a' b' := by
 unfold sp_plus
 split <;> split <;> omega
theorem ok_plus : ∀ (a : Int) (b : Int), pre_plus a b → F_plus a b (fun r => r = sp_plus a b) := fun a b ⟨ha, hb⟩ => by
 unfold F_plus F_plus_J1 sp_plus
 simp only [beq_iff_eq, beq_eq_false_iff_ne, ne_eq, forall_eq]
 rw [w64 (by omega)]
 refine ⟨fun h => ⟨fun _ => ?_, fun q => absurd q (by decide)⟩, fun h => ⟨fun q => ?_, fun q => ?_⟩⟩
 ·rw [if_pos (.inl h)]
 ·rw [if_pos (.inr q)]
 ·have hn : ¬ (a = 1000000000 ∨ b = 1000000000) := fun e => e.elim h q
  rw [show (if a = 1000000000 ∨ b = 1000000000 then (1000000000 : Int) else min (a + b) 999999999) = min (a + b) 999999999 from if_neg hn]
  split <;> omega
theorem gt_vals {v : List Int} (hv : Vals v) {p : Int} (hp : inb v p) : 0 ≤ gt v p ∧ gt v p ≤ 1000000000 := hv _ (gt_mem hp)
theorem greatest_snoc (v f : List Int) (p : Int) : sp_greatest v (f ++ [p]) = max (sp_greatest v f) (gt v p) := by
 unfold sp_greatest
 rw [List.foldl_append]; rfl
theorem sum_snoc (v f : List Int) (p : Int) : sp_sumR v (f ++ [p]) = sp_plus (sp_sumR v f) (gt v p) := by
 unfold sp_sumR
 rw [List.foldl_append]; rfl
theorem sum_rng {v : List Int} (hv : Vals v) : ∀ (f : List Int) (a : Int), (∀ p ∈ f, inb v p) → 0 ≤ a ∧ a ≤ 1000000000 → 0 ≤ f.foldl (fun out p => sp_plus out (gt v p)) a ∧ f.foldl (fun out p => sp_plus out (gt v p)) a ≤ 1000000000
 | [], _, _, h => h
 | p :: f, a, hf, h => by
  rw [List.foldl_cons]
  exact sum_rng hv f _ (fun x hx => hf x (List.mem_cons_of_mem _ hx)) (plus_rng h (gt_vals hv (hf p List.mem_cons_self)))
theorem great_rng {v : List Int} (hv : Vals v) : ∀ (f : List Int) (a : Int), (∀ p ∈ f, inb v p) → 0 ≤ a ∧ a ≤ 1000000000 → 0 ≤ f.foldl (fun out p => max out (gt v p)) a ∧ f.foldl (fun out p => max out (gt v p)) a ≤ 1000000000
 | [], _, _, h => h
 | p :: f, a, hf, h => by
  rw [List.foldl_cons]
  have := gt_vals hv (hf p List.mem_cons_self)
  exact great_rng hv f _ (fun x hx => hf x (List.mem_cons_of_mem _ hx)) (by omega)
theorem ok_greatest : ∀ (values : List Int) (facts : List Int), pre_greatest values facts → F_greatest values facts (fun r => r = sp_greatest values facts) := fun v f ⟨hl, hf, hv⟩ => by
 refine ⟨fun out t => ∃ k : Nat, t = k ∧ k ≤ f.length ∧ out = sp_greatest v (f.take k), fun _ t => (f.length - t).toNat, ⟨0, rfl, Nat.zero_le _, rfl⟩, ?_⟩
 rintro _ _ ⟨k, rfl, k1, rfl⟩
 unfold F_greatest_L1
 simp only [decide_eq_true_eq, decide_eq_false_iff_not, forall_eq]
 refine ⟨fun h => ?_, fun h => by rw [List.take_of_length_le (by omega)]⟩
 have hk : k < f.length := by omega
 rw [w64 (by omega)]
 refine ⟨⟨by omega, h⟩, hf _ (gt_memN hk), ⟨k + 1, by omega, by omega, ?_⟩, by omega⟩
 rw [takeN_gt hk, greatest_snoc]
 split <;> omega
theorem ok_sumR : ∀ (values : List Int) (facts : List Int), pre_sumR values facts → F_sumR values facts (fun r => r = sp_sumR values facts) := fun v f ⟨hl, hf, hv⟩ => by
 refine ⟨fun out t => ∃ k : Nat, t = k ∧ k ≤ f.length ∧ out = sp_sumR v (f.take k), fun _ t => (f.length - t).toNat, ⟨0, rfl, Nat.zero_le _, rfl⟩, ?_⟩
 rintro _ _ ⟨k, rfl, k1, rfl⟩
 unfold F_sumR_L1
 simp only [decide_eq_true_eq, decide_eq_false_iff_not, forall_eq]
 refine ⟨fun h => ?_, fun h => by rw [List.take_of_length_le (by omega)]⟩
 have hk : k < f.length := by omega
 rw [w64 (by omega)]
 have hin := hf _ (gt_memN hk)
 refine ⟨⟨by omega, h⟩, hin, ⟨sum_rng hv _ _ (fun p hp => hf p (List.mem_of_mem_take hp)) (by omega), gt_vals hv hin⟩, ⟨k + 1, by omega, by omega, ?_⟩, by omega⟩
 rw [takeN_gt hk, sum_snoc]
theorem ok_costsR : ∀ (t : Task), pre_costsR t → F_costsR t (fun r => r = sp_costsR t) := fun t hv => by
 have hl := (taskOK_of hv).len
 refine ⟨fun i out => ∃ k : Nat, i = k ∧ k ≤ t.ops.length ∧ out = (t.ops.take k).map (·.cost), fun i _ => (t.ops.length - i).toNat, ⟨0, rfl, Nat.zero_le _, rfl⟩, ?_⟩
 rintro _ _ ⟨k, rfl, k1, rfl⟩
 unfold F_costsR_L1
 simp only [decide_eq_true_eq, decide_eq_false_iff_not, List.length_append, List.length_singleton, List.length_map, List.length_take]
 refine ⟨fun h => ?_, fun h => by rw [List.take_of_length_le (by omega)]; rfl⟩
 have hk : k < t.ops.length := by omega
 rw [w64 (by omega)]
 refine ⟨⟨by omega, h⟩, ⟨by simp only [maxLen]; omega, by omega⟩, ⟨k + 1, by omega, by omega, ?_⟩, by omega⟩
 rw [takeN_gt hk, List.map_append]
 rfl
theorem IsVal.unique {comb : List Int → List Int → Int} {t : Task} {s costs v w : List Int} (hv : IsVal comb t s costs v) (hw : IsVal comb t s costs w) : v = w := by
 have l1 := hv.bound.len
 have l2 := hw.bound.len
 refine List.ext_getElem (by omega) fun i h1 h2 => ?_
 have e1 := hv.top w hw.bound (i : Int) (by omega) (by omega)
 have e2 := hw.top v hv.bound (i : Int) (by omega) (by omega)
 have g1 : gt v (i : Int) = v[i] := by rw [gt_of ⟨by omega, by omega⟩]; simp
 have g2 : gt w (i : Int) = w[i] := by rw [gt_of ⟨by omega, by omega⟩]; simp
 omega
theorem sp_values_eq {comb : List Int → List Int → Int} {t : Task} {s costs v : List Int} (hv : IsVal comb t s costs v) : sp_values comb t s costs = v := by
 have h : ∃ v, IsVal comb t s costs v := ⟨v, hv⟩
 unfold sp_values
 rw [dif_pos h]
 exact IsVal.unique (Classical.choose_spec h) hv
structure Down (comb : List Int → List Int → Int) (t : Task) (s costs v : List Int) : Prop where
 len : (v.length : Int) = t.facts
 vals : Vals v
 zero : ∀ p ∈ s, gt v p = 0
 top : ∀ w, IsBound comb t s costs w → ∀ p : Int, 0 ≤ p → p < t.facts → gt w p ≤ gt v p
def total (v : List Int) : Nat := (v.map Int.toNat).sum
theorem gt_set_ne {v : List Int} {i j : Int} {x : Int} (hi : 0 ≤ i) (hj : 0 ≤ j) (h : i ≠ j) : gt (v.set i.toNat x) j = gt v j := by
 unfold gt
 rw [List.getD_eq_getElem?_getD, List.getD_eq_getElem?_getD, List.getElem?_set_ne (by omega)]
theorem total_set : ∀ (v : List Int) (k : Nat) (x : Int) (h : k < v.length), 0 ≤ x → x < v[k] → total (v.set k x) < total v
 | [], _, _, h, _, _ => absurd h (by simp)
 | y :: v, 0, x, _, h0, hx => by
  simp only [List.getElem_cons_zero] at hx
  unfold total
  simp only [List.set_cons_zero, List.map_cons, List.sum_cons]
  omega
 | y :: v, k + 1, x, h, h0, hx => by
  simp only [List.getElem_cons_succ] at hx
  have := total_set v k x (by simpa using h) h0 hx
  unfold total at this ⊢
  simp only [List.set_cons_succ, List.map_cons, List.sum_cons]
  omega
theorem Down.set {comb : List Int → List Int → Int} {t : Task} {s costs v : List Int} (h : Down comb t s costs v) {p r : Int} (hp : inb v p) (hr : ∀ w, IsBound comb t s costs w → gt w p ≤ r) (r0 : 0 ≤ r) (hlt : r < gt v p) (hs : ∀ q ∈ s, 0 ≤ q) : Down comb t s costs (v.set p.toNat r) ∧ total (v.set p.toNat r) < total v := by
 have hpv := gt_vals h.vals hp
 refine ⟨⟨by rw [List.length_set]; exact h.len, fun x hx => ?_, fun q hq => ?_, fun w hw q q0 q1 => ?_⟩, ?_⟩
 ·rcases List.mem_or_eq_of_mem_set hx with g | g
  ·exact h.vals x g
  ·omega
 ·have hz := h.zero q hq
  by_cases e : p = q
  ·subst e; omega
  ·rw [gt_set_ne hp.1 (hs q hq) e]; exact hz
 ·by_cases e : p = q
  ·subst e; rw [gt_set hp]; exact hr w hw
  ·rw [gt_set_ne hp.1 q0 e]; exact h.top w hw q q0 q1
 ·have hl := inb_lt hp
  refine total_set v _ r hl r0 ?_
  rw [gt_of hp] at hlt
  exact hlt
structure Comb (comb : List Int → List Int → Int) : Prop where
 rng : ∀ v f, Vals v → (∀ p ∈ f, inb v p) → 0 ≤ comb v f ∧ comb v f ≤ 1000000000
 mono : ∀ w v f, Vals w → Vals v → (∀ p ∈ f, inb w p ∧ inb v p ∧ gt w p ≤ gt v p) → comb w f ≤ comb v f
theorem great_mono {w v : List Int} (hw : Vals w) (hv : Vals v) : ∀ (f : List Int) (a b : Int), (∀ p ∈ f, inb w p ∧ inb v p ∧ gt w p ≤ gt v p) → a ≤ b → f.foldl (fun out p => max out (gt w p)) a ≤ f.foldl (fun out p => max out (gt v p)) b
 | [], _, _, _, h => h
 | p :: f, a, b, hf, h => by
  rw [List.foldl_cons, List.foldl_cons]
  have := hf p List.mem_cons_self
  exact great_mono hw hv f _ _ (fun x hx => hf x (List.mem_cons_of_mem _ hx)) (by omega)
theorem sum_mono {w v : List Int} (hw : Vals w) (hv : Vals v) : ∀ (f : List Int) (a b : Int), (∀ p ∈ f, inb w p ∧ inb v p ∧ gt w p ≤ gt v p) → 0 ≤ a → a ≤ b → b ≤ 1000000000 → f.foldl (fun out p => sp_plus out (gt w p)) a ≤ f.foldl (fun out p => sp_plus out (gt v p)) b
 | [], _, _, _, _, h, _ => h
 | p :: f, a, b, hf, h0, h, h1 => by
  rw [List.foldl_cons, List.foldl_cons]
  obtain ⟨i1, i2, i3⟩ := hf p List.mem_cons_self
  have g1 := gt_vals hw i1
  have g2 := gt_vals hv i2
  have r1 := plus_rng (a := a) (b := gt w p) ⟨h0, by omega⟩ g1
  have r2 := plus_rng (a := b) (b := gt v p) ⟨by omega, h1⟩ g2
  exact sum_mono hw hv f _ _ (fun x hx => hf x (List.mem_cons_of_mem _ hx)) r1.1 (plus_mono h0 g1.1 h i3 h1 g2.2) r2.2
theorem comb_greatest : Comb sp_greatest := ⟨fun _ f hv hf => great_rng hv f 0 hf (by omega), fun _ _ f hw hv hf => great_mono hw hv f 0 0 hf (by omega)⟩
theorem comb_sum : Comb sp_sumR := ⟨fun _ f hv hf => sum_rng hv f 0 hf (by omega), fun _ _ f hw hv hf => sum_mono hw hv f 0 0 hf (by omega) (by omega) (by omega)⟩
end Go.Proofs.YtimillpakjgnoaaGreat.Pl

namespace Go.Proofs.YtimillpakjgnoaaGreat.Pl
open Go Go.RowKit
theorem down_start {comb : List Int → List Int → Int} {t : Task} {s costs v : List Int} (hn : (v.length : Int) = t.facts) (hs : ∀ p ∈ s, 0 ≤ p ∧ p < t.facts) (h : ∀ j : Nat, j < v.length → gt v (j : Int) = if (j : Int) ∈ s then 0 else 1000000000) : Down comb t s costs v := by
 refine ⟨hn, fun x hx => ?_, fun p hp => ?_, fun w hw p p0 p1 => ?_⟩
 ·obtain ⟨j, hj, e⟩ := mem_gt hx
  rw [← e, h j hj]
  split <;> omega
 ·obtain ⟨p0, p1⟩ := hs p hp
  have := h p.toNat (by omega)
  rw [Int.toNat_of_nonneg p0, if_pos hp] at this
  exact this
 ·have hj := h p.toNat (by omega)
  rw [Int.toNat_of_nonneg p0] at hj
  rw [hj]
  split
  ·rename_i hp; rw [hw.zero p hp]; omega
  ·exact (gt_vals hw.vals ⟨p0, by rw [hw.len]; exact p1⟩).2
theorem down_bound {comb : List Int → List Int → Int} (hc : Comb comb) {t : Task} {s costs v : List Int} (tk : TaskOK t) (hcl : costs.length = t.ops.length) (hcs : ∀ c ∈ costs, 0 ≤ c ∧ c ≤ 100) (h : Down comb t s costs v) {k : Nat} (hk : k < t.ops.length) : ∀ w, IsBound comb t s costs w → ∀ p ∈ (gt t.ops (k : Int)).add, gt w p ≤ sp_plus (comb v (gt t.ops (k : Int)).pre) (gt costs (k : Int)) := fun w hw p hp => by
 have hop := tk.op (i := (k : Int)) ⟨by omega, by omega⟩
 have hin : ∀ q ∈ (gt t.ops (k : Int)).pre, inb w q ∧ inb v q ∧ gt w q ≤ gt v q := fun q hq => by
  obtain ⟨q0, q1⟩ := set_rng hop.1 q hq
  exact ⟨⟨q0, by rw [hw.len]; exact q1⟩, ⟨q0, by rw [h.len]; exact q1⟩, h.top w hw q q0 q1⟩
 have hcost := hcs _ (gt_memN (xs := costs) (i := k) (by omega))
 have r1 := hc.rng w _ hw.vals fun q hq => (hin q hq).1
 have r2 := hc.rng v _ h.vals fun q hq => (hin q hq).2.1
 exact Int.le_trans (hw.step k hk p hp) (plus_mono r1.1 hcost.1 (hc.mono w v _ hw.vals h.vals hin) (Int.le_refl _) r2.2 (by omega))
theorem ok_valuesG : ∀ (t : Task) (s_ : List Int) (costs : List Int), pre_valuesG t s_ costs → F_valuesG t s_ costs (fun r => r = sp_valuesG t s_ costs) := fun t s costs ⟨hv, hs, hcl, hc⟩ => by
 have tk := taskOK_of hv
 have hf := tk.facts
 have hol := tk.len
 have hsr := set_rng hs
 have hsl := set_len hf.1 hs
 refine ⟨⟨hf.1, by omega, by simp only [maxLen]; omega⟩, fun i v => ∃ k : Nat, i = k ∧ k ≤ t.facts.toNat ∧ v.length = t.facts.toNat ∧ ∀ j : Nat, j < k → gt v (j : Int) = 1000000000, fun i _ => (t.facts - i).toNat, ⟨0, rfl, Nat.zero_le _, by simp, fun j hj => absurd hj (by omega)⟩, ?_⟩
 rintro _ v ⟨k, rfl, k1, hl, hk⟩
 unfold F_valuesG_L1
 simp only [decide_eq_true_eq, decide_eq_false_iff_not, forall_eq]
 refine ⟨fun h => ?_, fun h => ?_⟩
 ·have hin : inb v (k : Int) := ⟨by omega, by omega⟩
  rw [w64 (by omega)]
  refine ⟨hin, ⟨k + 1, by omega, by omega, by rw [List.length_set]; exact hl, fun j hj => ?_⟩, by omega⟩
  by_cases e : (k : Int) = j
  ·rw [← e]; exact gt_set hin
  ·rw [gt_set_ne (by omega) (by omega) e]; exact hk j (by omega)
 have hkn : k = t.facts.toNat := by omega
 refine ⟨fun i u => ∃ m : Nat, i = m ∧ m ≤ s.length ∧ u.length = t.facts.toNat ∧ ∀ j : Nat, j < u.length → gt u (j : Int) = if (j : Int) ∈ s.take m then 0 else 1000000000, fun i _ => (s.length - i).toNat, ⟨0, rfl, Nat.zero_le _, hl, fun j hj => by rw [List.take_zero, if_neg (by simp)]; exact hk j (by omega)⟩, ?_⟩
 rintro _ u ⟨m, rfl, m1, ul, hu⟩
 unfold F_valuesG_L2
 simp only [decide_eq_true_eq, decide_eq_false_iff_not, forall_eq]
 refine ⟨fun h => ?_, fun h => ?_⟩
 ·have hm : m < s.length := by omega
  have hmr := hsr _ (gt_memN hm)
  have hin : inb u (gt s (m : Int)) := ⟨hmr.1, by omega⟩
  rw [w64 (by omega)]
  refine ⟨⟨by omega, h⟩, hin, ⟨m + 1, by omega, by omega, by rw [List.length_set]; exact ul, fun j hj => ?_⟩, by omega⟩
  rw [List.length_set] at hj
  rw [takeN_gt hm]
  by_cases e : gt s (m : Int) = j
  ·rw [← e, gt_set hin, if_pos (by simp)]
  ·rw [gt_set_ne hmr.1 (by omega) e, hu j hj]
   simp only [List.mem_append, List.mem_singleton]
   have : ¬ ((j : Int) = gt s (m : Int)) := fun q => e q.symm
   simp only [this, or_false]
 have hms : s.take m = s := List.take_of_length_le (by omega)
 rw [hms] at hu
 have hd := down_start (comb := sp_greatest) (costs := costs) (by omega) hsr hu
 refine ⟨fun ch v => Down sp_greatest t s costs v ∧ (ch = false → ∀ i : Nat, i < t.ops.length → ∀ p ∈ (gt t.ops (i : Int)).add, gt v p ≤ sp_plus (sp_greatest v (gt t.ops (i : Int)).pre) (gt costs (i : Int))), fun ch v => 2 * total v + (if ch = true then 1 else 0), ⟨hd, fun e => absurd e (by decide)⟩, ?_⟩
 rintro ch v5 ⟨d5, h5⟩
 unfold F_valuesG_L3
 refine ⟨fun hch => ?_, fun hch => (sp_values_eq ⟨⟨d5.len, d5.vals, d5.zero, h5 hch⟩, d5.top⟩).symm⟩
 subst hch
 refine ⟨fun ch i v => ∃ k : Nat, i = k ∧ k ≤ t.ops.length ∧ Down sp_greatest t s costs v ∧ (ch = true → total v < total v5) ∧ (ch = false → v = v5 ∧ ∀ i : Nat, i < k → ∀ p ∈ (gt t.ops (i : Int)).add, gt v p ≤ sp_plus (sp_greatest v (gt t.ops (i : Int)).pre) (gt costs (i : Int))), fun _ i _ => (t.ops.length - i).toNat, ⟨0, rfl, Nat.zero_le _, d5, fun e => absurd e (by decide), fun _ => ⟨rfl, fun i hi => absurd hi (by omega)⟩⟩, ?_⟩
 rintro c3 _ v7 ⟨k2, rfl, k21, d7, ht7, hf7⟩
 unfold F_valuesG_L4
 simp only [decide_eq_true_eq, decide_eq_false_iff_not, forall_eq]
 refine ⟨fun h => ?_, fun h => ⟨⟨d7, fun e => ?_⟩, ?_⟩⟩
 ·have hk2 : k2 < t.ops.length := by omega
  have hik : inb t.ops (k2 : Int) := ⟨by omega, h⟩
  have hop := tk.op hik
  have hls := tk.lens hik
  have hpre : ∀ q ∈ (gt t.ops (k2 : Int)).pre, inb v7 q := fun q hq => ⟨(set_rng hop.1 q hq).1, by rw [d7.len]; exact (set_rng hop.1 q hq).2⟩
  have hcost := hc _ (gt_memN (xs := costs) (i := k2) (by omega))
  have hg := comb_greatest.rng v7 _ d7.vals hpre
  have hr := plus_rng (b := gt costs (k2 : Int)) hg (by omega)
  have hb := down_bound comb_greatest tk hcl hc d7 hk2
  refine ⟨hik, ⟨by omega, hpre, d7.vals⟩, ⟨by omega, by omega⟩, ⟨hg, by omega⟩, ?_⟩
  generalize hre : sp_plus (sp_greatest v7 (gt t.ops (k2 : Int)).pre) (gt costs (k2 : Int)) = r at hr hb ⊢
  refine ⟨fun ch j v => ∃ m : Nat, j = m ∧ m ≤ (gt t.ops (k2 : Int)).add.length ∧ Down sp_greatest t s costs v ∧ (ch = true → total v < total v5) ∧ (ch = false → v = v7 ∧ c3 = false ∧ ∀ p ∈ (gt t.ops (k2 : Int)).add.take m, gt v p ≤ r), fun _ j _ => ((gt t.ops (k2 : Int)).add.length - j).toNat, ⟨0, rfl, Nat.zero_le _, d7, ht7, fun e => ⟨rfl, e, fun p hp => absurd hp (by simp)⟩⟩, ?_⟩
  rintro c5 _ v9 ⟨m5, rfl, m51, d9, ht9, hf9⟩
  unfold F_valuesG_L5 F_valuesG_J1
  simp only [decide_eq_true_eq, decide_eq_false_iff_not, forall_eq]
  refine ⟨fun hm => ?_, fun hm => ?_⟩
  ·have hm5 : m5 < (gt t.ops (k2 : Int)).add.length := by omega
   have hmem := gt_memN hm5
   have hpr := set_rng hop.2.1 _ hmem
   have hin : inb v9 (gt (gt t.ops (k2 : Int)).add (m5 : Int)) := ⟨hpr.1, by rw [d9.len]; exact hpr.2⟩
   rw [w64 (by omega)]
   refine ⟨⟨by omega, hm⟩, hin, fun hlt => ?_, fun hlt => ⟨⟨m5 + 1, by omega, by omega, d9, ht9, fun e => ?_⟩, by omega⟩⟩
   ·obtain ⟨e1, e2⟩ := d9.set hin (fun w hw => hb w hw _ hmem) hr.1 hlt (fun q hq => (hsr q hq).1)
    refine ⟨⟨m5 + 1, by omega, by omega, e1, fun _ => ?_, fun e => absurd e (by decide)⟩, by omega⟩
    cases hc5 : c5 with
    | true => have := ht9 hc5; omega
    | false =>
     obtain ⟨q1, q2, _⟩ := hf9 hc5
     obtain ⟨q3, _⟩ := hf7 q2
     rw [q1, q3] at e2 ⊢
     exact e2
   ·obtain ⟨q1, q2, q3⟩ := hf9 e
    refine ⟨q1, q2, fun p hp => ?_⟩
    rw [takeN_gt hm5] at hp
    rcases List.mem_append.1 hp with g | g
    ·exact q3 p g
    ·rw [List.mem_singleton.1 g]; omega
  ·rw [w64 (by omega)]
   refine ⟨⟨k2 + 1, by omega, by omega, d9, ht9, fun e => ?_⟩, by omega⟩
   obtain ⟨q1, q2, q3⟩ := hf9 e
   obtain ⟨q4, q5⟩ := hf7 q2
   refine ⟨q1.trans q4, fun i hi p hp => ?_⟩
   rw [List.take_of_length_le (by omega)] at q3
   by_cases ei : i = k2
   ·subst ei
    rw [q1, hre, ← q1]; exact q3 p hp
   ·rw [q1]; exact q5 i (by omega) p hp
 ·intro i hi
  exact (hf7 e).2 i (by omega)
 ·cases hc3 : c3 with
  | true => have := ht7 hc3; simp; omega
  | false => rw [(hf7 hc3).1]; simp
end Go.Proofs.YtimillpakjgnoaaGreat.Pl

namespace Go.Proofs.YtimillpakjgnoaaGreat.Pl
open Go Go.RowKit
theorem ok_valuesS : ∀ (t : Task) (s_ : List Int) (costs : List Int), pre_valuesS t s_ costs → F_valuesS t s_ costs (fun r => r = sp_valuesS t s_ costs) := fun t s costs ⟨hv, hs, hcl, hc⟩ => by
 have tk := taskOK_of hv
 have hf := tk.facts
 have hol := tk.len
 have hsr := set_rng hs
 have hsl := set_len hf.1 hs
 refine ⟨⟨hf.1, by omega, by simp only [maxLen]; omega⟩, fun i v => ∃ k : Nat, i = k ∧ k ≤ t.facts.toNat ∧ v.length = t.facts.toNat ∧ ∀ j : Nat, j < k → gt v (j : Int) = 1000000000, fun i _ => (t.facts - i).toNat, ⟨0, rfl, Nat.zero_le _, by simp, fun j hj => absurd hj (by omega)⟩, ?_⟩
 rintro _ v ⟨k, rfl, k1, hl, hk⟩
 unfold F_valuesS_L1
 simp only [decide_eq_true_eq, decide_eq_false_iff_not, forall_eq]
 refine ⟨fun h => ?_, fun h => ?_⟩
 ·have hin : inb v (k : Int) := ⟨by omega, by omega⟩
  rw [w64 (by omega)]
  refine ⟨hin, ⟨k + 1, by omega, by omega, by rw [List.length_set]; exact hl, fun j hj => ?_⟩, by omega⟩
  by_cases e : (k : Int) = j
  ·rw [← e]; exact gt_set hin
  ·rw [gt_set_ne (by omega) (by omega) e]; exact hk j (by omega)
 have hkn : k = t.facts.toNat := by omega
 refine ⟨fun i u => ∃ m : Nat, i = m ∧ m ≤ s.length ∧ u.length = t.facts.toNat ∧ ∀ j : Nat, j < u.length → gt u (j : Int) = if (j : Int) ∈ s.take m then 0 else 1000000000, fun i _ => (s.length - i).toNat, ⟨0, rfl, Nat.zero_le _, hl, fun j hj => by rw [List.take_zero, if_neg (by simp)]; exact hk j (by omega)⟩, ?_⟩
 rintro _ u ⟨m, rfl, m1, ul, hu⟩
 unfold F_valuesS_L2
 simp only [decide_eq_true_eq, decide_eq_false_iff_not, forall_eq]
 refine ⟨fun h => ?_, fun h => ?_⟩
 ·have hm : m < s.length := by omega
  have hmr := hsr _ (gt_memN hm)
  have hin : inb u (gt s (m : Int)) := ⟨hmr.1, by omega⟩
  rw [w64 (by omega)]
  refine ⟨⟨by omega, h⟩, hin, ⟨m + 1, by omega, by omega, by rw [List.length_set]; exact ul, fun j hj => ?_⟩, by omega⟩
  rw [List.length_set] at hj
  rw [takeN_gt hm]
  by_cases e : gt s (m : Int) = j
  ·rw [← e, gt_set hin, if_pos (by simp)]
  ·rw [gt_set_ne hmr.1 (by omega) e, hu j hj]
   simp only [List.mem_append, List.mem_singleton]
   have : ¬ ((j : Int) = gt s (m : Int)) := fun q => e q.symm
   simp only [this, or_false]
 have hms : s.take m = s := List.take_of_length_le (by omega)
 rw [hms] at hu
 have hd := down_start (comb := sp_sumR) (costs := costs) (by omega) hsr hu
 refine ⟨fun ch v => Down sp_sumR t s costs v ∧ (ch = false → ∀ i : Nat, i < t.ops.length → ∀ p ∈ (gt t.ops (i : Int)).add, gt v p ≤ sp_plus (sp_sumR v (gt t.ops (i : Int)).pre) (gt costs (i : Int))), fun ch v => 2 * total v + (if ch = true then 1 else 0), ⟨hd, fun e => absurd e (by decide)⟩, ?_⟩
 rintro ch v5 ⟨d5, h5⟩
 unfold F_valuesS_L3
 refine ⟨fun hch => ?_, fun hch => (sp_values_eq ⟨⟨d5.len, d5.vals, d5.zero, h5 hch⟩, d5.top⟩).symm⟩
 subst hch
 refine ⟨fun ch i v => ∃ k : Nat, i = k ∧ k ≤ t.ops.length ∧ Down sp_sumR t s costs v ∧ (ch = true → total v < total v5) ∧ (ch = false → v = v5 ∧ ∀ i : Nat, i < k → ∀ p ∈ (gt t.ops (i : Int)).add, gt v p ≤ sp_plus (sp_sumR v (gt t.ops (i : Int)).pre) (gt costs (i : Int))), fun _ i _ => (t.ops.length - i).toNat, ⟨0, rfl, Nat.zero_le _, d5, fun e => absurd e (by decide), fun _ => ⟨rfl, fun i hi => absurd hi (by omega)⟩⟩, ?_⟩
 rintro c3 _ v7 ⟨k2, rfl, k21, d7, ht7, hf7⟩
 unfold F_valuesS_L4
 simp only [decide_eq_true_eq, decide_eq_false_iff_not, forall_eq]
 refine ⟨fun h => ?_, fun h => ⟨⟨d7, fun e => ?_⟩, ?_⟩⟩
 ·have hk2 : k2 < t.ops.length := by omega
  have hik : inb t.ops (k2 : Int) := ⟨by omega, h⟩
  have hop := tk.op hik
  have hls := tk.lens hik
  have hpre : ∀ q ∈ (gt t.ops (k2 : Int)).pre, inb v7 q := fun q hq => ⟨(set_rng hop.1 q hq).1, by rw [d7.len]; exact (set_rng hop.1 q hq).2⟩
  have hcost := hc _ (gt_memN (xs := costs) (i := k2) (by omega))
  have hg := comb_sum.rng v7 _ d7.vals hpre
  have hr := plus_rng (b := gt costs (k2 : Int)) hg (by omega)
  have hb := down_bound comb_sum tk hcl hc d7 hk2
  refine ⟨hik, ⟨by omega, hpre, d7.vals⟩, ⟨by omega, by omega⟩, ⟨hg, by omega⟩, ?_⟩
  generalize hre : sp_plus (sp_sumR v7 (gt t.ops (k2 : Int)).pre) (gt costs (k2 : Int)) = r at hr hb ⊢
  refine ⟨fun ch j v => ∃ m : Nat, j = m ∧ m ≤ (gt t.ops (k2 : Int)).add.length ∧ Down sp_sumR t s costs v ∧ (ch = true → total v < total v5) ∧ (ch = false → v = v7 ∧ c3 = false ∧ ∀ p ∈ (gt t.ops (k2 : Int)).add.take m, gt v p ≤ r), fun _ j _ => ((gt t.ops (k2 : Int)).add.length - j).toNat, ⟨0, rfl, Nat.zero_le _, d7, ht7, fun e => ⟨rfl, e, fun p hp => absurd hp (by simp)⟩⟩, ?_⟩
  rintro c5 _ v9 ⟨m5, rfl, m51, d9, ht9, hf9⟩
  unfold F_valuesS_L5 F_valuesS_J1
  simp only [decide_eq_true_eq, decide_eq_false_iff_not, forall_eq]
  refine ⟨fun hm => ?_, fun hm => ?_⟩
  ·have hm5 : m5 < (gt t.ops (k2 : Int)).add.length := by omega
   have hmem := gt_memN hm5
   have hpr := set_rng hop.2.1 _ hmem
   have hin : inb v9 (gt (gt t.ops (k2 : Int)).add (m5 : Int)) := ⟨hpr.1, by rw [d9.len]; exact hpr.2⟩
   rw [w64 (by omega)]
   refine ⟨⟨by omega, hm⟩, hin, fun hlt => ?_, fun hlt => ⟨⟨m5 + 1, by omega, by omega, d9, ht9, fun e => ?_⟩, by omega⟩⟩
   ·obtain ⟨e1, e2⟩ := d9.set hin (fun w hw => hb w hw _ hmem) hr.1 hlt (fun q hq => (hsr q hq).1)
    refine ⟨⟨m5 + 1, by omega, by omega, e1, fun _ => ?_, fun e => absurd e (by decide)⟩, by omega⟩
    cases hc5 : c5 with
    | true => have := ht9 hc5; omega
    | false =>
     obtain ⟨q1, q2, _⟩ := hf9 hc5
     obtain ⟨q3, _⟩ := hf7 q2
     rw [q1, q3] at e2 ⊢
     exact e2
   ·obtain ⟨q1, q2, q3⟩ := hf9 e
    refine ⟨q1, q2, fun p hp => ?_⟩
    rw [takeN_gt hm5] at hp
    rcases List.mem_append.1 hp with g | g
    ·exact q3 p g
    ·rw [List.mem_singleton.1 g]; omega
  ·rw [w64 (by omega)]
   refine ⟨⟨k2 + 1, by omega, by omega, d9, ht9, fun e => ?_⟩, by omega⟩
   obtain ⟨q1, q2, q3⟩ := hf9 e
   obtain ⟨q4, q5⟩ := hf7 q2
   refine ⟨q1.trans q4, fun i hi p hp => ?_⟩
   rw [List.take_of_length_le (by omega)] at q3
   by_cases ei : i = k2
   ·subst ei
    rw [q1, hre, ← q1]; exact q3 p hp
   ·rw [q1]; exact q5 i (by omega) p hp
 ·intro i hi
  exact (hf7 e).2 i (by omega)
 ·cases hc3 : c3 with
  | true => have := ht7 hc3; simp; omega
  | false => rw [(hf7 hc3).1]; simp
theorem max_exists {P : Int → Prop} (h0 : ∃ x, P x) (hb : ∀ x, P x → 0 ≤ x ∧ x ≤ 1000000000) : ∃ m, P m ∧ ∀ x, P x → x ≤ m := by
 have key : ∀ (n : Nat) (x : Int), P x → (1000000000 - x).toNat ≤ n → ∃ m, P m ∧ ∀ x, P x → x ≤ m := by
  intro n
  induction n with
  | zero =>
   intro x hx hn
   refine ⟨x, hx, fun y hy => ?_⟩
   have := hb x hx
   have := hb y hy
   omega
  | succ n ih =>
   intro x hx hn
   by_cases h : ∃ y, P y ∧ x < y
   ·obtain ⟨y, hy, hlt⟩ := h
    have := hb y hy
    exact ih y hy (by omega)
   ·exact ⟨x, hx, fun y hy => Classical.byContradiction fun q => h ⟨y, hy, by omega⟩⟩
 obtain ⟨x, hx⟩ := h0
 exact key _ x hx (Nat.le_refl _)
theorem gt_map_allS (f : Int → Int) (n : Nat) (p : Int) (h0 : 0 ≤ p) (h1 : p < n) : gt ((allS n).map f) p = f p := by
 rw [gt_of ⟨h0, by rw [List.length_map, allS_len]; exact h1⟩]
 simp only [List.getElem_map, allS, List.getElem_range]
 congr 1
 omega
theorem val_exists {comb : List Int → List Int → Int} (hc : Comb comb) {t : Task} {s costs : List Int} (tk : TaskOK t) (hs : sp_isSet s t.facts = true) (hcl : costs.length = t.ops.length) (hcs : ∀ c ∈ costs, 0 ≤ c ∧ c ≤ 100) : ∃ v, IsVal comb t s costs v := by
 have hf := tk.facts
 have hsr := set_rng hs
 have hz : IsBound comb t s costs (List.replicate t.facts.toNat 0) := by
  have hv : Vals (List.replicate t.facts.toNat 0) := fun x hx => by rw [(List.mem_replicate.1 hx).2]; omega
  have hg : ∀ p : Int, 0 ≤ p → p < t.facts → gt (List.replicate t.facts.toNat (0 : Int)) p = 0 := fun p h0 h1 => by
   rw [gt_of ⟨h0, by rw [List.length_replicate]; omega⟩]; simp
  refine ⟨by rw [List.length_replicate]; omega, hv, fun p hp => hg p (hsr p hp).1 (hsr p hp).2, fun i hi p hp => ?_⟩
  have hop := tk.op (i := (i : Int)) ⟨by omega, by omega⟩
  have hpr := set_rng hop.2.1 p hp
  rw [hg p hpr.1 hpr.2]
  have hcost := hcs _ (gt_memN (xs := costs) (i := i) (by omega))
  exact (plus_rng (hc.rng _ _ hv fun q hq => ⟨(set_rng hop.1 q hq).1, by rw [List.length_replicate]; have := (set_rng hop.1 q hq).2; omega⟩) (by omega)).1
 have hm : ∀ p : Int, ∃ m, (0 ≤ p → p < t.facts → (∃ w, IsBound comb t s costs w ∧ gt w p = m) ∧ ∀ w, IsBound comb t s costs w → gt w p ≤ m) := fun p => by
  by_cases hp : 0 ≤ p ∧ p < t.facts
  ·obtain ⟨m, ⟨w, hw, e⟩, h2⟩ := max_exists (P := fun x => ∃ w, IsBound comb t s costs w ∧ gt w p = x) ⟨_, _, hz, rfl⟩ (fun x ⟨w, hw, e⟩ => by
    rw [← e]; exact gt_vals hw.vals ⟨hp.1, by rw [hw.len]; exact hp.2⟩)
   exact ⟨m, fun _ _ => ⟨⟨w, hw, e⟩, fun u hu => h2 _ ⟨u, hu, rfl⟩⟩⟩
  ·exact ⟨0, fun a b => absurd ⟨a, b⟩ hp⟩
 obtain ⟨f, hfm⟩ := Classical.axiomOfChoice hm
 have hg : ∀ p : Int, 0 ≤ p → p < t.facts → gt ((allS t.facts.toNat).map f) p = f p := fun p h0 h1 => gt_map_allS f _ p h0 (by omega)
 have hl : (((allS t.facts.toNat).map f).length : Int) = t.facts := by rw [List.length_map, allS_len]; omega
 have hv : Vals ((allS t.facts.toNat).map f) := fun x hx => by
  obtain ⟨p, hp, e⟩ := List.mem_map.1 hx
  have hpr := mem_allS.1 hp
  obtain ⟨⟨w, hw, e2⟩, _⟩ := hfm p hpr.1 (by omega)
  rw [← e, ← e2]
  exact gt_vals hw.vals ⟨hpr.1, by rw [hw.len]; omega⟩
 refine ⟨(allS t.facts.toNat).map f, ⟨hl, hv, fun p hp => ?_, fun i hi p hp => ?_⟩, fun w hw p p0 p1 => by rw [hg p p0 p1]; exact (hfm p p0 p1).2 w hw⟩
 ·obtain ⟨p0, p1⟩ := hsr p hp
  obtain ⟨⟨w, hw, e⟩, _⟩ := hfm p p0 p1
  rw [hg p p0 p1, ← e]; exact hw.zero p hp
 ·have hop := tk.op (i := (i : Int)) ⟨by omega, by omega⟩
  obtain ⟨p0, p1⟩ := set_rng hop.2.1 p hp
  obtain ⟨⟨w, hw, e⟩, _⟩ := hfm p p0 p1
  rw [hg p p0 p1, ← e]
  have hcost := hcs _ (gt_memN (xs := costs) (i := i) (by omega))
  have hin : ∀ q ∈ (gt t.ops (i : Int)).pre, inb w q ∧ inb ((allS t.facts.toNat).map f) q ∧ gt w q ≤ gt ((allS t.facts.toNat).map f) q := fun q hq => by
   obtain ⟨q0, q1⟩ := set_rng hop.1 q hq
   exact ⟨⟨q0, by rw [hw.len]; exact q1⟩, ⟨q0, by rw [hl]; exact q1⟩, by rw [hg q q0 q1]; exact (hfm q q0 q1).2 w hw⟩
  exact Int.le_trans (hw.step i hi p hp) (plus_mono (hc.rng w _ hw.vals fun q hq => (hin q hq).1).1 hcost.1 (hc.mono w _ _ hw.vals hv hin) (Int.le_refl _) (hc.rng _ _ hv fun q hq => (hin q hq).2.1).2 (by omega))
theorem values_is {comb : List Int → List Int → Int} (hc : Comb comb) {t : Task} {s costs : List Int} (tk : TaskOK t) (hs : sp_isSet s t.facts = true) (hcl : costs.length = t.ops.length) (hcs : ∀ c ∈ costs, 0 ≤ c ∧ c ≤ 100) : IsVal comb t s costs (sp_values comb t s costs) := by
 have h := val_exists hc tk hs hcl hcs
 unfold sp_values
 rw [dif_pos h]
 exact Classical.choose_spec h
theorem sf_ok {t : Task} {s : List Int} (h : sp_stateFault t s = ⟨0, 0⟩) : sp_validate t = ⟨0, 0⟩ ∧ sp_isSet s t.facts = true := by
 unfold sp_stateFault at h
 split at h
 ·rename_i hv
  split at h
  ·rename_i hs; exact ⟨hv, hs⟩
  ·simp at h
 ·rename_i hv; exact absurd h hv
theorem costs_rng {t : Task} (tk : TaskOK t) : (sp_costsR t).length = t.ops.length ∧ ∀ c ∈ sp_costsR t, 0 ≤ c ∧ c ≤ 100 := by
 unfold sp_costsR
 refine ⟨List.length_map _, fun c hc => ?_⟩
 obtain ⟨o, ho, e⟩ := List.mem_map.1 hc
 obtain ⟨i, hi, e2⟩ := mem_gt ho
 have h1 := tk.ops i hi
 rw [e2] at h1
 unfold sp_operator at h1
 split at h1
 ·split at h1
  ·omega
  ·omega
 ·omega
theorem goal_in {t : Task} (tk : TaskOK t) {v : List Int} (hl : (v.length : Int) = t.facts) : ∀ p ∈ t.goal, inb v p := fun p hp => ⟨(set_rng tk.goal p hp).1, by rw [hl]; exact (set_rng tk.goal p hp).2⟩
theorem ok_relMax : ∀ (t : Task) (s_ : List Int), F_relMax t s_ (fun r => r = sp_relMax t s_) := fun t s => by
 unfold F_relMax
 simp only [forall_eq, fault_ne, fault_eq]
 refine ⟨fun h => by rw [sp_relMax, if_neg h], fun h => ?_⟩
 obtain ⟨hv, hs⟩ := sf_ok h
 have tk := taskOK_of hv
 have hf := tk.facts
 have hgl := set_len hf.1 tk.goal
 obtain ⟨c1, c2⟩ := costs_rng tk
 have hb := (values_is comb_greatest tk hs c1 c2).bound
 exact ⟨hv, ⟨hv, hs, c1, c2⟩, ⟨by omega, goal_in tk hb.len, hb.vals⟩, by rw [sp_relMax, if_pos h]⟩
theorem ok_relAdd : ∀ (t : Task) (s_ : List Int), F_relAdd t s_ (fun r => r = sp_relAdd t s_) := fun t s => by
 unfold F_relAdd
 simp only [forall_eq, fault_ne, fault_eq]
 refine ⟨fun h => by rw [sp_relAdd, if_neg h], fun h => ?_⟩
 obtain ⟨hv, hs⟩ := sf_ok h
 have tk := taskOK_of hv
 have hf := tk.facts
 have hgl := set_len hf.1 tk.goal
 obtain ⟨c1, c2⟩ := costs_rng tk
 have hb := (values_is comb_sum tk hs c1 c2).bound
 exact ⟨hv, ⟨hv, hs, c1, c2⟩, ⟨by omega, goal_in tk hb.len, hb.vals⟩, by rw [sp_relAdd, if_pos h]⟩
end Go.Proofs.YtimillpakjgnoaaGreat.Pl

namespace Go.Proofs.YtimillpakjgnoaaGreat.Pl
open Go Go.RowKit
theorem hardest_mem (x : SearchT) : ∀ (f : List Int) (b : Int), f.foldl (fun b p => if b = x.t.facts ∨ gt x.value b < gt x.value p then p else b) b = b ∨ f.foldl (fun b p => if b = x.t.facts ∨ gt x.value b < gt x.value p then p else b) b ∈ f
 | [], _ => .inl rfl
 | p :: r, b => by
  rw [List.foldl_cons]
  rcases hardest_mem x r (if b = x.t.facts ∨ gt x.value b < gt x.value p then p else b) with h | h
  ·rw [h]
   split
   ·exact .inr (List.mem_cons_self ..)
   ·exact .inl rfl
  ·exact .inr (List.mem_cons_of_mem _ h)
theorem hardest_cases (x : SearchT) (f : List Int) : sp_hardest x f = x.t.facts ∨ sp_hardest x f ∈ f := hardest_mem x f _
theorem hardest_snoc (x : SearchT) (f : List Int) (p : Int) : sp_hardest x (f ++ [p]) = if sp_hardest x f = x.t.facts ∨ gt x.value (sp_hardest x f) < gt x.value p then p else sp_hardest x f := by
 unfold sp_hardest
 rw [List.foldl_append]; rfl
theorem hardest_rng {x : SearchT} (h0 : 0 ≤ x.t.facts) {f : List Int} (hf : ∀ p ∈ f, 0 ≤ p ∧ p < x.t.facts) : 0 ≤ sp_hardest x f ∧ sp_hardest x f ≤ x.t.facts := by
 rcases hardest_cases x f with h | h
 ·omega
 ·have := hf _ h; omega
theorem ok_hardest : ∀ (x : SearchT) (facts : List Int), pre_hardest x facts → F_hardest x facts (fun r => r = sp_hardest x facts) := fun x f ⟨hv, h0, hl, hf⟩ => by
 refine ⟨fun b i => ∃ k : Nat, i = k ∧ k ≤ f.length ∧ b = sp_hardest x (f.take k), fun _ i => (f.length - i).toNat, ⟨0, rfl, Nat.zero_le _, rfl⟩, ?_⟩
 rintro _ _ ⟨k, rfl, k1, rfl⟩
 unfold F_hardest_L1
 simp only [decide_eq_true_eq, decide_eq_false_iff_not, beq_iff_eq, beq_eq_false_iff_ne, ne_eq]
 refine ⟨fun h => ?_, fun h => by rw [List.take_of_length_le (by omega)]⟩
 have hk : k < f.length := by omega
 have hr := hardest_rng h0 (f := f.take k) fun p hp => hf p (List.mem_of_mem_take hp)
 have hp := hf _ (gt_memN hk)
 have nx := hardest_snoc x (f.take k) (gt f (k : Int))
 rw [← takeN_gt hk] at nx
 have go : ∀ b, b = sp_hardest x (f.take (k + 1)) → F_hardest_J1 (sp_hardest x (f.take k)) (k : Int) (fun b i => ∃ k : Nat, i = k ∧ k ≤ f.length ∧ b = sp_hardest x (f.take k)) (fun _ i => (f.length - i).toNat) b := fun b hb => by
  unfold F_hardest_J1
  rw [w64 (by omega)]
  exact ⟨⟨k + 1, by omega, by omega, hb⟩, by dsimp only; omega⟩
 refine ⟨⟨by omega, h⟩, fun q => ?_, fun q => ⟨⟨hp.1, by omega⟩, ⟨hr.1, by omega⟩, ?_⟩⟩
 ·exact ⟨fun _ => go _ (by rw [nx, if_pos (.inl q)]), fun g => absurd g (by decide)⟩
 ·unfold F_hardest_J2
  simp only [decide_eq_true_eq, decide_eq_false_iff_not]
  exact ⟨fun g => go _ (by rw [nx, if_pos (.inr g)]), fun g => go _ (by rw [nx, if_neg (fun e => e.elim q g)])⟩
theorem hardest_val {x : SearchT} (hz : gt x.value x.t.facts = 0) : ∀ (f : List Int) (b : Int), 0 ≤ gt x.value b → (∀ p ∈ f, 0 ≤ gt x.value p) → gt x.value (f.foldl (fun b p => if b = x.t.facts ∨ gt x.value b < gt x.value p then p else b) b) = f.foldl (fun out p => max out (gt x.value p)) (gt x.value b)
 | [], _, _, _ => rfl
 | p :: r, b, hb, h => by
  have hp := h p (List.mem_cons_self ..)
  rw [List.foldl_cons, List.foldl_cons]
  by_cases c : b = x.t.facts ∨ gt x.value b < gt x.value p
  ·rw [if_pos c, hardest_val hz r p hp fun q hq => h q (List.mem_cons_of_mem _ hq)]
   congr 1
   rcases c with c | c
   ·rw [c, hz]; omega
   ·omega
  ·rw [if_neg c, hardest_val hz r b hb fun q hq => h q (List.mem_cons_of_mem _ hq)]
   congr 1
   have : ¬ gt x.value b < gt x.value p := fun g => c (.inr g)
   omega
theorem hardest_greatest {x : SearchT} (hz : gt x.value x.t.facts = 0) {f : List Int} (h : ∀ p ∈ f, 0 ≤ gt x.value p) : gt x.value (sp_hardest x f) = sp_greatest x.value f := by
 have := hardest_val hz f x.t.facts (by omega) h
 rw [hz] at this
 exact this
theorem gt_map_all {α : Type} [Inhabited α] (f : Int → α) (n : Nat) (p : Int) (h0 : 0 ≤ p) (h1 : p < n) : gt ((allS n).map f) p = f p := by
 rw [gt_of ⟨h0, by rw [List.length_map, allS_len]; exact h1⟩]
 simp only [List.getElem_map, allS, List.getElem_range]
 congr 1
 omega
def fcnt (u : List Bool) : Nat := (u.map fun b => if b = true then 0 else 1).sum
theorem fcnt_setN : ∀ (u : List Bool) (i : Nat), i < u.length → fcnt (u.set i true) ≤ fcnt u ∧ (u[i]? = some false → fcnt (u.set i true) < fcnt u)
 | [], _, h => absurd h (Nat.not_lt_zero _)
 | b :: r, 0, _ => by
  simp only [List.set_cons_zero, fcnt, List.map_cons, List.sum_cons, if_true, List.getElem?_cons_zero, Option.some.injEq]
  refine ⟨by omega, fun h => ?_⟩
  subst h
  simp
 | b :: r, i + 1, h => by
  obtain ⟨h1, h2⟩ := fcnt_setN r i (by simpa using h)
  simp only [List.set_cons_succ, fcnt, List.map_cons, List.sum_cons, List.getElem?_cons_succ] at h1 h2 ⊢
  exact ⟨by omega, fun q => by have := h2 q; omega⟩
theorem fcnt_set {u : List Bool} {i : Int} (hi : inb u i) : fcnt (u.set i.toNat true) ≤ fcnt u ∧ (gt u i = false → fcnt (u.set i.toNat true) < fcnt u) := by
 obtain ⟨h1, h2⟩ := fcnt_setN u i.toNat (inb_lt hi)
 refine ⟨h1, fun h => h2 ?_⟩
 rw [List.getElem?_eq_getElem (inb_lt hi), ← gt_of hi, h]
theorem gt_repF (n : Nat) (p : Int) (h0 : 0 ≤ p) (h1 : p < n) : gt (List.replicate n false) p = false := by
 rw [gt_of ⟨h0, by rw [List.length_replicate]; exact h1⟩]; simp
theorem ext_gtB {a b : List Bool} (hl : a.length = b.length) (h : ∀ i : Nat, i < a.length → gt a (i : Int) = gt b (i : Int)) : a = b := by
 refine List.ext_getElem hl fun i h1 h2 => ?_
 have e := h i h1
 rw [gt_of ⟨by omega, by omega⟩, gt_of ⟨by omega, by omega⟩] at e
 simpa using e
structure ZI (x : SearchT) (u : List Bool) : Prop where
 len : (u.length : Int) = x.t.facts + 1
 sound : ∀ p : Int, 0 ≤ p → p ≤ x.t.facts → gt u p = true → InZone x p
 goal : gt u (sp_hardest x x.t.goal) = true
def ZC (x : SearchT) (u : List Bool) (i : Nat) : Prop := ¬ 0 < gt x.costs (i : Int) → ∀ p ∈ (gt x.t.ops (i : Int)).add, gt u p = true → gt u (sp_hardest x (gt x.t.ops (i : Int)).pre) = true
theorem ZI.set {x : SearchT} {u : List Bool} (h : ZI x u) {r : Int} (h0 : 0 ≤ r) (h1 : r ≤ x.t.facts) (hr : InZone x r) (hg : 0 ≤ sp_hardest x x.t.goal) : ZI x (u.set r.toNat true) := by
 have hin : inb u r := ⟨h0, by have := h.len; omega⟩
 refine ⟨by rw [List.length_set]; exact h.len, fun p p0 p1 hp => ?_, ?_⟩
 ·rw [gt_setI hin p0] at hp
  split at hp
  ·subst p; exact hr
  ·exact h.sound p p0 p1 hp
 ·rw [gt_setI hin hg]
  split
  ·rfl
  ·exact h.goal
theorem PreS.rng {x : SearchT} (h : PreS x) : 0 ≤ x.t.facts ∧ x.t.facts ≤ 24 ∧ x.t.ops.length ≤ 40 := ⟨(taskOK_of h.valid).facts.1, (taskOK_of h.valid).facts.2, (taskOK_of h.valid).len⟩
theorem PreS.pre {x : SearchT} (h : PreS x) {i : Int} (hi : inb x.t.ops i) : pre_hardest x (gt x.t.ops i).pre := by
 have tk := taskOK_of h.valid
 have := tk.lens hi
 exact ⟨h.value, tk.facts.1, by omega, set_rng (tk.op hi).1⟩
theorem PreS.goal {x : SearchT} (h : PreS x) : pre_hardest x x.t.goal := by
 have tk := taskOK_of h.valid
 have h1 := set_len tk.facts.1 tk.goal
 have h2 := tk.facts
 exact ⟨h.value, tk.facts.1, by omega, set_rng tk.goal⟩
open Classical in
theorem zone_done {x : SearchT} (hp : PreS x) {u : List Bool} (h : ZI x u) (hc : ∀ i : Nat, i < x.t.ops.length → ZC x u i) : u = sp_zone x := by
 have hr := hp.rng
 have all : ∀ p, InZone x p → gt u p = true := fun p hz => by
  induction hz with
  | goal => exact h.goal
  | step i p hi h0 hm _ ih => exact hc i hi h0 p hm ih
 have hl := h.len
 refine ext_gtB (b := sp_zone x) (by unfold sp_zone; rw [List.length_map, allS_len]; omega) fun i hi => ?_
 unfold sp_zone
 rw [gt_map_all _ _ _ (by omega) (by omega)]
 cases e : gt u (i : Int) with
 | true =>
  symm; rw [decide_eq_true_eq]
  exact h.sound i (by omega) (by omega) e
 | false =>
  symm; rw [decide_eq_false_iff_not]
  exact fun g => by rw [all _ g] at e; cases e
theorem ok_zone : ∀ (x : SearchT), pre_zone x → F_zone x (fun r => r = sp_zone x) := fun x hp => by
 have hr := hp.rng
 have tk := taskOK_of hp.valid
 have hg := hp.goal
 have hgr := hardest_rng hr.1 hg.2.2.2
 unfold F_zone
 rw [w64 (by omega)]
 simp only [forall_eq]
 have hl0 : ((List.replicate (x.t.facts + 1).toNat false).length : Int) = x.t.facts + 1 := by rw [List.length_replicate]; omega
 have hin0 : inb (List.replicate (x.t.facts + 1).toNat false) (sp_hardest x x.t.goal) := ⟨hgr.1, by omega⟩
 have z0 : ZI x ((List.replicate (x.t.facts + 1).toNat false).set (sp_hardest x x.t.goal).toNat true) := by
  refine ⟨by rw [List.length_set]; exact hl0, fun p p0 p1 h => ?_, gt_set hin0⟩
  rw [gt_setI hin0 p0] at h
  split at h
  ·subst p; exact .goal
  ·rw [gt_repF _ _ p0 (by omega)] at h; cases h
 refine ⟨⟨by omega, by omega, by simp only [maxLen]; omega⟩, hg, hin0, fun ch u => ZI x u ∧ (ch = false → ∀ i : Nat, i < x.t.ops.length → ZC x u i), fun ch u => 2 * fcnt u + (if ch = true then 1 else 0), ⟨z0, fun e => absurd e (by decide)⟩, ?_⟩
 rintro ch u5 ⟨z5, h5⟩
 unfold F_zone_L1
 refine ⟨fun hch => ?_, fun hch => zone_done hp z5 (h5 hch)⟩
 subst hch
 refine ⟨fun ch i u => ∃ k : Nat, i = k ∧ k ≤ x.t.ops.length ∧ ZI x u ∧ (ch = true → fcnt u < fcnt u5) ∧ (ch = false → u = u5 ∧ ∀ i : Nat, i < k → ZC x u i), fun _ i _ => (x.t.ops.length - i).toNat, ⟨0, rfl, Nat.zero_le _, z5, fun e => absurd e (by decide), fun _ => ⟨rfl, fun i hi => absurd hi (by omega)⟩⟩, ?_⟩
 rintro c3 _ u3 ⟨k, rfl, k1, z3, ht3, hf3⟩
 unfold F_zone_L2
 simp only [decide_eq_true_eq, decide_eq_false_iff_not, forall_eq]
 refine ⟨fun h => ?_, fun h => ⟨⟨z3, fun e => fun i hi => (hf3 e).2 i (by omega)⟩, ?_⟩⟩
 ·have hk : k < x.t.ops.length := by omega
  have hik : inb x.t.ops (k : Int) := ⟨by omega, h⟩
  have hph := hp.pre hik
  have hrr := hardest_rng hr.1 hph.2.2.2
  have hop := tk.op hik
  have hls := tk.lens hik
  have next : ∀ (c5 : Bool) (u6 : List Bool), ZI x u6 → (c5 = true → fcnt u6 < fcnt u5) → (c5 = false → u6 = u3 ∧ c3 = false ∧ ZC x u6 k) → F_zone_J1 c3 u3 (k : Int) c5 u6 (fun ch i u => ∃ k : Nat, i = k ∧ k ≤ x.t.ops.length ∧ ZI x u ∧ (ch = true → fcnt u < fcnt u5) ∧ (ch = false → u = u5 ∧ ∀ i : Nat, i < k → ZC x u i)) (fun _ i _ => (x.t.ops.length - i).toNat) := fun c5 u6 z6 ht6 hf6 => by
   unfold F_zone_J1
   rw [w64 (by omega)]
   refine ⟨⟨k + 1, by omega, by omega, z6, ht6, fun e => ?_⟩, by dsimp only; omega⟩
   obtain ⟨q1, q2, q3⟩ := hf6 e
   obtain ⟨q4, q5⟩ := hf3 q2
   refine ⟨q1.trans q4, fun i hi => ?_⟩
   by_cases ei : i = k
   ·subst ei; exact q3
   ·rw [q1]; exact q5 i (by omega)
  have skip : (0 < gt x.costs (k : Int) ∨ gt u3 (sp_hardest x (gt x.t.ops (k : Int)).pre) = true) → F_zone_J1 c3 u3 (k : Int) c3 u3 (fun ch i u => ∃ k : Nat, i = k ∧ k ≤ x.t.ops.length ∧ ZI x u ∧ (ch = true → fcnt u < fcnt u5) ∧ (ch = false → u = u5 ∧ ∀ i : Nat, i < k → ZC x u i)) (fun _ i _ => (x.t.ops.length - i).toNat) := fun q => next _ _ z3 ht3 fun e => ⟨rfl, e, fun h0 p hp' hg' => q.elim (fun g => absurd g h0) fun g => g⟩
  have hin3 : inb u3 (sp_hardest x (gt x.t.ops (k : Int)).pre) := ⟨hrr.1, by have := z3.len; omega⟩
  refine ⟨hik, hph, ⟨by omega, by have := hp.costs; omega⟩, fun hc => ?_, fun hc => ⟨hin3, ?_⟩⟩
  ·exact ⟨fun _ => skip (.inl hc), fun g => absurd g (by decide)⟩
  ·refine ⟨fun g => skip (.inr g), fun g => ?_⟩
   refine ⟨fun ch j u => ∃ m : Nat, j = m ∧ m ≤ (gt x.t.ops (k : Int)).add.length ∧ ZI x u ∧ (ch = true → fcnt u < fcnt u5) ∧ (ch = false → u = u3 ∧ c3 = false ∧ ∀ p ∈ (gt x.t.ops (k : Int)).add.take m, gt u p = false), fun _ j _ => ((gt x.t.ops (k : Int)).add.length - j).toNat, ⟨0, rfl, Nat.zero_le _, z3, ht3, fun e => ⟨rfl, e, fun p hp => absurd hp (by simp)⟩⟩, ?_⟩
   rintro c6 _ u6 ⟨m, rfl, m1, z6, ht6, hf6⟩
   unfold F_zone_L3
   simp only [decide_eq_true_eq, decide_eq_false_iff_not, forall_eq]
   refine ⟨fun hm => ?_, fun hm => next _ _ z6 ht6 fun e => ?_⟩
   ·have hm' : m < (gt x.t.ops (k : Int)).add.length := by omega
    have hmem := gt_memN hm'
    have hpr := set_rng hop.2.1 _ hmem
    have hl6 := z6.len
    unfold F_zone_J3
    rw [w64 (by omega)]
    have hin6 : inb u6 (sp_hardest x (gt x.t.ops (k : Int)).pre) := ⟨hrr.1, by omega⟩
    refine ⟨⟨by omega, hm⟩, ⟨hpr.1, by omega⟩, fun q => ⟨hin6, ⟨m + 1, by omega, by omega, z6.set hrr.1 hrr.2 (.step k _ hk hc hmem (z6.sound _ hpr.1 (by omega) q)) hgr.1, fun _ => ?_, fun e => absurd e (by decide)⟩, by dsimp only; omega⟩, fun q => ⟨⟨m + 1, by omega, by omega, z6, ht6, fun e => ?_⟩, by dsimp only; omega⟩⟩
    ·have hs := fcnt_set hin6
     cases hc6 : c6 with
     | true => have := ht6 hc6; omega
     | false =>
      obtain ⟨q1, q2, _⟩ := hf6 hc6
      obtain ⟨q3, _⟩ := hf3 q2
      have := hs.2 (by rw [q1]; exact g)
      rw [q1, q3] at this ⊢
      exact this
    ·obtain ⟨q1, q2, q3⟩ := hf6 e
     refine ⟨q1, q2, fun p hp => ?_⟩
     rw [takeN_gt hm'] at hp
     rcases List.mem_append.1 hp with g | g
     ·exact q3 p g
     ·rw [List.mem_singleton.1 g]; exact q
   ·obtain ⟨q1, q2, q3⟩ := hf6 e
    refine ⟨q1, q2, fun _ p hp' hg' => ?_⟩
    rw [List.take_of_length_le (by omega)] at q3
    rw [q3 p hp'] at hg'; cases hg'
 ·cases hc3 : c3 with
  | true => have := ht3 hc3; simp; omega
  | false => rw [(hf3 hc3).1]; simp
end Go.Proofs.YtimillpakjgnoaaGreat.Pl

namespace Go.Proofs.YtimillpakjgnoaaGreat.Pl
open Go Go.RowKit
structure BI (x : SearchT) (zone u : List Bool) : Prop where
 len : (u.length : Int) = x.t.facts + 1
 sound : ∀ p : Int, 0 ≤ p → p ≤ x.t.facts → gt u p = true → InBefore x zone p
 top : gt u x.t.facts = true
 start : ∀ p ∈ x.s, gt u p = true
def BC (x : SearchT) (zone u : List Bool) (i : Nat) : Prop := gt u (sp_hardest x (gt x.t.ops (i : Int)).pre) = true → ∀ p ∈ (gt x.t.ops (i : Int)).add, gt zone p = false → gt u p = true
theorem BI.set {x : SearchT} (hp : PreS x) {zone u : List Bool} (h : BI x zone u) {r : Int} (h0 : 0 ≤ r) (h1 : r ≤ x.t.facts) (hr : InBefore x zone r) : BI x zone (u.set r.toNat true) := by
 have hin : inb u r := ⟨h0, by have := h.len; omega⟩
 refine ⟨by rw [List.length_set]; exact h.len, fun p p0 p1 hp => ?_, ?_, fun p hs => ?_⟩
 ·rw [gt_setI hin p0] at hp
  split at hp
  ·subst p; exact hr
  ·exact h.sound p p0 p1 hp
 ·rw [gt_setI hin hp.rng.1]
  split
  ·rfl
  ·exact h.top
 ·rw [gt_setI hin (set_rng hp.set p hs).1]
  split
  ·rfl
  ·exact h.start p hs
open Classical in
theorem before_done {x : SearchT} (hp : PreS x) {zone u : List Bool} (h : BI x zone u) (hc : ∀ i : Nat, i < x.t.ops.length → BC x zone u i) : u = sp_beforeZ x zone := by
 have hr := hp.rng
 have all : ∀ p, InBefore x zone p → gt u p = true := fun p hz => by
  induction hz with
  | top => exact h.top
  | start p hs => exact h.start p hs
  | step i p hi _ hm h0 ih => exact hc i hi ih p hm h0
 have hl := h.len
 refine ext_gtB (b := sp_beforeZ x zone) (by unfold sp_beforeZ; rw [List.length_map, allS_len]; omega) fun i hi => ?_
 unfold sp_beforeZ
 rw [gt_map_all _ _ _ (by omega) (by omega)]
 cases e : gt u (i : Int) with
 | true =>
  symm; rw [decide_eq_true_eq]
  exact h.sound i (by omega) (by omega) e
 | false =>
  symm; rw [decide_eq_false_iff_not]
  exact fun g => by rw [all _ g] at e; cases e
theorem ok_beforeZ : ∀ (x : SearchT) (zone : List Bool), pre_beforeZ x zone → F_beforeZ x zone (fun r => r = sp_beforeZ x zone) := fun x zone ⟨hp, hz⟩ => by
 have hr := hp.rng
 have tk := taskOK_of hp.valid
 have hsr := set_rng hp.set
 have hsl := set_len hr.1 hp.set
 unfold F_beforeZ
 rw [w64 (by omega)]
 simp only [forall_eq]
 have hl0 : ((List.replicate (x.t.facts + 1).toNat false).length : Int) = x.t.facts + 1 := by rw [List.length_replicate]; omega
 have hin0 : inb (List.replicate (x.t.facts + 1).toNat false) x.t.facts := ⟨hr.1, by omega⟩
 refine ⟨⟨by omega, by omega, by simp only [maxLen]; omega⟩, hin0, fun i u => ∃ k : Nat, i = k ∧ k ≤ x.s.length ∧ (u.length : Int) = x.t.facts + 1 ∧ (∀ p : Int, 0 ≤ p → p ≤ x.t.facts → gt u p = true → InBefore x zone p) ∧ gt u x.t.facts = true ∧ ∀ p ∈ x.s.take k, gt u p = true, fun i _ => (x.s.length - i).toNat, ⟨0, rfl, Nat.zero_le _, by rw [List.length_set]; exact hl0, fun p p0 p1 h => ?_, gt_set hin0, fun p h => absurd h (by simp)⟩, ?_⟩
 ·rw [gt_setI hin0 p0] at h
  split at h
  ·subst p; exact .top
  ·rw [gt_repF _ _ p0 (by omega)] at h; cases h
 rintro _ u ⟨k, rfl, k1, ul, us, ut, uk⟩
 unfold F_beforeZ_L1
 simp only [decide_eq_true_eq, decide_eq_false_iff_not, forall_eq]
 refine ⟨fun h => ?_, fun h => ?_⟩
 ·have hk : k < x.s.length := by omega
  have hm := hsr _ (gt_memN hk)
  have hin : inb u (gt x.s (k : Int)) := ⟨hm.1, by omega⟩
  rw [w64 (by omega)]
  refine ⟨⟨by omega, h⟩, hin, ⟨k + 1, by omega, by omega, by rw [List.length_set]; exact ul, fun p p0 p1 h => ?_, ?_, fun p hp' => ?_⟩, by omega⟩
  ·rw [gt_setI hin p0] at h
   split at h
   ·subst p; exact .start _ (gt_memN hk)
   ·exact us p p0 p1 h
  ·rw [gt_setI hin hr.1]
   split
   ·rfl
   ·exact ut
  ·have hpm : p ∈ x.s := List.mem_of_mem_take hp'
   rw [gt_setI hin (hsr p hpm).1]
   split
   ·rfl
   ·rename_i hne
    rw [takeN_gt hk] at hp'
    rcases List.mem_append.1 hp' with g | g
    ·exact uk p g
    ·exact absurd (List.mem_singleton.1 g) hne
 have hks : x.s.take k = x.s := List.take_of_length_le (by omega)
 rw [hks] at uk
 have z0 : BI x zone u := ⟨ul, us, ut, uk⟩
 refine ⟨fun ch u => BI x zone u ∧ (ch = false → ∀ i : Nat, i < x.t.ops.length → BC x zone u i), fun ch u => 2 * fcnt u + (if ch = true then 1 else 0), ⟨z0, fun e => absurd e (by decide)⟩, ?_⟩
 rintro ch u5 ⟨z5, h5⟩
 unfold F_beforeZ_L2
 refine ⟨fun hch => ?_, fun hch => before_done hp z5 (h5 hch)⟩
 subst hch
 refine ⟨fun ch i u => ∃ k : Nat, i = k ∧ k ≤ x.t.ops.length ∧ BI x zone u ∧ (ch = true → fcnt u < fcnt u5) ∧ (ch = false → u = u5 ∧ ∀ i : Nat, i < k → BC x zone u i), fun _ i _ => (x.t.ops.length - i).toNat, ⟨0, rfl, Nat.zero_le _, z5, fun e => absurd e (by decide), fun _ => ⟨rfl, fun i hi => absurd hi (by omega)⟩⟩, ?_⟩
 rintro c3 _ u3 ⟨k2, rfl, k21, z3, ht3, hf3⟩
 unfold F_beforeZ_L3
 simp only [decide_eq_true_eq, decide_eq_false_iff_not, forall_eq]
 refine ⟨fun h => ?_, fun h => ⟨⟨z3, fun e => fun i hi => (hf3 e).2 i (by omega)⟩, ?_⟩⟩
 ·have hk : k2 < x.t.ops.length := by omega
  have hik : inb x.t.ops (k2 : Int) := ⟨by omega, h⟩
  have hph := hp.pre hik
  have hrr := hardest_rng hr.1 hph.2.2.2
  have hop := tk.op hik
  have hls := tk.lens hik
  have next : ∀ (c5 : Bool) (u6 : List Bool), BI x zone u6 → (c5 = true → fcnt u6 < fcnt u5) → (c5 = false → u6 = u3 ∧ c3 = false ∧ BC x zone u6 k2) → F_beforeZ_J1 c3 u3 (k2 : Int) c5 u6 (fun ch i u => ∃ k : Nat, i = k ∧ k ≤ x.t.ops.length ∧ BI x zone u ∧ (ch = true → fcnt u < fcnt u5) ∧ (ch = false → u = u5 ∧ ∀ i : Nat, i < k → BC x zone u i)) (fun _ i _ => (x.t.ops.length - i).toNat) := fun c5 u6 z6 ht6 hf6 => by
   unfold F_beforeZ_J1
   rw [w64 (by omega)]
   refine ⟨⟨k2 + 1, by omega, by omega, z6, ht6, fun e => ?_⟩, by dsimp only; omega⟩
   obtain ⟨q1, q2, q3⟩ := hf6 e
   obtain ⟨q4, q5⟩ := hf3 q2
   refine ⟨q1.trans q4, fun i hi => ?_⟩
   by_cases ei : i = k2
   ·subst ei; exact q3
   ·rw [q1]; exact q5 i (by omega)
  have hin3 : inb u3 (sp_hardest x (gt x.t.ops (k2 : Int)).pre) := ⟨hrr.1, by have := z3.len; omega⟩
  refine ⟨hik, hph, hin3, fun g => next _ _ z3 ht3 fun e => ⟨rfl, e, fun q => ?_⟩, fun g => ?_⟩
  ·rw [q] at g; cases g
  have g' : gt u3 (sp_hardest x (gt x.t.ops (k2 : Int)).pre) = true := by
   cases e : gt u3 (sp_hardest x (gt x.t.ops (k2 : Int)).pre) with
   | true => rfl
   | false => rw [e] at g; cases g
  have hbr := z3.sound _ hrr.1 hrr.2 g'
  refine ⟨fun ch j u => ∃ m : Nat, j = m ∧ m ≤ (gt x.t.ops (k2 : Int)).add.length ∧ BI x zone u ∧ (ch = true → fcnt u < fcnt u5) ∧ (ch = false → u = u3 ∧ c3 = false ∧ ∀ p ∈ (gt x.t.ops (k2 : Int)).add.take m, gt zone p = false → gt u p = true), fun _ j _ => ((gt x.t.ops (k2 : Int)).add.length - j).toNat, ⟨0, rfl, Nat.zero_le _, z3, ht3, fun e => ⟨rfl, e, fun p hp => absurd hp (by simp)⟩⟩, ?_⟩
  rintro c6 _ u6 ⟨m, rfl, m1, z6, ht6, hf6⟩
  unfold F_beforeZ_L4
  simp only [decide_eq_true_eq, decide_eq_false_iff_not]
  refine ⟨fun hm => ?_, fun hm => next _ _ z6 ht6 fun e => ?_⟩
  ·have hm' : m < (gt x.t.ops (k2 : Int)).add.length := by omega
   have hmem := gt_memN hm'
   have hpr := set_rng hop.2.1 _ hmem
   have hl6 := z6.len
   have hin6 : inb u6 (gt (gt x.t.ops (k2 : Int)).add (m : Int)) := ⟨hpr.1, by omega⟩
   have skip : (gt zone (gt (gt x.t.ops (k2 : Int)).add (m : Int)) = false → gt u6 (gt (gt x.t.ops (k2 : Int)).add (m : Int)) = true) → F_beforeZ_J2 (m : Int) (fun ch j u => ∃ m : Nat, j = m ∧ m ≤ (gt x.t.ops (k2 : Int)).add.length ∧ BI x zone u ∧ (ch = true → fcnt u < fcnt u5) ∧ (ch = false → u = u3 ∧ c3 = false ∧ ∀ p ∈ (gt x.t.ops (k2 : Int)).add.take m, gt zone p = false → gt u p = true)) (fun _ j _ => ((gt x.t.ops (k2 : Int)).add.length - j).toNat) c6 u6 c6 u6 := fun q => by
    unfold F_beforeZ_J2
    rw [w64 (by omega)]
    refine ⟨⟨m + 1, by omega, by omega, z6, ht6, fun e => ?_⟩, by dsimp only; omega⟩
    obtain ⟨q1, q2, q3⟩ := hf6 e
    refine ⟨q1, q2, fun p hp => ?_⟩
    rw [takeN_gt hm'] at hp
    rcases List.mem_append.1 hp with g | g
    ·exact q3 p g
    ·rw [List.mem_singleton.1 g]; exact q
   unfold F_beforeZ_J3
   refine ⟨⟨by omega, hm⟩, hin6, fun q => ⟨⟨hpr.1, by omega⟩, fun q2 => ⟨hin6, fun d hd => ?_⟩, fun q2 => skip fun q3 => ?_⟩, fun q => ⟨fun g => absurd g (by decide), fun _ => skip fun _ => ?_⟩⟩
   ·rw [hd]
    have q' : gt u6 (gt (gt x.t.ops (k2 : Int)).add (m : Int)) = false := by
     cases e : gt u6 (gt (gt x.t.ops (k2 : Int)).add (m : Int)) with
     | true => rw [e] at q; cases q
     | false => rfl
    have q2' : gt zone (gt (gt x.t.ops (k2 : Int)).add (m : Int)) = false := by
     cases e : gt zone (gt (gt x.t.ops (k2 : Int)).add (m : Int)) with
     | true => rw [e] at q2; cases q2
     | false => rfl
    have hs := (fcnt_set hin6).2 q'
    unfold F_beforeZ_J2
    rw [w64 (by omega)]
    refine ⟨⟨m + 1, by omega, by omega, z6.set hp hpr.1 (by omega) (.step k2 _ hk hbr hmem q2'), fun _ => ?_, fun e => absurd e (by decide)⟩, by dsimp only; omega⟩
    cases hc6 : c6 with
    | true => have := ht6 hc6; omega
    | false =>
     obtain ⟨q1, q2, _⟩ := hf6 hc6
     obtain ⟨q3, _⟩ := hf3 q2
     rw [q1, q3] at hs ⊢
     exact hs
   ·rw [q3] at q2; cases q2
   ·cases e : gt u6 (gt (gt x.t.ops (k2 : Int)).add (m : Int)) with
    | true => rfl
    | false => rw [e] at q; cases q
  ·obtain ⟨q1, q2, q3⟩ := hf6 e
   refine ⟨q1, q2, fun _ p hp' hg' => ?_⟩
   rw [List.take_of_length_le (by omega)] at q3
   exact q3 p hp' hg'
 ·cases hc3 : c3 with
  | true => have := ht3 hc3; simp; omega
  | false => rw [(hf3 hc3).1]; simp
end Go.Proofs.YtimillpakjgnoaaGreat.Pl

namespace Go.Proofs.YtimillpakjgnoaaGreat.Pl
open Go Go.RowKit
theorem gt_app {v : List Int} {p : Int} (h : inb v p) (z : Int) : gt (v ++ [z]) p = gt v p := by
 rw [gt_of h, gt_of ⟨h.1, by have := h.2; rw [List.length_append, List.length_singleton]; omega⟩]
 exact List.getElem_append_left _
theorem gt_end (v : List Int) (z : Int) : gt (v ++ [z]) (v.length : Int) = z := by
 rw [gt_of ⟨by omega, by rw [List.length_append, List.length_singleton]; omega⟩]
 simp
theorem fold_max_congr {a b : List Int} : ∀ (f : List Int) (m : Int), (∀ p ∈ f, gt a p = gt b p) → f.foldl (fun out p => max out (gt a p)) m = f.foldl (fun out p => max out (gt b p)) m
 | [], _, _ => rfl
 | p :: r, m, h => by
  rw [List.foldl_cons, List.foldl_cons, h p (List.mem_cons_self ..)]
  exact fold_max_congr r _ fun q hq => h q (List.mem_cons_of_mem _ hq)
theorem greatest_congr {a b f : List Int} (h : ∀ p ∈ f, gt a p = gt b p) : sp_greatest a f = sp_greatest b f := fold_max_congr f 0 h
theorem fold_max_ge {v : List Int} : ∀ (f : List Int) (m : Int), m ≤ f.foldl (fun out p => max out (gt v p)) m ∧ ∀ p ∈ f, gt v p ≤ f.foldl (fun out p => max out (gt v p)) m
 | [], _ => ⟨Int.le_refl _, fun _ h => absurd h (by simp)⟩
 | p :: r, m => by
  obtain ⟨h1, h2⟩ := fold_max_ge (v := v) r (max m (gt v p))
  rw [List.foldl_cons]
  refine ⟨by omega, fun q hq => ?_⟩
  rcases List.mem_cons.1 hq with e | e
  ·rw [e]; omega
  ·exact h2 q e
theorem le_greatest {v f : List Int} {p : Int} (h : p ∈ f) : gt v p ≤ sp_greatest v f := (fold_max_ge f 0).2 p h
structure GoodL (t : Task) (s l : List Int) : Prop where
 valid : sp_validate t = ⟨0, 0⟩
 set : sp_isSet s t.facts = true
 len : l.length = t.ops.length
 rng : ∀ c ∈ l, 0 ≤ c ∧ c ≤ 100
variable {t : Task} {s l : List Int}
theorem GoodL.val (h : GoodL t s l) : IsVal sp_greatest t s l (sp_valuesG t s l) := values_is comb_greatest (taskOK_of h.valid) h.set h.len h.rng
theorem GoodL.vlen (h : GoodL t s l) : ((sp_valuesG t s l).length : Int) = t.facts := h.val.bound.len
theorem GoodL.pre (h : GoodL t s l) : PreS (srchOf t s l) := ⟨h.valid, h.set, h.len, by
 show (((sp_valuesG t s l) ++ [0]).length : Int) = t.facts + 1
 rw [List.length_append, List.length_singleton]
 have := h.vlen; omega⟩
theorem GoodL.cost (h : GoodL t s l) {i : Nat} (hi : i < t.ops.length) : 0 ≤ gt l (i : Int) ∧ gt l (i : Int) ≤ 100 := h.rng _ (gt_memN (by rw [h.len]; exact hi))
theorem GoodL.at_ (h : GoodL t s l) {p : Int} (h0 : 0 ≤ p) (h1 : p < t.facts) : gt (srchOf t s l).value p = gt (sp_valuesG t s l) p := gt_app ⟨h0, by rw [h.vlen]; exact h1⟩ 0
theorem GoodL.top (h : GoodL t s l) : gt (srchOf t s l).value t.facts = 0 := by
 have := gt_end (sp_valuesG t s l) 0
 rw [h.vlen] at this
 exact this
theorem GoodL.vrng (h : GoodL t s l) {p : Int} (h0 : 0 ≤ p) (h1 : p < t.facts) : 0 ≤ gt (sp_valuesG t s l) p ∧ gt (sp_valuesG t s l) p ≤ 1000000000 := gt_vals h.val.bound.vals ⟨h0, by rw [h.vlen]; exact h1⟩
theorem GoodL.great (h : GoodL t s l) {f : List Int} (hf : ∀ p ∈ f, 0 ≤ p ∧ p < t.facts) : sp_greatest (srchOf t s l).value f = sp_greatest (sp_valuesG t s l) f := greatest_congr fun p hp => h.at_ (hf p hp).1 (hf p hp).2
theorem GoodL.hard (h : GoodL t s l) {f : List Int} (hf : ∀ p ∈ f, 0 ≤ p ∧ p < t.facts) : gt (srchOf t s l).value (sp_hardest (srchOf t s l) f) = sp_greatest (sp_valuesG t s l) f := by
 rw [hardest_greatest h.top fun p hp => by rw [h.at_ (hf p hp).1 (hf p hp).2]; exact (h.vrng (hf p hp).1 (hf p hp).2).1]
 exact h.great hf
noncomputable def gval (t : Task) (s l : List Int) : Int := sp_greatest (sp_valuesG t s l) t.goal
theorem GoodL.gval_eq (h : GoodL t s l) : sp_greatest (sp_valuesG t s l ++ [0]) t.goal = gval t s l := h.great (set_rng (taskOK_of h.valid).goal)
theorem GoodL.grng (h : GoodL t s l) : 0 ≤ gval t s l ∧ gval t s l ≤ 1000000000 := comb_greatest.rng _ _ h.val.bound.vals (goal_in (taskOK_of h.valid) h.vlen)
theorem GoodL.prng (h : GoodL t s l) {i : Nat} (hi : i < t.ops.length) : (∀ p ∈ (gt t.ops (i : Int)).pre, 0 ≤ p ∧ p < t.facts) ∧ ∀ p ∈ (gt t.ops (i : Int)).add, 0 ≤ p ∧ p < t.facts := by
 have hop := (taskOK_of h.valid).op (i := (i : Int)) ⟨by omega, by omega⟩
 exact ⟨set_rng hop.1, set_rng hop.2.1⟩
theorem zone_val (h : GoodL t s l) {p : Int} (hz : InZone (srchOf t s l) p) : (0 ≤ p ∧ p ≤ t.facts) ∧ gval t s l ≤ gt (srchOf t s l).value p := by
 have hf := (taskOK_of h.valid).facts
 induction hz with
 | goal => exact ⟨hardest_rng (x := srchOf t s l) hf.1 (set_rng (taskOK_of h.valid).goal), by show _ ≤ gt (srchOf t s l).value (sp_hardest (srchOf t s l) t.goal); rw [h.hard (set_rng (taskOK_of h.valid).goal)]; exact Int.le_refl _⟩
 | step i p hi h0 hm _ ih =>
  have hi' : i < t.ops.length := hi
  obtain ⟨r1, r2⟩ := h.prng hi'
  refine ⟨hardest_rng (x := srchOf t s l) hf.1 r1, ?_⟩
  have hm' : p ∈ (gt t.ops (i : Int)).add := hm
  show _ ≤ gt (srchOf t s l).value (sp_hardest (srchOf t s l) (gt t.ops (i : Int)).pre)
  rw [h.hard r1]
  have h1 := ih.2
  rw [h.at_ (r2 p hm').1 (r2 p hm').2] at h1
  have h2 := h.val.bound.step i hi' p hm'
  have h3 := comb_greatest.rng (sp_valuesG t s l) (gt t.ops (i : Int)).pre h.val.bound.vals fun q hq => ⟨(r1 q hq).1, by rw [h.vlen]; exact (r1 q hq).2⟩
  have h4 : gt l (i : Int) = 0 := by
   have := (h.cost hi').1
   have h0' : ¬ 0 < gt l (i : Int) := h0
   omega
  rw [h4] at h2
  unfold sp_plus at h2
  split at h2 <;> omega
open Classical in
theorem zone_iff {x : SearchT} (h0 : 0 ≤ x.t.facts) {p : Int} (p0 : 0 ≤ p) (p1 : p ≤ x.t.facts) : gt (sp_zone x) p = true ↔ InZone x p := by
 unfold sp_zone
 rw [gt_map_all _ _ _ p0 (by omega), decide_eq_true_eq]
open Classical in
theorem before_iff {x : SearchT} (h0 : 0 ≤ x.t.facts) {zone : List Bool} {p : Int} (p0 : 0 ≤ p) (p1 : p ≤ x.t.facts) : gt (sp_beforeZ x zone) p = true ↔ InBefore x zone p := by
 unfold sp_beforeZ
 rw [gt_map_all _ _ _ p0 (by omega), decide_eq_true_eq]
abbrev Bef (t : Task) (s l : List Int) (p : Int) : Prop := InBefore (srchOf t s l) (sp_zone (srchOf t s l)) p
theorem before_out (h : GoodL t s l) (hg : 0 < gval t s l) {p : Int} (hb : Bef t s l p) : ¬ InZone (srchOf t s l) p := fun hz => by
 have hf := (taskOK_of h.valid).facts
 have hv := (zone_val h hz).2
 cases hb with
 | top =>
  have : gt (srchOf t s l).value t.facts = 0 := h.top
  have hv' : gval t s l ≤ gt (srchOf t s l).value t.facts := hv
  omega
 | start p hs =>
  have hs' : p ∈ s := hs
  have hr := set_rng h.set p hs'
  rw [h.at_ hr.1 hr.2, h.val.bound.zero p hs'] at hv
  omega
 | step i p hi _ hm h0 =>
  have hr := (h.prng hi).2 p hm
  have := (zone_iff (x := srchOf t s l) hf.1 hr.1 (Int.le_of_lt hr.2)).2 hz
  rw [h0] at this; cases this
theorem mem_cut (h : GoodL t s l) {i : Int} : i ∈ cutOps (srchOf t s l) ↔ ∃ q : Nat, i = q ∧ q < t.ops.length ∧ Bef t s l (sp_hardest (srchOf t s l) (gt t.ops (q : Int)).pre) ∧ ∃ p ∈ (gt t.ops (q : Int)).add, InZone (srchOf t s l) p := by
 have hf := (taskOK_of h.valid).facts
 unfold cutOps
 rw [List.mem_filter, mem_allS]
 have key : ∀ q : Nat, q < t.ops.length → (leads (srchOf t s l) (sp_zone (srchOf t s l)) (sp_beforeZ (srchOf t s l) (sp_zone (srchOf t s l))) (q : Int) = true ↔ Bef t s l (sp_hardest (srchOf t s l) (gt t.ops (q : Int)).pre) ∧ ∃ p ∈ (gt t.ops (q : Int)).add, InZone (srchOf t s l) p) := fun q hq => by
  obtain ⟨r1, r2⟩ := h.prng hq
  have hh := hardest_rng (x := srchOf t s l) hf.1 r1
  unfold leads
  rw [Bool.and_eq_true, List.any_eq_true]
  constructor
  ·rintro ⟨h1, p, hp, h2⟩
   have hr := r2 p hp
   exact ⟨(before_iff (x := srchOf t s l) hf.1 hh.1 hh.2).1 h1, p, hp, (zone_iff (x := srchOf t s l) hf.1 hr.1 (Int.le_of_lt hr.2)).1 h2⟩
  ·rintro ⟨h1, p, hp, h2⟩
   have hr := r2 p hp
   exact ⟨(before_iff (x := srchOf t s l) hf.1 hh.1 hh.2).2 h1, p, hp, (zone_iff (x := srchOf t s l) hf.1 hr.1 (Int.le_of_lt hr.2)).2 h2⟩
 constructor
 ·rintro ⟨⟨h0, h1⟩, h2⟩
  have e : i = (i.toNat : Int) := by omega
  have h1' : i < (t.ops.length : Nat) := h1
  rw [e] at h2
  exact ⟨i.toNat, e, by omega, (key _ (by omega)).1 h2⟩
 ·rintro ⟨q, rfl, hq, h2⟩
  have : (q : Int) < (t.ops.length : Nat) := by omega
  exact ⟨⟨by omega, this⟩, (key q hq).2 h2⟩
theorem cut_pos (h : GoodL t s l) (hg : 0 < gval t s l) {i : Int} (hi : i ∈ cutOps (srchOf t s l)) : 0 < gt l i := by
 obtain ⟨q, rfl, hq, hb, p, hp, hz⟩ := (mem_cut h).1 hi
 refine Classical.byContradiction fun h0 => before_out h hg hb ?_
 exact InZone.step (x := srchOf t s l) q p hq h0 hp hz
open Classical in
theorem cut_ne (h : GoodL t s l) (hg : 0 < gval t s l) (hg2 : gval t s l ≠ 1000000000) : cutOps (srchOf t s l) ≠ [] := fun he => by
 have tk := taskOK_of h.valid
 have hf := tk.facts
 have hno : ∀ q : Nat, q < t.ops.length → Bef t s l (sp_hardest (srchOf t s l) (gt t.ops (q : Int)).pre) → ∀ p ∈ (gt t.ops (q : Int)).add, ¬ InZone (srchOf t s l) p := fun q hq hb p hp hz => by
  have : (q : Int) ∈ cutOps (srchOf t s l) := (mem_cut h).2 ⟨q, rfl, hq, hb, p, hp, hz⟩
  rw [he] at this; cases this
 have hw : ∀ p : Int, 0 ≤ p → p < t.facts → gt ((allS t.facts.toNat).map fun p => if Bef t s l p then gt (sp_valuesG t s l) p else 1000000000) p = if Bef t s l p then gt (sp_valuesG t s l) p else 1000000000 := fun p p0 p1 => gt_map_all _ _ _ p0 (by omega)
 generalize hwe : ((allS t.facts.toNat).map fun p => if Bef t s l p then gt (sp_valuesG t s l) p else 1000000000) = w at hw
 have hl : (w.length : Int) = t.facts := by rw [← hwe, List.length_map, allS_len]; omega
 have hvw : Vals w := fun y hy => by
  obtain ⟨i, hi, e⟩ := mem_gt hy
  rw [← e, hw i (by omega) (by omega)]
  split
  ·exact h.vrng (by omega) (by omega)
  ·omega
 have hle : ∀ p : Int, 0 ≤ p → p < t.facts → gt (sp_valuesG t s l) p ≤ gt w p := fun p p0 p1 => by
  rw [hw p p0 p1]
  have := h.vrng p0 p1
  split <;> omega
 have hb : IsBound sp_greatest t s l w := by
  refine ⟨hl, hvw, fun p hp => ?_, fun i hi p hp => ?_⟩
  ·have hr := set_rng h.set p hp
   rw [hw p hr.1 hr.2, if_pos (InBefore.start (x := srchOf t s l) p hp), h.val.bound.zero p hp]
  ·obtain ⟨r1, r2⟩ := h.prng hi
   have hc := h.cost hi
   have hwr := comb_greatest.rng w (gt t.ops (i : Int)).pre hvw fun q hq => ⟨(r1 q hq).1, by rw [hl]; exact (r1 q hq).2⟩
   by_cases q : Bef t s l (sp_hardest (srchOf t s l) (gt t.ops (i : Int)).pre)
   ·have hnz := hno i hi q p hp
    have hzf : gt (sp_zone (srchOf t s l)) p = false := by
     cases e : gt (sp_zone (srchOf t s l)) p with
     | true => exact absurd ((zone_iff (x := srchOf t s l) hf.1 (r2 p hp).1 (Int.le_of_lt (r2 p hp).2)).1 e) hnz
     | false => rfl
    rw [hw p (r2 p hp).1 (r2 p hp).2, if_pos (InBefore.step (x := srchOf t s l) i p hi q hp hzf)]
    refine Int.le_trans (h.val.bound.step i hi p hp) (plus_mono ?_ hc.1 ?_ (Int.le_refl _) hwr.2 (by omega))
    ·exact (comb_greatest.rng _ _ h.val.bound.vals fun q hq => ⟨(r1 q hq).1, by rw [h.vlen]; exact (r1 q hq).2⟩).1
    ·exact comb_greatest.mono _ _ _ h.val.bound.vals hvw fun q hq => ⟨⟨(r1 q hq).1, by rw [h.vlen]; exact (r1 q hq).2⟩, ⟨(r1 q hq).1, by rw [hl]; exact (r1 q hq).2⟩, hle q (r1 q hq).1 (r1 q hq).2⟩
   ·have hm : sp_hardest (srchOf t s l) (gt t.ops (i : Int)).pre ∈ (gt t.ops (i : Int)).pre := (hardest_cases (srchOf t s l) _).resolve_left fun e => q (by rw [e]; exact .top)
    have h1 := le_greatest (v := w) hm
    rw [hw _ (r1 _ hm).1 (r1 _ hm).2, if_neg q] at h1
    have h2 : sp_plus (sp_greatest w (gt t.ops (i : Int)).pre) (gt l (i : Int)) = 1000000000 := by
     unfold sp_plus
     rw [if_pos (.inl (by omega))]
    rw [h2]
    exact (gt_vals hvw ⟨(r2 p hp).1, by rw [hl]; exact (r2 p hp).2⟩).2
 have hgr := set_rng tk.goal
 have hh := h.hard hgr
 have hm : sp_hardest (srchOf t s l) t.goal ∈ t.goal := (hardest_cases (srchOf t s l) _).resolve_left fun e => by
  rw [e] at hh
  have h2 := h.top
  have h3 : gt (srchOf t s l).value t.facts = gval t s l := hh
  omega
 have hr := hgr _ hm
 have hnb : ¬ Bef t s l (sp_hardest (srchOf t s l) t.goal) := fun hb => before_out h hg hb InZone.goal
 have h1 := h.val.top w hb _ hr.1 hr.2
 rw [hw _ hr.1 hr.2, if_neg hnb, ← h.at_ hr.1 hr.2, hh] at h1
 have h2 := h.grng
 have h3 : 1000000000 ≤ gval t s l := h1
 omega
theorem cheapest_spec (l : List Int) : ∀ (ops : List Int) (c : Int), ops.foldl (fun c i => if gt l i < c then gt l i else c) c ≤ c ∧ (∀ i ∈ ops, ops.foldl (fun c i => if gt l i < c then gt l i else c) c ≤ gt l i) ∧ (ops.foldl (fun c i => if gt l i < c then gt l i else c) c = c ∨ ∃ i ∈ ops, ops.foldl (fun c i => if gt l i < c then gt l i else c) c = gt l i)
 | [], c => ⟨Int.le_refl _, fun _ h => absurd h (by simp), .inl rfl⟩
 | i :: r, c => by
  obtain ⟨h1, h2, h3⟩ := cheapest_spec l r (if gt l i < c then gt l i else c)
  rw [List.foldl_cons]
  have hm : (if gt l i < c then gt l i else c) ≤ c ∧ (if gt l i < c then gt l i else c) ≤ gt l i := by split <;> omega
  refine ⟨by omega, fun q hq => ?_, ?_⟩
  ·rcases List.mem_cons.1 hq with e | e
   ·rw [e]; omega
   ·exact h2 q e
  ·rcases h3 with e | ⟨q, hq, e⟩
   ·rw [e]
    split
    ·exact .inr ⟨i, List.mem_cons_self .., rfl⟩
    ·exact .inl rfl
   ·exact .inr ⟨q, List.mem_cons_of_mem _ hq, e⟩
theorem cut_cost (h : GoodL t s l) (hg : 0 < gval t s l) (hg2 : gval t s l ≠ 1000000000) : 0 < cutCost (srchOf t s l) ∧ cutCost (srchOf t s l) ≤ 100 ∧ ∀ i ∈ cutOps (srchOf t s l), cutCost (srchOf t s l) ≤ gt l i := by
 obtain ⟨h1, h2, h3⟩ := cheapest_spec l (cutOps (srchOf t s l)) 1000000000
 have hc : cutCost (srchOf t s l) = (cutOps (srchOf t s l)).foldl (fun c i => if gt l i < c then gt l i else c) 1000000000 := rfl
 rw [hc]
 obtain ⟨i, hi⟩ := List.exists_mem_of_ne_nil _ (cut_ne h hg hg2)
 have h4 := h2 i hi
 obtain ⟨q, rfl, hq, _⟩ := (mem_cut h).1 hi
 have h5 := h.cost hq
 refine ⟨?_, by omega, h2⟩
 rcases h3 with e | ⟨j, hj, e⟩
 ·omega
 ·rw [e]; exact cut_pos h hg hj
theorem bsum_drop : ∀ (a b : List Int), a.length = b.length → (∀ i (h1 : i < a.length) (h2 : i < b.length), 0 ≤ a[i] ∧ a[i] ≤ b[i]) → bsum a ≤ bsum b ∧ ∀ j (h1 : j < a.length) (h2 : j < b.length) (c : Int), a[j] + c ≤ b[j] → bsum a + c.toNat ≤ bsum b
 | [], [], _, _ => ⟨Nat.le_refl _, fun _ h => absurd h (Nat.not_lt_zero _)⟩
 | [], _ :: _, h, _ => absurd h (by simp)
 | _ :: _, [], h, _ => absurd h (by simp)
 | x :: a, y :: b, hl, h => by
  obtain ⟨i1, i2⟩ := bsum_drop a b (by simpa using hl) fun i h1 h2 => by have := h (i + 1) (by simpa using h1) (by simpa using h2); simpa using this
  have h0 := h 0 (by simp) (by simp)
  simp only [List.getElem_cons_zero] at h0
  simp only [bsum, List.map_cons, List.sum_cons] at i1 i2 ⊢
  refine ⟨by omega, fun j h1 h2 c hc => ?_⟩
  cases j with
  | zero =>
   simp only [List.getElem_cons_zero] at hc
   omega
  | succ j =>
   simp only [List.getElem_cons_succ] at hc
   have := i2 j (by simpa using h1) (by simpa using h2) c hc
   omega
theorem cut_at (_h : GoodL t s l) {i : Nat} (hi : i < t.ops.length) : gt (cutRest (srchOf t s l)) (i : Int) = if (i : Int) ∈ cutOps (srchOf t s l) then gt l (i : Int) - cutCost (srchOf t s l) else gt l (i : Int) := by
 unfold cutRest
 exact (gt_map_all _ (srchOf t s l).t.ops.length _ (by omega) (show (i : Int) < (t.ops.length : Nat) by omega)).trans rfl
theorem cut_len : (cutRest (srchOf t s l)).length = t.ops.length := by
 unfold cutRest
 rw [List.length_map, allS_len]
 rfl
theorem cut_good (h : GoodL t s l) (hg : 0 < gval t s l) (hg2 : gval t s l ≠ 1000000000) : GoodL t s (cutRest (srchOf t s l)) ∧ bsum (cutRest (srchOf t s l)) + (cutCost (srchOf t s l)).toNat ≤ bsum l := by
 obtain ⟨c0, c1, c2⟩ := cut_cost h hg hg2
 have hr : ∀ i : Nat, i < t.ops.length → 0 ≤ gt (cutRest (srchOf t s l)) (i : Int) ∧ gt (cutRest (srchOf t s l)) (i : Int) ≤ gt l (i : Int) := fun i hi => by
  rw [cut_at h hi]
  have := h.cost hi
  split
  ·rename_i hm
   have := c2 _ hm
   omega
  ·omega
 refine ⟨⟨h.valid, h.set, cut_len, fun c hc => ?_⟩, ?_⟩
 ·obtain ⟨i, hi, e⟩ := mem_gt hc
  rw [cut_len] at hi
  have h1 := hr i hi
  have h2 := h.cost hi
  rw [e] at h1
  omega
 ·obtain ⟨i, hi⟩ := List.exists_mem_of_ne_nil _ (cut_ne h hg hg2)
  obtain ⟨q, rfl, hq, _⟩ := (mem_cut h).1 hi
  have e1 := cut_at h hq
  rw [if_pos hi] at e1
  have l1 : q < (cutRest (srchOf t s l)).length := by rw [cut_len]; exact hq
  have l2 : q < l.length := by rw [h.len]; exact hq
  have gtn : ∀ {xs : List Int} {i : Nat} (hi : i < xs.length), gt xs (i : Int) = xs[i] := fun hi => by rw [gt_of ⟨by omega, by omega⟩]; simp
  refine (bsum_drop _ l (by rw [cut_len, h.len]) fun i h1 h2 => ?_).2 q l1 l2 _ ?_
  ·have := hr i (by rw [← h.len]; exact h2)
   rwa [gtn h1, gtn h2] at this
  ·rw [gtn l1, gtn l2] at e1
   omega
end Go.Proofs.YtimillpakjgnoaaGreat.Pl

