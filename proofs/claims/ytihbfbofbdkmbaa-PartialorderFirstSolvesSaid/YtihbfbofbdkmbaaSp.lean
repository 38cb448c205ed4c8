/- What the functions give, and what they ask. Plain data, plain Lean. No condition. -/
import Derived.Test.YtihbfbofbdkmbaaHp
import Derived.Lib.SlicesCompact
namespace Go.Proofs.Ytihbfbofbdkmbaa.Pl
open Go Go.RowKit
def sp_in_ (n lo hi : Int) : Bool := decide (lo ≤ n) && decide (n ≤ hi)
def sp_at_ (c i : Int) : Fault := ⟨c, i⟩
def sp_has (l : List Int) (x : Int) : Bool := decide (x ∈ l)
def pre_has (l : List Int) (_ : Int) : Prop := l.length ≤ 1000
def sp_numbers (a b : List Int) : Bool := decide (a = b)
def pre_numbers (a _ : List Int) : Prop := a.length ≤ 1000
def sp_index (l : List Int) (v : Int) : Int := if v ∈ l then l.idxOf v else -1
def pre_index (l : List Int) (_ : Int) : Prop := l.length ≤ 1000
def sp_contains (l : List Int) (v : Int) : Bool := decide (v ∈ l)
def sp_isNaN1 (_ : Int) : Bool := false
def sp_less (x y : Int) : Bool := decide (x < y)
def sp_bsearch (x : List Int) (t : Int) : Int × Bool := ((x.filter (fun a => decide (a < t))).length, decide (t ∈ x))
def pre_bsearch (x : List Int) (_ : Int) : Prop := x.Pairwise (· < ·) ∧ x.length ≤ 1000
def sp_any {α : Type} (xs : List α) (p : α → Bool) (_ : α → Prop) : Bool := xs.any p
def pre_any {α : Type} (xs : List α) (_ : α → Bool) (D : α → Prop) : Prop := xs.length ≤ 1000 ∧ ∀ x ∈ xs, D x
def sp_indexF {α : Type} (xs : List α) (p : α → Bool) (_ : α → Prop) : Int := if xs.any p then xs.findIdx p else -1
/-- strictly increasing numbers from 0 to n-1 -/
def sp_isSet (l : List Int) (n : Int) : Bool := decide (l.Pairwise (· < ·) ∧ ∀ x ∈ l, 0 ≤ x ∧ x < n)
def pre_isSet (_ : List Int) (n : Int) : Prop := 0 ≤ n ∧ n ≤ 1000
def sp_meets1 (x : Int) (b : List Int) : Bool := decide (x ∈ b)
def pre_meets1 (_ : Int) (b : List Int) : Prop := b.Pairwise (· < ·) ∧ b.length ≤ 1000
def sp_meets (a b : List Int) : Bool := a.any fun x => decide (x ∈ b)
def pre_meets (a b : List Int) : Prop := a.length ≤ 1000 ∧ b.Pairwise (· < ·) ∧ b.length ≤ 1000
def sp_disjoint (a b : List Int) : Bool := !sp_meets a b
def pre_disjoint (a b : List Int) : Prop := a.length ≤ 1000 ∧ b.length ≤ 1000
def sp_operator (o : Operator) (n : Int) : Int :=
  if sp_isSet o.pre n = true ∧ sp_isSet o.add n = true ∧ sp_isSet o.del n = true ∧ sp_meets o.add o.del = false then
    if 0 ≤ o.cost ∧ o.cost ≤ 100 then 0 else 3
  else 5
def pre_operator (_ : Operator) (n : Int) : Prop := 0 ≤ n ∧ n ≤ 1000
def opFault (t : Task) (i : Nat) : Fault := if sp_operator (gt t.ops i) t.facts = 0 then ⟨0, 0⟩ else ⟨sp_operator (gt t.ops i) t.facts, i⟩
def sp_validate (t : Task) : Fault :=
  if t.facts < 0 ∨ 24 < t.facts then ⟨3, -1⟩
  else if sp_isSet t.init t.facts = false then ⟨5, -2⟩
  else if sp_isSet t.goal t.facts = false then ⟨5, -3⟩
  else if 40 < t.ops.length then ⟨2, -1⟩
  else ffirst (opFault t) t.ops.length
def sp_steps (n : Int) (p : List Int) : Fault :=
  if 60 < p.length then ⟨2, -5⟩ else if (p.all fun x => decide (0 ≤ x ∧ x < n)) = true then ⟨0, 0⟩ else ⟨3, -6⟩
def pre_steps (n : Int) (_ : List Int) : Prop := 0 ≤ n ∧ n ≤ 1000
def sp_planFault (t : Task) (p : List Int) : Fault := if sp_validate t = ⟨0, 0⟩ then sp_steps t.ops.length p else sp_validate t
/-- step i may come after the listed ones -/
def sp_ready (before : List (Int × Int)) (done : List Int) (i : Int) : Bool := (before.all fun p => decide (p.2 = i → p.1 ∈ done)) && decide (i ∉ done)
def pre_ready (before : List (Int × Int)) (done : List Int) (_ : Int) : Prop := before.length ≤ 1000 ∧ done.length ≤ 1000
/-- the orders that begin with the listed steps -/
def ordersF (before : List (Int × Int)) (n : Nat) : Nat → List Int → List (List Int)
  | 0, done => [done]
  | k + 1, done => (List.range n).flatMap fun i : Nat => if sp_ready before done i = true then ordersF before n k (done ++ [(i : Int)]) else []
def sp_orders (n : Int) (before : List (Int × Int)) (done : List Int) : List (List Int) := ordersF before n.toNat (n.toNat - done.length) done
def mu_orders (n : Int) (_ : List (Int × Int)) (done : List Int) : Nat := n.toNat - done.length
def pre_orders (n : Int) (before : List (Int × Int)) (done : List Int) : Prop := 0 ≤ n ∧ n ≤ 7 ∧ before.length ≤ 1000 ∧ (done.length : Int) ≤ n
def pairFault (n : Int) (before : List (Int × Int)) (i : Nat) : Fault :=
  if 0 ≤ (gt before i).1 ∧ (gt before i).1 < n ∧ 0 ≤ (gt before i).2 ∧ (gt before i).2 < n then ⟨0, 0⟩ else ⟨3, -9 - i⟩
def sp_orderFault (n : Int) (before : List (Int × Int)) : Fault :=
  if n < 0 ∨ 7 < n then ⟨2, -5⟩ else if 30 < before.length then ⟨2, -8⟩
  else if ffirst (pairFault n before) before.length ≠ ⟨0, 0⟩ then ffirst (pairFault n before) before.length
  else if sp_orders n before [] = [] then ⟨14, -8⟩ else ⟨0, 0⟩
/-- what comes before what, directly or through others -/
inductive Reach (before : List (Int × Int)) : Int → Int → Prop
  | one {a b : Int} : (a, b) ∈ before → Reach before a b
  | more {a b c : Int} : Reach before a b → (b, c) ∈ before → Reach before a c
def matB (n : Nat) (f : Nat → Nat → Bool) : List (List Bool) := (List.range n).map fun a => (List.range n).map fun b => f a b
open Classical in
noncomputable def reachB (before : List (Int × Int)) (a b : Nat) : Bool := decide (Reach before a b)
noncomputable def sp_closure (n : Int) (before : List (Int × Int)) : List (List Bool) × Bool :=
  if sp_orders n before [] = [] then ([], false) else (matB n.toNat (reachB before), true)
structure OrdOK (n : Int) (before : List (Int × Int)) : Prop where
  lo : 0 ≤ n
  hi : n ≤ 7
  len : before.length ≤ 30
  rng : ∀ p ∈ before, (0 ≤ p.1 ∧ p.1 < n) ∧ 0 ≤ p.2 ∧ p.2 < n
def pre_closure (n : Int) (before : List (Int × Int)) : Prop := OrdOK n before
def sp_pvalidate (t : Task) (steps : List Int) (before : List (Int × Int)) : Fault :=
  if sp_planFault t steps = ⟨0, 0⟩ then sp_orderFault steps.length before else sp_planFault t steps
def sp_first (n : Int) (before : List (Int × Int)) : List Int × Fault :=
  if sp_orderFault n before = ⟨0, 0⟩ then ((sp_orders n before []).headD [], ⟨0, 0⟩) else ([], sp_orderFault n before)
def sp_count (n : Int) (before : List (Int × Int)) : Int × Fault :=
  if sp_orderFault n before = ⟨0, 0⟩ then ((sp_orders n before []).length, ⟨0, 0⟩) else (0, sp_orderFault n before)
def sp_counted : Bool := true
/-- the steps -/
def allS (n : Nat) : List Int := (List.range n).map fun j : Nat => (j : Int)
def sp_subset (a b : List Int) : Bool := a.all fun x => decide (x ∈ b)
def pre_subset (a b : List Int) : Prop := a.length ≤ 1000 ∧ b.length ≤ 1000
def sp_applies (t : Task) (s : List Int) (op : Int) : Bool := sp_subset (gt t.ops op).pre s
def pre_applies (t : Task) (s : List Int) (op : Int) : Prop := sp_validate t = ⟨0, 0⟩ ∧ inb t.ops op ∧ s.length ≤ 1000
/-- the state after an operator, fact by fact -/
def sp_after (t : Task) (s : List Int) (op : Int) : List Int := (allS t.facts.toNat).filter fun p => decide (p ∈ (gt t.ops op).add ∨ (p ∈ s ∧ p ∉ (gt t.ops op).del))
def pre_after (t : Task) (s : List Int) (op : Int) : Prop := pre_applies t s op
def sp_ends (t : Task) : List Int → List Int → List Int × Bool
  | s, [] => (s, true)
  | s, op :: r => if sp_applies t s op = true then sp_ends t (sp_after t s op) r else ([], false)
def pre_ends (t : Task) (s plan : List Int) : Prop := sp_validate t = ⟨0, 0⟩ ∧ s.length ≤ 1000 ∧ plan.length ≤ 1000 ∧ ∀ op ∈ plan, inb t.ops op
def sp_rworks (t : Task) (s plan : List Int) : Bool := (sp_ends t s plan).2 && sp_subset t.goal (sp_ends t s plan).1
def pre_rworks (t : Task) (s plan : List Int) : Prop := pre_ends t s plan
def sp_rsolves (t : Task) (plan : List Int) : Bool := sp_rworks t t.init plan
def pre_rsolves (t : Task) (plan : List Int) : Prop := pre_ends t t.init plan
def sp_allWork (t : Task) (steps : List Int) (before : List (Int × Int)) : Bool := (sp_orders steps.length before []).all fun o => sp_rsolves t (o.map fun i => gt steps i)
def pre_allWork (t : Task) (steps : List Int) (before : List (Int × Int)) : Prop := sp_pvalidate t steps before = ⟨0, 0⟩
/-- a plan that is being checked -/
structure PlanOK (p : PPlan) : Prop where
  len : p.steps.length ≤ 7
  rows : p.order.length = p.steps.length
  row : ∀ a : Nat, a < p.steps.length → (gt p.order (a : Int)).length = p.steps.length
  ops : ∀ a : Nat, a < p.steps.length → inb p.t.ops (gt p.steps (a : Int))
  sets : ∀ a : Nat, a < p.steps.length → (gt p.t.ops (gt p.steps (a : Int))).add.length ≤ 1000 ∧ (gt p.t.ops (gt p.steps (a : Int))).del.length ≤ 1000
  init : p.t.init.length ≤ 1000
def sp_earlier (p : PPlan) (i j : Int) : Bool := decide (j = p.steps.length) || gt (gt p.order i) j
def pre_earlier (p : PPlan) (i j : Int) : Prop := PlanOK p ∧ (0 ≤ i ∧ i < p.steps.length) ∧ 0 ≤ j ∧ j ≤ p.steps.length
def sp_later (p : PPlan) (i j : Int) : Bool := decide (i = j) || (decide (j < p.steps.length) && gt (gt p.order j) i)
def pre_later (p : PPlan) (i j : Int) : Prop := pre_earlier p i j
def sp_adds (p : PPlan) (i f : Int) : Bool := decide (f ∈ (gt p.t.ops (gt p.steps i)).add)
def pre_adds (p : PPlan) (i _ : Int) : Prop := PlanOK p ∧ 0 ≤ i ∧ i < p.steps.length
def sp_deletes (p : PPlan) (i f : Int) : Bool := decide (f ∈ (gt p.t.ops (gt p.steps i)).del)
def cMade (p : PPlan) (f j : Int) (i : Nat) : Bool := decide ((i : Int) ≠ j) && (sp_earlier p i j && sp_adds p i f)
def cRep (p : PPlan) (f j : Int) (k w : Nat) : Bool := decide ((w : Int) ≠ j) && (sp_adds p w f && (gt (gt p.order (k : Int)) (w : Int) && sp_earlier p w j))
def cOne (p : PPlan) (f j : Int) (k : Nat) : Bool := !sp_deletes p k f || (sp_later p k j || (List.range p.steps.length).any (cRep p f j k))
/-- a fact is true before step j in all orders -/
def sp_certain (p : PPlan) (f j : Int) : Bool := (decide (f ∈ p.t.init) || (List.range p.steps.length).any (cMade p f j)) && (List.range p.steps.length).all (cOne p f j)
def pre_certain (p : PPlan) (_ j : Int) : Prop := PlanOK p ∧ 0 ≤ j ∧ j ≤ p.steps.length
def sp_pcheck1 (f : Int) (p : PPlan) (j : Int) : Bool := !sp_certain p f j
def pre_pcheck1 (f : Int) (p : PPlan) (j : Int) : Prop := pre_certain p f j
def sp_pcheck (t : Task) (steps : List Int) (before : List (Int × Int)) : Bool × Fault :=
  if sp_pvalidate t steps before = ⟨0, 0⟩ then (sp_allWork t steps before, ⟨0, 0⟩) else (false, sp_pvalidate t steps before)
def sp_lawCheck (_ : Task) (_ : List Int) (_ : List (Int × Int)) : Bool := true
def sp_lawMatches (_ : Task) (_ : List Int) (_ : Int) (_ : List (Int × Int)) : Bool := true
def sp_lawMore (_ : Task) (_ : List Int) (_ : List (Int × Int)) (_ : Int × Int) : Bool := true
def pre_lawMore (_ : Task) (_ : List Int) (before : List (Int × Int)) (_ : Int × Int) : Prop := before.length * 16 ≤ 140737488351232
def sp_sort (xs : List Int) : List Int := xs.mergeSort fun x y => decide (x ≤ y)
def pre_sort (xs : List Int) : Prop := xs.length ≤ 100000
def sp_compact (xs : List Int) : List Int := Lib.compact xs
def pre_compact (xs : List Int) : Prop := xs.length ≤ 100000
def sp_clone (s : List Int) : List Int := s
def pre_clone (s : List Int) : Prop := s.length ≤ 1000
def sp_update (s add del : List Int) : List Int := sp_compact (sp_sort (s.filter (fun x => decide (x ∉ del)) ++ add))
def pre_update (s add del : List Int) : Prop := s.length ≤ 1000 ∧ add.length ≤ 1000 ∧ pre_bsearch del 0
def sp_contains2 (s part : List Int) : Bool := sp_subset part s
def pre_contains2 (s part : List Int) : Prop := s.length ≤ 1000 ∧ part.length ≤ 1000 ∧ s.Pairwise (· < ·) ∧ part.Pairwise (· < ·)
def pre_next (t : Task) (s : List Int) (op : Int) : Prop := sp_validate t = ⟨0, 0⟩ ∧ inb t.ops op ∧ sp_isSet s t.facts = true
def pre_can (t : Task) (s : List Int) (op : Int) : Prop := pre_next t s op
/-- the states that a plan reaches -/
def sp_srun (t : Task) : List Int → List Int → List (List Int)
  | s, [] => [s]
  | s, op :: r => if sp_applies t s op = true then s :: sp_srun t (sp_after t s op) r else [s]
def pre_srun (t : Task) (s plan : List Int) : Prop := sp_validate t = ⟨0, 0⟩ ∧ sp_isSet s t.facts = true ∧ plan.length ≤ 1000 ∧ ∀ op ∈ plan, inb t.ops op
def pre_works (t : Task) (s plan : List Int) : Prop := pre_srun t s plan
def sp_solves (t : Task) (plan : List Int) : Bool × Fault := if sp_planFault t plan = ⟨0, 0⟩ then (sp_rsolves t plan, ⟨0, 0⟩) else (false, sp_planFault t plan)
def sp_interfere (t : Task) (a b : Int) : Bool :=
  sp_meets (gt t.ops a).add (gt t.ops b).pre || (sp_meets (gt t.ops a).del (gt t.ops b).pre || (sp_meets (gt t.ops b).add (gt t.ops a).pre || (sp_meets (gt t.ops b).del (gt t.ops a).pre || (sp_meets (gt t.ops a).add (gt t.ops b).del || sp_meets (gt t.ops a).del (gt t.ops b).add))))
def pre_interfere (t : Task) (a b : Int) : Prop := sp_validate t = ⟨0, 0⟩ ∧ inb t.ops a ∧ inb t.ops b
/-- the pairs (i, j), j from i + 1 to m - 1 -/
def pairRow (t : Task) (plan : List Int) (i m : Nat) : List (Int × Int) := ((List.range m).filter fun j => decide (i < j) && sp_interfere t (gt plan (i : Int)) (gt plan (j : Int))).map fun j : Nat => ((i : Int), (j : Int))
def sp_pairsOf (t : Task) (plan : List Int) : List (Int × Int) := (List.range plan.length).flatMap fun i => pairRow t plan i plan.length
def pre_pairsOf (t : Task) (plan : List Int) : Prop := sp_validate t = ⟨0, 0⟩ ∧ plan.length ≤ 7 ∧ ∀ op ∈ plan, inb t.ops op
def sp_deorder (t : Task) (plan : List Int) : List (Int × Int) × Fault :=
  if sp_planFault t plan = ⟨0, 0⟩ then
    if 7 < plan.length then ([], ⟨2, -5⟩) else if sp_rsolves t plan = true then (sp_pairsOf t plan, ⟨0, 0⟩) else ([], ⟨11, -8⟩)
  else ([], sp_planFault t plan)
def sp_twoInts (a b : List (Int × Int)) : Bool := decide (a = b)
def pre_twoInts (a _ : List (Int × Int)) : Prop := a.length ≤ 1000
def sp_lawFirst (_ : Task) (_ : List Int) (_ : List (Int × Int)) : Bool := true
def sp_lawDeorder (_ : Task) (_ : List Int) : Bool := true
def sp_lawDeorderW (_ : Task) (_ : List Int) : Bool := true
end Go.Proofs.Ytihbfbofbdkmbaa.Pl
