/- What the functions give, and what they ask. Plain data, plain Lean. No condition. -/
import Derived.Test.YtojoehfldbimpaaGreatDoorHp
import Derived.Lib.SlicesCompact
namespace Go.Proofs.YtojoehfldbimpaaGreatDoor.Pl
open Go Go.RowKit
def sp_in_ (n lo hi : Int) : Bool := decide (lo ≤ n) && decide (n ≤ hi)
def sp_at_ (c i : Int) : Fault := ⟨c, i⟩
def sp_has (l : List Int) (x : Int) : Bool := decide (x ∈ l)
def pre_has (l : List Int) (_ : Int) : Prop := l.length ≤ 1000
def sp_numbers (a b : List Int) : Bool := decide (a = b)
def pre_numbers (a _ : List Int) : Prop := a.length ≤ 1000
def sp_isNaN1 (_ : Int) : Bool := false
def sp_less (x y : Int) : Bool := decide (x < y)
def sp_bsearch (x : List Int) (t : Int) : Int × Bool := ((x.filter (fun a => decide (a < t))).length, decide (t ∈ x))
def pre_bsearch (x : List Int) (_ : Int) : Prop := x.Pairwise (· < ·) ∧ x.length ≤ 1000
def sp_any {α : Type} (xs : List α) (p : α → Bool) (_ : α → Prop) : Bool := xs.any p
def pre_any {α : Type} (xs : List α) (_ : α → Bool) (D : α → Prop) : Prop := xs.length ≤ 1000 ∧ ∀ x ∈ xs, D x
def sp_indexF {α : Type} (xs : List α) (p : α → Bool) (_ : α → Prop) : Int := if xs.any p then xs.findIdx p else -1
/-- strictly increasing numbers from 0 to n-1 -/
def sp_isSet (l : List Int) (n : Int) : Bool := decide (l.Pairwise (· < ·) ∧ ∀ x ∈ l, 0 ≤ x ∧ x < n)
def pre_isSet (_ : List Int) (n : Int) : Prop := 0 ≤ n ∧ n ≤ 1000
def sp_meets1 (x : Int) (b : List Int) : Bool := decide (x ∈ b)
def pre_meets1 (_ : Int) (b : List Int) : Prop := b.Pairwise (· < ·) ∧ b.length ≤ 1000
def sp_meets (a b : List Int) : Bool := a.any fun x => decide (x ∈ b)
def pre_meets (a b : List Int) : Prop := a.length ≤ 1000 ∧ b.Pairwise (· < ·) ∧ b.length ≤ 1000
def sp_disjoint (a b : List Int) : Bool := !sp_meets a b
def pre_disjoint (a b : List Int) : Prop := a.length ≤ 1000 ∧ b.length ≤ 1000
def sp_operator (o : Operator) (n : Int) : Int :=
  if sp_isSet o.pre n = true ∧ sp_isSet o.add n = true ∧ sp_isSet o.del n = true ∧ sp_meets o.add o.del = false then
    if 0 ≤ o.cost ∧ o.cost ≤ 100 then 0 else 3
  else 5
def pre_operator (_ : Operator) (n : Int) : Prop := 0 ≤ n ∧ n ≤ 1000
def opFault (t : Task) (i : Nat) : Fault := if sp_operator (gt t.ops i) t.facts = 0 then ⟨0, 0⟩ else ⟨sp_operator (gt t.ops i) t.facts, i⟩
def sp_validate (t : Task) : Fault :=
  if t.facts < 0 ∨ 24 < t.facts then ⟨3, -1⟩
  else if sp_isSet t.init t.facts = false then ⟨5, -2⟩
  else if sp_isSet t.goal t.facts = false then ⟨5, -3⟩
  else if 40 < t.ops.length then ⟨2, -1⟩
  else ffirst (opFault t) t.ops.length
def sp_steps (n : Int) (p : List Int) : Fault :=
  if 60 < p.length then ⟨2, -5⟩ else if (p.all fun x => decide (0 ≤ x ∧ x < n)) = true then ⟨0, 0⟩ else ⟨3, -6⟩
def pre_steps (n : Int) (_ : List Int) : Prop := 0 ≤ n ∧ n ≤ 1000
/-- the steps -/
def allS (n : Nat) : List Int := (List.range n).map fun j : Nat => (j : Int)
def sp_subset (a b : List Int) : Bool := a.all fun x => decide (x ∈ b)
def pre_subset (a b : List Int) : Prop := a.length ≤ 1000 ∧ b.length ≤ 1000
def sp_applies (t : Task) (s : List Int) (op : Int) : Bool := sp_subset (gt t.ops op).pre s
def pre_applies (t : Task) (s : List Int) (op : Int) : Prop := sp_validate t = ⟨0, 0⟩ ∧ inb t.ops op ∧ s.length ≤ 1000
/-- the state after an operator, fact by fact -/
def sp_after (t : Task) (s : List Int) (op : Int) : List Int := (allS t.facts.toNat).filter fun p => decide (p ∈ (gt t.ops op).add ∨ (p ∈ s ∧ p ∉ (gt t.ops op).del))
def pre_after (t : Task) (s : List Int) (op : Int) : Prop := pre_applies t s op
def sp_ends (t : Task) : List Int → List Int → List Int × Bool
  | s, [] => (s, true)
  | s, op :: r => if sp_applies t s op = true then sp_ends t (sp_after t s op) r else ([], false)
def pre_ends (t : Task) (s plan : List Int) : Prop := sp_validate t = ⟨0, 0⟩ ∧ s.length ≤ 1000 ∧ plan.length ≤ 1000 ∧ ∀ op ∈ plan, inb t.ops op
def sp_rworks (t : Task) (s plan : List Int) : Bool := (sp_ends t s plan).2 && sp_subset t.goal (sp_ends t s plan).1
def pre_rworks (t : Task) (s plan : List Int) : Prop := pre_ends t s plan
def sp_sort (xs : List Int) : List Int := xs.mergeSort fun x y => decide (x ≤ y)
def pre_sort (xs : List Int) : Prop := xs.length ≤ 100000
def sp_compact (xs : List Int) : List Int := Lib.compact xs
def pre_compact (xs : List Int) : Prop := xs.length ≤ 100000
def sp_clone (s : List Int) : List Int := s
def pre_clone (s : List Int) : Prop := s.length ≤ 1000
def sp_update (s add del : List Int) : List Int := sp_compact (sp_sort (s.filter (fun x => decide (x ∉ del)) ++ add))
def pre_update (s add del : List Int) : Prop := s.length ≤ 1000 ∧ add.length ≤ 1000 ∧ pre_bsearch del 0
def sp_contains2 (s part : List Int) : Bool := sp_subset part s
def pre_contains2 (s part : List Int) : Prop := s.length ≤ 1000 ∧ part.length ≤ 1000 ∧ s.Pairwise (· < ·) ∧ part.Pairwise (· < ·)
def pre_next (t : Task) (s : List Int) (op : Int) : Prop := sp_validate t = ⟨0, 0⟩ ∧ inb t.ops op ∧ sp_isSet s t.facts = true
def pre_can (t : Task) (s : List Int) (op : Int) : Prop := pre_next t s op
/-- the states that a plan reaches -/
def sp_srun (t : Task) : List Int → List Int → List (List Int)
  | s, [] => [s]
  | s, op :: r => if sp_applies t s op = true then s :: sp_srun t (sp_after t s op) r else [s]
def pre_srun (t : Task) (s plan : List Int) : Prop := sp_validate t = ⟨0, 0⟩ ∧ sp_isSet s t.facts = true ∧ plan.length ≤ 1000 ∧ ∀ op ∈ plan, inb t.ops op
def pre_works (t : Task) (s plan : List Int) : Prop := pre_srun t s plan
end Go.Proofs.YtojoehfldbimpaaGreatDoor.Pl

