/- Plain data of the program, and what its functions give. No condition. -/
import Derived.Test.YtijicdmpidbacaaPm
namespace Go.Proofs.Ytijicdmpidbacaa.Pl
open Go Go.RowKit
structure Link where
  src : Int
  dst : Int
  low : Int
  high : Int
  deriving DecidableEq, Inhabited
structure Network where
  events : Int
  links : List Link
  deriving DecidableEq, Inhabited
structure Fault where
  code : Int
  index : Int
  deriving DecidableEq, Inhabited
structure Uncertain where
  network : Network
  contingent : List Link
  deriving DecidableEq, Inhabited
structure Place where
  base : Int
  low : Int
  high : Int
  deriving DecidableEq, Inhabited
instance : Flat Link := ⟨4, fun x => [.int .i64 x.src, .int .i64 x.dst, .int .i64 x.low, .int .i64 x.high], fun _ => rfl, fun x v hv => by
  simp only [List.mem_cons, List.not_mem_nil, or_false] at hv; rcases hv with rfl | rfl | rfl | rfl <;> rfl⟩
instance : Flat Place := ⟨3, fun x => [.int .i64 x.base, .int .i64 x.low, .int .i64 x.high], fun _ => rfl, fun x v hv => by
  simp only [List.mem_cons, List.not_mem_nil, or_false] at hv; rcases hv with rfl | rfl | rfl <;> rfl⟩
def sp_in_ (n lo hi : Int) : Bool := decide (lo ≤ n) && decide (n ≤ hi)
def sp_at_ (c i : Int) : Fault := ⟨c, i⟩
def sp_linkCode (l : Link) (n : Int) : Int :=
  if l.src < 0 ∨ n ≤ l.src ∨ l.dst < 0 ∨ n ≤ l.dst then 3
  else if l.low < -1000 ∨ 1000 < l.low ∨ l.high < -1000 ∨ 1000 < l.high then 3
  else if l.src = l.dst ∨ l.high < l.low then 5 else 0
def pre_rLinkCode (_ : Link) (n : Int) : Prop := 1 ≤ n ∧ n ≤ 10
/-- the first link that is wrong -/
def linksFault (n : Int) : List Link → Int → Fault
  | [], _ => ⟨0, 0⟩
  | l :: r, i => if sp_linkCode l n = 0 then linksFault n r (i + 1) else ⟨sp_linkCode l n, i⟩
def sp_validate (n : Network) : Fault :=
  if n.events < 1 ∨ 10 < n.events then ⟨3, -1⟩ else if 30 < n.links.length then ⟨2, -1⟩ else linksFault n.events n.links 0
def sp_any {α : Type} (xs : List α) (p : α → Bool) (_ : α → Prop) : Bool := xs.any p
def pre_any {α : Type} (xs : List α) (_ : α → Bool) (D : α → Prop) : Prop := xs.length ≤ 1000 ∧ ∀ x ∈ xs, D x
def sp_index {α : Type} (xs : List α) (p : α → Bool) (_ : α → Prop) : Int := if xs.any p then xs.findIdx p else -1
/-- networks whose bounds may be tightened -/
structure Okay (n : Network) : Prop where
  ev : 1 ≤ n.events ∧ n.events ≤ 10
  len : n.links.length ≤ 100
  src : ∀ l ∈ n.links, 0 ≤ l.src ∧ l.src < n.events
  dst : ∀ l ∈ n.links, 0 ≤ l.dst ∧ l.dst < n.events
  ne : ∀ l ∈ n.links, l.src ≠ l.dst
  low : ∀ l ∈ n.links, -3000 ≤ l.low ∧ l.low ≤ 3000
  high : ∀ l ∈ n.links, -3000 ≤ l.high ∧ l.high ≤ 3000
def sp_repeat (xs : List Int) (n : Int) : List Int := (List.replicate n.toNat xs).flatten
def pre_repeat (xs : List Int) (n : Int) : Prop := xs.length = 1 ∧ 1 ≤ n ∧ n ≤ 10
/-- a direct bound, with the links that are given -/
def dirStep (i j : Int) (d : Int) (l : Link) : Int :=
  let e := if l.src = i ∧ l.dst = j then min d l.high else d
  if l.src = j ∧ l.dst = i then min e (-l.low) else e
def dirL (ls : List Link) (i j : Int) : Int := ls.foldl (dirStep i j) (if i = j ∨ j = 0 then 0 else 1000000000)
def sp_direct (n : Network) (i j : Int) : Int := if i = j then 0 else dirL n.links i j
def pre_direct (n : Network) (_ _ : Int) : Prop := Okay n
def mat (N : Nat) (f : Nat → Nat → Int) : List (List Int) := (List.range N).map fun a => (List.range N).map fun b => f a b
def Wd (n : Network) (a b : Nat) : Int := dirL n.links a b
def sp_bounds (n : Network) : List (List Int) := mat n.events.toNat (Wd n)
def pre_bounds (n : Network) : Prop := Okay n
def sp_min_ (xs : List Int) : Int := xs.tail.foldl min (xs.headD 0)
def pre_min_ (xs : List Int) : Prop := xs ≠ [] ∧ xs.length ≤ 1000
def sp_tighten1 (xs : List Int) : Bool := decide (sp_min_ xs < -1000000)
def pre_tighten1 (xs : List Int) : Prop := pre_min_ xs
def sp_numbers (a b : List Int) : Bool := decide (a = b)
def pre_numbers (a _ : List Int) : Prop := a.length ≤ 1000
def sp_sets (a b : List (List Int)) : Bool := decide (a = b)
def pre_sets (a _ : List (List Int)) : Prop := a.length ≤ 1000 ∧ ∀ x ∈ a, x.length ≤ 1000
def sp_pair (low high : Int) : Network := ⟨2, [⟨0, 1, low, high⟩]⟩
def pre_tighten (n : Network) : Prop := Okay n
/-- the tightest bounds, or none where there is a closed walk of negative weight -/
def TightRel (n : Network) (r : List (List Int) × Bool) : Prop :=
  (∃ D, Tight n.events.toNat (Wd n) D ∧ r = (mat n.events.toNat D, true)) ∨ (Neg n.events.toNat (Wd n) ∧ r = ([], false))
open Classical in
noncomputable def sp_tighten (n : Network) : List (List Int) × Bool := if h : ∃ r, TightRel n r then Classical.choose h else ([], false)
noncomputable def sp_minimal (n : Network) : List (List Int) × Bool × Fault :=
  if sp_validate n = ⟨0, 0⟩ then ((sp_tighten n).1, (sp_tighten n).2, ⟨0, 0⟩) else ([], false, sp_validate n)
def sp_bounded : Bool := true
def sp_lawTriangle (_ : Network) (_ _ _ : Int) : Bool := true
def sp_mul64 (x y : Int) : Int × Int := (0, x * y)
def pre_mul64 (x y : Int) : Prop := 0 ≤ x ∧ x ≤ 1000 ∧ 0 ≤ y ∧ y ≤ 1000
def sp_fits1 (l : Link) (x : List Int) : Bool := decide (gt x l.dst - gt x l.src < l.low ∨ l.high < gt x l.dst - gt x l.src)
def pre_fits1 (l : Link) (x : List Int) : Prop := inb x l.dst ∧ inb x l.src ∧ ∀ t ∈ x, -1000000 ≤ t ∧ t ≤ 1000000
def sp_fits (n : Network) (times : List Int) : Bool := decide (gt times 0 = 0) && times.all (fun t => decide (0 ≤ t)) && !(n.links.any fun l => sp_fits1 l times)
def pre_fits (n : Network) (times : List Int) : Prop := sp_validate n = ⟨0, 0⟩ ∧ (times.length : Int) = n.events ∧ ∀ t ∈ times, -1000000 ≤ t ∧ t ≤ 1000000
/-- the first number out of its range -/
def timesFault : List Int → Int → Fault
  | [], _ => ⟨0, 0⟩
  | t :: r, i => if t < -1000000 ∨ 1000000 < t then ⟨3, -3 - i⟩ else timesFault r (i + 1)
def sp_respects (n : Network) (times : List Int) : Bool × Fault :=
  if sp_validate n = ⟨0, 0⟩ then
    if (times.length : Int) = n.events then
      if timesFault times 0 = ⟨0, 0⟩ then (sp_fits n times, ⟨0, 0⟩) else (false, timesFault times 0)
    else (false, ⟨9, -2⟩)
  else (false, sp_validate n)
noncomputable def sp_earliest (n : Network) : List Int × Bool × Fault :=
  if (sp_minimal n).2.1 = true then ((sp_minimal n).1.map (fun r => -(gt r 0)), true, (sp_minimal n).2.2) else ([], false, (sp_minimal n).2.2)
def sp_lawBoundsHold (_ : Network) (_ : List Int) (_ _ : Int) : Bool := true
def sp_lawEarliestIsLeast (_ : Network) (_ : List Int) : Bool := true
def sp_isSchedule (n : Network) (times : List Int) : Bool := sp_fits n times
def pre_isSchedule (n : Network) (times : List Int) : Prop := pre_fits n times
/-- the first event out of its range -/
def evFault (n : Int) : List Int → Int → Fault
  | [], _ => ⟨0, 0⟩
  | e :: r, i => if e < 0 ∨ n ≤ e then ⟨3, -3 - i⟩ else evFault n r (i + 1)
def cycNext (c : List Int) (t : Int) : Int := if t + 1 < c.length then gt c (t + 1) else gt c 0
/-- the direct bounds along the first steps of a cycle -/
def cycSum (n : Network) (c : List Int) : Nat → Int
  | 0 => 0
  | k + 1 => cycSum n c k + dirL n.links (gt c k) (cycNext c k)
def sp_negative (n : Network) (c : List Int) : Bool × Fault :=
  if sp_validate n = ⟨0, 0⟩ then
    if 2 ≤ c.length ∧ c.length ≤ 10 then
      if evFault n.events c 0 = ⟨0, 0⟩ then (decide (cycSum n c c.length < 0), ⟨0, 0⟩) else (false, evFault n.events c 0)
    else (false, ⟨9, -2⟩)
  else (false, sp_validate n)
def pre_tightest (n : Network) : Prop := Okay n
def sp_lawMatchesSpec (_ : Network) (_ _ : List Int) : Bool := true
def sp_lawMoreLinks (_ : Network) (_ : Link) (_ _ : Int) : Bool := true
def pre_lawMoreLinks (n : Network) (_ : Link) (_ _ : Int) : Prop := n.links.length * 32 ≤ 140737488351232
end Go.Proofs.Ytijicdmpidbacaa.Pl
