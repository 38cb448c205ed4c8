/- Plain data of the program, and what its functions give. No condition. -/
import Derived.Test.YtkcamohhjaibaaaPm
namespace Go.Proofs.Ytkcamohhjaibaaa.Pl
open Go Go.RowKit
structure Link where
  src : Int
  dst : Int
  low : Int
  high : Int
  deriving DecidableEq, Inhabited
structure Network where
  events : Int
  links : List Link
  deriving DecidableEq, Inhabited
structure Fault where
  code : Int
  index : Int
  deriving DecidableEq, Inhabited
structure Uncertain where
  network : Network
  contingent : List Link
  deriving DecidableEq, Inhabited
structure Place where
  base : Int
  low : Int
  high : Int
  deriving DecidableEq, Inhabited
instance : Flat Link := ⟨4, fun x => [.int .i64 x.src, .int .i64 x.dst, .int .i64 x.low, .int .i64 x.high], fun _ => rfl, fun x v hv => by
  simp only [List.mem_cons, List.not_mem_nil, or_false] at hv; rcases hv with rfl | rfl | rfl | rfl <;> rfl⟩
instance : Flat Place := ⟨3, fun x => [.int .i64 x.base, .int .i64 x.low, .int .i64 x.high], fun _ => rfl, fun x v hv => by
  simp only [List.mem_cons, List.not_mem_nil, or_false] at hv; rcases hv with rfl | rfl | rfl <;> rfl⟩
def sp_in_ (n lo hi : Int) : Bool := decide (lo ≤ n) && decide (n ≤ hi)
def sp_at_ (c i : Int) : Fault := ⟨c, i⟩
def sp_linkCode (l : Link) (n : Int) : Int :=
  if l.src < 0 ∨ n ≤ l.src ∨ l.dst < 0 ∨ n ≤ l.dst then 3
  else if l.low < -1000 ∨ 1000 < l.low ∨ l.high < -1000 ∨ 1000 < l.high then 3
  else if l.src = l.dst ∨ l.high < l.low then 5 else 0
def pre_rLinkCode (_ : Link) (n : Int) : Prop := 1 ≤ n ∧ n ≤ 10
/-- the first link that is wrong -/
def linksFault (n : Int) : List Link → Int → Fault
  | [], _ => ⟨0, 0⟩
  | l :: r, i => if sp_linkCode l n = 0 then linksFault n r (i + 1) else ⟨sp_linkCode l n, i⟩
def sp_validate (n : Network) : Fault :=
  if n.events < 1 ∨ 10 < n.events then ⟨3, -1⟩ else if 30 < n.links.length then ⟨2, -1⟩ else linksFault n.events n.links 0
def sp_any {α : Type} (xs : List α) (p : α → Bool) (_ : α → Prop) : Bool := xs.any p
def pre_any {α : Type} (xs : List α) (_ : α → Bool) (D : α → Prop) : Prop := xs.length ≤ 1000 ∧ ∀ x ∈ xs, D x
def sp_index {α : Type} (xs : List α) (p : α → Bool) (_ : α → Prop) : Int := if xs.any p then xs.findIdx p else -1
/-- networks whose bounds may be tightened -/
structure Okay (n : Network) : Prop where
  ev : 1 ≤ n.events ∧ n.events ≤ 10
  len : n.links.length ≤ 100
  src : ∀ l ∈ n.links, 0 ≤ l.src ∧ l.src < n.events
  dst : ∀ l ∈ n.links, 0 ≤ l.dst ∧ l.dst < n.events
  ne : ∀ l ∈ n.links, l.src ≠ l.dst
  low : ∀ l ∈ n.links, -3000 ≤ l.low ∧ l.low ≤ 3000
  high : ∀ l ∈ n.links, -3000 ≤ l.high ∧ l.high ≤ 3000
def sp_repeat (xs : List Int) (n : Int) : List Int := (List.replicate n.toNat xs).flatten
def pre_repeat (xs : List Int) (n : Int) : Prop := xs.length = 1 ∧ 1 ≤ n ∧ n ≤ 10
/-- a direct bound, with the links that are given -/
def dirStep (i j : Int) (d : Int) (l : Link) : Int :=
  let e := if l.src = i ∧ l.dst = j then min d l.high else d
  if l.src = j ∧ l.dst = i then min e (-l.low) else e
def dirL (ls : List Link) (i j : Int) : Int := ls.foldl (dirStep i j) (if i = j ∨ j = 0 then 0 else 1000000000)
def sp_direct (n : Network) (i j : Int) : Int := if i = j then 0 else dirL n.links i j
def pre_direct (n : Network) (_ _ : Int) : Prop := Okay n
def mat (N : Nat) (f : Nat → Nat → Int) : List (List Int) := (List.range N).map fun a => (List.range N).map fun b => f a b
def Wd (n : Network) (a b : Nat) : Int := dirL n.links a b
def sp_bounds (n : Network) : List (List Int) := mat n.events.toNat (Wd n)
def pre_bounds (n : Network) : Prop := Okay n
def sp_min_ (xs : List Int) : Int := xs.tail.foldl min (xs.headD 0)
def pre_min_ (xs : List Int) : Prop := xs ≠ [] ∧ xs.length ≤ 1000
def sp_tighten1 (xs : List Int) : Bool := decide (sp_min_ xs < -1000000)
def pre_tighten1 (xs : List Int) : Prop := pre_min_ xs
def sp_numbers (a b : List Int) : Bool := decide (a = b)
def pre_numbers (a _ : List Int) : Prop := a.length ≤ 1000
def sp_sets (a b : List (List Int)) : Bool := decide (a = b)
def pre_sets (a _ : List (List Int)) : Prop := a.length ≤ 1000 ∧ ∀ x ∈ a, x.length ≤ 1000
def sp_pair (low high : Int) : Network := ⟨2, [⟨0, 1, low, high⟩]⟩
def pre_tighten (n : Network) : Prop := Okay n
/-- the tightest bounds, or none where there is a closed walk of negative weight -/
def TightRel (n : Network) (r : List (List Int) × Bool) : Prop :=
  (∃ D, Tight n.events.toNat (Wd n) D ∧ r = (mat n.events.toNat D, true)) ∨ (Neg n.events.toNat (Wd n) ∧ r = ([], false))
open Classical in
noncomputable def sp_tighten (n : Network) : List (List Int) × Bool := if h : ∃ r, TightRel n r then Classical.choose h else ([], false)
noncomputable def sp_minimal (n : Network) : List (List Int) × Bool × Fault :=
  if sp_validate n = ⟨0, 0⟩ then ((sp_tighten n).1, (sp_tighten n).2, ⟨0, 0⟩) else ([], false, sp_validate n)
def sp_bounded : Bool := true
def sp_lawTriangle (_ : Network) (_ _ _ : Int) : Bool := true
def sp_mul64 (x y : Int) : Int × Int := (0, x * y)
def pre_mul64 (x y : Int) : Prop := 0 ≤ x ∧ x ≤ 1000 ∧ 0 ≤ y ∧ y ≤ 1000
def sp_fits1 (l : Link) (x : List Int) : Bool := decide (gt x l.dst - gt x l.src < l.low ∨ l.high < gt x l.dst - gt x l.src)
def pre_fits1 (l : Link) (x : List Int) : Prop := inb x l.dst ∧ inb x l.src ∧ ∀ t ∈ x, -1000000 ≤ t ∧ t ≤ 1000000
def sp_fits (n : Network) (times : List Int) : Bool := decide (gt times 0 = 0) && times.all (fun t => decide (0 ≤ t)) && !(n.links.any fun l => sp_fits1 l times)
def pre_fits (n : Network) (times : List Int) : Prop := sp_validate n = ⟨0, 0⟩ ∧ (times.length : Int) = n.events ∧ ∀ t ∈ times, -1000000 ≤ t ∧ t ≤ 1000000
/-- the first number out of its range -/
def timesFault : List Int → Int → Fault
  | [], _ => ⟨0, 0⟩
  | t :: r, i => if t < -1000000 ∨ 1000000 < t then ⟨3, -3 - i⟩ else timesFault r (i + 1)
def sp_respects (n : Network) (times : List Int) : Bool × Fault :=
  if sp_validate n = ⟨0, 0⟩ then
    if (times.length : Int) = n.events then
      if timesFault times 0 = ⟨0, 0⟩ then (sp_fits n times, ⟨0, 0⟩) else (false, timesFault times 0)
    else (false, ⟨9, -2⟩)
  else (false, sp_validate n)
noncomputable def sp_earliest (n : Network) : List Int × Bool × Fault :=
  if (sp_minimal n).2.1 = true then ((sp_minimal n).1.map (fun r => -(gt r 0)), true, (sp_minimal n).2.2) else ([], false, (sp_minimal n).2.2)
def sp_lawBoundsHold (_ : Network) (_ : List Int) (_ _ : Int) : Bool := true
def sp_lawEarliestIsLeast (_ : Network) (_ : List Int) : Bool := true
def sp_isSchedule (n : Network) (times : List Int) : Bool := sp_fits n times
def pre_isSchedule (n : Network) (times : List Int) : Prop := pre_fits n times
/-- the first event out of its range -/
def evFault (n : Int) : List Int → Int → Fault
  | [], _ => ⟨0, 0⟩
  | e :: r, i => if e < 0 ∨ n ≤ e then ⟨3, -3 - i⟩ else evFault n r (i + 1)
def cycNext (c : List Int) (t : Int) : Int := if t + 1 < c.length then gt c (t + 1) else gt c 0
/-- the direct bounds along the first steps of a cycle -/
def cycSum (n : Network) (c : List Int) : Nat → Int
  | 0 => 0
  | k + 1 => cycSum n c k + dirL n.links (gt c k) (cycNext c k)
def sp_negative (n : Network) (c : List Int) : Bool × Fault :=
  if sp_validate n = ⟨0, 0⟩ then
    if 2 ≤ c.length ∧ c.length ≤ 10 then
      if evFault n.events c 0 = ⟨0, 0⟩ then (decide (cycSum n c c.length < 0), ⟨0, 0⟩) else (false, evFault n.events c 0)
    else (false, ⟨9, -2⟩)
  else (false, sp_validate n)
def pre_tightest (n : Network) : Prop := Okay n
def sp_lawMatchesSpec (_ : Network) (_ _ : List Int) : Bool := true
def sp_lawMoreLinks (_ : Network) (_ : Link) (_ _ : Int) : Bool := true
def pre_lawMoreLinks (n : Network) (_ : Link) (_ _ : Int) : Prop := n.links.length * 32 ≤ 140737488351232
/-- the first fault among some that are numbered -/
def ffirst (f : Nat → Fault) (n : Nat) : Fault := match (List.range n).find? (fun i => decide (f i ≠ ⟨0, 0⟩)) with
  | some i => f i
  | none => ⟨0, 0⟩
def sp_uval1 (x k : Link) : Bool := decide (x.dst = k.dst)
def sp_uval2 (x k : Link) : Bool := decide (x.dst = k.src)
def contCode (u : Uncertain) (l : Link) : Int := if sp_linkCode l u.network.events = 0 ∧ (l.low < 1 ∨ l.dst = 0) then 5 else sp_linkCode l u.network.events
def contF1 (u : Uncertain) (i : Nat) : Fault :=
  if contCode u (gt u.contingent i) ≠ 0 then ⟨contCode u (gt u.contingent i), -3 - i⟩
  else if ((u.contingent.take i).any fun x => sp_uval1 x (gt u.contingent i)) = true then ⟨7, -3 - i⟩ else ⟨0, 0⟩
def contF2 (u : Uncertain) (i : Nat) : Fault := if (u.contingent.any fun x => sp_uval2 x (gt u.contingent i)) = true then ⟨8, -3 - i⟩ else ⟨0, 0⟩
def sp_uvalidate (u : Uncertain) : Fault :=
  if sp_validate u.network = ⟨0, 0⟩ then
    if u.contingent.length ≤ 3 then
      if ffirst (contF1 u) u.contingent.length = ⟨0, 0⟩ then ffirst (contF2 u) u.contingent.length else ffirst (contF1 u) u.contingent.length
    else ⟨2, -2⟩
  else sp_validate u.network
def durF (u : Uncertain) (d : List Int) (i : Nat) : Fault := if gt d i < (gt u.contingent i).low ∨ (gt u.contingent i).high < gt d i then ⟨3, -11 - i⟩ else ⟨0, 0⟩
def sp_check (u : Uncertain) (d : List Int) : Fault :=
  if sp_uvalidate u = ⟨0, 0⟩ then if d.length = u.contingent.length then ffirst (durF u d) d.length else ⟨9, -10⟩ else sp_uvalidate u
def sp_clone (s : List Link) : List Link := s
def pre_clone (s : List Link) : Prop := s.length ≤ 1000
def fixL (l : Link) (t : Int) : Link := ⟨l.src, l.dst, t, t⟩
def sp_with_ (u : Uncertain) (d : List Int) : Network := ⟨u.network.events, u.network.links ++ List.zipWith fixL u.contingent d⟩
def pre_with_ (u : Uncertain) (d : List Int) : Prop := u.network.links.length ≤ 30 ∧ u.contingent.length ≤ 3 ∧ d.length = u.contingent.length
def pre_fixed (u : Uncertain) (d : List Int) : Prop := pre_with_ u d
def sp_fix (u : Uncertain) (d : List Int) : Network × Fault :=
  if sp_check u d = ⟨0, 0⟩ then if 30 < (sp_with_ u d).links.length then (⟨0, []⟩, ⟨10, -1⟩) else (sp_with_ u d, ⟨0, 0⟩) else (⟨0, []⟩, sp_check u d)
def prodC : List Link → Int → Int
  | [], n => n
  | l :: r, n => if 1000 < n * (l.high - l.low + 1) then 1000 else prodC r (n * (l.high - l.low + 1))
def sp_choices (u : Uncertain) : Int := prodC u.contingent 1
def pre_choices (u : Uncertain) : Prop := u.contingent.length ≤ 3 ∧ ∀ l ∈ u.contingent, -1000 ≤ l.low ∧ l.low ≤ l.high ∧ l.high ≤ 1000
def choiceL : List Link → Int → List Int
  | [], _ => []
  | l :: r, k => (l.low + k % (l.high - l.low + 1)) :: choiceL r (k / (l.high - l.low + 1))
def sp_choice (u : Uncertain) (k : Int) : List Int := choiceL u.contingent k
def pre_choice (u : Uncertain) (k : Int) : Prop := pre_choices u ∧ 0 ≤ k ∧ k ≤ 1000
def InBox (u : Uncertain) (d : List Int) : Prop := d.length = u.contingent.length ∧ ∀ i : Nat, i < u.contingent.length → (gt u.contingent i).low ≤ gt d i ∧ gt d i ≤ (gt u.contingent i).high
def sp_extremes (_ : Uncertain) : Unit := ()
open Classical in
noncomputable def sp_weakFor (u : Uncertain) : Bool := decide (∀ d, InBox u d → (sp_tighten (sp_with_ u d)).2 = true)
def pre_weakFor (u : Uncertain) : Prop := sp_uvalidate u = ⟨0, 0⟩ ∧ sp_choices u ≤ 200
noncomputable def sp_weak (u : Uncertain) : Bool × Fault := if sp_uvalidate u = ⟨0, 0⟩ then (sp_weakFor u, ⟨0, 0⟩) else (false, sp_uvalidate u)
/-- where the time of an event comes from -/
def place (u : Uncertain) (e : Int) : Place := match u.contingent.find? (fun l => decide (l.dst = e)) with
  | some l => ⟨l.src, l.low, l.high⟩
  | none => ⟨e, 0, 0⟩
def sp_baseOf (u : Uncertain) (e : Int) : Int := (place u e).base
def pre_baseOf (u : Uncertain) (_ : Int) : Prop := u.contingent.length ≤ 3
def putL (out : List Int) (x : Link × Int) : List Int := out.set x.1.dst.toNat (gt out x.1.src + x.2)
def sp_outcome (u : Uncertain) (times d : List Int) : List Int := (u.contingent.zip d).foldl putL times
def pre_outcome (u : Uncertain) (times d : List Int) : Prop := sp_uvalidate u = ⟨0, 0⟩ ∧ (times.length : Int) = u.network.events ∧ d.length = u.contingent.length ∧ (∀ t ∈ times, -1 ≤ t ∧ t ≤ 200000) ∧ ∀ t ∈ d, -1000 ≤ t ∧ t ≤ 1000
def putP (out : List Place) (l : Link) : List Place := out.set l.dst.toNat ⟨l.src, l.low, l.high⟩
def sp_places (u : Uncertain) : List Place := u.contingent.foldl putP ((List.range u.network.events.toNat).map fun (i : Nat) => ⟨(i : Int), 0, 0⟩)
def pre_places (u : Uncertain) : Prop := sp_uvalidate u = ⟨0, 0⟩
def lowOf (u : Uncertain) (l : Link) : Int := l.low - (place u l.dst).low + (place u l.src).high
def highOf (u : Uncertain) (l : Link) : Int := l.high - (place u l.dst).high + (place u l.src).low
def strongL (u : Uncertain) : List Link → List Link → List Link × Bool
  | [], acc => (acc, true)
  | l :: r, acc =>
    if (place u l.src).base = (place u l.dst).base then if 0 < lowOf u l ∨ highOf u l < 0 then (acc, false) else strongL u r acc
    else if highOf u l < lowOf u l then (acc, false) else strongL u r (acc ++ [⟨(place u l.src).base, (place u l.dst).base, lowOf u l, highOf u l⟩])
def sp_strong_ (u : Uncertain) : Network × Bool := (⟨u.network.events, (strongL u u.network.links []).1⟩, (strongL u u.network.links []).2)
def pre_strong_ (u : Uncertain) : Prop := sp_uvalidate u = ⟨0, 0⟩
def strongOut (u : Uncertain) (d : List (List Int)) : List Int := (List.range u.network.events.toNat).map fun (i : Nat) => if (place u i).base = i then -(gt (gt d (i : Int)) 0) else -1
noncomputable def sp_strong (u : Uncertain) : List Int × Bool × Fault :=
  if sp_uvalidate u = ⟨0, 0⟩ then
    if (sp_strong_ u).2 = true then
      if (sp_tighten (sp_strong_ u).1).2 = true then (strongOut u (sp_tighten (sp_strong_ u).1).1, true, ⟨0, 0⟩) else ([], false, ⟨0, 0⟩)
    else ([], false, ⟨0, 0⟩)
  else ([], false, sp_uvalidate u)
noncomputable def sp_strongTimes (u : Uncertain) : List Int × Bool := ((sp_strong u).1, (sp_strong u).2.1)
def pre_strongTimes (u : Uncertain) : Prop := sp_uvalidate u = ⟨0, 0⟩ ∧ sp_choices u ≤ 200
noncomputable def sp_dispatch (u : Uncertain) (d : List Int) : List Int × Bool × Fault :=
  if sp_check u d = ⟨0, 0⟩ then if (sp_strong u).2.1 = true then (sp_outcome u (sp_strong u).1 d, true, (sp_strong u).2.2) else ([], false, (sp_strong u).2.2) else ([], false, sp_check u d)
def sp_net (a b : Network) : Bool := decide (a = b)
def pre_net (a _ : Network) : Prop := a.links.length ≤ 1000
def sp_awaited : Bool := true
def sp_lawStrongMatchesSpec (_ : Uncertain) : Bool := true
def sp_lawDispatchIsSteady (_ : Uncertain) (_ _ : List Int) : Bool := true
def sp_lawWeakMatchesSpec (_ : Uncertain) : Bool := true
def sp_lawStrongImpliesWeak (_ : Uncertain) : Bool := true
def sp_lawUncertainMatchesSpec (_ : Uncertain) (_ : List Int) : Bool := true
def sp_lawDispatchRespects (_ : Uncertain) (_ : List Int) : Bool := true
def sp_lawConsistentOrCycle (_ : Network) : Bool := true
def sp_reverse (s : List Int) : List Int := s.reverse
def pre_reverse (s : List Int) : Prop := s.length ≤ 1000
theorem sp_reverse_len (s : List Int) : (sp_reverse s).length = s.length := List.length_reverse
def sp_has (l : List Int) (x : Int) : Bool := decide (x ∈ l)
def pre_has (l : List Int) (_ : Int) : Prop := l.length ≤ 1000
/-- the search for a cycle: one pair of events -/
def relax1 (W : List (List Int)) (i j : Nat) (s : Int × List Int × List Int) : Int × List Int × List Int :=
  if i ≠ j ∧ gt (gt W i) j < 1000000000 ∧ gt s.2.1 i + gt (gt W i) j < gt s.2.1 j then ((j : Int), s.2.1.set j (gt s.2.1 i + gt (gt W i) j), s.2.2.set j (i : Int)) else s
def rowK (W : List (List Int)) (i : Nat) (s : Int × List Int × List Int) : Nat → Int × List Int × List Int
  | 0 => s
  | b + 1 => relax1 W i b (rowK W i s b)
def rndK (W : List (List Int)) (N : Nat) (s : Int × List Int × List Int) : Nat → Int × List Int × List Int
  | 0 => s
  | a + 1 => rowK W a (rndK W N s a) N
def rounds (W : List (List Int)) (N : Nat) : Nat → Int × List Int × List Int
  | 0 => (-1, List.replicate N 0, List.replicate N (-1))
  | r + 1 => rndK W N (-1, (rounds W N r).2.1, (rounds W N r).2.2) N
def fromK (f : List Int) (x : Int) : Nat → Int
  | 0 => x
  | k + 1 => gt f (fromK f x k)
/-- how many steps lead back -/
def backK (f : List Int) (x : Int) (N : Nat) : Nat := ((List.range N).find? fun k => decide (fromK f x (k + 1) = x)).getD 0 + 1
def sp_cycle (n : Network) : List Int × Bool × Fault :=
  if sp_validate n = ⟨0, 0⟩ then
    let s := rounds (sp_bounds n) n.events.toNat n.events.toNat
    if s.1 < 0 then ([], false, ⟨0, 0⟩)
    else
      let x := fromK s.2.2 s.1 n.events.toNat
      (((List.range (backK s.2.2 x n.events.toNat)).map fun k => fromK s.2.2 x k).reverse, true, ⟨0, 0⟩)
  else ([], false, sp_validate n)
end Go.Proofs.Ytkcamohhjaibaaa.Pl
