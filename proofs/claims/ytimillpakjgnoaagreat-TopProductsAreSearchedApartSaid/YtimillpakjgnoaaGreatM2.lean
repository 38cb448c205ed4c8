import Derived.Test.YtimillpakjgnoaaGreatM1
import Derived.Lib.SlicesCompact
import Derived.Test.YtimillpakjgnoaaGreatRows
import Derived.ChangeKeysEq
import Derived.Laws.Bits64
import Derived.Shelf.Sort.Plain
import Derived.Shelf.Slices.In.SortNone
import Derived.Shelf.Slices.CompactI
import Derived.Lib.RowBridge
import Derived.Ground.Names2Prog
namespace Go.Proofs.YtimillpakjgnoaaGreat.Pl
open Go Go.RowKit
structure Operator where
 pre : List Int
 add : List Int
 del : List Int
 cost : Int
 deriving DecidableEq, Inhabited
instance : Rep Operator := ⟨4, fun h x cs => ∃ (a0 : Option Addr) (c0 : Nat) (a1 : Option Addr) (c1 : Nat) (a2 : Option Addr) (c2 : Nat), cs = [.slice a0 x.pre.length c0, .slice a1 x.add.length c1, .slice a2 x.del.length c2, .int .i64 x.cost] ∧ (x.pre.length ≤ c0 ∧ RSl h a0 x.pre) ∧ (x.add.length ≤ c1 ∧ RSl h a1 x.add) ∧ (x.del.length ≤ c2 ∧ RSl h a2 x.del),
 fun ⟨_, _, _, _, _, _, e, _⟩ => by rw [e]; rfl,
 fun hl ⟨a0, c0, a1, c1, a2, c2, e, ⟨l0, r0⟩, ⟨l1, r1⟩, l2, r2⟩ => ⟨a0, c0, a1, c1, a2, c2, e, ⟨l0, r0.mono hl⟩, ⟨l1, r1.mono hl⟩, l2, r2.mono hl⟩,
 fun ⟨_, _, _, _, _, _, e, _⟩ v hv => by
  rw [e] at hv
  simp only [List.mem_cons, List.not_mem_nil, or_false] at hv
  rcases hv with rfl | rfl | rfl | rfl <;> rfl⟩
structure Task where
 facts : Int
 init : List Int
 goal : List Int
 ops : List Operator
 deriving DecidableEq, Inhabited
instance : Rep Task := ⟨4, fun h x cs => ∃ (a0 : Option Addr) (c0 : Nat) (a1 : Option Addr) (c1 : Nat) (a2 : Option Addr) (c2 : Nat), cs = [.int .i64 x.facts, .slice a0 x.init.length c0, .slice a1 x.goal.length c1, .slice a2 x.ops.length c2] ∧ (x.init.length ≤ c0 ∧ RSl h a0 x.init) ∧ (x.goal.length ≤ c1 ∧ RSl h a1 x.goal) ∧ (x.ops.length ≤ c2 ∧ RSl h a2 x.ops),
 fun ⟨_, _, _, _, _, _, e, _⟩ => by rw [e]; rfl,
 fun hl ⟨a0, c0, a1, c1, a2, c2, e, ⟨l0, r0⟩, ⟨l1, r1⟩, l2, r2⟩ => ⟨a0, c0, a1, c1, a2, c2, e, ⟨l0, r0.mono hl⟩, ⟨l1, r1.mono hl⟩, l2, r2.mono hl⟩,
 fun ⟨_, _, _, _, _, _, e, _⟩ v hv => by
  rw [e] at hv
  simp only [List.mem_cons, List.not_mem_nil, or_false] at hv
  rcases hv with rfl | rfl | rfl | rfl <;> rfl⟩
structure Fault where
 code : Int
 index : Int
 deriving DecidableEq, Inhabited
instance : Flat Fault := ⟨2, fun x => [.int .i64 x.code, .int .i64 x.index], fun _ => rfl, fun x v hv => by
 simp only [List.mem_cons, List.not_mem_nil, or_false] at hv; rcases hv with rfl | rfl <;> rfl⟩
structure Masks where
 pre : Int
 add : Int
 del : Int
 cost : Int
 deriving DecidableEq, Inhabited
instance : Flat Masks := ⟨4, fun x => [.int .u32 x.pre, .int .u32 x.add, .int .u32 x.del, .int .i64 x.cost], fun _ => rfl, fun x v hv => by
 simp only [List.mem_cons, List.not_mem_nil, or_false] at hv; rcases hv with rfl | rfl | rfl | rfl <;> rfl⟩
structure WordsT where
 start : Int
 goal : Int
 ops : List Masks
 deriving DecidableEq, Inhabited
instance : Rep WordsT := ⟨3, fun h x cs => ∃ (a0 : Option Addr) (c0 : Nat), cs = [.int .u32 x.start, .int .u32 x.goal, .slice a0 x.ops.length c0] ∧ (x.ops.length ≤ c0 ∧ RSl h a0 x.ops),
 fun ⟨_, _, e, _⟩ => by rw [e]; rfl,
 fun hl ⟨a0, c0, e, l0, r0⟩ => ⟨a0, c0, e, l0, r0.mono hl⟩,
 fun ⟨_, _, e, _⟩ v hv => by
  rw [e] at hv
  simp only [List.mem_cons, List.not_mem_nil, or_false] at hv
  rcases hv with rfl | rfl | rfl <;> rfl⟩
structure StepT where
 op : Int
 cost : Int
 to_ : Int
 deriving DecidableEq, Inhabited
instance : Flat StepT := ⟨3, fun x => [.int .i64 x.op, .int .i64 x.cost, .int .u32 x.to_], fun _ => rfl, fun x v hv => by
 simp only [List.mem_cons, List.not_mem_nil, or_false] at hv; rcases hv with rfl | rfl | rfl <;> rfl⟩
structure Cut where
 operators : List Int
 cost : Int
 deriving DecidableEq, Inhabited
instance : Rep Cut := ⟨2, fun h x cs => ∃ (a0 : Option Addr) (c0 : Nat), cs = [.slice a0 x.operators.length c0, .int .i64 x.cost] ∧ (x.operators.length ≤ c0 ∧ RSl h a0 x.operators),
 fun ⟨_, _, e, _⟩ => by rw [e]; rfl,
 fun hl ⟨a0, c0, e, l0, r0⟩ => ⟨a0, c0, e, l0, r0.mono hl⟩,
 fun ⟨_, _, e, _⟩ v hv => by
  rw [e] at hv
  simp only [List.mem_cons, List.not_mem_nil, or_false] at hv
  rcases hv with rfl | rfl <;> rfl⟩
structure SearchT where
 t : Task
 s : List Int
 costs : List Int
 value : List Int
 deriving DecidableEq, Inhabited
instance : Rep SearchT := ⟨7, fun h x cs => ∃ (a0 : Option Addr) (c0 : Nat) (a1 : Option Addr) (c1 : Nat) (a2 : Option Addr) (c2 : Nat) (a3 : Option Addr) (c3 : Nat) (a4 : Option Addr) (c4 : Nat) (a5 : Option Addr) (c5 : Nat), cs = [.int .i64 x.t.facts, .slice a0 x.t.init.length c0, .slice a1 x.t.goal.length c1, .slice a2 x.t.ops.length c2, .slice a3 x.s.length c3, .slice a4 x.costs.length c4, .slice a5 x.value.length c5] ∧ (x.t.init.length ≤ c0 ∧ RSl h a0 x.t.init) ∧ (x.t.goal.length ≤ c1 ∧ RSl h a1 x.t.goal) ∧ (x.t.ops.length ≤ c2 ∧ RSl h a2 x.t.ops) ∧ (x.s.length ≤ c3 ∧ RSl h a3 x.s) ∧ (x.costs.length ≤ c4 ∧ RSl h a4 x.costs) ∧ (x.value.length ≤ c5 ∧ RSl h a5 x.value),
 fun ⟨_, _, _, _, _, _, _, _, _, _, _, _, e, _⟩ => by rw [e]; rfl,
 fun hl ⟨a0, c0, a1, c1, a2, c2, a3, c3, a4, c4, a5, c5, e, ⟨l0, r0⟩, ⟨l1, r1⟩, ⟨l2, r2⟩, ⟨l3, r3⟩, ⟨l4, r4⟩, l5, r5⟩ => ⟨a0, c0, a1, c1, a2, c2, a3, c3, a4, c4, a5, c5, e, ⟨l0, r0.mono hl⟩, ⟨l1, r1.mono hl⟩, ⟨l2, r2.mono hl⟩, ⟨l3, r3.mono hl⟩, ⟨l4, r4.mono hl⟩, l5, r5.mono hl⟩,
 fun ⟨_, _, _, _, _, _, _, _, _, _, _, _, e, _⟩ v hv => by
  rw [e] at hv
  simp only [List.mem_cons, List.not_mem_nil, or_false] at hv
  rcases hv with rfl | rfl | rfl | rfl | rfl | rfl | rfl <;> rfl⟩
structure QEnt where
 item : Int
 key : Int
 time : Int
 at_ : Int
 deriving DecidableEq, Inhabited
instance : Flat QEnt := ⟨4, fun x => [.int .u32 x.item, .int .i64 x.key, .int .i64 x.time, .int .i64 x.at_], fun _ => rfl, fun x v hv => by
 simp only [List.mem_cons, List.not_mem_nil, or_false] at hv; rcases hv with rfl | rfl | rfl | rfl <;> rfl⟩
structure Arc where
 from_ : Int
 cost : Int
 deriving DecidableEq, Inhabited
instance : Flat Arc := ⟨2, fun x => [.int .u32 x.from_, .int .i64 x.cost], fun _ => rfl, fun x v hv => by
 simp only [List.mem_cons, List.not_mem_nil, or_false] at hv; rcases hv with rfl | rfl <;> rfl⟩
structure Node where
 state : List Int
 cost : Int
 parent : Int
 op : Int
 deriving DecidableEq, Inhabited
instance : Rep Node := ⟨4, fun h x cs => ∃ (a0 : Option Addr) (c0 : Nat), cs = [.slice a0 x.state.length c0, .int .i64 x.cost, .int .i64 x.parent, .int .i64 x.op] ∧ (x.state.length ≤ c0 ∧ RSl h a0 x.state),
 fun ⟨_, _, e, _⟩ => by rw [e]; rfl,
 fun hl ⟨a0, c0, e, l0, r0⟩ => ⟨a0, c0, e, l0, r0.mono hl⟩,
 fun ⟨_, _, e, _⟩ v hv => by
  rw [e] at hv
  simp only [List.mem_cons, List.not_mem_nil, or_false] at hv
  rcases hv with rfl | rfl | rfl | rfl <;> rfl⟩
structure SResult where
 found : Bool
 plan : List Int
 cost : Int
 expanded : Int
 deriving DecidableEq, Inhabited
instance : Rep SResult := ⟨4, fun h x cs => ∃ (a0 : Option Addr) (c0 : Nat), cs = [.bool x.found, .slice a0 x.plan.length c0, .int .i64 x.cost, .int .i64 x.expanded] ∧ (x.plan.length ≤ c0 ∧ RSl h a0 x.plan),
 fun ⟨_, _, e, _⟩ => by rw [e]; rfl,
 fun hl ⟨a0, c0, e, l0, r0⟩ => ⟨a0, c0, e, l0, r0.mono hl⟩,
 fun ⟨_, _, e, _⟩ v hv => by
  rw [e] at hv
  simp only [List.mem_cons, List.not_mem_nil, or_false] at hv
  rcases hv with rfl | rfl | rfl | rfl <;> rfl⟩
end Go.Proofs.YtimillpakjgnoaaGreat.Pl

namespace Go.Proofs.YtimillpakjgnoaaGreat.Pl
open Go Go.RowKit
theorem w64 {n : Int} (h : -9223372036854775808 ≤ n ∧ n ≤ 9223372036854775807) : IntKind.i64.wrap n = n := by rw [IntKind.wrap_i64]; omega
theorem gt_of {α : Type} [Inhabited α] {xs : List α} {i : Int} (h : inb xs i) : gt xs i = xs[i.toNat]'(inb_lt h) := by
 have := inb_lt h
 simp [gt, this]
theorem drop_gt {α : Type} [Inhabited α] {xs : List α} {i : Int} (h : inb xs i) : xs.drop i.toNat = gt xs i :: xs.drop (i + 1).toNat := by
 have h1 := inb_lt h
 have h2 : (i + 1).toNat = i.toNat + 1 := by have := h.1; omega
 rw [gt_of h, h2, List.drop_eq_getElem_cons h1]
theorem gt_mem {α : Type} [Inhabited α] {xs : List α} {i : Int} (h : inb xs i) : gt xs i ∈ xs := by rw [gt_of h]; exact List.getElem_mem _
theorem take_gt {α : Type} [Inhabited α] {xs : List α} {i : Int} (h : inb xs i) : xs.take (i + 1).toNat = xs.take i.toNat ++ [gt xs i] := by
 have h1 := inb_lt h
 have h2 : (i + 1).toNat = i.toNat + 1 := by have := h.1; omega
 rw [gt_of h, h2, List.take_succ_eq_append_getElem h1]
theorem gt_memN {α : Type} [Inhabited α] {xs : List α} {i : Nat} (h : i < xs.length) : gt xs (i : Int) ∈ xs := gt_mem ⟨by omega, by omega⟩
theorem mem_gt {α : Type} [Inhabited α] {xs : List α} {x : α} (h : x ∈ xs) : ∃ i : Nat, i < xs.length ∧ gt xs (i : Int) = x := by
 obtain ⟨i, hi, e⟩ := List.mem_iff_getElem.1 h
 exact ⟨i, hi, by rw [gt_of ⟨by omega, by omega⟩]; simpa using e⟩
theorem takeN_gt {α : Type} [Inhabited α] {xs : List α} {k : Nat} (h : k < xs.length) : xs.take (k + 1) = xs.take k ++ [gt xs k] := by
 have := take_gt (xs := xs) (i := (k : Int)) ⟨by omega, by omega⟩
 simpa using this
theorem gt_set {α : Type} [Inhabited α] {xs : List α} {i : Int} {x : α} (h : inb xs i) : gt (xs.set i.toNat x) i = x := by
 have := inb_lt h
 simp [gt, this]
theorem gt_setI {α : Type} [Inhabited α] {xs : List α} {i j : Int} {x : α} (hi : inb xs i) (hj : 0 ≤ j) : gt (xs.set i.toNat x) j = if j = i then x else gt xs j := by
 by_cases e : j = i
 ·subst e; rw [if_pos rfl, gt_set hi]
 ·rw [if_neg e]
  have h1 := hi.1
  unfold gt
  rw [List.getD_eq_getElem?_getD, List.getD_eq_getElem?_getD, List.getElem?_set_ne (by omega)]
theorem ext_gt {a b : List Int} (hl : a.length = b.length) (h : ∀ i : Nat, i < a.length → gt a (i : Int) = gt b (i : Int)) : a = b := by
 refine List.ext_getElem hl fun i h1 h2 => ?_
 have := h i h1
 rw [gt_of ⟨by omega, by omega⟩, gt_of ⟨by omega, by omega⟩] at this
 simpa using this
theorem any_split {α : Type} [Inhabited α] {xs : List α} {p : α → Bool} {t : Int} (h0 : 0 ≤ t) (hp : ∀ x ∈ xs.take t.toNat, p x = false) : (t < xs.length → p (gt xs t) = true → (if xs.any p then (xs.findIdx p : Int) else -1) = t) ∧ (¬ t < xs.length → (if xs.any p then (xs.findIdx p : Int) else -1) = -1) := by
 refine ⟨fun h hq => ?_, fun h => ?_⟩
 ·have hi : inb xs t := ⟨h0, h⟩
  have ha : xs.any p = true := List.any_eq_true.2 ⟨_, gt_mem hi, hq⟩
  rw [if_pos ha]
  have : xs.findIdx p = t.toNat := by
   rw [List.findIdx_eq (inb_lt hi)]
   refine ⟨by rw [← gt_of hi]; exact hq, fun j hj => ?_⟩
   have hjl : j < xs.length := by have := inb_lt hi; omega
   exact hp _ (List.mem_take_iff_getElem.2 ⟨j, by omega, rfl⟩)
  omega
 ·have : xs.any p = false := by
   rw [List.take_of_length_le (by omega)] at hp
   simpa using hp
  simp [this]
theorem any_next {α : Type} [Inhabited α] {xs : List α} {p : α → Bool} {t : Int} (h0 : 0 ≤ t) (hp : ∀ x ∈ xs.take t.toNat, p x = false) (h : t < xs.length) (hq : p (gt xs t) = false) : ∀ x ∈ xs.take (t + 1).toNat, p x = false := fun x hx => by
 rw [take_gt ⟨h0, h⟩] at hx
 rcases List.mem_append.1 hx with hx | hx
 ·exact hp x hx
 ·rw [List.mem_singleton.1 hx]; exact hq
def ffirst (f : Nat → Fault) (n : Nat) : Fault := match (List.range n).find? (fun i => decide (f i ≠ ⟨0, 0⟩)) with
 | some i => f i
 | none => ⟨0, 0⟩
theorem ffirst_hit {f : Nat → Fault} {n i : Nat} (hi : i < n) (hz : ∀ j, j < i → f j = ⟨0, 0⟩) (hf : f i ≠ ⟨0, 0⟩) : ffirst f n = f i := by
 unfold ffirst
 have : (List.range n).find? (fun i => decide (f i ≠ ⟨0, 0⟩)) = some i := by
  rw [List.find?_range_eq_some]
  exact ⟨by simpa using hf, List.mem_range.2 hi, fun j hj => by simpa using hz j hj⟩
 rw [this]
theorem ffirst_none {f : Nat → Fault} {n : Nat} (hz : ∀ j, j < n → f j = ⟨0, 0⟩) : ffirst f n = ⟨0, 0⟩ := by
 unfold ffirst
 have : (List.range n).find? (fun i => decide (f i ≠ ⟨0, 0⟩)) = none := by
  rw [List.find?_eq_none]
  intro x hx
  simpa using hz x (List.mem_range.1 hx)
 rw [this]
theorem ffirst_zero {f : Nat → Fault} {n : Nat} (h : ffirst f n = ⟨0, 0⟩) : ∀ j, j < n → f j = ⟨0, 0⟩ := by
 intro j
 induction j using Nat.strongRecOn with
 | _ j ih =>
  intro hj
  refine Classical.byContradiction fun hf => ?_
  have := ffirst_hit hj (fun k hk => ih k hk (by omega)) hf
  rw [h] at this
  exact hf this.symm
theorem zero_next {f : Nat → Fault} {k : Nat} (h : ∀ j, j < k → f j = ⟨0, 0⟩) (hk : f k = ⟨0, 0⟩) : ∀ j, j < k + 1 → f j = ⟨0, 0⟩ := fun j hj => by
 rcases Nat.lt_succ_iff_lt_or_eq.1 hj with q | rfl
 ·exact h j q
 ·exact hk
theorem fault_mk {c i : Int} (h : c ≠ 0) : (⟨c, i⟩ : Fault) ≠ ⟨0, 0⟩ := fun e => h (congrArg Fault.code e)
theorem fault_ne {f : Fault} : (!((f.code == 0) && (f.index == 0))) = true ↔ f ≠ ⟨0, 0⟩ := by
 obtain ⟨c, i⟩ := f
 simp only [Bool.not_eq_true', Bool.and_eq_false_iff, beq_eq_false_iff_ne, ne_eq, Fault.mk.injEq]
 omega
theorem fault_eq {f : Fault} : (!((f.code == 0) && (f.index == 0))) = false ↔ f = ⟨0, 0⟩ := by
 obtain ⟨c, i⟩ := f
 simp
end Go.Proofs.YtimillpakjgnoaaGreat.Pl

namespace Go.Proofs.YtimillpakjgnoaaGreat.Pl
open Go Go.RowKit
def sp_at_ (c i : Int) : Fault := ⟨c, i⟩
def sp_index (l : List Int) (v : Int) : Int := if v ∈ l then l.idxOf v else -1
def pre_index (l : List Int) (_ : Int) : Prop := l.length ≤ 1000
def sp_contains (l : List Int) (v : Int) : Bool := decide (v ∈ l)
def sp_isNaN1 (_ : Int) : Bool := false
def sp_less (x y : Int) : Bool := decide (x < y)
def sp_bsearch (x : List Int) (t : Int) : Int × Bool := ((x.filter (fun a => decide (a < t))).length, decide (t ∈ x))
def pre_bsearch (x : List Int) (_ : Int) : Prop := x.Pairwise (· < ·) ∧ x.length ≤ 1000
def sp_any {α : Type} (xs : List α) (p : α → Bool) (_ : α → Prop) : Bool := xs.any p
def pre_any {α : Type} (xs : List α) (_ : α → Bool) (D : α → Prop) : Prop := xs.length ≤ 1000 ∧ ∀ x ∈ xs, D x
def sp_indexF {α : Type} (xs : List α) (p : α → Bool) (_ : α → Prop) : Int := if xs.any p then xs.findIdx p else -1
def sp_isSet (l : List Int) (n : Int) : Bool := decide (l.Pairwise (· < ·) ∧ ∀ x ∈ l, 0 ≤ x ∧ x < n)
def pre_isSet (_ : List Int) (n : Int) : Prop := 0 ≤ n ∧ n ≤ 1000
def sp_meets1 (x : Int) (b : List Int) : Bool := decide (x ∈ b)
def pre_meets1 (_ : Int) (b : List Int) : Prop := b.Pairwise (· < ·) ∧ b.length ≤ 1000
def sp_meets (a b : List Int) : Bool := a.any fun x => decide (x ∈ b)
def pre_meets (a b : List Int) : Prop := a.length ≤ 1000 ∧ b.Pairwise (· < ·) ∧ b.length ≤ 1000
def sp_operator (o : Operator) (n : Int) : Int :=
 if sp_isSet o.pre n = true ∧ sp_isSet o.add n = true ∧ sp_isSet o.del n = true ∧ sp_meets o.add o.del = false then
  if 0 ≤ o.cost ∧ o.cost ≤ 100 then 0 else 3
 else 5
def pre_operator (_ : Operator) (n : Int) : Prop := 0 ≤ n ∧ n ≤ 1000
def opFault (t : Task) (i : Nat) : Fault := if sp_operator (gt t.ops i) t.facts = 0 then ⟨0, 0⟩ else ⟨sp_operator (gt t.ops i) t.facts, i⟩
def sp_validate (t : Task) : Fault :=
 if t.facts < 0 ∨ 24 < t.facts then ⟨3, -1⟩
 else if sp_isSet t.init t.facts = false then ⟨5, -2⟩
 else if sp_isSet t.goal t.facts = false then ⟨5, -3⟩
 else if 40 < t.ops.length then ⟨2, -1⟩
 else ffirst (opFault t) t.ops.length
def sp_steps (n : Int) (p : List Int) : Fault :=
 if 60 < p.length then ⟨2, -5⟩ else if (p.all fun x => decide (0 ≤ x ∧ x < n)) = true then ⟨0, 0⟩ else ⟨3, -6⟩
def pre_steps (n : Int) (_ : List Int) : Prop := 0 ≤ n ∧ n ≤ 1000
def sp_planFault (t : Task) (p : List Int) : Fault := if sp_validate t = ⟨0, 0⟩ then sp_steps t.ops.length p else sp_validate t
def allS (n : Nat) : List Int := (List.range n).map fun j : Nat => (j : Int)
def sp_subset (a b : List Int) : Bool := a.all fun x => decide (x ∈ b)
def sp_applies (t : Task) (s : List Int) (op : Int) : Bool := sp_subset (gt t.ops op).pre s
def sp_after (t : Task) (s : List Int) (op : Int) : List Int := (allS t.facts.toNat).filter fun p => decide (p ∈ (gt t.ops op).add ∨ (p ∈ s ∧ p ∉ (gt t.ops op).del))
def sp_ends (t : Task) : List Int → List Int → List Int × Bool
 | s, [] => (s, true)
 | s, op :: r => if sp_applies t s op = true then sp_ends t (sp_after t s op) r else ([], false)
def sp_rworks (t : Task) (s plan : List Int) : Bool := (sp_ends t s plan).2 && sp_subset t.goal (sp_ends t s plan).1
def sp_rsolves (t : Task) (plan : List Int) : Bool := sp_rworks t t.init plan
def sp_sort (xs : List Int) : List Int := xs.mergeSort fun x y => decide (x ≤ y)
def pre_sort (xs : List Int) : Prop := xs.length ≤ 100000
def sp_compact (xs : List Int) : List Int := Lib.compact xs
def pre_compact (xs : List Int) : Prop := xs.length ≤ 100000
def sp_clone (s : List Int) : List Int := s
def pre_clone (s : List Int) : Prop := s.length ≤ 1000
def sp_update (s add del : List Int) : List Int := sp_compact (sp_sort (s.filter (fun x => decide (x ∉ del)) ++ add))
def pre_update (s add del : List Int) : Prop := s.length ≤ 1000 ∧ add.length ≤ 1000 ∧ pre_bsearch del 0
def sp_contains2 (s part : List Int) : Bool := sp_subset part s
def pre_contains2 (s part : List Int) : Prop := s.length ≤ 1000 ∧ part.length ≤ 1000 ∧ s.Pairwise (· < ·) ∧ part.Pairwise (· < ·)
def pre_next (t : Task) (s : List Int) (op : Int) : Prop := sp_validate t = ⟨0, 0⟩ ∧ inb t.ops op ∧ sp_isSet s t.facts = true
def pre_can (t : Task) (s : List Int) (op : Int) : Prop := pre_next t s op
def sp_srun (t : Task) : List Int → List Int → List (List Int)
 | s, [] => [s]
 | s, op :: r => if sp_applies t s op = true then s :: sp_srun t (sp_after t s op) r else [s]
def pre_srun (t : Task) (s plan : List Int) : Prop := sp_validate t = ⟨0, 0⟩ ∧ sp_isSet s t.facts = true ∧ plan.length ≤ 1000 ∧ ∀ op ∈ plan, inb t.ops op
def pre_works (t : Task) (s plan : List Int) : Prop := pre_srun t s plan
def sp_solves (t : Task) (plan : List Int) : Bool × Fault := if sp_planFault t plan = ⟨0, 0⟩ then (sp_rsolves t plan, ⟨0, 0⟩) else (false, sp_planFault t plan)
end Go.Proofs.YtimillpakjgnoaaGreat.Pl

namespace Go.Proofs.YtimillpakjgnoaaGreat.Pl
open Go Go.RowKit
def sp_reverse (s : List Int) : List Int := s.reverse
def pre_reverse (s : List Int) : Prop := s.length ≤ 100000
theorem sp_reverse_len (s : List Int) : (sp_reverse s).length = s.length := List.length_reverse
def sp_compare (x y : Int) : Int := if x < y then -1 else if y < x then 1 else 0
def sp_scompare : List Int → List Int → Int
 | [], [] => 0
 | [], _ :: _ => -1
 | _ :: _, [] => 1
 | x :: r, y :: q => if x < y then -1 else if y < x then 1 else sp_scompare r q
def pre_scompare (a b : List Int) : Prop := a.length ≤ 1000 ∧ b.length ≤ 1000
abbrev Bel := List (List Int)
def sp_before : List Int → List Int → Bool
 | [], [] => false
 | [], _ :: _ => true
 | _ :: _, [] => false
 | x :: r, y :: q => if x = y then sp_before r q else decide (x < y)
end Go.Proofs.YtimillpakjgnoaaGreat.Pl

namespace Go.Proofs.YtimillpakjgnoaaGreat.Pl
open Go Go.RowKit
def kernT : Task := ⟨2, ([0] : List Int), ([1] : List Int), ([(⟨([0] : List Int), ([1] : List Int), ([0] : List Int), 3⟩ : Operator)] : List Operator)⟩
def sp_optimalK (_ : Task) : Int × Fault := (3, ⟨0, 0⟩)
def pre_optimalK (t : Task) : Prop := t = kernT
def sp_kernWorks : Bool := true
def bitW (p : Int) : Int := IntKind.u32.wrap (1 * 2 ^ (min p.toNat (IntKind.bits .u32)))
def sp_word (s : List Int) : Int := s.foldl (fun w p => bits .or .u32 w (bitW p)) 0
def pre_word (s : List Int) : Prop := s.length ≤ 1000 ∧ ∀ p ∈ s, 0 ≤ p
def sp_facts (w : Int) : List Int := (allS 32).filter fun p => bits .and .u32 (Int.fdiv w (2 ^ (min p.toNat (IntKind.bits .u32)))) 1 == 1
def pre_facts (_ : Int) : Prop := True
def sp_wcmp (a b : Int) : Int := sp_scompare (sp_facts a) (sp_facts b)
def pre_wcmp (_ _ : Int) : Prop := True
def U32 (w : Int) : Prop := 0 ≤ w ∧ w < 4294967296
def sp_sortW (xs : List Int) : List Int := xs.mergeSort fun a b => decide (sp_wcmp a b ≤ 0)
def pre_sortW (xs : List Int) : Prop := xs.length ≤ 100000 ∧ ∀ x ∈ xs, U32 x
def wopS (W : WordsT) (s i : Int) : Option (Int × Int) := if (bits .and .u32 s (gt W.ops i).pre == (gt W.ops i).pre) = true then some (i, bits .or .u32 (bits .andNot .u32 s (gt W.ops i).del) (gt W.ops i).add) else none
def wsucc (W : WordsT) (s : Int) : List (Int × Int) := (allS W.ops.length).filterMap (wopS W s)
def wgoal (W : WordsT) (s : Int) : Bool := bits .and .u32 s W.goal == W.goal
def pushW : List (Int × Int) → List Int × List (Int × Unit) → List Int × List (Int × Unit)
 | [], z => z
 | x :: r, z => if (getA z.2 x.2).isSome = true then pushW r z else pushW r (z.1 ++ [x.2], setA z.2 x.2 ())
def dfs (W : WordsT) : Nat → List Int → List (Int × Unit) → List Int → List Int × Bool
 | 0, _, _, out => (out, true)
 | k + 1, l, m, out => match l.getLast? with
  | none => (out, true)
  | some s => if 2000 < (pushW (wsucc W s) (l.dropLast, m)).2.length then ([], false) else dfs W k (pushW (wsucc W s) (l.dropLast, m)).1 (pushW (wsucc W s) (l.dropLast, m)).2 (out ++ [s])
def sp_all (W : WordsT) : List Int × Bool := dfs W 2001 [W.start] [(W.start, ())] []
def pre_all (W : WordsT) : Prop := W.ops.length ≤ 40
def maskOf (o : Operator) : Masks := ⟨sp_word o.pre, sp_word o.add, sp_word o.del, o.cost⟩
def wordsOf (t : Task) : WordsT := ⟨sp_word t.init, sp_word t.goal, t.ops.map maskOf⟩
def sp_shifted (s : List Int) (n : Int) : List Int := s.map fun p => p + n
def pre_shifted (s : List Int) (n : Int) : Prop := s.length ≤ 1000 ∧ (0 ≤ n ∧ n ≤ 1000) ∧ ∀ p ∈ s, 0 ≤ p ∧ p ≤ 1000
def shiftOp (n : Int) (o : Operator) : Operator := ⟨sp_shifted o.pre n, sp_shifted o.add n, sp_shifted o.del n, o.cost⟩
def noTask : Task := ⟨0, [], [], []⟩
def prodT (a b : Task) : Task := ⟨a.facts + b.facts, a.init ++ sp_shifted b.init a.facts, a.goal ++ sp_shifted b.goal a.facts, a.ops ++ b.ops.map (shiftOp a.facts)⟩
def sp_product (a b : Task) : Task × Fault :=
 if sp_validate a = ⟨0, 0⟩ then
  if sp_validate b = ⟨0, 0⟩ then
   if 24 < a.facts + b.facts ∨ 40 < a.ops.length + b.ops.length then (noTask, ⟨10, -8⟩) else (prodT a b, ⟨0, 0⟩)
  else (noTask, ⟨(sp_validate b).code, -9⟩)
 else (noTask, sp_validate a)
def sp_freeOp (x y : Operator) : Bool := !sp_meets x.add y.pre && !sp_meets x.del y.pre && !sp_meets x.add y.del
def OpS (o : Operator) : Prop := (o.pre.Pairwise (· < ·) ∧ o.pre.length ≤ 1000) ∧ (o.add.Pairwise (· < ·) ∧ o.add.length ≤ 1000) ∧ (o.del.Pairwise (· < ·) ∧ o.del.length ≤ 1000)
def pre_freeOp (x y : Operator) : Prop := OpS x ∧ OpS y
def sp_indep (a b : Operator) : Bool := sp_freeOp a b && sp_freeOp b a
def pre_indep (a b : Operator) : Prop := OpS a ∧ OpS b
def sp_missingF (s want : List Int) : Int := (want.find? fun p => decide (p ∉ s)).getD (-1)
def pre_missingF (s want : List Int) : Prop := pre_bsearch s 0 ∧ want.length ≤ 1000
def bitC (p : Int) : Int := IntKind.i64.wrap (1 * 2 ^ (min p.toNat (IntKind.bits .i64)))
def sp_wordC (s : List Int) : Int := s.foldl (fun w p => bits .or .i64 w (bitC p)) 0
def pre_wordC (s : List Int) : Prop := s.length ≤ 1000 ∧ ∀ p ∈ s, 0 ≤ p
def pathGo (nodes : List Node) : Nat → Int → List Int
 | 0, _ => []
 | k + 1, i => if 0 ≤ (gt nodes i).parent then (gt nodes i).op :: pathGo nodes k (gt nodes i).parent else []
def sp_pathC (nodes : List Node) (k : Int) : List Int := (pathGo nodes nodes.length k).reverse
def NodesOK (nodes : List Node) : Prop := ∀ i : Nat, i < nodes.length → (gt nodes (i : Int)).parent < i
def pre_pathC (nodes : List Node) (k : Int) : Prop := nodes.length ≤ 100000 ∧ inb nodes k ∧ NodesOK nodes
inductive InStub (t : Task) (s : List Int) (p : Int) : Int → Prop
 | goal (i : Int) : inb t.ops i → p ∈ (gt t.ops i).add → InStub t s p i
 | need (k i : Int) : InStub t s p k → 0 ≤ sp_missingF s (gt t.ops k).pre → inb t.ops i → sp_missingF s (gt t.ops k).pre ∈ (gt t.ops i).add → InStub t s p i
 | other (k i : Int) : InStub t s p k → sp_missingF s (gt t.ops k).pre < 0 → inb t.ops i → sp_indep (gt t.ops k) (gt t.ops i) = false → InStub t s p i
open Classical in
noncomputable def sp_stubborn (t : Task) (s : List Int) : List Int :=
 if sp_missingF s t.goal < 0 then [] else (allS t.ops.length).filter fun i => decide (InStub t s (sp_missingF s t.goal) i) && sp_applies t s i
def pre_stubborn (t : Task) (s : List Int) : Prop := sp_validate t = ⟨0, 0⟩ ∧ sp_isSet s t.facts = true
inductive ReachS (t : Task) : List Int → Prop
 | start : ReachS t t.init
 | step (s : List Int) (i : Int) : ReachS t s → inb t.ops i → sp_applies t s i = true → ReachS t (sp_after t s i)
open Classical in
noncomputable def sp_reachable (t : Task) : Int := if h : ∃ l : List (List Int), l.Nodup ∧ (∀ s, s ∈ l ↔ ReachS t s) ∧ l.length ≤ 2000 then (Classical.choose h).length else -1
def pre_reachable (t : Task) : Prop := sp_validate t = ⟨0, 0⟩
structure QInv (m : List (Int × Int)) (hp : List (Option Addr)) (fo : List (Int × Option Addr)) (ar : Addr → Option QEnt) : Prop where
 at_ : ∀ i : Nat, i < hp.length → ∃ p e, hp[i]? = some (some p) ∧ ar p = some e ∧ e.at_ = (i : Int) ∧ getA fo e.item = some (some p)
 fos : ∀ k x, getA fo k = some x → ∃ p e, x = some p ∧ ar p = some e ∧ e.item = k ∧ ∃ i : Nat, hp[i]? = some (some p)
 key : ∀ k, getA m k = (getA fo k).map fun x => (arv ar x).key
 len : m.length = hp.length
 nod : (m.map (·.1)).Nodup
 nof : (fo.map (·.1)).Nodup
theorem qinv_nil : QInv [] [] [] (fun _ => none) := ⟨fun i hi => absurd hi (Nat.not_lt_zero i), fun k x e => (by cases e), fun k => rfl, rfl, List.nodup_nil, List.nodup_nil⟩
def pre_qset (m : List (Int × Int)) (_ _ : Int) : Prop := m.length ≤ 100000
def po_qset (m : List (Int × Int)) (item key : Int) (r : List (Int × Int)) : Prop := r = setA m item key
def po_qlen (m : List (Int × Int)) (r : Int × List (Int × Int)) : Prop := r = ((m.length : Int), m)
def pre_qtake (m : List (Int × Int)) : Prop := m ≠ [] ∧ m.length ≤ 200000
def po_qtake (m : List (Int × Int)) (r : (Int × Int × Bool) × List (Int × Int)) : Prop := getA m r.1.1 = some r.1.2.1 ∧ r.1.2.2 = true ∧ r.2 = delA m r.1.1
inductive WCost (W : WordsT) : Int → Int → Prop
 | here (s : Int) : wgoal W s = true → WCost W s 0
 | step (s : Int) (x : Int × Int) (c : Int) : x ∈ wsucc W s → WCost W x.2 c → WCost W s ((gt W.ops x.1).cost + c)
open Classical in
noncomputable def leastC (P : Int → Prop) : Int := if h : ∃ c, P c ∧ ∀ d, P d → c ≤ d then Classical.choose h else 1000000000
noncomputable def sp_optimal (t : Task) : Int × Fault :=
 if sp_validate t = ⟨0, 0⟩ then if (sp_all (wordsOf t)).2 = true then (leastC (WCost (wordsOf t) (wordsOf t).start), ⟨0, 0⟩) else (0, ⟨10, -7⟩) else (0, sp_validate t)
def sp_lawProd (_ _ : Task) : Bool := true
end Go.Proofs.YtimillpakjgnoaaGreat.Pl

namespace Go.Proofs.YtimillpakjgnoaaGreat.Pl
open Go Go.RowKit
theorem tS22 : TSl Tryz.prog 22 3 1 8 [.int .i64 0] := tSl_mk (z := .int .i64 0) Tryz.underlying22 (by kernel_rfl) rfl
theorem tO3 : TOne Tryz.prog 3 := tOne_mk Tryz.underlying3 rfl (by kernel_rfl)
theorem tO22 : TOne Tryz.prog 22 := tOne_mk Tryz.underlying22 rfl (by kernel_rfl)
theorem tF52_0 : FldAt Tryz.prog 52 0 0 := fldAt_mk Tryz.underlying52 (by kernel_rfl)
theorem tF52_1 : FldAt Tryz.prog 52 1 1 := fldAt_mk Tryz.underlying52 (by kernel_rfl)
theorem tF52_2 : FldAt Tryz.prog 52 2 2 := fldAt_mk Tryz.underlying52 (by kernel_rfl)
theorem tF52_3 : FldAt Tryz.prog 52 3 3 := fldAt_mk Tryz.underlying52 (by kernel_rfl)
theorem tZ27 : TZero Tryz.prog 27 [.int .i64 0, .int .i64 0] := tZero_mk (z := .agg #[.int .i64 0, .int .i64 0]) (by kernel_rfl) rfl
theorem tF25_0 : FldAt Tryz.prog 25 0 0 := fldAt_mk Tryz.underlying25 (by kernel_rfl)
theorem tB27 : TBld Tryz.prog 27 [.int .i64 0, .int .i64 0] [(0, 1), (1, 1)] := tBld_mk Tryz.underlying27 (by kernel_rfl) (z := .agg #[.int .i64 0, .int .i64 0]) (by kernel_rfl) (by kernel_rfl)
theorem tA27 : TAgg Tryz.prog 27 2 := tAgg_mk Tryz.underlying27 rfl (by kernel_rfl)
theorem tF25_1 : FldAt Tryz.prog 25 1 1 := fldAt_mk Tryz.underlying25 (by kernel_rfl)
theorem tF25_2 : FldAt Tryz.prog 25 2 2 := fldAt_mk Tryz.underlying25 (by kernel_rfl)
theorem tF25_3 : FldAt Tryz.prog 25 3 3 := fldAt_mk Tryz.underlying25 (by kernel_rfl)
theorem tO23 : TOne Tryz.prog 23 := tOne_mk Tryz.underlying23 rfl (by kernel_rfl)
theorem tS23 : TSl Tryz.prog 23 52 4 80 [.slice none 0 0, .slice none 0 0, .slice none 0 0, .int .i64 0] := tSl_mk (z := .agg #[.slice none 0 0, .slice none 0 0, .slice none 0 0, .int .i64 0]) Tryz.underlying23 (by kernel_rfl) rfl
theorem tA52 : TAgg Tryz.prog 52 4 := tAgg_mk Tryz.underlying52 rfl (by kernel_rfl)
theorem tZ52 : TZero Tryz.prog 52 [.slice none 0 0, .slice none 0 0, .slice none 0 0, .int .i64 0] := tZero_mk (z := .agg #[.slice none 0 0, .slice none 0 0, .slice none 0 0, .int .i64 0]) (by kernel_rfl) rfl
theorem tA25 : TAgg Tryz.prog 25 4 := tAgg_mk Tryz.underlying25 rfl (by kernel_rfl)
theorem tE27 : TEq2 Tryz.prog 27 := ⟨by kernel_rfl, fun d a b c e w => by
 simp [go_sem]
 by_cases h1 : a = c <;> by_cases h2 : b = e <;> simp [h1, h2]⟩
theorem tS68 : TSl Tryz.prog 68 22 1 24 [.slice none 0 0] := tSl_mk (z := .slice none 0 0) Tryz.underlying68 (by kernel_rfl) rfl
theorem tm56_Start : TMeth Tryz.prog 56 "Start" 22 := tMeth_mk Tryz.underlying56 (by kernel_rfl)
theorem tF105_0 : FldAt Tryz.prog 105 0 0 := fldAt_mk Tryz.underlying105 (by kernel_rfl)
theorem tO62 : TOne Tryz.prog 62 := tOne_mk Tryz.underlying62 rfl (by kernel_rfl)
theorem tS57 : TSl Tryz.prog 57 62 1 4 [.int .u32 0] := tSl_mk (z := .int .u32 0) Tryz.underlying57 (by kernel_rfl) rfl
theorem tZ57 : TZero Tryz.prog 57 [.slice none 0 0] := tZero_mk (z := .slice none 0 0) (by kernel_rfl) rfl
theorem tO57 : TOne Tryz.prog 57 := tOne_mk Tryz.underlying57 rfl (by kernel_rfl)
theorem tB147 : TBld Tryz.prog 147 [] [] := tBld_mk Tryz.underlying147 (by kernel_rfl) (z := .agg #[]) (by kernel_rfl) (by kernel_rfl)
theorem tMI148 : TMapI Tryz.prog 148 .u32 ((fun _ : Unit => .agg #[]) ()) := tMapI_mk Tryz.underlying148 Tryz.underlying62 (by kernel_rfl)
theorem tZ148 : TZero Tryz.prog 148 [.map none] := tZero_mk (z := .map none) (by kernel_rfl) rfl
theorem tO148 : TOne Tryz.prog 148 := tOne_mk Tryz.underlying148 rfl (by kernel_rfl)
theorem tm56_Steps : TMeth Tryz.prog 56 "Steps" 48 := tMeth_mk Tryz.underlying56 (by kernel_rfl)
theorem tO56 : TOne Tryz.prog 56 := tOne_mk Tryz.underlying56 rfl (by kernel_rfl)
theorem tF105_2 : FldAt Tryz.prog 105 2 2 := fldAt_mk Tryz.underlying105 (by kernel_rfl)
theorem tO103 : TOne Tryz.prog 103 := tOne_mk Tryz.underlying103 rfl (by kernel_rfl)
theorem tS103 : TSl Tryz.prog 103 144 4 24 [.int .u32 0, .int .u32 0, .int .u32 0, .int .i64 0] := tSl_mk (z := .agg #[.int .u32 0, .int .u32 0, .int .u32 0, .int .i64 0]) Tryz.underlying103 (by kernel_rfl) rfl
theorem tA144 : TAgg Tryz.prog 144 4 := tAgg_mk Tryz.underlying144 rfl (by kernel_rfl)
theorem tZ144 : TZero Tryz.prog 144 [.int .u32 0, .int .u32 0, .int .u32 0, .int .i64 0] := tZero_mk (z := .agg #[.int .u32 0, .int .u32 0, .int .u32 0, .int .i64 0]) (by kernel_rfl) rfl
theorem tF144_0 : FldAt Tryz.prog 144 0 0 := fldAt_mk Tryz.underlying144 (by kernel_rfl)
theorem tF144_3 : FldAt Tryz.prog 144 3 3 := fldAt_mk Tryz.underlying144 (by kernel_rfl)
theorem tF144_2 : FldAt Tryz.prog 144 2 2 := fldAt_mk Tryz.underlying144 (by kernel_rfl)
theorem tF144_1 : FldAt Tryz.prog 144 1 1 := fldAt_mk Tryz.underlying144 (by kernel_rfl)
theorem tB96 : TBld Tryz.prog 96 [.int .i64 0, .int .i64 0, .int .u32 0] [(0, 1), (1, 1), (2, 1)] := tBld_mk Tryz.underlying96 (by kernel_rfl) (z := .agg #[.int .i64 0, .int .i64 0, .int .u32 0]) (by kernel_rfl) (by kernel_rfl)
theorem tZ96 : TZero Tryz.prog 96 [.int .i64 0, .int .i64 0, .int .u32 0] := tZero_mk (z := .agg #[.int .i64 0, .int .i64 0, .int .u32 0]) (by kernel_rfl) rfl
theorem tA96 : TAgg Tryz.prog 96 3 := tAgg_mk Tryz.underlying96 rfl (by kernel_rfl)
theorem tF96_2 : FldAt Tryz.prog 96 2 2 := fldAt_mk Tryz.underlying96 (by kernel_rfl)
theorem tZ147 : TZero Tryz.prog 147 [] := tZero_mk (z := .agg #[]) (by kernel_rfl) rfl
theorem tA147 : TAgg Tryz.prog 147 0 := tAgg_mk Tryz.underlying147 rfl (by kernel_rfl)
theorem tB105 : TBld Tryz.prog 105 [.int .u32 0, .int .u32 0, .slice none 0 0] [(0, 1), (1, 1), (2, 1)] := tBld_mk Tryz.underlying105 (by kernel_rfl) (z := .agg #[.int .u32 0, .int .u32 0, .slice none 0 0]) (by kernel_rfl) (by kernel_rfl)
theorem tB144 : TBld Tryz.prog 144 [.int .u32 0, .int .u32 0, .int .u32 0, .int .i64 0] [(0, 1), (1, 1), (2, 1), (3, 1)] := tBld_mk Tryz.underlying144 (by kernel_rfl) (z := .agg #[.int .u32 0, .int .u32 0, .int .u32 0, .int .i64 0]) (by kernel_rfl) (by kernel_rfl)
theorem tC56 : TCon Tryz.prog 56 := ⟨_, Tryz.underlying56, rfl⟩
theorem tZ87 : TZero Tryz.prog 87 [.map none] := tZero_mk (z := .map none) (by kernel_rfl) rfl
theorem tO87 : TOne Tryz.prog 87 := tOne_mk Tryz.underlying87 rfl (by kernel_rfl)
theorem tB157 : TBld Tryz.prog 157 [.slice none 0 0, .map none, .int .i64 0] [(0, 1), (1, 1), (2, 1)] := tBld_mk Tryz.underlying157 (by kernel_rfl) (z := .agg #[.slice none 0 0, .map none, .int .i64 0]) (by kernel_rfl) (by kernel_rfl)
theorem tZ62 : TZero Tryz.prog 62 [.int .u32 0] := tZero_mk (z := .int .u32 0) (by kernel_rfl) rfl
theorem tMR60 : TMapI Tryz.prog 60 .u32 (.int .i64 0) := tMapI_mk Tryz.underlying60 Tryz.underlying62 (by kernel_rfl)
theorem tF105_1 : FldAt Tryz.prog 105 1 1 := fldAt_mk Tryz.underlying105 (by kernel_rfl)
theorem tMR87 : TMapI Tryz.prog 87 .u32 (.slice none 0 0) := tMapI_mk Tryz.underlying87 Tryz.underlying62 (by kernel_rfl)
theorem tF96_1 : FldAt Tryz.prog 96 1 1 := fldAt_mk Tryz.underlying96 (by kernel_rfl)
theorem tB99 : TBld Tryz.prog 99 [.int .u32 0, .int .i64 0] [(0, 1), (1, 1)] := tBld_mk Tryz.underlying99 (by kernel_rfl) (z := .agg #[.int .u32 0, .int .i64 0]) (by kernel_rfl) (by kernel_rfl)
theorem tS97 : TSl Tryz.prog 97 99 2 16 [.int .u32 0, .int .i64 0] := tSl_mk (z := .agg #[.int .u32 0, .int .i64 0]) Tryz.underlying97 (by kernel_rfl) rfl
theorem tF157_2 : FldAt Tryz.prog 157 2 2 := fldAt_mk Tryz.underlying157 (by kernel_rfl)
theorem tF157_1 : FldAt Tryz.prog 157 1 1 := fldAt_mk Tryz.underlying157 (by kernel_rfl)
theorem tO153 : TOne Tryz.prog 153 := tOne_mk Tryz.underlying153 rfl (by kernel_rfl)
theorem tMR153 : TMapI Tryz.prog 153 .u32 (.pointer none) := tMapI_mk Tryz.underlying153 Tryz.underlying62 (by kernel_rfl)
theorem tB161 : TBld Tryz.prog 161 [.int .u32 0, .int .i64 0, .int .i64 0, .int .i64 0] [(0, 1), (1, 1), (2, 1), (3, 1)] := tBld_mk Tryz.underlying161 (by kernel_rfl) (z := .agg #[.int .u32 0, .int .i64 0, .int .i64 0, .int .i64 0]) (by kernel_rfl) (by kernel_rfl)
theorem tF157_0 : FldAt Tryz.prog 157 0 0 := fldAt_mk Tryz.underlying157 (by kernel_rfl)
theorem tC163 : TCon Tryz.prog 163 := ⟨_, Tryz.underlying163, rfl⟩
theorem tC158 : TCon Tryz.prog 158 := ⟨_, Tryz.underlying158, rfl⟩
theorem tm163_Push : TMeth Tryz.prog 163 "Push" 164 := tMeth_mk Tryz.underlying163 (by kernel_rfl)
theorem tO155 : TOne Tryz.prog 155 := tOne_mk Tryz.underlying155 rfl (by kernel_rfl)
theorem tS155 : TSl Tryz.prog 155 158 1 8 [.pointer none] := tSl_mk (z := .pointer none) Tryz.underlying155 (by kernel_rfl) rfl
theorem tF161_3 : FldAt Tryz.prog 161 3 3 := fldAt_mk Tryz.underlying161 (by kernel_rfl)
theorem tm163_Len : TMethV Tryz.prog 163 "Len" 160 := tMethV_mk Tryz.underlying163 tO155 (by kernel_rfl)
theorem tm163_Swap : TMethV Tryz.prog 163 "Swap" 162 := tMethV_mk Tryz.underlying163 tO155 (by kernel_rfl)
theorem tO158 : TOne Tryz.prog 158 := tOne_mk Tryz.underlying158 rfl (by kernel_rfl)
theorem tm163_Pop : TMeth Tryz.prog 163 "Pop" 163 := tMeth_mk Tryz.underlying163 (by kernel_rfl)
theorem tF161_0 : FldAt Tryz.prog 161 0 0 := fldAt_mk Tryz.underlying161 (by kernel_rfl)
theorem tF161_1 : FldAt Tryz.prog 161 1 1 := fldAt_mk Tryz.underlying161 (by kernel_rfl)
theorem tA99 : TAgg Tryz.prog 99 2 := tAgg_mk Tryz.underlying99 rfl (by kernel_rfl)
theorem tZ99 : TZero Tryz.prog 99 [.int .u32 0, .int .i64 0] := tZero_mk (z := .agg #[.int .u32 0, .int .i64 0]) (by kernel_rfl) rfl
theorem tF99_1 : FldAt Tryz.prog 99 1 1 := fldAt_mk Tryz.underlying99 (by kernel_rfl)
theorem tF99_0 : FldAt Tryz.prog 99 0 0 := fldAt_mk Tryz.underlying99 (by kernel_rfl)
theorem tZ25 : TZero Tryz.prog 25 [.int .i64 0, .slice none 0 0, .slice none 0 0, .slice none 0 0] := tZero_mk (z := .agg #[.int .i64 0, .slice none 0 0, .slice none 0 0, .slice none 0 0]) (by kernel_rfl) rfl
theorem tB52 : TBld Tryz.prog 52 [.slice none 0 0, .slice none 0 0, .slice none 0 0, .int .i64 0] [(0, 1), (1, 1), (2, 1), (3, 1)] := tBld_mk Tryz.underlying52 (by kernel_rfl) (z := .agg #[.slice none 0 0, .slice none 0 0, .slice none 0 0, .int .i64 0]) (by kernel_rfl) (by kernel_rfl)
theorem tB25 : TBld Tryz.prog 25 [.int .i64 0, .slice none 0 0, .slice none 0 0, .slice none 0 0] [(0, 1), (1, 1), (2, 1), (3, 1)] := tBld_mk Tryz.underlying25 (by kernel_rfl) (z := .agg #[.int .i64 0, .slice none 0 0, .slice none 0 0, .slice none 0 0]) (by kernel_rfl) (by kernel_rfl)
theorem tF27_0 : FldAt Tryz.prog 27 0 0 := fldAt_mk Tryz.underlying27 (by kernel_rfl)
theorem tS113 : TSl Tryz.prog 113 112 4 48 [.slice none 0 0, .int .i64 0, .int .i64 0, .int .i64 0] := tSl_mk (z := .agg #[.slice none 0 0, .int .i64 0, .int .i64 0, .int .i64 0]) Tryz.underlying113 (by kernel_rfl) rfl
theorem tF112_2 : FldAt Tryz.prog 112 2 2 := fldAt_mk Tryz.underlying112 (by kernel_rfl)
theorem tF112_3 : FldAt Tryz.prog 112 3 3 := fldAt_mk Tryz.underlying112 (by kernel_rfl)
theorem tMI153 : TMapI Tryz.prog 153 .u32 ((fun zE : Option Addr => .pointer zE) (none : Option Addr)) := tMapI_mk Tryz.underlying153 Tryz.underlying62 (by kernel_rfl)
theorem tF161_2 : FldAt Tryz.prog 161 2 2 := fldAt_mk Tryz.underlying161 (by kernel_rfl)
theorem tm163_Less : TMethV Tryz.prog 163 "Less" 161 := tMethV_mk Tryz.underlying163 tO155 (by kernel_rfl)
theorem tMI60 : TMapI Tryz.prog 60 .u32 ((fun zE : Int => .int .i64 zE) 0) := tMapI_mk Tryz.underlying60 Tryz.underlying62 (by kernel_rfl)
theorem tS171 : TSl Tryz.prog 171 4 1 1 [.bool false] := tSl_mk (z := .bool false) Tryz.underlying171 (by kernel_rfl) rfl
theorem tZ171 : TZero Tryz.prog 171 [.slice none 0 0] := tZero_mk (z := .slice none 0 0) (by kernel_rfl) rfl
theorem tO171 : TOne Tryz.prog 171 := tOne_mk Tryz.underlying171 rfl (by kernel_rfl)
theorem tZ22 : TZero Tryz.prog 22 [.slice none 0 0] := tZero_mk (z := .slice none 0 0) (by kernel_rfl) rfl
theorem tO4 : TOne Tryz.prog 4 := tOne_mk Tryz.underlying4 rfl (by kernel_rfl)
theorem tZ3 : TZero Tryz.prog 3 [.int .i64 0] := tZero_mk (z := .int .i64 0) (by kernel_rfl) rfl
theorem tMI107 : TMapI Tryz.prog 107 .i64 ((fun zE : Int => .int .i64 zE) 0) := tMapI_mk Tryz.underlying107 Tryz.underlying3 (by kernel_rfl)
theorem tZ107 : TZero Tryz.prog 107 [.map none] := tZero_mk (z := .map none) (by kernel_rfl) rfl
theorem tO107 : TOne Tryz.prog 107 := tOne_mk Tryz.underlying107 rfl (by kernel_rfl)
theorem tZ68 : TZero Tryz.prog 68 [.slice none 0 0] := tZero_mk (z := .slice none 0 0) (by kernel_rfl) rfl
theorem tO68 : TOne Tryz.prog 68 := tOne_mk Tryz.underlying68 rfl (by kernel_rfl)
theorem tZ34 : TZero Tryz.prog 34 [.bool false, .slice none 0 0, .int .i64 0, .int .i64 0] := tZero_mk (z := .agg #[.bool false, .slice none 0 0, .int .i64 0, .int .i64 0]) (by kernel_rfl) rfl
theorem tB34 : TBld Tryz.prog 34 [.bool false, .slice none 0 0, .int .i64 0, .int .i64 0] [(0, 1), (1, 1), (2, 1), (3, 1)] := tBld_mk Tryz.underlying34 (by kernel_rfl) (z := .agg #[.bool false, .slice none 0 0, .int .i64 0, .int .i64 0]) (by kernel_rfl) (by kernel_rfl)
theorem tA34 : TAgg Tryz.prog 34 4 := tAgg_mk Tryz.underlying34 rfl (by kernel_rfl)
theorem tF34_0 : FldAt Tryz.prog 34 0 0 := fldAt_mk Tryz.underlying34 (by kernel_rfl)
theorem tB112 : TBld Tryz.prog 112 [.slice none 0 0, .int .i64 0, .int .i64 0, .int .i64 0] [(0, 1), (1, 1), (2, 1), (3, 1)] := tBld_mk Tryz.underlying112 (by kernel_rfl) (z := .agg #[.slice none 0 0, .int .i64 0, .int .i64 0, .int .i64 0]) (by kernel_rfl) (by kernel_rfl)
theorem tZ113 : TZero Tryz.prog 113 [.slice none 0 0] := tZero_mk (z := .slice none 0 0) (by kernel_rfl) rfl
theorem tO113 : TOne Tryz.prog 113 := tOne_mk Tryz.underlying113 rfl (by kernel_rfl)
theorem tB117 : TBld Tryz.prog 117 [.pointer none, .slice none 0 0] [(0, 1), (1, 1)] := tBld_mk Tryz.underlying117 (by kernel_rfl) (z := .agg #[.pointer none, .slice none 0 0]) (by kernel_rfl) (by kernel_rfl)
theorem tF117_1 : FldAt Tryz.prog 117 1 1 := fldAt_mk Tryz.underlying117 (by kernel_rfl)
theorem tC114 : TCon Tryz.prog 114 := ⟨_, Tryz.underlying114, rfl⟩
theorem tm114_Len : TMeth Tryz.prog 114 "Len" 53 := tMeth_mk Tryz.underlying114 (by kernel_rfl)
theorem tm114_Swap : TMeth Tryz.prog 114 "Swap" 159 := tMeth_mk Tryz.underlying114 (by kernel_rfl)
theorem tm114_Less : TMeth Tryz.prog 114 "Less" 156 := tMeth_mk Tryz.underlying114 (by kernel_rfl)
theorem tF117_0 : FldAt Tryz.prog 117 0 0 := fldAt_mk Tryz.underlying117 (by kernel_rfl)
theorem tO115 : TOne Tryz.prog 115 := tOne_mk Tryz.underlying115 rfl (by kernel_rfl)
theorem tF112_1 : FldAt Tryz.prog 112 1 1 := fldAt_mk Tryz.underlying112 (by kernel_rfl)
theorem tm114_Pop : TMeth Tryz.prog 114 "Pop" 157 := tMeth_mk Tryz.underlying114 (by kernel_rfl)
theorem tC3 : TCon Tryz.prog 3 := ⟨_, Tryz.underlying3, rfl⟩
theorem tA112 : TAgg Tryz.prog 112 4 := tAgg_mk Tryz.underlying112 rfl (by kernel_rfl)
theorem tZ112 : TZero Tryz.prog 112 [.slice none 0 0, .int .i64 0, .int .i64 0, .int .i64 0] := tZero_mk (z := .agg #[.slice none 0 0, .int .i64 0, .int .i64 0, .int .i64 0]) (by kernel_rfl) rfl
theorem tF112_0 : FldAt Tryz.prog 112 0 0 := fldAt_mk Tryz.underlying112 (by kernel_rfl)
theorem tF34_3 : FldAt Tryz.prog 34 3 3 := fldAt_mk Tryz.underlying34 (by kernel_rfl)
theorem tm114_Push : TMeth Tryz.prog 114 "Push" 158 := tMeth_mk Tryz.underlying114 (by kernel_rfl)
theorem tF34_2 : FldAt Tryz.prog 34 2 2 := fldAt_mk Tryz.underlying34 (by kernel_rfl)
end Go.Proofs.YtimillpakjgnoaaGreat.Pl

namespace Go.Proofs.YtimillpakjgnoaaGreat.Pl
open Go Go.RowKit
def F_isNaN1 (x : Int) (K : Bool → Prop) : Prop :=
 K (x != x)
def F_isNaN2 (x : Int) (K : Bool → Prop) : Prop :=
 K (x != x)
def F_less (x : Int) (y : Int) (K : Bool → Prop) : Prop :=
 ∀ r2 : Bool, r2 = (sp_isNaN1 x) →
 ((r2) = true →
  ∀ r3 : Bool, r3 = (sp_isNaN1 y) →
  ((!r3) = true →
   K true) ∧
  ((!r3) = false →
   K (decide (x < y)))) ∧
 ((r2) = false →
  K (decide (x < y)))
def F_bsearch_L1 (x : List Int) (target : Int) (K : (Int × Bool) → Prop) (i : Int) (j : Int) (I1 : Int → Int → Prop) (μ1 : Int → Int → Nat) : Prop :=
 ((decide (i < j)) = true →
  ∀ x2 : Int, x2 = (Int.fdiv (IntKind.u64.wrap (IntKind.i64.wrap (i + j))) (2 ^ (min ((1 : Int)).toNat (IntKind.bits .u64)))) →
  (inb x (IntKind.i64.wrap (x2))) ∧
  ∀ r2 : Bool, r2 = (sp_less (gt x (IntKind.i64.wrap (x2))) target) →
  ((r2) = true →
   I1 (IntKind.i64.wrap ((IntKind.i64.wrap (x2)) + 1)) j ∧
 μ1 (IntKind.i64.wrap ((IntKind.i64.wrap (x2)) + 1)) j < μ1 i j) ∧
  ((r2) = false →
   I1 i (IntKind.i64.wrap (x2)) ∧
 μ1 i (IntKind.i64.wrap (x2)) < μ1 i j)) ∧
 ((decide (i < j)) = false →
  ((decide (i < ((x.length : Nat) : Int))) = true →
   (inb x i) ∧
   (((gt x i) == target) = true →
    K (i, true)) ∧
   (((gt x i) == target) = false →
    ∀ r3 : Bool, r3 = (sp_isNaN1 (gt x i)) →
    ((r3) = true →
     ∀ r4 : Bool, r4 = (sp_isNaN1 target) →
     K (i, r4)) ∧
    ((r3) = false →
     K (i, false)))) ∧
  ((decide (i < ((x.length : Nat) : Int))) = false →
   K (i, false)))
def F_bsearch (x : List Int) (target : Int) (K : (Int × Bool) → Prop) : Prop :=
 ∃ (I1 : Int → Int → Prop) (μ1 : Int → Int → Nat), I1 0 ((x.length : Nat) : Int) ∧ ∀ (i : Int) (j : Int), I1 i j → F_bsearch_L1 x target K i j I1 μ1
def F_indexF_L1 (s_ : List Int) (pf : Int → Bool) (Df : Int → Prop) (K : Int → Prop) (t8 : Int) (I1 : Int → Prop) (μ1 : Int → Nat) : Prop :=
 ((decide (t8 < ((s_.length : Nat) : Int))) = true →
  (inb s_ t8) ∧
  (Df (gt s_ t8)) ∧
  ∀ r2 : Bool, r2 = (pf (gt s_ t8)) →
  ((r2) = true →
   K t8) ∧
  ((r2) = false →
   I1 (IntKind.i64.wrap (t8 + 1)) ∧
 μ1 (IntKind.i64.wrap (t8 + 1)) < μ1 t8)) ∧
 ((decide (t8 < ((s_.length : Nat) : Int))) = false →
  K (-1))
def F_indexF (s_ : List Int) (pf : Int → Bool) (Df : Int → Prop) (K : Int → Prop) : Prop :=
 ∃ (I1 : Int → Prop) (μ1 : Int → Nat), I1 0 ∧ ∀ (t8 : Int), I1 t8 → F_indexF_L1 s_ pf Df K t8 I1 μ1
def F_containsF (s_ : List Int) (pf : Int → Bool) (Df : Int → Prop) (K : Bool → Prop) : Prop :=
 (pre_any s_ pf Df) ∧
 ∀ r2 : Int, r2 = (sp_indexF s_ pf Df) →
 K (decide (0 ≤ r2))
def F_isSet_J1 (K : Bool → Prop) (t33 : Bool) (t9 : Int) (I1 : Int → Prop) (μ1 : Int → Nat) : Prop :=
 ((t33) = true →
  K false) ∧
 ((t33) = false →
  I1 (IntKind.i64.wrap (t9 + 1)) ∧
 μ1 (IntKind.i64.wrap (t9 + 1)) < μ1 t9)
def F_isSet_L1 (l : List Int) (n_ : Int) (K : Bool → Prop) (t9 : Int) (I1 : Int → Prop) (μ1 : Int → Nat) : Prop :=
 ((decide (t9 < ((l.length : Nat) : Int))) = true →
  (inb l t9) ∧
  ((decide ((gt l t9) < 0)) = true →
   F_isSet_J1 K true t9 I1 μ1) ∧
  ((decide ((gt l t9) < 0)) = false →
   ((decide (n_ ≤ (gt l t9))) = true →
    F_isSet_J1 K true t9 I1 μ1) ∧
   ((decide (n_ ≤ (gt l t9))) = false →
    ((decide (0 < t9)) = true →
     (inb l (IntKind.i64.wrap (t9 - 1))) ∧
     F_isSet_J1 K (decide ((gt l t9) ≤ (gt l (IntKind.i64.wrap (t9 - 1))))) t9 I1 μ1) ∧
    ((decide (0 < t9)) = false →
     F_isSet_J1 K false t9 I1 μ1)))) ∧
 ((decide (t9 < ((l.length : Nat) : Int))) = false →
  K true)
def F_isSet (l : List Int) (n_ : Int) (K : Bool → Prop) : Prop :=
 ∃ (I1 : Int → Prop) (μ1 : Int → Nat), I1 0 ∧ ∀ (t9 : Int), I1 t9 → F_isSet_L1 l n_ K t9 I1 μ1
def F_meets1 (x : Int) (x2 : List Int) (K : Bool → Prop) : Prop :=
 (pre_bsearch x2 x) ∧
 ∀ r2 : Int × Bool, r2 = (sp_bsearch x2 x) →
 K r2.2
def F_meets (a : List Int) (b : List Int) (K : Bool → Prop) : Prop :=
 (pre_any a (fun y_ : Int => sp_meets1 y_ b) (fun y_ : Int => pre_meets1 y_ b)) ∧
 ∀ r2 : Bool, r2 = (sp_any a (fun y_ : Int => sp_meets1 y_ b) (fun y_ : Int => pre_meets1 y_ b)) →
 K r2
def F_operator_J2 (K : Int → Prop) (t32 : Bool) : Prop :=
 ((t32) = true →
  K 3) ∧
 ((t32) = false →
  K 0)
def F_operator_J1 (o : Operator) (K : Int → Prop) (t5 : Bool) : Prop :=
 ((t5) = true →
  K 5) ∧
 ((t5) = false →
  ((decide (o.cost < 0)) = true →
   F_operator_J2 K true) ∧
  ((decide (o.cost < 0)) = false →
   F_operator_J2 K (decide (100 < o.cost))))
def F_operator (o : Operator) (facts : Int) (K : Int → Prop) : Prop :=
 (pre_isSet o.pre facts) ∧
 ∀ r2 : Bool, r2 = (sp_isSet o.pre facts) →
 ((!r2) = true →
  F_operator_J1 o K true) ∧
 ((!r2) = false →
  (pre_isSet o.add facts) ∧
  ∀ r3 : Bool, r3 = (sp_isSet o.add facts) →
  ((!r3) = true →
   F_operator_J1 o K true) ∧
  ((!r3) = false →
   (pre_isSet o.del facts) ∧
   ∀ r4 : Bool, r4 = (sp_isSet o.del facts) →
   ((!r4) = true →
    F_operator_J1 o K true) ∧
   ((!r4) = false →
    (pre_meets o.add o.del) ∧
    ∀ r5 : Bool, r5 = (sp_meets o.add o.del) →
    F_operator_J1 o K r5)))
def F_validate_L1 (t : Task) (K : Fault → Prop) (t41 : Int) (I1 : Int → Prop) (μ1 : Int → Nat) : Prop :=
 ((decide (t41 < ((t.ops.length : Nat) : Int))) = true →
  (inb t.ops t41) ∧
  (pre_operator (gt t.ops t41) t.facts) ∧
  ∀ r4 : Int, r4 = (sp_operator (gt t.ops t41) t.facts) →
  ((r4 != 0) = true →
   K (⟨r4, t41⟩ : Fault)) ∧
  ((r4 != 0) = false →
   I1 (IntKind.i64.wrap (t41 + 1)) ∧
 μ1 (IntKind.i64.wrap (t41 + 1)) < μ1 t41)) ∧
 ((decide (t41 < ((t.ops.length : Nat) : Int))) = false →
  K (⟨0, 0⟩ : Fault))
def F_validate_J1 (t : Task) (K : Fault → Prop) (t6 : Bool) : Prop :=
 ((t6) = true →
  K (⟨3, (-1)⟩ : Fault)) ∧
 ((t6) = false →
  (pre_isSet t.init t.facts) ∧
  ∀ r2 : Bool, r2 = (sp_isSet t.init t.facts) →
  ((!r2) = true →
   K (⟨5, (-2)⟩ : Fault)) ∧
  ((!r2) = false →
   (pre_isSet t.goal t.facts) ∧
   ∀ r3 : Bool, r3 = (sp_isSet t.goal t.facts) →
   ((!r3) = true →
    K (⟨5, (-3)⟩ : Fault)) ∧
   ((!r3) = false →
    ((decide (40 < ((t.ops.length : Nat) : Int))) = true →
     K (⟨2, (-1)⟩ : Fault)) ∧
    ((decide (40 < ((t.ops.length : Nat) : Int))) = false →
     ∃ (I1 : Int → Prop) (μ1 : Int → Nat), I1 0 ∧ ∀ (t41 : Int), I1 t41 → F_validate_L1 t K t41 I1 μ1))))
def F_validate (t : Task) (K : Fault → Prop) : Prop :=
 ((decide (t.facts < 0)) = true →
  F_validate_J1 t K true) ∧
 ((decide (t.facts < 0)) = false →
  F_validate_J1 t K (decide (24 < t.facts)))
def F_steps_J1 (K : Fault → Prop) (t23 : Bool) (t13 : Int) (I1 : Int → Prop) (μ1 : Int → Nat) : Prop :=
 ((t23) = true →
  K (⟨3, (-6)⟩ : Fault)) ∧
 ((t23) = false →
  I1 (IntKind.i64.wrap (t13 + 1)) ∧
 μ1 (IntKind.i64.wrap (t13 + 1)) < μ1 t13)
def F_steps_L1 (operators : Int) (plan : List Int) (K : Fault → Prop) (t13 : Int) (I1 : Int → Prop) (μ1 : Int → Nat) : Prop :=
 ((decide (t13 < ((plan.length : Nat) : Int))) = true →
  (inb plan t13) ∧
  ((decide ((gt plan t13) < 0)) = true →
   F_steps_J1 K true t13 I1 μ1) ∧
  ((decide ((gt plan t13) < 0)) = false →
   F_steps_J1 K (decide (operators ≤ (gt plan t13))) t13 I1 μ1)) ∧
 ((decide (t13 < ((plan.length : Nat) : Int))) = false →
  K (⟨0, 0⟩ : Fault))
def F_steps (operators : Int) (plan : List Int) (K : Fault → Prop) : Prop :=
 ((decide (60 < ((plan.length : Nat) : Int))) = true →
  K (⟨2, (-5)⟩ : Fault)) ∧
 ((decide (60 < ((plan.length : Nat) : Int))) = false →
  ∃ (I1 : Int → Prop) (μ1 : Int → Nat), I1 0 ∧ ∀ (t13 : Int), I1 t13 → F_steps_L1 operators plan K t13 I1 μ1)
def F_planFault (t : Task) (plan : List Int) (K : Fault → Prop) : Prop :=
 ∀ r2 : Fault, r2 = (sp_validate t) →
 ((!((r2.code == 0) && (r2.index == 0))) = true →
  K r2) ∧
 ((!((r2.code == 0) && (r2.index == 0))) = false →
  (pre_steps ((t.ops.length : Nat) : Int) plan) ∧
  ∀ r3 : Fault, r3 = (sp_steps ((t.ops.length : Nat) : Int) plan) →
  K r3)
def F_clone (s_ : List Int) (K : (List Int) → Prop) : Prop :=
 (s_ = [] → 
  K ([] : List Int)) ∧
 (room ((([] : List Int) ++ s_)).length 8) ∧
 K (([] : List Int) ++ s_)
def F_cloneO (s_ : List Int) (K : (List Int) → Prop) : Prop :=
 (s_ = [] → 
  K ([] : List Int)) ∧
 (room ((([] : List Int) ++ s_)).length 8) ∧
 K (([] : List Int) ++ s_)
def F_update_J1 (out : List Int) (t14 : Int) (I1 : Int → (List Int) → Prop) (μ1 : Int → (List Int) → Nat) (out3 : List Int) : Prop :=
 I1 (IntKind.i64.wrap (t14 + 1)) out3 ∧
 μ1 (IntKind.i64.wrap (t14 + 1)) out3 < μ1 t14 out
def F_update_L1 (s_ : List Int) (add : List Int) (del : List Int) (K : (List Int) → Prop) (out : List Int) (t14 : Int) (I1 : Int → (List Int) → Prop) (μ1 : Int → (List Int) → Nat) : Prop :=
 ((decide (t14 < ((s_.length : Nat) : Int))) = true →
  (inb s_ t14) ∧
  (pre_bsearch del (gt s_ t14)) ∧
  ∀ r2 : Int × Bool, r2 = (sp_bsearch del (gt s_ t14)) →
  ((!r2.2) = true →
   (room ((out ++ ([(gt s_ t14)] : List Int))).length 8) ∧
   F_update_J1 out t14 I1 μ1 (out ++ ([(gt s_ t14)] : List Int))) ∧
  ((!r2.2) = false →
   F_update_J1 out t14 I1 μ1 out)) ∧
 ((decide (t14 < ((s_.length : Nat) : Int))) = false →
  (room ((out ++ add)).length 8) ∧
  (pre_sort (out ++ add)) ∧
  ∀ r3 : List Int, r3 = (sp_sort (out ++ add)) →
  (pre_compact r3) ∧
  ∀ r4 : List Int, r4 = (sp_compact r3) →
  K r4)
def F_update (s_ : List Int) (add : List Int) (del : List Int) (K : (List Int) → Prop) : Prop :=
 ∃ (I1 : Int → (List Int) → Prop) (μ1 : Int → (List Int) → Nat), I1 0 ([] : List Int) ∧ ∀ (t14 : Int) (out : List Int), I1 t14 out → F_update_L1 s_ add del K out t14 I1 μ1
def F_contains2_J2 (K : Bool → Prop) (i : Int) (t39 : Bool) (t10 : Int) (i3 : Int) (I1 : Int → Int → Prop) (μ1 : Int → Int → Nat) : Prop :=
 ((t39) = true →
  K false) ∧
 ((t39) = false →
  I1 i3 (IntKind.i64.wrap (t10 + 1)) ∧
 μ1 i3 (IntKind.i64.wrap (t10 + 1)) < μ1 i t10)
def F_contains2_J1 (s_ : List Int) (part : List Int) (K : Bool → Prop) (t25 : Bool) (i : Int) (I2 : Int → Prop) (μ2 : Int → Nat) (t10 : Int) (i3 : Int) (I1 : Int → Int → Prop) (μ1 : Int → Int → Nat) : Prop :=
 ((t25) = true →
  I2 (IntKind.i64.wrap (i3 + 1)) ∧
 μ2 (IntKind.i64.wrap (i3 + 1)) < μ2 i3) ∧
 ((t25) = false →
  ((i3 == ((s_.length : Nat) : Int)) = true →
   F_contains2_J2 K i true t10 i3 I1 μ1) ∧
  ((i3 == ((s_.length : Nat) : Int)) = false →
   (inb s_ i3) ∧
   F_contains2_J2 K i ((gt s_ i3) != (gt part t10)) t10 i3 I1 μ1))
def F_contains2_L2 (s_ : List Int) (part : List Int) (K : Bool → Prop) (i : Int) (I2 : Int → Prop) (μ2 : Int → Nat) (t10 : Int) (i3 : Int) (I1 : Int → Int → Prop) (μ1 : Int → Int → Nat) : Prop :=
 ((decide (i3 < ((s_.length : Nat) : Int))) = true →
  (inb s_ i3) ∧
  F_contains2_J1 s_ part K (decide ((gt s_ i3) < (gt part t10))) i I2 μ2 t10 i3 I1 μ1) ∧
 ((decide (i3 < ((s_.length : Nat) : Int))) = false →
  F_contains2_J1 s_ part K false i I2 μ2 t10 i3 I1 μ1)
def F_contains2_L1 (s_ : List Int) (part : List Int) (K : Bool → Prop) (i : Int) (t10 : Int) (I1 : Int → Int → Prop) (μ1 : Int → Int → Nat) : Prop :=
 ((decide (t10 < ((part.length : Nat) : Int))) = true →
  (inb part t10) ∧
  ∃ (I2 : Int → Prop) (μ2 : Int → Nat), I2 i ∧ ∀ (i3 : Int), I2 i3 → F_contains2_L2 s_ part K i I2 μ2 t10 i3 I1 μ1) ∧
 ((decide (t10 < ((part.length : Nat) : Int))) = false →
  K true)
def F_contains2 (s_ : List Int) (part : List Int) (K : Bool → Prop) : Prop :=
 ∃ (I1 : Int → Int → Prop) (μ1 : Int → Int → Nat), I1 0 0 ∧ ∀ (i : Int) (t10 : Int), I1 i t10 → F_contains2_L1 s_ part K i t10 I1 μ1
def F_can (t : Task) (s_ : List Int) (op : Int) (K : Bool → Prop) : Prop :=
 (inb t.ops op) ∧
 (pre_contains2 s_ ((gt t.ops op).pre)) ∧
 ∀ r2 : Bool, r2 = (sp_contains2 s_ ((gt t.ops op).pre)) →
 K r2
def F_next (t : Task) (s_ : List Int) (op : Int) (K : (List Int) → Prop) : Prop :=
 (inb t.ops op) ∧
 (pre_update s_ ((gt t.ops op).add) ((gt t.ops op).del)) ∧
 ∀ r2 : List Int, r2 = (sp_update s_ ((gt t.ops op).add) ((gt t.ops op).del)) →
 K r2
def F_srun_L1 (t : Task) (plan : List Int) (K : (List (List Int)) → Prop) (s_2 : List Int) (t15 : Int) (out : List (List Int)) (I1 : (List Int) → Int → (List (List Int)) → Prop) (μ1 : (List Int) → Int → (List (List Int)) → Nat) : Prop :=
 ((decide (t15 < ((plan.length : Nat) : Int))) = true →
  (inb plan t15) ∧
  (pre_can t s_2 (gt plan t15)) ∧
  ∀ r3 : Bool, r3 = (sp_applies t s_2 (gt plan t15)) →
  ((!r3) = true →
   K out) ∧
  ((!r3) = false →
   (pre_next t s_2 (gt plan t15)) ∧
   ∀ r4 : List Int, r4 = (sp_after t s_2 (gt plan t15)) →
   (room ((out ++ ([r4] : List (List Int)))).length 24) ∧
   I1 r4 (IntKind.i64.wrap (t15 + 1)) (out ++ ([r4] : List (List Int))) ∧
 μ1 r4 (IntKind.i64.wrap (t15 + 1)) (out ++ ([r4] : List (List Int))) < μ1 s_2 t15 out)) ∧
 ((decide (t15 < ((plan.length : Nat) : Int))) = false →
  K out)
def F_srun (t : Task) (s_ : List Int) (plan : List Int) (K : (List (List Int)) → Prop) : Prop :=
 (pre_clone s_) ∧
 ∀ r2 : List Int, r2 = (sp_clone s_) →
 ∃ (I1 : (List Int) → Int → (List (List Int)) → Prop) (μ1 : (List Int) → Int → (List (List Int)) → Nat), I1 s_ 0 ([r2] : List (List Int)) ∧ ∀ (s_2 : List Int) (t15 : Int) (out : List (List Int)), I1 s_2 t15 out → F_srun_L1 t plan K s_2 t15 out I1 μ1
def F_works (t : Task) (s_ : List Int) (plan : List Int) (K : Bool → Prop) : Prop :=
 (pre_srun t s_ plan) ∧
 ∀ r2 : List (List Int), r2 = (sp_srun t s_ plan) →
 ∀ x : Bool, x = (((r2.length : Nat) : Int) == (IntKind.i64.wrap (((plan.length : Nat) : Int) + 1))) →
 ((x) = true →
  (inb r2 ((plan.length : Nat) : Int)) ∧
  (pre_contains2 (gt r2 ((plan.length : Nat) : Int)) t.goal) ∧
  ∀ r3 : Bool, r3 = (sp_contains2 (gt r2 ((plan.length : Nat) : Int)) t.goal) →
  K r3) ∧
 ((x) = false →
  K false)
def F_solves (t : Task) (plan : List Int) (K : (Bool × Fault) → Prop) : Prop :=
 ∀ r2 : Fault, r2 = (sp_planFault t plan) →
 ((!((r2.code == 0) && (r2.index == 0))) = true →
  K (false, r2)) ∧
 ((!((r2.code == 0) && (r2.index == 0))) = false →
  (pre_works t t.init plan) ∧
  ∀ r3 : Bool, r3 = (sp_rworks t t.init plan) →
  K (r3, (⟨0, 0⟩ : Fault)))
def F_compare (x : Int) (y : Int) (K : Int → Prop) : Prop :=
 ∀ r2 : Bool, r2 = (sp_isNaN1 x) →
 ∀ r3 : Bool, r3 = (sp_isNaN1 y) →
 ((r2) = true →
  ((r3) = true →
   K 0) ∧
  ((r3) = false →
   K (-1))) ∧
 ((r2) = false →
  ((r3) = true →
   K 1) ∧
  ((r3) = false →
   ((decide (x < y)) = true →
    K (-1)) ∧
   ((decide (x < y)) = false →
    ((decide (y < x)) = true →
     K 1) ∧
    ((decide (y < x)) = false →
     K 0))))
def F_scompare_L1 (s1 : List Int) (s2 : List Int) (K : Int → Prop) (t11 : Int) (I1 : Int → Prop) (μ1 : Int → Nat) : Prop :=
 ((decide (t11 < ((s1.length : Nat) : Int))) = true →
  (inb s1 t11) ∧
  ((decide (((s2.length : Nat) : Int) ≤ t11)) = true →
   K 1) ∧
  ((decide (((s2.length : Nat) : Int) ≤ t11)) = false →
   (inb s2 t11) ∧
   ∀ r2 : Int, r2 = (sp_compare (gt s1 t11) (gt s2 t11)) →
   ((r2 != 0) = true →
    K r2) ∧
   ((r2 != 0) = false →
    I1 (IntKind.i64.wrap (t11 + 1)) ∧
 μ1 (IntKind.i64.wrap (t11 + 1)) < μ1 t11))) ∧
 ((decide (t11 < ((s1.length : Nat) : Int))) = false →
  ((decide (((s1.length : Nat) : Int) < ((s2.length : Nat) : Int))) = true →
   K (-1)) ∧
  ((decide (((s1.length : Nat) : Int) < ((s2.length : Nat) : Int))) = false →
   K 0))
def F_scompare (s1 : List Int) (s2 : List Int) (K : Int → Prop) : Prop :=
 ∃ (I1 : Int → Prop) (μ1 : Int → Nat), I1 0 ∧ ∀ (t11 : Int), I1 t11 → F_scompare_L1 s1 s2 K t11 I1 μ1
def F_word_L1 (s_ : List Int) (K : Int → Prop) (w_ : Int) (t8 : Int) (I1 : Int → Int → Prop) (μ1 : Int → Int → Nat) : Prop :=
 ((decide (t8 < ((s_.length : Nat) : Int))) = true →
  (inb s_ t8) ∧
  (0 ≤ (gt s_ t8)) ∧
  ∀ x : Int, x = (IntKind.u32.wrap (1 * 2 ^ (min (((gt s_ t8) : Int)).toNat (IntKind.bits .u32)))) →
  I1 (bits .or .u32 w_ x) (IntKind.i64.wrap (t8 + 1)) ∧
 μ1 (bits .or .u32 w_ x) (IntKind.i64.wrap (t8 + 1)) < μ1 w_ t8) ∧
 ((decide (t8 < ((s_.length : Nat) : Int))) = false →
  K w_)
def F_word (s_ : List Int) (K : Int → Prop) : Prop :=
 ∃ (I1 : Int → Int → Prop) (μ1 : Int → Int → Nat), I1 0 0 ∧ ∀ (w_ : Int) (t8 : Int), I1 w_ t8 → F_word_L1 s_ K w_ t8 I1 μ1
def F_facts_J1 (out : List Int) (t5 : Int) (I1 : Int → (List Int) → Prop) (μ1 : Int → (List Int) → Nat) (out3 : List Int) : Prop :=
 I1 (IntKind.i64.wrap (t5 + 1)) out3 ∧
 μ1 (IntKind.i64.wrap (t5 + 1)) out3 < μ1 t5 out
def F_facts_L1 (w_ : Int) (K : (List Int) → Prop) (out : List Int) (t5 : Int) (I1 : Int → (List Int) → Prop) (μ1 : Int → (List Int) → Nat) : Prop :=
 ((decide (t5 < 32)) = true →
  (0 ≤ t5) ∧
  ∀ x : Int, x = (bits .and .u32 (Int.fdiv w_ (2 ^ (min ((t5 : Int)).toNat (IntKind.bits .u32)))) 1) →
  ((x == 1) = true →
   (room ((out ++ ([t5] : List Int))).length 8) ∧
   F_facts_J1 out t5 I1 μ1 (out ++ ([t5] : List Int))) ∧
  ((x == 1) = false →
   F_facts_J1 out t5 I1 μ1 out)) ∧
 ((decide (t5 < 32)) = false →
  K out)
def F_facts (w_ : Int) (K : (List Int) → Prop) : Prop :=
 ∃ (I1 : Int → (List Int) → Prop) (μ1 : Int → (List Int) → Nat), I1 0 ([] : List Int) ∧ ∀ (t5 : Int) (out : List Int), I1 t5 out → F_facts_L1 w_ K out t5 I1 μ1
def F_wcmp (a : Int) (b : Int) (K : Int → Prop) : Prop :=
 (pre_facts a) ∧
 ∀ r2 : List Int, r2 = (sp_facts a) →
 (pre_facts b) ∧
 ∀ r3 : List Int, r3 = (sp_facts b) →
 (pre_scompare r2 r3) ∧
 ∀ r4 : Int, r4 = (sp_scompare r2 r3) →
 K r4
def F_all_J1 (t11 : Int) (m4 : List (Int × Unit)) (I2 : Int → (List Int) → (List (Int × Unit)) → Prop) (μ2 : Int → (List Int) → (List (Int × Unit)) → Nat) (l4 : List Int) (m6 : List (Int × Unit)) (l6 : List Int) : Prop :=
 I2 (IntKind.i64.wrap (t11 + 1)) l6 m6 ∧
 μ2 (IntKind.i64.wrap (t11 + 1)) l6 m6 < μ2 t11 l4 m4
def F_all_L2 (x : WordsT) (K : (List Int × Bool) → Prop) (m2 : List (Int × Unit)) (t11 : Int) (m4 : List (Int × Unit)) (I2 : Int → (List Int) → (List (Int × Unit)) → Prop) (μ2 : Int → (List Int) → (List (Int × Unit)) → Nat) (l4 : List Int) (out : List Int) (l : List Int) (I1 : (List Int) → (List Int) → (List (Int × Unit)) → Prop) (μ1 : (List Int) → (List Int) → (List (Int × Unit)) → Nat) : Prop :=
 ((decide (t11 < ((x.ops.length : Nat) : Int))) = true →
  (inb x.ops t11) ∧
  ∀ x2 : Int, x2 = (bits .and .u32 (gt l (IntKind.i64.wrap (((l.length : Nat) : Int) - 1))) ((gt x.ops t11).pre)) →
  ((x2 == ((gt x.ops t11).pre)) = true →
   ∀ x3 : Int, x3 = (bits .andNot .u32 (gt l (IntKind.i64.wrap (((l.length : Nat) : Int) - 1))) ((gt x.ops t11).del)) →
   ((!((getA m4 (bits .or .u32 x3 ((gt x.ops t11).add))).isSome)) = true →
    ∀ m7 : List (Int × Unit), m7 = (setA m4 (bits .or .u32 x3 ((gt x.ops t11).add)) ()) →
    (room ((l4 ++ ([bits .or .u32 x3 ((gt x.ops t11).add)] : List Int))).length 4) ∧
    F_all_J1 t11 m4 I2 μ2 l4 m7 (l4 ++ ([bits .or .u32 x3 ((gt x.ops t11).add)] : List Int))) ∧
   ((!((getA m4 (bits .or .u32 x3 ((gt x.ops t11).add))).isSome)) = false →
    F_all_J1 t11 m4 I2 μ2 l4 m4 l4)) ∧
  ((x2 == ((gt x.ops t11).pre)) = false →
   F_all_J1 t11 m4 I2 μ2 l4 m4 l4)) ∧
 ((decide (t11 < ((x.ops.length : Nat) : Int))) = false →
  ((decide (2000 < ((m4.length : Nat) : Int))) = true →
   K (([] : List Int), false)) ∧
  ((decide (2000 < ((m4.length : Nat) : Int))) = false →
   I1 (out ++ ([(gt l (IntKind.i64.wrap (((l.length : Nat) : Int) - 1)))] : List Int)) l4 m4 ∧
 μ1 (out ++ ([(gt l (IntKind.i64.wrap (((l.length : Nat) : Int) - 1)))] : List Int)) l4 m4 < μ1 out l m2))
def F_all_L1 (x : WordsT) (K : (List Int × Bool) → Prop) (m2 : List (Int × Unit)) (out : List Int) (l : List Int) (I1 : (List Int) → (List Int) → (List (Int × Unit)) → Prop) (μ1 : (List Int) → (List Int) → (List (Int × Unit)) → Nat) : Prop :=
 ((decide (0 < ((l.length : Nat) : Int))) = true →
  (inb l (IntKind.i64.wrap (((l.length : Nat) : Int) - 1))) ∧
  (0 ≤ (IntKind.i64.wrap (((l.length : Nat) : Int) - 1)) ∧ (IntKind.i64.wrap (((l.length : Nat) : Int) - 1)) ≤ ((l.length : Nat) : Int)) ∧
  ∀ d : List Int, d = (l.take (IntKind.i64.wrap (((l.length : Nat) : Int) - 1)).toNat) →
  (room ((out ++ ([(gt l (IntKind.i64.wrap (((l.length : Nat) : Int) - 1)))] : List Int))).length 4) ∧
  ∃ (I2 : Int → (List Int) → (List (Int × Unit)) → Prop) (μ2 : Int → (List Int) → (List (Int × Unit)) → Nat), I2 0 d m2 ∧ ∀ (t11 : Int) (l4 : List Int) (m4 : List (Int × Unit)), I2 t11 l4 m4 → F_all_L2 x K m2 t11 m4 I2 μ2 l4 out l I1 μ1) ∧
 ((decide (0 < ((l.length : Nat) : Int))) = false →
  K (out, true))
def F_all (x : WordsT) (K : (List Int × Bool) → Prop) : Prop :=
 ∀ m : List (Int × Unit), m = (setA ([] : List (Int × Unit)) x.start ()) →
 ∃ (I1 : (List Int) → (List Int) → (List (Int × Unit)) → Prop) (μ1 : (List Int) → (List Int) → (List (Int × Unit)) → Nat), I1 ([] : List Int) ([x.start] : List Int) m ∧ ∀ (out : List Int) (l : List Int) (m2 : List (Int × Unit)), I1 out l m2 → F_all_L1 x K m2 out l I1 μ1
def F_optimalK (t : Task) (K : (Int × Fault) → Prop) : Prop :=
 (t = (⟨2, ([0] : List Int), ([1] : List Int), ([(⟨([0] : List Int), ([1] : List Int), ([0] : List Int), 3⟩ : Operator)] : List Operator)⟩ : Task)) ∧
 ∀ r2 : Fault, r2 = (sp_validate (⟨2, ([0] : List Int), ([1] : List Int), ([(⟨([0] : List Int), ([1] : List Int), ([0] : List Int), 3⟩ : Operator)] : List Operator)⟩ : Task)) →
 (pre_word ([0] : List Int)) ∧
 ∀ r3 : Int, r3 = (sp_word ([0] : List Int)) →
 (pre_word ([1] : List Int)) ∧
 ∀ r4 : Int, r4 = (sp_word ([1] : List Int)) →
 ∀ r5 : Int, r5 = (sp_word ([0] : List Int)) →
 ∀ r6 : Int, r6 = (sp_word ([1] : List Int)) →
 ∀ r7 : Int, r7 = (sp_word ([0] : List Int)) →
 (pre_all (⟨1, 2, ([(⟨1, 2, 1, 3⟩ : Masks)] : List Masks)⟩ : WordsT)) ∧
 ∀ r8 : List Int × Bool, r8 = (sp_all (⟨1, 2, ([(⟨1, 2, 1, 3⟩ : Masks)] : List Masks)⟩ : WordsT)) →
 (pre_sortW ([1, 2] : List Int)) ∧
 ∀ r9 : List Int, r9 = (sp_sortW ([1, 2] : List Int)) →
 K (3, (⟨0, 0⟩ : Fault))
def F_kernWorks (K : Bool → Prop) : Prop :=
 (pre_optimalK (⟨2, ([0] : List Int), ([1] : List Int), ([(⟨([0] : List Int), ([1] : List Int), ([0] : List Int), 3⟩ : Operator)] : List Operator)⟩ : Task)) ∧
 ∀ r2 : Int × Fault, r2 = (sp_optimalK (⟨2, ([0] : List Int), ([1] : List Int), ([(⟨([0] : List Int), ([1] : List Int), ([0] : List Int), 3⟩ : Operator)] : List Operator)⟩ : Task)) →
 ∀ r3 : Bool × Fault, r3 = (sp_solves (⟨2, ([0] : List Int), ([1] : List Int), ([(⟨([0] : List Int), ([1] : List Int), ([0] : List Int), 3⟩ : Operator)] : List Operator)⟩ : Task) ([0] : List Int)) →
 K true
def F_index_L1 (s_ : List Int) (v : Int) (K : Int → Prop) (t8 : Int) (I1 : Int → Prop) (μ1 : Int → Nat) : Prop :=
 ((decide (t8 < ((s_.length : Nat) : Int))) = true →
  (inb s_ t8) ∧
  ((v == (gt s_ t8)) = true →
   K t8) ∧
  ((v == (gt s_ t8)) = false →
   I1 (IntKind.i64.wrap (t8 + 1)) ∧
 μ1 (IntKind.i64.wrap (t8 + 1)) < μ1 t8)) ∧
 ((decide (t8 < ((s_.length : Nat) : Int))) = false →
  K (-1))
def F_index (s_ : List Int) (v : Int) (K : Int → Prop) : Prop :=
 ∃ (I1 : Int → Prop) (μ1 : Int → Nat), I1 0 ∧ ∀ (t8 : Int), I1 t8 → F_index_L1 s_ v K t8 I1 μ1
def F_contains (s_ : List Int) (v : Int) (K : Bool → Prop) : Prop :=
 (pre_index s_ v) ∧
 ∀ r2 : Int, r2 = (sp_index s_ v) →
 K (decide (0 ≤ r2))
def F_reverse_L1 (K : (List Int) → Prop) (i : Int) (j : Int) (s_2 : List Int) (I1 : Int → Int → (List Int) → Prop) (μ1 : Int → Int → (List Int) → Nat) : Prop :=
 ((decide (i < j)) = true →
  (inb s_2 j) ∧
  (inb s_2 i) ∧
  ∀ d : List Int, d = (s_2.set (i).toNat (gt s_2 j)) →
  (inb d j) ∧
  ∀ d2 : List Int, d2 = (d.set (j).toNat (gt s_2 i)) →
  I1 (IntKind.i64.wrap (i + 1)) (IntKind.i64.wrap (j - 1)) d2 ∧
 μ1 (IntKind.i64.wrap (i + 1)) (IntKind.i64.wrap (j - 1)) d2 < μ1 i j s_2) ∧
 ((decide (i < j)) = false →
  K s_2)
def F_reverse (s_ : List Int) (K : (List Int) → Prop) : Prop :=
 ∃ (I1 : Int → Int → (List Int) → Prop) (μ1 : Int → Int → (List Int) → Nat), I1 0 (IntKind.i64.wrap (((s_.length : Nat) : Int) - 1)) s_ ∧ ∀ (i : Int) (j : Int) (s_2 : List Int), I1 i j s_2 → F_reverse_L1 K i j s_2 I1 μ1
def F_shifted_L1 (s_ : List Int) (n_ : Int) (K : (List Int) → Prop) (t10 : Int) (out : List Int) (I1 : Int → (List Int) → Prop) (μ1 : Int → (List Int) → Nat) : Prop :=
 ((decide (t10 < ((s_.length : Nat) : Int))) = true →
  (inb s_ t10) ∧
  (room ((out ++ ([IntKind.i64.wrap ((gt s_ t10) + n_)] : List Int))).length 8) ∧
  I1 (IntKind.i64.wrap (t10 + 1)) (out ++ ([IntKind.i64.wrap ((gt s_ t10) + n_)] : List Int)) ∧
 μ1 (IntKind.i64.wrap (t10 + 1)) (out ++ ([IntKind.i64.wrap ((gt s_ t10) + n_)] : List Int)) < μ1 t10 out) ∧
 ((decide (t10 < ((s_.length : Nat) : Int))) = false →
  K out)
def F_shifted (s_ : List Int) (n_ : Int) (K : (List Int) → Prop) : Prop :=
 ∃ (I1 : Int → (List Int) → Prop) (μ1 : Int → (List Int) → Nat), I1 0 ([] : List Int) ∧ ∀ (t10 : Int) (out : List Int), I1 t10 out → F_shifted_L1 s_ n_ K t10 out I1 μ1
def F_product_L2 (a : Task) (b : Task) (K : (Task × Fault) → Prop) (l : List Int) (l2 : List Int) (r7 : List Int) (r8 : List Int) (t74 : Int) (l5 : List Operator) (I2 : Int → (List Operator) → Prop) (μ2 : Int → (List Operator) → Nat) : Prop :=
 ((decide (t74 < ((b.ops.length : Nat) : Int))) = true →
  (inb b.ops t74) ∧
  (pre_shifted ((gt b.ops t74).pre) a.facts) ∧
  ∀ r9 : List Int, r9 = (sp_shifted ((gt b.ops t74).pre) a.facts) →
  (pre_shifted ((gt b.ops t74).add) a.facts) ∧
  ∀ r10 : List Int, r10 = (sp_shifted ((gt b.ops t74).add) a.facts) →
  (pre_shifted ((gt b.ops t74).del) a.facts) ∧
  ∀ r11 : List Int, r11 = (sp_shifted ((gt b.ops t74).del) a.facts) →
  (room ((l5 ++ ([(⟨r9, r10, r11, (gt b.ops t74).cost⟩ : Operator)] : List Operator))).length 80) ∧
  I2 (IntKind.i64.wrap (t74 + 1)) (l5 ++ ([(⟨r9, r10, r11, (gt b.ops t74).cost⟩ : Operator)] : List Operator)) ∧
 μ2 (IntKind.i64.wrap (t74 + 1)) (l5 ++ ([(⟨r9, r10, r11, (gt b.ops t74).cost⟩ : Operator)] : List Operator)) < μ2 t74 l5) ∧
 ((decide (t74 < ((b.ops.length : Nat) : Int))) = false →
  K ((⟨IntKind.i64.wrap (a.facts + b.facts), (l ++ r7), (l2 ++ r8), l5⟩ : Task), (⟨0, 0⟩ : Fault)))
def F_product_L1 (a : Task) (b : Task) (K : (Task × Fault) → Prop) (l : List Int) (l2 : List Int) (t18 : Int) (l3 : List Operator) (I1 : Int → (List Operator) → Prop) (μ1 : Int → (List Operator) → Nat) : Prop :=
 ((decide (t18 < ((a.ops.length : Nat) : Int))) = true →
  (inb a.ops t18) ∧
  (pre_clone ((gt a.ops t18).pre)) ∧
  ∀ r4 : List Int, r4 = (sp_clone ((gt a.ops t18).pre)) →
  (pre_clone ((gt a.ops t18).add)) ∧
  ∀ r5 : List Int, r5 = (sp_clone ((gt a.ops t18).add)) →
  (pre_clone ((gt a.ops t18).del)) ∧
  ∀ r6 : List Int, r6 = (sp_clone ((gt a.ops t18).del)) →
  (room ((l3 ++ ([(⟨r4, r5, r6, (gt a.ops t18).cost⟩ : Operator)] : List Operator))).length 80) ∧
  I1 (IntKind.i64.wrap (t18 + 1)) (l3 ++ ([(⟨r4, r5, r6, (gt a.ops t18).cost⟩ : Operator)] : List Operator)) ∧
 μ1 (IntKind.i64.wrap (t18 + 1)) (l3 ++ ([(⟨r4, r5, r6, (gt a.ops t18).cost⟩ : Operator)] : List Operator)) < μ1 t18 l3) ∧
 ((decide (t18 < ((a.ops.length : Nat) : Int))) = false →
  (pre_shifted b.init a.facts) ∧
  ∀ r7 : List Int, r7 = (sp_shifted b.init a.facts) →
  (room ((l ++ r7)).length 8) ∧
  (pre_shifted b.goal a.facts) ∧
  ∀ r8 : List Int, r8 = (sp_shifted b.goal a.facts) →
  (room ((l2 ++ r8)).length 8) ∧
  ∃ (I2 : Int → (List Operator) → Prop) (μ2 : Int → (List Operator) → Nat), I2 0 l3 ∧ ∀ (t74 : Int) (l5 : List Operator), I2 t74 l5 → F_product_L2 a b K l l2 r7 r8 t74 l5 I2 μ2)
def F_product_J2 (a : Task) (b : Task) (K : (Task × Fault) → Prop) (l : List Int) (l2 : List Int) : Prop :=
 ∃ (I1 : Int → (List Operator) → Prop) (μ1 : Int → (List Operator) → Nat), I1 0 ([] : List Operator) ∧ ∀ (t18 : Int) (l3 : List Operator), I1 t18 l3 → F_product_L1 a b K l l2 t18 l3 I1 μ1
def F_product_J1 (a : Task) (b : Task) (K : (Task × Fault) → Prop) (t44 : Bool) : Prop :=
 ((t44) = true →
  K ((⟨0, [], [], []⟩ : Task), (⟨10, (-8)⟩ : Fault))) ∧
 ((t44) = false →
  (pre_clone a.init) ∧
  ∀ r12 : List Int, r12 = (sp_clone a.init) →
  (pre_clone a.goal) ∧
  ∀ r13 : List Int, r13 = (sp_clone a.goal) →
  F_product_J2 a b K r12 r13)
def F_product (a : Task) (b : Task) (K : (Task × Fault) → Prop) : Prop :=
 ∀ r2 : Fault, r2 = (sp_validate a) →
 ((!((r2.code == 0) && (r2.index == 0))) = true →
  K ((⟨0, [], [], []⟩ : Task), r2)) ∧
 ((!((r2.code == 0) && (r2.index == 0))) = false →
  ∀ r3 : Fault, r3 = (sp_validate b) →
  ((!((r3.code == 0) && (r3.index == 0))) = true →
   K ((⟨0, [], [], []⟩ : Task), (⟨r3.code, (-9)⟩ : Fault))) ∧
  ((!((r3.code == 0) && (r3.index == 0))) = false →
   ((decide (24 < (IntKind.i64.wrap (a.facts + b.facts)))) = true →
    F_product_J1 a b K true) ∧
   ((decide (24 < (IntKind.i64.wrap (a.facts + b.facts)))) = false →
    ∀ x : Int, x = (IntKind.i64.wrap (((a.ops.length : Nat) : Int) + ((b.ops.length : Nat) : Int))) →
    F_product_J1 a b K (decide (40 < x)))))
def F_freeOp (x : Operator) (y : Operator) (K : Bool → Prop) : Prop :=
 (pre_meets x.add y.pre) ∧
 ∀ r2 : Bool, r2 = (sp_meets x.add y.pre) →
 ((!r2) = true →
  (pre_meets x.del y.pre) ∧
  ∀ r3 : Bool, r3 = (sp_meets x.del y.pre) →
  ((!r3) = true →
   (pre_meets x.add y.del) ∧
   ∀ r4 : Bool, r4 = (sp_meets x.add y.del) →
   K (!r4)) ∧
  ((!r3) = false →
   K false)) ∧
 ((!r2) = false →
  K false)
def F_indep (a : Operator) (b : Operator) (K : Bool → Prop) : Prop :=
 (pre_freeOp a b) ∧
 ∀ r2 : Bool, r2 = (sp_freeOp a b) →
 ((r2) = true →
  (pre_freeOp b a) ∧
  ∀ r3 : Bool, r3 = (sp_freeOp b a) →
  K r3) ∧
 ((r2) = false →
  K false)
def F_missingF_L1 (s_ : List Int) (want : List Int) (K : Int → Prop) (t11 : Int) (I1 : Int → Prop) (μ1 : Int → Nat) : Prop :=
 ((decide (t11 < ((want.length : Nat) : Int))) = true →
  (inb want t11) ∧
  (pre_bsearch s_ (gt want t11)) ∧
  ∀ r2 : Int × Bool, r2 = (sp_bsearch s_ (gt want t11)) →
  ((!r2.2) = true →
   K (gt want t11)) ∧
  ((!r2.2) = false →
   I1 (IntKind.i64.wrap (t11 + 1)) ∧
 μ1 (IntKind.i64.wrap (t11 + 1)) < μ1 t11)) ∧
 ((decide (t11 < ((want.length : Nat) : Int))) = false →
  K (-1))
def F_missingF (s_ : List Int) (want : List Int) (K : Int → Prop) : Prop :=
 ∃ (I1 : Int → Prop) (μ1 : Int → Nat), I1 0 ∧ ∀ (t11 : Int), I1 t11 → F_missingF_L1 s_ want K t11 I1 μ1
def F_wordC_L1 (s_ : List Int) (K : Int → Prop) (w_ : Int) (t8 : Int) (I1 : Int → Int → Prop) (μ1 : Int → Int → Nat) : Prop :=
 ((decide (t8 < ((s_.length : Nat) : Int))) = true →
  (inb s_ t8) ∧
  (0 ≤ (gt s_ t8)) ∧
  ∀ x : Int, x = (IntKind.i64.wrap (1 * 2 ^ (min (((gt s_ t8) : Int)).toNat (IntKind.bits .i64)))) →
  I1 (bits .or .i64 w_ x) (IntKind.i64.wrap (t8 + 1)) ∧
 μ1 (bits .or .i64 w_ x) (IntKind.i64.wrap (t8 + 1)) < μ1 w_ t8) ∧
 ((decide (t8 < ((s_.length : Nat) : Int))) = false →
  K w_)
def F_wordC (s_ : List Int) (K : Int → Prop) : Prop :=
 ∃ (I1 : Int → Int → Prop) (μ1 : Int → Int → Nat), I1 0 0 ∧ ∀ (w_ : Int) (t8 : Int), I1 w_ t8 → F_wordC_L1 s_ K w_ t8 I1 μ1
def F_pathC_L1 (nodes : List Node) (K : (List Int) → Prop) (k2 : Int) (out : List Int) (I1 : Int → (List Int) → Prop) (μ1 : Int → (List Int) → Nat) : Prop :=
 (inb nodes k2) ∧
 ((decide (0 ≤ ((gt nodes k2).parent))) = true →
  (room ((out ++ ([(gt nodes k2).op] : List Int))).length 8) ∧
  I1 ((gt nodes k2).parent) (out ++ ([(gt nodes k2).op] : List Int)) ∧
 μ1 ((gt nodes k2).parent) (out ++ ([(gt nodes k2).op] : List Int)) < μ1 k2 out) ∧
 ((decide (0 ≤ ((gt nodes k2).parent))) = false →
  (pre_reverse out) ∧
  ∀ r2 : List Int, r2 = (sp_reverse out) →
  K r2)
def F_pathC (nodes : List Node) (k : Int) (K : (List Int) → Prop) : Prop :=
 ∃ (I1 : Int → (List Int) → Prop) (μ1 : Int → (List Int) → Nat), I1 k ([] : List Int) ∧ ∀ (k2 : Int) (out : List Int), I1 k2 out → F_pathC_L1 nodes K k2 out I1 μ1
def F_qset_J2 (K : (List (Int × Int)) → Prop) (fo : List (Int × Option Addr)) (t6 : Bool) (j : Int) (ar5 : Addr → Option QEnt) (l2 : List (Option Addr)) (I1 : Int → (Addr → Option QEnt) → (List (Option Addr)) → Prop) (μ1 : Int → (Addr → Option QEnt) → (List (Option Addr)) → Nat) : Prop :=
 ((!t6) = true →
  ∃ m3 : List (Int × Int), QInv m3 l2 fo ar5 ∧ K m3) ∧
 ((!t6) = false →
  (inb l2 j) ∧
  (inb l2 (IntKind.i64.wrap (Int.tdiv (IntKind.i64.wrap (j - 1)) 2))) ∧
  ∀ d : List (Option Addr), d = (l2.set (IntKind.i64.wrap (Int.tdiv (IntKind.i64.wrap (j - 1)) 2)).toNat (gt l2 j)) →
  (inb d j) ∧
  ∀ d2 : List (Option Addr), d2 = (d.set (j).toNat (gt l2 (IntKind.i64.wrap (Int.tdiv (IntKind.i64.wrap (j - 1)) 2)))) →
  (inb d2 (IntKind.i64.wrap (Int.tdiv (IntKind.i64.wrap (j - 1)) 2))) ∧
  (inb d2 j) ∧
  (inA ar5 (gt d2 (IntKind.i64.wrap (Int.tdiv (IntKind.i64.wrap (j - 1)) 2)))) ∧
  ∀ ar7 : Addr → Option QEnt, ar7 = (setP ar5 (gt d2 (IntKind.i64.wrap (Int.tdiv (IntKind.i64.wrap (j - 1)) 2))) (⟨(arv ar5 (gt d2 (IntKind.i64.wrap (Int.tdiv (IntKind.i64.wrap (j - 1)) 2)))).item, (arv ar5 (gt d2 (IntKind.i64.wrap (Int.tdiv (IntKind.i64.wrap (j - 1)) 2)))).key, (arv ar5 (gt d2 (IntKind.i64.wrap (Int.tdiv (IntKind.i64.wrap (j - 1)) 2)))).time, IntKind.i64.wrap (Int.tdiv (IntKind.i64.wrap (j - 1)) 2)⟩ : QEnt)) →
  (inA ar7 (gt d2 j)) ∧
  ∀ ar8 : Addr → Option QEnt, ar8 = (setP ar7 (gt d2 j) (⟨(arv ar7 (gt d2 j)).item, (arv ar7 (gt d2 j)).key, (arv ar7 (gt d2 j)).time, j⟩ : QEnt)) →
  I1 (IntKind.i64.wrap (Int.tdiv (IntKind.i64.wrap (j - 1)) 2)) ar8 d2 ∧
 μ1 (IntKind.i64.wrap (Int.tdiv (IntKind.i64.wrap (j - 1)) 2)) ar8 d2 < μ1 j ar5 l2)
def F_qset_L1 (K : (List (Int × Int)) → Prop) (fo : List (Int × Option Addr)) (j : Int) (ar5 : Addr → Option QEnt) (l2 : List (Option Addr)) (I1 : Int → (Addr → Option QEnt) → (List (Option Addr)) → Prop) (μ1 : Int → (Addr → Option QEnt) → (List (Option Addr)) → Nat) : Prop :=
 (((IntKind.i64.wrap (Int.tdiv (IntKind.i64.wrap (j - 1)) 2)) == j) = true →
  ∃ m2 : List (Int × Int), QInv m2 l2 fo ar5 ∧ K m2) ∧
 (((IntKind.i64.wrap (Int.tdiv (IntKind.i64.wrap (j - 1)) 2)) == j) = false →
  (inb l2 j) ∧
  (inA ar5 (gt l2 j)) ∧
  (inb l2 (IntKind.i64.wrap (Int.tdiv (IntKind.i64.wrap (j - 1)) 2))) ∧
  (inA ar5 (gt l2 (IntKind.i64.wrap (Int.tdiv (IntKind.i64.wrap (j - 1)) 2)))) ∧
  ∀ x2 : Bool, x2 = (decide (((arv ar5 (gt l2 j)).key) < ((arv ar5 (gt l2 (IntKind.i64.wrap (Int.tdiv (IntKind.i64.wrap (j - 1)) 2)))).key))) →
  ((x2) = true →
   F_qset_J2 K fo true j ar5 l2 I1 μ1) ∧
  ((x2) = false →
   ∀ x3 : Bool, x3 = (((arv ar5 (gt l2 j)).key) == ((arv ar5 (gt l2 (IntKind.i64.wrap (Int.tdiv (IntKind.i64.wrap (j - 1)) 2)))).key)) →
   ((x3) = true →
    ∀ x4 : Bool, x4 = (decide (((arv ar5 (gt l2 j)).time) < ((arv ar5 (gt l2 (IntKind.i64.wrap (Int.tdiv (IntKind.i64.wrap (j - 1)) 2)))).time))) →
    F_qset_J2 K fo x4 j ar5 l2 I1 μ1) ∧
   ((x3) = false →
    F_qset_J2 K fo false j ar5 l2 I1 μ1)))
def F_qset_J1 (item : Int) (K : (List (Int × Int)) → Prop) (fo : List (Int × Option Addr)) (ar3 : Addr → Option QEnt) (ar4 : Addr → Option QEnt) (i : Int) (l : List (Option Addr)) : Prop :=
 ∀ x : Bool, x = (decide (((arv ar3 ((getA fo item).getD (none : Option Addr))).at_) < i)) →
 ((!x) = true →
  ∃ (I1 : Int → (Addr → Option QEnt) → (List (Option Addr)) → Prop) (μ1 : Int → (Addr → Option QEnt) → (List (Option Addr)) → Nat), I1 ((arv ar3 ((getA fo item).getD (none : Option Addr))).at_) ar4 l ∧ ∀ (j : Int) (ar5 : Addr → Option QEnt) (l2 : List (Option Addr)), I1 j ar5 l2 → F_qset_L1 K fo j ar5 l2 I1 μ1) ∧
 ((!x) = false →
  ∃ m4 : List (Int × Int), QInv m4 l fo ar4 ∧ K m4)
def F_qset_J5 (item : Int) (K : (List (Int × Int)) → Prop) (fo : List (Int × Option Addr)) (ar3 : Addr → Option QEnt) (t62 : Bool) (i2 : Int) (j3 : Int) (ar9 : Addr → Option QEnt) (l4 : List (Option Addr)) (I2 : Int → (Addr → Option QEnt) → (List (Option Addr)) → Prop) (μ2 : Int → (Addr → Option QEnt) → (List (Option Addr)) → Nat) : Prop :=
 ((!t62) = true →
  F_qset_J1 item K fo ar3 ar9 i2 l4) ∧
 ((!t62) = false →
  (inb l4 j3) ∧
  (inb l4 i2) ∧
  ∀ d3 : List (Option Addr), d3 = (l4.set (i2).toNat (gt l4 j3)) →
  (inb d3 j3) ∧
  ∀ d4 : List (Option Addr), d4 = (d3.set (j3).toNat (gt l4 i2)) →
  (inb d4 i2) ∧
  (inb d4 j3) ∧
  (inA ar9 (gt d4 i2)) ∧
  ∀ ar11 : Addr → Option QEnt, ar11 = (setP ar9 (gt d4 i2) (⟨(arv ar9 (gt d4 i2)).item, (arv ar9 (gt d4 i2)).key, (arv ar9 (gt d4 i2)).time, i2⟩ : QEnt)) →
  (inA ar11 (gt d4 j3)) ∧
  ∀ ar12 : Addr → Option QEnt, ar12 = (setP ar11 (gt d4 j3) (⟨(arv ar11 (gt d4 j3)).item, (arv ar11 (gt d4 j3)).key, (arv ar11 (gt d4 j3)).time, j3⟩ : QEnt)) →
  I2 j3 ar12 d4 ∧
 μ2 j3 ar12 d4 < μ2 i2 ar9 l4)
def F_qset_J4 (item : Int) (K : (List (Int × Int)) → Prop) (fo : List (Int × Option Addr)) (ar3 : Addr → Option QEnt) (i2 : Int) (j3 : Int) (ar9 : Addr → Option QEnt) (l4 : List (Option Addr)) (I2 : Int → (Addr → Option QEnt) → (List (Option Addr)) → Prop) (μ2 : Int → (Addr → Option QEnt) → (List (Option Addr)) → Nat) : Prop :=
 (inb l4 j3) ∧
 (inA ar9 (gt l4 j3)) ∧
 (inb l4 i2) ∧
 (inA ar9 (gt l4 i2)) ∧
 ((decide (((arv ar9 (gt l4 j3)).key) < ((arv ar9 (gt l4 i2)).key))) = true →
  F_qset_J5 item K fo ar3 true i2 j3 ar9 l4 I2 μ2) ∧
 ((decide (((arv ar9 (gt l4 j3)).key) < ((arv ar9 (gt l4 i2)).key))) = false →
  ((((arv ar9 (gt l4 j3)).key) == ((arv ar9 (gt l4 i2)).key)) = true →
   ∀ x8 : Bool, x8 = (decide (((arv ar9 (gt l4 j3)).time) < ((arv ar9 (gt l4 i2)).time))) →
   F_qset_J5 item K fo ar3 x8 i2 j3 ar9 l4 I2 μ2) ∧
  ((((arv ar9 (gt l4 j3)).key) == ((arv ar9 (gt l4 i2)).key)) = false →
   F_qset_J5 item K fo ar3 false i2 j3 ar9 l4 I2 μ2))
def F_qset_J3 (item : Int) (K : (List (Int × Int)) → Prop) (fo : List (Int × Option Addr)) (ar3 : Addr → Option QEnt) (t33 : Bool) (x7 : Int) (i2 : Int) (ar9 : Addr → Option QEnt) (l4 : List (Option Addr)) (I2 : Int → (Addr → Option QEnt) → (List (Option Addr)) → Prop) (μ2 : Int → (Addr → Option QEnt) → (List (Option Addr)) → Nat) : Prop :=
 ((t33) = true →
  F_qset_J4 item K fo ar3 i2 x7 ar9 l4 I2 μ2) ∧
 ((t33) = false →
  F_qset_J4 item K fo ar3 i2 (IntKind.i64.wrap ((IntKind.i64.wrap (2 * i2)) + 1)) ar9 l4 I2 μ2)
def F_qset_J6 (item : Int) (K : (List (Int × Int)) → Prop) (fo : List (Int × Option Addr)) (ar3 : Addr → Option QEnt) (x7 : Int) (i2 : Int) (ar9 : Addr → Option QEnt) (t63 : Bool) (l4 : List (Option Addr)) (I2 : Int → (Addr → Option QEnt) → (List (Option Addr)) → Prop) (μ2 : Int → (Addr → Option QEnt) → (List (Option Addr)) → Nat) : Prop :=
 F_qset_J3 item K fo ar3 t63 x7 i2 ar9 l4 I2 μ2
def F_qset_L2 (item : Int) (K : (List (Int × Int)) → Prop) (hp2 : List (Option Addr)) (fo : List (Int × Option Addr)) (ar3 : Addr → Option QEnt) (i2 : Int) (ar9 : Addr → Option QEnt) (l4 : List (Option Addr)) (I2 : Int → (Addr → Option QEnt) → (List (Option Addr)) → Prop) (μ2 : Int → (Addr → Option QEnt) → (List (Option Addr)) → Nat) : Prop :=
 ∀ x5 : Bool, x5 = (decide (((hp2.length : Nat) : Int) ≤ (IntKind.i64.wrap ((IntKind.i64.wrap (2 * i2)) + 1)))) →
 ((x5) = true →
  F_qset_J1 item K fo ar3 ar9 i2 l4) ∧
 ((x5) = false →
  ∀ x6 : Bool, x6 = (decide ((IntKind.i64.wrap ((IntKind.i64.wrap (2 * i2)) + 1)) < 0)) →
  ((x6) = true →
   F_qset_J1 item K fo ar3 ar9 i2 l4) ∧
  ((x6) = false →
   ∀ x7 : Int, x7 = (IntKind.i64.wrap ((IntKind.i64.wrap ((IntKind.i64.wrap (2 * i2)) + 1)) + 1)) →
   ((decide (x7 < ((hp2.length : Nat) : Int))) = true →
    (inb l4 x7) ∧
    (inA ar9 (gt l4 x7)) ∧
    (inb l4 (IntKind.i64.wrap ((IntKind.i64.wrap (2 * i2)) + 1))) ∧
    (inA ar9 (gt l4 (IntKind.i64.wrap ((IntKind.i64.wrap (2 * i2)) + 1)))) ∧
    ∀ x9 : Bool, x9 = (decide (((arv ar9 (gt l4 x7)).key) < ((arv ar9 (gt l4 (IntKind.i64.wrap ((IntKind.i64.wrap (2 * i2)) + 1)))).key))) →
    ((x9) = true →
     F_qset_J6 item K fo ar3 x7 i2 ar9 true l4 I2 μ2) ∧
    ((x9) = false →
     ∀ x10 : Bool, x10 = (((arv ar9 (gt l4 x7)).key) == ((arv ar9 (gt l4 (IntKind.i64.wrap ((IntKind.i64.wrap (2 * i2)) + 1)))).key)) →
     ((x10) = true →
      ∀ x11 : Bool, x11 = (decide (((arv ar9 (gt l4 x7)).time) < ((arv ar9 (gt l4 (IntKind.i64.wrap ((IntKind.i64.wrap (2 * i2)) + 1)))).time))) →
      F_qset_J6 item K fo ar3 x7 i2 ar9 x11 l4 I2 μ2) ∧
     ((x10) = false →
      F_qset_J6 item K fo ar3 x7 i2 ar9 false l4 I2 μ2))) ∧
   ((decide (x7 < ((hp2.length : Nat) : Int))) = false →
    F_qset_J3 item K fo ar3 false x7 i2 ar9 l4 I2 μ2)))
def F_qset_J7 (K : (List (Int × Int)) → Prop) (m5 : List (Int × Option Addr)) (t64 : Bool) (ar15 : Addr → Option QEnt) (j4 : Int) (l6 : List (Option Addr)) (I3 : Int → (Addr → Option QEnt) → (List (Option Addr)) → Prop) (μ3 : Int → (Addr → Option QEnt) → (List (Option Addr)) → Nat) : Prop :=
 ((!t64) = true →
  ∃ m7 : List (Int × Int), QInv m7 l6 m5 ar15 ∧ K m7) ∧
 ((!t64) = false →
  (inb l6 j4) ∧
  (inb l6 (IntKind.i64.wrap (Int.tdiv (IntKind.i64.wrap (j4 - 1)) 2))) ∧
  ∀ d5 : List (Option Addr), d5 = (l6.set (IntKind.i64.wrap (Int.tdiv (IntKind.i64.wrap (j4 - 1)) 2)).toNat (gt l6 j4)) →
  (inb d5 j4) ∧
  ∀ d6 : List (Option Addr), d6 = (d5.set (j4).toNat (gt l6 (IntKind.i64.wrap (Int.tdiv (IntKind.i64.wrap (j4 - 1)) 2)))) →
  (inb d6 (IntKind.i64.wrap (Int.tdiv (IntKind.i64.wrap (j4 - 1)) 2))) ∧
  (inb d6 j4) ∧
  (inA ar15 (gt d6 (IntKind.i64.wrap (Int.tdiv (IntKind.i64.wrap (j4 - 1)) 2)))) ∧
  ∀ ar17 : Addr → Option QEnt, ar17 = (setP ar15 (gt d6 (IntKind.i64.wrap (Int.tdiv (IntKind.i64.wrap (j4 - 1)) 2))) (⟨(arv ar15 (gt d6 (IntKind.i64.wrap (Int.tdiv (IntKind.i64.wrap (j4 - 1)) 2)))).item, (arv ar15 (gt d6 (IntKind.i64.wrap (Int.tdiv (IntKind.i64.wrap (j4 - 1)) 2)))).key, (arv ar15 (gt d6 (IntKind.i64.wrap (Int.tdiv (IntKind.i64.wrap (j4 - 1)) 2)))).time, IntKind.i64.wrap (Int.tdiv (IntKind.i64.wrap (j4 - 1)) 2)⟩ : QEnt)) →
  (inA ar17 (gt d6 j4)) ∧
  ∀ ar18 : Addr → Option QEnt, ar18 = (setP ar17 (gt d6 j4) (⟨(arv ar17 (gt d6 j4)).item, (arv ar17 (gt d6 j4)).key, (arv ar17 (gt d6 j4)).time, j4⟩ : QEnt)) →
  I3 (IntKind.i64.wrap (Int.tdiv (IntKind.i64.wrap (j4 - 1)) 2)) ar18 d6 ∧
 μ3 (IntKind.i64.wrap (Int.tdiv (IntKind.i64.wrap (j4 - 1)) 2)) ar18 d6 < μ3 j4 ar15 l6)
def F_qset_L3 (K : (List (Int × Int)) → Prop) (m5 : List (Int × Option Addr)) (ar15 : Addr → Option QEnt) (j4 : Int) (l6 : List (Option Addr)) (I3 : Int → (Addr → Option QEnt) → (List (Option Addr)) → Prop) (μ3 : Int → (Addr → Option QEnt) → (List (Option Addr)) → Nat) : Prop :=
 ∀ x13 : Bool, x13 = ((IntKind.i64.wrap (Int.tdiv (IntKind.i64.wrap (j4 - 1)) 2)) == j4) →
 ((x13) = true →
  ∃ m6 : List (Int × Int), QInv m6 l6 m5 ar15 ∧ K m6) ∧
 ((x13) = false →
  (inb l6 j4) ∧
  (inA ar15 (gt l6 j4)) ∧
  (inb l6 (IntKind.i64.wrap (Int.tdiv (IntKind.i64.wrap (j4 - 1)) 2))) ∧
  (inA ar15 (gt l6 (IntKind.i64.wrap (Int.tdiv (IntKind.i64.wrap (j4 - 1)) 2)))) ∧
  ∀ x14 : Bool, x14 = (decide (((arv ar15 (gt l6 j4)).key) < ((arv ar15 (gt l6 (IntKind.i64.wrap (Int.tdiv (IntKind.i64.wrap (j4 - 1)) 2)))).key))) →
  ((x14) = true →
   F_qset_J7 K m5 true ar15 j4 l6 I3 μ3) ∧
  ((x14) = false →
   ∀ x15 : Bool, x15 = (((arv ar15 (gt l6 j4)).key) == ((arv ar15 (gt l6 (IntKind.i64.wrap (Int.tdiv (IntKind.i64.wrap (j4 - 1)) 2)))).key)) →
   ((x15) = true →
    ∀ x16 : Bool, x16 = (decide (((arv ar15 (gt l6 j4)).time) < ((arv ar15 (gt l6 (IntKind.i64.wrap (Int.tdiv (IntKind.i64.wrap (j4 - 1)) 2)))).time))) →
    F_qset_J7 K m5 x16 ar15 j4 l6 I3 μ3) ∧
   ((x15) = false →
    F_qset_J7 K m5 false ar15 j4 l6 I3 μ3)))
def F_qset (m : List (Int × Int)) (item : Int) (key : Int) (K : (List (Int × Int)) → Prop) : Prop :=
 ∀ hp2 : List (Option Addr),
 ∀ fo : List (Int × Option Addr),
 ∀ ar : Addr → Option QEnt,
 ∀ tm : Int,
 QInv m hp2 fo ar →
 (((getA fo item).isSome) = true →
  (inA ar ((getA fo item).getD (none : Option Addr))) ∧
  ∀ ar2 : Addr → Option QEnt, ar2 = (setP ar ((getA fo item).getD (none : Option Addr)) (⟨(arv ar ((getA fo item).getD (none : Option Addr))).item, key, (arv ar ((getA fo item).getD (none : Option Addr))).time, (arv ar ((getA fo item).getD (none : Option Addr))).at_⟩ : QEnt)) →
  (inA ar2 ((getA fo item).getD (none : Option Addr))) ∧
  ∀ ar3 : Addr → Option QEnt, ar3 = (setP ar2 ((getA fo item).getD (none : Option Addr)) (⟨(arv ar2 ((getA fo item).getD (none : Option Addr))).item, (arv ar2 ((getA fo item).getD (none : Option Addr))).key, IntKind.i64.wrap (tm + 1), (arv ar2 ((getA fo item).getD (none : Option Addr))).at_⟩ : QEnt)) →
  (inA ar3 ((getA fo item).getD (none : Option Addr))) ∧
  ∃ (I2 : Int → (Addr → Option QEnt) → (List (Option Addr)) → Prop) (μ2 : Int → (Addr → Option QEnt) → (List (Option Addr)) → Nat), I2 ((arv ar3 ((getA fo item).getD (none : Option Addr))).at_) ar3 hp2 ∧ ∀ (i2 : Int) (ar9 : Addr → Option QEnt) (l4 : List (Option Addr)), I2 i2 ar9 l4 → F_qset_L2 item K hp2 fo ar3 i2 ar9 l4 I2 μ2) ∧
 (((getA fo item).isSome) = false →
  ∀ pv : Addr,
  ar pv = none →
  ∀ ar13 : Addr → Option QEnt, ar13 = (setP ar (some pv) (⟨item, key, IntKind.i64.wrap (tm + 1), 0⟩ : QEnt)) →
  ∀ m5 : List (Int × Option Addr), m5 = (setA fo item (some pv)) →
  (inA ar13 (some pv)) ∧
  ∀ ar14 : Addr → Option QEnt, ar14 = (setP ar13 (some pv) (⟨(arv ar13 (some pv)).item, (arv ar13 (some pv)).key, (arv ar13 (some pv)).time, ((hp2.length : Nat) : Int)⟩ : QEnt)) →
  (room ((hp2 ++ ([(some pv)] : List (Option Addr)))).length 8) ∧
  ∀ x12 : Int, x12 = (((hp2 ++ ([(some pv)] : List (Option Addr))).length : Nat) : Int) →
  ∃ (I3 : Int → (Addr → Option QEnt) → (List (Option Addr)) → Prop) (μ3 : Int → (Addr → Option QEnt) → (List (Option Addr)) → Nat), I3 (IntKind.i64.wrap (x12 - 1)) ar14 (hp2 ++ ([(some pv)] : List (Option Addr))) ∧ ∀ (j4 : Int) (ar15 : Addr → Option QEnt) (l6 : List (Option Addr)), I3 j4 ar15 l6 → F_qset_L3 K m5 ar15 j4 l6 I3 μ3)
def F_qtake_J1 (K : ((Int × Int × Bool) × List (Int × Int)) → Prop) (hp2 : List (Option Addr)) (fo : List (Int × Option Addr)) (ar4 : Addr → Option QEnt) (l : List (Option Addr)) : Prop :=
 (inb l (IntKind.i64.wrap (((hp2.length : Nat) : Int) - 1))) ∧
 (0 ≤ (IntKind.i64.wrap (((hp2.length : Nat) : Int) - 1)) ∧ (IntKind.i64.wrap (((hp2.length : Nat) : Int) - 1)) ≤ ((hp2.length : Nat) : Int)) ∧
 ∀ d3 : List (Option Addr), d3 = (l.take (IntKind.i64.wrap (((hp2.length : Nat) : Int) - 1)).toNat) →
 (inA ar4 (gt l (IntKind.i64.wrap (((hp2.length : Nat) : Int) - 1)))) ∧
 ∀ m3 : List (Int × Option Addr), m3 = (delA fo ((arv ar4 (gt l (IntKind.i64.wrap (((hp2.length : Nat) : Int) - 1)))).item)) →
 ∃ m4 : List (Int × Int), QInv m4 d3 m3 ar4 ∧ K (((arv ar4 (gt l (IntKind.i64.wrap (((hp2.length : Nat) : Int) - 1)))).item, (arv ar4 (gt l (IntKind.i64.wrap (((hp2.length : Nat) : Int) - 1)))).key, true), m4)
def F_qtake_J4 (K : ((Int × Int × Bool) × List (Int × Int)) → Prop) (hp2 : List (Option Addr)) (fo : List (Int × Option Addr)) (t6 : Bool) (j : Int) (ar5 : Addr → Option QEnt) (i2 : Int) (l2 : List (Option Addr)) (I1 : Int → (Addr → Option QEnt) → (List (Option Addr)) → Prop) (μ1 : Int → (Addr → Option QEnt) → (List (Option Addr)) → Nat) : Prop :=
 ((!t6) = true →
  F_qtake_J1 K hp2 fo ar5 l2) ∧
 ((!t6) = false →
  (inb l2 j) ∧
  (inb l2 i2) ∧
  ∀ d4 : List (Option Addr), d4 = (l2.set (i2).toNat (gt l2 j)) →
  (inb d4 j) ∧
  ∀ d5 : List (Option Addr), d5 = (d4.set (j).toNat (gt l2 i2)) →
  (inb d5 i2) ∧
  (inb d5 j) ∧
  (inA ar5 (gt d5 i2)) ∧
  ∀ ar7 : Addr → Option QEnt, ar7 = (setP ar5 (gt d5 i2) (⟨(arv ar5 (gt d5 i2)).item, (arv ar5 (gt d5 i2)).key, (arv ar5 (gt d5 i2)).time, i2⟩ : QEnt)) →
  (inA ar7 (gt d5 j)) ∧
  ∀ ar8 : Addr → Option QEnt, ar8 = (setP ar7 (gt d5 j) (⟨(arv ar7 (gt d5 j)).item, (arv ar7 (gt d5 j)).key, (arv ar7 (gt d5 j)).time, j⟩ : QEnt)) →
  I1 j ar8 d5 ∧
 μ1 j ar8 d5 < μ1 i2 ar5 l2)
def F_qtake_J3 (K : ((Int × Int × Bool) × List (Int × Int)) → Prop) (hp2 : List (Option Addr)) (fo : List (Int × Option Addr)) (j : Int) (ar5 : Addr → Option QEnt) (i2 : Int) (l2 : List (Option Addr)) (I1 : Int → (Addr → Option QEnt) → (List (Option Addr)) → Prop) (μ1 : Int → (Addr → Option QEnt) → (List (Option Addr)) → Nat) : Prop :=
 (inb l2 j) ∧
 (inA ar5 (gt l2 j)) ∧
 (inb l2 i2) ∧
 (inA ar5 (gt l2 i2)) ∧
 ((decide (((arv ar5 (gt l2 j)).key) < ((arv ar5 (gt l2 i2)).key))) = true →
  F_qtake_J4 K hp2 fo true j ar5 i2 l2 I1 μ1) ∧
 ((decide (((arv ar5 (gt l2 j)).key) < ((arv ar5 (gt l2 i2)).key))) = false →
  ((((arv ar5 (gt l2 j)).key) == ((arv ar5 (gt l2 i2)).key)) = true →
   ∀ x4 : Bool, x4 = (decide (((arv ar5 (gt l2 j)).time) < ((arv ar5 (gt l2 i2)).time))) →
   F_qtake_J4 K hp2 fo x4 j ar5 i2 l2 I1 μ1) ∧
  ((((arv ar5 (gt l2 j)).key) == ((arv ar5 (gt l2 i2)).key)) = false →
   F_qtake_J4 K hp2 fo false j ar5 i2 l2 I1 μ1))
def F_qtake_J2 (K : ((Int × Int × Bool) × List (Int × Int)) → Prop) (hp2 : List (Option Addr)) (fo : List (Int × Option Addr)) (x3 : Int) (t33 : Bool) (ar5 : Addr → Option QEnt) (i2 : Int) (l2 : List (Option Addr)) (I1 : Int → (Addr → Option QEnt) → (List (Option Addr)) → Prop) (μ1 : Int → (Addr → Option QEnt) → (List (Option Addr)) → Nat) : Prop :=
 ((t33) = true →
  F_qtake_J3 K hp2 fo x3 ar5 i2 l2 I1 μ1) ∧
 ((t33) = false →
  F_qtake_J3 K hp2 fo (IntKind.i64.wrap ((IntKind.i64.wrap (2 * i2)) + 1)) ar5 i2 l2 I1 μ1)
def F_qtake_J5 (K : ((Int × Int × Bool) × List (Int × Int)) → Prop) (hp2 : List (Option Addr)) (fo : List (Int × Option Addr)) (x3 : Int) (ar5 : Addr → Option QEnt) (t62 : Bool) (i2 : Int) (l2 : List (Option Addr)) (I1 : Int → (Addr → Option QEnt) → (List (Option Addr)) → Prop) (μ1 : Int → (Addr → Option QEnt) → (List (Option Addr)) → Nat) : Prop :=
 F_qtake_J2 K hp2 fo x3 t62 ar5 i2 l2 I1 μ1
def F_qtake_L1 (K : ((Int × Int × Bool) × List (Int × Int)) → Prop) (hp2 : List (Option Addr)) (fo : List (Int × Option Addr)) (ar5 : Addr → Option QEnt) (i2 : Int) (l2 : List (Option Addr)) (I1 : Int → (Addr → Option QEnt) → (List (Option Addr)) → Prop) (μ1 : Int → (Addr → Option QEnt) → (List (Option Addr)) → Nat) : Prop :=
 ∀ x : Bool, x = (decide ((IntKind.i64.wrap (((hp2.length : Nat) : Int) - 1)) ≤ (IntKind.i64.wrap ((IntKind.i64.wrap (2 * i2)) + 1)))) →
 ((x) = true →
  F_qtake_J1 K hp2 fo ar5 l2) ∧
 ((x) = false →
  ∀ x2 : Bool, x2 = (decide ((IntKind.i64.wrap ((IntKind.i64.wrap (2 * i2)) + 1)) < 0)) →
  ((x2) = true →
   F_qtake_J1 K hp2 fo ar5 l2) ∧
  ((x2) = false →
   ∀ x3 : Int, x3 = (IntKind.i64.wrap ((IntKind.i64.wrap ((IntKind.i64.wrap (2 * i2)) + 1)) + 1)) →
   ∀ x5 : Bool, x5 = (decide (x3 < (IntKind.i64.wrap (((hp2.length : Nat) : Int) - 1)))) →
   ((x5) = true →
    (inb l2 x3) ∧
    (inA ar5 (gt l2 x3)) ∧
    (inb l2 (IntKind.i64.wrap ((IntKind.i64.wrap (2 * i2)) + 1))) ∧
    (inA ar5 (gt l2 (IntKind.i64.wrap ((IntKind.i64.wrap (2 * i2)) + 1)))) ∧
    ∀ x6 : Bool, x6 = (decide (((arv ar5 (gt l2 x3)).key) < ((arv ar5 (gt l2 (IntKind.i64.wrap ((IntKind.i64.wrap (2 * i2)) + 1)))).key))) →
    ((x6) = true →
     F_qtake_J5 K hp2 fo x3 ar5 true i2 l2 I1 μ1) ∧
    ((x6) = false →
     ∀ x7 : Bool, x7 = (((arv ar5 (gt l2 x3)).key) == ((arv ar5 (gt l2 (IntKind.i64.wrap ((IntKind.i64.wrap (2 * i2)) + 1)))).key)) →
     ((x7) = true →
      ∀ x8 : Bool, x8 = (decide (((arv ar5 (gt l2 x3)).time) < ((arv ar5 (gt l2 (IntKind.i64.wrap ((IntKind.i64.wrap (2 * i2)) + 1)))).time))) →
      F_qtake_J5 K hp2 fo x3 ar5 x8 i2 l2 I1 μ1) ∧
     ((x7) = false →
      F_qtake_J5 K hp2 fo x3 ar5 false i2 l2 I1 μ1))) ∧
   ((x5) = false →
    F_qtake_J2 K hp2 fo x3 false ar5 i2 l2 I1 μ1)))
def F_qtake (m : List (Int × Int)) (K : ((Int × Int × Bool) × List (Int × Int)) → Prop) : Prop :=
 ∀ hp2 : List (Option Addr),
 ∀ fo : List (Int × Option Addr),
 ∀ ar : Addr → Option QEnt,
 ∀ _ : Int,
 QInv m hp2 fo ar →
 ((((hp2.length : Nat) : Int) == 0) = true →
  ∃ m2 : List (Int × Int), QInv m2 hp2 fo ar ∧ K ((0, 0, false), m2)) ∧
 ((((hp2.length : Nat) : Int) == 0) = false →
  (inb hp2 (IntKind.i64.wrap (((hp2.length : Nat) : Int) - 1))) ∧
  (inb hp2 (0 : Int)) ∧
  ∀ d : List (Option Addr), d = (hp2.set ((0 : Int)).toNat (gt hp2 (IntKind.i64.wrap (((hp2.length : Nat) : Int) - 1)))) →
  (inb d (IntKind.i64.wrap (((hp2.length : Nat) : Int) - 1))) ∧
  ∀ d2 : List (Option Addr), d2 = (d.set (IntKind.i64.wrap (((hp2.length : Nat) : Int) - 1)).toNat (gt hp2 (0 : Int))) →
  (inb d2 (0 : Int)) ∧
  (inb d2 (IntKind.i64.wrap (((hp2.length : Nat) : Int) - 1))) ∧
  (inA ar (gt d2 (0 : Int))) ∧
  ∀ ar2 : Addr → Option QEnt, ar2 = (setP ar (gt d2 (0 : Int)) (⟨(arv ar (gt d2 (0 : Int))).item, (arv ar (gt d2 (0 : Int))).key, (arv ar (gt d2 (0 : Int))).time, 0⟩ : QEnt)) →
  (inA ar2 (gt d2 (IntKind.i64.wrap (((hp2.length : Nat) : Int) - 1)))) ∧
  ∀ ar3 : Addr → Option QEnt, ar3 = (setP ar2 (gt d2 (IntKind.i64.wrap (((hp2.length : Nat) : Int) - 1))) (⟨(arv ar2 (gt d2 (IntKind.i64.wrap (((hp2.length : Nat) : Int) - 1)))).item, (arv ar2 (gt d2 (IntKind.i64.wrap (((hp2.length : Nat) : Int) - 1)))).key, (arv ar2 (gt d2 (IntKind.i64.wrap (((hp2.length : Nat) : Int) - 1)))).time, IntKind.i64.wrap (((hp2.length : Nat) : Int) - 1)⟩ : QEnt)) →
  ∃ (I1 : Int → (Addr → Option QEnt) → (List (Option Addr)) → Prop) (μ1 : Int → (Addr → Option QEnt) → (List (Option Addr)) → Nat), I1 0 ar3 d2 ∧ ∀ (i2 : Int) (ar5 : Addr → Option QEnt) (l2 : List (Option Addr)), I1 i2 ar5 l2 → F_qtake_L1 K hp2 fo ar5 i2 l2 I1 μ1)
def F_qlen (m : List (Int × Int)) (K : (Int × List (Int × Int)) → Prop) : Prop :=
 ∀ hp2 : List (Option Addr),
 ∀ fo : List (Int × Option Addr),
 ∀ ar : Addr → Option QEnt,
 ∀ _ : Int,
 QInv m hp2 fo ar →
 ∃ m2 : List (Int × Int), QInv m2 hp2 fo ar ∧ K (((hp2.length : Nat) : Int), m2)
def F_optimal_J2 (s_ : Int) (I3 : Int → (List (Int × List Arc)) → Prop) (μ3 : Int → (List (Int × List Arc)) → Nat) (mm3 : List (Int × List Arc)) (mm5 : List (Int × List Arc)) : Prop :=
 I3 (IntKind.i64.wrap (s_ + 1)) mm5 ∧
 μ3 (IntKind.i64.wrap (s_ + 1)) mm5 < μ3 s_ mm3
def F_optimal_L3 (l : List Masks) (r9 : List Int) (m : List (Int × Int)) (mq : List (Int × Int)) (mm : List (Int × List Arc)) (s_ : Int) (I3 : Int → (List (Int × List Arc)) → Prop) (μ3 : Int → (List (Int × List Arc)) → Nat) (mm3 : List (Int × List Arc)) (m4 : List (Int × Int)) (t21 : Int) (I2 : Int → (List (Int × Int)) → (List (Int × Int)) → (List (Int × List Arc)) → Prop) (μ2 : Int → (List (Int × Int)) → (List (Int × Int)) → (List (Int × List Arc)) → Nat) (mq3 : List (Int × Int)) : Prop :=
 ((decide (s_ < ((l.length : Nat) : Int))) = true →
  (inb l s_) ∧
  (((bits .and .u32 (gt r9 t21) ((gt l s_).pre)) == ((gt l s_).pre)) = true →
   ∀ x : Int, x = (bits .or .u32 (bits .andNot .u32 (gt r9 t21) ((gt l s_).del)) ((gt l s_).add)) →
   (room ((((getA mm3 x).getD []) ++ ([(⟨(gt r9 t21), (gt l s_).cost⟩ : Arc)] : List Arc))).length 16) ∧
   ∀ m5 : List (Int × List Arc), m5 = ((x, (((getA mm3 x).getD []) ++ ([(⟨(gt r9 t21), (gt l s_).cost⟩ : Arc)] : List Arc))) :: delA mm3 x) →
   F_optimal_J2 s_ I3 μ3 mm3 m5) ∧
  (((bits .and .u32 (gt r9 t21) ((gt l s_).pre)) == ((gt l s_).pre)) = false →
   F_optimal_J2 s_ I3 μ3 mm3 mm3)) ∧
 ((decide (s_ < ((l.length : Nat) : Int))) = false →
  I2 (IntKind.i64.wrap (t21 + 1)) m4 mq3 mm3 ∧
 μ2 (IntKind.i64.wrap (t21 + 1)) m4 mq3 mm3 < μ2 t21 m mq mm)
def F_optimal_J1 (l : List Masks) (r9 : List Int) (m : List (Int × Int)) (mq : List (Int × Int)) (mm : List (Int × List Arc)) (m4 : List (Int × Int)) (t21 : Int) (I2 : Int → (List (Int × Int)) → (List (Int × Int)) → (List (Int × List Arc)) → Prop) (μ2 : Int → (List (Int × Int)) → (List (Int × Int)) → (List (Int × List Arc)) → Nat) (mq3 : List (Int × Int)) : Prop :=
 ∃ (I3 : Int → (List (Int × List Arc)) → Prop) (μ3 : Int → (List (Int × List Arc)) → Nat), I3 0 mm ∧ ∀ (s_ : Int) (mm3 : List (Int × List Arc)), I3 s_ mm3 → F_optimal_L3 l r9 m mq mm s_ I3 μ3 mm3 m4 t21 I2 μ2 mq3
def F_optimal_J3 (t66 : Int) (m9 : List (Int × Int)) (I5 : Int → (List (Int × Int)) → (List (Int × Int)) → Prop) (μ5 : Int → (List (Int × Int)) → (List (Int × Int)) → Nat) (mq6 : List (Int × Int)) (m11 : List (Int × Int)) (mq8 : List (Int × Int)) : Prop :=
 I5 (IntKind.i64.wrap (t66 + 1)) m11 mq8 ∧
 μ5 (IntKind.i64.wrap (t66 + 1)) m11 mq8 < μ5 t66 m9 mq6
def F_optimal_L5 (mm : List (Int × List Arc)) (r12 : (Int × Int × Bool) × List (Int × Int)) (m7 : List (Int × Int)) (mq4 : List (Int × Int)) (t66 : Int) (m9 : List (Int × Int)) (I5 : Int → (List (Int × Int)) → (List (Int × Int)) → Prop) (μ5 : Int → (List (Int × Int)) → (List (Int × Int)) → Nat) (mq6 : List (Int × Int)) (I4 : (List (Int × Int)) → (List (Int × Int)) → Prop) (μ4 : (List (Int × Int)) → (List (Int × Int)) → Nat) : Prop :=
 ∀ x2 : Bool, x2 = (decide (t66 < ((((getA mm r12.1.1).getD []).length : Nat) : Int))) →
 ((x2) = true →
  (inb ((getA mm r12.1.1).getD []) t66) ∧
  ∀ x3 : Int, x3 = (IntKind.i64.wrap (r12.1.2.1 + ((gt ((getA mm r12.1.1).getD []) t66).cost))) →
  ∀ x4 : Bool, x4 = (decide (x3 < ((getA m9 ((gt ((getA mm r12.1.1).getD []) t66).from_)).getD 0))) →
  ((x4) = true →
   ∀ x5 : Int, x5 = (IntKind.i64.wrap (r12.1.2.1 + ((gt ((getA mm r12.1.1).getD []) t66).cost))) →
   ∀ m12 : List (Int × Int), m12 = (setA m9 ((gt ((getA mm r12.1.1).getD []) t66).from_) x5) →
   ∀ x6 : Int, x6 = (IntKind.i64.wrap (r12.1.2.1 + ((gt ((getA mm r12.1.1).getD []) t66).cost))) →
   (pre_qset mq6 ((gt ((getA mm r12.1.1).getD []) t66).from_) x6) ∧
   ∀ r13 : List (Int × Int), po_qset mq6 ((gt ((getA mm r12.1.1).getD []) t66).from_) x6 r13 →
   F_optimal_J3 t66 m9 I5 μ5 mq6 m12 r13) ∧
  ((x4) = false →
   F_optimal_J3 t66 m9 I5 μ5 mq6 m9 mq6)) ∧
 ((x2) = false →
  I4 m9 mq6 ∧
 μ4 m9 mq6 < μ4 m7 mq4)
def F_optimal_L4 (K : (Int × Fault) → Prop) (r3 : Int) (mm : List (Int × List Arc)) (m7 : List (Int × Int)) (mq4 : List (Int × Int)) (I4 : (List (Int × Int)) → (List (Int × Int)) → Prop) (μ4 : (List (Int × Int)) → (List (Int × Int)) → Nat) : Prop :=
 ∀ r11 : Int × List (Int × Int), po_qlen mq4 r11 →
 ((decide (0 < r11.1)) = true →
  (pre_qtake r11.2) ∧
  ∀ r12 : (Int × Int × Bool) × List (Int × Int), po_qtake r11.2 r12 →
  ∃ (I5 : Int → (List (Int × Int)) → (List (Int × Int)) → Prop) (μ5 : Int → (List (Int × Int)) → (List (Int × Int)) → Nat), I5 0 m7 r12.2 ∧ ∀ (t66 : Int) (m9 : List (Int × Int)) (mq6 : List (Int × Int)), I5 t66 m9 mq6 → F_optimal_L5 mm r12 m7 mq4 t66 m9 I5 μ5 mq6 I4 μ4) ∧
 ((decide (0 < r11.1)) = false →
  K (((getA m7 r3).getD 0), (⟨0, 0⟩ : Fault)))
def F_optimal_L2 (K : (Int × Fault) → Prop) (r3 : Int) (r4 : Int) (l : List Masks) (r8 : List Int × Bool) (r9 : List Int) (m : List (Int × Int)) (mq : List (Int × Int)) (mm : List (Int × List Arc)) (t21 : Int) (I2 : Int → (List (Int × Int)) → (List (Int × Int)) → (List (Int × List Arc)) → Prop) (μ2 : Int → (List (Int × Int)) → (List (Int × Int)) → (List (Int × List Arc)) → Nat) : Prop :=
 ((decide (t21 < ((r8.1.length : Nat) : Int))) = true →
  (inb r9 t21) ∧
  ∀ m3 : List (Int × Int), m3 = (setA m (gt r9 t21) 1000000000) →
  (((bits .and .u32 (gt r9 t21) r4) == r4) = true →
   ∀ m6 : List (Int × Int), m6 = (setA m3 (gt r9 t21) 0) →
   (pre_qset mq (gt r9 t21) 0) ∧
   ∀ r10 : List (Int × Int), po_qset mq (gt r9 t21) 0 r10 →
   F_optimal_J1 l r9 m mq mm m6 t21 I2 μ2 r10) ∧
  (((bits .and .u32 (gt r9 t21) r4) == r4) = false →
   F_optimal_J1 l r9 m mq mm m3 t21 I2 μ2 mq)) ∧
 ((decide (t21 < ((r8.1.length : Nat) : Int))) = false →
  ∃ (I4 : (List (Int × Int)) → (List (Int × Int)) → Prop) (μ4 : (List (Int × Int)) → (List (Int × Int)) → Nat), I4 m mq ∧ ∀ (m7 : List (Int × Int)) (mq4 : List (Int × Int)), I4 m7 mq4 → F_optimal_L4 K r3 mm m7 mq4 I4 μ4)
def F_optimal_L1 (t : Task) (K : (Int × Fault) → Prop) (r3 : Int) (r4 : Int) (t17 : Int) (l : List Masks) (I1 : Int → (List Masks) → Prop) (μ1 : Int → (List Masks) → Nat) : Prop :=
 ((decide (t17 < ((t.ops.length : Nat) : Int))) = true →
  (inb t.ops t17) ∧
  (pre_word ((gt t.ops t17).pre)) ∧
  ∀ r5 : Int, r5 = (sp_word ((gt t.ops t17).pre)) →
  (pre_word ((gt t.ops t17).add)) ∧
  ∀ r6 : Int, r6 = (sp_word ((gt t.ops t17).add)) →
  (pre_word ((gt t.ops t17).del)) ∧
  ∀ r7 : Int, r7 = (sp_word ((gt t.ops t17).del)) →
  (room ((l ++ ([(⟨r5, r6, r7, (gt t.ops t17).cost⟩ : Masks)] : List Masks))).length 24) ∧
  I1 (IntKind.i64.wrap (t17 + 1)) (l ++ ([(⟨r5, r6, r7, (gt t.ops t17).cost⟩ : Masks)] : List Masks)) ∧
 μ1 (IntKind.i64.wrap (t17 + 1)) (l ++ ([(⟨r5, r6, r7, (gt t.ops t17).cost⟩ : Masks)] : List Masks)) < μ1 t17 l) ∧
 ((decide (t17 < ((t.ops.length : Nat) : Int))) = false →
  (pre_all (⟨r3, r4, l⟩ : WordsT)) ∧
  ∀ r8 : List Int × Bool, r8 = (sp_all (⟨r3, r4, l⟩ : WordsT)) →
  ((!r8.2) = true →
   K (0, (⟨10, (-7)⟩ : Fault))) ∧
  ((!r8.2) = false →
   (pre_sortW r8.1) ∧
   ∀ r9 : List Int, r9 = (sp_sortW r8.1) →
   ∃ (I2 : Int → (List (Int × Int)) → (List (Int × Int)) → (List (Int × List Arc)) → Prop) (μ2 : Int → (List (Int × Int)) → (List (Int × Int)) → (List (Int × List Arc)) → Nat), I2 0 ([] : List (Int × Int)) ([] : List (Int × Int)) ([] : List (Int × List Arc)) ∧ ∀ (t21 : Int) (m : List (Int × Int)) (mq : List (Int × Int)) (mm : List (Int × List Arc)), I2 t21 m mq mm → F_optimal_L2 K r3 r4 l r8 r9 m mq mm t21 I2 μ2))
def F_optimal (t : Task) (K : (Int × Fault) → Prop) : Prop :=
 ∀ r2 : Fault, r2 = (sp_validate t) →
 ((!((r2.code == 0) && (r2.index == 0))) = true →
  K (0, r2)) ∧
 ((!((r2.code == 0) && (r2.index == 0))) = false →
  (pre_word t.init) ∧
  ∀ r3 : Int, r3 = (sp_word t.init) →
  (pre_word t.goal) ∧
  ∀ r4 : Int, r4 = (sp_word t.goal) →
  ∃ (I1 : Int → (List Masks) → Prop) (μ1 : Int → (List Masks) → Nat), I1 0 ([] : List Masks) ∧ ∀ (t17 : Int) (l : List Masks), I1 t17 l → F_optimal_L1 t K r3 r4 t17 l I1 μ1)
def F_stubborn_J1 (l : List Bool) (l2 : List Int) (t9 : Int) (I1 : Int → (List Bool) → (List Int) → Prop) (μ1 : Int → (List Bool) → (List Int) → Nat) (l5 : List Bool) (l6 : List Int) : Prop :=
 I1 (IntKind.i64.wrap (t9 + 1)) l5 l6 ∧
 μ1 (IntKind.i64.wrap (t9 + 1)) l5 l6 < μ1 t9 l l2
def F_stubborn_J2 (t21 : Bool) (l : List Bool) (l2 : List Int) (t9 : Int) (I1 : Int → (List Bool) → (List Int) → Prop) (μ1 : Int → (List Bool) → (List Int) → Nat) : Prop :=
 ((t21) = true →
  (inb l t9) ∧
  ∀ d : List Bool, d = (l.set (t9).toNat true) →
  (room ((l2 ++ ([t9] : List Int))).length 8) ∧
  F_stubborn_J1 l l2 t9 I1 μ1 d (l2 ++ ([t9] : List Int))) ∧
 ((t21) = false →
  F_stubborn_J1 l l2 t9 I1 μ1 l l2)
def F_stubborn_J3 (l7 : List Bool) (l8 : List Int) (l11 : List Bool) (l12 : List Int) (k : Int) (I2 : Int → (List Bool) → (List Int) → Prop) (μ2 : Int → (List Bool) → (List Int) → Nat) : Prop :=
 I2 (IntKind.i64.wrap (k + 1)) l11 l12 ∧
 μ2 (IntKind.i64.wrap (k + 1)) l11 l12 < μ2 k l7 l8
def F_stubborn_J4 (t93 : Int) (I3 : Int → (List Bool) → (List Int) → Prop) (μ3 : Int → (List Bool) → (List Int) → Nat) (l13 : List Bool) (l14 : List Int) (l17 : List Bool) (l18 : List Int) : Prop :=
 I3 (IntKind.i64.wrap (t93 + 1)) l17 l18 ∧
 μ3 (IntKind.i64.wrap (t93 + 1)) l17 l18 < μ3 t93 l13 l14
def F_stubborn_J5 (t212 : Bool) (t93 : Int) (I3 : Int → (List Bool) → (List Int) → Prop) (μ3 : Int → (List Bool) → (List Int) → Nat) (l13 : List Bool) (l14 : List Int) : Prop :=
 ((t212) = true →
  (inb l13 t93) ∧
  ∀ d2 : List Bool, d2 = (l13.set (t93).toNat true) →
  (room ((l14 ++ ([t93] : List Int))).length 8) ∧
  F_stubborn_J4 t93 I3 μ3 l13 l14 d2 (l14 ++ ([t93] : List Int))) ∧
 ((t212) = false →
  F_stubborn_J4 t93 I3 μ3 l13 l14 l13 l14)
def F_stubborn_L3 (t : Task) (r4 : Int) (l7 : List Bool) (l8 : List Int) (t93 : Int) (I3 : Int → (List Bool) → (List Int) → Prop) (μ3 : Int → (List Bool) → (List Int) → Nat) (l13 : List Bool) (l14 : List Int) (k : Int) (I2 : Int → (List Bool) → (List Int) → Prop) (μ2 : Int → (List Bool) → (List Int) → Nat) : Prop :=
 ((decide (t93 < ((t.ops.length : Nat) : Int))) = true →
  (inb l13 t93) ∧
  ((!(gt l13 t93)) = true →
   (inb t.ops t93) ∧
   (pre_index ((gt t.ops t93).add) r4) ∧
   ∀ r5 : Bool, r5 = (sp_contains ((gt t.ops t93).add) r4) →
   F_stubborn_J5 r5 t93 I3 μ3 l13 l14) ∧
  ((!(gt l13 t93)) = false →
   F_stubborn_J5 false t93 I3 μ3 l13 l14)) ∧
 ((decide (t93 < ((t.ops.length : Nat) : Int))) = false →
  F_stubborn_J3 l7 l8 l13 l14 k I2 μ2)
def F_stubborn_J6 (t95 : Int) (I4 : Int → (List Bool) → (List Int) → Prop) (μ4 : Int → (List Bool) → (List Int) → Nat) (l19 : List Bool) (l20 : List Int) (l23 : List Bool) (l24 : List Int) : Prop :=
 I4 (IntKind.i64.wrap (t95 + 1)) l23 l24 ∧
 μ4 (IntKind.i64.wrap (t95 + 1)) l23 l24 < μ4 t95 l19 l20
def F_stubborn_J7 (t213 : Bool) (t95 : Int) (I4 : Int → (List Bool) → (List Int) → Prop) (μ4 : Int → (List Bool) → (List Int) → Nat) (l19 : List Bool) (l20 : List Int) : Prop :=
 ((t213) = true →
  (inb l19 t95) ∧
  ∀ d3 : List Bool, d3 = (l19.set (t95).toNat true) →
  (room ((l20 ++ ([t95] : List Int))).length 8) ∧
  F_stubborn_J6 t95 I4 μ4 l19 l20 d3 (l20 ++ ([t95] : List Int))) ∧
 ((t213) = false →
  F_stubborn_J6 t95 I4 μ4 l19 l20 l19 l20)
def F_stubborn_L4 (t : Task) (l7 : List Bool) (l8 : List Int) (t95 : Int) (I4 : Int → (List Bool) → (List Int) → Prop) (μ4 : Int → (List Bool) → (List Int) → Nat) (l19 : List Bool) (l20 : List Int) (k : Int) (I2 : Int → (List Bool) → (List Int) → Prop) (μ2 : Int → (List Bool) → (List Int) → Nat) : Prop :=
 ((decide (t95 < ((t.ops.length : Nat) : Int))) = true →
  (inb l19 t95) ∧
  ((!(gt l19 t95)) = true →
   (inb t.ops t95) ∧
   (pre_indep (gt t.ops (gt l8 k)) (gt t.ops t95)) ∧
   ∀ r6 : Bool, r6 = (sp_indep (gt t.ops (gt l8 k)) (gt t.ops t95)) →
   F_stubborn_J7 (!r6) t95 I4 μ4 l19 l20) ∧
  ((!(gt l19 t95)) = false →
   F_stubborn_J7 false t95 I4 μ4 l19 l20)) ∧
 ((decide (t95 < ((t.ops.length : Nat) : Int))) = false →
  F_stubborn_J3 l7 l8 l19 l20 k I2 μ2)
def F_stubborn_J8 (out : List Int) (t63 : Int) (I5 : Int → (List Int) → Prop) (μ5 : Int → (List Int) → Nat) (out3 : List Int) : Prop :=
 I5 (IntKind.i64.wrap (t63 + 1)) out3 ∧
 μ5 (IntKind.i64.wrap (t63 + 1)) out3 < μ5 t63 out
def F_stubborn_J9 (t74 : Bool) (out : List Int) (t63 : Int) (I5 : Int → (List Int) → Prop) (μ5 : Int → (List Int) → Nat) : Prop :=
 ((t74) = true →
  (room ((out ++ ([t63] : List Int))).length 8) ∧
  F_stubborn_J8 out t63 I5 μ5 (out ++ ([t63] : List Int))) ∧
 ((t74) = false →
  F_stubborn_J8 out t63 I5 μ5 out)
def F_stubborn_L5 (t : Task) (s_ : List Int) (K : (List Int) → Prop) (l7 : List Bool) (out : List Int) (t63 : Int) (I5 : Int → (List Int) → Prop) (μ5 : Int → (List Int) → Nat) : Prop :=
 ∀ x : Bool, x = (decide (t63 < (((((t.ops.length : Nat) : Int)).toNat : Nat) : Int))) →
 ((x) = true →
  (inb l7 t63) ∧
  (((gt l7 t63)) = true →
   (pre_can t s_ t63) ∧
   ∀ r7 : Bool, r7 = (sp_applies t s_ t63) →
   F_stubborn_J9 r7 out t63 I5 μ5) ∧
  (((gt l7 t63)) = false →
   F_stubborn_J9 false out t63 I5 μ5)) ∧
 ((x) = false →
  K out)
def F_stubborn_L2 (t : Task) (s_ : List Int) (K : (List Int) → Prop) (l7 : List Bool) (l8 : List Int) (k : Int) (I2 : Int → (List Bool) → (List Int) → Prop) (μ2 : Int → (List Bool) → (List Int) → Nat) : Prop :=
 ((decide (k < ((l8.length : Nat) : Int))) = true →
  (inb l8 k) ∧
  (inb t.ops (gt l8 k)) ∧
  (pre_missingF s_ ((gt t.ops (gt l8 k)).pre)) ∧
  ∀ r4 : Int, r4 = (sp_missingF s_ ((gt t.ops (gt l8 k)).pre)) →
  ((decide (0 ≤ r4)) = true →
   ∃ (I3 : Int → (List Bool) → (List Int) → Prop) (μ3 : Int → (List Bool) → (List Int) → Nat), I3 0 l7 l8 ∧ ∀ (t93 : Int) (l13 : List Bool) (l14 : List Int), I3 t93 l13 l14 → F_stubborn_L3 t r4 l7 l8 t93 I3 μ3 l13 l14 k I2 μ2) ∧
  ((decide (0 ≤ r4)) = false →
   ∃ (I4 : Int → (List Bool) → (List Int) → Prop) (μ4 : Int → (List Bool) → (List Int) → Nat), I4 0 l7 l8 ∧ ∀ (t95 : Int) (l19 : List Bool) (l20 : List Int), I4 t95 l19 l20 → F_stubborn_L4 t l7 l8 t95 I4 μ4 l19 l20 k I2 μ2)) ∧
 ((decide (k < ((l8.length : Nat) : Int))) = false →
  ∃ (I5 : Int → (List Int) → Prop) (μ5 : Int → (List Int) → Nat), I5 0 ([] : List Int) ∧ ∀ (t63 : Int) (out : List Int), I5 t63 out → F_stubborn_L5 t s_ K l7 out t63 I5 μ5)
def F_stubborn_L1 (t : Task) (s_ : List Int) (K : (List Int) → Prop) (r2 : Int) (l : List Bool) (l2 : List Int) (t9 : Int) (I1 : Int → (List Bool) → (List Int) → Prop) (μ1 : Int → (List Bool) → (List Int) → Nat) : Prop :=
 ((decide (t9 < ((t.ops.length : Nat) : Int))) = true →
  (inb l t9) ∧
  ((!(gt l t9)) = true →
   (inb t.ops t9) ∧
   (pre_index ((gt t.ops t9).add) r2) ∧
   ∀ r3 : Bool, r3 = (sp_contains ((gt t.ops t9).add) r2) →
   F_stubborn_J2 r3 l l2 t9 I1 μ1) ∧
  ((!(gt l t9)) = false →
   F_stubborn_J2 false l l2 t9 I1 μ1)) ∧
 ((decide (t9 < ((t.ops.length : Nat) : Int))) = false →
  ∃ (I2 : Int → (List Bool) → (List Int) → Prop) (μ2 : Int → (List Bool) → (List Int) → Nat), I2 0 l l2 ∧ ∀ (k : Int) (l7 : List Bool) (l8 : List Int), I2 k l7 l8 → F_stubborn_L2 t s_ K l7 l8 k I2 μ2)
def F_stubborn (t : Task) (s_ : List Int) (K : (List Int) → Prop) : Prop :=
 (pre_missingF s_ t.goal) ∧
 ∀ r2 : Int, r2 = (sp_missingF s_ t.goal) →
 ((decide (r2 < 0)) = true →
  K ([] : List Int)) ∧
 ((decide (r2 < 0)) = false →
  (mkok ((t.ops.length : Nat) : Int) 1) ∧
  ∃ (I1 : Int → (List Bool) → (List Int) → Prop) (μ1 : Int → (List Bool) → (List Int) → Nat), I1 0 (List.replicate (((t.ops.length : Nat) : Int)).toNat (false : Bool)) ([] : List Int) ∧ ∀ (t9 : Int) (l : List Bool) (l2 : List Int), I1 t9 l l2 → F_stubborn_L1 t s_ K r2 l l2 t9 I1 μ1)
def F_reachable_J1 (v : Int) (m4 : List (Int × Int)) (I2 : Int → (List (Int × Int)) → (List (List Int)) → Prop) (μ2 : Int → (List (Int × Int)) → (List (List Int)) → Nat) (l4 : List (List Int)) (m6 : List (Int × Int)) (l6 : List (List Int)) : Prop :=
 I2 (IntKind.i64.wrap (v + 1)) m6 l6 ∧
 μ2 (IntKind.i64.wrap (v + 1)) m6 l6 < μ2 v m4 l4
def F_reachable_L2 (t : Task) (K : Int → Prop) (m2 : List (Int × Int)) (v : Int) (m4 : List (Int × Int)) (I2 : Int → (List (Int × Int)) → (List (List Int)) → Prop) (μ2 : Int → (List (Int × Int)) → (List (List Int)) → Nat) (l4 : List (List Int)) (k : Int) (l : List (List Int)) (I1 : Int → (List (Int × Int)) → (List (List Int)) → Prop) (μ1 : Int → (List (Int × Int)) → (List (List Int)) → Nat) : Prop :=
 ((decide (v < ((t.ops.length : Nat) : Int))) = true →
  (pre_can t (gt l k) v) ∧
  ∀ r3 : Bool, r3 = (sp_applies t (gt l k) v) →
  ((r3) = true →
   (pre_next t (gt l k) v) ∧
   ∀ r4 : List Int, r4 = (sp_after t (gt l k) v) →
   (pre_wordC r4) ∧
   ∀ r5 : Int, r5 = (sp_wordC r4) →
   ((!((getA m4 r5).isSome)) = true →
    ((((l4.length : Nat) : Int) == 2000) = true →
     K (-1)) ∧
    ((((l4.length : Nat) : Int) == 2000) = false →
     ∀ r6 : Int, r6 = (sp_wordC r4) →
     ∀ m7 : List (Int × Int), m7 = (setA m4 r6 ((l4.length : Nat) : Int)) →
     (room ((l4 ++ ([r4] : List (List Int)))).length 24) ∧
     F_reachable_J1 v m4 I2 μ2 l4 m7 (l4 ++ ([r4] : List (List Int))))) ∧
   ((!((getA m4 r5).isSome)) = false →
    F_reachable_J1 v m4 I2 μ2 l4 m4 l4)) ∧
  ((r3) = false →
   F_reachable_J1 v m4 I2 μ2 l4 m4 l4)) ∧
 ((decide (v < ((t.ops.length : Nat) : Int))) = false →
  I1 (IntKind.i64.wrap (k + 1)) m4 l4 ∧
 μ1 (IntKind.i64.wrap (k + 1)) m4 l4 < μ1 k m2 l)
def F_reachable_L1 (t : Task) (K : Int → Prop) (m2 : List (Int × Int)) (k : Int) (l : List (List Int)) (I1 : Int → (List (Int × Int)) → (List (List Int)) → Prop) (μ1 : Int → (List (Int × Int)) → (List (List Int)) → Nat) : Prop :=
 ((decide (k < ((l.length : Nat) : Int))) = true →
  (inb l k) ∧
  ∃ (I2 : Int → (List (Int × Int)) → (List (List Int)) → Prop) (μ2 : Int → (List (Int × Int)) → (List (List Int)) → Nat), I2 0 m2 l ∧ ∀ (v : Int) (m4 : List (Int × Int)) (l4 : List (List Int)), I2 v m4 l4 → F_reachable_L2 t K m2 v m4 I2 μ2 l4 k l I1 μ1) ∧
 ((decide (k < ((l.length : Nat) : Int))) = false →
  K ((l.length : Nat) : Int))
def F_reachable (t : Task) (K : Int → Prop) : Prop :=
 (pre_wordC t.init) ∧
 ∀ r2 : Int, r2 = (sp_wordC t.init) →
 ∀ m : List (Int × Int), m = (setA ([] : List (Int × Int)) r2 0) →
 ∃ (I1 : Int → (List (Int × Int)) → (List (List Int)) → Prop) (μ1 : Int → (List (Int × Int)) → (List (List Int)) → Nat), I1 0 m ([t.init] : List (List Int)) ∧ ∀ (k : Int) (m2 : List (Int × Int)) (l : List (List Int)), I1 k m2 l → F_reachable_L1 t K m2 k l I1 μ1
def F_at_ (code : Int) (index : Int) (K : Fault → Prop) : Prop :=
 K (⟨code, index⟩ : Fault)
def F_lawProd_J3 (K : Bool → Prop) (t78 : Bool) : Prop :=
 ((t78) = true →
  K (!false)) ∧
 ((t78) = false →
  K false)
def F_lawProd_J2 (K : Bool → Prop) (r4 : Int × Fault) (r5 : Int × Fault) (r6 : Fault) (t59 : Bool) : Prop :=
 ((t59) = true →
  ((r4.2.code == 10) = true →
   K true) ∧
  ((r4.2.code == 10) = false →
   ((r5.2.code == 10) = true →
    K true) ∧
   ((r5.2.code == 10) = false →
    ∀ r7 : Fault, r7 = (sp_at_ 10 (-7)) →
    K ((r6.code == r7.code) && (r6.index == r7.index))))) ∧
 ((t59) = false →
  ((r4.1 == 1000000000) = true →
   F_lawProd_J3 K true) ∧
  ((r4.1 == 1000000000) = false →
   F_lawProd_J3 K (r5.1 == 1000000000)))
def F_lawProd_J5 (K : Bool → Prop) (t782 : Bool) : Prop :=
 ((t782) = true →
  K (!false)) ∧
 ((t782) = false →
  K false)
def F_lawProd_J4 (K : Bool → Prop) (r4 : Int × Fault) (r5 : Int × Fault) (t592 : Bool) : Prop :=
 ((t592) = true →
  ((r4.2.code == 10) = true →
   K true) ∧
  ((r4.2.code == 10) = false →
   ((r5.2.code == 10) = true →
    K true) ∧
   ((r5.2.code == 10) = false →
    ∀ r9 : Fault, r9 = (sp_at_ 10 (-7)) →
    K ((10 == r9.code) && ((-7) == r9.index))))) ∧
 ((t592) = false →
  ((r4.1 == 1000000000) = true →
   F_lawProd_J5 K true) ∧
  ((r4.1 == 1000000000) = false →
   F_lawProd_J5 K (r5.1 == 1000000000)))
def F_lawProd_J8 (K : Bool → Prop) (r4 : Int × Fault) (r5 : Int × Fault) (l : List Node) (l2 : List Int) (l5 : List Int) (t783 : Bool) : Prop :=
 ((t783) = true →
  K (!true)) ∧
 ((t783) = false →
  ∀ x3 : Bool, x3 = (((gt l (gt l5 (IntKind.i64.wrap (((l2.length : Nat) : Int) - 1)))).cost) == (IntKind.i64.wrap (r4.1 + r5.1))) →
  K x3)
def F_lawProd_J7 (K : Bool → Prop) (r4 : Int × Fault) (r5 : Int × Fault) (l : List Node) (l2 : List Int) (l5 : List Int) (t593 : Bool) : Prop :=
 ((t593) = true →
  ((r4.2.code == 10) = true →
   K true) ∧
  ((r4.2.code == 10) = false →
   ((r5.2.code == 10) = true →
    K true) ∧
   ((r5.2.code == 10) = false →
    ∀ r14 : Fault, r14 = (sp_at_ 10 (-7)) →
    K ((0 == r14.code) && (0 == r14.index))))) ∧
 ((t593) = false →
  ((r4.1 == 1000000000) = true →
   F_lawProd_J8 K r4 r5 l l2 l5 true) ∧
  ((r4.1 == 1000000000) = false →
   F_lawProd_J8 K r4 r5 l l2 l5 (r5.1 == 1000000000)))
def F_lawProd_J9 (I2 : Int → (List Node) → (List Int) → Prop) (μ2 : Int → (List Node) → (List Int) → Nat) (t68 : Int) (l6 : List Node) (l7 : List Int) (l10 : List Node) (l11 : List Int) : Prop :=
 I2 (IntKind.i64.wrap (t68 + 1)) l10 l11 ∧
 μ2 (IntKind.i64.wrap (t68 + 1)) l10 l11 < μ2 t68 l6 l7
def F_lawProd_J10 (r2 : Task × Fault) (t6 : Bool) (j : Int) (l : List Node) (l2 : List Int) (I2 : Int → (List Node) → (List Int) → Prop) (μ2 : Int → (List Node) → (List Int) → Nat) (r15 : List Int) (I3 : Int → (List Int) → Prop) (μ3 : Int → (List Int) → Nat) (l5 : List Int) (t68 : Int) (l6 : List Node) (l7 : List Int) (l12 : List Int) (r16 : List Int) : Prop :=
 ((!t6) = true →
  F_lawProd_J9 I2 μ2 t68 l6 l7 (l6 ++ ([(⟨r16, IntKind.i64.wrap (((gt l (gt l5 (IntKind.i64.wrap (((l2.length : Nat) : Int) - 1)))).cost) + ((gt r2.1.ops (gt r15 t68)).cost)), (gt l5 (IntKind.i64.wrap (((l2.length : Nat) : Int) - 1))), (gt r15 t68)⟩ : Node)] : List Node)) l12) ∧
 ((!t6) = false →
  ∀ d4 : List Int, d4 = (l12.set (IntKind.i64.wrap (Int.tdiv (IntKind.i64.wrap (j - 1)) 2)).toNat (gt l12 j)) →
  (inb d4 j) ∧
  ∀ d5 : List Int, d5 = (d4.set (j).toNat (gt l12 (IntKind.i64.wrap (Int.tdiv (IntKind.i64.wrap (j - 1)) 2)))) →
  I3 (IntKind.i64.wrap (Int.tdiv (IntKind.i64.wrap (j - 1)) 2)) d5 ∧
 μ3 (IntKind.i64.wrap (Int.tdiv (IntKind.i64.wrap (j - 1)) 2)) d5 < μ3 j l12)
def F_lawProd_L3 (r2 : Task × Fault) (j : Int) (l : List Node) (l2 : List Int) (I2 : Int → (List Node) → (List Int) → Prop) (μ2 : Int → (List Node) → (List Int) → Nat) (r15 : List Int) (I3 : Int → (List Int) → Prop) (μ3 : Int → (List Int) → Nat) (l5 : List Int) (t68 : Int) (l6 : List Node) (l7 : List Int) (l12 : List Int) (r16 : List Int) : Prop :=
 (((IntKind.i64.wrap (Int.tdiv (IntKind.i64.wrap (j - 1)) 2)) == j) = true →
  F_lawProd_J9 I2 μ2 t68 l6 l7 (l6 ++ ([(⟨r16, IntKind.i64.wrap (((gt l (gt l5 (IntKind.i64.wrap (((l2.length : Nat) : Int) - 1)))).cost) + ((gt r2.1.ops (gt r15 t68)).cost)), (gt l5 (IntKind.i64.wrap (((l2.length : Nat) : Int) - 1))), (gt r15 t68)⟩ : Node)] : List Node)) l12) ∧
 (((IntKind.i64.wrap (Int.tdiv (IntKind.i64.wrap (j - 1)) 2)) == j) = false →
  (inb l12 j) ∧
  (inb (l6 ++ ([(⟨r16, IntKind.i64.wrap (((gt l (gt l5 (IntKind.i64.wrap (((l2.length : Nat) : Int) - 1)))).cost) + ((gt r2.1.ops (gt r15 t68)).cost)), (gt l5 (IntKind.i64.wrap (((l2.length : Nat) : Int) - 1))), (gt r15 t68)⟩ : Node)] : List Node)) (gt l12 j)) ∧
  (inb l12 (IntKind.i64.wrap (Int.tdiv (IntKind.i64.wrap (j - 1)) 2))) ∧
  (inb (l6 ++ ([(⟨r16, IntKind.i64.wrap (((gt l (gt l5 (IntKind.i64.wrap (((l2.length : Nat) : Int) - 1)))).cost) + ((gt r2.1.ops (gt r15 t68)).cost)), (gt l5 (IntKind.i64.wrap (((l2.length : Nat) : Int) - 1))), (gt r15 t68)⟩ : Node)] : List Node)) (gt l12 (IntKind.i64.wrap (Int.tdiv (IntKind.i64.wrap (j - 1)) 2)))) ∧
  ∀ x6 : Bool, x6 = (decide (((gt (l6 ++ ([(⟨r16, IntKind.i64.wrap (((gt l (gt l5 (IntKind.i64.wrap (((l2.length : Nat) : Int) - 1)))).cost) + ((gt r2.1.ops (gt r15 t68)).cost)), (gt l5 (IntKind.i64.wrap (((l2.length : Nat) : Int) - 1))), (gt r15 t68)⟩ : Node)] : List Node)) (gt l12 j)).cost) < ((gt (l6 ++ ([(⟨r16, IntKind.i64.wrap (((gt l (gt l5 (IntKind.i64.wrap (((l2.length : Nat) : Int) - 1)))).cost) + ((gt r2.1.ops (gt r15 t68)).cost)), (gt l5 (IntKind.i64.wrap (((l2.length : Nat) : Int) - 1))), (gt r15 t68)⟩ : Node)] : List Node)) (gt l12 (IntKind.i64.wrap (Int.tdiv (IntKind.i64.wrap (j - 1)) 2)))).cost))) →
  ((x6) = true →
   F_lawProd_J10 r2 true j l l2 I2 μ2 r15 I3 μ3 l5 t68 l6 l7 l12 r16) ∧
  ((x6) = false →
   ∀ x7 : Bool, x7 = (((gt (l6 ++ ([(⟨r16, IntKind.i64.wrap (((gt l (gt l5 (IntKind.i64.wrap (((l2.length : Nat) : Int) - 1)))).cost) + ((gt r2.1.ops (gt r15 t68)).cost)), (gt l5 (IntKind.i64.wrap (((l2.length : Nat) : Int) - 1))), (gt r15 t68)⟩ : Node)] : List Node)) (gt l12 j)).cost) == ((gt (l6 ++ ([(⟨r16, IntKind.i64.wrap (((gt l (gt l5 (IntKind.i64.wrap (((l2.length : Nat) : Int) - 1)))).cost) + ((gt r2.1.ops (gt r15 t68)).cost)), (gt l5 (IntKind.i64.wrap (((l2.length : Nat) : Int) - 1))), (gt r15 t68)⟩ : Node)] : List Node)) (gt l12 (IntKind.i64.wrap (Int.tdiv (IntKind.i64.wrap (j - 1)) 2)))).cost)) →
   ((x7) = true →
    ∀ x8 : Bool, x8 = (decide ((gt l12 j) < (gt l12 (IntKind.i64.wrap (Int.tdiv (IntKind.i64.wrap (j - 1)) 2))))) →
    F_lawProd_J10 r2 x8 j l l2 I2 μ2 r15 I3 μ3 l5 t68 l6 l7 l12 r16) ∧
   ((x7) = false →
    F_lawProd_J10 r2 false j l l2 I2 μ2 r15 I3 μ3 l5 t68 l6 l7 l12 r16)))
def F_lawProd_L2 (r2 : Task × Fault) (x : Int) (l : List Node) (l2 : List Int) (I2 : Int → (List Node) → (List Int) → Prop) (μ2 : Int → (List Node) → (List Int) → Nat) (m : List (Int × Int)) (r15 : List Int) (l5 : List Int) (t68 : Int) (l6 : List Node) (l7 : List Int) (I1 : Int → (List (Int × Int)) → (List Node) → (List Int) → Prop) (μ1 : Int → (List (Int × Int)) → (List Node) → (List Int) → Nat) (m3 : List (Int × Int)) : Prop :=
 ((decide (t68 < ((r15.length : Nat) : Int))) = true →
  (inb r15 t68) ∧
  (inb r2.1.ops (gt r15 t68)) ∧
  (pre_next r2.1 ((gt l (gt l5 (IntKind.i64.wrap (((l2.length : Nat) : Int) - 1)))).state) (gt r15 t68)) ∧
  ∀ r16 : List Int, r16 = (sp_after r2.1 ((gt l (gt l5 (IntKind.i64.wrap (((l2.length : Nat) : Int) - 1)))).state) (gt r15 t68)) →
  (room ((l6 ++ ([(⟨r16, IntKind.i64.wrap (((gt l (gt l5 (IntKind.i64.wrap (((l2.length : Nat) : Int) - 1)))).cost) + ((gt r2.1.ops (gt r15 t68)).cost)), (gt l5 (IntKind.i64.wrap (((l2.length : Nat) : Int) - 1))), (gt r15 t68)⟩ : Node)] : List Node))).length 48) ∧
  ∀ x4 : Int, x4 = (((l6 ++ ([(⟨r16, IntKind.i64.wrap (((gt l (gt l5 (IntKind.i64.wrap (((l2.length : Nat) : Int) - 1)))).cost) + ((gt r2.1.ops (gt r15 t68)).cost)), (gt l5 (IntKind.i64.wrap (((l2.length : Nat) : Int) - 1))), (gt r15 t68)⟩ : Node)] : List Node)).length : Nat) : Int) →
  (room ((l7 ++ ([IntKind.i64.wrap (x4 - 1)] : List Int))).length 8) ∧
  ∀ x5 : Int, x5 = (((l7 ++ ([IntKind.i64.wrap (x4 - 1)] : List Int)).length : Nat) : Int) →
  ∃ (I3 : Int → (List Int) → Prop) (μ3 : Int → (List Int) → Nat), I3 (IntKind.i64.wrap (x5 - 1)) (l7 ++ ([IntKind.i64.wrap (x4 - 1)] : List Int)) ∧ ∀ (j : Int) (l12 : List Int), I3 j l12 → F_lawProd_L3 r2 j l l2 I2 μ2 r15 I3 μ3 l5 t68 l6 l7 l12 r16) ∧
 ((decide (t68 < ((r15.length : Nat) : Int))) = false →
  I1 (IntKind.i64.wrap (x + 1)) m3 l6 l7 ∧
 μ1 (IntKind.i64.wrap (x + 1)) m3 l6 l7 < μ1 x m l l2)
def F_lawProd_J6 (K : Bool → Prop) (r2 : Task × Fault) (r4 : Int × Fault) (r5 : Int × Fault) (x : Int) (l : List Node) (l2 : List Int) (m : List (Int × Int)) (l5 : List Int) (I1 : Int → (List (Int × Int)) → (List Node) → (List Int) → Prop) (μ1 : Int → (List (Int × Int)) → (List Node) → (List Int) → Nat) : Prop :=
 (inb l5 (IntKind.i64.wrap (((l2.length : Nat) : Int) - 1))) ∧
 (0 ≤ (IntKind.i64.wrap (((l2.length : Nat) : Int) - 1)) ∧ (IntKind.i64.wrap (((l2.length : Nat) : Int) - 1)) ≤ ((l2.length : Nat) : Int)) ∧
 ∀ d3 : List Int, d3 = (l5.take (IntKind.i64.wrap (((l2.length : Nat) : Int) - 1)).toNat) →
 (inb l (gt l5 (IntKind.i64.wrap (((l2.length : Nat) : Int) - 1)))) ∧
 (pre_wordC ((gt l (gt l5 (IntKind.i64.wrap (((l2.length : Nat) : Int) - 1)))).state)) ∧
 ∀ r10 : Int, r10 = (sp_wordC ((gt l (gt l5 (IntKind.i64.wrap (((l2.length : Nat) : Int) - 1)))).state)) →
 (((getA m r10).isSome) = true →
  I1 x m l d3 ∧
 μ1 x m l d3 < μ1 x m l l2) ∧
 (((getA m r10).isSome) = false →
  ∀ r11 : Int, r11 = (sp_wordC ((gt l (gt l5 (IntKind.i64.wrap (((l2.length : Nat) : Int) - 1)))).state)) →
  ∀ m3 : List (Int × Int), m3 = (setA m r11 (gt l5 (IntKind.i64.wrap (((l2.length : Nat) : Int) - 1)))) →
  (pre_contains2 ((gt l (gt l5 (IntKind.i64.wrap (((l2.length : Nat) : Int) - 1)))).state) r2.1.goal) ∧
  ∀ r12 : Bool, r12 = (sp_contains2 ((gt l (gt l5 (IntKind.i64.wrap (((l2.length : Nat) : Int) - 1)))).state) r2.1.goal) →
  ((r12) = true →
   (pre_pathC l (gt l5 (IntKind.i64.wrap (((l2.length : Nat) : Int) - 1)))) ∧
   ∀ r13 : List Int, r13 = (sp_pathC l (gt l5 (IntKind.i64.wrap (((l2.length : Nat) : Int) - 1)))) →
   ((r4.2.code != 0) = true →
    F_lawProd_J7 K r4 r5 l l2 l5 true) ∧
   ((r4.2.code != 0) = false →
    ((r5.2.code != 0) = true →
     F_lawProd_J7 K r4 r5 l l2 l5 true) ∧
    ((r5.2.code != 0) = false →
     F_lawProd_J7 K r4 r5 l l2 l5 (0 != 0)))) ∧
  ((r12) = false →
   (pre_stubborn r2.1 ((gt l (gt l5 (IntKind.i64.wrap (((l2.length : Nat) : Int) - 1)))).state)) ∧
   ∀ r15 : List Int, r15 = (sp_stubborn r2.1 ((gt l (gt l5 (IntKind.i64.wrap (((l2.length : Nat) : Int) - 1)))).state)) →
   ∃ (I2 : Int → (List Node) → (List Int) → Prop) (μ2 : Int → (List Node) → (List Int) → Nat), I2 0 l d3 ∧ ∀ (t68 : Int) (l6 : List Node) (l7 : List Int), I2 t68 l6 l7 → F_lawProd_L2 r2 x l l2 I2 μ2 m r15 l5 t68 l6 l7 I1 μ1 m3))
def F_lawProd_J13 (K : Bool → Prop) (r2 : Task × Fault) (r4 : Int × Fault) (r5 : Int × Fault) (x : Int) (t62 : Bool) (l : List Node) (i2 : Int) (l2 : List Int) (m : List (Int × Int)) (j3 : Int) (I4 : Int → (List Int) → Prop) (μ4 : Int → (List Int) → Nat) (I1 : Int → (List (Int × Int)) → (List Node) → (List Int) → Prop) (μ1 : Int → (List (Int × Int)) → (List Node) → (List Int) → Nat) (l14 : List Int) : Prop :=
 ((!t62) = true →
  F_lawProd_J6 K r2 r4 r5 x l l2 m l14 I1 μ1) ∧
 ((!t62) = false →
  ∀ d6 : List Int, d6 = (l14.set (i2).toNat (gt l14 j3)) →
  (inb d6 j3) ∧
  ∀ d7 : List Int, d7 = (d6.set (j3).toNat (gt l14 i2)) →
  I4 j3 d7 ∧
 μ4 j3 d7 < μ4 i2 l14)
def F_lawProd_J12 (K : Bool → Prop) (r2 : Task × Fault) (r4 : Int × Fault) (r5 : Int × Fault) (x : Int) (l : List Node) (i2 : Int) (l2 : List Int) (m : List (Int × Int)) (j3 : Int) (I4 : Int → (List Int) → Prop) (μ4 : Int → (List Int) → Nat) (I1 : Int → (List (Int × Int)) → (List Node) → (List Int) → Prop) (μ1 : Int → (List (Int × Int)) → (List Node) → (List Int) → Nat) (l14 : List Int) : Prop :=
 (inb l14 j3) ∧
 (inb l (gt l14 j3)) ∧
 (inb l14 i2) ∧
 (inb l (gt l14 i2)) ∧
 ((decide (((gt l (gt l14 j3)).cost) < ((gt l (gt l14 i2)).cost))) = true →
  F_lawProd_J13 K r2 r4 r5 x true l i2 l2 m j3 I4 μ4 I1 μ1 l14) ∧
 ((decide (((gt l (gt l14 j3)).cost) < ((gt l (gt l14 i2)).cost))) = false →
  ((((gt l (gt l14 j3)).cost) == ((gt l (gt l14 i2)).cost)) = true →
   F_lawProd_J13 K r2 r4 r5 x (decide ((gt l14 j3) < (gt l14 i2))) l i2 l2 m j3 I4 μ4 I1 μ1 l14) ∧
  ((((gt l (gt l14 j3)).cost) == ((gt l (gt l14 i2)).cost)) = false →
   F_lawProd_J13 K r2 r4 r5 x false l i2 l2 m j3 I4 μ4 I1 μ1 l14))
def F_lawProd_J11 (K : Bool → Prop) (r2 : Task × Fault) (r4 : Int × Fault) (r5 : Int × Fault) (x : Int) (t33 : Bool) (l : List Node) (i2 : Int) (l2 : List Int) (m : List (Int × Int)) (x11 : Int) (I4 : Int → (List Int) → Prop) (μ4 : Int → (List Int) → Nat) (I1 : Int → (List (Int × Int)) → (List Node) → (List Int) → Prop) (μ1 : Int → (List (Int × Int)) → (List Node) → (List Int) → Nat) (l14 : List Int) : Prop :=
 ((t33) = true →
  F_lawProd_J12 K r2 r4 r5 x l i2 l2 m x11 I4 μ4 I1 μ1 l14) ∧
 ((t33) = false →
  F_lawProd_J12 K r2 r4 r5 x l i2 l2 m (IntKind.i64.wrap ((IntKind.i64.wrap (2 * i2)) + 1)) I4 μ4 I1 μ1 l14)
def F_lawProd_J14 (K : Bool → Prop) (r2 : Task × Fault) (r4 : Int × Fault) (r5 : Int × Fault) (x : Int) (l : List Node) (i2 : Int) (l2 : List Int) (m : List (Int × Int)) (x11 : Int) (t63 : Bool) (I4 : Int → (List Int) → Prop) (μ4 : Int → (List Int) → Nat) (I1 : Int → (List (Int × Int)) → (List Node) → (List Int) → Prop) (μ1 : Int → (List (Int × Int)) → (List Node) → (List Int) → Nat) (l14 : List Int) : Prop :=
 F_lawProd_J11 K r2 r4 r5 x t63 l i2 l2 m x11 I4 μ4 I1 μ1 l14
def F_lawProd_L4 (K : Bool → Prop) (r2 : Task × Fault) (r4 : Int × Fault) (r5 : Int × Fault) (x : Int) (l : List Node) (i2 : Int) (l2 : List Int) (m : List (Int × Int)) (I4 : Int → (List Int) → Prop) (μ4 : Int → (List Int) → Nat) (I1 : Int → (List (Int × Int)) → (List Node) → (List Int) → Prop) (μ1 : Int → (List (Int × Int)) → (List Node) → (List Int) → Nat) (l14 : List Int) : Prop :=
 ∀ x9 : Bool, x9 = (decide ((IntKind.i64.wrap (((l2.length : Nat) : Int) - 1)) ≤ (IntKind.i64.wrap ((IntKind.i64.wrap (2 * i2)) + 1)))) →
 ((x9) = true →
  F_lawProd_J6 K r2 r4 r5 x l l2 m l14 I1 μ1) ∧
 ((x9) = false →
  ∀ x10 : Bool, x10 = (decide ((IntKind.i64.wrap ((IntKind.i64.wrap (2 * i2)) + 1)) < 0)) →
  ((x10) = true →
   F_lawProd_J6 K r2 r4 r5 x l l2 m l14 I1 μ1) ∧
  ((x10) = false →
   ∀ x11 : Int, x11 = (IntKind.i64.wrap ((IntKind.i64.wrap ((IntKind.i64.wrap (2 * i2)) + 1)) + 1)) →
   ∀ x12 : Bool, x12 = (decide (x11 < (IntKind.i64.wrap (((l2.length : Nat) : Int) - 1)))) →
   ((x12) = true →
    (inb l14 x11) ∧
    (inb l (gt l14 x11)) ∧
    (inb l14 (IntKind.i64.wrap ((IntKind.i64.wrap (2 * i2)) + 1))) ∧
    (inb l (gt l14 (IntKind.i64.wrap ((IntKind.i64.wrap (2 * i2)) + 1)))) ∧
    ∀ x13 : Bool, x13 = (decide (((gt l (gt l14 x11)).cost) < ((gt l (gt l14 (IntKind.i64.wrap ((IntKind.i64.wrap (2 * i2)) + 1)))).cost))) →
    ((x13) = true →
     F_lawProd_J14 K r2 r4 r5 x l i2 l2 m x11 true I4 μ4 I1 μ1 l14) ∧
    ((x13) = false →
     ∀ x14 : Bool, x14 = (((gt l (gt l14 x11)).cost) == ((gt l (gt l14 (IntKind.i64.wrap ((IntKind.i64.wrap (2 * i2)) + 1)))).cost)) →
     ((x14) = true →
      ∀ x15 : Bool, x15 = (decide ((gt l14 x11) < (gt l14 (IntKind.i64.wrap ((IntKind.i64.wrap (2 * i2)) + 1))))) →
      F_lawProd_J14 K r2 r4 r5 x l i2 l2 m x11 x15 I4 μ4 I1 μ1 l14) ∧
     ((x14) = false →
      F_lawProd_J14 K r2 r4 r5 x l i2 l2 m x11 false I4 μ4 I1 μ1 l14))) ∧
   ((x12) = false →
    F_lawProd_J11 K r2 r4 r5 x false l i2 l2 m x11 I4 μ4 I1 μ1 l14)))
def F_lawProd_J16 (K : Bool → Prop) (t784 : Bool) : Prop :=
 ((t784) = true →
  K (!false)) ∧
 ((t784) = false →
  K false)
def F_lawProd_J15 (K : Bool → Prop) (r4 : Int × Fault) (r5 : Int × Fault) (t594 : Bool) : Prop :=
 ((t594) = true →
  ((r4.2.code == 10) = true →
   K true) ∧
  ((r4.2.code == 10) = false →
   ((r5.2.code == 10) = true →
    K true) ∧
   ((r5.2.code == 10) = false →
    ∀ r17 : Fault, r17 = (sp_at_ 10 (-7)) →
    K ((0 == r17.code) && (0 == r17.index))))) ∧
 ((t594) = false →
  ((r4.1 == 1000000000) = true →
   F_lawProd_J16 K true) ∧
  ((r4.1 == 1000000000) = false →
   F_lawProd_J16 K (r5.1 == 1000000000)))
def F_lawProd_L1 (K : Bool → Prop) (r2 : Task × Fault) (r4 : Int × Fault) (r5 : Int × Fault) (x : Int) (l : List Node) (l2 : List Int) (m : List (Int × Int)) (I1 : Int → (List (Int × Int)) → (List Node) → (List Int) → Prop) (μ1 : Int → (List (Int × Int)) → (List Node) → (List Int) → Nat) : Prop :=
 ((decide (0 < ((l2.length : Nat) : Int))) = true →
  (inb l2 (IntKind.i64.wrap (((l2.length : Nat) : Int) - 1))) ∧
  (inb l2 (0 : Int)) ∧
  ∀ d : List Int, d = (l2.set ((0 : Int)).toNat (gt l2 (IntKind.i64.wrap (((l2.length : Nat) : Int) - 1)))) →
  (inb d (IntKind.i64.wrap (((l2.length : Nat) : Int) - 1))) ∧
  ∀ d2 : List Int, d2 = (d.set (IntKind.i64.wrap (((l2.length : Nat) : Int) - 1)).toNat (gt l2 (0 : Int))) →
  ∃ (I4 : Int → (List Int) → Prop) (μ4 : Int → (List Int) → Nat), I4 0 d2 ∧ ∀ (i2 : Int) (l14 : List Int), I4 i2 l14 → F_lawProd_L4 K r2 r4 r5 x l i2 l2 m I4 μ4 I1 μ1 l14) ∧
 ((decide (0 < ((l2.length : Nat) : Int))) = false →
  ((r4.2.code != 0) = true →
   F_lawProd_J15 K r4 r5 true) ∧
  ((r4.2.code != 0) = false →
   ((r5.2.code != 0) = true →
    F_lawProd_J15 K r4 r5 true) ∧
   ((r5.2.code != 0) = false →
    F_lawProd_J15 K r4 r5 (0 != 0))))
def F_lawProd_J1 (a : Task) (b : Task) (K : Bool → Prop) (r2 : Task × Fault) (t25 : Bool) : Prop :=
 ((t25) = true →
  ∀ r3 : Bool, r3 = sp_kernWorks →
  ((r3) = true →
   K (r2.1.facts == 0)) ∧
  ((r3) = false →
   K false)) ∧
 ((t25) = false →
  ∀ r4 : Int × Fault, r4 = (sp_optimal a) →
  ∀ r5 : Int × Fault, r5 = (sp_optimal b) →
  ∀ r6 : Fault, r6 = (sp_validate r2.1) →
  ((!((r6.code == 0) && (r6.index == 0))) = true →
   ((r4.2.code != 0) = true →
    F_lawProd_J2 K r4 r5 r6 true) ∧
   ((r4.2.code != 0) = false →
    ((r5.2.code != 0) = true →
     F_lawProd_J2 K r4 r5 r6 true) ∧
    ((r5.2.code != 0) = false →
     F_lawProd_J2 K r4 r5 r6 (r6.code != 0)))) ∧
  ((!((r6.code == 0) && (r6.index == 0))) = false →
   (pre_reachable r2.1) ∧
   ∀ r8 : Int, r8 = (sp_reachable r2.1) →
   ((decide (r8 < 0)) = true →
    ((r4.2.code != 0) = true →
     F_lawProd_J4 K r4 r5 true) ∧
    ((r4.2.code != 0) = false →
     ((r5.2.code != 0) = true →
      F_lawProd_J4 K r4 r5 true) ∧
     ((r5.2.code != 0) = false →
      F_lawProd_J4 K r4 r5 (10 != 0)))) ∧
   ((decide (r8 < 0)) = false →
    ∃ (I1 : Int → (List (Int × Int)) → (List Node) → (List Int) → Prop) (μ1 : Int → (List (Int × Int)) → (List Node) → (List Int) → Nat), I1 0 ([] : List (Int × Int)) ([(⟨r2.1.init, 0, (-1), 0⟩ : Node)] : List Node) ([0] : List Int) ∧ ∀ (x : Int) (m : List (Int × Int)) (l : List Node) (l2 : List Int), I1 x m l l2 → F_lawProd_L1 K r2 r4 r5 x l l2 m I1 μ1)))
def F_lawProd (a : Task) (b : Task) (K : Bool → Prop) : Prop :=
 ∀ r2 : Task × Fault, r2 = (sp_product a b) →
 ∀ r18 : Bool, r18 = sp_kernWorks →
 ((!r18) = true →
  F_lawProd_J1 a b K r2 true) ∧
 ((!r18) = false →
  F_lawProd_J1 a b K r2 (r2.2.code != 0))
end Go.Proofs.YtimillpakjgnoaaGreat.Pl

namespace Go.Proofs.YtimillpakjgnoaaGreat.Pl
open Go Go.RowKit
end Go.Proofs.YtimillpakjgnoaaGreat.Pl

namespace Go.Proofs.YtimillpakjgnoaaGreat.Pl
open Go Go.RowKit
theorem ok_at_ : ∀ (code : Int) (index : Int), F_at_ code index (fun r => r = sp_at_ code index) := fun _ _ => rfl
theorem idxOf_hit {l : List Int} {v : Int} {k : Nat} (hk : k < l.length) (h : v ∉ l.take k) (e : v = gt l (k : Int)) : l.idxOf v = k := by
 have h1 : l = l.take k ++ (gt l (k : Int) :: l.drop (k + 1)) := by
  have h2 := drop_gt (xs := l) (i := (k : Int)) ⟨by omega, by omega⟩
  have h3 : ((k : Int) + 1).toNat = k + 1 := by omega
  rw [h3, Int.toNat_natCast] at h2
  rw [← h2, List.take_append_drop]
 rw [h1, List.idxOf_append, if_neg h, ← e, List.idxOf_cons_self, List.length_take]
 omega
theorem ok_index : ∀ (s_ : List Int) (v : Int), pre_index s_ v → F_index s_ v (fun r => r = sp_index s_ v) := fun l x hp => by
 unfold pre_index at hp
 refine ⟨fun t => ∃ k : Nat, t = k ∧ k ≤ l.length ∧ x ∉ l.take k, fun t => (l.length - t).toNat, ⟨0, rfl, Nat.zero_le _, by simp⟩, ?_⟩
 rintro _ ⟨k, rfl, k1, k2⟩
 unfold F_index_L1
 simp only [decide_eq_true_eq, decide_eq_false_iff_not, beq_iff_eq, beq_eq_false_iff_ne, ne_eq]
 refine ⟨fun h => ?_, fun h => ?_⟩
 ·have hk : k < l.length := by omega
  refine ⟨⟨by omega, h⟩, fun q => ?_, fun q => ?_⟩
  ·have : x ∈ l := q ▸ gt_memN hk
   rw [sp_index, if_pos this, idxOf_hit hk k2 q]
  ·rw [w64 (by omega)]
   refine ⟨⟨k + 1, by omega, by omega, ?_⟩, by omega⟩
   rw [takeN_gt hk]
   simp only [List.mem_append, List.mem_singleton, not_or]
   exact ⟨k2, q⟩
 ·rw [List.take_of_length_le (by omega)] at k2
  rw [sp_index, if_neg k2]
theorem ok_contains : ∀ (s_ : List Int) (v : Int), pre_index s_ v → F_contains s_ v (fun r => r = sp_contains s_ v) := fun l x hp => by
 refine ⟨hp, fun r hr => ?_⟩
 rw [hr]
 unfold sp_index sp_contains
 by_cases h : x ∈ l
 ·rw [if_pos h]; simp [h]
 ·rw [if_neg h]; simp [h]
theorem ok_isNaN1 : ∀ (x : Int), F_isNaN1 x (fun r => r = sp_isNaN1 x) := fun x => by
 show (x != x) = false
 simp
theorem ok_isNaN2 : ∀ (x : Int), F_isNaN2 x (fun r => r = sp_isNaN1 x) := fun x => by
 show (x != x) = false
 simp
theorem ok_less : ∀ (x : Int) (y : Int), F_less x y (fun r => r = sp_less x y) := fun x y => by
 unfold F_less
 simp only [forall_eq, sp_isNaN1]
 exact ⟨fun h => absurd h (by decide), fun _ => rfl⟩
theorem ok_indexF : ∀ (s_ : List Int) (pf : Int → Bool) (Df : Int → Prop), pre_any s_ pf Df → F_indexF s_ pf Df (fun r => r = sp_indexF s_ pf Df) := fun xs p D ⟨hl, hD⟩ => by
 refine ⟨fun t => 0 ≤ t ∧ t ≤ xs.length ∧ ∀ x ∈ xs.take t.toNat, p x = false, fun t => (xs.length - t).toNat, ⟨Int.le_refl _, by omega, by simp⟩, ?_⟩
 rintro t ⟨h0, h1, h2⟩
 unfold F_indexF_L1
 obtain ⟨k1, k2⟩ := any_split h0 h2
 simp only [decide_eq_true_eq, decide_eq_false_iff_not, forall_eq]
 refine ⟨fun h => ⟨⟨h0, h⟩, hD _ (gt_mem ⟨h0, h⟩), fun q => (k1 h q).symm, fun q => ?_⟩, fun h => (k2 h).symm⟩
 rw [w64 (by omega)]
 exact ⟨⟨by omega, by omega, any_next h0 h2 h q⟩, by omega⟩
theorem ok_containsF : ∀ (s_ : List Int) (pf : Int → Bool) (Df : Int → Prop), pre_any s_ pf Df → F_containsF s_ pf Df (fun r => r = sp_any s_ pf Df) := fun xs p D hp => by
 refine ⟨hp, fun r hr => ?_⟩
 rw [hr]
 show decide (0 ≤ sp_indexF xs p D) = sp_any xs p D
 unfold sp_indexF sp_any
 cases h : xs.any p
 ·simp
 ·simp
end Go.Proofs.YtimillpakjgnoaaGreat.Pl

namespace Go.Proofs.YtimillpakjgnoaaGreat.Pl
open Go Go.RowKit
theorem half {n : Int} (h0 : 0 ≤ n) (h1 : n ≤ 100000) : IntKind.i64.wrap (Int.fdiv (IntKind.u64.wrap (IntKind.i64.wrap n)) (2 ^ (min ((1 : Int)).toNat (IntKind.bits .u64)))) = n / 2 := by
 have e : (2 : Int) ^ (min ((1 : Int)).toNat (IntKind.bits .u64)) = 2 := by decide
 rw [e, w64 (n := n) (by omega), IntKind.wrap_u64, Int.fdiv_eq_ediv_of_nonneg _ (by omega), w64 (by omega)]
 omega
theorem filter_lt {x : List Int} {t : Int} {i : Nat} (hi : i ≤ x.length) (h1 : ∀ p : Nat, p < i → gt x (p : Int) < t) (h2 : ∀ p : Nat, i ≤ p → p < x.length → t ≤ gt x (p : Int)) : (x.filter fun a => decide (a < t)).length = i := by
 have e1 : (x.take i).filter (fun a => decide (a < t)) = x.take i := List.filter_eq_self.2 fun a ha => by
  obtain ⟨p, hp, rfl⟩ := List.mem_take_iff_getElem.1 ha
  have := h1 p (by omega)
  rw [gt_of ⟨by omega, by omega⟩] at this
  simpa using this
 have e2 : (x.drop i).filter (fun a => decide (a < t)) = [] := List.filter_eq_nil_iff.2 fun a ha => by
  obtain ⟨p, hp, rfl⟩ := List.mem_drop_iff_getElem.1 ha
  have := h2 (i + p) (by omega) (by omega)
  rw [gt_of ⟨by omega, by omega⟩] at this
  simp only [Int.toNat_natCast] at this
  simpa [Nat.add_comm] using this
 conv => lhs; rw [← List.take_append_drop i x]
 rw [List.filter_append, e1, e2, List.append_nil, List.length_take]
 omega
theorem sorted_gt {x : List Int} (hs : x.Pairwise (· < ·)) {p q : Nat} (hpq : p < q) (hq : q < x.length) : gt x (p : Int) < gt x (q : Int) := by
 rw [gt_of ⟨by omega, by omega⟩, gt_of ⟨by omega, by omega⟩]
 exact List.pairwise_iff_getElem.1 hs _ _ _ _ (by simpa using hpq)
theorem ok_bsearch : ∀ (x : List Int) (target : Int), pre_bsearch x target → F_bsearch x target (fun r => r = sp_bsearch x target) := fun x t ⟨hs, hl⟩ => by
 refine ⟨fun i j => ∃ a b : Nat, i = a ∧ j = b ∧ a ≤ b ∧ b ≤ x.length ∧ (∀ p : Nat, p < a → gt x (p : Int) < t) ∧ ∀ p : Nat, b ≤ p → p < x.length → t ≤ gt x (p : Int), fun i j => (j - i).toNat, ⟨0, x.length, rfl, rfl, by omega, by omega, fun p hp => by omega, fun p h1 h2 => by omega⟩, ?_⟩
 rintro _ _ ⟨a, b, rfl, rfl, hab, hb, h1, h2⟩
 unfold F_bsearch_L1
 simp only [decide_eq_true_eq, decide_eq_false_iff_not, forall_eq, beq_iff_eq, beq_eq_false_iff_ne, ne_eq, sp_isNaN1, sp_less]
 have ew := half (n := (a : Int) + b) (by omega) (by omega)
 refine ⟨fun h => ?_, fun h => ?_⟩
 ·rw [ew]
  have em : ((a : Int) + b) / 2 = ((a + b) / 2 : Nat) := by omega
  rw [em]
  have hm : (a + b) / 2 < b := by omega
  refine ⟨⟨by omega, by omega⟩, fun q => ?_, fun q => ?_⟩
  ·rw [w64 (by omega)]
   refine ⟨⟨(a + b) / 2 + 1, b, by omega, rfl, by omega, hb, fun p hp => ?_, h2⟩, by omega⟩
   rcases Nat.lt_or_ge p ((a + b) / 2) with g | g
   ·exact Int.lt_trans (sorted_gt hs g (by omega)) q
   ·rw [show p = (a + b) / 2 by omega]; exact q
  ·refine ⟨⟨a, (a + b) / 2, rfl, rfl, by omega, by omega, h1, fun p g1 g2 => ?_⟩, by omega⟩
   rcases Nat.lt_or_ge ((a + b) / 2) p with g | g
   ·have := sorted_gt hs g g2
    omega
   ·rw [show p = (a + b) / 2 by omega]; omega
 ·have e : a = b := by omega
  subst e
  have hf := filter_lt hb h1 h2
  have hm : (t ∈ x) ↔ a < x.length ∧ gt x (a : Int) = t := by
   constructor
   ·intro hx
    obtain ⟨p, hp, e⟩ := mem_gt hx
    rcases Nat.lt_trichotomy p a with g | g | g
    ·have := h1 p g; omega
    ·subst g; exact ⟨hp, e⟩
    ·have := sorted_gt hs g hp
     have := h2 a (Nat.le_refl _) (by omega)
     omega
   ·rintro ⟨g1, g2⟩
    exact g2 ▸ gt_memN g1
  unfold sp_bsearch
  rw [hf]
  refine ⟨fun g => ⟨⟨by omega, g⟩, fun q => ?_, fun q => ⟨fun g => absurd g (by decide), fun _ => ?_⟩⟩, fun g => ?_⟩
  ·rw [decide_eq_true (hm.2 ⟨by omega, q⟩)]
  ·rw [decide_eq_false fun k => q (hm.1 k).2]
  ·rw [decide_eq_false fun k => g (by have := (hm.1 k).1; omega)]
def SetTo (l : List Int) (n : Int) (k : Nat) : Prop := ∀ p : Nat, p < k → (0 ≤ gt l (p : Int) ∧ gt l (p : Int) < n) ∧ (0 < p → gt l ((p - 1 : Nat) : Int) < gt l (p : Int))
theorem SetTo.pair {l : List Int} {n : Int} {k : Nat} (h : SetTo l n k) : ∀ q : Nat, q < k → ∀ p : Nat, p < q → gt l (p : Int) < gt l (q : Int)
 | 0, _, p, hp => by omega
 | q + 1, hq, p, hp => by
  have h1 := (h (q + 1) hq).2 (by omega)
  rw [Nat.add_sub_cancel] at h1
  rcases Nat.lt_or_ge p q with g | g
  ·exact Int.lt_trans (h.pair q (by omega) p g) h1
  ·rw [show p = q by omega]; exact h1
theorem SetTo.all {l : List Int} {n : Int} (h : SetTo l n l.length) : sp_isSet l n = true := decide_eq_true ⟨List.pairwise_iff_getElem.2 fun p q hp hq hpq => by
  have := h.pair q hq p hpq
  rw [gt_of ⟨by omega, by omega⟩, gt_of ⟨by omega, by omega⟩] at this
  simpa using this, fun x hx => by
  obtain ⟨p, hp, rfl⟩ := mem_gt hx
  exact (h p hp).1⟩
theorem setTo_of {l : List Int} {n : Int} (h : sp_isSet l n = true) : SetTo l n l.length := fun p hp =>
 ⟨(of_decide_eq_true h).2 _ (gt_memN hp), fun h0 => sorted_gt (of_decide_eq_true h).1 (by omega) hp⟩
theorem not_setTo {l : List Int} {n : Int} {k : Nat} (hk : k < l.length) (h : ¬ SetTo l n (k + 1)) : sp_isSet l n = false := by
 cases e : sp_isSet l n
 ·rfl
 ·exact absurd (fun p hp => setTo_of e p (by omega)) h
theorem SetTo.small {l : List Int} {n : Int} (hn : 0 ≤ n) : ∀ {k : Nat}, SetTo l n k → (k : Int) ≤ n ∧ (0 < k → (k : Int) ≤ gt l ((k - 1 : Nat) : Int) + 1)
 | 0, _ => ⟨by omega, fun h => by omega⟩
 | k + 1, h => by
  have ih := SetTo.small hn (k := k) (fun p hp => h p (by omega))
  have h1 := h k (by omega)
  rw [Nat.add_sub_cancel]
  rcases Nat.eq_zero_or_pos k with rfl | q
  ·constructor
   ·have := h1.1; omega
   ·intro _; have := h1.1; omega
  ·have h2 := h1.2 q
   have h3 := ih.2 q
   constructor
   ·have := h1.1; omega
   ·intro _; omega
theorem setTo_next {l : List Int} {n : Int} {k : Nat} (h : SetTo l n k) : SetTo l n (k + 1) ↔ (0 ≤ gt l (k : Int) ∧ gt l (k : Int) < n) ∧ (0 < k → gt l ((k - 1 : Nat) : Int) < gt l (k : Int)) := by
 refine ⟨fun g => g k (by omega), fun g p hp => ?_⟩
 rcases Nat.lt_or_ge p k with q | q
 ·exact h p q
 ·rw [show p = k by omega]; exact g
theorem ok_isSet : ∀ (l : List Int) (n_ : Int), pre_isSet l n_ → F_isSet l n_ (fun r => r = sp_isSet l n_) := fun l n ⟨n0, n1⟩ => by
 refine ⟨fun t => ∃ k : Nat, t = k ∧ k ≤ l.length ∧ SetTo l n k, fun t => (l.length - t).toNat, ⟨0, rfl, Nat.zero_le _, fun p hp => by omega⟩, ?_⟩
 rintro _ ⟨k, rfl, k1, k2⟩
 unfold F_isSet_L1 F_isSet_J1
 simp only [decide_eq_true_eq, decide_eq_false_iff_not]
 have hk := k2.small n0
 rw [w64 (n := (k : Int) + 1) (by omega)]
 refine ⟨fun h => ?_, fun h => ?_⟩
 ·have bad : ¬ ((0 ≤ gt l (k : Int) ∧ gt l (k : Int) < n) ∧ (0 < k → gt l ((k - 1 : Nat) : Int) < gt l (k : Int))) → false = sp_isSet l n := fun q => (not_setTo (k := k) (by omega) (fun g => q ((setTo_next k2).1 g))).symm
  have good : ((0 ≤ gt l (k : Int) ∧ gt l (k : Int) < n) ∧ (0 < k → gt l ((k - 1 : Nat) : Int) < gt l (k : Int))) → (∃ k' : Nat, (k : Int) + 1 = k' ∧ k' ≤ l.length ∧ SetTo l n k') ∧ ((l.length : Int) - (k + 1)).toNat < ((l.length : Int) - k).toNat := fun q => ⟨⟨k + 1, by omega, by omega, (setTo_next k2).2 q⟩, by omega⟩
  refine ⟨⟨by omega, h⟩, fun q => ⟨fun _ => bad fun g => ?_, fun g => absurd g (by decide)⟩, fun q => ⟨fun q2 => ⟨fun _ => bad fun g => ?_, fun g => absurd g (by decide)⟩, fun q2 => ⟨fun q3 => ?_, fun q3 => ⟨fun g => absurd g (by decide), fun _ => good ⟨by omega, fun q4 => by omega⟩⟩⟩⟩⟩
  ·have := g.1.1; omega
  ·have := g.1.2; omega
  ·rw [w64 (by omega), show ((k : Int) - 1) = ((k - 1 : Nat) : Int) by omega]
   refine ⟨⟨by omega, by omega⟩, fun g => bad fun g2 => ?_, fun g => good ⟨by omega, fun _ => by omega⟩⟩
   have := g2.2 (by omega); omega
 ·have : k = l.length := by omega
  subst this
  exact k2.all.symm
end Go.Proofs.YtimillpakjgnoaaGreat.Pl

namespace Go.Proofs.YtimillpakjgnoaaGreat.Pl
open Go Go.RowKit
theorem ok_meets1 : ∀ (x : Int) (x2 : List Int), pre_meets1 x x2 → F_meets1 x x2 (fun r => r = sp_meets1 x x2) := fun x b hp => by
 refine ⟨hp, fun r hr => ?_⟩
 rw [hr]; rfl
theorem ok_meets : ∀ (a : List Int) (b : List Int), pre_meets a b → F_meets a b (fun r => r = sp_meets a b) := fun a b ⟨h1, h2⟩ => by
 refine ⟨⟨h1, fun x _ => h2⟩, fun r hr => ?_⟩
 rw [hr]; rfl
theorem set_len {l : List Int} {n : Int} (hn : 0 ≤ n) (h : sp_isSet l n = true) : (l.length : Int) ≤ n := (setTo_of h).small hn |>.1
theorem set_sorted {l : List Int} {n : Int} (h : sp_isSet l n = true) : l.Pairwise (· < ·) := (of_decide_eq_true h).1
theorem set_rng {l : List Int} {n : Int} (h : sp_isSet l n = true) : ∀ x ∈ l, 0 ≤ x ∧ x < n := (of_decide_eq_true h).2
theorem ok_operator : ∀ (o : Operator) (facts : Int), pre_operator o facts → F_operator o facts (fun r => r = sp_operator o facts) := fun o n ⟨n0, n1⟩ => by
 have bad : ¬ (sp_isSet o.pre n = true ∧ sp_isSet o.add n = true ∧ sp_isSet o.del n = true ∧ sp_meets o.add o.del = false) → (5 : Int) = sp_operator o n := fun h => by rw [sp_operator, if_neg h]
 unfold F_operator F_operator_J1 F_operator_J2
 simp only [forall_eq, Bool.not_eq_true', Bool.not_eq_false', decide_eq_true_eq, decide_eq_false_iff_not]
 refine ⟨⟨n0, n1⟩, fun h => ⟨fun _ => bad fun g => ?_, fun g => absurd g (by decide)⟩, fun h1 => ⟨⟨n0, n1⟩, fun h => ⟨fun _ => bad fun g => ?_, fun g => absurd g (by decide)⟩, fun h2 => ⟨⟨n0, n1⟩, fun h => ⟨fun _ => bad fun g => ?_, fun g => absurd g (by decide)⟩, fun h3 => ?_⟩⟩⟩
 ·rw [g.1] at h; exact absurd h (by decide)
 ·rw [g.2.1] at h; exact absurd h (by decide)
 ·rw [g.2.2.1] at h; exact absurd h (by decide)
 ·have l1 := set_len n0 h2
  have l2 := set_len n0 h3
  refine ⟨⟨by omega, set_sorted h3, by omega⟩, fun h => bad fun g => ?_, fun h => ?_⟩
  ·rw [g.2.2.2] at h; exact absurd h (by decide)
  ·have e : sp_operator o n = if 0 ≤ o.cost ∧ o.cost ≤ 100 then 0 else 3 := by rw [sp_operator, if_pos ⟨h1, h2, h3, h⟩]
   rw [e]
   refine ⟨fun q => ⟨fun _ => ?_, fun g => absurd g (by decide)⟩, fun q => ⟨fun g => ?_, fun g => ?_⟩⟩
   ·rw [if_neg (by omega)]
   ·rw [if_neg (by omega)]
   ·rw [if_pos (by omega)]
theorem opFault_zero {t : Task} {k : Nat} (h : sp_operator (gt t.ops k) t.facts = 0) : opFault t k = ⟨0, 0⟩ := by rw [opFault, if_pos h]
theorem opFault_ne {t : Task} {k : Nat} (h : sp_operator (gt t.ops k) t.facts ≠ 0) : opFault t k = ⟨sp_operator (gt t.ops k) t.facts, k⟩ := by rw [opFault, if_neg h]
theorem ok_validate : ∀ (t : Task), F_validate t (fun r => r = sp_validate t) := fun t => by
 have hs : sp_validate t = if t.facts < 0 ∨ 24 < t.facts then ⟨3, -1⟩ else if sp_isSet t.init t.facts = false then ⟨5, -2⟩ else if sp_isSet t.goal t.facts = false then ⟨5, -3⟩ else if 40 < t.ops.length then ⟨2, -1⟩ else ffirst (opFault t) t.ops.length := rfl
 have key : ¬ (t.facts < 0 ∨ 24 < t.facts) → F_validate_J1 t (fun r => r = sp_validate t) false := fun hf => by
  unfold F_validate_J1
  simp only [forall_eq, Bool.not_eq_true', Bool.not_eq_false', decide_eq_true_eq, decide_eq_false_iff_not]
  refine ⟨fun g => absurd g (by decide), fun _ => ⟨⟨by omega, by omega⟩, fun h => ?_, fun h1 => ⟨⟨by omega, by omega⟩, fun h => ?_, fun h2 => ⟨fun h => ?_, fun h3 => ?_⟩⟩⟩⟩
  ·rw [hs, if_neg hf, if_pos h]
  ·rw [hs, if_neg hf, if_neg (by rw [h1]; decide), if_pos h]
  ·rw [hs, if_neg hf, if_neg (by rw [h1]; decide), if_neg (by rw [h2]; decide), if_pos (by omega)]
  ·have e : sp_validate t = ffirst (opFault t) t.ops.length := by rw [hs, if_neg hf, if_neg (by rw [h1]; decide), if_neg (by rw [h2]; decide), if_neg (by omega)]
   rw [e]
   refine ⟨fun i => ∃ k : Nat, i = k ∧ k ≤ t.ops.length ∧ ∀ j, j < k → opFault t j = ⟨0, 0⟩, fun i => (t.ops.length - i).toNat, ⟨0, rfl, by omega, fun j hj => by omega⟩, ?_⟩
   rintro _ ⟨k, rfl, k1, k2⟩
   unfold F_validate_L1
   simp only [decide_eq_true_eq, decide_eq_false_iff_not, forall_eq, bne_iff_ne, ne_eq, bne_eq_false_iff_eq]
   refine ⟨fun h => ⟨⟨by omega, h⟩, ⟨by omega, by omega⟩, fun q => ?_, fun q => ?_⟩, fun h => ?_⟩
   ·rw [ffirst_hit (i := k) (by omega) k2 (by rw [opFault_ne q]; exact fault_mk q), opFault_ne q]
   ·rw [w64 (by omega)]
    exact ⟨⟨k + 1, by omega, by omega, zero_next k2 (opFault_zero q)⟩, by omega⟩
   ·rw [ffirst_none fun j hj => k2 j (by omega)]
 unfold F_validate
 simp only [decide_eq_true_eq, decide_eq_false_iff_not]
 refine ⟨fun h => ⟨fun _ => ?_, fun g => absurd g (by decide)⟩, fun h => ?_⟩
 ·rw [hs, if_pos (.inl h)]
 ·by_cases h2 : 24 < t.facts
  ·rw [decide_eq_true h2]
   refine ⟨fun _ => ?_, fun g => absurd g (by decide)⟩
   rw [hs, if_pos (.inr h2)]
  ·rw [decide_eq_false h2]
   exact key (by omega)
theorem steps_tail {n : Int} {p : List Int} {k : Nat} (hl : ¬ 60 < p.length) (hk : ∀ x ∈ p.take k, 0 ≤ x ∧ x < n) : (k < p.length → ¬ (0 ≤ gt p (k : Int) ∧ gt p (k : Int) < n) → sp_steps n p = ⟨3, -6⟩) ∧ (k < p.length → (0 ≤ gt p (k : Int) ∧ gt p (k : Int) < n) → ∀ x ∈ p.take (k + 1), 0 ≤ x ∧ x < n) ∧ (¬ k < p.length → sp_steps n p = ⟨0, 0⟩) := by
 refine ⟨fun h q => ?_, fun h q x hx => ?_, fun h => ?_⟩
 ·rw [sp_steps, if_neg hl, if_neg]
  intro g
  have := List.all_eq_true.1 g _ (gt_memN (i := k) h)
  exact q (of_decide_eq_true this)
 ·rw [takeN_gt h] at hx
  rcases List.mem_append.1 hx with hx | hx
  ·exact hk x hx
  ·rw [List.mem_singleton.1 hx]; exact q
 ·rw [List.take_of_length_le (by omega)] at hk
  rw [sp_steps, if_neg hl, if_pos (List.all_eq_true.2 fun x hx => decide_eq_true (hk x hx))]
theorem ok_steps : ∀ (operators : Int) (plan : List Int), pre_steps operators plan → F_steps operators plan (fun r => r = sp_steps operators plan) := fun n p ⟨n0, n1⟩ => by
 unfold F_steps
 simp only [decide_eq_true_eq, decide_eq_false_iff_not]
 refine ⟨fun h => ?_, fun hl => ⟨fun t => ∃ k : Nat, t = k ∧ k ≤ p.length ∧ ∀ x ∈ p.take k, 0 ≤ x ∧ x < n, fun t => (p.length - t).toNat, ⟨0, rfl, Nat.zero_le _, by simp⟩, ?_⟩⟩
 ·rw [sp_steps, if_pos (by omega)]
 ·rintro _ ⟨k, rfl, k1, k2⟩
  unfold F_steps_L1 F_steps_J1
  obtain ⟨e1, e2, e3⟩ := steps_tail (by omega) k2
  rw [w64 (n := (k : Int) + 1) (by omega)]
  simp only [decide_eq_true_eq, decide_eq_false_iff_not]
  refine ⟨fun h => ⟨⟨by omega, h⟩, fun q => ⟨fun _ => (e1 (by omega) (by omega)).symm, fun g => absurd g (by decide)⟩, fun q => ⟨fun q2 => (e1 (by omega) (by omega)).symm, fun q2 => ⟨⟨k + 1, by omega, by omega, e2 (by omega) (by omega)⟩, by omega⟩⟩⟩, fun h => (e3 (by omega)).symm⟩
structure TaskOK (t : Task) : Prop where
 facts : 0 ≤ t.facts ∧ t.facts ≤ 24
 init : sp_isSet t.init t.facts = true
 goal : sp_isSet t.goal t.facts = true
 len : t.ops.length ≤ 40
 ops : ∀ k : Nat, k < t.ops.length → sp_operator (gt t.ops k) t.facts = 0
theorem taskOK_of {t : Task} (h : sp_validate t = ⟨0, 0⟩) : TaskOK t := by
 unfold sp_validate at h
 split at h
 ·exact absurd h (fault_mk (by decide))
 ·split at h
  ·exact absurd h (fault_mk (by decide))
  ·split at h
   ·exact absurd h (fault_mk (by decide))
   ·split at h
    ·exact absurd h (fault_mk (by decide))
    ·rename_i h1 h2 h3 h4
     refine ⟨by omega, by simpa using h2, by simpa using h3, by omega, fun k hk => ?_⟩
     have := ffirst_zero h k hk
     unfold opFault at this
     split at this
     ·assumption
     ·rename_i h5
      exact absurd this (fault_mk h5)
theorem fault_code_ff {f : Nat → Fault} {n : Nat} (h : ∀ k, (f k).code = 0 → f k = ⟨0, 0⟩) : (ffirst f n).code = 0 → ffirst f n = ⟨0, 0⟩ := by
 unfold ffirst
 split
 ·exact h _
 ·exact fun _ => rfl
theorem validate_code {t : Task} : (sp_validate t).code = 0 → sp_validate t = ⟨0, 0⟩ := by
 unfold sp_validate
 repeat' split
 ·exact fun h => absurd h (by decide)
 ·exact fun h => absurd h (by decide)
 ·exact fun h => absurd h (by decide)
 ·exact fun h => absurd h (by decide)
 ·refine fault_code_ff fun k => ?_
  unfold opFault
  split
  ·exact fun _ => rfl
  ·rename_i h1
   exact fun h => absurd h h1
theorem ok_planFault : ∀ (t : Task) (plan : List Int), F_planFault t plan (fun r => r = sp_planFault t plan) := fun t p => by
 unfold F_planFault
 simp only [forall_eq, fault_ne, fault_eq]
 refine ⟨fun h => ?_, fun h => ⟨⟨by omega, ?_⟩, ?_⟩⟩
 ·rw [sp_planFault, if_neg h]
 ·have := (taskOK_of h).len; omega
 ·rw [sp_planFault, if_pos h]
end Go.Proofs.YtimillpakjgnoaaGreat.Pl

namespace Go.Proofs.YtimillpakjgnoaaGreat.Pl
open Go Go.RowKit
theorem mem_allS {n : Nat} {x : Int} : x ∈ allS n ↔ 0 ≤ x ∧ x < n := by
 unfold allS
 simp only [List.mem_map, List.mem_range]
 constructor
 ·rintro ⟨j, hj, rfl⟩; omega
 ·intro h; exact ⟨x.toNat, by omega, by omega⟩
theorem allS_len (n : Nat) : (allS n).length = n := by simp [allS]
theorem filter1_pos {p : Int → Bool} {k : Int} (h : p k = true) : [k].filter p = [k] := by rw [List.filter_cons, if_pos h]; rfl
theorem filter1_neg {p : Int → Bool} {k : Int} (h : p k = false) : [k].filter p = [] := by rw [List.filter_cons, if_neg (by rw [h]; decide)]; rfl
theorem subset_iff {a b : List Int} : sp_subset a b = true ↔ ∀ x ∈ a, x ∈ b := by
 simp only [sp_subset, List.all_eq_true, decide_eq_true_eq]
theorem TaskOK.op {t : Task} (h : TaskOK t) {i : Int} (hi : inb t.ops i) : sp_isSet (gt t.ops i).pre t.facts = true ∧ sp_isSet (gt t.ops i).add t.facts = true ∧ sp_isSet (gt t.ops i).del t.facts = true ∧ sp_meets (gt t.ops i).add (gt t.ops i).del = false := by
 have h1 := h.ops i.toNat (by have := hi.2; have := hi.1; omega)
 rw [Int.toNat_of_nonneg hi.1] at h1
 unfold sp_operator at h1
 split at h1
 ·assumption
 ·exact absurd h1 (by decide)
theorem TaskOK.lens {t : Task} (h : TaskOK t) {i : Int} (hi : inb t.ops i) : (gt t.ops i).pre.length ≤ 24 ∧ (gt t.ops i).add.length ≤ 24 ∧ (gt t.ops i).del.length ≤ 24 := by
 obtain ⟨h1, h2, h3, _⟩ := h.op hi
 have hf := h.facts
 have := set_len hf.1 h1
 have := set_len hf.1 h2
 have := set_len hf.1 h3
 omega
theorem allS_succ (n : Nat) : allS (n + 1) = allS n ++ [(n : Int)] := by
 unfold allS
 rw [List.range_succ, List.map_append]; rfl
theorem mem_after {t : Task} (hf : 0 ≤ t.facts) {s : List Int} {op f : Int} : f ∈ sp_after t s op ↔ (0 ≤ f ∧ f < t.facts) ∧ (f ∈ (gt t.ops op).add ∨ (f ∈ s ∧ f ∉ (gt t.ops op).del)) := by
 rw [sp_after, List.mem_filter, mem_allS, decide_eq_true_eq, Int.toNat_of_nonneg hf]
theorem steps_ok {n : Int} {p : List Int} (h : sp_steps n p = ⟨0, 0⟩) : p.length ≤ 60 ∧ ∀ x ∈ p, 0 ≤ x ∧ x < n := by
 unfold sp_steps at h
 split at h
 ·exact absurd h (fault_mk (by decide))
 ·split at h
  ·rename_i h1 h2
   exact ⟨by omega, fun x hx => of_decide_eq_true (List.all_eq_true.1 h2 x hx)⟩
  ·exact absurd h (fault_mk (by decide))
theorem plan_ok {t : Task} {p : List Int} (h : sp_planFault t p = ⟨0, 0⟩) : sp_validate t = ⟨0, 0⟩ ∧ p.length ≤ 60 ∧ ∀ x ∈ p, inb t.ops x := by
 unfold sp_planFault at h
 split at h
 ·rename_i h1
  exact ⟨h1, steps_ok h⟩
 ·rename_i h1
  exact absurd h h1
end Go.Proofs.YtimillpakjgnoaaGreat.Pl

namespace Go.Proofs.YtimillpakjgnoaaGreat.Pl
open Go Go.RowKit
theorem sorted_ext : ∀ (a b : List Int), a.Pairwise (· < ·) → b.Pairwise (· < ·) → (∀ x, x ∈ a ↔ x ∈ b) → a = b
 | [], b, _, _, h => by
  cases b with
  | nil => rfl
  | cons y s => exact absurd ((h y).2 List.mem_cons_self) (by simp)
 | x :: r, [], _, _, h => absurd ((h x).1 List.mem_cons_self) (by simp)
 | x :: r, y :: s, ha, hb, h => by
  obtain ⟨a1, a2⟩ := List.pairwise_cons.1 ha
  obtain ⟨b1, b2⟩ := List.pairwise_cons.1 hb
  have e : x = y := by
   rcases List.mem_cons.1 ((h x).1 List.mem_cons_self) with q | q
   ·exact q
   ·rcases List.mem_cons.1 ((h y).2 List.mem_cons_self) with q2 | q2
    ·exact q2.symm
    ·have := a1 _ q2; have := b1 _ q; omega
  subst e
  rw [sorted_ext r s a2 b2 fun z => ?_]
  constructor
  ·intro hz
   rcases List.mem_cons.1 ((h z).1 (List.mem_cons_of_mem _ hz)) with q | q
   ·have := a1 _ hz; omega
   ·exact q
  ·intro hz
   rcases List.mem_cons.1 ((h z).2 (List.mem_cons_of_mem _ hz)) with q | q
   ·have := b1 _ hz; omega
   ·exact q
theorem mem_sort {xs : List Int} {x : Int} : x ∈ sp_sort xs ↔ x ∈ xs := List.mem_mergeSort
theorem sort_sorted (xs : List Int) : (sp_sort xs).Pairwise (· ≤ ·) := by
 have := List.pairwise_mergeSort (le := fun x y : Int => decide (x ≤ y)) (fun a b c h1 h2 => by simp only [decide_eq_true_eq] at *; omega) (fun a b => by simp only [Bool.or_eq_true, decide_eq_true_eq]; omega) xs
 exact this.imp fun h => by simpa using h
theorem getB {xs : List Int} {j : Nat} (h : j < xs.length) : xs.toArray[j]! = xs[j] := by simp [h]
theorem compact_eq (xs : List Int) : sp_compact xs = ((List.range xs.length).filter (Lib.keeps xs.toArray)).map (fun j => xs.toArray[j]!) := rfl
theorem mem_compact {xs : List Int} {x : Int} : x ∈ sp_compact xs ↔ x ∈ xs := by
 rw [compact_eq, List.mem_map]
 constructor
 ·rintro ⟨j, hj, rfl⟩
  have := List.mem_range.1 (List.mem_filter.1 hj).1
  rw [getB this]; exact List.getElem_mem _
 ·intro hx
  obtain ⟨j, hj, rfl⟩ := List.mem_iff_getElem.1 hx
  have key : ∀ j : Nat, (h : j < xs.length) → ∃ i, i ∈ (List.range xs.length).filter (Lib.keeps xs.toArray) ∧ xs.toArray[i]! = xs[j] := by
   intro j
   induction j with
   | zero => intro h; exact ⟨0, List.mem_filter.2 ⟨List.mem_range.2 h, by simp [Lib.keeps]⟩, getB h⟩
   | succ j ih =>
    intro h
    by_cases q : xs[j + 1] = xs[j]
    ·obtain ⟨i, h1, h2⟩ := ih (by omega)
     exact ⟨i, h1, by rw [h2, q]⟩
    ·refine ⟨j + 1, List.mem_filter.2 ⟨List.mem_range.2 h, ?_⟩, getB h⟩
     refine Lib.keeps_pos ?_
     rw [Nat.add_sub_cancel, getB h, getB (by omega)]; exact q
  exact key j hj
theorem compact_sorted {xs : List Int} (h : xs.Pairwise (· ≤ ·)) : (sp_compact xs).Pairwise (· < ·) := by
 rw [compact_eq, List.pairwise_map]
 refine List.Pairwise.imp_of_mem (fun {a b} ha hb hab => ?_) ((List.pairwise_lt_range (n := xs.length)).filter _)
 have ha' := List.mem_range.1 (List.mem_filter.1 ha).1
 obtain ⟨hb1, hb2⟩ := List.mem_filter.1 hb
 have hb' := List.mem_range.1 hb1
 rw [getB ha', getB hb']
 have hle := List.pairwise_iff_getElem.1 h
 have hk : xs[b] ≠ xs[b - 1]'(by omega) := by
  simp only [Lib.keeps, decide_eq_true_eq] at hb2
  rcases hb2 with q | q
  ·omega
  ·rwa [getB hb', getB (by omega)] at q
 have h1 : xs[b - 1]'(by omega) ≤ xs[b] := hle _ _ (by omega) hb' (by omega)
 have h2 : xs[a] ≤ xs[b - 1]'(by omega) := by
  rcases Nat.lt_or_ge a (b - 1) with q | q
  ·exact hle _ _ ha' (by omega) q
  ·have : a = b - 1 := by omega
   subst this; exact Int.le_refl _
 omega
theorem mem_update {s add del : List Int} {x : Int} : x ∈ sp_update s add del ↔ (x ∈ s ∧ x ∉ del) ∨ x ∈ add := by
 rw [sp_update, mem_compact, mem_sort, List.mem_append, List.mem_filter, decide_eq_true_eq]
theorem update_sorted (s add del : List Int) : (sp_update s add del).Pairwise (· < ·) := compact_sorted (sort_sorted _)
theorem allS_sorted (n : Nat) : (allS n).Pairwise (· < ·) := List.pairwise_map.2 ((List.pairwise_lt_range (n := n)).imp fun h => by omega)
theorem after_set {t : Task} (hf : 0 ≤ t.facts) (s : List Int) (op : Int) : sp_isSet (sp_after t s op) t.facts = true :=
 decide_eq_true ⟨(allS_sorted _).filter _, fun _ hx => ((mem_after hf).1 hx).1⟩
theorem update_after {t : Task} {s : List Int} {op : Int} (hp : pre_next t s op) : sp_update s (gt t.ops op).add (gt t.ops op).del = sp_after t s op := by
 obtain ⟨h1, h2, h3⟩ := hp
 have tk := taskOK_of h1
 have hf := tk.facts.1
 refine sorted_ext _ _ (update_sorted _ _ _) (set_sorted (after_set hf s op)) fun x => ?_
 rw [mem_update, mem_after hf]
 constructor
 ·rintro (⟨a, b⟩ | a)
  ·exact ⟨set_rng h3 x a, .inr ⟨a, b⟩⟩
  ·exact ⟨set_rng (tk.op h2).2.1 x a, .inl a⟩
 ·rintro ⟨_, a | a⟩
  ·exact .inr a
  ·exact .inl a
theorem ok_clone : ∀ (s_ : List Int), pre_clone s_ → F_clone s_ (fun r => r = sp_clone s_) := fun s hp => by
 unfold pre_clone at hp
 exact ⟨fun h => by rw [h]; rfl, ⟨by simp only [List.nil_append, maxLen]; omega, by simp only [List.nil_append]; omega⟩, by simp [sp_clone]⟩
theorem ok_update : ∀ (s_ : List Int) (add : List Int) (del : List Int), pre_update s_ add del → F_update s_ add del (fun r => r = sp_update s_ add del) := fun s add del ⟨h1, h2, h3⟩ => by
 refine ⟨fun t out => ∃ k : Nat, t = k ∧ k ≤ s.length ∧ out = (s.take k).filter (fun x => decide (x ∉ del)), fun t _ => (s.length - t).toNat, ⟨0, rfl, Nat.zero_le _, rfl⟩, ?_⟩
 rintro _ out ⟨k, rfl, k1, k2⟩
 unfold F_update_L1 F_update_J1
 have hlen : out.length ≤ k := by
  rw [k2]
  exact Nat.le_trans (List.length_filter_le _ _) (by rw [List.length_take]; omega)
 simp only [decide_eq_true_eq, decide_eq_false_iff_not, forall_eq, sp_bsearch, Bool.not_eq_true', Bool.not_eq_false', List.length_append, List.length_singleton]
 refine ⟨fun h => ?_, fun h => ?_⟩
 ·rw [w64 (by omega)]
  have hk : k < s.length := by omega
  refine ⟨⟨by omega, h⟩, h3, fun q => ⟨⟨by simp only [maxLen]; omega, by omega⟩, ⟨k + 1, by omega, by omega, ?_⟩, by omega⟩, fun q => ⟨⟨k + 1, by omega, by omega, ?_⟩, by omega⟩⟩
  ·rw [takeN_gt hk, List.filter_append, ← k2, filter1_pos (p := fun x => decide (x ∉ del)) (decide_eq_true q)]
  ·rw [takeN_gt hk, List.filter_append, ← k2, filter1_neg (p := fun x => decide (x ∉ del)) (decide_eq_false fun g => g q), List.append_nil]
 ·have e : k = s.length := by omega
  rw [e, List.take_length] at k2
  refine ⟨⟨by simp only [maxLen]; omega, by omega⟩, show (out ++ add).length ≤ 100000 by rw [List.length_append]; omega, show (sp_sort (out ++ add)).length ≤ 100000 by rw [sp_sort, List.length_mergeSort, List.length_append]; omega, ?_⟩
  rw [k2]; rfl
theorem contains_past {s : List Int} (hs : s.Pairwise (· < ·)) {i : Nat} {x : Int} (hlt : ∀ p : Nat, p < i → p < s.length → gt s (p : Int) < x) (h : i < s.length → gt s (i : Int) ≠ x ∧ ¬ gt s (i : Int) < x) : x ∉ s := fun hx => by
 obtain ⟨p, hp, e⟩ := mem_gt hx
 rcases Nat.lt_trichotomy p i with g | g | g
 ·have := hlt p g hp; omega
 ·subst g; exact (h hp).1 e
 ·have h1 := h (by omega)
  have := sorted_gt hs g hp
  omega
theorem ok_contains2 : ∀ (s_ : List Int) (part : List Int), pre_contains2 s_ part → F_contains2 s_ part (fun r => r = sp_contains2 s_ part) := fun s part ⟨h1, h2, h3, h4⟩ => by
 have bad : ∀ k : Nat, k < part.length → gt part (k : Int) ∉ s → false = sp_contains2 s part := fun k hk q => by
  cases e : sp_contains2 s part
  ·rfl
  ·exact absurd (subset_iff.1 e _ (gt_memN hk)) q
 refine ⟨fun i t => ∃ a k : Nat, i = a ∧ t = k ∧ a ≤ s.length ∧ k ≤ part.length ∧ (∀ x ∈ part.take k, x ∈ s) ∧ (k < part.length → ∀ p : Nat, p < a → p < s.length → gt s (p : Int) < gt part (k : Int)), fun _ t => (part.length - t).toNat, ⟨0, 0, rfl, rfl, Nat.zero_le _, Nat.zero_le _, by simp, fun _ p hp => by omega⟩, ?_⟩
 rintro _ _ ⟨a, k, rfl, rfl, a1, k1, k2, k3⟩
 unfold F_contains2_L1
 simp only [decide_eq_true_eq, decide_eq_false_iff_not]
 refine ⟨fun h => ⟨⟨by omega, h⟩, ?_⟩, fun h => ?_⟩
 ·have hk : k < part.length := by omega
  refine ⟨fun i => ∃ b : Nat, i = b ∧ a ≤ b ∧ b ≤ s.length ∧ ∀ p : Nat, p < b → p < s.length → gt s (p : Int) < gt part (k : Int), fun i => (s.length - i).toNat, ⟨a, rfl, Nat.le_refl _, a1, k3 hk⟩, ?_⟩
  rintro _ ⟨b, rfl, b1, b2, b3⟩
  have fin : (¬ (b < s.length ∧ gt s (b : Int) < gt part (k : Int))) → F_contains2_J1 s part (fun r => r = sp_contains2 s part) false a (fun i => ∃ b : Nat, i = b ∧ a ≤ b ∧ b ≤ s.length ∧ ∀ p : Nat, p < b → p < s.length → gt s (p : Int) < gt part (k : Int)) (fun i => (s.length - i).toNat) k b (fun i t => ∃ a k : Nat, i = a ∧ t = k ∧ a ≤ s.length ∧ k ≤ part.length ∧ (∀ x ∈ part.take k, x ∈ s) ∧ (k < part.length → ∀ p : Nat, p < a → p < s.length → gt s (p : Int) < gt part (k : Int))) (fun _ t => (part.length - t).toNat) := fun hn => by
   unfold F_contains2_J1 F_contains2_J2
   rw [w64 (n := (k : Int) + 1) (by omega)]
   simp only [beq_iff_eq, beq_eq_false_iff_ne, ne_eq, bne_iff_ne, bne_eq_false_iff_eq]
   refine ⟨fun g => absurd g (by decide), fun _ => ⟨fun e => ⟨fun _ => bad k hk (contains_past h3 b3 fun g => by omega), fun g => absurd g (by decide)⟩, fun e => ⟨⟨by omega, by omega⟩, fun q => bad k hk (contains_past h3 b3 fun g => ⟨q, fun g2 => hn ⟨g, g2⟩⟩), fun q => ⟨⟨b, k + 1, rfl, by omega, b2, by omega, fun x hx => ?_, fun hk2 p hp hp2 => ?_⟩, by omega⟩⟩⟩⟩
   ·rw [takeN_gt hk] at hx
    rcases List.mem_append.1 hx with hx | hx
    ·exact k2 x hx
    ·rw [List.mem_singleton.1 hx, ← q]; exact gt_memN (by omega)
   ·exact Int.lt_trans (b3 p hp hp2) (sorted_gt h4 (Nat.lt_succ_self k) hk2)
  unfold F_contains2_L2
  simp only [decide_eq_true_eq, decide_eq_false_iff_not]
  refine ⟨fun h2 => ⟨⟨by omega, h2⟩, ?_⟩, fun h2 => fin fun g => by omega⟩
  by_cases q : gt s (b : Int) < gt part (k : Int)
  ·rw [decide_eq_true q]
   unfold F_contains2_J1
   refine ⟨fun _ => ?_, fun g => absurd g (by decide)⟩
   rw [w64 (by omega)]
   refine ⟨⟨b + 1, by omega, by omega, by omega, fun p hp hp2 => ?_⟩, show ((s.length : Int) - (b + 1)).toNat < ((s.length : Int) - b).toNat by omega⟩
   rcases Nat.lt_or_ge p b with g | g
   ·exact b3 p g hp2
   ·rw [show p = b by omega]; exact q
  ·rw [decide_eq_false q]
   exact fin fun g => q g.2
 ·rw [List.take_of_length_le (by omega)] at k2
  exact (subset_iff.2 k2).symm
theorem next_lens {t : Task} {s : List Int} {op : Int} (hp : pre_next t s op) : s.length ≤ 24 ∧ (gt t.ops op).pre.length ≤ 24 ∧ (gt t.ops op).add.length ≤ 24 ∧ (gt t.ops op).del.length ≤ 24 := by
 obtain ⟨h1, h2, h3⟩ := hp
 have tk := taskOK_of h1
 have := set_len tk.facts.1 h3
 have := tk.facts
 have := tk.lens h2
 omega
theorem ok_can : ∀ (t : Task) (s_ : List Int) (op : Int), pre_can t s_ op → F_can t s_ op (fun r => r = sp_applies t s_ op) := fun t s op hp => by
 have hl := next_lens hp
 have tk := taskOK_of hp.1
 refine ⟨hp.2.1, ⟨by omega, by omega, set_sorted hp.2.2, set_sorted (tk.op hp.2.1).1⟩, fun r hr => ?_⟩
 rw [hr]; rfl
theorem ok_next : ∀ (t : Task) (s_ : List Int) (op : Int), pre_next t s_ op → F_next t s_ op (fun r => r = sp_after t s_ op) := fun t s op hp => by
 have hl := next_lens hp
 have tk := taskOK_of hp.1
 refine ⟨hp.2.1, ⟨by omega, by omega, set_sorted (tk.op hp.2.1).2.2.1, by omega⟩, fun r hr => ?_⟩
 rw [hr, update_after hp]
end Go.Proofs.YtimillpakjgnoaaGreat.Pl

namespace Go.Proofs.YtimillpakjgnoaaGreat.Pl
open Go Go.RowKit
theorem ok_srun : ∀ (t : Task) (s_ : List Int) (plan : List Int), pre_srun t s_ plan → F_srun t s_ plan (fun r => r = sp_srun t s_ plan) := fun t s plan ⟨h1, h2, h3, h4⟩ => by
 have tk := taskOK_of h1
 have hf := tk.facts
 have hs := set_len hf.1 h2
 refine ⟨show s.length ≤ 1000 by omega, fun r2 hr2 => ?_⟩
 rw [show r2 = s from hr2]
 refine ⟨fun s2 x out => ∃ (k : Nat) (p : List (List Int)), x = k ∧ k ≤ plan.length ∧ sp_isSet s2 t.facts = true ∧ out = p ++ [s2] ∧ p.length = k ∧ sp_srun t s plan = p ++ sp_srun t s2 (plan.drop k), fun _ x _ => (plan.length - x).toNat, ⟨0, [], rfl, Nat.zero_le _, h2, rfl, rfl, by simp⟩, ?_⟩
 rintro s2 _ out ⟨k, p, rfl, k1, k2, rfl, k3, k4⟩
 unfold F_srun_L1
 simp only [decide_eq_true_eq, decide_eq_false_iff_not, forall_eq, Bool.not_eq_true', Bool.not_eq_false', List.length_append, List.length_singleton]
 refine ⟨fun h => ?_, fun h => ?_⟩
 ·have hk : k < plan.length := by omega
  have hop := h4 _ (gt_memN hk)
  have hd := drop_gt (xs := plan) (i := (k : Int)) ⟨by omega, h⟩
  rw [Int.toNat_natCast, show ((k : Int) + 1).toNat = k + 1 by omega] at hd
  rw [hd, sp_srun] at k4
  refine ⟨⟨by omega, h⟩, ⟨h1, hop, k2⟩, fun q => ?_, fun q => ⟨⟨h1, hop, k2⟩, ⟨by simp only [maxLen]; omega, by omega⟩, ?_⟩⟩
  ·rw [k4, if_neg (by rw [q]; decide)]
  ·rw [if_pos q] at k4
   rw [w64 (by omega)]
   refine ⟨⟨k + 1, p ++ [s2], by omega, by omega, after_set hf.1 _ _, rfl, by rw [List.length_append, List.length_singleton, k3], ?_⟩, by omega⟩
   rw [k4]; simp
 ·rw [List.drop_of_length_le (by omega), sp_srun] at k4
  rw [k4]
theorem srun_ends {t : Task} (hf : 0 ≤ t.facts) : ∀ (plan s : List Int), sp_isSet s t.facts = true → ((sp_srun t s plan).length = plan.length + 1 → (sp_ends t s plan).2 = true ∧ gt (sp_srun t s plan) ((plan.length : Nat) : Int) = (sp_ends t s plan).1 ∧ sp_isSet (sp_ends t s plan).1 t.facts = true) ∧ ((sp_srun t s plan).length ≠ plan.length + 1 → (sp_ends t s plan).2 = false)
 | [], s, h => ⟨fun _ => ⟨rfl, rfl, h⟩, fun g => absurd rfl g⟩
 | op :: r, s, h => by
  have ih := srun_ends hf r (sp_after t s op) (after_set hf s op)
  rw [sp_srun, sp_ends]
  by_cases q : sp_applies t s op = true
  ·rw [if_pos q, if_pos q]
   simp only [List.length_cons]
   refine ⟨fun g => ?_, fun g => ih.2 (by omega)⟩
   obtain ⟨a, b, c⟩ := ih.1 (by omega)
   refine ⟨a, ?_, c⟩
   rw [← b]
   unfold gt
   rw [Int.toNat_natCast, Int.toNat_natCast, List.getD_cons_succ]
  ·rw [if_neg q, if_neg q]
   refine ⟨fun g => ?_, fun _ => rfl⟩
   simp at g
theorem ok_works : ∀ (t : Task) (s_ : List Int) (plan : List Int), pre_works t s_ plan → F_works t s_ plan (fun r => r = sp_rworks t s_ plan) := fun t s plan hp => by
 obtain ⟨h1, h2, h3, h4⟩ := hp
 have tk := taskOK_of h1
 have hf := tk.facts
 have hg := set_len hf.1 tk.goal
 unfold F_works
 rw [w64 (by omega)]
 refine ⟨⟨h1, h2, h3, h4⟩, ?_⟩
 simp only [forall_eq, beq_iff_eq, beq_eq_false_iff_ne, ne_eq]
 obtain ⟨a, b⟩ := srun_ends hf.1 plan s h2
 refine ⟨fun q => ?_, fun q => ?_⟩
 ·obtain ⟨e1, e2, e3⟩ := a (by omega)
  have hl := set_len hf.1 e3
  rw [e2]
  refine ⟨⟨by omega, by omega⟩, ⟨by omega, by omega, set_sorted e3, set_sorted tk.goal⟩, ?_⟩
  rw [sp_rworks, e1, Bool.true_and]; rfl
 ·rw [sp_rworks, b (by omega), Bool.false_and]
theorem ok_solves : ∀ (t : Task) (plan : List Int), F_solves t plan (fun r => r = sp_solves t plan) := fun t p => by
 unfold F_solves
 simp only [forall_eq, fault_ne, fault_eq]
 refine ⟨fun h => ?_, fun h => ⟨?_, ?_⟩⟩
 ·rw [sp_solves, if_neg h]
 ·obtain ⟨h1, h2, h3⟩ := plan_ok h
  exact ⟨h1, (taskOK_of h1).init, by omega, h3⟩
 ·rw [sp_solves, if_pos h]; rfl
end Go.Proofs.YtimillpakjgnoaaGreat.Pl

namespace Go.Proofs.YtimillpakjgnoaaGreat.Pl
open Go Go.RowKit
theorem ok_compare : ∀ (x : Int) (y : Int), F_compare x y (fun r => r = sp_compare x y) := fun x y => by
 unfold F_compare
 simp only [forall_eq, sp_isNaN1, decide_eq_true_eq, decide_eq_false_iff_not]
 refine ⟨fun h => absurd h (by decide), fun _ => ⟨fun h => absurd h (by decide), fun _ => ⟨fun h => ?_, fun h => ⟨fun g => ?_, fun g => ?_⟩⟩⟩⟩
 ·rw [sp_compare, if_pos h]
 ·rw [sp_compare, if_neg h, if_pos g]
 ·rw [sp_compare, if_neg h, if_neg g]
end Go.Proofs.YtimillpakjgnoaaGreat.Pl

namespace Go.Proofs.YtimillpakjgnoaaGreat.Pl
open Go Go.RowKit
theorem drop_gtN {α : Type} [Inhabited α] {xs : List α} {k : Nat} (h : k < xs.length) : xs.drop k = gt xs (k : Int) :: xs.drop (k + 1) := by
 have h2 := drop_gt (xs := xs) (i := (k : Int)) ⟨by omega, by omega⟩
 have h3 : ((k : Int) + 1).toNat = k + 1 := by omega
 rwa [h3, Int.toNat_natCast] at h2
theorem ok_scompare : ∀ (s1 : List Int) (s2 : List Int), pre_scompare s1 s2 → F_scompare s1 s2 (fun r => r = sp_scompare s1 s2) := fun a b ⟨h1, h2⟩ => by
 refine ⟨fun t => ∃ k : Nat, t = k ∧ k ≤ a.length ∧ k ≤ b.length ∧ sp_scompare (a.drop k) (b.drop k) = sp_scompare a b, fun t => (a.length - t).toNat, ⟨0, rfl, Nat.zero_le _, Nat.zero_le _, by simp⟩, ?_⟩
 rintro _ ⟨k, rfl, k1, k2, k3⟩
 unfold F_scompare_L1
 simp only [forall_eq, decide_eq_true_eq, decide_eq_false_iff_not, bne_iff_ne, ne_eq, bne_eq_false_iff_eq, sp_compare]
 refine ⟨fun h => ?_, fun h => ?_⟩
 ·have hk : k < a.length := by omega
  have ea := drop_gtN hk
  refine ⟨⟨by omega, h⟩, fun g => ?_, fun g => ?_⟩
  ·rw [← k3, ea, List.drop_eq_nil_of_le (show b.length ≤ k by omega)]; rfl
  ·have hb : k < b.length := by omega
   rw [ea, drop_gtN hb, sp_scompare] at k3
   refine ⟨⟨by omega, by omega⟩, ?_⟩
   rcases Int.lt_trichotomy (gt a (k : Int)) (gt b (k : Int)) with q | q | q
   ·rw [if_pos q] at k3 ⊢
    exact ⟨fun _ => k3, fun e => absurd e (by decide)⟩
   ·have n1 : ¬ gt a (k : Int) < gt b (k : Int) := by omega
    have n2 : ¬ gt b (k : Int) < gt a (k : Int) := by omega
    rw [if_neg n1, if_neg n2] at k3 ⊢
    refine ⟨fun e => absurd rfl e, fun _ => ?_⟩
    rw [w64 (by omega)]
    exact ⟨⟨k + 1, by omega, by omega, by omega, k3⟩, by omega⟩
   ·have n1 : ¬ gt a (k : Int) < gt b (k : Int) := by omega
    rw [if_neg n1, if_pos q] at k3 ⊢
    exact ⟨fun _ => k3, fun e => absurd e (by decide)⟩
 ·rw [List.drop_eq_nil_of_le (show a.length ≤ k by omega)] at k3
  refine ⟨fun g => ?_, fun g => ?_⟩
  ·rw [← k3, drop_gtN (xs := b) (k := k) (by omega)]; rfl
  ·rw [← k3, List.drop_eq_nil_of_le (show b.length ≤ k by omega)]; rfl
theorem ok_reverse : ∀ (s_ : List Int), pre_reverse s_ → F_reverse s_ (fun r => r = sp_reverse s_) := fun s hp => by
 unfold pre_reverse at hp
 have hg : ∀ (l : List Int) (p : Nat), p < l.length → gt l.reverse (p : Int) = gt l ((l.length - 1 - p : Nat) : Int) := fun l p h => by
  rw [gt_of ⟨by omega, by rw [List.length_reverse]; omega⟩, gt_of ⟨by omega, by omega⟩]
  simp only [Int.toNat_natCast, List.getElem_reverse]
 unfold F_reverse
 rw [w64 (n := (s.length : Int) - 1) (by omega)]
 refine ⟨fun i j l => ∃ k : Nat, i = k ∧ j = (s.length : Int) - 1 - k ∧ 2 * k ≤ s.length + 1 ∧ l.length = s.length ∧ ∀ p : Nat, p < s.length → gt l (p : Int) = if p < k ∨ s.length ≤ p + k then gt s ((s.length - 1 - p : Nat) : Int) else gt s (p : Int), fun i j _ => (j - i).toNat, ⟨0, rfl, by omega, by omega, rfl, fun p h => by rw [if_neg (by omega)]⟩, ?_⟩
 rintro _ _ l ⟨k, rfl, rfl, k1, k2, k3⟩
 unfold F_reverse_L1
 simp only [decide_eq_true_eq, decide_eq_false_iff_not, forall_eq]
 refine ⟨fun h => ?_, fun h => ?_⟩
 ·have ej : (s.length : Int) - 1 - k = ((s.length - 1 - k : Nat) : Int) := by omega
  rw [ej] at h ⊢
  have i1 : inb l ((s.length - 1 - k : Nat) : Int) := ⟨by omega, by omega⟩
  have i2 : inb l (k : Int) := ⟨by omega, by omega⟩
  have i3 : inb (l.set ((k : Int)).toNat (gt l ((s.length - 1 - k : Nat) : Int))) ((s.length - 1 - k : Nat) : Int) := ⟨by omega, by rw [List.length_set]; omega⟩
  rw [w64 (n := (k : Int) + 1) (by omega), w64 (n := ((s.length - 1 - k : Nat) : Int) - 1) (by omega)]
  refine ⟨i1, i2, i3, ⟨k + 1, by omega, by omega, by omega, by rw [List.length_set, List.length_set]; exact k2, fun p hp => ?_⟩, by omega⟩
  rw [gt_setI i3 (by omega), gt_setI i2 (by omega)]
  by_cases e1 : p = s.length - 1 - k
  ·subst e1
   rw [if_pos rfl, if_pos (by omega), k3 k (by omega), if_neg (by omega)]
   congr 1; omega
  ·rw [if_neg (by omega)]
   by_cases e2 : p = k
   ·subst e2
    rw [if_pos rfl, if_pos (by omega), k3 _ (by omega), if_neg (by omega)]
   ·rw [if_neg (by omega), k3 p hp]
    by_cases e3 : p < k ∨ s.length ≤ p + k
    ·rw [if_pos e3, if_pos (by omega)]
    ·rw [if_neg e3, if_neg (by omega)]
 ·refine ext_gt (by rw [k2]; exact (sp_reverse_len s).symm) fun p hp => ?_
  rw [k2] at hp
  rw [k3 p hp, sp_reverse, hg s p hp]
  by_cases e3 : p < k ∨ s.length ≤ p + k
  ·rw [if_pos e3]
  ·rw [if_neg e3]; congr 1; omega
end Go.Proofs.YtimillpakjgnoaaGreat.Pl

namespace Go.Proofs.YtimillpakjgnoaaGreat.Pl
open Go Go.RowKit
theorem before_irr : ∀ a : List Int, sp_before a a = false
 | [] => rfl
 | x :: r => by simp [sp_before, before_irr r]
theorem before_trans : ∀ a b c : List Int, sp_before a b = true → sp_before b c = true → sp_before a c = true
 | [], [], _, h, _ => by simp [sp_before] at h
 | [], _ :: _, [], _, h => by simp [sp_before] at h
 | [], _ :: _, _ :: _, _, _ => rfl
 | _ :: _, [], _, h, _ => by simp [sp_before] at h
 | _ :: _, _ :: _, [], _, h => by simp [sp_before] at h
 | x :: a, y :: b, z :: c, h, g => by
  unfold sp_before at h g ⊢
  by_cases e : x = y
  ·subst e
   rw [if_pos rfl] at h
   by_cases e2 : x = z
   ·subst e2
    rw [if_pos rfl] at g ⊢
    exact before_trans a b c h g
   ·rw [if_neg e2] at g ⊢; exact g
  ·rw [if_neg e] at h
   have h := of_decide_eq_true h
   by_cases e2 : y = z
   ·subst e2
    rw [if_neg e]; exact decide_eq_true h
   ·rw [if_neg e2] at g
    have g := of_decide_eq_true g
    rw [if_neg (by omega)]
    exact decide_eq_true (by omega)
theorem before_tri : ∀ a b : List Int, sp_before a b = true ∨ a = b ∨ sp_before b a = true
 | [], [] => .inr (.inl rfl)
 | [], _ :: _ => .inl rfl
 | _ :: _, [] => .inr (.inr rfl)
 | x :: a, y :: b => by
  by_cases e : x = y
  ·subst e
   rcases before_tri a b with h | h | h
   ·exact .inl (by simp [sp_before, h])
   ·exact .inr (.inl (by rw [h]))
   ·exact .inr (.inr (by simp [sp_before, h]))
  ·rcases Int.lt_or_lt_of_ne e with h | h
   ·exact .inl (by simp [sp_before, e, h])
   ·exact .inr (.inr (by simp [sp_before, Ne.symm e, h]))
theorem scompare_before : ∀ a b : List Int, (sp_scompare a b < 0 ↔ sp_before a b = true) ∧ (sp_scompare a b = 0 ↔ a = b)
 | [], [] => by simp [sp_scompare, sp_before]
 | [], _ :: _ => by simp [sp_scompare, sp_before]
 | _ :: _, [] => by simp [sp_scompare, sp_before]
 | x :: a, y :: b => by
  have ih := scompare_before a b
  by_cases e : x = y
  ·subst e
   simp [sp_scompare, sp_before, ih]
  ·rcases Int.lt_or_lt_of_ne e with h | h
   ·simp [sp_scompare, sp_before, e, h]
   ·have : ¬ x < y := by omega
    simp [sp_scompare, sp_before, e, h, this]
end Go.Proofs.YtimillpakjgnoaaGreat.Pl

namespace Go.Proofs.YtimillpakjgnoaaGreat.Pl
open Go Go.RowKit
def Nle (x y : List Int) : Prop := sp_before y x = false
theorem nle_trans {x y z : List Int} (h : Nle x y) (g : Nle y z) : Nle x z := by
 unfold Nle at *
 rcases before_tri y x with a | a | a
 ·rw [h] at a; cases a
 ·rw [← a]; exact g
 ·rcases before_tri z y with b | b | b
  ·rw [g] at b; cases b
  ·rw [b]; exact h
  ·have := before_trans _ _ _ a b
   cases e : sp_before z x
   ·rfl
   ·have := before_trans _ _ _ this e
    rw [before_irr] at this; cases this
theorem sorted_perm : ∀ (a b : Bel), a.Pairwise Nle → b.Pairwise Nle → a.Perm b → a = b
 | [], b, _, _, h => (List.nil_perm.1 h).symm
 | x :: a, [], _, _, h => absurd h.length_eq (by simp)
 | x :: a, y :: b, ha, hb, h => by
  rw [List.pairwise_cons] at ha hb
  have e : x = y := by
   rcases List.mem_cons.1 (h.mem_iff.1 (List.mem_cons_self (a := x) (l := a))) with e | e
   ·exact e
   ·rcases List.mem_cons.1 (h.mem_iff.2 (List.mem_cons_self (a := y) (l := b))) with e' | e'
    ·exact e'.symm
    ·have h1 := ha.1 y e'
     have h2 := hb.1 x e
     rcases before_tri x y with g | g | g
     ·rw [show sp_before x y = false from h2] at g; cases g
     ·exact g
     ·rw [show sp_before y x = false from h1] at g; cases g
  subst e
  rw [sorted_perm a b ha.2 hb.2 h.cons_inv]
end Go.Proofs.YtimillpakjgnoaaGreat.Pl

namespace Go.Proofs
open Go.Shelf
def YtimillpakjgnoaaGreat.lays189_ren : Go.Shelf.Ren := ⟨fun | 189 => 62 | 125 => 78 | 257 => 98 | 128 => 114 | 129 => 115 | 294 => 119 | 295 => 120 | 296 => 121 | 297 => 122 | 298 => 123 | 299 => 124 | 216 => 125 | 300 => 126 | 301 => 127 | 328 => 135 | 329 => 131 | 330 => 132 | 331 => 136 | 332 => 137 | 215 => 99 | 343 => 139 | n => n, fun | 28 => 22 | 3 => 3 | 46 => 152 | 0 => 0 | 51 => 62 | 53 => 193 | 4 => 4 | 183 => 186 | 182 => 185 | 131 => 110 | 5 => 5 | 9 => 9 | 218 => 202 | 222 => 206 | 228 => 210 | 229 => 211 | n => n, fun | n => n⟩
theorem YtimillpakjgnoaaGreat.lays189 : Go.Proofs.Lays.n189 Tryz.prog YtimillpakjgnoaaGreat.lays189_ren := {
  mixed := by kernel_rfl
  f125 := Tryz.func78.trans (congrArg some (by kernel_rfl))
  f128 := Tryz.func114.trans (congrArg some (by kernel_rfl))
  f129 := Tryz.func115.trans (congrArg some (by kernel_rfl))
  f189 := Tryz.func62.trans (congrArg some (by kernel_rfl))
  f215 := Tryz.func99.trans (congrArg some (by kernel_rfl))
  f216 := Tryz.func125.trans (congrArg some (by kernel_rfl))
  f257 := Tryz.func98.trans (congrArg some (by kernel_rfl))
  f294 := Tryz.func119.trans (congrArg some (by kernel_rfl))
  f295 := Tryz.func120.trans (congrArg some (by kernel_rfl))
  f296 := Tryz.func121.trans (congrArg some (by kernel_rfl))
  f297 := Tryz.func122.trans (congrArg some (by kernel_rfl))
  f298 := Tryz.func123.trans (congrArg some (by kernel_rfl))
  f299 := Tryz.func124.trans (congrArg some (by kernel_rfl))
  f300 := Tryz.func126.trans (congrArg some (by kernel_rfl))
  f301 := Tryz.func127.trans (congrArg some (by kernel_rfl))
  f328 := Tryz.func135.trans (congrArg some (by kernel_rfl))
  f329 := Tryz.func131.trans (congrArg some (by kernel_rfl))
  f330 := Tryz.func132.trans (congrArg some (by kernel_rfl))
  f331 := Tryz.func136.trans (congrArg some (by kernel_rfl))
  f332 := Tryz.func137.trans (congrArg some (by kernel_rfl))
  f343 := Tryz.func139.trans (congrArg some (by kernel_rfl))
  t0 := Tryz.underlying0
  a0 := Tryz.isAgg0
  z0 := Tryz.sizeOf0
  v0 := Tryz.zeroValue0
  t3 := Tryz.underlying3
  a3 := Tryz.isAgg3
  z3 := Tryz.sizeOf3
  v3 := Tryz.zeroValue3
  t4 := Tryz.underlying4
  a4 := Tryz.isAgg4
  z4 := Tryz.sizeOf4
  v4 := Tryz.zeroValue4
  t5 := Tryz.underlying5
  a5 := Tryz.isAgg5
  z5 := Tryz.sizeOf5
  v5 := Tryz.zeroValue5
  t9 := Tryz.underlying9
  a9 := Tryz.isAgg9
  z9 := Tryz.sizeOf9
  v9 := Tryz.zeroValue9
  t28 := Tryz.underlying22
  a28 := Tryz.isAgg22
  z28 := Tryz.sizeOf22
  v28 := Tryz.zeroValue22
  t46 := Tryz.underlying152
  a46 := Tryz.isAgg152
  z46 := Tryz.sizeOf152
  v46 := Tryz.zeroValue152
  t51 := Tryz.underlying62
  a51 := Tryz.isAgg62
  z51 := Tryz.sizeOf62
  v51 := Tryz.zeroValue62
  t53 := Tryz.underlying193
  a53 := Tryz.isAgg193
  z53 := Tryz.sizeOf193
  v53 := Tryz.zeroValue193
  t131 := Tryz.underlying110
  a131 := Tryz.isAgg110
  z131 := Tryz.sizeOf110
  v131 := Tryz.zeroValue110
  t182 := Tryz.underlying185
  a182 := Tryz.isAgg185
  z182 := Tryz.sizeOf185
  v182 := Tryz.zeroValue185
  t183 := Tryz.underlying186
  a183 := Tryz.isAgg186
  z183 := Tryz.sizeOf186
  v183 := Tryz.zeroValue186
  t218 := Tryz.underlying202
  a218 := Tryz.isAgg202
  z218 := Tryz.sizeOf202
  v218 := Tryz.zeroValue202
  t222 := Tryz.underlying206
  a222 := Tryz.isAgg206
  z222 := Tryz.sizeOf206
  v222 := Tryz.zeroValue206
  t228 := Tryz.underlying210
  a228 := Tryz.isAgg210
  z228 := Tryz.sizeOf210
  v228 := Tryz.zeroValue210
  t229 := Tryz.underlying211
  a229 := Tryz.isAgg211
  z229 := Tryz.sizeOf211
  v229 := Tryz.zeroValue211 }
def YtimillpakjgnoaaGreat.lays220_ren : Go.Shelf.Ren := ⟨fun | 20 => 118 | n => n, fun | 22 => 22 | 3 => 3 | 4 => 4 | 0 => 0 | n => n, fun | n => n⟩
theorem YtimillpakjgnoaaGreat.lays220 : Go.Proofs.Lays2.n20 Tryz.prog YtimillpakjgnoaaGreat.lays220_ren := {
  mixed := by kernel_rfl
  f20 := Tryz.func118.trans (congrArg some (by kernel_rfl))
  t0 := Tryz.underlying0
  a0 := Tryz.isAgg0
  z0 := Tryz.sizeOf0
  v0 := Tryz.zeroValue0
  t3 := Tryz.underlying3
  a3 := Tryz.isAgg3
  z3 := Tryz.sizeOf3
  v3 := Tryz.zeroValue3
  t4 := Tryz.underlying4
  a4 := Tryz.isAgg4
  z4 := Tryz.sizeOf4
  v4 := Tryz.zeroValue4
  t22 := Tryz.underlying22
  a22 := Tryz.isAgg22
  z22 := Tryz.sizeOf22
  v22 := Tryz.zeroValue22
  i3 := by kernel_rfl }
end Go.Proofs
namespace Go.Proofs.YtimillpakjgnoaaGreat.Pl
open Go Go.RowKit Go.Sort
theorem flL_int (xs : List Int) : flL xs = xs.map (Value.int .i64) := by
 induction xs with
 | nil => rfl
 | cons x r ih => rw [List.map_cons, ← ih]; rfl
theorem putX {w : World} {h : FH} {b c m q : Nat} {cur : Array Value} {e : TypeId} {ds : List Int} {os : Array Obj} (hs : Sub h w) (sg : Sub (FH.one b (.cells cur e (0, 0))) w) (hd : Disj h (FH.one b (.cells cur e (0, 0)))) (hmax : c ≤ maxLen) (hsz : cur.size = c * 1) (hds : ds.length ≤ c) (hm : m ≤ ds.length) :
  SH (Kp.ex w h (FH.one b (.cells cur e (0, 0)))) h (grow (putRow (Value.int .i64) (Sort.ahead w q) b 0 ds.toArray) os) [OwnSl e 1 (some ⟨b, 0, none⟩) m c (flL (ds.take m))] := by
 have hb : w.heap[b]? = some (.cells cur e (0, 0)) := sg b _ (FH.one_self _ _)
 have hlt : b < w.heap.size := sg.lt (FH.one_self _ _)
 have hheap : ∀ i, i < w.heap.size → (grow (putRow (Value.int .i64) (Sort.ahead w q) b 0 ds.toArray) os).heap[i]? = if b = i then some (.cells (putCells (Value.int .i64) 0 ds.toArray cur) e (0, 0)) else w.heap[i]? := fun i hi => by
  show ((w.heap.modify b (onCells (putCells (Value.int .i64) 0 ds.toArray))) ++ os)[i]? = _
  rw [Array.getElem?_append_left (by rw [Array.size_modify]; exact hi), Array.getElem?_modify]
  by_cases q : b = i
  ·subst q
   rw [if_pos rfl, if_pos rfl, hb]; rfl
  ·rw [if_neg q, if_neg q]
 have hsize : w.heap.size ≤ (grow (putRow (Value.int .i64) (Sort.ahead w q) b 0 ds.toArray) os).heap.size := by
  show w.heap.size ≤ ((w.heap.modify b (onCells (putCells (Value.int .i64) 0 ds.toArray))) ++ os).size
  rw [Array.size_append, Array.size_modify]; omega
 have hone : ∀ i, FH.one b (.cells cur e (0, 0)) i = none → b ≠ i := fun i g q => by
  subst q
  rw [FH.one_self] at g; cases g
 have hnb : ∀ i, h i ≠ none → b ≠ i := fun i hi => hone i ((hd i).resolve_left hi)
 refine ⟨⟨rfl, rfl, rfl, hsize, fun i hi => ?_, (by unfold dr; first | exact Nat.le_add_right _ _ | exact Nat.le_refl _)⟩, fun i o ho => ?_, fun i hi => .inl hi, [FH.one b (.cells (putCells (Value.int .i64) 0 ds.toArray cur) e (0, 0))], rfl, ?_, ?_, ?_⟩
 ·rw [hheap i hi.1, if_neg (hone i hi.2)]; rfl
 ·rw [hheap i (hs.lt ho), if_neg (hnb i (by rw [ho]; simp))]; exact hs i o ho
 ·intro i g X hi hX
  cases i with
  | succ i => simp at hi
  | zero =>
   simp at hi hX
   subst hi; subst hX
   refine ⟨by rw [flL_len]; simp [Flat.sz, hm], .inr ⟨b, _, rfl, rfl, by omega, hmax, by simp [putCells, hsz], ?_⟩⟩
   rw [flL_int, Nat.mul_one]
   refine List.ext_getElem? fun k => ?_
   rw [List.getElem?_take, List.getElem?_map, List.getElem?_take]
   by_cases g : k < m
   ·have g2 : k < ds.length := by omega
    have g3 : k < cur.size := by omega
    rw [if_pos g, if_pos g, Array.getElem?_toList]
    simp [putCells, g2, g3]
   ·rw [if_neg g, if_neg g]; rfl
 ·intro i g hi
  cases i with
  | succ i => simp at hi
  | zero =>
   simp at hi
   subst hi
   refine ⟨fun j => ?_, Sub.one ?_, fun j hj hk => ?_⟩
   ·by_cases g : h j = none
    ·exact .inl g
    ·exact .inr (by unfold FH.one; rw [if_neg (fun e => hnb j g e.symm)])
   ·rw [hheap b hlt, if_pos rfl]
   ·exact hone j hk.2 (FH.one_ne hj).symm
 ·intro i j g g' hij hi hj
  cases i with
  | succ i => simp at hi
  | zero => cases j with
   | zero => exact absurd rfl hij
   | succ j => simp at hj
theorem ownHolds {w : World} {b : Nat} {cur : Array Value} {e : TypeId} {xs : List Int} (hb : w.heap[b]? = some (.cells cur e (0, 0))) (ht : cur.toList.take (xs.length * 1) = flL xs) : Go.Sort.Holds (Value.int .i64) w b 0 xs.toArray := fun j hj => by
 have hj' : j < xs.length := by simpa using hj
 refine ⟨?_, ?_⟩
 ·unfold World.cell?
  rw [hb]
  show (if (none : Option _).isSome = true then none else cur[0 + j]?) = _
  rw [flL_int, Nat.mul_one] at ht
  have h1 := congrArg (fun l => l[j]?) ht
  simp only [List.getElem?_take, hj', if_true, List.getElem?_map] at h1
  rw [Array.getElem?_toList, List.getElem?_eq_getElem hj'] at h1
  rw [Nat.zero_add]
  simp [h1, hj']
 ·unfold World.frozen?
  rw [hb]
  simp
theorem sort_len (xs : List Int) : (sp_sort xs).length = xs.length := List.length_mergeSort _
theorem c_sort {h : FH} {w : World} (hs : Sub h w) (s_ : List Int) (a : Option Addr) (c : Nat) {gX : FH} (ownX : OwnSl 3 1 a s_.length c (flL s_) gX) (subX : Sub gX w) (disX : Disj h gX) (hp : pre_sort s_) : Calls Tryz.prog 62 #[.slice a s_.length c] w fun e w' => e = .returned (.tuple #[]) ∧ SH (Kp.ex w h gX) h w' [OwnSl 3 1 a s_.length c (flL (sp_sort s_))] := by
 have own0 := ownX
 obtain ⟨h1, ⟨rfl, h2, rfl, rfl⟩ | ⟨b, cur, rfl, rfl, h4, h5, h6, h7⟩⟩ := ownX
 ·have e : s_ = [] := List.length_eq_zero_iff.1 h2
  subst e
  refine (Any.slices_Sort_int_none YtimillpakjgnoaaGreat.lays189 none 0 w).mono fun e w' ⟨he, hw⟩ => ⟨he, ?_⟩
  subst hw
  rw [show sp_sort [] = [] by simp [sp_sort]]
  exact SH.startX hs subX disX own0
 ·have hb := subX b _ (FH.one_self _ _)
  refine (Any.slices_Sort_int YtimillpakjgnoaaGreat.lays189 b 0 c s_ w (ownHolds hb h7) (subX.lt (FH.one_self _ _)) (Nat.lt_of_le_of_lt hp (by decide))).mono fun e w' ⟨he, n, os, hw⟩ => ⟨he, ?_⟩
  subst hw
  have := putX (q := n) (os := os) (ds := sp_sort s_) (m := s_.length) hs subX disX h5 h6 (by rw [sort_len]; exact h4) (by rw [sort_len]; exact Nat.le_refl _)
  rwa [List.take_of_length_le (by rw [sort_len]; exact Nat.le_refl _)] at this
theorem compact_len (xs : List Int) : (sp_compact xs).length ≤ xs.length := Lib.compact_length_le xs
theorem c_compact {h : FH} {w : World} (hs : Sub h w) (s_ : List Int) (a : Option Addr) (c : Nat) {gX : FH} (ownX : OwnSl 3 1 a s_.length c (flL s_) gX) (subX : Sub gX w) (disX : Disj h gX) (hp : pre_compact s_) : Calls Tryz.prog 118 #[.slice a s_.length c] w fun e w' => e = .returned (.slice a (sp_compact s_).length c) ∧ SH (Kp.ex w h gX) h w' [OwnSl 3 1 a (sp_compact s_).length c (flL (sp_compact s_))] := by
 have own0 := ownX
 obtain ⟨h1, ⟨rfl, h2, rfl, rfl⟩ | ⟨b, cur, rfl, rfl, h4, h5, h6, h7⟩⟩ := ownX
 ·have e : s_ = [] := List.length_eq_zero_iff.1 h2
  subst e
  refine (Any.slices_Compact_int_empty YtimillpakjgnoaaGreat.lays220 none 0 w).mono fun e w' ⟨he, hw⟩ => ⟨he, ?_⟩
  subst hw
  exact SH.startX hs subX disX own0
 ·have hb := subX b _ (FH.one_self _ _)
  have hl := compact_len s_
  unfold pre_compact at hp
  refine (Any.slices_Compact_int YtimillpakjgnoaaGreat.lays220 b 0 c s_ w (ownHolds hb h7) (by omega) h4).mono fun e w' ⟨he, n, hw⟩ => ⟨he, ?_⟩
  subst hw
  have e2 : (sp_compact s_ ++ List.replicate (s_.length - (sp_compact s_).length) 0).length = s_.length := by rw [List.length_append, List.length_replicate]; omega
  have := putX (q := n) (os := #[]) (ds := sp_compact s_ ++ List.replicate (s_.length - (sp_compact s_).length) 0) (m := (sp_compact s_).length) hs subX disX h5 h6 (by rw [e2]; exact h4) (by rw [e2]; exact hl)
  rw [List.take_left, grow_empty] at this
  exact this
end Go.Proofs.YtimillpakjgnoaaGreat.Pl

namespace Go.Proofs.YtimillpakjgnoaaGreat.Pl
open Go Go.RowKit
end Go.Proofs.YtimillpakjgnoaaGreat.Pl

namespace Go.Proofs.YtimillpakjgnoaaGreat.Pl
open Go Go.RowKit
theorem allS_drop {n j : Nat} (h : j < n) : (allS n).drop j = (j : Int) :: (allS n).drop (j + 1) := by
 have hl : j < (allS n).length := by rw [allS_len]; exact h
 rw [List.drop_eq_getElem_cons hl]
 congr 1
 simp [allS]
end Go.Proofs.YtimillpakjgnoaaGreat.Pl

namespace Go.Proofs.YtimillpakjgnoaaGreat.Pl
open Go Go.RowKit
theorem ok_word : ∀ (s_ : List Int), pre_word s_ → F_word s_ (fun r => r = sp_word s_) := fun s ⟨hl, h0⟩ => by
 refine ⟨fun w t => ∃ k : Nat, t = k ∧ k ≤ s.length ∧ w = sp_word (s.take k), fun _ t => (s.length - t).toNat, ⟨0, rfl, Nat.zero_le _, rfl⟩, ?_⟩
 rintro w _ ⟨k, rfl, k1, rfl⟩
 unfold F_word_L1
 simp only [decide_eq_true_eq, decide_eq_false_iff_not, forall_eq]
 refine ⟨fun h => ?_, fun h => ?_⟩
 ·have hk : k < s.length := by omega
  rw [w64 (by omega)]
  refine ⟨⟨by omega, h⟩, h0 _ (gt_memN hk), ⟨k + 1, by omega, by omega, ?_⟩, by omega⟩
  rw [takeN_gt hk, sp_word, sp_word, List.foldl_append]
  rfl
 ·rw [List.take_of_length_le (by omega)]
theorem ok_facts : ∀ (w_ : Int), pre_facts w_ → F_facts w_ (fun r => r = sp_facts w_) := fun w _ => by
 refine ⟨fun t out => ∃ k : Nat, t = k ∧ k ≤ 32 ∧ out = (allS k).filter fun p => bits .and .u32 (Int.fdiv w (2 ^ (min p.toNat (IntKind.bits .u32)))) 1 == 1, fun t _ => (32 - t).toNat, ⟨0, rfl, Nat.zero_le _, rfl⟩, ?_⟩
 rintro _ out ⟨k, rfl, k1, k2⟩
 have hlen : out.length ≤ k := by
  rw [k2]
  exact Nat.le_trans (List.length_filter_le _ _) (by rw [allS_len]; exact Nat.le_refl _)
 unfold F_facts_L1 F_facts_J1
 simp only [decide_eq_true_eq, decide_eq_false_iff_not, forall_eq, List.length_append, List.length_singleton]
 refine ⟨fun h => ?_, fun h => ?_⟩
 ·rw [w64 (by omega)]
  refine ⟨by omega, fun q => ⟨⟨by simp only [maxLen]; omega, by omega⟩, ⟨k + 1, by omega, by omega, ?_⟩, by omega⟩, fun q => ⟨⟨k + 1, by omega, by omega, ?_⟩, by omega⟩⟩
  ·rw [allS_succ, List.filter_append, ← k2, filter1_pos (p := fun p => bits .and .u32 (Int.fdiv w (2 ^ (min p.toNat (IntKind.bits .u32)))) 1 == 1) q]
  ·rw [allS_succ, List.filter_append, ← k2, filter1_neg (p := fun p => bits .and .u32 (Int.fdiv w (2 ^ (min p.toNat (IntKind.bits .u32)))) 1 == 1) q, List.append_nil]
 ·have hk : k = 32 := by omega
  subst hk
  exact k2
theorem facts_len (w : Int) : (sp_facts w).length ≤ 32 := Nat.le_trans (List.length_filter_le _ _) (by rw [allS_len]; exact Nat.le_refl _)
theorem ok_wcmp : ∀ (a : Int) (b : Int), pre_wcmp a b → F_wcmp a b (fun r => r = sp_wcmp a b) := fun a b _ => by
 refine ⟨trivial, fun r2 h2 => ⟨trivial, fun r3 h3 => ⟨?_, fun r4 h4 => ?_⟩⟩⟩
 ·subst h2; subst h3
  have := facts_len a
  have := facts_len b
  exact ⟨by omega, by omega⟩
 ·rw [h4, h2, h3]; rfl
theorem or32 (a b : Nat) (ha : a < 4294967296) (hb : b < 4294967296) : bits .or .u32 (a : Int) (b : Int) = ((a ||| b : Nat) : Int) ∧ a ||| b < 4294967296 := by
 have hx : a ||| b < 2 ^ 32 := Nat.or_lt_two_pow (by omega) (by omega)
 have h1 : (BitVec.ofInt 32 (a : Int)).toNat = a := by
  rw [BitVec.ofInt_natCast, BitVec.toNat_ofNat]; exact Nat.mod_eq_of_lt (by omega)
 have h2 : (BitVec.ofInt 32 (b : Int)).toNat = b := by
  rw [BitVec.ofInt_natCast, BitVec.toNat_ofNat]; exact Nat.mod_eq_of_lt (by omega)
 refine ⟨?_, by omega⟩
 show IntKind.u32.wrap ((BitVec.ofInt 32 (a : Int) ||| BitVec.ofInt 32 (b : Int)).toNat : Int) = _
 rw [BitVec.toNat_or, h1, h2, IntKind.wrap_u32]; omega
theorem and32 (a b : Nat) (ha : a < 4294967296) (hb : b < 4294967296) : bits .and .u32 (a : Int) (b : Int) = ((a &&& b : Nat) : Int) ∧ a &&& b < 4294967296 := by
 have hx : a &&& b < 2 ^ 32 := Nat.and_lt_two_pow _ (by omega)
 have h1 : (BitVec.ofInt 32 (a : Int)).toNat = a := by
  rw [BitVec.ofInt_natCast, BitVec.toNat_ofNat]; exact Nat.mod_eq_of_lt (by omega)
 have h2 : (BitVec.ofInt 32 (b : Int)).toNat = b := by
  rw [BitVec.ofInt_natCast, BitVec.toNat_ofNat]; exact Nat.mod_eq_of_lt (by omega)
 refine ⟨?_, by omega⟩
 show IntKind.u32.wrap ((BitVec.ofInt 32 (a : Int) &&& BitVec.ofInt 32 (b : Int)).toNat : Int) = _
 rw [BitVec.toNat_and, h1, h2, IntKind.wrap_u32]; omega
theorem andNot32 (a b : Nat) : ∃ c : Nat, bits .andNot .u32 (a : Int) (b : Int) = (c : Int) ∧ c < 4294967296 ∧ ∀ i, i < 32 → c.testBit i = (a.testBit i && !b.testBit i) := by
 have h1 : (BitVec.ofInt 32 (a : Int)) = BitVec.ofNat 32 a := BitVec.ofInt_natCast 32 a
 have h2 : (BitVec.ofInt 32 (b : Int)) = BitVec.ofNat 32 b := BitVec.ofInt_natCast 32 b
 have hlt := (BitVec.ofNat 32 a &&& ~~~(BitVec.ofNat 32 b)).isLt
 refine ⟨(BitVec.ofNat 32 a &&& ~~~(BitVec.ofNat 32 b)).toNat, ?_, by omega, fun i hi => ?_⟩
 ·show IntKind.u32.wrap ((BitVec.ofInt 32 (a : Int) &&& ~~~(BitVec.ofInt 32 (b : Int))).toNat : Int) = _
  rw [h1, h2, IntKind.wrap_u32]; omega
 ·rw [BitVec.testBit_toNat, BitVec.getLsbD_and, BitVec.getLsbD_not, BitVec.getLsbD_ofNat, BitVec.getLsbD_ofNat]
  simp [hi]
theorem bits_u32 (op : BinOp) (x y : Int) : U32 (bits op .u32 x y) := by
 unfold bits
 simp only
 rw [IntKind.wrap_u32]
 exact ⟨by omega, by omega⟩
structure Wd (w : Int) (s : Int → Prop) : Prop where
 ex : ∃ n : Nat, w = (n : Int) ∧ n < 4294967296 ∧ ∀ i : Nat, i < 32 → (n.testBit i = true ↔ s (i : Int))
theorem bitW_eq {p : Nat} (hp : p < 32) : bitW (p : Int) = ((2 ^ p : Nat) : Int) ∧ 2 ^ p < 4294967296 := by
 have e1 : min ((p : Int)).toNat (IntKind.bits .u32) = p := by
  rw [Int.toNat_natCast]; show min p 32 = p; omega
 have e2 : 2 ^ p < 2 ^ 32 := Nat.pow_lt_pow_right (by omega) hp
 refine ⟨?_, by omega⟩
 unfold bitW
 rw [e1, Int.one_mul, show (2 : Int) ^ p = ((2 ^ p : Nat) : Int) by simp, IntKind.wrap_u32]
 generalize 2 ^ p = N at e2 ⊢
 omega
theorem Wd.word : ∀ (s : List Int), (∀ p ∈ s, 0 ≤ p ∧ p < 32) → Wd (sp_word s) (fun p => p ∈ s) := by
 have key : ∀ (s acc : List Int) (w : Int), Wd w (fun p => p ∈ acc) → (∀ p ∈ s, 0 ≤ p ∧ p < 32) → Wd (s.foldl (fun w p => bits .or .u32 w (bitW p)) w) (fun p => p ∈ acc ∨ p ∈ s) := by
  intro s
  induction s with
  | nil => intro acc w h _; exact ⟨by obtain ⟨n, a, b, c⟩ := h.ex; exact ⟨n, a, b, fun i hi => by rw [c i hi]; simp⟩⟩
  | cons x r ih =>
   intro acc w h hs
   obtain ⟨n, rfl, n1, n2⟩ := h.ex
   obtain ⟨x0, x1⟩ := hs x List.mem_cons_self
   obtain ⟨k, rfl⟩ : ∃ k : Nat, x = k := ⟨x.toNat, by omega⟩
   obtain ⟨b1, b2⟩ := bitW_eq (p := k) (by omega)
   obtain ⟨o1, o2⟩ := or32 n (2 ^ k) n1 b2
   have := ih (acc ++ [(k : Int)]) (bits .or .u32 (n : Int) (bitW (k : Int))) ⟨⟨n ||| 2 ^ k, by rw [b1]; exact o1, o2, fun i hi => by
    rw [Nat.testBit_or, Nat.testBit_two_pow, Bool.or_eq_true, n2 i hi, decide_eq_true_eq, List.mem_append, List.mem_singleton]
    exact or_congr_right ⟨fun e => by rw [e], fun e => by omega⟩⟩⟩ fun p hp => hs p (List.mem_cons_of_mem _ hp)
   rw [List.foldl_cons]
   obtain ⟨m, m1, m2, m3⟩ := this.ex
   refine ⟨m, m1, m2, fun i hi => ?_⟩
   rw [m3 i hi, List.mem_append, List.mem_singleton, List.mem_cons]
   exact or_assoc
 intro s hs
 have := key s [] 0 ⟨⟨0, rfl, by omega, fun i _ => by simp⟩⟩ hs
 obtain ⟨m, m1, m2, m3⟩ := this.ex
 exact ⟨m, m1, m2, fun i hi => by rw [m3 i hi]; simp⟩
theorem Wd.u32 {w : Int} {s : Int → Prop} (h : Wd w s) : U32 w := by
 obtain ⟨n, rfl, n1, _⟩ := h.ex
 exact ⟨by omega, by omega⟩
theorem Wd.unique {w w' : Int} {s : Int → Prop} (h : Wd w s) (h' : Wd w' s) : w = w' := by
 obtain ⟨n, rfl, n1, n2⟩ := h.ex
 obtain ⟨m, rfl, m1, m2⟩ := h'.ex
 congr 1
 refine Nat.eq_of_testBit_eq fun i => ?_
 by_cases hi : i < 32
 ·have a := n2 i hi
  have b := m2 i hi
  cases hx : n.testBit i <;> cases hy : m.testBit i <;> simp_all
 ·have h32 : 2 ^ 32 ≤ 2 ^ i := Nat.pow_le_pow_right (by omega) (by omega)
  rw [Nat.testBit_lt_two_pow (by omega), Nat.testBit_lt_two_pow (by omega)]
theorem Wd.iff {w : Int} {s s' : Int → Prop} (h : Wd w s) (e : ∀ i : Nat, i < 32 → (s (i : Int) ↔ s' (i : Int))) : Wd w s' := by
 obtain ⟨n, n0, n1, n2⟩ := h.ex
 exact ⟨n, n0, n1, fun i hi => (n2 i hi).trans (e i hi)⟩
theorem Wd.inj {w : Int} {s s' : Int → Prop} (h : Wd w s) (h' : Wd w s') : ∀ i : Nat, i < 32 → (s (i : Int) ↔ s' (i : Int)) := fun i hi => by
 obtain ⟨n, rfl, n1, n2⟩ := h.ex
 obtain ⟨m, m0, m1, m2⟩ := h'.ex
 obtain rfl : n = m := by omega
 rw [← n2 i hi, ← m2 i hi]
theorem Wd.or {a b : Int} {s s' : Int → Prop} (h : Wd a s) (h' : Wd b s') : Wd (bits .or .u32 a b) (fun p => s p ∨ s' p) := by
 obtain ⟨n, rfl, n1, n2⟩ := h.ex
 obtain ⟨m, rfl, m1, m2⟩ := h'.ex
 obtain ⟨o1, o2⟩ := or32 n m n1 m1
 exact ⟨n ||| m, o1, o2, fun i hi => by rw [Nat.testBit_or, Bool.or_eq_true, n2 i hi, m2 i hi]⟩
theorem Wd.and {a b : Int} {s s' : Int → Prop} (h : Wd a s) (h' : Wd b s') : Wd (bits .and .u32 a b) (fun p => s p ∧ s' p) := by
 obtain ⟨n, rfl, n1, n2⟩ := h.ex
 obtain ⟨m, rfl, m1, m2⟩ := h'.ex
 obtain ⟨o1, o2⟩ := and32 n m n1 m1
 exact ⟨n &&& m, o1, o2, fun i hi => by rw [Nat.testBit_and, Bool.and_eq_true, n2 i hi, m2 i hi]⟩
theorem Wd.andNot {a b : Int} {s s' : Int → Prop} (h : Wd a s) (h' : Wd b s') : Wd (bits .andNot .u32 a b) (fun p => s p ∧ ¬ s' p) := by
 obtain ⟨n, rfl, n1, n2⟩ := h.ex
 obtain ⟨m, rfl, m1, m2⟩ := h'.ex
 obtain ⟨c, c1, c2, c3⟩ := andNot32 n m
 refine ⟨c, c1, c2, fun i hi => ?_⟩
 have := m2 i hi
 rw [c3 i hi, Bool.and_eq_true, n2 i hi]
 cases hb : m.testBit i <;> simp_all
theorem Wd.sub {a b : Int} {s s' : Int → Prop} (h : Wd a s) (h' : Wd b s') : (bits .and .u32 a b == b) = true ↔ ∀ i : Nat, i < 32 → s' (i : Int) → s (i : Int) := by
 rw [beq_iff_eq]
 constructor
 ·intro e i hi hs
  have hx := h.and h'
  rw [e] at hx
  exact ((hx.inj h' i hi).2 hs).1
 ·intro g
  exact Wd.unique (h.and h') (h'.iff fun i hi => ⟨fun q => ⟨g i hi q, q⟩, fun q => q.2⟩)
theorem mem_facts {w : Int} {s : Int → Prop} (h : Wd w s) {p : Int} : p ∈ sp_facts w ↔ (0 ≤ p ∧ p < 32) ∧ s p := by
 obtain ⟨n, rfl, n1, n2⟩ := h.ex
 unfold sp_facts
 rw [List.mem_filter, mem_allS]
 refine and_congr_right fun hp => ?_
 obtain ⟨k, rfl⟩ : ∃ k : Nat, p = k := ⟨p.toNat, by omega⟩
 have hk : k < 32 := by have := hp.2; omega
 have e1 : min ((k : Int)).toNat (IntKind.bits .u32) = k := by
  rw [Int.toNat_natCast]; show min k 32 = k; omega
 have e2 : Int.fdiv (n : Int) (2 ^ k) = ((n / 2 ^ k : Nat) : Int) := by
  rw [Int.fdiv_eq_ediv_of_nonneg _ (Int.le_of_lt (Int.pow_pos (by decide)))]
  simp
 have e3 : n / 2 ^ k ≤ n := Nat.div_le_self _ _
 have e4 := (and32 (n / 2 ^ k) 1 (by omega) (by omega)).1
 rw [show ((1 : Nat) : Int) = 1 from rfl] at e4
 rw [e1, e2, e4, ← n2 k hk, Nat.and_one_is_mod, Nat.testBit_eq_decide_div_mod_eq, beq_iff_eq, decide_eq_true_eq]
 omega
theorem pushW_spec : ∀ (r : List (Int × Int)) (z : List Int × List (Int × Unit)), (∃ l, (pushW r z).1 = z.1 ++ l ∧ (pushW r z).2.length = z.2.length + l.length) ∧ (∀ x, x ∈ (pushW r z).2.map (·.1) → x ∈ z.2.map (·.1) ∨ x ∈ (pushW r z).1) ∧ (∀ x, x ∈ z.2.map (·.1) → x ∈ (pushW r z).2.map (·.1)) ∧ (∀ x ∈ r, x.2 ∈ (pushW r z).2.map (·.1)) ∧ (pushW r z).2.length ≤ z.2.length + r.length
 | [], z => ⟨⟨[], by simp [pushW], rfl⟩, fun _ h => .inl h, fun _ h => h, fun _ h => (by cases h), Nat.le_refl _⟩
 | x :: r, z => by
  rw [pushW]
  split
  ·rename_i hx
   obtain ⟨h1, h2, h3, h4, h5⟩ := pushW_spec r z
   refine ⟨h1, h2, h3, fun y hy => ?_, by simp; omega⟩
   rcases List.mem_cons.1 hy with rfl | hy
   ·exact h3 _ (getA_some.1 hx)
   ·exact h4 y hy
  ·rename_i hx
   obtain ⟨⟨l, g1, g2⟩, h2, h3, h4, h5⟩ := pushW_spec r (z.1 ++ [x.2], setA z.2 x.2 ())
   have hn : getA z.2 x.2 = none := by
    cases h : getA z.2 x.2 with
    | none => rfl
    | some v => rw [h] at hx; exact absurd rfl hx
   have hs := setA_new (v := ()) hn
   rw [hs] at g1 g2 h2 h3 h4 h5 ⊢
   simp only [List.length_append, List.length_singleton] at g2 h5
   refine ⟨⟨x.2 :: l, by rw [g1]; simp, by simp; omega⟩, fun y hy => ?_, fun y hy => ?_, fun y hy => ?_, by simp; omega⟩
   ·rcases h2 y hy with q | q
    ·rw [List.map_append, List.mem_append] at q
     rcases q with q | q
     ·exact .inl q
     ·simp at q
      refine .inr ?_
      rw [g1, q]; simp
    ·exact .inr q
   ·exact h3 y (by rw [List.map_append]; exact List.mem_append_left _ hy)
   ·rcases List.mem_cons.1 hy with rfl | hy
    ·exact h3 _ (by rw [List.map_append]; exact List.mem_append_right _ (by simp))
    ·exact h4 y hy
theorem mem_wsucc {W : WordsT} {s : Int} {x : Int × Int} : x ∈ wsucc W s ↔ inb W.ops x.1 ∧ (bits .and .u32 s (gt W.ops x.1).pre == (gt W.ops x.1).pre) = true ∧ x.2 = bits .or .u32 (bits .andNot .u32 s (gt W.ops x.1).del) (gt W.ops x.1).add := by
 unfold wsucc
 rw [List.mem_filterMap]
 constructor
 ·rintro ⟨i, h1, h2⟩
  unfold wopS at h2
  split at h2
  ·rename_i hs
   obtain rfl := Option.some.inj h2
   exact ⟨mem_allS.1 h1, hs, rfl⟩
  ·cases h2
 ·rintro ⟨h1, h2, h3⟩
  refine ⟨x.1, mem_allS.2 h1, ?_⟩
  unfold wopS
  rw [if_pos h2, ← h3]
theorem last_takeW {l : List Int} (h : 0 < l.length) : l.getLast? = some (gt l ((l.length : Int) - 1)) ∧ l.take ((l.length : Int) - 1).toNat = l.dropLast := by
 have e : ((l.length : Int) - 1).toNat = l.length - 1 := by omega
 refine ⟨?_, by rw [e, List.dropLast_eq_take]⟩
 rw [List.getLast?_eq_getElem?]
 have := gt_get (xs := l) (i := (l.length : Int) - 1) ⟨by omega, by omega⟩
 rw [e] at this
 exact this
theorem ok_all : ∀ (x : WordsT), pre_all x → F_all x (fun r => r = sp_all x) := fun W hp => by
 have hops : W.ops.length ≤ 40 := hp
 intro m hm
 rw [show m = [(W.start, ())] from hm]
 refine ⟨fun out l m => out.length + l.length = m.length ∧ m.length ≤ 2000 ∧ dfs W (2001 - out.length) l m out = sp_all W, fun out _ _ => 2001 - out.length, ⟨rfl, by simp, rfl⟩, ?_⟩
 rintro out l m ⟨h1, h2, h3⟩
 unfold F_all_L1
 simp only [decide_eq_true_eq, decide_eq_false_iff_not, forall_eq, List.length_append, List.length_singleton]
 refine ⟨fun h => ?_, fun h => ?_⟩
 ·have hl : 0 < l.length := by omega
  obtain ⟨g1, g2⟩ := last_takeW hl
  rw [w64 (by omega), g2]
  have hdl : l.dropLast.length = l.length - 1 := List.length_dropLast
  rw [show 2001 - out.length = (2000 - out.length) + 1 by omega, dfs] at h3
  simp only [g1] at h3
  obtain ⟨⟨lx, p1, p2⟩, _, _, _, p5⟩ := pushW_spec (wsucc W (gt l ((l.length : Int) - 1))) (l.dropLast, m)
  refine ⟨⟨by omega, by omega⟩, ⟨by omega, by omega⟩, ⟨by simp only [maxLen]; omega, by omega⟩, ?_⟩
  refine ⟨fun t l4 m4 => ∃ j : Nat, t = j ∧ j ≤ W.ops.length ∧ l4.length + (out.length + 1) = m4.length ∧ m4.length ≤ m.length + j ∧ pushW (((allS W.ops.length).drop j).filterMap (wopS W (gt l ((l.length : Int) - 1)))) (l4, m4) = pushW (wsucc W (gt l ((l.length : Int) - 1))) (l.dropLast, m), fun t _ _ => (W.ops.length - t).toNat, ⟨0, rfl, Nat.zero_le _, by omega, Nat.le_refl _, rfl⟩, ?_⟩
  rintro _ l4 m4 ⟨j, rfl, j1, j2, j3, j4⟩
  unfold F_all_L2 F_all_J1
  rw [w64 (n := (l.length : Int) - 1) (by omega)]
  simp only [decide_eq_true_eq, decide_eq_false_iff_not, forall_eq, List.length_append, List.length_singleton, Bool.not_eq_true', Bool.not_eq_false']
  refine ⟨fun g => ?_, fun g => ?_⟩
  ·have hj : j < W.ops.length := by omega
   rw [allS_drop hj, List.filterMap_cons] at j4
   rw [w64 (n := (j : Int) + 1) (by omega)]
   refine ⟨⟨by omega, g⟩, fun q => ?_, fun q => ?_⟩
   ·have eo : wopS W (gt l ((l.length : Int) - 1)) (j : Int) = some ((j : Int), bits .or .u32 (bits .andNot .u32 (gt l ((l.length : Int) - 1)) (gt W.ops (j : Int)).del) (gt W.ops (j : Int)).add) := by rw [wopS, if_pos q]
    rw [eo] at j4
    simp only [pushW] at j4
    refine ⟨fun k => ?_, fun k => ?_⟩
    ·rw [if_neg (by rw [k]; decide)] at j4
     have hn : getA m4 (bits .or .u32 (bits .andNot .u32 (gt l ((l.length : Int) - 1)) (gt W.ops (j : Int)).del) (gt W.ops (j : Int)).add) = none := by
      cases h : getA m4 (bits .or .u32 (bits .andNot .u32 (gt l ((l.length : Int) - 1)) (gt W.ops (j : Int)).del) (gt W.ops (j : Int)).add) with
      | none => rfl
      | some v => rw [h] at k; cases k
     have hsl : (setA m4 (bits .or .u32 (bits .andNot .u32 (gt l ((l.length : Int) - 1)) (gt W.ops (j : Int)).del) (gt W.ops (j : Int)).add) ()).length = m4.length + 1 := by rw [setA_new hn, List.length_append]; rfl
     exact ⟨⟨by simp only [maxLen]; omega, by omega⟩, ⟨j + 1, by omega, by omega, by rw [hsl]; omega, by rw [hsl]; omega, j4⟩, by omega⟩
    ·rw [if_pos k] at j4
     exact ⟨⟨j + 1, by omega, by omega, j2, by omega, j4⟩, by omega⟩
   ·have eo : wopS W (gt l ((l.length : Int) - 1)) (j : Int) = none := by rw [wopS, if_neg (by rw [q]; decide)]
    rw [eo] at j4
    exact ⟨⟨j + 1, by omega, by omega, j2, by omega, j4⟩, by omega⟩
  ·have ed : (allS W.ops.length).drop j = [] := List.drop_eq_nil_of_le (by rw [allS_len]; omega)
   rw [ed, List.filterMap_nil, pushW] at j4
   rw [← j4] at h3
   refine ⟨fun q => ?_, fun q => ⟨⟨by omega, by omega, ?_⟩, by omega⟩⟩
   ·rw [if_pos (by simp only; omega)] at h3
    exact h3
   ·rw [if_neg (by simp only; omega)] at h3
    rw [show 2001 - (out.length + 1) = 2000 - out.length by omega]
    exact h3
 ·have hl : l = [] := List.eq_nil_of_length_eq_zero (by omega)
  subst hl
  rw [show 2001 - out.length = (2000 - out.length) + 1 by simp at h1; omega, dfs] at h3
  exact h3
theorem dfs_u32 (W : WordsT) : ∀ (k : Nat) (l : List Int) (m : List (Int × Unit)) (out : List Int), (∀ x ∈ l, U32 x) → (∀ x ∈ out, U32 x) → out.length + l.length = m.length → m.length ≤ 2000 → (∀ x ∈ (dfs W k l m out).1, U32 x) ∧ (dfs W k l m out).1.length ≤ 2000
 | 0, _, _, _, _, h, h1, h2 => ⟨h, by rw [dfs]; simp only; omega⟩
 | k + 1, l, m, out, hl, ho, h1, h2 => by
  rw [dfs]
  cases hg : l.getLast? with
  | none => exact ⟨ho, by simp only; omega⟩
  | some s =>
   simp only
   split
   ·exact ⟨fun x hx => (by cases hx), by simp⟩
   ·rename_i hb
    obtain ⟨⟨lx, p1, p2⟩, _⟩ := pushW_spec (wsucc W s) (l.dropLast, m)
    have hls : l = l.dropLast ++ [s] := by
     obtain ⟨ys, e⟩ := List.getLast?_eq_some_iff.1 hg
     rw [e]; simp
    have hlen : l.length = l.dropLast.length + 1 := by
     have := congrArg List.length hls
     rwa [List.length_append] at this
    have hp : ∀ (r : List (Int × Int)) (z : List Int × List (Int × Unit)), (∀ x ∈ r, U32 x.2) → (∀ x ∈ z.1, U32 x) → ∀ x ∈ (pushW r z).1, U32 x := by
     intro r
     induction r with
     | nil => intro z _ hz; exact hz
     | cons y r ih =>
      intro z hr hz
      rw [pushW]
      split
      ·exact ih z (fun x hx => hr x (List.mem_cons_of_mem _ hx)) hz
      ·refine ih _ (fun x hx => hr x (List.mem_cons_of_mem _ hx)) fun x hx => ?_
       rcases List.mem_append.1 hx with g | g
       ·exact hz x g
       ·rw [List.mem_singleton.1 g]; exact hr y List.mem_cons_self
    refine dfs_u32 W k _ _ _ (hp _ _ (fun x hx => by rw [(mem_wsucc.1 hx).2.2]; exact bits_u32 _ _ _) fun x hx => hl x (List.dropLast_subset _ hx)) (fun x hx => ?_) (by rw [p1, p2]; simp only [List.length_append, List.length_singleton]; omega) (by omega)
    rcases List.mem_append.1 hx with g | g
    ·exact ho x g
    ·rw [List.mem_singleton.1 g]; exact hl s (by rw [hls]; simp)
theorem all_pre {W : WordsT} (h : U32 W.start) : pre_sortW (sp_all W).1 := by
 obtain ⟨a, b⟩ := dfs_u32 W 2001 [W.start] [(W.start, ())] [] (fun x hx => by rw [List.mem_singleton.1 hx]; exact h) (fun x hx => by cases hx) rfl (by simp)
 exact ⟨Nat.le_trans b (by decide), a⟩
end Go.Proofs.YtimillpakjgnoaaGreat.Pl

namespace Go.Proofs.YtimillpakjgnoaaGreat.Pl
open Go Go.RowKit
theorem ok_shifted : ∀ (s_ : List Int) (n_ : Int), pre_shifted s_ n_ → F_shifted s_ n_ (fun r => r = sp_shifted s_ n_) := fun s n ⟨hl, hn, hs⟩ => by
 refine ⟨fun t out => ∃ k : Nat, t = k ∧ k ≤ s.length ∧ out = sp_shifted (s.take k) n, fun t _ => (s.length - t).toNat, ⟨0, rfl, Nat.zero_le _, rfl⟩, ?_⟩
 rintro _ out ⟨k, rfl, k1, k2⟩
 have hlen : out.length = k := by rw [k2, sp_shifted, List.length_map, List.length_take]; omega
 unfold F_shifted_L1
 simp only [decide_eq_true_eq, decide_eq_false_iff_not, List.length_append, List.length_singleton]
 refine ⟨fun h => ?_, fun h => ?_⟩
 ·have hk : k < s.length := by omega
  have := hs _ (gt_memN hk)
  rw [w64 (by omega), w64 (by omega)]
  refine ⟨⟨by omega, h⟩, ⟨by simp only [maxLen]; omega, by omega⟩, ⟨k + 1, by omega, by omega, ?_⟩, by omega⟩
  rw [takeN_gt hk, sp_shifted, List.map_append, k2]; rfl
 ·rw [k2, List.take_of_length_le (by omega)]
theorem shiftOp_pre {b : Task} (tk : TaskOK b) {n : Int} (hn : 0 ≤ n ∧ n ≤ 24) {i : Int} (hi : inb b.ops i) : pre_shifted (gt b.ops i).pre n ∧ pre_shifted (gt b.ops i).add n ∧ pre_shifted (gt b.ops i).del n := by
 obtain ⟨h1, h2, h3, _⟩ := tk.op hi
 obtain ⟨l1, l2, l3⟩ := tk.lens hi
 have hf := tk.facts
 exact ⟨⟨by omega, by omega, fun p hp => by have := set_rng h1 p hp; omega⟩, ⟨by omega, by omega, fun p hp => by have := set_rng h2 p hp; omega⟩, ⟨by omega, by omega, fun p hp => by have := set_rng h3 p hp; omega⟩⟩
theorem set_shifted {s : List Int} {m n : Int} (hn : 0 ≤ n ∧ n ≤ 24) (hm : 0 ≤ m ∧ m ≤ 24) (h : sp_isSet s m = true) : pre_shifted s n := by
 have := set_len hm.1 h
 exact ⟨by omega, by omega, fun p hp => by have := set_rng h p hp; omega⟩
theorem prod_loops {a b : Task} (ha : sp_validate a = ⟨0, 0⟩) (hb : sp_validate b = ⟨0, 0⟩) (hn : ¬ (24 < a.facts + b.facts ∨ 40 < a.ops.length + b.ops.length)) (K : Task × Fault → Prop) (hK : K (prodT a b, ⟨0, 0⟩)) : F_product_J2 a b K a.init a.goal := by
 have ta := taskOK_of ha
 have tb := taskOK_of hb
 have fa := ta.facts
 have fb := tb.facts
 have la := ta.len
 have lb := tb.len
 have i1 := set_len fa.1 ta.init
 have i2 := set_len fa.1 ta.goal
 have i3 := set_len fb.1 tb.init
 have i4 := set_len fb.1 tb.goal
 unfold F_product_J2
 refine ⟨fun t out => ∃ k : Nat, t = k ∧ k ≤ a.ops.length ∧ out = a.ops.take k, fun t _ => (a.ops.length - t).toNat, ⟨0, rfl, Nat.zero_le _, rfl⟩, ?_⟩
 rintro _ out ⟨k, rfl, k1, k2⟩
 have hlen : out.length = k := by rw [k2, List.length_take]; omega
 unfold F_product_L1
 simp only [decide_eq_true_eq, decide_eq_false_iff_not, forall_eq, List.length_append, List.length_singleton]
 refine ⟨fun h => ?_, fun h => ?_⟩
 ·have hk : k < a.ops.length := by omega
  obtain ⟨l1, l2, l3⟩ := ta.lens (i := (k : Int)) ⟨by omega, h⟩
  rw [w64 (by omega)]
  refine ⟨⟨by omega, h⟩, by unfold pre_clone; omega, by unfold pre_clone; omega, by unfold pre_clone; omega, ⟨by simp only [maxLen]; omega, by omega⟩, ⟨k + 1, by omega, by omega, ?_⟩, by omega⟩
  rw [takeN_gt hk, k2]; rfl
 ·have hk : k = a.ops.length := by omega
  subst hk
  rw [List.take_of_length_le (Nat.le_refl _)] at k2
  have hout := k2
  have s1 : (sp_shifted b.init a.facts).length = b.init.length := List.length_map _
  have s2 : (sp_shifted b.goal a.facts).length = b.goal.length := List.length_map _
  refine ⟨set_shifted fa fb tb.init, ⟨by simp only [maxLen]; omega, by omega⟩, set_shifted fa fb tb.goal, ⟨by simp only [maxLen]; omega, by omega⟩, ?_⟩
  refine ⟨fun t o => ∃ k : Nat, t = k ∧ k ≤ b.ops.length ∧ o = out ++ (b.ops.take k).map (shiftOp a.facts), fun t _ => (b.ops.length - t).toNat, ⟨0, rfl, Nat.zero_le _, by simp⟩, ?_⟩
  rintro _ o ⟨k, rfl, k1, k2⟩
  have hlen : o.length = out.length + k := by rw [k2, List.length_append, List.length_map, List.length_take]; omega
  unfold F_product_L2
  simp only [decide_eq_true_eq, decide_eq_false_iff_not, forall_eq, List.length_append, List.length_singleton]
  refine ⟨fun h => ?_, fun h => ?_⟩
  ·have hk : k < b.ops.length := by omega
   obtain ⟨p1, p2, p3⟩ := shiftOp_pre tb fa (i := (k : Int)) ⟨by omega, h⟩
   rw [w64 (n := (k : Int) + 1) (by omega)]
   refine ⟨⟨by omega, h⟩, p1, p2, p3, ⟨by simp only [maxLen]; omega, by omega⟩, ⟨k + 1, by omega, by omega, ?_⟩, by omega⟩
   rw [takeN_gt hk, k2, List.map_append, ← List.append_assoc]; rfl
  ·have hk : k = b.ops.length := by omega
   subst hk
   rw [List.take_of_length_le (Nat.le_refl _)] at k2
   rw [k2, hout, w64 (by omega)]
   exact hK
theorem ok_product : ∀ (a : Task) (b : Task), F_product a b (fun r => r = sp_product a b) := fun a b => by
 unfold F_product
 simp only [forall_eq]
 by_cases ha : sp_validate a = ⟨0, 0⟩
 ·rw [ha]
  refine ⟨fun q => absurd q (by decide), fun _ => ?_⟩
  by_cases hb : sp_validate b = ⟨0, 0⟩
  ·rw [hb]
   refine ⟨fun q => absurd q (by decide), fun _ => ?_⟩
   have ta := taskOK_of ha
   have tb := taskOK_of hb
   have fa := ta.facts
   have fb := tb.facts
   have la := ta.len
   have lb := tb.len
   have i1 := set_len fa.1 ta.init
   have i2 := set_len fa.1 ta.goal
   rw [w64 (by omega), w64 (by omega)]
   have big : (24 < a.facts + b.facts ∨ 40 < a.ops.length + b.ops.length) → sp_product a b = ((⟨0, [], [], []⟩ : Task), (⟨10, -8⟩ : Fault)) := fun h => by
    unfold sp_product noTask; rw [if_pos ha, if_pos hb, if_pos h]
   unfold F_product_J1
   simp only [decide_eq_true_eq, decide_eq_false_iff_not, forall_eq]
   refine ⟨fun h => ⟨fun _ => (big (.inl h)).symm, fun q => absurd q (by decide)⟩, fun h => ⟨fun q => (big (.inr (by omega))).symm, fun q => ⟨by unfold pre_clone; omega, by unfold pre_clone; omega, ?_⟩⟩⟩
   have hn : ¬ (24 < a.facts + b.facts ∨ 40 < a.ops.length + b.ops.length) := by omega
   refine prod_loops ha hb hn _ ?_
   unfold sp_product
   rw [if_pos ha, if_pos hb, if_neg hn]
  ·have hne : ¬ ((sp_validate b).code = 0 ∧ (sp_validate b).index = 0) := fun h => hb (by cases hv : sp_validate b; rw [hv] at h; simp at h; simp [h])
   refine ⟨fun _ => ?_, fun q => absurd (by simpa using q) hne⟩
   unfold sp_product noTask
   rw [if_pos ha, if_neg hb]
 ·have hne : ¬ ((sp_validate a).code = 0 ∧ (sp_validate a).index = 0) := fun h => ha (by cases hv : sp_validate a; rw [hv] at h; simp at h; simp [h])
  refine ⟨fun _ => ?_, fun q => absurd (by simpa using q) hne⟩
  unfold sp_product noTask
  rw [if_neg ha]
theorem ok_freeOp : ∀ (x : Operator) (y : Operator), pre_freeOp x y → F_freeOp x y (fun r => r = sp_freeOp x y) := fun x y ⟨⟨⟨a1, a2⟩, ⟨a3, a4⟩, a5, a6⟩, ⟨b1, b2⟩, ⟨b3, b4⟩, b5, b6⟩ => by
 unfold F_freeOp sp_freeOp
 simp only [forall_eq]
 refine ⟨⟨a4, b1, b2⟩, fun h1 => ⟨⟨a6, b1, b2⟩, fun h2 => ⟨⟨a4, b5, b6⟩, ?_⟩, fun h2 => ?_⟩, fun h1 => ?_⟩
 ·rw [h1, h2]; rfl
 ·rw [h1, h2]; rfl
 ·rw [h1]; rfl
theorem ok_indep : ∀ (a : Operator) (b : Operator), pre_indep a b → F_indep a b (fun r => r = sp_indep a b) := fun a b ⟨h1, h2⟩ => by
 unfold F_indep sp_indep
 simp only [forall_eq]
 refine ⟨⟨h1, h2⟩, fun q => ⟨⟨h2, h1⟩, ?_⟩, fun q => ?_⟩
 ·rw [q]; rfl
 ·rw [q]; rfl
theorem ok_missingF : ∀ (s_ : List Int) (want : List Int), pre_missingF s_ want → F_missingF s_ want (fun r => r = sp_missingF s_ want) := fun s f ⟨⟨hs, hl⟩, hw⟩ => by
 refine ⟨fun t => ∃ k : Nat, t = k ∧ k ≤ f.length ∧ ∀ p ∈ f.take k, p ∈ s, fun t => (f.length - t).toNat, ⟨0, rfl, Nat.zero_le _, by simp⟩, ?_⟩
 rintro _ ⟨k, rfl, k1, k2⟩
 have hd : f.take k ++ f.drop k = f := List.take_append_drop k f
 have hnone : (f.take k).find? (fun p => decide (p ∉ s)) = none := List.find?_eq_none.2 fun p hp => by simp [k2 p hp]
 unfold F_missingF_L1
 simp only [decide_eq_true_eq, decide_eq_false_iff_not, forall_eq]
 refine ⟨fun h => ?_, fun h => ?_⟩
 ·have hk : k < f.length := by omega
  rw [w64 (by omega)]
  refine ⟨⟨by omega, h⟩, ⟨hs, hl⟩, fun q => ?_, fun q => ⟨⟨k + 1, by omega, by omega, ?_⟩, by omega⟩⟩
  ·have hn : gt f (k : Int) ∉ s := by simpa [sp_bsearch] using q
   unfold sp_missingF
   rw [show f.find? (fun p => decide (p ∉ s)) = (f.take (k + 1) ++ f.drop (k + 1)).find? (fun p => decide (p ∉ s)) by rw [List.take_append_drop], takeN_gt hk, List.append_assoc, List.find?_append, hnone]
   simp [hn]
  ·have hn : gt f (k : Int) ∈ s := by simpa [sp_bsearch] using q
   intro p hp
   rw [takeN_gt hk] at hp
   rcases List.mem_append.1 hp with g | g
   ·exact k2 p g
   ·rw [List.mem_singleton.1 g]; exact hn
 ·rw [List.take_of_length_le (by omega)] at hnone
  unfold sp_missingF
  rw [hnone]; rfl
theorem ok_wordC : ∀ (s_ : List Int), pre_wordC s_ → F_wordC s_ (fun r => r = sp_wordC s_) := fun s ⟨hl, h0⟩ => by
 refine ⟨fun w t => ∃ k : Nat, t = k ∧ k ≤ s.length ∧ w = sp_wordC (s.take k), fun _ t => (s.length - t).toNat, ⟨0, rfl, Nat.zero_le _, rfl⟩, ?_⟩
 rintro w _ ⟨k, rfl, k1, rfl⟩
 unfold F_wordC_L1
 simp only [decide_eq_true_eq, decide_eq_false_iff_not, forall_eq]
 refine ⟨fun h => ?_, fun h => ?_⟩
 ·have hk : k < s.length := by omega
  rw [w64 (n := (k : Int) + 1) (by omega)]
  refine ⟨⟨by omega, h⟩, h0 _ (gt_memN hk), ⟨k + 1, by omega, by omega, ?_⟩, by omega⟩
  rw [takeN_gt hk, sp_wordC, sp_wordC, List.foldl_append]
  rfl
 ·rw [List.take_of_length_le (by omega)]
theorem path_more {nodes : List Node} (hn : NodesOK nodes) : ∀ (k : Nat) (i : Int), inb nodes i → i < k → ∀ k', k ≤ k' → pathGo nodes k' i = pathGo nodes k i
 | 0, i, hi, h, _, _ => by have := hi.1; omega
 | k + 1, i, hi, h, k', hk => by
  obtain ⟨j, rfl⟩ : ∃ j, k' = j + 1 := ⟨k' - 1, by omega⟩
  rw [pathGo, pathGo]
  by_cases hp : 0 ≤ (gt nodes i).parent
  ·have h1 := hn i.toNat (by have := hi.2; have := hi.1; omega)
   rw [show ((i.toNat : Nat) : Int) = i from Int.toNat_of_nonneg hi.1] at h1
   rw [if_pos hp, if_pos hp, path_more hn k _ ⟨hp, by have := hi.2; omega⟩ (by omega) j (by omega)]
  ·rw [if_neg hp, if_neg hp]
theorem path_len {nodes : List Node} : ∀ (k : Nat) (i : Int), (pathGo nodes k i).length ≤ k
 | 0, _ => Nat.zero_le _
 | k + 1, i => by
  rw [pathGo]
  split
  ·rw [List.length_cons]; have := path_len (nodes := nodes) k (gt nodes i).parent; omega
  ·simp
theorem ok_pathC : ∀ (nodes : List Node) (k : Int), pre_pathC nodes k → F_pathC nodes k (fun r => r = sp_pathC nodes k) := fun nodes k ⟨hl, hk, hn⟩ => by
 refine ⟨fun i out => inb nodes i ∧ out ++ pathGo nodes (i.toNat + 1) i = pathGo nodes nodes.length k ∧ out.length ≤ nodes.length, fun i _ => i.toNat, ⟨hk, ?_, Nat.zero_le _⟩, ?_⟩
 ·rw [List.nil_append]
  exact (path_more hn _ k hk (by omega) _ (by have := hk.1; have := hk.2; omega)).symm
 rintro i out ⟨hi, he, hol⟩
 have h1 := hn i.toNat (by have := hi.2; have := hi.1; omega)
 rw [show ((i.toNat : Nat) : Int) = i from Int.toNat_of_nonneg hi.1] at h1
 unfold F_pathC_L1
 simp only [decide_eq_true_eq, decide_eq_false_iff_not, forall_eq, List.length_append, List.length_singleton]
 refine ⟨hi, fun h => ?_, fun h => ?_⟩
 ·rw [pathGo, if_pos h] at he
  have hlen := congrArg List.length he
  rw [List.length_append, List.length_cons] at hlen
  have := path_len (nodes := nodes) nodes.length k
  refine ⟨⟨by simp only [maxLen]; omega, by omega⟩, ⟨⟨h, by have := hi.2; omega⟩, ?_, by omega⟩, by omega⟩
  rw [← he, List.append_assoc, List.singleton_append, path_more hn ((gt nodes i).parent.toNat + 1) _ ⟨h, by have := hi.2; omega⟩ (by omega) i.toNat (by omega)]
 ·rw [pathGo, if_neg h, List.append_nil] at he
  refine ⟨by unfold pre_reverse; omega, ?_⟩
  rw [he]; rfl
theorem ok_qlen : ∀ (m : List (Int × Int)), F_qlen m (fun r => po_qlen m r) := fun m hp fo ar _ hq => by
 refine ⟨m, hq, ?_⟩
 unfold po_qlen
 rw [hq.len]
end Go.Proofs.YtimillpakjgnoaaGreat.Pl

namespace Go.Proofs.YtimillpakjgnoaaGreat.Pl
open Go Go.RowKit
theorem gt_some {α : Type} [Inhabited α] {l : List α} {i : Int} {x : α} (h : l[i.toNat]? = some x) : gt l i = x := by
 unfold gt
 rw [List.getD_eq_getElem?_getD, h]; rfl
theorem setP_self {ar : Addr → Option QEnt} {p : Addr} {e : QEnt} : setP ar (some p) e p = some e := by unfold setP; rw [if_pos rfl]
theorem setP_ne {ar : Addr → Option QEnt} {p q : Addr} {e : QEnt} (h : p ≠ q) : setP ar (some p) e q = ar q := by unfold setP; rw [if_neg (fun x => h (Option.some.inj x))]
theorem arv_some {ar : Addr → Option QEnt} {p : Addr} {e : QEnt} (h : ar p = some e) : arv ar (some p) = e := by simp [arv, h]
theorem delA_keys {β : Type} (l : List (Int × β)) (k : Int) : ((delA l k).map (·.1)).Sublist (l.map (·.1)) := by
 induction l with
 | nil => exact List.Sublist.refl _
 | cons p r ih =>
  simp only [delA]
  split
  ·exact List.sublist_cons_self _ _
  ·exact ih.cons_cons _
theorem getA_delA_self {β : Type} {l : List (Int × β)} {k : Int} (h : (l.map (·.1)).Nodup) : getA (delA l k) k = none := by
 induction l with
 | nil => rfl
 | cons p r ih =>
  rw [List.map_cons, List.nodup_cons] at h
  simp only [delA]
  by_cases hp : p.1 = k
  ·rw [if_pos hp]; rw [hp] at h; exact getA_none.2 h.1
  ·rw [if_neg hp]; simp only [getA]; rw [if_neg hp]; exact ih h.2
theorem delA_len {β : Type} {l : List (Int × β)} {k : Int} {v : β} (h : getA l k = some v) : (delA l k).length + 1 = l.length := by
 induction l with
 | nil => cases h
 | cons p r ih =>
  simp only [getA] at h
  simp only [delA]
  split at h
  ·rename_i hp; rw [if_pos hp, List.length_cons]
  ·rename_i hp; rw [if_neg hp, List.length_cons, List.length_cons, ih h]
section
variable {m : List (Int × Int)} {l : List (Option Addr)} {fo : List (Int × Option Addr)} {ar : Addr → Option QEnt}
theorem QInv.get (h : QInv m l fo ar) {i : Int} (hi : inb l i) : ∃ p e, l[i.toNat]? = some (some p) ∧ gt l i = some p ∧ ar p = some e ∧ e.at_ = i ∧ getA fo e.item = some (some p) := by
 obtain ⟨p, e, h1, h2, h3, h4⟩ := h.at_ i.toNat (by have := hi.1; have := hi.2; omega)
 exact ⟨p, e, h1, gt_some h1, h2, by rw [h3]; exact Int.toNat_of_nonneg hi.1, h4⟩
theorem QInv.inA (h : QInv m l fo ar) {i : Int} (hi : inb l i) : Pl.inA ar (gt l i) := by
 obtain ⟨p, e, _, h1, h2, _⟩ := h.get hi
 exact ⟨p, e, h1, h2⟩
theorem QInv.inj (h : QInv m l fo ar) {i j : Nat} {p : Addr} (hi : l[i]? = some (some p)) (hj : l[j]? = some (some p)) : i = j := by
 obtain ⟨p1, e1, a1, a2, a3, _⟩ := h.at_ i (List.getElem?_eq_some_iff.1 hi).1
 obtain ⟨p2, e2, b1, b2, b3, _⟩ := h.at_ j (List.getElem?_eq_some_iff.1 hj).1
 rw [hi] at a1; rw [hj] at b1
 obtain rfl : p = p1 := Option.some.inj (Option.some.inj a1)
 obtain rfl : p = p2 := Option.some.inj (Option.some.inj b1)
 rw [a2] at b2
 obtain rfl := Option.some.inj b2
 omega
theorem QInv.perm (h : QInv m l fo ar) {l' : List (Option Addr)} {ar' : Addr → Option QEnt} (hl : l'.length = l.length) (hm : ∀ p, (∃ i : Nat, l[i]? = some (some p)) → ∃ i : Nat, l'[i]? = some (some p))
  (hat : ∀ i : Nat, i < l'.length → ∃ p e, l'[i]? = some (some p) ∧ (∃ j : Nat, l[j]? = some (some p)) ∧ ar p = some e ∧ ar' p = some { e with at_ := (i : Int) }) : QInv m l' fo ar' := by
 have key : ∀ p, (∃ i : Nat, l[i]? = some (some p)) → ∃ e e', ar p = some e ∧ ar' p = some e' ∧ e'.item = e.item ∧ e'.key = e.key := fun p hp => by
  obtain ⟨i, hi⟩ := hm p hp
  obtain ⟨q, e, h1, _, h2, h3⟩ := hat i (List.getElem?_eq_some_iff.1 hi).1
  rw [hi] at h1
  obtain rfl := Option.some.inj (Option.some.inj h1)
  exact ⟨e, _, h2, h3, rfl, rfl⟩
 refine ⟨fun i hi => ?_, fun k x hx => ?_, fun k => ?_, by rw [h.len, hl], h.nod, h.nof⟩
 ·obtain ⟨p, e, h1, ⟨j, h2⟩, h3, h4⟩ := hat i hi
  obtain ⟨p2, e2, a1, a2, _, a4⟩ := h.at_ j (List.getElem?_eq_some_iff.1 h2).1
  rw [h2] at a1
  obtain rfl := Option.some.inj (Option.some.inj a1)
  rw [h3] at a2
  obtain rfl := Option.some.inj a2
  exact ⟨p, _, h1, h4, rfl, a4⟩
 ·obtain ⟨p, e, rfl, h2, h3, h4⟩ := h.fos k x hx
  obtain ⟨e1, e', b1, b2, b3, _⟩ := key p h4
  rw [h2] at b1
  obtain rfl := Option.some.inj b1
  exact ⟨p, e', rfl, b2, b3.trans h3, hm p h4⟩
 ·rw [h.key k]
  cases hx : getA fo k with
  | none => rfl
  | some x =>
   obtain ⟨p, e, rfl, h2, h3, h4⟩ := h.fos k x hx
   obtain ⟨e1, e', b1, b2, _, b4⟩ := key p h4
   rw [h2] at b1
   obtain rfl := Option.some.inj b1
   simp only [Option.map_some, arv_some h2, arv_some b2, b4]
theorem swap_get {α : Type} [Inhabited α] {l : List α} {i j : Int} (hi : inb l i) (hj : inb l j) (k : Nat) : ((l.set i.toNat (gt l j)).set j.toNat (gt l i))[k]? = if k = j.toNat then l[i.toNat]? else if k = i.toNat then l[j.toNat]? else l[k]? := by
 have li : i.toNat < l.length := by have := hi.1; have := hi.2; omega
 have lj : j.toNat < l.length := by have := hj.1; have := hj.2; omega
 have gi : l[i.toNat]? = some (gt l i) := by rw [gt_of hi]; exact List.getElem?_eq_getElem li
 have gj : l[j.toNat]? = some (gt l j) := by rw [gt_of hj]; exact List.getElem?_eq_getElem lj
 by_cases h1 : k = j.toNat
 ·subst h1
  rw [if_pos rfl, List.getElem?_set_self (by rw [List.length_set]; exact lj), gi]
 ·rw [if_neg h1, List.getElem?_set_ne (Ne.symm h1)]
  by_cases h2 : k = i.toNat
  ·subst h2
   rw [if_pos rfl, List.getElem?_set_self li, gj]
  ·rw [if_neg h2, List.getElem?_set_ne (Ne.symm h2)]
theorem QInv.swap (h : QInv m l fo ar) {i j : Int} (hi : inb l i) (hj : inb l j) (P : List (Option Addr) → (Addr → Option QEnt) → Prop) (hP : ∀ d2 ar8, QInv m d2 fo ar8 → d2.length = l.length → P d2 ar8) :
  ∀ d : List (Option Addr), d = l.set i.toNat (gt l j) → inb d j ∧ ∀ d2 : List (Option Addr), d2 = d.set j.toNat (gt l i) → inb d2 i ∧ inb d2 j ∧ Pl.inA ar (gt d2 i) ∧
   ∀ ar7 : Addr → Option QEnt, ar7 = setP ar (gt d2 i) (⟨(arv ar (gt d2 i)).item, (arv ar (gt d2 i)).key, (arv ar (gt d2 i)).time, i⟩ : QEnt) → Pl.inA ar7 (gt d2 j) ∧
   ∀ ar8 : Addr → Option QEnt, ar8 = setP ar7 (gt d2 j) (⟨(arv ar7 (gt d2 j)).item, (arv ar7 (gt d2 j)).key, (arv ar7 (gt d2 j)).time, j⟩ : QEnt) → P d2 ar8 := by
 intro d hd
 have ld : d.length = l.length := by rw [hd, List.length_set]
 refine ⟨⟨hj.1, by rw [ld]; exact hj.2⟩, fun d2 hd2 => ?_⟩
 have ld2 : d2.length = l.length := by rw [hd2, List.length_set, ld]
 have bi : inb d2 i := ⟨hi.1, by rw [ld2]; exact hi.2⟩
 have bj : inb d2 j := ⟨hj.1, by rw [ld2]; exact hj.2⟩
 have i0 := hi.1
 have j0 := hj.1
 have sw : ∀ k : Nat, d2[k]? = if k = j.toNat then l[i.toNat]? else if k = i.toNat then l[j.toNat]? else l[k]? := fun k => by rw [hd2, hd]; exact swap_get hi hj k
 obtain ⟨p, e, p1, p2, p3, p4, p5⟩ := h.get hi
 obtain ⟨q, f, q1, q2, q3, q4, q5⟩ := h.get hj
 have ei : gt d2 i = some q := gt_some (by
  rw [sw]
  by_cases hij : i.toNat = j.toNat
  ·rw [if_pos hij]; rw [hij] at p1; rw [hij, ← q1]
  ·rw [if_neg hij, if_pos rfl]; exact q1)
 have ej : gt d2 j = some p := gt_some (by rw [sw, if_pos rfl]; exact p1)
 rw [ei, ej]
 refine ⟨bi, bj, ⟨q, f, rfl, q3⟩, fun ar7 h7 => ?_⟩
 rw [arv_some q3] at h7
 have a7q : ar7 q = some ⟨f.item, f.key, f.time, i⟩ := by rw [h7]; exact setP_self
 have a7 : ∀ r, r ≠ q → ar7 r = ar r := fun r hr => by rw [h7]; exact setP_ne (Ne.symm hr)
 obtain ⟨e7, h7p, h7i, h7k, h7t⟩ : ∃ e7, ar7 p = some e7 ∧ e7.item = e.item ∧ e7.key = e.key ∧ e7.time = e.time := by
  by_cases hpq : p = q
  ·subst hpq
   rw [p3] at q3
   obtain rfl := Option.some.inj q3
   exact ⟨_, a7q, rfl, rfl, rfl⟩
  ·exact ⟨e, (a7 p hpq).trans p3, rfl, rfl, rfl⟩
 refine ⟨⟨p, e7, rfl, h7p⟩, fun ar8 h8 => ?_⟩
 rw [arv_some h7p] at h8
 have a8p : ar8 p = some ⟨e.item, e.key, e.time, j⟩ := by rw [h8, h7i, h7k, h7t]; exact setP_self
 have a8 : ∀ r, r ≠ p → ar8 r = ar7 r := fun r hr => by rw [h8]; exact setP_ne (Ne.symm hr)
 refine hP d2 ar8 (h.perm ld2 (fun r ⟨k, hk⟩ => ?_) fun k hk => ?_) ld2
 ·by_cases h1 : k = i.toNat
  ·exact ⟨j.toNat, by rw [sw, if_pos rfl, ← h1]; exact hk⟩
  ·by_cases h2 : k = j.toNat
   ·refine ⟨i.toNat, ?_⟩
    rw [sw]
    split
    ·rename_i h3; rw [h2, ← h3] at hk; exact hk
    ·rw [if_pos rfl, ← h2]; exact hk
   ·exact ⟨k, by rw [sw, if_neg h2, if_neg h1]; exact hk⟩
 ·by_cases h2 : k = j.toNat
  ·refine ⟨p, e, by rw [sw, if_pos h2]; exact p1, ⟨_, p1⟩, p3, ?_⟩
   rw [a8p, h2, Int.toNat_of_nonneg j0]
  ·by_cases h1 : k = i.toNat
   ·refine ⟨q, f, by rw [sw, if_neg h2, if_pos h1]; exact q1, ⟨_, q1⟩, q3, ?_⟩
    have hne : q ≠ p := fun hqp => by
     rw [hqp] at q1
     have := h.inj p1 q1
     omega
    rw [a8 q hne, a7q, h1, Int.toNat_of_nonneg i0]
   ·obtain ⟨r, g, r1, r2, r3, _⟩ := h.at_ k (by omega)
    refine ⟨r, g, by rw [sw, if_neg h2, if_neg h1]; exact r1, ⟨k, r1⟩, r2, ?_⟩
    have hrp : r ≠ p := fun e => by rw [e] at r1; exact h1 (h.inj r1 p1)
    have hrq : r ≠ q := fun e => by rw [e] at r1; exact h2 (h.inj r1 q1)
    rw [a8 r hrp, a7 r hrq, r2, ← r3]
theorem QInv.last (h : QInv m l fo ar) (hl : 0 < l.length) : Pl.inA ar (gt l ((l.length : Int) - 1)) ∧ getA m (arv ar (gt l ((l.length : Int) - 1))).item = some (arv ar (gt l ((l.length : Int) - 1))).key ∧
  QInv (delA m (arv ar (gt l ((l.length : Int) - 1))).item) (l.take (l.length - 1)) (delA fo (arv ar (gt l ((l.length : Int) - 1))).item) ar := by
 have hb : inb l ((l.length : Int) - 1) := ⟨by omega, by omega⟩
 obtain ⟨p, e, p1, p2, p3, p4, p5⟩ := h.get hb
 have en : ((l.length : Int) - 1).toNat = l.length - 1 := by omega
 rw [en] at p1
 refine ⟨h.inA hb, ?_⟩
 rw [p2, arv_some p3]
 have hk : getA m e.item = some e.key := by rw [h.key, p5, Option.map_some, arv_some p3]
 refine ⟨hk, fun i hi => ?_, fun k x hx => ?_, fun k => ?_, ?_, (delA_keys m _).nodup h.nod, (delA_keys fo _).nodup h.nof⟩
 ·rw [List.length_take] at hi
  obtain ⟨q, f, q1, q2, q3, q4⟩ := h.at_ i (by omega)
  have hne : e.item ≠ f.item := fun hef => by
   rw [hef] at p5
   rw [q4] at p5
   obtain rfl := Option.some.inj (Option.some.inj p5)
   have := h.inj p1 q1
   omega
  exact ⟨q, f, by rw [List.getElem?_take, if_pos (by omega)]; exact q1, q2, q3, by rw [getA_delA hne]; exact q4⟩
 ·by_cases hke : e.item = k
  ·subst hke
   rw [getA_delA_self h.nof] at hx; cases hx
  ·obtain ⟨q, f, rfl, q2, q3, i, q4⟩ := h.fos k x (by rwa [getA_delA hke] at hx)
   refine ⟨q, f, rfl, q2, q3, i, ?_⟩
   rw [List.getElem?_take, if_pos]
   ·exact q4
   ·have hil := (List.getElem?_eq_some_iff.1 q4).1
    by_cases hi : i = l.length - 1
    ·rw [hi, p1] at q4
     obtain rfl := Option.some.inj (Option.some.inj q4)
     rw [p3] at q2
     obtain rfl := Option.some.inj q2
     exact absurd q3 hke
    ·omega
 ·by_cases hke : e.item = k
  ·subst hke
   rw [getA_delA_self h.nof, getA_delA_self h.nod]; rfl
  ·rw [getA_delA hke, getA_delA hke]; exact h.key k
 ·have := delA_len hk
  rw [List.length_take]
  have := h.len
  omega
end
theorem parent (j : Int) (h0 : 0 ≤ j) (h1 : j ≤ 1000000) : ∃ p, IntKind.i64.wrap (Int.tdiv (IntKind.i64.wrap (j - 1)) 2) = p ∧ 0 ≤ p ∧ p ≤ j ∧ (p ≠ j → p < j) := by
 rw [w64 (n := j - 1) (by omega)]
 by_cases hj : j = 0
 ·subst hj
  exact ⟨0, by decide, by omega, by omega, fun h => absurd rfl h⟩
 ·have e : Int.tdiv (j - 1) 2 = (j - 1) / 2 := Int.tdiv_eq_ediv_of_nonneg (by omega)
  rw [e]
  exact ⟨(j - 1) / 2, w64 (by omega), by omega, by omega, fun _ => by omega⟩
def HpI (m : List (Int × Int)) (fo : List (Int × Option Addr)) (N : Nat) : Int → (Addr → Option QEnt) → List (Option Addr) → Prop := fun i ar l => QInv m l fo ar ∧ l.length = N ∧ 0 ≤ i ∧ i < N
def HpD (N : Nat) : Int → (Addr → Option QEnt) → List (Option Addr) → Nat := fun i _ _ => ((N : Int) - i).toNat
def HpU : Int → (Addr → Option QEnt) → List (Option Addr) → Nat := fun j _ _ => j.toNat
section
variable {m : List (Int × Int)} {hp : List (Option Addr)} {fo : List (Int × Option Addr)}
theorem take_J1 {l : List (Option Addr)} {ar : Addr → Option QEnt} (h : QInv m l fo ar) (hl : l.length = hp.length) (h0 : 0 < hp.length) (h1 : hp.length ≤ 1000000) : F_qtake_J1 (fun r => po_qtake m r) hp fo ar l := by
 obtain ⟨a1, a2, a3⟩ := h.last (by omega)
 unfold F_qtake_J1
 rw [w64 (by omega), show ((hp.length : Int) - 1).toNat = l.length - 1 by omega, ← hl]
 refine ⟨⟨by omega, by omega⟩, ⟨by omega, by omega⟩, fun d hd => ⟨a1, fun m3 hm => ⟨delA m (arv ar (gt l ((l.length : Int) - 1))).item, by rw [hd, hm]; exact a3, a2, rfl, rfl⟩⟩⟩
theorem take_J4 {l : List (Option Addr)} {ar : Addr → Option QEnt} {i j : Int} (h : HpI m fo hp.length i ar l) (h1 : hp.length ≤ 1000000) (hij : i < j) (hj : j < hp.length) (t : Bool) : F_qtake_J4 (fun r => po_qtake m r) hp fo t j ar i l (HpI m fo hp.length) (HpD hp.length) := by
 obtain ⟨q1, q2, q3, q4⟩ := h
 unfold F_qtake_J4
 refine ⟨fun _ => take_J1 q1 q2 (by omega) h1, fun _ => ?_⟩
 have bi : inb l i := ⟨q3, by omega⟩
 have bj : inb l j := ⟨by omega, by omega⟩
 refine ⟨bj, bi, q1.swap bi bj (fun d2 ar8 => HpI m fo hp.length j ar8 d2 ∧ HpD hp.length j ar8 d2 < HpD hp.length i ar l) fun d2 ar8 a1 a2 => ⟨⟨a1, by omega, by omega, hj⟩, ?_⟩⟩
 unfold HpD
 omega
theorem take_J2 {l : List (Option Addr)} {ar : Addr → Option QEnt} {i x : Int} (h : HpI m fo hp.length i ar l) (h1 : hp.length ≤ 1000000) (hx : x = 2 * i + 2) (hi : 2 * i + 1 < (hp.length : Int) - 1) (t : Bool) (ht : t = true → x < hp.length) : F_qtake_J2 (fun r => po_qtake m r) hp fo x t ar i l (HpI m fo hp.length) (HpD hp.length) := by
 have key : ∀ j, i < j → j < hp.length → F_qtake_J3 (fun r => po_qtake m r) hp fo j ar i l (HpI m fo hp.length) (HpD hp.length) := fun j a b => by
  obtain ⟨q1, q2, q3, q4⟩ := h
  have bi : inb l i := ⟨q3, by omega⟩
  have bj : inb l j := ⟨by omega, by omega⟩
  unfold F_qtake_J3
  exact ⟨bj, q1.inA bj, bi, q1.inA bi, fun _ => take_J4 ⟨q1, q2, q3, q4⟩ h1 a b _, fun _ => ⟨fun _ _ _ => take_J4 ⟨q1, q2, q3, q4⟩ h1 a b _, fun _ => take_J4 ⟨q1, q2, q3, q4⟩ h1 a b _⟩⟩
 unfold F_qtake_J2
 have h3 := h.2.2.1
 have h4 := h.2.2.2
 rw [w64 (n := 2 * i) (by omega), w64 (by omega)]
 exact ⟨fun e => key x (by omega) (ht e), fun _ => key _ (by omega) (by omega)⟩
theorem ok_qtake : ∀ (m : List (Int × Int)), pre_qtake m → F_qtake m (fun r => po_qtake m r) := fun m ⟨hne, hlen⟩ hp fo ar _ hq => by
 have h0 : 0 < hp.length := by
  rw [← hq.len]
  cases m with
  | nil => exact absurd rfl hne
  | cons p r => simp
 have h1 : hp.length ≤ 1000000 := by rw [← hq.len]; omega
 refine ⟨fun q => absurd (of_decide_eq_true q) (by omega), fun _ => ?_⟩
 rw [w64 (by omega)]
 have b0 : inb hp (0 : Int) := ⟨by omega, by omega⟩
 have bn : inb hp ((hp.length : Int) - 1) := ⟨by omega, by omega⟩
 refine ⟨bn, b0, hq.swap b0 bn (fun d2 ar3 => ∃ (I1 : Int → (Addr → Option QEnt) → (List (Option Addr)) → Prop) (μ1 : Int → (Addr → Option QEnt) → (List (Option Addr)) → Nat), I1 0 ar3 d2 ∧ ∀ (i2 : Int) (ar5 : Addr → Option QEnt) (l2 : List (Option Addr)), I1 i2 ar5 l2 → F_qtake_L1 (fun r => po_qtake m r) hp fo ar5 i2 l2 I1 μ1) fun d2 ar3 a1 a2 => ⟨HpI m fo hp.length, HpD hp.length, ⟨a1, a2, by omega, by omega⟩, fun i ar l h => ?_⟩⟩
 have hh := h
 obtain ⟨q1, q2, q3, q4⟩ := hh
 unfold F_qtake_L1 F_qtake_J5
 rw [w64 (n := (hp.length : Int) - 1) (by omega), w64 (n := 2 * i) (by omega), w64 (n := 2 * i + 1) (by omega), w64 (n := 2 * i + 1 + 1) (by omega)]
 simp only [decide_eq_true_eq, decide_eq_false_iff_not, forall_eq]
 refine ⟨fun _ => take_J1 q1 q2 h0 h1, fun a => ⟨fun _ => take_J1 q1 q2 h0 h1, fun _ => ⟨fun c => ?_, fun c => take_J2 h h1 (by omega) (by omega) _ (fun e => by cases e)⟩⟩⟩
 have b1 : inb l (2 * i + 1 + 1) := ⟨by omega, by omega⟩
 have b2 : inb l (2 * i + 1) := ⟨by omega, by omega⟩
 exact ⟨b1, q1.inA b1, b2, q1.inA b2, fun _ => take_J2 h h1 (by omega) (by omega) _ (fun _ => by omega), fun _ => ⟨fun _ => take_J2 h h1 (by omega) (by omega) _ (fun _ => by omega), fun _ => take_J2 h h1 (by omega) (by omega) _ (fun _ => by omega)⟩⟩
end
end Go.Proofs.YtimillpakjgnoaaGreat.Pl

namespace Go.Proofs.YtimillpakjgnoaaGreat.Pl
open Go Go.RowKit
section
variable {m M : List (Int × Int)} {fo : List (Int × Option Addr)} {item key : Int} {N : Nat}
theorem set_J2 {l : List (Option Addr)} {ar : Addr → Option QEnt} {j p : Int} (h : HpI M fo N j ar l) (hM : M = setA m item key) (hp : IntKind.i64.wrap (Int.tdiv (IntKind.i64.wrap (j - 1)) 2) = p) (h0 : 0 ≤ p) (h1 : p < j) (t : Bool) : F_qset_J2 (fun r => po_qset m item key r) fo t j ar l (HpI M fo N) HpU := by
 obtain ⟨q1, q2, q3, q4⟩ := h
 unfold F_qset_J2
 rw [hp]
 have bp : inb l p := ⟨h0, by omega⟩
 have bj : inb l j := ⟨q3, by omega⟩
 refine ⟨fun _ => ⟨M, q1, hM⟩, fun _ => ⟨bj, bp, q1.swap bp bj (fun d2 ar8 => HpI M fo N p ar8 d2 ∧ HpU p ar8 d2 < HpU j ar l) fun d2 ar8 a1 a2 => ⟨⟨a1, by omega, h0, by omega⟩, ?_⟩⟩⟩
 unfold HpU
 omega
theorem set_L1 {l : List (Option Addr)} {ar : Addr → Option QEnt} {j : Int} (h : HpI M fo N j ar l) (hM : M = setA m item key) (hN : N ≤ 1000000) : F_qset_L1 (fun r => po_qset m item key r) fo j ar l (HpI M fo N) HpU := by
 have hh := h
 obtain ⟨q1, q2, q3, q4⟩ := hh
 obtain ⟨p, hp, h0, h1, h2⟩ := parent j q3 (by omega)
 unfold F_qset_L1
 rw [hp]
 simp only [beq_iff_eq, beq_eq_false_iff_ne, forall_eq]
 refine ⟨fun _ => ⟨M, q1, hM⟩, fun hne => ?_⟩
 have bp : inb l p := ⟨h0, by omega⟩
 have bj : inb l j := ⟨q3, by omega⟩
 have key : ∀ t, F_qset_J2 (fun r => po_qset m item key r) fo t j ar l (HpI M fo N) HpU := set_J2 h hM hp h0 (h2 hne)
 exact ⟨bj, q1.inA bj, bp, q1.inA bp, fun _ => key _, fun _ => ⟨fun _ => key _, fun _ => key _⟩⟩
theorem set_J7 {l : List (Option Addr)} {ar : Addr → Option QEnt} {j p : Int} (h : HpI M fo N j ar l) (hM : M = setA m item key) (hp : IntKind.i64.wrap (Int.tdiv (IntKind.i64.wrap (j - 1)) 2) = p) (h0 : 0 ≤ p) (h1 : p < j) (t : Bool) : F_qset_J7 (fun r => po_qset m item key r) fo t ar j l (HpI M fo N) HpU := by
 obtain ⟨q1, q2, q3, q4⟩ := h
 unfold F_qset_J7
 rw [hp]
 have bp : inb l p := ⟨h0, by omega⟩
 have bj : inb l j := ⟨q3, by omega⟩
 refine ⟨fun _ => ⟨M, q1, hM⟩, fun _ => ⟨bj, bp, q1.swap bp bj (fun d2 ar8 => HpI M fo N p ar8 d2 ∧ HpU p ar8 d2 < HpU j ar l) fun d2 ar8 a1 a2 => ⟨⟨a1, by omega, h0, by omega⟩, ?_⟩⟩⟩
 unfold HpU
 omega
theorem set_L3 {l : List (Option Addr)} {ar : Addr → Option QEnt} {j : Int} (h : HpI M fo N j ar l) (hM : M = setA m item key) (hN : N ≤ 1000000) : F_qset_L3 (fun r => po_qset m item key r) fo ar j l (HpI M fo N) HpU := by
 have hh := h
 obtain ⟨q1, q2, q3, q4⟩ := hh
 obtain ⟨p, hp, h0, h1, h2⟩ := parent j q3 (by omega)
 unfold F_qset_L3
 rw [hp]
 simp only [beq_iff_eq, beq_eq_false_iff_ne, forall_eq]
 refine ⟨fun _ => ⟨M, q1, hM⟩, fun hne => ?_⟩
 have bp : inb l p := ⟨h0, by omega⟩
 have bj : inb l j := ⟨q3, by omega⟩
 have key : ∀ t, F_qset_J7 (fun r => po_qset m item key r) fo t ar j l (HpI M fo N) HpU := set_J7 h hM hp h0 (h2 hne)
 exact ⟨bj, q1.inA bj, bp, q1.inA bp, fun _ => key _, fun _ => ⟨fun _ => key _, fun _ => key _⟩⟩
variable {ar3 : Addr → Option QEnt}
theorem set_J1 {l : List (Option Addr)} {ar : Addr → Option QEnt} (h : QInv M l fo ar) (hl : l.length = N) (hM : M = setA m item key) (hN : N ≤ 1000000) (ha : 0 ≤ (arv ar3 ((getA fo item).getD (none : Option Addr))).at_ ∧ (arv ar3 ((getA fo item).getD (none : Option Addr))).at_ < N) (i : Int) : F_qset_J1 item (fun r => po_qset m item key r) fo ar3 ar i l := by
 unfold F_qset_J1
 simp only [forall_eq]
 exact ⟨fun _ => ⟨HpI M fo N, HpU, ⟨h, hl, ha.1, ha.2⟩, fun j ar5 l2 h5 => set_L1 h5 hM hN⟩, fun _ => ⟨M, h, hM⟩⟩
theorem set_J5 {l : List (Option Addr)} {ar : Addr → Option QEnt} {i j : Int} (h : HpI M fo N i ar l) (hM : M = setA m item key) (hN : N ≤ 1000000) (ha : 0 ≤ (arv ar3 ((getA fo item).getD (none : Option Addr))).at_ ∧ (arv ar3 ((getA fo item).getD (none : Option Addr))).at_ < N) (hij : i < j) (hj : j < N) (t : Bool) : F_qset_J5 item (fun r => po_qset m item key r) fo ar3 t i j ar l (HpI M fo N) (HpD N) := by
 obtain ⟨q1, q2, q3, q4⟩ := h
 unfold F_qset_J5
 have bi : inb l i := ⟨q3, by omega⟩
 have bj : inb l j := ⟨by omega, by omega⟩
 refine ⟨fun _ => set_J1 q1 q2 hM hN ha i, fun _ => ⟨bj, bi, q1.swap bi bj (fun d2 ar8 => HpI M fo N j ar8 d2 ∧ HpD N j ar8 d2 < HpD N i ar l) fun d2 ar8 a1 a2 => ⟨⟨a1, by omega, by omega, hj⟩, ?_⟩⟩⟩
 unfold HpD
 omega
theorem set_J3 {l : List (Option Addr)} {ar : Addr → Option QEnt} {i x : Int} (h : HpI M fo N i ar l) (hM : M = setA m item key) (hN : N ≤ 1000000) (ha : 0 ≤ (arv ar3 ((getA fo item).getD (none : Option Addr))).at_ ∧ (arv ar3 ((getA fo item).getD (none : Option Addr))).at_ < N) (hx : x = 2 * i + 2) (hi : 2 * i + 1 < (N : Int)) (t : Bool) (ht : t = true → x < N) : F_qset_J3 item (fun r => po_qset m item key r) fo ar3 t x i ar l (HpI M fo N) (HpD N) := by
 have key : ∀ j, i < j → j < N → F_qset_J4 item (fun r => po_qset m item key r) fo ar3 i j ar l (HpI M fo N) (HpD N) := fun j a b => by
  have hh := h
  obtain ⟨q1, q2, q3, q4⟩ := hh
  have bi : inb l i := ⟨q3, by omega⟩
  have bj : inb l j := ⟨by omega, by omega⟩
  unfold F_qset_J4
  exact ⟨bj, q1.inA bj, bi, q1.inA bi, fun _ => set_J5 h hM hN ha a b _, fun _ => ⟨fun _ _ _ => set_J5 h hM hN ha a b _, fun _ => set_J5 h hM hN ha a b _⟩⟩
 have h3 := h.2.2.1
 have h4 := h.2.2.2
 unfold F_qset_J3
 rw [w64 (n := 2 * i) (by omega), w64 (by omega)]
 exact ⟨fun e => key x (by omega) (ht e), fun _ => key _ (by omega) (by omega)⟩
end
theorem QInv.rekey {m : List (Int × Int)} {hp : List (Option Addr)} {fo : List (Int × Option Addr)} {ar : Addr → Option QEnt} (h : QInv m hp fo ar) {item key tm : Int} {p : Addr} {e : QEnt} (hf : getA fo item = some (some p)) (he : ar p = some e) (hi : e.item = item) {ar' : Addr → Option QEnt} (h1 : ar' p = some ⟨e.item, key, tm, e.at_⟩) (h2 : ∀ q, q ≠ p → ar' q = ar q) : QInv (setA m item key) hp fo ar' := by
 have hm : getA m item ≠ none := by rw [h.key, hf]; simp
 have look : ∀ q f, ar q = some f → ∃ f', ar' q = some f' ∧ f'.item = f.item ∧ f'.at_ = f.at_ := fun q f hq => by
  by_cases hqp : q = p
  ·subst hqp
   rw [he] at hq
   obtain rfl := Option.some.inj hq
   exact ⟨_, h1, rfl, rfl⟩
  ·exact ⟨f, (h2 q hqp).trans hq, rfl, rfl⟩
 have hlen : (setA m item key).length = m.length := by
  have := congrArg List.length (setA_keys (v := key) hm)
  simpa using this
 refine ⟨fun i hi2 => ?_, fun k x hx => ?_, fun k => ?_, by rw [hlen, h.len], by rw [setA_keys hm]; exact h.nod, h.nof⟩
 ·obtain ⟨q, f, a1, a2, a3, a4⟩ := h.at_ i hi2
  obtain ⟨f', b1, b2, b3⟩ := look q f a2
  exact ⟨q, f', a1, b1, b3.trans a3, by rw [b2]; exact a4⟩
 ·obtain ⟨q, f, a1, a2, a3, a4⟩ := h.fos k x hx
  obtain ⟨f', b1, b2, b3⟩ := look q f a2
  exact ⟨q, f', a1, b1, b2.trans a3, a4⟩
 ·rw [getA_setA]
  by_cases hk : item = k
  ·subst hk
   rw [if_pos rfl, hf, Option.map_some, arv_some h1]
  ·rw [if_neg hk, h.key k]
   cases hx : getA fo k with
   | none => rfl
   | some x =>
    obtain ⟨q, f, rfl, a2, a3, a4⟩ := h.fos k x hx
    have hqp : q ≠ p := fun e2 => by
     subst e2
     rw [he] at a2
     obtain rfl := Option.some.inj a2
     exact hk (hi.symm.trans a3)
    rw [Option.map_some, Option.map_some, arv_some a2, arv_some ((h2 q hqp).trans a2)]
theorem QInv.new {m : List (Int × Int)} {hp : List (Option Addr)} {fo : List (Int × Option Addr)} {ar : Addr → Option QEnt} (h : QInv m hp fo ar) {item key tm : Int} {p : Addr} (hf : getA fo item = none) (hn : ar p = none) {ar' : Addr → Option QEnt} (h1 : ar' p = some ⟨item, key, tm, (hp.length : Int)⟩) (h2 : ∀ q, q ≠ p → ar' q = ar q) : QInv (setA m item key) (hp ++ [some p]) (setA fo item (some p)) ar' := by
 have hm : getA m item = none := by rw [h.key, hf]; rfl
 have old : ∀ q f, ar q = some f → ar' q = some f := fun q f hq => by
  have hqp : q ≠ p := fun e => by rw [e, hn] at hq; cases hq
  exact (h2 q hqp).trans hq
 refine ⟨fun i hi => ?_, fun k x hx => ?_, fun k => ?_, ?_, ?_, ?_⟩
 ·rw [List.length_append, List.length_singleton] at hi
  by_cases hl : i < hp.length
  ·obtain ⟨q, f, a1, a2, a3, a4⟩ := h.at_ i hl
   refine ⟨q, f, by rw [List.getElem?_append_left hl]; exact a1, old q f a2, a3, ?_⟩
   rw [getA_setA, if_neg (fun e => by rw [e, a4] at hf; cases hf)]
   exact a4
  ·have hil : i = hp.length := by omega
   subst hil
   exact ⟨p, _, by simp, h1, rfl, by rw [getA_setA, if_pos rfl]⟩
 ·rw [getA_setA] at hx
  split at hx
  ·rename_i hk
   obtain rfl := Option.some.inj hx
   exact ⟨p, _, rfl, h1, hk, hp.length, by simp⟩
  ·obtain ⟨q, f, a1, a2, a3, i, a4⟩ := h.fos k x hx
   exact ⟨q, f, a1, old q f a2, a3, i, by rw [List.getElem?_append_left (List.getElem?_eq_some_iff.1 a4).1]; exact a4⟩
 ·rw [getA_setA, getA_setA]
  by_cases hk : item = k
  ·rw [if_pos hk, if_pos hk, Option.map_some, arv_some h1]
  ·rw [if_neg hk, if_neg hk, h.key k]
   cases hx : getA fo k with
   | none => rfl
   | some x =>
    obtain ⟨q, f, rfl, a2, _⟩ := h.fos k x hx
    rw [Option.map_some, Option.map_some, arv_some a2, arv_some (old q f a2)]
 ·rw [setA_new hm, List.length_append, List.length_append, h.len]; rfl
 ·rw [setA_new hm, List.map_append, List.nodup_append]
  refine ⟨h.nod, by simp, fun a ha b hb hab => ?_⟩
  simp at hb
  rw [hab, hb] at ha
  exact getA_none.1 hm ha
 ·rw [setA_new hf, List.map_append, List.nodup_append]
  refine ⟨h.nof, by simp, fun a ha b hb hab => ?_⟩
  simp at hb
  rw [hab, hb] at ha
  exact getA_none.1 hf ha
theorem ok_qset : ∀ (m : List (Int × Int)) (item : Int) (key : Int), pre_qset m item key → F_qset m item key (fun r => po_qset m item key r) := fun m item key hlen hp fo ar tm hq => by
 have hN : hp.length ≤ 1000000 := by rw [← hq.len]; exact Nat.le_trans hlen (by decide)
 refine ⟨fun hs => ?_, fun hs pv hpv ar13 h13 m5 h5 => ?_⟩
 ·obtain ⟨x, hx⟩ := Option.isSome_iff_exists.1 hs
  obtain ⟨p, e, rfl, a2, a3, i0, a4⟩ := hq.fos item x hx
  have gx : (getA fo item).getD (none : Option Addr) = some p := by rw [hx]; rfl
  rw [gx]
  refine ⟨⟨p, e, rfl, a2⟩, fun ar2 h2 => ?_⟩
  rw [arv_some a2] at h2
  have b2 : ar2 p = some ⟨e.item, key, e.time, e.at_⟩ := by rw [h2]; exact setP_self
  refine ⟨⟨p, _, rfl, b2⟩, fun ar3 h3 => ?_⟩
  rw [arv_some b2] at h3
  have b3 : ar3 p = some ⟨e.item, key, IntKind.i64.wrap (tm + 1), e.at_⟩ := by rw [h3]; exact setP_self
  have c3 : ∀ q, q ≠ p → ar3 q = ar q := fun q hqp => by rw [h3, setP_ne (Ne.symm hqp), h2, setP_ne (Ne.symm hqp)]
  have Q := hq.rekey (key := key) hx a2 a3 b3 c3
  refine ⟨⟨p, _, rfl, b3⟩, ?_⟩
  obtain ⟨p9, e9, d1, d2, d3, _⟩ := hq.at_ i0 (List.getElem?_eq_some_iff.1 a4).1
  rw [a4] at d1
  obtain rfl := Option.some.inj (Option.some.inj d1)
  rw [a2] at d2
  obtain rfl := Option.some.inj d2
  have li := (List.getElem?_eq_some_iff.1 a4).1
  have hat : (arv ar3 ((getA fo item).getD (none : Option Addr))).at_ = i0 := by rw [gx, arv_some b3]; exact d3
  have hat2 : (arv ar3 (some p)).at_ = i0 := by rw [arv_some b3]; exact d3
  have ha : 0 ≤ (arv ar3 ((getA fo item).getD (none : Option Addr))).at_ ∧ (arv ar3 ((getA fo item).getD (none : Option Addr))).at_ < hp.length := by rw [hat]; omega
  refine ⟨HpI (setA m item key) fo hp.length, HpD hp.length, ⟨Q, rfl, by rw [hat2]; omega, by rw [hat2]; omega⟩, fun i ar9 l h => ?_⟩
  have hh := h
  obtain ⟨q1, q2, q3, q4⟩ := hh
  unfold F_qset_L2 F_qset_J6
  rw [w64 (n := 2 * i) (by omega), w64 (n := 2 * i + 1) (by omega), w64 (n := 2 * i + 1 + 1) (by omega)]
  simp only [decide_eq_true_eq, decide_eq_false_iff_not, forall_eq]
  refine ⟨fun _ => set_J1 q1 q2 rfl hN ha i, fun a => ⟨fun _ => set_J1 q1 q2 rfl hN ha i, fun _ => ⟨fun c => ?_, fun c => set_J3 h rfl hN ha (by omega) (by omega) _ (fun e => by cases e)⟩⟩⟩
  have v1 : inb l (2 * i + 1 + 1) := ⟨by omega, by omega⟩
  have v2 : inb l (2 * i + 1) := ⟨by omega, by omega⟩
  exact ⟨v1, q1.inA v1, v2, q1.inA v2, fun _ => set_J3 h rfl hN ha (by omega) (by omega) _ (fun _ => by omega), fun _ => ⟨fun _ => set_J3 h rfl hN ha (by omega) (by omega) _ (fun _ => by omega), fun _ => set_J3 h rfl hN ha (by omega) (by omega) _ (fun _ => by omega)⟩⟩
 ·have hf : getA fo item = none := by
   cases h : getA fo item with
   | none => rfl
   | some x => rw [h] at hs; cases hs
  have b13 : ar13 pv = some ⟨item, key, IntKind.i64.wrap (tm + 1), 0⟩ := by rw [h13]; exact setP_self
  refine ⟨⟨pv, _, rfl, b13⟩, fun ar14 h14 => ?_⟩
  rw [arv_some b13] at h14
  have b14 : ar14 pv = some ⟨item, key, IntKind.i64.wrap (tm + 1), (hp.length : Int)⟩ := by rw [h14]; exact setP_self
  have c14 : ∀ q, q ≠ pv → ar14 q = ar q := fun q hqp => by rw [h14, setP_ne (Ne.symm hqp), h13, setP_ne (Ne.symm hqp)]
  have Q := hq.new (key := key) hf hpv b14 c14
  have hl : (hp ++ [some pv]).length = hp.length + 1 := by simp
  have hlen' : hp.length ≤ 100000 := by rw [← hq.len]; exact hlen
  refine ⟨⟨by rw [hl]; simp only [maxLen]; omega, by rw [hl]; omega⟩, fun x12 h12 => ?_⟩
  rw [h5]
  refine ⟨HpI (setA m item key) (setA fo item (some pv)) (hp.length + 1), HpU, ⟨Q, hl, ?_, ?_⟩, fun j ar15 l6 h6 => set_L3 h6 rfl (by omega)⟩
  ·rw [h12, hl, w64 (by omega)]; omega
  ·rw [h12, hl, w64 (by omega)]; omega
end Go.Proofs.YtimillpakjgnoaaGreat.Pl

namespace Go.Proofs.YtimillpakjgnoaaGreat.Pl
open Go Go.RowKit
theorem dfs_out (W : WordsT) : ∀ (k : Nat) (l : List Int) (m : List (Int × Unit)) (out r : List Int), out.length + l.length = m.length → m.length ≤ 2000 → 2001 ≤ k + out.length → (∀ x ∈ m.map (·.1), x ∈ out ∨ x ∈ l) → (∀ s ∈ out, ∀ x ∈ wsucc W s, x.2 ∈ m.map (·.1)) → dfs W k l m out = (r, true) →
  r.length ≤ 2000 ∧ (∀ x ∈ m.map (·.1), x ∈ r) ∧ ∀ n ∈ r, ∀ x ∈ wsucc W n, x.2 ∈ r
 | 0, l, m, out, r, h1, h2, h3, _, _, _ => by omega
 | k + 1, l, m, out, r, h1, h2, h3, h4, h5, he => by
  rw [dfs] at he
  cases hl : l.getLast? with
  | none =>
   have : l = [] := List.getLast?_eq_none_iff.1 hl
   subst this
   simp only [hl] at he
   obtain rfl : out = r := (Prod.mk.inj he).1
   refine ⟨by simp at h1; omega, fun x hx => (h4 x hx).resolve_right (by simp), fun n hn x hx => (h4 _ (h5 n hn x hx)).resolve_right (by simp)⟩
  | some s =>
   simp only [hl] at he
   split at he
   ·cases he
   ·rename_i hb
    obtain ⟨⟨lx, p1, p2⟩, q2, q3, q4, _⟩ := pushW_spec (wsucc W s) (l.dropLast, m)
    have hls : l = l.dropLast ++ [s] := by
     obtain ⟨ys, e⟩ := List.getLast?_eq_some_iff.1 hl
     rw [e]; simp
    have hlen : l.length = l.dropLast.length + 1 := by
     have := congrArg List.length hls
     rwa [List.length_append] at this
    obtain ⟨a1, a2, a3⟩ := dfs_out W k _ _ (out ++ [s]) r (by rw [p1, p2]; simp only [List.length_append, List.length_singleton]; omega) (by omega) (by simp; omega) (fun x hx => by
     rcases q2 x hx with g | g
     ·rcases h4 x g with g | g
      ·exact .inl (List.mem_append_left _ g)
      ·rw [hls] at g
       rcases List.mem_append.1 g with g | g
       ·refine .inr ?_
        rw [p1]; exact List.mem_append_left _ g
       ·exact .inl (List.mem_append_right _ g)
     ·exact .inr g) (fun s' hs' x hx => by
     rcases List.mem_append.1 hs' with g | g
     ·exact q3 _ (h5 s' g x hx)
     ·rw [List.mem_singleton.1 g] at hx
      exact q4 x hx) he
    exact ⟨a1, fun x hx => a2 x (q3 x hx), a3⟩
structure Clo (W : WordsT) (L : List Int) : Prop where
 len : L.length ≤ 2000
 succ : ∀ n ∈ L, ∀ x ∈ wsucc W n, x.2 ∈ L
theorem all_clo {W : WordsT} (h : (sp_all W).2 = true) : Clo W (sp_all W).1 ∧ W.start ∈ (sp_all W).1 := by
 obtain ⟨a1, a2, a3⟩ := dfs_out W 2001 [W.start] [(W.start, ())] [] (sp_all W).1 rfl (by simp) (by simp) (fun x hx => .inr (by simpa using hx)) (fun s hs => by cases hs) (by rw [← h]; rfl)
 exact ⟨⟨a1, a3⟩, a2 _ (by simp)⟩
theorem Clo.perm {W : WordsT} {L L' : List Int} (h : Clo W L) (hp : L'.Perm L) : Clo W L' := ⟨by rw [hp.length_eq]; exact h.len, fun n hn x hx => hp.mem_iff.2 (h.succ n (hp.mem_iff.1 hn) x hx)⟩
def CostOK (W : WordsT) : Prop := ∀ i, inb W.ops i → 0 ≤ (gt W.ops i).cost ∧ (gt W.ops i).cost ≤ 100
inductive WCostN (W : WordsT) : Nat → Int → Int → Prop
 | here (s : Int) : wgoal W s = true → WCostN W 0 s 0
 | step (n : Nat) (s : Int) (x : Int × Int) (c : Int) : x ∈ wsucc W s → WCostN W n x.2 c → WCostN W (n + 1) s ((gt W.ops x.1).cost + c)
theorem WCost.count {W : WordsT} {s c : Int} (h : WCost W s c) : ∃ n, WCostN W n s c := by
 induction h with
 | here s h => exact ⟨0, .here s h⟩
 | step s x c hx _ ih => obtain ⟨n, hn⟩ := ih; exact ⟨n + 1, .step n s x c hx hn⟩
theorem WCostN.cost {W : WordsT} (hc : CostOK W) {n : Nat} {s c : Int} (h : WCostN W n s c) : WCost W s c ∧ 0 ≤ c ∧ c ≤ 100 * n := by
 induction h with
 | here s h => exact ⟨.here s h, by omega, by omega⟩
 | step n s x c hx _ ih =>
  have := hc x.1 (mem_wsucc.1 hx).1
  exact ⟨.step s x c hx ih.1, by omega, by omega⟩
theorem WCost.nonneg {W : WordsT} (hc : CostOK W) {s c : Int} (h : WCost W s c) : 0 ≤ c := by
 obtain ⟨n, hn⟩ := h.count
 exact (hn.cost hc).2.1
theorem way_states {W : WordsT} {L : List Int} (hL : Clo W L) : ∀ (n : Nat) (s : Int), s ∈ L → (∃ c, WCostN W n s c) → (∀ k, k < n → ¬ ∃ c, WCostN W k s c) → ∃ l : List Int, l.Nodup ∧ l.length = n + 1 ∧ (∀ x ∈ l, x ∈ L) ∧ ∀ x ∈ l, ∃ k c, k ≤ n ∧ WCostN W k x c
 | 0, s, hs, ⟨c, hc⟩, _ => ⟨[s], by simp, rfl, fun x hx => by rw [List.mem_singleton.1 hx]; exact hs, fun x hx => ⟨0, c, Nat.le_refl _, by rw [List.mem_singleton.1 hx]; exact hc⟩⟩
 | n + 1, s, hs, ⟨c, hc⟩, hmin => by
  cases hc with
  | step _ _ x c hx hn =>
   obtain ⟨l, l1, l2, l3, l4⟩ := way_states hL n x.2 (hL.succ s hs x hx) ⟨c, hn⟩ (fun k hk ⟨d, hd⟩ => hmin (k + 1) (by omega) ⟨_, .step k s x d hx hd⟩)
   refine ⟨s :: l, List.nodup_cons.2 ⟨fun hsl => ?_, l1⟩, by rw [List.length_cons, l2], fun y hy => ?_, fun y hy => ?_⟩
   ·obtain ⟨k, d, hk, hd⟩ := l4 s hsl
    exact hmin k (by omega) ⟨d, hd⟩
   ·rcases List.mem_cons.1 hy with rfl | hy
    ·exact hs
    ·exact l3 y hy
   ·rcases List.mem_cons.1 hy with rfl | hy
    ·exact ⟨n + 1, _, Nat.le_refl _, .step n _ x c hx hn⟩
    ·obtain ⟨k, d, hk, hd⟩ := l4 y hy
     exact ⟨k, d, by omega, hd⟩
theorem cheap_plan {W : WordsT} {L : List Int} (hL : Clo W L) (hc : CostOK W) {s c : Int} (hs : s ∈ L) (h : WCost W s c) : ∃ c', WCost W s c' ∧ 0 ≤ c' ∧ c' ≤ 200000 := by
 obtain ⟨n, hn⟩ := h.count
 obtain ⟨k, ⟨d, hd⟩, hk⟩ := least (p := fun k => ∃ c, WCostN W k s c) ⟨n, c, hn⟩
 obtain ⟨l, l1, l2, l3, _⟩ := way_states hL k s hs ⟨d, hd⟩ (fun j hj hex => by have := hk j hex; omega)
 have := nodup_sub_len l L l1 l3
 have hl := hL.len
 obtain ⟨a1, a2, a3⟩ := hd.cost hc
 exact ⟨d, a1, a2, by omega⟩
theorem leastC_eq {P : Int → Prop} {d : Int} (h : P d) (hm : ∀ c, P c → d ≤ c) : leastC P = d := by
 unfold leastC
 have hex : ∃ c, P c ∧ ∀ d, P d → c ≤ d := ⟨d, h, hm⟩
 rw [dif_pos hex]
 obtain ⟨a1, a2⟩ := Classical.choose_spec hex
 have := a2 d h
 have := hm _ a1
 omega
theorem leastC_none {P : Int → Prop} (h : ∀ c, ¬ P c) : leastC P = 1000000000 := by
 unfold leastC
 rw [dif_neg fun ⟨c, hc, _⟩ => h c hc]
theorem least_of {W : WordsT} {L : List Int} (hL : Clo W L) (hc : CostOK W) {d : Int → Int} (rng : ∀ s ∈ L, d s ≤ 1000000000) (snd : ∀ s ∈ L, d s = 1000000000 ∨ WCost W s (d s)) (goal : ∀ s ∈ L, wgoal W s = true → d s ≤ 0)
  (cmp : ∀ s ∈ L, ∀ x ∈ wsucc W s, d x.2 < 1000000000 → d s ≤ d x.2 + (gt W.ops x.1).cost) {s : Int} (hs : s ∈ L) : d s = leastC (WCost W s) := by
 have low : ∀ s c, WCost W s c → s ∈ L → d s ≤ c := fun s c h => by
  induction h with
  | here s h => exact fun hs => goal s hs h
  | step s x c hx hw ih =>
   intro hs
   have := ih (hL.succ s hs x hx)
   have := hc x.1 (mem_wsucc.1 hx).1
   by_cases hd : d x.2 < 1000000000
   ·have := cmp s hs x hx hd; omega
   ·have := rng s hs; omega
 rcases snd s hs with h | h
 ·rw [h, leastC_none]
  intro c hcs
  obtain ⟨c', h1, h2, h3⟩ := cheap_plan hL hc hs hcs
  have := low s c' h1 hs
  omega
 ·exact (leastC_eq h fun c hcs => low s c hcs hs).symm
theorem set_pre_word {t : Task} (tk : TaskOK t) {s : List Int} (hs : sp_isSet s t.facts = true) : pre_word s := by
 have := set_len tk.facts.1 hs
 have := tk.facts.2
 exact ⟨by omega, fun p hp => (set_rng hs p hp).1⟩
theorem set_word {t : Task} (tk : TaskOK t) {s : List Int} (hs : sp_isSet s t.facts = true) : Wd (sp_word s) (fun p => p ∈ s) :=
 Wd.word s fun p hp => by
  have := set_rng hs p hp
  have := tk.facts.2
  omega
theorem gt_mapA {α β : Type} [Inhabited α] [Inhabited β] {xs : List α} {i : Int} (f : α → β) (h : inb xs i) : gt (xs.map f) i = f (gt xs i) := by
 rw [gt_of (xs := xs.map f) ⟨h.1, by rw [List.length_map]; exact h.2⟩, gt_of h, List.getElem_map]
theorem gt_words {t : Task} {o : Int} (ho : inb t.ops o) : gt (wordsOf t).ops o = maskOf (gt t.ops o) := gt_mapA maskOf ho
theorem words_cost {t : Task} (tk : TaskOK t) : CostOK (wordsOf t) := fun i hi => by
 have h2 : inb t.ops i := ⟨hi.1, by have := hi.2; rwa [show (wordsOf t).ops.length = t.ops.length from List.length_map _] at this⟩
 rw [gt_words h2]
 have h3 := tk.ops i.toNat (by have := h2.1; have := h2.2; omega)
 rw [show ((i.toNat : Nat) : Int) = i from Int.toNat_of_nonneg h2.1] at h3
 show 0 ≤ (gt t.ops i).cost ∧ (gt t.ops i).cost ≤ 100
 unfold sp_operator at h3
 repeat' split at h3
 all_goals first | omega | (simp at h3)
end Go.Proofs.YtimillpakjgnoaaGreat.Pl

