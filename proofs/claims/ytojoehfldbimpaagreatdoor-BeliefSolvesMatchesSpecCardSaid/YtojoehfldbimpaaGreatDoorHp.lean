/- Small facts on lists, indices and faults. Plain Lean. No condition. -/
import Derived.Test.YtojoehfldbimpaaGreatDoorDt
namespace Go.Proofs.YtojoehfldbimpaaGreatDoor.Pl
open Go Go.RowKit
theorem w64 {n : Int} (h : -9223372036854775808 ≤ n ∧ n ≤ 9223372036854775807) : IntKind.i64.wrap n = n := by rw [IntKind.wrap_i64]; omega
theorem gt_of {α : Type} [Inhabited α] {xs : List α} {i : Int} (h : inb xs i) : gt xs i = xs[i.toNat]'(inb_lt h) := by
  have := inb_lt h
  simp [gt, this]
theorem drop_gt {α : Type} [Inhabited α] {xs : List α} {i : Int} (h : inb xs i) : xs.drop i.toNat = gt xs i :: xs.drop (i + 1).toNat := by
  have h1 := inb_lt h
  have h2 : (i + 1).toNat = i.toNat + 1 := by have := h.1; omega
  rw [gt_of h, h2, List.drop_eq_getElem_cons h1]
theorem gt_mem {α : Type} [Inhabited α] {xs : List α} {i : Int} (h : inb xs i) : gt xs i ∈ xs := by rw [gt_of h]; exact List.getElem_mem _
theorem take_gt {α : Type} [Inhabited α] {xs : List α} {i : Int} (h : inb xs i) : xs.take (i + 1).toNat = xs.take i.toNat ++ [gt xs i] := by
  have h1 := inb_lt h
  have h2 : (i + 1).toNat = i.toNat + 1 := by have := h.1; omega
  rw [gt_of h, h2, List.take_succ_eq_append_getElem h1]
theorem gt_memN {α : Type} [Inhabited α] {xs : List α} {i : Nat} (h : i < xs.length) : gt xs (i : Int) ∈ xs := gt_mem ⟨by omega, by omega⟩
theorem mem_gt {α : Type} [Inhabited α] {xs : List α} {x : α} (h : x ∈ xs) : ∃ i : Nat, i < xs.length ∧ gt xs (i : Int) = x := by
  obtain ⟨i, hi, e⟩ := List.mem_iff_getElem.1 h
  exact ⟨i, hi, by rw [gt_of ⟨by omega, by omega⟩]; simpa using e⟩
theorem takeN_gt {α : Type} [Inhabited α] {xs : List α} {k : Nat} (h : k < xs.length) : xs.take (k + 1) = xs.take k ++ [gt xs k] := by
  have := take_gt (xs := xs) (i := (k : Int)) ⟨by omega, by omega⟩
  simpa using this
theorem gt_set {α : Type} [Inhabited α] {xs : List α} {i : Int} {x : α} (h : inb xs i) : gt (xs.set i.toNat x) i = x := by
  have := inb_lt h
  simp [gt, this]
theorem gt_setI {α : Type} [Inhabited α] {xs : List α} {i j : Int} {x : α} (hi : inb xs i) (hj : 0 ≤ j) : gt (xs.set i.toNat x) j = if j = i then x else gt xs j := by
  by_cases e : j = i
  · subst e; rw [if_pos rfl, gt_set hi]
  · rw [if_neg e]
    have h1 := hi.1
    unfold gt
    rw [List.getD_eq_getElem?_getD, List.getD_eq_getElem?_getD, List.getElem?_set_ne (by omega)]
theorem ext_gt {a b : List Int} (hl : a.length = b.length) (h : ∀ i : Nat, i < a.length → gt a (i : Int) = gt b (i : Int)) : a = b := by
  refine List.ext_getElem hl fun i h1 h2 => ?_
  have := h i h1
  rw [gt_of ⟨by omega, by omega⟩, gt_of ⟨by omega, by omega⟩] at this
  simpa using this
theorem any_split {α : Type} [Inhabited α] {xs : List α} {p : α → Bool} {t : Int} (h0 : 0 ≤ t) (hp : ∀ x ∈ xs.take t.toNat, p x = false) : (t < xs.length → p (gt xs t) = true → (if xs.any p then (xs.findIdx p : Int) else -1) = t) ∧ (¬ t < xs.length → (if xs.any p then (xs.findIdx p : Int) else -1) = -1) := by
  refine ⟨fun h hq => ?_, fun h => ?_⟩
  · have hi : inb xs t := ⟨h0, h⟩
    have ha : xs.any p = true := List.any_eq_true.2 ⟨_, gt_mem hi, hq⟩
    rw [if_pos ha]
    have : xs.findIdx p = t.toNat := by
      rw [List.findIdx_eq (inb_lt hi)]
      refine ⟨by rw [← gt_of hi]; exact hq, fun j hj => ?_⟩
      have hjl : j < xs.length := by have := inb_lt hi; omega
      exact hp _ (List.mem_take_iff_getElem.2 ⟨j, by omega, rfl⟩)
    omega
  · have : xs.any p = false := by
      rw [List.take_of_length_le (by omega)] at hp
      simpa using hp
    simp [this]
theorem any_next {α : Type} [Inhabited α] {xs : List α} {p : α → Bool} {t : Int} (h0 : 0 ≤ t) (hp : ∀ x ∈ xs.take t.toNat, p x = false) (h : t < xs.length) (hq : p (gt xs t) = false) : ∀ x ∈ xs.take (t + 1).toNat, p x = false := fun x hx => by
  rw [take_gt ⟨h0, h⟩] at hx
  rcases List.mem_append.1 hx with hx | hx
  · exact hp x hx
  · rw [List.mem_singleton.1 hx]; exact hq
/-- the first fault among some that are numbered -/
def ffirst (f : Nat → Fault) (n : Nat) : Fault := match (List.range n).find? (fun i => decide (f i ≠ ⟨0, 0⟩)) with
  | some i => f i
  | none => ⟨0, 0⟩
theorem ffirst_hit {f : Nat → Fault} {n i : Nat} (hi : i < n) (hz : ∀ j, j < i → f j = ⟨0, 0⟩) (hf : f i ≠ ⟨0, 0⟩) : ffirst f n = f i := by
  unfold ffirst
  have : (List.range n).find? (fun i => decide (f i ≠ ⟨0, 0⟩)) = some i := by
    rw [List.find?_range_eq_some]
    exact ⟨by simpa using hf, List.mem_range.2 hi, fun j hj => by simpa using hz j hj⟩
  rw [this]
theorem ffirst_none {f : Nat → Fault} {n : Nat} (hz : ∀ j, j < n → f j = ⟨0, 0⟩) : ffirst f n = ⟨0, 0⟩ := by
  unfold ffirst
  have : (List.range n).find? (fun i => decide (f i ≠ ⟨0, 0⟩)) = none := by
    rw [List.find?_eq_none]
    intro x hx
    simpa using hz x (List.mem_range.1 hx)
  rw [this]
theorem ffirst_zero {f : Nat → Fault} {n : Nat} (h : ffirst f n = ⟨0, 0⟩) : ∀ j, j < n → f j = ⟨0, 0⟩ := by
  intro j
  induction j using Nat.strongRecOn with
  | _ j ih =>
    intro hj
    refine Classical.byContradiction fun hf => ?_
    have := ffirst_hit hj (fun k hk => ih k hk (by omega)) hf
    rw [h] at this
    exact hf this.symm
theorem zero_next {f : Nat → Fault} {k : Nat} (h : ∀ j, j < k → f j = ⟨0, 0⟩) (hk : f k = ⟨0, 0⟩) : ∀ j, j < k + 1 → f j = ⟨0, 0⟩ := fun j hj => by
  rcases Nat.lt_succ_iff_lt_or_eq.1 hj with q | rfl
  · exact h j q
  · exact hk
theorem fault_mk {c i : Int} (h : c ≠ 0) : (⟨c, i⟩ : Fault) ≠ ⟨0, 0⟩ := fun e => h (congrArg Fault.code e)
theorem fault_ne {f : Fault} : (!((f.code == 0) && (f.index == 0))) = true ↔ f ≠ ⟨0, 0⟩ := by
  obtain ⟨c, i⟩ := f
  simp only [Bool.not_eq_true', Bool.and_eq_false_iff, beq_eq_false_iff_ne, ne_eq, Fault.mk.injEq]
  omega
theorem fault_eq {f : Fault} : (!((f.code == 0) && (f.index == 0))) = false ↔ f = ⟨0, 0⟩ := by
  obtain ⟨c, i⟩ := f
  simp
theorem nodup_len : ∀ (N : Nat) (l : List Nat), l.Nodup → (∀ v ∈ l, v < N) → l.length ≤ N
  | 0, l, _, h => by
    cases l with
    | nil => simp
    | cons a r => exact absurd (h a List.mem_cons_self) (by omega)
  | N + 1, l, hn, h => by
    have h1 := nodup_len N (l.filter (· != N)) (hn.filter _) (fun v hv => by
      obtain ⟨a, b⟩ := List.mem_filter.1 hv
      have := h v a
      have : v ≠ N := by simpa using b
      omega)
    have h2 : l.length ≤ (l.filter (· != N)).length + 1 := by
      clear h h1
      induction l with
      | nil => simp
      | cons a r ih =>
        obtain ⟨ha, hr⟩ := List.nodup_cons.1 hn
        by_cases e : a = N
        · subst e
          have : r.filter (· != a) = r := List.filter_eq_self.2 fun v hv => by
            have : v ≠ a := fun e => ha (e ▸ hv)
            simpa using this
          simp [this]
        · have := ih hr
          simp [e]; omega
    omega
end Go.Proofs.YtojoehfldbimpaaGreatDoor.Pl

