/- Least numbers, searches in lists, comparisons of lists. Plain Lean. No condition. -/
import Derived.Test.YtkcamohhjaibaaaOk2
namespace Go.Proofs.Ytkcamohhjaibaaa.Pl
open Go Go.RowKit
theorem foldl_min_le (xs : List Int) (m : Int) : xs.foldl min m ≤ m ∧ ∀ x ∈ xs, xs.foldl min m ≤ x := by
  induction xs generalizing m with
  | nil => simp
  | cons y r ih =>
    obtain ⟨h1, h2⟩ := ih (min m y)
    simp only [List.foldl_cons]
    refine ⟨by omega, fun x hx => ?_⟩
    rcases List.mem_cons.1 hx with rfl | hx
    · omega
    · exact h2 x hx
theorem foldl_min_mem (xs : List Int) (m : Int) : xs.foldl min m = m ∨ xs.foldl min m ∈ xs := by
  induction xs generalizing m with
  | nil => simp
  | cons y r ih =>
    simp only [List.foldl_cons]
    rcases ih (min m y) with h | h
    · rw [h]
      rcases Int.le_total m y with q | q
      · left; omega
      · right; rw [show min m y = y by omega]; exact List.mem_cons_self
    · exact .inr (List.mem_cons_of_mem _ h)
theorem min_lt {xs : List Int} (hx : xs ≠ []) {k : Int} : sp_min_ xs < k ↔ ∃ x ∈ xs, x < k := by
  unfold sp_min_
  cases xs with
  | nil => exact absurd rfl hx
  | cons y r =>
    simp only [List.tail_cons, List.headD_cons]
    obtain ⟨h1, h2⟩ := foldl_min_le r y
    constructor
    · intro h
      rcases foldl_min_mem r y with q | q
      · exact ⟨y, List.mem_cons_self, by omega⟩
      · exact ⟨_, List.mem_cons_of_mem _ q, h⟩
    · rintro ⟨x, hx, hl⟩
      rcases List.mem_cons.1 hx with rfl | hx
      · omega
      · have := h2 x hx; omega
theorem ok_min_ : ∀ (x : List Int), pre_min_ x → F_min_ x (fun r => r = sp_min_ x) := fun xs ⟨hne, hl⟩ => by
  have hpos : 0 < xs.length := List.length_pos_iff.2 hne
  unfold F_min_
  simp only [decide_eq_true_eq, decide_eq_false_iff_not]
  refine ⟨fun h => by omega, fun _ => ⟨⟨Int.le_refl _, by omega⟩, fun m i => 1 ≤ i ∧ i ≤ xs.length ∧ m = (xs.tail.take (i - 1).toNat).foldl min (xs.headD 0), fun _ i => (xs.length - i).toNat, ⟨Int.le_refl _, by omega, ?_⟩, ?_⟩⟩
  · cases xs with
    | nil => exact absurd rfl hne
    | cons y r => rfl
  rintro m i ⟨h1, h2, h3⟩
  unfold F_min__L1
  simp only [decide_eq_true_eq, decide_eq_false_iff_not]
  refine ⟨fun h => ⟨⟨by omega, h⟩, ?_⟩, fun h => ?_⟩
  · rw [w64 (by omega)]
    refine ⟨⟨by omega, by omega, ?_⟩, by omega⟩
    have e1 : (i + 1 - 1).toNat = (i - 1).toNat + 1 := by omega
    have e2 : (i - 1).toNat < xs.tail.length := by rw [List.length_tail]; omega
    have e3 : xs.tail[(i - 1).toNat] = gt xs i := by
      rw [gt_of ⟨by omega, h⟩, List.getElem_tail]
      congr 1; omega
    rw [e1, List.take_succ_eq_append_getElem e2, List.foldl_append, ← h3, e3]
    simp only [List.foldl_cons, List.foldl_nil]
    omega
  · have : i = xs.length := by omega
    rw [h3, this, sp_min_, List.take_of_length_le (by rw [List.length_tail]; omega)]
theorem ok_tighten1 : ∀ (row : List Int), pre_tighten1 row → F_tighten1 row (fun r => r = sp_tighten1 row) := fun row hp => by
  unfold F_tighten1
  refine ⟨hp, fun r hr => ?_⟩
  rw [hr]; rfl
/-- a search goes on where nothing has been found yet -/
theorem any_split {α : Type} [Inhabited α] {xs : List α} {p : α → Bool} {t : Int} (h0 : 0 ≤ t) (hp : ∀ x ∈ xs.take t.toNat, p x = false) : (t < xs.length → p (gt xs t) = true → (if xs.any p then (xs.findIdx p : Int) else -1) = t) ∧ (¬ t < xs.length → (if xs.any p then (xs.findIdx p : Int) else -1) = -1) := by
  refine ⟨fun h hq => ?_, fun h => ?_⟩
  · have hi : inb xs t := ⟨h0, h⟩
    have ha : xs.any p = true := List.any_eq_true.2 ⟨_, gt_mem hi, hq⟩
    rw [if_pos ha]
    have : xs.findIdx p = t.toNat := by
      rw [List.findIdx_eq (inb_lt hi)]
      refine ⟨by rw [← gt_of hi]; exact hq, fun j hj => ?_⟩
      have hjl : j < xs.length := by have := inb_lt hi; omega
      exact hp _ (List.mem_take_iff_getElem.2 ⟨j, by omega, rfl⟩)
    omega
  · have : xs.any p = false := by
      rw [List.take_of_length_le (by omega)] at hp
      simpa using hp
    simp [this]
theorem any_next {α : Type} [Inhabited α] {xs : List α} {p : α → Bool} {t : Int} (h0 : 0 ≤ t) (hp : ∀ x ∈ xs.take t.toNat, p x = false) (h : t < xs.length) (hq : p (gt xs t) = false) : ∀ x ∈ xs.take (t + 1).toNat, p x = false := fun x hx => by
  rw [take_gt ⟨h0, h⟩] at hx
  rcases List.mem_append.1 hx with hx | hx
  · exact hp x hx
  · rw [List.mem_singleton.1 hx]; exact hq
theorem ok_indexR : ∀ (s_ : List (List Int)) (pf : (List Int) → Bool) (Df : (List Int) → Prop), pre_any s_ pf Df → F_indexR s_ pf Df (fun r => r = sp_index s_ pf Df) := fun xs p D ⟨hl, hD⟩ => by
  refine ⟨fun t => 0 ≤ t ∧ t ≤ xs.length ∧ ∀ x ∈ xs.take t.toNat, p x = false, fun t => (xs.length - t).toNat, ⟨Int.le_refl _, by omega, by simp⟩, ?_⟩
  rintro t ⟨h0, h1, h2⟩
  unfold F_indexR_L1
  obtain ⟨k1, k2⟩ := any_split h0 h2
  simp only [decide_eq_true_eq, decide_eq_false_iff_not, forall_eq]
  refine ⟨fun h => ⟨⟨h0, h⟩, hD _ (gt_mem ⟨h0, h⟩), fun q => (k1 h q).symm, fun q => ?_⟩, fun h => (k2 h).symm⟩
  rw [w64 (by omega)]
  exact ⟨⟨by omega, by omega, any_next h0 h2 h q⟩, by omega⟩
theorem index_any {α : Type} (xs : List α) (p : α → Bool) (D : α → Prop) : decide (0 ≤ sp_index xs p D) = sp_any xs p D := by
  unfold sp_index sp_any
  cases h : xs.any p
  · simp
  · simp
theorem ok_containsR : ∀ (s_ : List (List Int)) (pf : (List Int) → Bool) (Df : (List Int) → Prop), pre_any s_ pf Df → F_containsR s_ pf Df (fun r => r = sp_any s_ pf Df) := fun xs p D hp => by
  refine ⟨hp, fun r hr => ?_⟩
  rw [hr]; exact index_any xs p D
theorem ok_indexL : ∀ (s_ : List Link) (pf : Link → Bool) (Df : Link → Prop), pre_any s_ pf Df → F_indexL s_ pf Df (fun r => r = sp_index s_ pf Df) := fun xs p D ⟨hl, hD⟩ => by
  refine ⟨fun t => 0 ≤ t ∧ t ≤ xs.length ∧ ∀ x ∈ xs.take t.toNat, p x = false, fun t => (xs.length - t).toNat, ⟨Int.le_refl _, by omega, by simp⟩, ?_⟩
  rintro t ⟨h0, h1, h2⟩
  unfold F_indexL_L1
  obtain ⟨k1, k2⟩ := any_split h0 h2
  simp only [decide_eq_true_eq, decide_eq_false_iff_not, forall_eq]
  refine ⟨fun h => ⟨⟨h0, h⟩, hD _ (gt_mem ⟨h0, h⟩), fun q => (k1 h q).symm, fun q => ?_⟩, fun h => (k2 h).symm⟩
  rw [w64 (by omega)]
  exact ⟨⟨by omega, by omega, any_next h0 h2 h q⟩, by omega⟩
theorem ok_containsL : ∀ (s_ : List Link) (pf : Link → Bool) (Df : Link → Prop), pre_any s_ pf Df → F_containsL s_ pf Df (fun r => r = sp_any s_ pf Df) := fun xs p D hp => by
  refine ⟨hp, fun r hr => ?_⟩
  rw [hr]; exact index_any xs p D
/-- two lists are equal when they agree everywhere -/
theorem eq_of_take {α : Type} {a b : List α} (hl : a.length = b.length) {t : Int} (h : a.take t.toNat = b.take t.toNat) (ht : ¬ t < a.length) : a = b := by
  rwa [List.take_of_length_le (by omega), List.take_of_length_le (by omega)] at h
theorem ok_numbers : ∀ (a : List Int) (b : List Int), pre_numbers a b → F_numbers a b (fun r => r = sp_numbers a b) := fun a b hp => by
  unfold pre_numbers at hp
  unfold F_numbers
  simp only [bne_iff_ne, ne_eq, bne_eq_false_iff_eq]
  refine ⟨fun h => ?_, fun h => ?_⟩
  · have : a ≠ b := fun e => h (by rw [e])
    simp [sp_numbers, this]
  · have hl : a.length = b.length := by omega
    refine ⟨fun t => 0 ≤ t ∧ t ≤ a.length ∧ a.take t.toNat = b.take t.toNat, fun t => (a.length - t).toNat, ⟨Int.le_refl _, by omega, by simp⟩, ?_⟩
    rintro t ⟨h0, h1, h2⟩
    unfold F_numbers_L1
    simp only [decide_eq_true_eq, decide_eq_false_iff_not, bne_iff_ne, ne_eq, bne_eq_false_iff_eq]
    refine ⟨fun g => ⟨⟨h0, g⟩, ⟨h0, by omega⟩, fun q => ?_, fun q => ?_⟩, fun g => ?_⟩
    · have : a ≠ b := fun e => q (by rw [e])
      simp [sp_numbers, this]
    · rw [w64 (by omega)]
      exact ⟨⟨by omega, by omega, by rw [take_gt ⟨h0, g⟩, take_gt ⟨h0, by omega⟩, h2, q]⟩, by omega⟩
    · simp [sp_numbers, eq_of_take hl h2 g]
end Go.Proofs.Ytkcamohhjaibaaa.Pl
