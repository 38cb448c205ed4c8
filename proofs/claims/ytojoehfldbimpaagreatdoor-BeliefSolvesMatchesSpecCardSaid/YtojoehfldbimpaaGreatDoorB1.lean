/- What the small functions ask and give: lists of numbers. Plain Lean. No condition. -/
import Derived.Test.YtojoehfldbimpaaGreatDoorF
namespace Go.Proofs.YtojoehfldbimpaaGreatDoor.Pl
open Go Go.RowKit
theorem ok_in_ : ∀ (n_ : Int) (low : Int) (high : Int), F_in_ n_ low high (fun r => r = sp_in_ n_ low high) := fun n lo hi => by
  unfold F_in_ sp_in_
  refine ⟨fun h => ?_, fun h => ?_⟩ <;> rw [h] <;> simp
theorem ok_at_ : ∀ (code : Int) (index : Int), F_at_ code index (fun r => r = sp_at_ code index) := fun _ _ => rfl
theorem ok_has : ∀ (l : List Int) (n_ : Int), pre_has l n_ → F_has l n_ (fun r => r = sp_has l n_) := fun l x hp => by
  unfold pre_has at hp
  refine ⟨fun t => ∃ k : Nat, t = k ∧ k ≤ l.length ∧ x ∉ l.take k, fun t => (l.length - t).toNat, ⟨0, rfl, Nat.zero_le _, by simp⟩, ?_⟩
  rintro _ ⟨k, rfl, k1, k2⟩
  unfold F_has_L1
  simp only [decide_eq_true_eq, decide_eq_false_iff_not, beq_iff_eq, beq_eq_false_iff_ne, ne_eq]
  refine ⟨fun h => ?_, fun h => ?_⟩
  · have hk : k < l.length := by omega
    refine ⟨⟨by omega, h⟩, fun q => ?_, fun q => ?_⟩
    · have : x ∈ l := q ▸ gt_memN hk
      simp [sp_has, this]
    · rw [w64 (by omega)]
      refine ⟨⟨k + 1, by omega, by omega, ?_⟩, by omega⟩
      rw [takeN_gt hk]
      simp only [List.mem_append, List.mem_singleton, not_or]
      exact ⟨k2, fun e => q e.symm⟩
  · rw [List.take_of_length_le (by omega)] at k2
    simp [sp_has, k2]
theorem ok_numbers : ∀ (a : List Int) (b : List Int), pre_numbers a b → F_numbers a b (fun r => r = sp_numbers a b) := fun a b hp => by
  unfold pre_numbers at hp
  unfold F_numbers
  simp only [bne_iff_ne, ne_eq, bne_eq_false_iff_eq]
  refine ⟨fun h => ?_, fun h => ?_⟩
  · have : a ≠ b := fun e => h (by rw [e])
    simp [sp_numbers, this]
  · have hl : a.length = b.length := by omega
    refine ⟨fun t => ∃ k : Nat, t = k ∧ k ≤ a.length ∧ a.take k = b.take k, fun t => (a.length - t).toNat, ⟨0, rfl, Nat.zero_le _, by simp⟩, ?_⟩
    rintro _ ⟨k, rfl, k1, k2⟩
    unfold F_numbers_L1
    simp only [decide_eq_true_eq, decide_eq_false_iff_not, bne_iff_ne, ne_eq, bne_eq_false_iff_eq]
    refine ⟨fun g => ⟨⟨by omega, g⟩, ⟨by omega, by omega⟩, fun q => ?_, fun q => ?_⟩, fun g => ?_⟩
    · have : a ≠ b := fun e => q (by rw [e])
      simp [sp_numbers, this]
    · rw [w64 (by omega)]
      refine ⟨⟨k + 1, by omega, by omega, ?_⟩, by omega⟩
      rw [takeN_gt (by omega), takeN_gt (by omega), k2, q]
    · rw [List.take_of_length_le (by omega), List.take_of_length_le (by omega)] at k2
      simp [sp_numbers, k2]
theorem ok_isNaN1 : ∀ (x : Int), F_isNaN1 x (fun r => r = sp_isNaN1 x) := fun x => by
  show (x != x) = false
  simp
theorem ok_isNaN2 : ∀ (x : Int), F_isNaN2 x (fun r => r = sp_isNaN1 x) := fun x => by
  show (x != x) = false
  simp
theorem ok_less : ∀ (x : Int) (y : Int), F_less x y (fun r => r = sp_less x y) := fun x y => by
  unfold F_less
  simp only [forall_eq, sp_isNaN1]
  exact ⟨fun h => absurd h (by decide), fun _ => rfl⟩
theorem ok_indexF : ∀ (s_ : List Int) (pf : Int → Bool) (Df : Int → Prop), pre_any s_ pf Df → F_indexF s_ pf Df (fun r => r = sp_indexF s_ pf Df) := fun xs p D ⟨hl, hD⟩ => by
  refine ⟨fun t => 0 ≤ t ∧ t ≤ xs.length ∧ ∀ x ∈ xs.take t.toNat, p x = false, fun t => (xs.length - t).toNat, ⟨Int.le_refl _, by omega, by simp⟩, ?_⟩
  rintro t ⟨h0, h1, h2⟩
  unfold F_indexF_L1
  obtain ⟨k1, k2⟩ := any_split h0 h2
  simp only [decide_eq_true_eq, decide_eq_false_iff_not, forall_eq]
  refine ⟨fun h => ⟨⟨h0, h⟩, hD _ (gt_mem ⟨h0, h⟩), fun q => (k1 h q).symm, fun q => ?_⟩, fun h => (k2 h).symm⟩
  rw [w64 (by omega)]
  exact ⟨⟨by omega, by omega, any_next h0 h2 h q⟩, by omega⟩
theorem ok_containsF : ∀ (s_ : List Int) (pf : Int → Bool) (Df : Int → Prop), pre_any s_ pf Df → F_containsF s_ pf Df (fun r => r = sp_any s_ pf Df) := fun xs p D hp => by
  refine ⟨hp, fun r hr => ?_⟩
  rw [hr]
  show decide (0 ≤ sp_indexF xs p D) = sp_any xs p D
  unfold sp_indexF sp_any
  cases h : xs.any p
  · simp
  · simp
end Go.Proofs.YtojoehfldbimpaaGreatDoor.Pl

