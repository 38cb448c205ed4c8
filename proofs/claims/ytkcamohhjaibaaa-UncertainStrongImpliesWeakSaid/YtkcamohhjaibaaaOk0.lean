/- What the library's Repeat gives for one number. Plain Lean. No condition. -/
import Derived.Test.YtkcamohhjaibaaaOk3
namespace Go.Proofs.Ytkcamohhjaibaaa.Pl
open Go Go.RowKit
theorem wu64 {n : Int} (h : 0 ≤ n ∧ n ≤ 18446744073709551615) : IntKind.u64.wrap n = n := by rw [IntKind.wrap_u64]; omega
theorem u64_low {x : Int} (h : 0 ≤ x ∧ x ≤ 4000000000) : bits .and .u64 x 4294967295 = x := by
  have := bits_mask .u64 32 (by decide) (fun n h0 h1 => wu64 ⟨h0, by omega⟩) 32 (by decide) x (by omega) (by omega)
  rw [show ((2 : Int) ^ 32 - 1) = 4294967295 by decide] at this
  rw [this]; omega
theorem u64_high {x : Int} (h : 0 ≤ x ∧ x ≤ 4000000000) : Int.fdiv x (2 ^ (min ((32 : Int)).toNat (IntKind.bits .u64))) = 0 := by
  have e : (2 : Int) ^ (min ((32 : Int)).toNat (IntKind.bits .u64)) = 4294967296 := by decide
  rw [e, Int.fdiv_eq_ediv_of_nonneg _ (by decide)]
  omega
theorem ok_mul64 : ∀ (x : Int) (y : Int), pre_mul64 x y → F_mul64 x y (fun r => r = sp_mul64 x y) := fun x y ⟨h1, h2, h3, h4⟩ => by
  have hxy : 0 ≤ x * y := Int.mul_nonneg h1 h3
  have hxy2 : x * y ≤ 1000 * 1000 := Int.mul_le_mul h2 h4 h3 (by decide)
  have ax := u64_low (x := x) (by omega)
  have ay := u64_low (x := y) (by omega)
  have bx := u64_high (x := x) (by omega)
  have by' := u64_high (x := y) (by omega)
  unfold F_mul64
  intro x2 e2 x3 e3 x4 e4 x5 e5 x6 e6 x7 e7 x8 e8
  have f2 : x2 = x * y := by rw [e2, ax, ay, wu64 (by omega)]
  have f3 : x3 = 0 := by rw [e3, bx, Int.zero_mul]; rfl
  have f4 : x4 = 0 := by rw [e4, f3, f2, u64_high (by omega)]; rfl
  have f5 : x5 = 0 := by rw [e5, by', Int.mul_zero]; rfl
  have f6 : x6 = 0 := by rw [e6, bx, Int.zero_mul]; rfl
  have f7 : x7 = 0 := by rw [e7, f6, f4, u64_high (by omega)]; rfl
  have f8 : x8 = 0 := by
    rw [e8, f4, f5, u64_low (by omega), show IntKind.u64.wrap (0 + 0) = 0 from rfl, u64_high (by omega)]
  rw [f7, f8, wu64 (n := x * y) (by omega)]
  rfl
theorem ok_mul : ∀ (x : Int) (y : Int), pre_mul64 x y → F_mul x y (fun r => r = sp_mul64 x y) := fun x y h => by
  refine ⟨h, fun r hr => ?_⟩
  rw [hr]
theorem ok_repeat : ∀ (x : List Int) (count : Int), pre_repeat x count → F_repeat x count (fun r => r = sp_repeat x count) := fun x n ⟨h1, h2, h3⟩ => by
  obtain ⟨v, rfl⟩ : ∃ v, x = [v] := by
    cases x with
    | nil => simp at h1
    | cons v r => cases r with
      | nil => exact ⟨v, rfl⟩
      | cons _ _ => simp at h1
  obtain ⟨N, rfl⟩ : ∃ N : Nat, n = N := ⟨n.toNat, by omega⟩
  have e1 : IntKind.u64.wrap ((([v].length : Nat) : Int)) = 1 := rfl
  have e2 : IntKind.u64.wrap (N : Int) = N := wu64 (by omega)
  have e3 : IntKind.i64.wrap (sp_mul64 1 (N : Int)).2 = N := by
    show IntKind.i64.wrap (1 * (N : Int)) = N
    rw [Int.one_mul]; exact w64 (by omega)
  have hsp : sp_repeat [v] N = List.replicate N v := by rw [sp_repeat, Int.toNat_natCast, repeat_one]
  have main : F_repeat_J1 [v] (fun r => r = sp_repeat [v] N) (sp_mul64 1 (N : Int)) false := by
    unfold F_repeat_J1
    simp only [e3, Int.toNat_natCast, hsp]
    have em : min [v].length N = 1 := by simp; omega
    rw [em]
    refine ⟨fun h => (by cases h), fun _ => ⟨⟨by omega, by simp; omega, by simp only [maxLen, Int.toNat_natCast]; omega⟩, ⟨by simp, by simp; omega⟩, ?_⟩⟩
    intro d hd
    refine ⟨fun k l => ∃ m : Nat, k = m ∧ 1 ≤ m ∧ m ≤ N ∧ l.length = N ∧ l.take m = List.replicate m v, fun k _ => (N - k).toNat, ⟨1, rfl, by omega, by omega, ?_, ?_⟩, ?_⟩
    · rw [hd]; exact cpy_len (by simp) (by simp; omega)
    · rw [hd]; simp [cpy]
    · rintro k l ⟨m, rfl, m1, m2, m3, m4⟩
      unfold F_repeat_L1
      simp only [e3, Int.toNat_natCast, decide_eq_true_eq, decide_eq_false_iff_not]
      refine ⟨fun h => ⟨by omega, ⟨by omega, by rw [List.length_take]; omega⟩, ?_⟩, fun h => ?_⟩
      · intro d2 hd2
        obtain ⟨c, hc⟩ : ∃ c, min m (N - m) = c := ⟨_, rfl⟩
        rw [hc] at hd2 ⊢
        rw [w64 (by omega)]
        refine ⟨⟨m + c, by omega, by omega, by omega, ?_, ?_⟩, by omega⟩
        · rw [hd2]; exact cpy_len m3 (by rw [List.length_take]; omega)
        · have ez : l.take c = List.replicate c v := by
            have : (l.take m).take c = l.take c := by rw [List.take_take]; congr 1; omega
            rw [← this, m4, List.take_replicate]; congr 1; omega
          rw [hd2, cpy, m4, ez]
          simp only [List.take_append, List.length_replicate, List.length_append]
          rw [List.take_of_length_le (by simp), List.take_of_length_le (by simp), show m + c - (m + c) = 0 by omega]
          simp [List.replicate_append_replicate]
      · have : m = N := by omega
        subst this
        rw [← m4, List.take_of_length_le (by omega)]
  unfold F_repeat
  simp only [decide_eq_true_eq, decide_eq_false_iff_not, forall_eq]
  refine ⟨fun h => by omega, fun _ => ?_⟩
  rw [e1, e2]
  refine ⟨⟨by omega, by omega, by omega, by omega⟩, fun h => ?_, fun _ => ?_⟩
  · have : (0 : Int) < 0 := h
    omega
  · have e4 : decide (9223372036854775807 < (sp_mul64 1 (N : Int)).2) = false := by
      rw [decide_eq_false_iff_not]
      show ¬ 9223372036854775807 < 1 * (N : Int)
      omega
    rw [e4]; exact main
end Go.Proofs.Ytkcamohhjaibaaa.Pl
