/- What the last functions give. Plain Lean. No condition. -/
import Derived.Test.YtkcamohhjaibaaaOk0
import Derived.Test.YtkcamohhjaibaaaWk1
namespace Go.Proofs.Ytkcamohhjaibaaa.Pl
open Go Go.RowKit
theorem ok_extremes : ∀ (u : Uncertain), F_extremes u (fun r => r = sp_extremes u) := fun _ => rfl
/-- one digit of a small number -/
theorem bit_of {k j : Nat} (hk : k < 8) (hj : j < 3) : bits .and .i64 (Int.fdiv (k : Int) (2 ^ (min ((j : Int)).toNat (IntKind.bits .i64)))) 1 = ((k / 2 ^ j % 2 : Nat) : Int) := by
  have h : ∀ (k : Fin 8) (j : Fin 3), bits .and .i64 (Int.fdiv ((k : Nat) : Int) (2 ^ (min (((j : Nat) : Int)).toNat (IntKind.bits .i64)))) 1 = (((k : Nat) / 2 ^ (j : Nat) % 2 : Nat) : Int) := by decide +kernel
  exact h ⟨k, hk⟩ ⟨j, hj⟩
theorem pow_of {n : Nat} (hn : n ≤ 3) : IntKind.i64.wrap (1 * 2 ^ (min (((n : Nat) : Int)).toNat (IntKind.bits .i64))) = ((2 ^ n : Nat) : Int) := by
  have h : ∀ n : Fin 4, IntKind.i64.wrap (1 * 2 ^ (min ((((n : Nat) : Nat) : Int)).toNat (IntKind.bits .i64))) = ((2 ^ (n : Nat) : Nat) : Int) := by decide +kernel
  exact h ⟨n, by omega⟩
open Classical in
theorem weakFor_true {u : Uncertain} (h : ∀ d, InBox u d → (sp_tighten (sp_with_ u d)).2 = true) : sp_weakFor u = true := by unfold sp_weakFor; simpa using h
open Classical in
theorem weakFor_false {u : Uncertain} {d : List Int} (hd : InBox u d) (h : (sp_tighten (sp_with_ u d)).2 = false) : sp_weakFor u = false := by unfold sp_weakFor; exact decide_eq_false fun q => by rw [q d hd] at h; cases h
theorem ok_weak : ∀ (u : Uncertain), F_weak u (fun r => r = sp_weak u) := fun u => by
  unfold F_weak
  intro r2 hr2
  subst hr2
  simp only [fault_ne, fault_eq]
  refine ⟨fun h => by rw [sp_weak, if_neg h], fun hv => ?_⟩
  have uv := uv_of hv
  have hcl := uv.len
  have hll := uv.v.len
  have hsp : sp_weak u = (sp_weakFor u, ⟨0, 0⟩) := by rw [sp_weak, if_pos hv]
  intro _ _
  refine ⟨by omega, fun x hx => ?_⟩
  rw [pow_of hcl] at hx
  obtain ⟨P, hP⟩ : ∃ P, P = 2 ^ u.contingent.length := ⟨_, rfl⟩
  have hP8 : P ≤ 8 := by
    have : u.contingent.length = 0 ∨ u.contingent.length = 1 ∨ u.contingent.length = 2 ∨ u.contingent.length = 3 := by omega
    rcases this with e | e | e | e <;> rw [hP, e] <;> decide
  rw [← hP] at hx
  refine ⟨fun t => ∃ k : Nat, t = k ∧ k ≤ P ∧ ∀ k', k' < k → (sp_tighten (sp_with_ u (extK u k' u.contingent.length))).2 = true, fun t => (P - t).toNat, ⟨0, rfl, Nat.zero_le _, fun _ h => absurd h (by omega)⟩, ?_⟩
  rintro _ ⟨k, rfl, k1, k2⟩
  unfold F_weak_L1
  simp only [decide_eq_true_eq, decide_eq_false_iff_not]
  refine ⟨fun g => ?_, fun g => ?_⟩
  · refine ⟨fun t f => ∃ j : Nat, t = j ∧ j ≤ u.contingent.length ∧ f = extK u k j, fun t _ => (u.contingent.length - t).toNat, ⟨0, rfl, Nat.zero_le _, rfl⟩, ?_⟩
    rintro _ _ ⟨j, rfl, j1, rfl⟩
    unfold F_weak_L2
    simp only [decide_eq_true_eq, decide_eq_false_iff_not]
    refine ⟨fun f => ?_, fun f => ?_⟩
    · have hj : j < u.contingent.length := by omega
      refine ⟨⟨by omega, f⟩, by omega, fun x2 hx2 => ?_⟩
      rw [bit_of (by omega) (by omega)] at hx2
      have next : ∀ y : Int, y = (if k / 2 ^ j % 2 = 0 then (gt u.contingent j).low else (gt u.contingent j).high) → room (extK u k j ++ [y]).length 8 ∧ F_weak_J1 (extK u k j) j (fun t f => ∃ j : Nat, t = j ∧ j ≤ u.contingent.length ∧ f = extK u k j) (fun t _ => (u.contingent.length - t).toNat) (extK u k j ++ [y]) := by
        rintro y rfl
        unfold F_weak_J1
        rw [w64 (by omega), List.length_append, List.length_singleton, extK_len]
        exact ⟨⟨by simp only [maxLen]; omega, by omega⟩, ⟨j + 1, by omega, by omega, (extK_succ u k j).symm⟩, show ((u.contingent.length : Int) - ((j : Int) + 1)).toNat < ((u.contingent.length : Int) - (j : Int)).toNat by omega⟩
      simp only [beq_iff_eq, beq_eq_false_iff_ne, ne_eq]
      exact ⟨fun z => next _ (by rw [if_pos (by omega)]), fun z => next _ (by rw [if_neg (by omega)])⟩
    · have : j = u.contingent.length := by omega
      subst this
      have bx := extK_box uv k
      refine ⟨⟨hll, hcl, bx.1⟩, fun r4 hr4 => ?_⟩
      subst hr4
      refine ⟨with_okay uv bx, fun r5 hr5 => ?_⟩
      subst hr5
      simp only [Bool.not_eq_true', Bool.not_eq_false']
      refine ⟨fun q => by rw [hsp, weakFor_false bx q], fun q => ?_⟩
      rw [w64 (by omega)]
      refine ⟨⟨k + 1, by omega, by omega, fun k' hk' => ?_⟩, show ((P : Int) - ((k : Int) + 1)).toNat < ((P : Int) - (k : Int)).toNat by omega⟩
      by_cases c : k' = k
      · rw [c]; exact q
      · exact k2 k' (by omega)
  · have : k = P := by omega
    rw [hsp, weakFor_true (weak_iff uv fun k' hk' => k2 k' (by omega))]
theorem ok_weakFor : ∀ (u : Uncertain), pre_weakFor u → F_weakFor u (fun r => r = sp_weakFor u) := fun u ⟨hv, h200⟩ => by
  have uv := uv_of hv
  have hcl := uv.len
  have hll := uv.v.len
  have cr := choices_range uv
  unfold F_weakFor
  refine ⟨fun t => ∃ k : Nat, t = k ∧ (k : Int) ≤ sp_choices u ∧ ∀ k' : Nat, k' < k → (sp_tighten (sp_with_ u (sp_choice u k'))).2 = true, fun t => (sp_choices u - t).toNat, ⟨0, rfl, by omega, fun _ h => absurd h (by omega)⟩, ?_⟩
  rintro _ ⟨k, rfl, k1, k2⟩
  unfold F_weakFor_L1
  refine ⟨uv.choices, fun r2 hr2 => ?_⟩
  subst hr2
  simp only [decide_eq_true_eq, decide_eq_false_iff_not]
  have bx := choice_box uv (k : Int)
  refine ⟨fun g => ⟨⟨uv.choices, by omega, by omega⟩, fun r3 hr3 => ?_⟩, fun g => ?_⟩
  · subst hr3
    refine ⟨⟨hll, hcl, bx.1⟩, fun r4 hr4 => ?_⟩
    subst hr4
    refine ⟨with_okay uv bx, fun r5 hr5 => ?_⟩
    subst hr5
    simp only [Bool.not_eq_true', Bool.not_eq_false']
    refine ⟨fun q => (weakFor_false bx q).symm, fun q => ?_⟩
    rw [w64 (by omega)]
    refine ⟨⟨k + 1, by omega, by omega, fun k' hk' => ?_⟩, show (sp_choices u - ((k : Int) + 1)).toNat < (sp_choices u - (k : Int)).toNat by omega⟩
    by_cases c : k' = k
    · rw [c]; exact q
    · exact k2 k' (by omega)
  · refine (weakFor_true fun d hd => ?_).symm
    obtain ⟨m, m0, m1, rfl⟩ := choice_surj uv h200 hd
    have := k2 m.toNat (by omega)
    rwa [Int.toNat_of_nonneg m0] at this
theorem ok_lawWeakMatchesSpec : ∀ (u : Uncertain), F_lawWeakMatchesSpec u (fun r => r = sp_lawWeakMatchesSpec u) := fun u => by
  unfold F_lawWeakMatchesSpec sp_lawWeakMatchesSpec
  intro r2 hr2 r3 hr3
  subst hr2; subst hr3
  simp only [bne_iff_ne, ne_eq, bne_eq_false_iff_eq]
  refine ⟨fun h => ?_, fun h => ?_⟩
  · have hv : sp_uvalidate u ≠ ⟨0, 0⟩ := fun q => h (by rw [q])
    rw [sp_weak, if_neg hv]
    simp [sp_awaited]
  · have hv := uval_code h
    have uv := uv_of hv
    rw [sp_weak, if_pos hv]
    refine ⟨fun _ => ⟨uv.choices, fun r5 hr5 => ?_⟩, fun q => by simp at q⟩
    subst hr5
    simp only [decide_eq_true_eq, decide_eq_false_iff_not]
    exact ⟨fun _ r hr => by subst hr; rfl, fun q => ⟨⟨hv, by omega⟩, fun r7 hr7 => by subst hr7; simp [sp_awaited]⟩⟩
theorem ok_lawStrongImpliesWeak : ∀ (u : Uncertain), F_lawStrongImpliesWeak u (fun r => r = sp_lawStrongImpliesWeak u) := fun u => by
  unfold F_lawStrongImpliesWeak sp_lawStrongImpliesWeak
  intro r2 hr2 r3 hr3
  subst hr2; subst hr3
  simp only [bne_iff_ne, ne_eq, bne_eq_false_iff_eq]
  unfold F_lawStrongImpliesWeak_J1
  by_cases hv : sp_uvalidate u = ⟨0, 0⟩
  · have hc := strong_code hv
    have hw : sp_weak u = (sp_weakFor u, ⟨0, 0⟩) := by rw [sp_weak, if_pos hv]
    refine ⟨fun h => absurd (by rw [hc]) h, fun _ => ?_⟩
    rw [hw]
    cases hs : (sp_strong u).2.1
    · simp [sp_awaited]
    · rw [weakFor_true (strong_weak hv hs)]
      simp [sp_awaited]
  · have e1 : sp_strong u = ([], false, sp_uvalidate u) := by rw [sp_strong, if_neg hv]
    have e2 : sp_weak u = (false, sp_uvalidate u) := by rw [sp_weak, if_neg hv]
    rw [e1, e2]
    simp [sp_awaited]
end Go.Proofs.Ytkcamohhjaibaaa.Pl
