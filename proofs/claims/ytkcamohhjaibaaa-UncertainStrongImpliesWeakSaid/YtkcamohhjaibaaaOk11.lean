/- The reference's tightest bounds. Plain Lean. No condition. -/
import Derived.Test.YtkcamohhjaibaaaOk10
import Derived.Test.YtkcamohhjaibaaaBf
namespace Go.Proofs.Ytkcamohhjaibaaa.Pl
open Go Go.RowKit
theorem sp_direct_eq {n : Network} (ok : Okay n) (a b : Nat) : sp_direct n a b = Wd n a b := by
  unfold sp_direct
  split
  · rename_i e
    have : a = b := by omega
    subst this
    exact (dirL_diag ok.ne a).symm
  · rfl
theorem getD_app_l {α : Type} {l r : List α} {i : Nat} {d : α} (h : i < l.length) : (l ++ r).getD i d = l.getD i d := by
  rw [List.getD_eq_getElem?_getD, List.getD_eq_getElem?_getD, List.getElem?_append_left h]
theorem getD_app_r {α : Type} {l r : List α} {i : Nat} {d : α} (h : l.length ≤ i) : (l ++ r).getD i d = r.getD (i - l.length) d := by
  rw [List.getD_eq_getElem?_getD, List.getD_eq_getElem?_getD, List.getElem?_append_right h]
def Rw (row : List Int) : Nat → Int := fun v => row.getD v 0
theorem gt_Rw (row : List Int) (a : Nat) : gt row (a : Int) = Rw row a := rfl
theorem Row.congr {N : Nat} {W : Nat → Nat → Int} {i ρ a b : Nat} {R R' : Nat → Int} (q : Row N W i ρ a b R) (h : ∀ v, R v = R' v) : Row N W i ρ a b R' := by
  have : R = R' := funext h
  rwa [← this]
theorem ok_tightest : ∀ (n_ : Network), pre_tightest n_ → F_tightest n_ (fun r => r = sp_tighten n_) := fun n ok => by
  obtain ⟨N, hN⟩ : ∃ N : Nat, n.events = N := ⟨n.events.toNat, by have := ok.ev; omega⟩
  have hev := ok.ev
  have hN0 : 0 < N := by omega
  have hN10 : N ≤ 10 := by omega
  have htn : n.events.toNat = N := by omega
  have W1 : ∀ a b, -3000 ≤ Wd n a b := fun a b => (dirL_bounds ok.low ok.high a b).1
  have W2 : ∀ a b, Wd n a b < inf → Wd n a b ≤ 3000 := fun a b => (dirL_bounds ok.low ok.high a b).2.2
  have W3 : ∀ a b, Wd n a b ≤ inf := fun a b => (dirL_bounds ok.low ok.high a b).2.1
  unfold F_tightest
  refine ⟨fun t all => ∃ m : Nat, t = m ∧ m ≤ N ∧ all.length = m ∧ ∀ k, k < m → (all.getD k []).length = N ∧ RowGood N (Wd n) k (Rw (all.getD k [])), fun t _ => (N - t).toNat, ⟨0, rfl, Nat.zero_le _, rfl, fun k h => absurd h (Nat.not_lt_zero _)⟩, ?_⟩
  rintro _ all ⟨m, rfl, m1, m2, m3⟩
  unfold F_tightest_L1
  simp only [hN, decide_eq_true_eq, decide_eq_false_iff_not, Int.toNat_natCast]
  refine ⟨fun h => ⟨⟨by omega, by simp only [Int.toNat_natCast]; omega, by simp only [Int.toNat_natCast, maxLen]; omega⟩, ?_⟩, fun h => ?_⟩
  · have hm : m < N := by omega
    refine ⟨fun j row => ∃ b : Nat, j = b ∧ b ≤ N ∧ row.length = N ∧ ∀ v, v < b → row.getD v 0 = inf, fun j _ => (N - j).toNat, ⟨0, rfl, Nat.zero_le _, by simp, fun k h => absurd h (Nat.not_lt_zero _)⟩, ?_⟩
    rintro _ row ⟨b, rfl, b1, b2, b3⟩
    unfold F_tightest_L2
    simp only [hN, decide_eq_true_eq, decide_eq_false_iff_not, Int.toNat_natCast]
    refine ⟨fun h => ⟨⟨by omega, by omega⟩, ?_⟩, fun h => ⟨⟨by omega, by omega⟩, ?_⟩⟩
    · intro d hd
      rw [w64 (by omega)]
      refine ⟨⟨b + 1, by omega, by omega, by rw [hd]; simpa using b2, fun v hv => ?_⟩, by omega⟩
      rw [hd, getD_set (by omega)]
      split
      · rfl
      · exact b3 v (by omega)
    · intro d hd
      have hb : b = N := by omega
      subst hb
      have dl : d.length = b := by rw [hd]; simpa using b2
      have d0 : Row b (Wd n) m 0 0 0 (Rw d) := Row.init hm fun v hv => by
        unfold Rw
        rw [hd, getD_set (by omega)]
        split
        · rfl
        · exact b3 v hv
      clear hd
      generalize hK : (fun r => r = sp_tighten n) = K
      refine ⟨fun t row => ∃ ρ : Nat, t = ρ ∧ ρ ≤ b + 1 ∧ row.length = b ∧ (ρ ≤ b → Row b (Wd n) m ρ 0 0 (Rw row)) ∧ (ρ = b + 1 → RowGood b (Wd n) m (Rw row)), fun t _ => (b + 1 - t).toNat, ⟨0, rfl, by omega, dl, fun _ => d0, fun h => by omega⟩, ?_⟩
      rintro _ row3 ⟨ρ, rfl, ρ1, ρ2, ρ3, ρ4⟩
      unfold F_tightest_L3
      simp only [hN, decide_eq_true_eq, decide_eq_false_iff_not]
      refine ⟨fun g => ?_, fun g => ?_⟩
      · have ρN : ρ ≤ b := by omega
        refine ⟨fun t row => ∃ a : Nat, t = a ∧ a ≤ b ∧ row.length = b ∧ Row b (Wd n) m ρ a 0 (Rw row), fun t _ => (b - t).toNat, ⟨0, rfl, Nat.zero_le _, ρ2, ρ3 ρN⟩, ?_⟩
        rintro _ row5 ⟨a, rfl, a1, a2, a3⟩
        unfold F_tightest_L4
        simp only [hN, decide_eq_true_eq, decide_eq_false_iff_not]
        refine ⟨fun g2 => ?_, fun g2 => ?_⟩
        · have ha : a < b := by omega
          refine ⟨fun t row => ∃ c : Nat, t = c ∧ c ≤ b ∧ row.length = b ∧ Row b (Wd n) m ρ a c (Rw row), fun t _ => (b - t).toNat, ⟨0, rfl, Nat.zero_le _, a2, a3⟩, ?_⟩
          rintro _ row7 ⟨c, rfl, c1, c2, c3⟩
          unfold F_tightest_L5
          simp only [hN, decide_eq_true_eq, decide_eq_false_iff_not]
          refine ⟨fun g3 => ⟨ok, ?_⟩, fun g3 => ?_⟩
          · have hc : c < b := by omega
            intro r2 hr2
            rw [sp_direct_eq ok] at hr2
            subst hr2
            have ia : inb row7 (a : Int) := ⟨by omega, by omega⟩
            have ic : inb row7 (c : Int) := ⟨by omega, by omega⟩
            have low := c3.low a ha
            have up := c3.le a ha
            have w1 := W1 a c
            have w3 := W3 a c
            simp only [inf] at up w3
            have no : ¬ (Rw row7 a < inf ∧ Wd n a c < inf ∧ Rw row7 a + Wd n a c < Rw row7 c) → F_tightest_J1 (c : Int) (fun t row => ∃ c : Nat, t = c ∧ c ≤ b ∧ row.length = b ∧ Row b (Wd n) m ρ a c (Rw row)) (fun t _ => (b - t).toNat) row7 row7 := fun hno => by
              unfold F_tightest_J1
              rw [w64 (by omega)]
              exact ⟨⟨c + 1, by omega, by omega, c2, c3.skip W2 (by omega) hno⟩, show ((b : Int) - ((c : Int) + 1)).toNat < ((b : Int) - (c : Int)).toNat by omega⟩
            have ew := w64 (n := Rw row7 a + Wd n a c) (by omega)
            unfold F_tightest_J2
            simp only [hN, decide_eq_true_eq, decide_eq_false_iff_not, Bool.false_eq_true, false_implies, true_and, forall_const]
            simp only [gt_Rw, ew]
            refine ⟨ia, fun e1 => ⟨fun e2 => ⟨ic, fun e3 => ⟨fun e4 => ?_, fun e4 => ⟨ia, ic, ?_⟩⟩, fun e3 => no (by simp only [inf]; omega)⟩, fun e2 => no (by simp only [inf]; omega)⟩, fun e1 => no (by simp only [inf]; omega)⟩
            · have e5 : (ρ : Int) = (b : Int) := by simpa using e4
              have : ρ = b := by omega
              subst this
              rw [← hK]
              exact tighten_is (.inr ⟨by rw [htn]; exact c3.neg ha hc e1 e2 e3, rfl⟩)
            · have e5 : ¬ (ρ : Int) = (b : Int) := by simpa using e4
              have hne : ρ ≠ b := by omega
              intro d3 hd3
              unfold F_tightest_J1
              rw [w64 (n := (c : Int) + 1) (by omega)]
              refine ⟨⟨c + 1, by omega, by omega, by rw [hd3]; simpa using c2, c3.relax W1 hne ha hc e1 e2 e3 (fun v hv => ?_) hm⟩, show ((b : Int) - ((c : Int) + 1)).toNat < ((b : Int) - (c : Int)).toNat by omega⟩
              unfold Rw
              rw [hd3, Int.toNat_natCast, getD_set (by omega)]
              rfl
          · have : c = b := by omega
            subst this
            rw [w64 (by omega)]
            exact ⟨⟨a + 1, by omega, by omega, c2, c3.next hN10⟩, by omega⟩
        · have : a = b := by omega
          subst this
          rw [w64 (by omega)]
          refine ⟨⟨ρ + 1, by omega, by omega, a2, fun h => a3.round hN10, fun h => ?_⟩, by omega⟩
          have : ρ = a := by omega
          subst this
          exact a3.good W2 hN10
      · have hρ : ρ = b + 1 := by omega
        have good := ρ4 hρ
        rw [w64 (by omega)]
        refine ⟨⟨by simp only [List.length_append, List.length_singleton, m2, maxLen]; omega, by simp only [List.length_append, List.length_singleton, m2]; omega⟩, ⟨m + 1, by omega, by omega, by simp [m2], fun k hk => ?_⟩, by omega⟩
        by_cases c : k < m
        · rw [getD_app_l (by omega)]; exact m3 k c
        · have : k = m := by omega
          subst this
          rw [getD_app_r (by omega), m2, Nat.sub_self]
          exact ⟨ρ2, good⟩
  · have : m = N := by omega
    subst this
    refine tighten_is (.inl ⟨fun a b => Mx all a b, ?_, ?_⟩)
    · rw [htn]
      exact tight_rows fun i hi => (m3 i hi).2
    · rw [htn]
      exact congrArg (fun z => (z, true)) (mat_ext (N := m) (d := all) (f := fun a b => Mx all a b) ⟨m2, fun a h => (m3 a h).1⟩ fun _ _ _ _ => rfl)
end Go.Proofs.Ytkcamohhjaibaaa.Pl
