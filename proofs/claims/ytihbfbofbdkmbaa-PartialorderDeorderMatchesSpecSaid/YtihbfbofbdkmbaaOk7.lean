/- The number of orders; the law. Plain Lean. No condition. -/
import Derived.Test.YtihbfbofbdkmbaaCm
namespace Go.Proofs.Ytihbfbofbdkmbaa.Pl
open Go Go.RowKit
theorem or64 (a b : Nat) (ha : a < 9223372036854775808) (hb : b < 9223372036854775808) : bits .or .i64 (a : Int) (b : Int) = ((a ||| b : Nat) : Int) := by
  have hx : a ||| b < 2 ^ 63 := Nat.or_lt_two_pow (by omega) (by omega)
  have h1 : (BitVec.ofInt 64 (a : Int)).toNat = a := by
    rw [BitVec.ofInt_natCast, BitVec.toNat_ofNat]; exact Nat.mod_eq_of_lt (by omega)
  have h2 : (BitVec.ofInt 64 (b : Int)).toNat = b := by
    rw [BitVec.ofInt_natCast, BitVec.toNat_ofNat]; exact Nat.mod_eq_of_lt (by omega)
  show IntKind.i64.wrap ((BitVec.ofInt 64 (a : Int) ||| BitVec.ofInt 64 (b : Int)).toNat : Int) = _
  rw [BitVec.toNat_or, h1, h2, w64 (by omega)]
theorem and64 (a b : Nat) (ha : a < 9223372036854775808) (hb : b < 9223372036854775808) : bits .and .i64 (a : Int) (b : Int) = ((a &&& b : Nat) : Int) := by
  have hx : a &&& b < 2 ^ 63 := Nat.and_lt_two_pow _ (by omega)
  have h1 : (BitVec.ofInt 64 (a : Int)).toNat = a := by
    rw [BitVec.ofInt_natCast, BitVec.toNat_ofNat]; exact Nat.mod_eq_of_lt (by omega)
  have h2 : (BitVec.ofInt 64 (b : Int)).toNat = b := by
    rw [BitVec.ofInt_natCast, BitVec.toNat_ofNat]; exact Nat.mod_eq_of_lt (by omega)
  show IntKind.i64.wrap ((BitVec.ofInt 64 (a : Int) &&& BitVec.ofInt 64 (b : Int)).toNat : Int) = _
  rw [BitVec.toNat_and, h1, h2, w64 (by omega)]
/-- a bit of a small number -/
theorem bit64 {S i : Nat} (hS : S < 1000) (hi : i ≤ 64) : bits .and .i64 (Int.fdiv (S : Int) (2 ^ (min ((i : Int)).toNat (IntKind.bits .i64)))) 1 = if S.testBit i = true then 1 else 0 := by
  have e1 : min ((i : Int)).toNat (IntKind.bits .i64) = i := by
    rw [Int.toNat_natCast]; show min i 64 = i; omega
  have e2 : Int.fdiv (S : Int) (2 ^ i) = ((S / 2 ^ i : Nat) : Int) := by
    rw [Int.fdiv_eq_ediv_of_nonneg _ (Int.le_of_lt (Int.pow_pos (by decide)))]
    simp
  have e3 : S / 2 ^ i ≤ S := Nat.div_le_self _ _
  rw [e1, e2]
  have := and64 (S / 2 ^ i) 1 (by omega) (by omega)
  rw [show ((1 : Nat) : Int) = 1 from rfl] at this
  rw [this, Nat.and_one_is_mod, Nat.testBit_eq_decide_div_mod_eq]
  rcases Nat.mod_two_eq_zero_or_one (S / 2 ^ i) with h | h <;> rw [h] <;> simp
theorem shl64 {i : Nat} (hi : i ≤ 7) : IntKind.i64.wrap (1 * 2 ^ (min ((i : Int)).toNat (IntKind.bits .i64))) = ((2 ^ i : Nat) : Int) := by
  have e1 : min ((i : Int)).toNat (IntKind.bits .i64) = i := by
    rw [Int.toNat_natCast]; show min i 64 = i; omega
  have e2 : 2 ^ i ≤ 2 ^ 7 := Nat.pow_le_pow_right (by omega) hi
  rw [e1, Int.one_mul, show (2 : Int) ^ i = ((2 ^ i : Nat) : Int) by simp]
  generalize 2 ^ i = N at e2 ⊢
  exact w64 (by omega)
open Classical in
noncomputable def gSum (before : List (Int × Int)) (n s : Nat) (j : Nat) : Nat := if Fr before n s j then wy before n (s ||| 2 ^ j) else 0
/-- between two sets -/
structure Dp (before : List (Int × Int)) (n s : Nat) (ways : List Int) : Prop where
  len : ways.length = 2 ^ n
  rng : ∀ S : Nat, S < 2 ^ n → 0 ≤ gt ways (S : Int) ∧ gt ways (S : Int) ≤ 823543
  rea : ∀ S : Nat, S < 2 ^ n → gt ways (S : Int) ≠ 0 → ∃ done, Inv before n done ∧ Msk n S done
  pot : s < 2 ^ n → sumN (fun S => if s ≤ S then (gt ways (S : Int)).toNat * wy before n S else 0) (2 ^ n) = wy before n 0
  fin : s = 2 ^ n → gt ways ((2 ^ n - 1 : Nat) : Int) = (wy before n 0 : Int)
/-- while a set is passed on -/
structure Di (before : List (Int × Int)) (n s A i : Nat) (w : Int) (ways : List Int) : Prop where
  len : ways.length = 2 ^ n
  rng : ∀ S : Nat, S < 2 ^ n → 0 ≤ gt ways (S : Int) ∧ gt ways (S : Int) ≤ 823543
  rea : ∀ S : Nat, S < 2 ^ n → gt ways (S : Int) ≠ 0 → ∃ done, Inv before n done ∧ Msk n S done
  cur : gt ways (s : Int) = w
  pot : sumN (fun S => if s < S then (gt ways (S : Int)).toNat * wy before n S else 0) (2 ^ n) = A + w.toNat * sumN (gSum before n s) i
  tot : A + w.toNat * wy before n s = wy before n 0
  las : s + 1 = 2 ^ n → A = 0
section
variable {before : List (Int × Int)} {n s A i : Nat} {w : Int} {ways : List Int}
theorem wy_zero (hr : Rng n before) (hn : n ≤ 7) : wy before n 0 = (ordersF before n n []).length ∧ wy before n 0 ≤ 823543 := by
  have h := orders_wy hr Inv.nil (Nat.zero_le _) (Msk.nil (n := n))
  rw [List.length_nil, Nat.sub_zero] at h
  exact ⟨h.symm, h ▸ Nat.le_trans (orders_len n []) (pow_le7 hn hn)⟩
theorem Dp.zero : Dp before n 0 ((List.replicate (2 ^ n) (0 : Int)).set 0 1) := by
  have hp : 0 < 2 ^ n := Nat.two_pow_pos n
  have hg : ∀ S : Nat, S < 2 ^ n → gt ((List.replicate (2 ^ n) (0 : Int)).set 0 1) (S : Int) = if S = 0 then 1 else 0 := fun S hS => by
    have := gt_setI (xs := List.replicate (2 ^ n) (0 : Int)) (i := ((0 : Nat) : Int)) (j := (S : Int)) (x := 1) ⟨by omega, by rw [List.length_replicate]; omega⟩ (by omega)
    rw [Int.toNat_natCast] at this
    rw [this]
    by_cases e : S = 0
    · rw [if_pos (by omega), if_pos e]
    · rw [if_neg (by omega), if_neg e, gt_of ⟨by omega, by rw [List.length_replicate]; omega⟩, List.getElem_replicate]
  refine ⟨by rw [List.length_set, List.length_replicate], fun S hS => ?_, fun S hS h => ?_, fun _ => ?_, fun h => by omega⟩
  · rw [hg S hS]; split <;> omega
  · rw [hg S hS] at h
    have : S = 0 := by
      refine Classical.byContradiction fun g => h ?_
      rw [if_neg g]
    subst this
    exact ⟨[], .nil, .nil⟩
  · have := sumN_upd (g := fun _ => 0) (f := fun S : Nat => if 0 ≤ S then (gt ((List.replicate (2 ^ n) (0 : Int)).set 0 1) (S : Int)).toNat * wy before n S else 0) (m := 0) (k := 2 ^ n) hp fun S hS hne => by
      simp only [Nat.zero_le, if_true]
      rw [hg S hS, if_neg hne]; simp
    rw [sumN_zero (g := fun _ => 0) fun _ _ => rfl] at this
    simp only [Nat.add_zero, Nat.zero_add] at this
    rw [this]
    simp only [Nat.zero_le, if_true]
    rw [hg 0 hp, if_pos rfl]
    simp
theorem Dp.start (d : Dp before n s ways) (hs : s < 2 ^ n) : Di before n s (sumN (fun S => if s < S then (gt ways (S : Int)).toNat * wy before n S else 0) (2 ^ n)) 0 (gt ways (s : Int)) ways := by
  refine ⟨d.len, d.rng, d.rea, rfl, by simp [sumN], ?_, fun h => sumN_zero fun S hS => if_neg (by omega)⟩
  have := sumN_upd (g := fun S => if s < S then (gt ways (S : Int)).toNat * wy before n S else 0) (f := fun S => if s ≤ S then (gt ways (S : Int)).toNat * wy before n S else 0) (m := s) (k := 2 ^ n) hs fun S _ hne => by
    by_cases q : s < S
    · rw [if_pos q, if_pos (by omega)]
    · rw [if_neg q, if_neg (by omega)]
  rw [d.pot hs, if_neg (Nat.lt_irrefl s), if_pos (Nat.le_refl s)] at this
  omega
theorem Di.skip (d : Di before n s A i w ways) (h : ¬ Fr before n s i) : Di before n s A (i + 1) w ways := ⟨d.len, d.rng, d.rea, d.cur, by rw [d.pot, sumN, gSum, if_neg h, Nat.add_zero], d.tot, d.las⟩
theorem Di.go (ac : Acyc before) (hr : Rng n before) (hn : n ≤ 7) (hs : s < 2 ^ n) (d : Di before n s A i w ways) (hi : i < n) (h : Fr before n s i) :
    gt ways ((s ||| 2 ^ i : Nat) : Int) + w ≤ 823543 ∧ Di before n s A (i + 1) w (ways.set (s ||| 2 ^ i) (gt ways ((s ||| 2 ^ i : Nat) : Int) + w)) := by
  have hm : s ||| 2 ^ i < 2 ^ n := or_lt hs hi
  have hsm : s < s ||| 2 ^ i := or_gt h.1
  generalize hme : s ||| 2 ^ i = m at hm hsm ⊢
  have hw0 := (d.rng s hs).1
  rw [d.cur] at hw0
  have hm0 := d.rng m hm
  have hfull : s ≠ 2 ^ n - 1 := by omega
  have hg : ∀ S : Nat, gt (ways.set m (gt ways (m : Int) + w)) (S : Int) = if S = m then gt ways (m : Int) + w else gt ways (S : Int) := fun S => by
    have := gt_setI (xs := ways) (i := (m : Int)) (j := (S : Int)) (x := gt ways (m : Int) + w) ⟨by omega, by rw [d.len]; omega⟩ (by omega)
    rw [Int.toNat_natCast] at this
    rw [this]
    by_cases e : S = m
    · rw [if_pos e, if_pos (by omega)]
    · rw [if_neg e, if_neg (by omega)]
  have hup := sumN_upd (g := fun S => if s < S then (gt ways (S : Int)).toNat * wy before n S else 0) (f := fun S => if s < S then (gt (ways.set m (gt ways (m : Int) + w)) (S : Int)).toNat * wy before n S else 0) (m := m) (k := 2 ^ n) hm fun S _ hne => by rw [hg S, if_neg hne]
  have hone := sumN_one (g := fun S => if s < S then (gt (ways.set m (gt ways (m : Int) + w)) (S : Int)).toNat * wy before n S else 0) hm
  rw [if_pos hsm, if_pos hsm, hg m, if_pos rfl, d.pot] at hup
  rw [if_pos hsm, hg m, if_pos rfl] at hone
  have e1 : (gt ways (m : Int) + w).toNat = (gt ways (m : Int)).toNat + w.toNat := by omega
  rw [e1, Nat.add_mul] at hup hone
  have e2 : sumN (gSum before n s) (i + 1) = sumN (gSum before n s) i + wy before n m := by rw [sumN, gSum, if_pos h, hme]
  have hpot : sumN (fun S => if s < S then (gt (ways.set m (gt ways (m : Int) + w)) (S : Int)).toNat * wy before n S else 0) (2 ^ n) = A + w.toNat * sumN (gSum before n s) (i + 1) := by
    rw [e2, Nat.mul_add]
    omega
  have hreach : w ≠ 0 → ∃ done, Inv before n done ∧ Msk n m done := fun hw => by
    obtain ⟨done, h1, h2⟩ := d.rea s hs (by rw [d.cur]; exact hw)
    refine ⟨done ++ [(i : Int)], h1.add ((h2.fr h1 hr hi).1 h) ⟨by omega, by omega⟩, ?_⟩
    have := h2.add hi
    rwa [hme] at this
  have hwy : wy before n s = sumN (gSum before n s) n := by
    have := wy_eq (before := before) hs hfull
    rw [this]
    refine sumN_congr fun j _ => ?_
    rfl
  have bound : gt ways (m : Int) + w ≤ 823543 := by
    by_cases hw : w = 0
    · omega
    · obtain ⟨done, h1, h2⟩ := hreach hw
      have hpos := wy_pos ac hr h1 h2
      have hmono : sumN (gSum before n s) (i + 1) ≤ sumN (gSum before n s) n := sumN_mono (by omega)
      have hmul : w.toNat * sumN (gSum before n s) (i + 1) ≤ w.toNat * sumN (gSum before n s) n := Nat.mul_le_mul_left _ hmono
      have htot := d.tot
      rw [hwy] at htot
      have hz := (wy_zero hr hn).2
      have hle : ((gt ways (m : Int)).toNat + w.toNat) * 1 ≤ ((gt ways (m : Int)).toNat + w.toNat) * wy before n m := Nat.mul_le_mul_left _ hpos
      rw [Nat.add_mul _ _ (wy before n m)] at hle
      omega
  refine ⟨bound, by rw [List.length_set, d.len], fun S hS => ?_, fun S hS hne => ?_, ?_, hpot, d.tot, d.las⟩
  · rw [hg S]
    split
    · omega
    · exact d.rng S hS
  · rw [hg S] at hne
    split at hne
    · rename_i e
      subst e
      by_cases hw : w = 0
      · exact d.rea S hS (by omega)
      · exact hreach hw
    · exact d.rea S hS hne
  · rw [hg s, if_neg (by omega)]; exact d.cur
theorem Di.done (d : Di before n s A n w ways) (hs : s < 2 ^ n) : Dp before n (s + 1) ways := by
  have hw0 := (d.rng s hs).1
  rw [d.cur] at hw0
  refine ⟨d.len, d.rng, d.rea, fun h => ?_, fun h => ?_⟩
  · have hfull : s ≠ 2 ^ n - 1 := by omega
    have hwy : wy before n s = sumN (gSum before n s) n := by
      have := wy_eq (before := before) hs hfull
      rw [this]
      refine sumN_congr fun j _ => ?_
      rfl
    rw [← d.tot, hwy, ← d.pot]
    exact sumN_congr fun S _ => rfl
  · have e : s = 2 ^ n - 1 := by omega
    have h1 := d.tot
    have h2 := d.cur
    rw [d.las h, e, wy_full] at h1
    rw [e] at h2
    rw [h2]
    omega
end
theorem ok_count : ∀ (n_ : Int) (before : List (Int × Int)), F_count n_ before (fun r => r = sp_count n_ before) := fun m before => by
  unfold F_count
  simp only [forall_eq, fault_ne, fault_eq]
  refine ⟨fun h => ?_, fun h => ?_⟩
  · rw [sp_count, if_neg h]
  obtain ⟨ok, hne⟩ := ordOK_of h
  have ac := (acyc_iff ok).1 hne
  have hs : sp_count m before = (((sp_orders m before []).length : Int), ⟨0, 0⟩) := by rw [sp_count, if_pos h]
  refine ⟨ok, ok.lo, ?_⟩
  rw [hs, sp_closure, if_neg hne, sp_orders_nil]
  obtain ⟨n, rfl⟩ := Int.eq_ofNat_of_zero_le ok.lo
  have hr : Rng n before := ok.rngN
  have h7 : n ≤ 7 := by have := ok.hi; omega
  have hN : 2 ^ n ≤ 2 ^ 7 := Nat.pow_le_pow_right (by omega) h7
  have hP : 0 < 2 ^ n := Nat.two_pow_pos n
  have hz := wy_zero hr h7
  rw [shl64 h7]
  simp only [Int.toNat_natCast]
  rw [← hz.1]
  refine ⟨⟨by omega, by simp only [Int.toNat_natCast]; omega, by simp only [Int.toNat_natCast, maxLen]; omega⟩, ⟨by omega, by rw [List.length_replicate]; omega⟩, ?_⟩
  refine ⟨fun t ways => ∃ s : Nat, t = s ∧ s ≤ 2 ^ n ∧ Dp before n s ways, fun t _ => (2 ^ n - t).toNat, ⟨0, rfl, Nat.zero_le _, .zero⟩, ?_⟩
  rintro _ ways ⟨s, rfl, s1, s2⟩
  unfold F_count_L1
  simp only [decide_eq_true_eq, decide_eq_false_iff_not, Int.toNat_natCast]
  have ep : (2 : Int) ^ n = ((2 ^ n : Nat) : Int) := by simp
  refine ⟨fun hlt => ?_, fun hge => ?_⟩
  · have hs' : s < 2 ^ n := by omega
    have d0 := s2.start hs'
    generalize (sumN (fun S => if s < S then (gt ways (S : Int)).toNat * wy before n S else 0) (2 ^ n)) = A at d0
    generalize gt ways (s : Int) = w at d0
    refine ⟨fun t ways3 => ∃ i : Nat, t = i ∧ i ≤ n ∧ Di before n s A i w ways3, fun t _ => (n - t).toNat, ⟨0, rfl, Nat.zero_le _, d0⟩, ?_⟩
    rintro _ ways3 ⟨i, rfl, i1, d⟩
    unfold F_count_L2
    rw [bit64 (by omega) (by omega)]
    simp only [decide_eq_true_eq, decide_eq_false_iff_not, forall_eq]
    refine ⟨fun hi => ⟨by omega, ?_⟩, fun hi => ?_⟩
    · refine ⟨fun fr t => ∃ j : Nat, t = j ∧ j ≤ n ∧ (fr = true ↔ s.testBit i = false ∧ ∀ p : Nat, p < j → Reach before p i → s.testBit p = true), fun _ t => (n - t).toNat, ⟨0, rfl, Nat.zero_le _, ?_⟩, ?_⟩
      · cases s.testBit i <;> simp
      rintro fr _ ⟨j, rfl, j1, j2⟩
      unfold F_count_L3 F_count_J1 F_count_J2
      rw [bit64 (by omega) (by omega), shl64 (by omega)]
      simp only [decide_eq_true_eq, decide_eq_false_iff_not, forall_eq, Bool.not_eq_true', Bool.not_eq_false']
      have hi' : i < n := by omega
      rw [or64 s (2 ^ i) (by omega) (by have := Nat.pow_lt_pow_right (a := 2) (by omega) hi'; omega)]
      refine ⟨fun hj => ?_, fun hj => ?_⟩
      · have hj' : j < n := by omega
        rw [matB_gt hj' hi', w64 (by omega)]
        have next : ∀ fr' : Prop, (fr' ↔ fr = true ∧ (Reach before j i → s.testBit j = true)) → (∃ j' : Nat, (j : Int) + 1 = j' ∧ j' ≤ n ∧ (fr' ↔ s.testBit i = false ∧ ∀ p : Nat, p < j' → Reach before p i → s.testBit p = true)) ∧ ((n : Int) - (j + 1)).toNat < ((n : Int) - j).toNat := fun fr' hf => by
          refine ⟨⟨j + 1, by omega, by omega, ?_⟩, by omega⟩
          rw [hf, j2]
          refine ⟨fun g => ⟨g.1.1, fun p hp => ?_⟩, fun g => ⟨⟨g.1, fun p hp => g.2 p (by omega)⟩, g.2 j (by omega)⟩⟩
          rcases Nat.lt_or_ge p j with q | q
          · exact g.1.2 p q
          · rw [show p = j by omega]; exact g.2
        refine ⟨fun q => ⟨matB_i1 hj', matB_i2 hj' hi', fun q2 => next _ ?_, fun q2 => ⟨by omega, next _ ?_⟩⟩, fun q => next _ ?_⟩
        · have : ¬ Reach before j i := fun g => by
            rw [reachB_iff.2 g] at q2
            exact absurd q2 (by decide)
          simp [q, this]
        · have := reachB_iff.1 q2
          cases s.testBit j <;> simp [q, this]
        · simp [q]
      · have e : j = n := by omega
        subst e
        have hfr : fr = true ↔ Fr before j s i := j2
        rw [w64 (n := (i : Int) + 1) (by omega)]
        refine ⟨fun q => ?_, fun q => ⟨⟨i + 1, by omega, by omega, d.skip fun g => ?_⟩, by omega⟩⟩
        · have hF := hfr.1 q
          obtain ⟨b1, b2⟩ := d.go ac hr h7 hs' hi' hF
          have hm : s ||| 2 ^ i < 2 ^ j := or_lt hs' hi'
          have r1 := d.rng _ hm
          have r2 := d.rng _ hs'
          rw [d.cur] at r2 ⊢
          rw [w64 (by omega)]
          exact ⟨⟨by omega, by rw [d.len]; omega⟩, ⟨by omega, by rw [d.len]; omega⟩, ⟨i + 1, by omega, by omega, b2⟩, by omega⟩
        · rw [hfr.2 g] at q
          exact absurd q (by decide)
    · have e : i = n := by omega
      subst e
      rw [w64 (by omega)]
      refine ⟨⟨s + 1, by omega, by omega, d.done hs'⟩, ?_⟩
      rw [ep]; omega
  · have e : s = 2 ^ n := by omega
    rw [w64 (by omega)]
    have e2 : ((2 ^ n : Nat) : Int) - 1 = ((2 ^ n - 1 : Nat) : Int) := by omega
    rw [e2]
    refine ⟨⟨by omega, by rw [s2.len]; omega⟩, ?_⟩
    rw [s2.fin e]
theorem ok_counted : F_counted (fun r => r = sp_counted) := by
  unfold F_counted
  have e1 : sp_count 3 [(⟨0, 1⟩ : Int × Int)] = (3, ⟨0, 0⟩) := by decide
  have e2 : sp_first 2 [(⟨1, 0⟩ : Int × Int)] = ([1, 0], ⟨0, 0⟩) := by decide
  simp only [forall_eq, e1, e2]
  refine ⟨fun _ => ⟨fun _ => ⟨fun _ => ⟨show _ ≤ _ by decide, ?_⟩, fun g => absurd g (by decide)⟩, fun g => absurd g (by decide)⟩, fun g => absurd g (by decide)⟩
  decide
theorem pairF_code {n : Int} {before : List (Int × Int)} : ∀ k, (pairFault n before k).code = 0 → pairFault n before k = ⟨0, 0⟩ := fun k => by
  unfold pairFault
  split
  · exact fun _ => rfl
  · exact fun h => absurd (show (3 : Int) = 0 from h) (by decide)
theorem orderFault_code {n : Int} {before : List (Int × Int)} : (sp_orderFault n before).code = 0 → sp_orderFault n before = ⟨0, 0⟩ := by
  unfold sp_orderFault
  repeat' split
  · exact fun h => absurd h (by decide)
  · exact fun h => absurd h (by decide)
  · exact fault_code_ff pairF_code
  · exact fun h => absurd h (by decide)
  · exact fun _ => rfl
theorem fault_same (f : Fault) : (!((f.code == f.code) && (f.index == f.index))) = false := by simp
theorem ok_lawMatches : ∀ (t : Task) (steps : List Int) (n_ : Int) (before : List (Int × Int)), F_lawMatches t steps n_ before (fun r => r = sp_lawMatches t steps n_ before) := fun t st n before => by
  unfold F_lawMatches F_lawMatches_J1
  simp only [forall_eq, fault_same]
  have f1 : (sp_first n before).2 = sp_orderFault n before := by
    unfold sp_first; split
    · rename_i h; exact h.symm
    · rfl
  have f2 : (sp_count n before).2 = sp_orderFault n before := by
    unfold sp_count; split
    · rename_i h; exact h.symm
    · rfl
  rw [f1, f2, fault_same]
  refine ⟨fun g => absurd g (by decide), fun _ => ⟨fun g => absurd g (by decide), fun _ => ⟨fun g => absurd g (by decide), fun _ => ⟨fun h => ?_, fun h => ?_⟩⟩⟩⟩
  · have hne : sp_orderFault n before ≠ ⟨0, 0⟩ := fun e => by rw [e] at h; exact absurd h (by decide)
    rw [sp_first, if_neg hne, sp_count, if_neg hne]
    exact ⟨fun _ => ⟨fun _ => rfl, fun g => absurd (show true = false from g) (by decide)⟩, fun g => absurd (show true = false from g) (by decide)⟩
  · have hz : sp_orderFault n before = ⟨0, 0⟩ := orderFault_code (by simpa using h)
    obtain ⟨ok, hne⟩ := ordOK_of hz
    have h0 := ok.lo
    have h7 := ok.hi
    have hl := ok.len
    have hpos : 0 < (sp_orders n before []).length := List.length_pos_iff.2 hne
    have e1 : (sp_first n before).1 = gt (sp_orders n before []) (0 : Int) := by
      rw [sp_first, if_pos hz, gt_of ⟨by omega, by omega⟩]
      show (sp_orders n before []).headD [] = _
      rw [List.headD_eq_head?_getD, List.head?_eq_getElem?, List.getElem?_eq_getElem hpos]
      rfl
    have e2 : (sp_count n before).1 = ((sp_orders n before []).length : Int) := by rw [sp_count, if_pos hz]
    have hmem : gt (sp_orders n before []) (0 : Int) ∈ ordersF before n.toNat n.toNat [] := by
      rw [← sp_orders_nil]
      exact gt_mem ⟨by omega, by omega⟩
    have hlen := (orders_inv _ _ _ Inv.nil hmem).2.1
    rw [List.length_nil] at hlen
    rw [e1, e2]
    simp only [decide_eq_true_eq, decide_eq_false_iff_not, sp_numbers, beq_self_eq_true]
    refine ⟨⟨h0, h7, by omega, by rw [List.length_nil]; omega⟩, fun _ => ⟨⟨by omega, by omega⟩, show _ ≤ 1000 by omega, fun _ => ⟨fun _ => rfl, fun g => absurd g (by decide)⟩, fun g => absurd trivial g⟩, fun g => absurd (by omega) g⟩
end Go.Proofs.Ytihbfbofbdkmbaa.Pl
