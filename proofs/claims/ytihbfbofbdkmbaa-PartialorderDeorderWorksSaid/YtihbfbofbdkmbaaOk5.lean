/- The checks of an order, and the orders one by one. Plain Lean. No condition. -/
import Derived.Test.YtihbfbofbdkmbaaOk4
namespace Go.Proofs.Ytihbfbofbdkmbaa.Pl
open Go Go.RowKit
theorem ok_rPlanFault : ∀ (t : Task) (plan : List Int), F_rPlanFault t plan (fun r => r = sp_planFault t plan) := fun t p => by
  unfold F_rPlanFault
  simp only [forall_eq, beq_iff_eq, beq_eq_false_iff_ne, ne_eq]
  refine ⟨fun h => ⟨⟨by omega, ?_⟩, ?_⟩, fun h => ?_⟩
  · have := (taskOK_of (validate_code h)).len; omega
  · rw [sp_planFault, if_pos (validate_code h)]
  · rw [sp_planFault, if_neg fun e => h (by rw [e])]
theorem ok_ready : ∀ (before : List (Int × Int)) (done : List Int) (i : Int), pre_ready before done i → F_ready before done i (fun r => r = sp_ready before done i) := fun before done i ⟨h1, h2⟩ => by
  have bad : ∀ k : Nat, k < before.length → (gt before (k : Int)).2 = i → (gt before (k : Int)).1 ∉ done → false = sp_ready before done i := fun k hk e q => by
    cases hr : sp_ready before done i
    · rfl
    · exact absurd ((ready_iff.1 hr).1 _ (gt_memN hk) e) q
  refine ⟨fun t => ∃ k : Nat, t = k ∧ k ≤ before.length ∧ ∀ p ∈ before.take k, p.2 = i → p.1 ∈ done, fun t => (before.length - t).toNat, ⟨0, rfl, Nat.zero_le _, by simp⟩, ?_⟩
  rintro _ ⟨k, rfl, k1, k2⟩
  unfold F_ready_L1 F_ready_J1
  simp only [decide_eq_true_eq, decide_eq_false_iff_not, forall_eq, beq_iff_eq, beq_eq_false_iff_ne, ne_eq, sp_has, Bool.not_eq_true', Bool.not_eq_false']
  have next : (k : Int) < before.length → ((gt before (k : Int)).2 = i → (gt before (k : Int)).1 ∈ done) → (∃ k' : Nat, IntKind.i64.wrap ((k : Int) + 1) = k' ∧ k' ≤ before.length ∧ ∀ p ∈ before.take k', p.2 = i → p.1 ∈ done) ∧ ((before.length : Int) - IntKind.i64.wrap ((k : Int) + 1)).toNat < ((before.length : Int) - k).toNat := fun h q => by
    rw [w64 (by omega)]
    refine ⟨⟨k + 1, by omega, by omega, fun p hp => ?_⟩, by omega⟩
    rw [takeN_gt (by omega)] at hp
    rcases List.mem_append.1 hp with hp | hp
    · exact k2 p hp
    · rw [List.mem_singleton.1 hp]; exact q
  refine ⟨fun h => ⟨⟨by omega, h⟩, fun e => ⟨h2, fun q => bad k (by omega) e q, fun q => next h fun _ => q⟩, fun e => ⟨fun g => absurd g (by decide), fun _ => next h fun g => absurd g e⟩⟩, fun h => ⟨h2, ?_⟩⟩
  rw [List.take_of_length_le (by omega)] at k2
  have e1 : (before.all fun p => decide (p.2 = i → p.1 ∈ done)) = true := List.all_eq_true.2 fun p hp => decide_eq_true (k2 p hp)
  rw [sp_ready, e1, Bool.true_and, Bool.eq_iff_iff]
  simp
theorem pair_zero {n : Int} {before : List (Int × Int)} {k : Nat} (h : 0 ≤ (gt before k).1 ∧ (gt before k).1 < n ∧ 0 ≤ (gt before k).2 ∧ (gt before k).2 < n) : pairFault n before k = ⟨0, 0⟩ := by rw [pairFault, if_pos h]
theorem pair_ne {n : Int} {before : List (Int × Int)} {k : Nat} (h : ¬ (0 ≤ (gt before k).1 ∧ (gt before k).1 < n ∧ 0 ≤ (gt before k).2 ∧ (gt before k).2 < n)) : pairFault n before k = ⟨3, -9 - k⟩ := by rw [pairFault, if_neg h]
theorem pair_hit {n : Int} {before : List (Int × Int)} {k : Nat} (hn : ¬ (n < 0 ∨ 7 < n)) (hl : ¬ 30 < before.length) (hk : k < before.length) (hz : ∀ j, j < k → pairFault n before j = ⟨0, 0⟩) (h : ¬ (0 ≤ (gt before k).1 ∧ (gt before k).1 < n ∧ 0 ≤ (gt before k).2 ∧ (gt before k).2 < n)) : sp_orderFault n before = ⟨3, -9 - k⟩ := by
  have hf : pairFault n before k ≠ ⟨0, 0⟩ := by rw [pair_ne h]; exact fault_mk (by decide)
  have := ffirst_hit hk hz hf
  rw [sp_orderFault, if_neg hn, if_neg hl, if_pos (by rw [this]; exact hf), this, pair_ne h]
theorem pairs_ok {n : Int} {before : List (Int × Int)} (hn : ¬ (n < 0 ∨ 7 < n)) (hl : ¬ 30 < before.length) (hz : ∀ j, j < before.length → pairFault n before j = ⟨0, 0⟩) : OrdOK n before := ⟨by omega, by omega, by omega, fun p hp => by
  obtain ⟨k, hk, rfl⟩ := mem_gt hp
  have := hz k hk
  unfold pairFault at this
  split at this
  · rename_i h; exact ⟨⟨h.1, h.2.1⟩, h.2.2⟩
  · exact absurd this (fault_mk (by decide))⟩
theorem OrdOK.zero {n : Int} {before : List (Int × Int)} (ok : OrdOK n before) : sp_orderFault n before = if sp_orders n before [] = [] then ⟨14, -8⟩ else ⟨0, 0⟩ := by
  have h1 := ok.lo
  have h2 := ok.hi
  have h3 := ok.len
  have hz : ffirst (pairFault n before) before.length = ⟨0, 0⟩ := ffirst_none fun k hk => pair_zero (by have := ok.rng _ (gt_memN hk); exact ⟨this.1.1, this.1.2, this.2⟩)
  rw [sp_orderFault, if_neg (by omega), if_neg (by omega), if_neg (by rw [hz]; exact fun g => g rfl)]
theorem ordOK_of {n : Int} {before : List (Int × Int)} (h : sp_orderFault n before = ⟨0, 0⟩) : OrdOK n before ∧ sp_orders n before [] ≠ [] := by
  have ok : OrdOK n before := by
    unfold sp_orderFault at h
    split at h
    · exact absurd h (fault_mk (by decide))
    · split at h
      · exact absurd h (fault_mk (by decide))
      · split at h
        · rename_i h1 h2 h3; exact absurd h h3
        · rename_i h1 h2 h3
          exact pairs_ok h1 h2 (ffirst_zero (Classical.byContradiction fun g => h3 g))
  refine ⟨ok, fun e => ?_⟩
  rw [ok.zero, if_pos e] at h
  exact absurd h (fault_mk (by decide))
theorem ok_orderFault : ∀ (n_ : Int) (before : List (Int × Int)), F_orderFault n_ before (fun r => r = sp_orderFault n_ before) := fun n before => by
  have bad : (n < 0 ∨ 7 < n) → (⟨2, -5⟩ : Fault) = sp_orderFault n before := fun h => by rw [sp_orderFault, if_pos h]
  have key : ¬ (n < 0 ∨ 7 < n) → F_orderFault_J1 n before (fun r => r = sp_orderFault n before) false := fun hn => by
    unfold F_orderFault_J1
    simp only [decide_eq_true_eq, decide_eq_false_iff_not]
    refine ⟨fun g => absurd g (by decide), fun _ => ⟨fun h => ?_, fun hl => ?_⟩⟩
    · rw [sp_orderFault, if_neg hn, if_pos (by omega)]
    refine ⟨fun t => ∃ k : Nat, t = k ∧ k ≤ before.length ∧ ∀ j, j < k → pairFault n before j = ⟨0, 0⟩, fun t => (before.length - t).toNat, ⟨0, rfl, Nat.zero_le _, fun j hj => by omega⟩, ?_⟩
    rintro _ ⟨k, rfl, k1, k2⟩
    unfold F_orderFault_L1 F_orderFault_J2
    rw [w64 (n := -9 - (k : Int)) (by omega), w64 (n := (k : Int) + 1) (by omega)]
    simp only [decide_eq_true_eq, decide_eq_false_iff_not, forall_eq, Bool.not_eq_true', Bool.not_eq_false']
    refine ⟨fun h => ⟨⟨by omega, h⟩, fun q => ⟨fun _ => ?_, fun g => absurd g (by decide)⟩, fun q => ⟨fun q2 => ?_, fun q2 => ?_⟩⟩, fun h => ?_⟩
    · refine (pair_hit hn (by omega) (by omega) k2 fun g => ?_).symm
      split at q <;> omega
    · refine (pair_hit hn (by omega) (by omega) k2 fun g => ?_).symm
      split at q2 <;> omega
    · refine ⟨⟨k + 1, by omega, by omega, zero_next k2 (pair_zero ?_)⟩, by omega⟩
      split at q <;> split at q2 <;> omega
    · have ok := pairs_ok hn (by omega) fun j hj => k2 j (by omega)
      refine ⟨ok, fun q => ?_, fun q => ?_⟩
      · rw [ok.zero, if_pos]
        unfold sp_closure at q
        split at q
        · assumption
        · exact absurd (show true = false from q) (by decide)
      · rw [ok.zero, if_neg]
        unfold sp_closure at q
        split at q
        · exact absurd (show false = true from q) (by decide)
        · assumption
  unfold F_orderFault
  simp only [decide_eq_true_eq, decide_eq_false_iff_not]
  refine ⟨fun h => ⟨fun _ => bad (.inl h), fun g => absurd g (by decide)⟩, fun h => ?_⟩
  by_cases h2 : 7 < n
  · rw [decide_eq_true h2]
    exact ⟨fun _ => bad (.inr h2), fun g => absurd g (by decide)⟩
  · rw [decide_eq_false h2]
    exact key (by omega)
section
variable {before : List (Int × Int)} {n : Nat}
theorem ready_more {done e : List Int} {i : Int} (h : sp_ready before done i = true) (hi : i ∉ done ++ e) : sp_ready before (done ++ e) i = true :=
  ready_iff.2 ⟨fun p hp q => List.mem_append_left _ ((ready_iff.1 h).1 p hp q), hi⟩
end
theorem ok_rOrderFault : ∀ (n_ : Int) (before : List (Int × Int)), F_rOrderFault n_ before (fun r => r = sp_orderFault n_ before) := fun m before => by
  unfold F_rOrderFault
  simp only [forall_eq, sp_in_, sp_at_, Bool.not_eq_true', Bool.not_eq_false', Bool.and_eq_true, Bool.and_eq_false_iff, decide_eq_true_eq, decide_eq_false_iff_not]
  refine ⟨fun h => ?_, fun hn => ⟨fun h => ?_, fun hl => ?_⟩⟩
  · rw [sp_orderFault, if_pos (by omega)]
  · rw [sp_orderFault, if_neg (by omega), if_pos (by omega)]
  refine ⟨fun t => ∃ k : Nat, t = k ∧ k ≤ before.length ∧ ∀ j, j < k → pairFault m before j = ⟨0, 0⟩, fun t => (before.length - t).toNat, ⟨0, rfl, Nat.zero_le _, fun j hj => by omega⟩, ?_⟩
  rintro _ ⟨k, rfl, k1, k2⟩
  unfold F_rOrderFault_L1 F_rOrderFault_J1
  rw [w64 (n := -9 - (k : Int)) (by omega), w64 (n := (k : Int) + 1) (by omega), w64 (n := m - 1) (by omega)]
  simp only [decide_eq_true_eq, decide_eq_false_iff_not, forall_eq, sp_in_, sp_at_, Bool.not_eq_true', Bool.not_eq_false', Bool.and_eq_true, Bool.and_eq_false_iff]
  refine ⟨fun h => ⟨⟨by omega, h⟩, fun q => ⟨fun _ => ?_, fun g => absurd g (by decide)⟩, fun q => ⟨fun q2 => ?_, fun q2 => ?_⟩⟩, fun h => ?_⟩
  · exact (pair_hit (by omega) (by omega) (by omega) k2 (by omega)).symm
  · exact (pair_hit (by omega) (by omega) (by omega) k2 (by omega)).symm
  · exact ⟨⟨k + 1, by omega, by omega, zero_next k2 (pair_zero (by omega))⟩, by omega⟩
  have ok := pairs_ok (by omega) (by omega) fun j hj => k2 j (by omega)
  clear k1 k2 h
  obtain ⟨n, rfl⟩ := Int.eq_ofNat_of_zero_le ok.lo
  have hr : Rng n before := ok.rngN
  refine ⟨fun t d => ∃ k : Nat, t = k ∧ k ≤ n ∧ Inv before n d ∧ (Acyc before → k ≤ d.length ∨ n ≤ d.length), fun t _ => (n - t).toNat, ⟨0, rfl, Nat.zero_le _, .nil, fun _ => .inl (Nat.zero_le _)⟩, ?_⟩
  rintro _ d ⟨k, rfl, k1, k2, k3⟩
  unfold F_rOrderFault_L2
  simp only [decide_eq_true_eq, decide_eq_false_iff_not, forall_eq, sp_at_]
  refine ⟨fun h => ?_, fun h => ⟨fun q => ?_, fun q => ?_⟩⟩
  · refine ⟨fun t d3 => ∃ i : Nat, t = i ∧ i ≤ n ∧ Inv before n d3 ∧ ∃ e, d3 = d ++ e ∧ ∀ j : Nat, j < i → sp_ready before d j = true → (j : Int) ∈ d3, fun t _ => (n - t).toNat, ⟨0, rfl, Nat.zero_le _, k2, [], by simp, fun j hj => by omega⟩, ?_⟩
    rintro _ d3 ⟨i, rfl, i1, i2, e, rfl, i3⟩
    unfold F_rOrderFault_L3 F_rOrderFault_J2
    rw [w64 (n := (i : Int) + 1) (by omega), w64 (n := (k : Int) + 1) (by omega)]
    simp only [decide_eq_true_eq, decide_eq_false_iff_not, forall_eq]
    have hlen := len_le i2.nd i2.rng
    refine ⟨fun g => ⟨⟨by omega, by omega⟩, fun q => ⟨⟨?_, ?_⟩, ⟨i + 1, by omega, by omega, i2.add q ⟨by omega, by omega⟩, e ++ [(i : Int)], by rw [List.append_assoc], fun j hj hq => ?_⟩, by omega⟩, fun q => ⟨⟨i + 1, by omega, by omega, i2, e, rfl, fun j hj hq => ?_⟩, by omega⟩⟩, fun g => ?_⟩
    · rw [List.length_append, List.length_singleton]; simp only [maxLen]; omega
    · rw [List.length_append, List.length_singleton]; omega
    · rcases Nat.lt_or_ge j i with p | p
      · exact List.mem_append_left _ (i3 j p hq)
      · rw [show j = i by omega]; exact List.mem_append_right _ List.mem_cons_self
    · rcases Nat.lt_or_ge j i with p | p
      · exact i3 j p hq
      · have e1 : j = i := by omega
        subst e1
        refine Classical.byContradiction fun r => ?_
        rw [ready_more hq r] at q
        exact absurd q (by decide)
    · refine ⟨⟨k + 1, by omega, by omega, i2, fun ac => ?_⟩, by omega⟩
      rcases Nat.lt_or_ge d.length n with p | p
      · have hk := k3 ac
        obtain ⟨j, hj, hq⟩ := some_ready ac hr p
        have hin := i3 j (by omega) hq
        have : (j : Int) ∈ e := by
          rcases List.mem_append.1 hin with hin | hin
          · exact absurd hin (ready_iff.1 hq).2
          · exact hin
        have := List.length_pos_of_mem this
        rw [List.length_append]
        omega
      · rw [List.length_append]; omega
  · rw [ok.zero, if_pos]
    refine Classical.byContradiction fun g => ?_
    have := k3 ((acyc_iff ok).1 g)
    omega
  · have hlen := len_le k2.nd k2.rng
    rw [ok.zero, if_neg]
    exact (acyc_iff ok).2 (acyc_of k2 (by omega) hr)
theorem pow_le7 {n k : Nat} (hn : n ≤ 7) (hk : k ≤ 7) : n ^ k ≤ 823543 := Nat.le_trans (Nat.pow_le_pow_left hn k) (Nat.le_trans (Nat.pow_le_pow_right (by omega) hk) (by decide))
theorem ok_orders : ∀ (n_ : Int) (before : List (Int × Int)) (done : List Int), pre_orders n_ before done → F_orders n_ before done (fun r => r = sp_orders n_ before done) := fun m before done ⟨h0, h7, hb, hl⟩ => by
  obtain ⟨n, rfl⟩ := Int.eq_ofNat_of_zero_le h0
  unfold F_orders
  simp only [beq_iff_eq, beq_eq_false_iff_ne, ne_eq]
  refine ⟨fun h => ?_, fun h => ?_⟩
  · rw [sp_orders, show (n : Int).toNat - done.length = 0 by omega]; rfl
  obtain ⟨k, hk⟩ : ∃ k, n - done.length = k + 1 := ⟨n - done.length - 1, by omega⟩
  have e1 : sp_orders n before done = ordersF before n (k + 1) done := by rw [sp_orders, Int.toNat_natCast, hk]
  rw [e1, ordersF]
  refine ⟨fun t out => ∃ i : Nat, t = i ∧ i ≤ n ∧ out = (List.range i).flatMap (fun i : Nat => if sp_ready before done i = true then ordersF before n k (done ++ [(i : Int)]) else []), fun t _ => (n - t).toNat, ⟨0, rfl, Nat.zero_le _, rfl⟩, ?_⟩
  rintro _ out ⟨i, rfl, i1, rfl⟩
  unfold F_orders_L1 F_orders_J1
  have e2 : sp_orders n before ([] ++ done ++ [(i : Int)]) = ordersF before n k (done ++ [(i : Int)]) := by
    rw [sp_orders, Int.toNat_natCast, List.nil_append, List.length_append, List.length_singleton, show n - (done.length + 1) = k by omega]
  have pw : n ^ k ≤ 823543 := pow_le7 (by omega) (by omega)
  have b1 := flat_len (fun i : Nat => if sp_ready before done i = true then ordersF before n k (done ++ [(i : Int)]) else []) 823543 (List.range i) fun i _ => by
    show (if sp_ready before done i = true then ordersF before n k (done ++ [(i : Int)]) else []).length ≤ 823543
    split
    · exact Nat.le_trans (orders_len k _) pw
    · simp
  rw [List.length_range] at b1
  have b2 : i * 823543 ≤ 7 * 823543 := Nat.mul_le_mul_right _ (by omega)
  have b3 : (ordersF before n k (done ++ [(i : Int)])).length ≤ 823543 := Nat.le_trans (orders_len k _) pw
  rw [w64 (n := (i : Int) + 1) (by omega), e2]
  simp only [decide_eq_true_eq, decide_eq_false_iff_not, forall_eq, mu_orders, List.nil_append, List.length_append, List.length_singleton]
  refine ⟨fun g => ⟨⟨by omega, by omega⟩, fun q => ⟨⟨by simp only [maxLen]; omega, by omega⟩, ⟨by simp only [maxLen]; omega, by omega⟩, ⟨by omega, by omega, hb, by rw [List.length_append, List.length_singleton]; omega⟩, by omega, ⟨by simp only [maxLen]; omega, by omega⟩, ⟨i + 1, by omega, by omega, ?_⟩, by omega⟩, fun q => ⟨⟨i + 1, by omega, by omega, ?_⟩, by omega⟩⟩, fun g => ?_⟩
  · rw [List.range_succ, List.flatMap_append, List.flatMap_singleton, if_pos q]
  · rw [List.range_succ, List.flatMap_append, List.flatMap_singleton, if_neg (by rw [q]; decide), List.append_nil]
  · rw [show i = n by omega]
theorem ok_pvalidate : ∀ (t : Task) (steps : List Int) (before : List (Int × Int)), F_pvalidate t steps before (fun r => r = sp_pvalidate t steps before) := fun t s b => by
  unfold F_pvalidate
  simp only [forall_eq, fault_ne, fault_eq]
  refine ⟨fun h => ?_, fun h => ?_⟩
  · rw [sp_pvalidate, if_neg h]
  · rw [sp_pvalidate, if_pos h]
theorem ok_partialFault : ∀ (t : Task) (steps : List Int) (before : List (Int × Int)), F_partialFault t steps before (fun r => r = sp_pvalidate t steps before) := fun t s b => by
  unfold F_partialFault
  simp only [forall_eq, bne_iff_ne, ne_eq, bne_eq_false_iff_eq]
  refine ⟨fun h => ?_, fun h => ?_⟩
  · rw [sp_pvalidate, if_neg fun e => h (by rw [e])]
  · rw [sp_pvalidate, if_pos (planFault_code h)]
end Go.Proofs.Ytihbfbofbdkmbaa.Pl
