/- Plans performed by the program; pairs of steps that interfere; two laws. Plain Lean. No condition. -/
import Derived.Test.YtihbfbofbdkmbaaOk12
namespace Go.Proofs.Ytihbfbofbdkmbaa.Pl
open Go Go.RowKit
theorem ok_srun : ∀ (t : Task) (s_ : List Int) (plan : List Int), pre_srun t s_ plan → F_srun t s_ plan (fun r => r = sp_srun t s_ plan) := fun t s plan ⟨h1, h2, h3, h4⟩ => by
  have tk := taskOK_of h1
  have hf := tk.facts
  have hs := set_len hf.1 h2
  refine ⟨show s.length ≤ 1000 by omega, fun r2 hr2 => ?_⟩
  rw [show r2 = s from hr2]
  refine ⟨fun s2 x out => ∃ (k : Nat) (p : List (List Int)), x = k ∧ k ≤ plan.length ∧ sp_isSet s2 t.facts = true ∧ out = p ++ [s2] ∧ p.length = k ∧ sp_srun t s plan = p ++ sp_srun t s2 (plan.drop k), fun _ x _ => (plan.length - x).toNat, ⟨0, [], rfl, Nat.zero_le _, h2, rfl, rfl, by simp⟩, ?_⟩
  rintro s2 _ out ⟨k, p, rfl, k1, k2, rfl, k3, k4⟩
  unfold F_srun_L1
  simp only [decide_eq_true_eq, decide_eq_false_iff_not, forall_eq, Bool.not_eq_true', Bool.not_eq_false', List.length_append, List.length_singleton]
  refine ⟨fun h => ?_, fun h => ?_⟩
  · have hk : k < plan.length := by omega
    have hop := h4 _ (gt_memN hk)
    have hd := drop_gt (xs := plan) (i := (k : Int)) ⟨by omega, h⟩
    rw [Int.toNat_natCast, show ((k : Int) + 1).toNat = k + 1 by omega] at hd
    rw [hd, sp_srun] at k4
    refine ⟨⟨by omega, h⟩, ⟨h1, hop, k2⟩, fun q => ?_, fun q => ⟨⟨h1, hop, k2⟩, ⟨by simp only [maxLen]; omega, by omega⟩, ?_⟩⟩
    · rw [k4, if_neg (by rw [q]; decide)]
    · rw [if_pos q] at k4
      rw [w64 (by omega)]
      refine ⟨⟨k + 1, p ++ [s2], by omega, by omega, after_set hf.1 _ _, rfl, by rw [List.length_append, List.length_singleton, k3], ?_⟩, by omega⟩
      rw [k4]; simp
  · rw [List.drop_of_length_le (by omega), sp_srun] at k4
    rw [k4]
theorem srun_len {t : Task} : ∀ (plan s : List Int), (sp_srun t s plan).length ≤ plan.length + 1
  | [], s => by simp [sp_srun]
  | op :: r, s => by
    have := srun_len (t := t) r (sp_after t s op)
    rw [sp_srun]
    split
    · simp only [List.length_cons]; omega
    · simp
theorem srun_ends {t : Task} (hf : 0 ≤ t.facts) : ∀ (plan s : List Int), sp_isSet s t.facts = true → ((sp_srun t s plan).length = plan.length + 1 → (sp_ends t s plan).2 = true ∧ gt (sp_srun t s plan) ((plan.length : Nat) : Int) = (sp_ends t s plan).1 ∧ sp_isSet (sp_ends t s plan).1 t.facts = true) ∧ ((sp_srun t s plan).length ≠ plan.length + 1 → (sp_ends t s plan).2 = false)
  | [], s, h => ⟨fun _ => ⟨rfl, rfl, h⟩, fun g => absurd rfl g⟩
  | op :: r, s, h => by
    have ih := srun_ends hf r (sp_after t s op) (after_set hf s op)
    rw [sp_srun, sp_ends]
    by_cases q : sp_applies t s op = true
    · rw [if_pos q, if_pos q]
      simp only [List.length_cons]
      refine ⟨fun g => ?_, fun g => ih.2 (by omega)⟩
      obtain ⟨a, b, c⟩ := ih.1 (by omega)
      refine ⟨a, ?_, c⟩
      rw [← b]
      unfold gt
      rw [Int.toNat_natCast, Int.toNat_natCast, List.getD_cons_succ]
    · rw [if_neg q, if_neg q]
      refine ⟨fun g => ?_, fun _ => rfl⟩
      simp at g
theorem ok_works : ∀ (t : Task) (s_ : List Int) (plan : List Int), pre_works t s_ plan → F_works t s_ plan (fun r => r = sp_rworks t s_ plan) := fun t s plan hp => by
  obtain ⟨h1, h2, h3, h4⟩ := hp
  have tk := taskOK_of h1
  have hf := tk.facts
  have hg := set_len hf.1 tk.goal
  unfold F_works
  rw [w64 (by omega)]
  refine ⟨⟨h1, h2, h3, h4⟩, ?_⟩
  simp only [forall_eq, beq_iff_eq, beq_eq_false_iff_ne, ne_eq]
  obtain ⟨a, b⟩ := srun_ends hf.1 plan s h2
  refine ⟨fun q => ?_, fun q => ?_⟩
  · obtain ⟨e1, e2, e3⟩ := a (by omega)
    have hl := set_len hf.1 e3
    rw [e2]
    refine ⟨⟨by omega, by omega⟩, ⟨by omega, by omega, set_sorted e3, set_sorted tk.goal⟩, ?_⟩
    rw [sp_rworks, e1, Bool.true_and]; rfl
  · rw [sp_rworks, b (by omega), Bool.false_and]
theorem ok_solves : ∀ (t : Task) (plan : List Int), F_solves t plan (fun r => r = sp_solves t plan) := fun t p => by
  unfold F_solves
  simp only [forall_eq, fault_ne, fault_eq]
  refine ⟨fun h => ?_, fun h => ⟨?_, ?_⟩⟩
  · rw [sp_solves, if_neg h]
  · obtain ⟨h1, h2, h3⟩ := plan_ok h
    exact ⟨h1, (taskOK_of h1).init, by omega, h3⟩
  · rw [sp_solves, if_pos h]; rfl
theorem ok_interfere : ∀ (t : Task) (a : Int) (b : Int), pre_interfere t a b → F_interfere t a b (fun r => r = sp_interfere t a b) := fun t a b ⟨h1, h2, h3⟩ => by
  have tk := taskOK_of h1
  have la := tk.lens h2
  have lb := tk.lens h3
  obtain ⟨a1, a2, a3, _⟩ := tk.op h2
  obtain ⟨b1, b2, b3, _⟩ := tk.op h3
  unfold F_interfere F_interfere_J1 sp_interfere
  simp only [forall_eq]
  refine ⟨h2, h3, ⟨by omega, set_sorted b1, by omega⟩, fun q => by simp [q], fun q => ⟨⟨by omega, set_sorted b1, by omega⟩, fun q2 => by simp [q2], fun q2 => ⟨⟨by omega, set_sorted a1, by omega⟩, fun q3 => by simp [q3], fun q3 => ⟨⟨by omega, set_sorted a1, by omega⟩, fun q4 => by simp [q4], fun q4 => ⟨⟨by omega, set_sorted b3, by omega⟩, fun q5 => by simp [q5], fun q5 => ⟨⟨by omega, set_sorted b2, by omega⟩, by simp [q, q2, q3, q4, q5]⟩⟩⟩⟩⟩⟩
theorem ok_interfering : ∀ (t : Task) (a : Int) (b : Int), pre_interfere t a b → F_interfering t a b (fun r => r = sp_interfere t a b) := fun t a b ⟨h1, h2, h3⟩ => by
  have tk := taskOK_of h1
  have la := tk.lens h2
  have lb := tk.lens h3
  unfold F_interfering sp_interfere
  simp only [forall_eq, sp_disjoint, Bool.not_not]
  refine ⟨h2, h3, ⟨by omega, by omega⟩, fun q => by simp [q], fun q => ⟨⟨by omega, by omega⟩, fun q2 => by simp [q2], fun q2 => ⟨⟨by omega, by omega⟩, fun q3 => by simp [q3], fun q3 => ⟨⟨by omega, by omega⟩, fun q4 => by simp [q4], fun q4 => ⟨⟨by omega, by omega⟩, fun q5 => by simp [q5], fun q5 => ⟨⟨by omega, by omega⟩, by simp [q, q2, q3, q4, q5]⟩⟩⟩⟩⟩⟩
theorem pairRow_succ {t : Task} {plan : List Int} {i m : Nat} : pairRow t plan i (m + 1) = pairRow t plan i m ++ (if i < m ∧ sp_interfere t (gt plan (i : Int)) (gt plan (m : Int)) = true then [((i : Int), (m : Int))] else []) := by
  unfold pairRow
  rw [List.range_succ, List.filter_append, List.map_append]
  congr 1
  rw [List.filter_cons]
  by_cases h : i < m ∧ sp_interfere t (gt plan (i : Int)) (gt plan (m : Int)) = true
  · rw [if_pos h, if_pos (by rw [Bool.and_eq_true, decide_eq_true_eq]; exact h)]; rfl
  · rw [if_neg h, if_neg (by rw [Bool.and_eq_true, decide_eq_true_eq]; exact h)]; rfl
theorem pairRow_start {t : Task} {plan : List Int} {i : Nat} : ∀ {m : Nat}, m ≤ i + 1 → pairRow t plan i m = []
  | 0, _ => rfl
  | m + 1, h => by rw [pairRow_succ, pairRow_start (by omega), if_neg (fun g => by omega)]; rfl
theorem pairRow_len {t : Task} {plan : List Int} {i m : Nat} : (pairRow t plan i m).length ≤ m := by
  unfold pairRow
  rw [List.length_map]
  exact Nat.le_trans (List.length_filter_le _ _) (by simp)
/-- all rows up to i -/
def rows (t : Task) (plan : List Int) (i : Nat) : List (Int × Int) := (List.range i).flatMap fun i => pairRow t plan i plan.length
theorem rows_succ {t : Task} {plan : List Int} {i : Nat} : rows t plan (i + 1) = rows t plan i ++ pairRow t plan i plan.length := by
  unfold rows
  rw [List.range_succ, List.flatMap_append, List.flatMap_singleton]
theorem rows_len {t : Task} {plan : List Int} (i : Nat) : (rows t plan i).length ≤ i * plan.length := by
  have := flat_len (fun i => pairRow t plan i plan.length) plan.length (List.range i) fun i _ => pairRow_len
  rwa [List.length_range] at this
theorem pairs_inner {t : Task} {plan : List Int} (hp : pre_pairsOf t plan) {i : Nat} (hi : i < plan.length) (I1 : Int → List (Int × Int) → Prop) (μ1 : Int → List (Int × Int) → Nat) (out0 : List (Int × Int)) (hend : I1 (i + 1) (rows t plan (i + 1)) ∧ μ1 (i + 1) (rows t plan (i + 1)) < μ1 i out0) :
    ∃ (I2 : Int → List (Int × Int) → Prop) (μ2 : Int → List (Int × Int) → Nat), I2 (IntKind.i64.wrap ((i : Int) + 1)) (rows t plan i) ∧ ∀ (j : Int) (out3 : List (Int × Int)), I2 j out3 → F_pairsOf_L2 t plan out0 j I2 μ2 out3 i I1 μ1 := by
  obtain ⟨h1, h2, h3⟩ := hp
  rw [w64 (by omega)]
  refine ⟨fun x out => ∃ j : Nat, x = j ∧ i + 1 ≤ j ∧ j ≤ plan.length ∧ out = rows t plan i ++ pairRow t plan i j, fun x _ => (plan.length - x).toNat, ⟨i + 1, by omega, Nat.le_refl _, hi, by rw [pairRow_start (Nat.le_refl _), List.append_nil]⟩, ?_⟩
  rintro _ out ⟨j, rfl, j1, j2, j3⟩
  unfold F_pairsOf_L2 F_pairsOf_J1
  rw [w64 (n := (j : Int) + 1) (by omega), w64 (n := (i : Int) + 1) (by omega)]
  simp only [decide_eq_true_eq, decide_eq_false_iff_not, forall_eq, List.length_append, List.length_singleton]
  have hl : out.length ≤ 56 := by
    rw [j3, List.length_append]
    have a := rows_len (t := t) (plan := plan) i
    have b := pairRow_len (t := t) (plan := plan) (i := i) (m := j)
    have c : i * plan.length ≤ 7 * 7 := Nat.mul_le_mul (by omega) h2
    omega
  refine ⟨fun h => ⟨⟨by omega, by omega⟩, ⟨by omega, h⟩, ⟨h1, h3 _ (gt_memN hi), h3 _ (gt_memN (by omega))⟩, fun q => ⟨⟨by simp only [maxLen]; omega, by omega⟩, ⟨j + 1, by omega, by omega, by omega, ?_⟩, by omega⟩, fun q => ⟨⟨j + 1, by omega, by omega, by omega, ?_⟩, by omega⟩⟩, fun h => ?_⟩
  · rw [j3, pairRow_succ, if_pos ⟨by omega, q⟩, List.append_assoc]
  · rw [j3, pairRow_succ, if_neg (fun g => by rw [q] at g; exact absurd g.2 (by decide)), List.append_nil]
  · have e : j = plan.length := by omega
    rw [e, ← rows_succ] at j3
    rw [j3]; exact hend
theorem ok_pairsOf : ∀ (t : Task) (plan : List Int), pre_pairsOf t plan → F_pairsOf t plan (fun r => r = sp_pairsOf t plan) := fun t plan hp => by
  refine ⟨fun x out => ∃ i : Nat, x = i ∧ i ≤ plan.length ∧ out = rows t plan i, fun x _ => (plan.length - x).toNat, ⟨0, rfl, Nat.zero_le _, rfl⟩, ?_⟩
  rintro _ out ⟨i, rfl, i1, rfl⟩
  unfold F_pairsOf_L1
  simp only [decide_eq_true_eq, decide_eq_false_iff_not]
  refine ⟨fun h => pairs_inner hp (by omega) _ _ _ ⟨⟨i + 1, by omega, by omega, rfl⟩, show ((plan.length : Int) - (i + 1)).toNat < ((plan.length : Int) - i).toNat by omega⟩, fun h => ?_⟩
  rw [show i = plan.length by omega]; rfl
theorem deorder_L2 : @F_deorder_L2 = fun t plan out j I2 μ2 out3 i I1 μ1 => F_pairsOf_L2 t plan out j I2 μ2 out3 i I1 μ1 := rfl
theorem ok_deorder : ∀ (t : Task) (plan : List Int), F_deorder t plan (fun r => r = sp_deorder t plan) := fun t plan => by
  unfold F_deorder
  simp only [forall_eq, fault_ne, fault_eq]
  simp only [decide_eq_true_eq, decide_eq_false_iff_not, Bool.not_eq_true', Bool.not_eq_false']
  refine ⟨fun h => ?_, fun h => ⟨fun q => ?_, fun q => ?_⟩⟩
  · rw [sp_deorder, if_neg h]
  · rw [sp_deorder, if_pos h, if_pos (by omega)]
  · obtain ⟨h1, h2, h3⟩ := plan_ok h
    refine ⟨⟨h1, (taskOK_of h1).init, by omega, h3⟩, fun q2 => ?_, fun q2 => ?_⟩
    · rw [sp_deorder, if_pos h, if_neg (by omega), if_neg (by rw [sp_rsolves, q2]; decide)]
    · have hp : pre_pairsOf t plan := ⟨h1, by omega, h3⟩
      have e : sp_deorder t plan = (sp_pairsOf t plan, ⟨0, 0⟩) := by rw [sp_deorder, if_pos h, if_neg (by omega), if_pos (show sp_rsolves t plan = true from q2)]
      rw [e]
      refine ⟨fun x out => ∃ i : Nat, x = i ∧ i ≤ plan.length ∧ out = rows t plan i, fun x _ => (plan.length - x).toNat, ⟨0, rfl, Nat.zero_le _, rfl⟩, ?_⟩
      rintro _ out ⟨i, rfl, i1, rfl⟩
      unfold F_deorder_L1
      simp only [decide_eq_true_eq, decide_eq_false_iff_not]
      refine ⟨fun h => ?_, fun h => ?_⟩
      · rw [deorder_L2]
        exact pairs_inner hp (by omega) _ _ _ ⟨⟨i + 1, by omega, by omega, rfl⟩, show ((plan.length : Int) - (i + 1)).toNat < ((plan.length : Int) - i).toNat by omega⟩
      · rw [show i = plan.length by omega]; rfl
theorem ok_twoInts : ∀ (a : List (Int × Int)) (b : List (Int × Int)), pre_twoInts a b → F_twoInts a b (fun r => r = sp_twoInts a b) := fun a b hp => by
  unfold pre_twoInts at hp
  unfold F_twoInts
  simp only [bne_iff_ne, ne_eq, bne_eq_false_iff_eq]
  refine ⟨fun h => ?_, fun h => ?_⟩
  · have : a ≠ b := fun e => h (by rw [e])
    simp [sp_twoInts, this]
  · have hl : a.length = b.length := by omega
    refine ⟨fun t => ∃ k : Nat, t = k ∧ k ≤ a.length ∧ a.take k = b.take k, fun t => (a.length - t).toNat, ⟨0, rfl, Nat.zero_le _, by simp⟩, ?_⟩
    rintro _ ⟨k, rfl, k1, k2⟩
    unfold F_twoInts_L1
    simp only [decide_eq_true_eq, decide_eq_false_iff_not, forall_eq, Bool.not_eq_true', Bool.not_eq_false', Bool.and_eq_true, Bool.and_eq_false_iff, beq_iff_eq, beq_eq_false_iff_ne, ne_eq]
    refine ⟨fun g => ⟨⟨by omega, g⟩, ⟨by omega, by omega⟩, fun q => ?_, fun q => ?_⟩, fun g => ?_⟩
    · have : a ≠ b := fun e => by subst e; simp at q
      simp [sp_twoInts, this]
    · rw [w64 (by omega)]
      refine ⟨⟨k + 1, by omega, by omega, ?_⟩, by omega⟩
      rw [takeN_gt (by omega), takeN_gt (by omega), k2, Prod.ext q.1 q.2]
    · rw [List.take_of_length_le (by omega), List.take_of_length_le (by omega)] at k2
      simp [sp_twoInts, k2]
end Go.Proofs.Ytihbfbofbdkmbaa.Pl
