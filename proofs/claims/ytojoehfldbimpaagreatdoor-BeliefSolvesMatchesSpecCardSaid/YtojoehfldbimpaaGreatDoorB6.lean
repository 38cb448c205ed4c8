/- Plans performed by the program; pairs of steps that interfere; two laws. Plain Lean. No condition. -/
import Derived.Test.YtojoehfldbimpaaGreatDoorB5
namespace Go.Proofs.YtojoehfldbimpaaGreatDoor.Pl
open Go Go.RowKit
theorem ok_srun : ∀ (t : Task) (s_ : List Int) (plan : List Int), pre_srun t s_ plan → F_srun t s_ plan (fun r => r = sp_srun t s_ plan) := fun t s plan ⟨h1, h2, h3, h4⟩ => by
  have tk := taskOK_of h1
  have hf := tk.facts
  have hs := set_len hf.1 h2
  refine ⟨show s.length ≤ 1000 by omega, fun r2 hr2 => ?_⟩
  rw [show r2 = s from hr2]
  refine ⟨fun s2 x out => ∃ (k : Nat) (p : List (List Int)), x = k ∧ k ≤ plan.length ∧ sp_isSet s2 t.facts = true ∧ out = p ++ [s2] ∧ p.length = k ∧ sp_srun t s plan = p ++ sp_srun t s2 (plan.drop k), fun _ x _ => (plan.length - x).toNat, ⟨0, [], rfl, Nat.zero_le _, h2, rfl, rfl, by simp⟩, ?_⟩
  rintro s2 _ out ⟨k, p, rfl, k1, k2, rfl, k3, k4⟩
  unfold F_srun_L1
  simp only [decide_eq_true_eq, decide_eq_false_iff_not, forall_eq, Bool.not_eq_true', Bool.not_eq_false', List.length_append, List.length_singleton]
  refine ⟨fun h => ?_, fun h => ?_⟩
  · have hk : k < plan.length := by omega
    have hop := h4 _ (gt_memN hk)
    have hd := drop_gt (xs := plan) (i := (k : Int)) ⟨by omega, h⟩
    rw [Int.toNat_natCast, show ((k : Int) + 1).toNat = k + 1 by omega] at hd
    rw [hd, sp_srun] at k4
    refine ⟨⟨by omega, h⟩, ⟨h1, hop, k2⟩, fun q => ?_, fun q => ⟨⟨h1, hop, k2⟩, ⟨by simp only [maxLen]; omega, by omega⟩, ?_⟩⟩
    · rw [k4, if_neg (by rw [q]; decide)]
    · rw [if_pos q] at k4
      rw [w64 (by omega)]
      refine ⟨⟨k + 1, p ++ [s2], by omega, by omega, after_set hf.1 _ _, rfl, by rw [List.length_append, List.length_singleton, k3], ?_⟩, by omega⟩
      rw [k4]; simp
  · rw [List.drop_of_length_le (by omega), sp_srun] at k4
    rw [k4]
theorem srun_ends {t : Task} (hf : 0 ≤ t.facts) : ∀ (plan s : List Int), sp_isSet s t.facts = true → ((sp_srun t s plan).length = plan.length + 1 → (sp_ends t s plan).2 = true ∧ gt (sp_srun t s plan) ((plan.length : Nat) : Int) = (sp_ends t s plan).1 ∧ sp_isSet (sp_ends t s plan).1 t.facts = true) ∧ ((sp_srun t s plan).length ≠ plan.length + 1 → (sp_ends t s plan).2 = false)
  | [], s, h => ⟨fun _ => ⟨rfl, rfl, h⟩, fun g => absurd rfl g⟩
  | op :: r, s, h => by
    have ih := srun_ends hf r (sp_after t s op) (after_set hf s op)
    rw [sp_srun, sp_ends]
    by_cases q : sp_applies t s op = true
    · rw [if_pos q, if_pos q]
      simp only [List.length_cons]
      refine ⟨fun g => ?_, fun g => ih.2 (by omega)⟩
      obtain ⟨a, b, c⟩ := ih.1 (by omega)
      refine ⟨a, ?_, c⟩
      rw [← b]
      unfold gt
      rw [Int.toNat_natCast, Int.toNat_natCast, List.getD_cons_succ]
    · rw [if_neg q, if_neg q]
      refine ⟨fun g => ?_, fun _ => rfl⟩
      simp at g
theorem ok_works : ∀ (t : Task) (s_ : List Int) (plan : List Int), pre_works t s_ plan → F_works t s_ plan (fun r => r = sp_rworks t s_ plan) := fun t s plan hp => by
  obtain ⟨h1, h2, h3, h4⟩ := hp
  have tk := taskOK_of h1
  have hf := tk.facts
  have hg := set_len hf.1 tk.goal
  unfold F_works
  rw [w64 (by omega)]
  refine ⟨⟨h1, h2, h3, h4⟩, ?_⟩
  simp only [forall_eq, beq_iff_eq, beq_eq_false_iff_ne, ne_eq]
  obtain ⟨a, b⟩ := srun_ends hf.1 plan s h2
  refine ⟨fun q => ?_, fun q => ?_⟩
  · obtain ⟨e1, e2, e3⟩ := a (by omega)
    have hl := set_len hf.1 e3
    rw [e2]
    refine ⟨⟨by omega, by omega⟩, ⟨by omega, by omega, set_sorted e3, set_sorted tk.goal⟩, ?_⟩
    rw [sp_rworks, e1, Bool.true_and]; rfl
  · rw [sp_rworks, b (by omega), Bool.false_and]
end Go.Proofs.YtojoehfldbimpaaGreatDoor.Pl

