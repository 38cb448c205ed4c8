/- The laws on beliefs. Plain Lean. No condition. -/
import Derived.Test.YtojoehfldbimpaaGreatDoorK6
namespace Go.Proofs.YtojoehfldbimpaaGreatDoor.Pl
open Go Go.RowKit
theorem able_val : sp_validate sp_able = ⟨0, 0⟩ := by decide +kernel
theorem able_ok : sp_unknownFault sp_able [0] = ⟨0, 0⟩ := by decide +kernel
theorem able_worlds : sp_worlds sp_able [0] = [[], [0]] := by
  rw [worlds_possible able_val (by decide +kernel)]; decide +kernel
theorem able_small : (search (bsucc sp_able) (fun _ => false) [[], [0]]).2.2 = true := by decide +kernel
theorem able_search : search (bsucc sp_able) (fun w => sp_sure w sp_able.goal) [[], [0]] = ([0], true, true) := by decide +kernel
theorem able_plan : sp_bplan sp_able [0] = ([0], true, ⟨0, 0⟩) := by
  unfold sp_bplan sp_small sp_breadthP
  rw [if_pos able_ok, able_worlds, if_pos able_small, able_search]
  rfl
theorem able_init : sp_initial sp_able [0] = ([[], [0]], ⟨0, 0⟩) := by
  unfold sp_initial
  rw [if_pos able_ok, able_worlds]
theorem ok_settled : F_settled (fun r => r = sp_settled) := by
  unfold F_settled
  simp only [forall_eq, able_plan, able_init]
  exact ⟨fun _ => ⟨fun _ => ⟨fun _ => ⟨by simp [pre_numbers], fun _ => ⟨by simp [pre_sets, pre_same], by decide⟩, fun h => absurd h (by decide)⟩, fun h => absurd h (by decide)⟩, fun h => absurd h (by decide)⟩, fun h => absurd h (by decide)⟩
theorem code_ne {f : Fault} (hc : f.code = 0 → f = ⟨0, 0⟩) (h : ¬ f = ⟨0, 0⟩) : f.code ≠ 0 := fun e => h (hc e)
theorem ok_lawBeliefSolves : ∀ (t : Task) (unknown : List Int) (plan : List Int), F_lawBeliefSolves t unknown plan (fun r => r = sp_lawBeliefSolves t unknown plan) := fun t u plan => by
  unfold F_lawBeliefSolves F_lawBeliefSolves_J1
  simp only [forall_eq]
  by_cases h : sp_unknownFault t u = ⟨0, 0⟩
  · have hu := unknown_ok h
    have hT := taskOK_of hu.1
    have hops := hT.len
    rw [h]
    refine ⟨fun _ => ⟨⟨by omega, by omega⟩, ?_⟩, fun q => by simp at q⟩
    by_cases g : sp_steps t.ops.length plan = ⟨0, 0⟩
    · obtain ⟨p1, p2⟩ := steps_ok g
      have eb : sp_bsolves t u plan = ((sp_possible t u).all fun s => sp_rworks t s plan, ⟨0, 0⟩) := by
        unfold sp_bsolves
        rw [if_pos h, if_pos g, worlds_possible hu.1 hu.2.2]
        congr 1
        unfold sp_bsolves1
        rw [List.any_eq_not_all_not]
        simp
      have hw : WsOK t (sp_possible t u) := by rw [← worlds_possible hu.1 hu.2.2]; exact worlds_ok hu
      rw [g, eb]
      refine ⟨fun q => by simp at q, fun _ => ⟨hu, ?_⟩⟩
      generalize sp_possible t u = l at hw ⊢
      refine ⟨fun all i => ∃ k : Nat, i = k ∧ k ≤ l.length ∧ all = (l.take k).all fun s => sp_rworks t s plan, fun _ i => (l.length - i).toNat, ⟨0, rfl, Nat.zero_le _, by simp⟩, ?_⟩
      rintro _ _ ⟨k, rfl, k1, rfl⟩
      unfold F_lawBeliefSolves_L1 F_lawBeliefSolves_J2
      simp only [forall_eq, decide_eq_true_eq, decide_eq_false_iff_not]
      refine ⟨fun a => ?_, fun a => ?_⟩
      · have hk : k < l.length := by omega
        have hs := hw.1
        rw [w64 (n := (k : Int) + 1) (by omega)]
        refine ⟨fun b => ⟨⟨by omega, a⟩, ⟨hu.1, by have := set_len24 hu.1 (hw.2 _ (gt_memN hk)); omega, by omega, p2⟩, ⟨k + 1, by omega, by omega, ?_⟩, by omega⟩, fun b => ⟨⟨k + 1, by omega, by omega, ?_⟩, by omega⟩⟩
        · rw [takeN_gt hk, List.all_append, b]; simp
        · rw [takeN_gt hk, List.all_append, b]; simp
      · rw [List.take_of_length_le (show l.length ≤ k by omega)]
        exact ⟨fun _ => ⟨fun _ => rfl, fun q => by simp at q⟩, fun q => by simp at q⟩
    · have hc := code_ne steps_code g
      have eb : sp_bsolves t u plan = (false, sp_steps t.ops.length plan) := by
        unfold sp_bsolves
        rw [if_pos h, if_neg g]
      rw [eb]
      exact ⟨fun _ => ⟨fun _ => ⟨fun _ => rfl, fun q => by simp at q⟩, fun q => by simp at q⟩, fun q => absurd (by simpa using q) hc⟩
  · have hc := code_ne unknown_code h
    have eb : sp_bsolves t u plan = (false, sp_unknownFault t u) := by
      unfold sp_bsolves
      rw [if_neg h]
    rw [eb]
    exact ⟨fun q => absurd (by simpa using q) hc, fun _ => ⟨fun _ => ⟨fun _ => ⟨fun _ => rfl, fun q => by simp at q⟩, fun q => by simp at q⟩, fun q => absurd (by simpa using q) hc⟩⟩
end Go.Proofs.YtojoehfldbimpaaGreatDoor.Pl

