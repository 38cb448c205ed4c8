/- The laws on beliefs. Plain Lean. No condition. -/
import Derived.Test.YtojoehfldbimpaaGreatDoorK6
namespace Go.Proofs.YtojoehfldbimpaaGreatDoor.Pl
open Go Go.RowKit
theorem able_val : sp_validate sp_able = ⟨0, 0⟩ := by decide +kernel
theorem able_ok : sp_unknownFault sp_able [0] = ⟨0, 0⟩ := by decide +kernel
theorem able_worlds : sp_worlds sp_able [0] = [[], [0]] := by
  rw [worlds_possible able_val (by decide +kernel)]; decide +kernel
theorem able_small : (search (bsucc sp_able) (fun _ => false) [[], [0]]).2.2 = true := by decide +kernel
theorem able_search : search (bsucc sp_able) (fun w => sp_sure w sp_able.goal) [[], [0]] = ([0], true, true) := by decide +kernel
theorem able_plan : sp_bplan sp_able [0] = ([0], true, ⟨0, 0⟩) := by
  unfold sp_bplan sp_small sp_breadthP
  rw [if_pos able_ok, able_worlds, if_pos able_small, able_search]
  rfl
theorem able_init : sp_initial sp_able [0] = ([[], [0]], ⟨0, 0⟩) := by
  unfold sp_initial
  rw [if_pos able_ok, able_worlds]
theorem ok_settled : F_settled (fun r => r = sp_settled) := by
  unfold F_settled
  simp only [forall_eq, able_plan, able_init]
  exact ⟨fun _ => ⟨fun _ => ⟨fun _ => ⟨by simp [pre_numbers], fun _ => ⟨by simp [pre_sets, pre_same], by decide⟩, fun h => absurd h (by decide)⟩, fun h => absurd h (by decide)⟩, fun h => absurd h (by decide)⟩, fun h => absurd h (by decide)⟩
theorem sets_pre {t : Task} (hv : sp_validate t = ⟨0, 0⟩) {a b : Bel} (ha : WsOK t a) (hb : WsOK t b) : pre_sets a b :=
  ⟨by have := ha.1; omega, by have := hb.1; omega, fun s hs => by have := set_len24 hv (ha.2 s hs); omega, fun s hs => by have := set_len24 hv (hb.2 s hs); omega⟩
theorem initial_snd (t : Task) (u : List Int) : (sp_initial t u).2 = sp_unknownFault t u := by
  unfold sp_initial; split
  · rename_i h; exact h.symm
  · rfl
theorem code_ne {f : Fault} (hc : f.code = 0 → f = ⟨0, 0⟩) (h : ¬ f = ⟨0, 0⟩) : f.code ≠ 0 := fun e => h (hc e)
theorem law_match1 (t : Task) (ws : Bel) (op : Int) (facts : List Int) : F_lawBeliefMatchesSpec_J1 t ws op facts (fun r => r = true) (sp_apply t ws op) (sp_holds t ws facts) false := by
  unfold F_lawBeliefMatchesSpec_J1
  refine ⟨fun e => absurd e (by decide), fun _ => ?_⟩
  simp only [forall_eq]
  by_cases h : sp_worldsFault t ws = ⟨0, 0⟩
  · obtain ⟨hv, hpos, hw, hs⟩ := wf_ok h
    have hT := taskOK_of hv
    obtain ⟨f0, f1, _⟩ := TaskOK.rng hv
    have hops := hT.len
    rw [h, w64 (n := (t.ops.length : Int) - 1) (by omega)]
    -- what comes last
    have j7 : ∀ b : Bool, (b = true → sp_apply t ws op = ([], false, (sp_apply t ws op).2.2)) → (b = false → inb t.ops op ∧ sp_apply t ws op = (sp_bafter t ws op, true, (sp_apply t ws op).2.2)) → F_lawBeliefMatchesSpec_J7 t ws op (fun r => r = true) (sp_apply t ws op) b := fun b hb1 hb2 => by
      unfold F_lawBeliefMatchesSpec_J7
      simp only [forall_eq]
      refine ⟨fun e => ?_, fun e => ?_⟩
      · rw [hb1 e]
        exact ⟨fun _ => ⟨fun _ => rfl, fun q => by simp at q⟩, fun q => by simp at q⟩
      · obtain ⟨hi, ha⟩ := hb2 e
        rw [ha]
        refine ⟨fun _ => ⟨⟨hv, hi, hw⟩, sets_pre hv (bafter_ok hv hw op) (bafter_ok hv hw op), fun _ => rfl, fun q => ?_⟩, fun q => by simp at q⟩
        rw [show sp_sets (sp_bafter t ws op) (sp_afterAll t ws op) = true from decide_eq_true rfl] at q
        cases q
    have j6 : ∀ x : Int, (x = 0 → inb t.ops op ∧ ((sp_allHold ws (gt t.ops op).pre = true → sp_apply t ws op = (sp_bafter t ws op, true, (sp_apply t ws op).2.2)) ∧ (sp_allHold ws (gt t.ops op).pre = false → sp_apply t ws op = ([], false, (sp_apply t ws op).2.2)))) → (x ≠ 0 → sp_apply t ws op = ([], false, (sp_apply t ws op).2.2)) → F_lawBeliefMatchesSpec_J6 t ws op (fun r => r = true) (sp_apply t ws op) x false := fun x h1 h2 => by
      unfold F_lawBeliefMatchesSpec_J6
      simp only [forall_eq, bne_iff_ne, ne_eq, bne_eq_false_iff_eq]
      refine ⟨fun e => absurd e (by decide), fun _ => ⟨fun q => j7 true (fun _ => h2 q) (fun e => absurd e (by decide)), fun q => ?_⟩⟩
      obtain ⟨hi, a, b⟩ := h1 q
      refine ⟨hi, allHold_pre hv hw (hT.op hi).1, j7 _ (fun e => b (by simpa using e)) (fun e => ⟨hi, a (by simpa using e)⟩)⟩
    have j5 : ∀ x x2 : Int, (sp_apply t ws op).2.2 = ⟨x, x2⟩ → (∀ b : Bool, b = false → F_lawBeliefMatchesSpec_J6 t ws op (fun r => r = true) (sp_apply t ws op) x b) → F_lawBeliefMatchesSpec_J4 t ws op facts (fun r => r = true) (sp_apply t ws op) (sp_holds t ws facts) ⟨0, 0⟩ x x2 (!sp_isSet facts t.facts) := fun x x2 ha h6 => by
      unfold F_lawBeliefMatchesSpec_J4 F_lawBeliefMatchesSpec_J5
      simp only [forall_eq, sp_at_]
      rw [ha]
      have eh : sp_holds t ws facts = if sp_isSet facts t.facts = true then (sp_sure ws facts, ⟨0, 0⟩) else (false, ⟨5, -4⟩) := by
        unfold sp_holds; rw [if_pos h]
      refine ⟨fun e => ?_, fun e => ?_⟩
      · have e2 : sp_isSet facts t.facts = false := by simpa using e
        rw [eh, if_neg (by rw [e2]; decide)]
        exact ⟨fun q => by simp at q, fun _ => ⟨fun q => absurd q (by decide), fun _ => ⟨fun q => absurd q (by decide), fun _ => h6 _ rfl⟩⟩⟩
      · have e2 : sp_isSet facts t.facts = true := by simpa using e
        rw [eh, if_pos e2]
        exact ⟨fun q => (by simp at q), fun _ => ⟨fun q => (by simp at q), fun _ => ⟨fun _ => ⟨allHold_pre hv hw e2, h6 _ (by rw [sure_allHold]; simp)⟩, fun q => by simp at q⟩⟩⟩
    have hset : pre_isSet facts t.facts := ⟨f0, by omega⟩
    refine ⟨fun _ => ?_, fun e => by simp at e⟩
    unfold F_lawBeliefMatchesSpec_J2 F_lawBeliefMatchesSpec_J3
    simp only [forall_eq, sp_at_, sp_in_]
    refine ⟨fun g => ?_, fun g => ?_⟩
    · have hno : ¬ inb t.ops op := fun q => by
        have h1 := q.1
        have h2 := q.2
        rw [decide_eq_true (show 0 ≤ op by omega), decide_eq_true (show op ≤ (t.ops.length : Int) - 1 by omega)] at g
        cases g
      have ha : sp_apply t ws op = ([], false, ⟨3, -6⟩) := by
        unfold sp_apply
        rw [if_pos h, if_pos (Classical.byContradiction fun q => hno ⟨by omega, by omega⟩)]
      refine ⟨fun _ => ⟨hset, j5 3 (-6) (by rw [ha]) fun b hb => ?_⟩, fun q => by simp at q⟩
      rw [hb]
      exact j6 3 (fun e => absurd e (by decide)) (fun _ => by rw [ha])
    · have hi : inb t.ops op := by
        simp only [Bool.not_eq_false', Bool.and_eq_true, decide_eq_true_eq] at g
        exact ⟨g.1, by omega⟩
      have ha : sp_apply t ws op = if sp_sure ws (gt t.ops op).pre = true then (sp_bafter t ws op, true, ⟨0, 0⟩) else ([], false, ⟨0, 0⟩) := by
        unfold sp_apply
        rw [if_pos h, if_neg (by have := hi.1; have := hi.2; omega)]
      refine ⟨fun _ => ⟨hset, j5 0 0 (by rw [ha]; split <;> rfl) fun b hb => ?_⟩, fun q => by simp at q⟩
      rw [hb]
      refine j6 0 (fun _ => ⟨hi, fun e => ?_, fun e => ?_⟩) (fun e => absurd rfl e)
      · rw [ha, if_pos (by rw [sure_allHold]; exact e)]
      · rw [ha, if_neg (by rw [sure_allHold, e]; decide)]
  · have hc := code_ne wf_code h
    have ha : sp_apply t ws op = ([], false, sp_worldsFault t ws) := if_neg h
    have eh : sp_holds t ws facts = (false, sp_worldsFault t ws) := if_neg h
    rw [ha, eh]
    unfold F_lawBeliefMatchesSpec_J2 F_lawBeliefMatchesSpec_J3 F_lawBeliefMatchesSpec_J4 F_lawBeliefMatchesSpec_J5 F_lawBeliefMatchesSpec_J6 F_lawBeliefMatchesSpec_J7
    have hb : ((sp_worldsFault t ws).code == 0) = false := by simpa using hc
    simp [hb, hc, sp_settled]
theorem ok_lawBeliefMatchesSpec : ∀ (t : Task) (unknown : List Int) (worlds : List (List Int)) (op : Int) (facts : List Int), F_lawBeliefMatchesSpec t unknown worlds op facts (fun r => r = sp_lawBeliefMatchesSpec t unknown worlds op facts) := fun t u ws op facts => by
  have main := law_match1 t ws op facts
  unfold F_lawBeliefMatchesSpec
  simp only [forall_eq, initial_snd]
  refine ⟨fun q => by simp at q, fun _ => ?_⟩
  by_cases h : sp_unknownFault t u = ⟨0, 0⟩
  · have hu := unknown_ok h
    have ew : (sp_initial t u).1 = sp_possible t u := by
      unfold sp_initial; rw [if_pos h]; exact worlds_possible hu.1 hu.2.2
    rw [h, ew]
    have hw : WsOK t (sp_possible t u) := by rw [← worlds_possible hu.1 hu.2.2]; exact worlds_ok hu
    refine ⟨fun _ => ⟨hu, sets_pre hu.1 hw hw, fun q => ?_, fun _ => ⟨fun q => by simp at q, fun _ => main⟩⟩, fun q => by simp at q⟩
    rw [show sp_sets (sp_possible t u) (sp_possible t u) = true from decide_eq_true rfl] at q
    cases q
  · have hc := code_ne unknown_code h
    have e1 : (sp_initial t u).1 = [] := by unfold sp_initial; rw [if_neg h]
    rw [e1]
    refine ⟨fun q => absurd (by simpa using q) hc, fun _ => ⟨fun _ => main, fun q => absurd (by simpa using q) hc⟩⟩
end Go.Proofs.YtojoehfldbimpaaGreatDoor.Pl

