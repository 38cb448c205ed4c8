/- The laws BeliefKnown, BeliefLessUnknown, BeliefPlanIsShortest. No condition. -/
import Derived.Test.YtojoehfldbimpaaDoorK7
namespace Go.Proofs.YtojoehfldbimpaaDoor.Pl
open Go Go.RowKit
theorem bsolves_eq {t : Task} {u plan : List Int} (h : sp_unknownFault t u = ⟨0, 0⟩) (g : sp_steps t.ops.length plan = ⟨0, 0⟩) : sp_bsolves t u plan = ((sp_worlds t u).all fun s => sp_rworks t s plan, ⟨0, 0⟩) := by
  unfold sp_bsolves
  rw [if_pos h, if_pos g]
  congr 1
  unfold sp_bsolves1
  rw [List.any_eq_not_all_not]
  simp
theorem bsolves_ok {t : Task} {u plan : List Int} (h : (sp_bsolves t u plan).2.code = 0) : sp_unknownFault t u = ⟨0, 0⟩ ∧ sp_steps t.ops.length plan = ⟨0, 0⟩ := by
  by_cases a : sp_unknownFault t u = ⟨0, 0⟩
  · refine ⟨a, ?_⟩
    rw [bsolves_snd a] at h
    exact steps_code h
  · exfalso
    refine code_ne unknown_code a ?_
    unfold sp_bsolves at h
    rw [if_neg a] at h
    exact h
theorem worlds_nil {t : Task} (hv : sp_validate t = ⟨0, 0⟩) : sp_worlds t [] = [t.init] := by
  rw [worlds_possible hv (by simp [sp_isSet])]
  rfl
theorem known_eq (t : Task) (plan : List Int) : sp_bsolves t [] plan = sp_solves t plan := by
  have e : sp_unknownFault t [] = sp_validate t := by
    unfold sp_unknownFault
    split
    · rename_i h; rw [h]; simp [sp_isSet]
    · rfl
  unfold sp_solves sp_planFault
  by_cases h : sp_validate t = ⟨0, 0⟩
  · rw [if_pos h]
    by_cases g : sp_steps t.ops.length plan = ⟨0, 0⟩
    · rw [if_pos g, bsolves_eq (e.trans h) g, worlds_nil h]
      simp [sp_rsolves]
    · rw [if_neg g]
      unfold sp_bsolves
      rw [if_pos (e.trans h), if_neg g]
  · rw [if_neg h, if_neg h]
    unfold sp_bsolves
    rw [if_neg (by rw [e]; exact h), e]
theorem ok_lawBeliefKnown : ∀ (t : Task) (plan : List Int), F_lawBeliefKnown t plan (fun r => r = sp_lawBeliefKnown t plan) := fun t plan => by
  unfold F_lawBeliefKnown
  simp only [forall_eq, known_eq]
  exact ⟨fun _ => ⟨fun _ => rfl, fun q => by simp at q⟩, fun q => by simp at q⟩
theorem unknown_sub {t : Task} {u v : List Int} (h : sp_unknownFault t u = ⟨0, 0⟩) (s : v.Sublist u) : sp_unknownFault t v = ⟨0, 0⟩ := by
  have hu := unknown_ok h
  have hl := s.length_le
  have h4 := hu.2.1
  have hs : sp_isSet v t.facts = true := by
    have := of_decide_eq_true hu.2.2
    exact decide_eq_true ⟨this.1.sublist s, fun x hx => this.2 x (s.subset hx)⟩
  unfold sp_unknownFault
  rw [if_pos hu.1, if_neg (by omega), if_pos hs]
theorem worlds_sub {t : Task} {u v : List Int} (h : sp_unknownFault t u = ⟨0, 0⟩) (s : v.Sublist u) : ∀ x ∈ sp_worlds t v, x ∈ sp_worlds t u := fun x hx => by
  have hu := unknown_ok h
  have hv := unknown_ok (unknown_sub h s)
  obtain ⟨a, b⟩ := (mem_worlds hv.1 hv.2.2).1 hx
  exact (mem_worlds hu.1 hu.2.2).2 ⟨a, fun y hy => b y fun hn => hy (s.subset hn)⟩
theorem ok_lawBeliefLess : ∀ (t : Task) (unknown : List Int) (plan : List Int) (i : Int), F_lawBeliefLess t unknown plan i (fun r => r = sp_lawBeliefLess t unknown plan i) := fun t u plan i => by
  unfold F_lawBeliefLess F_lawBeliefLess_J1 F_lawBeliefLess_J2
  simp only [forall_eq]
  refine ⟨fun _ => ⟨fun _ => rfl, fun q => by simp at q⟩, fun q => ?_⟩
  obtain ⟨h, g⟩ := bsolves_ok (by simpa using q)
  have hu := unknown_ok h
  refine ⟨fun _ => ⟨fun _ => rfl, fun q => by simp at q⟩, fun q2 => ⟨fun _ => rfl, fun q3 => ?_⟩⟩
  have h4 := hu.2.1
  obtain ⟨i0, i1⟩ : 0 ≤ i ∧ i < u.length := by
    rw [w64 (n := (u.length : Int) - 1) (by omega)] at q3
    simp [sp_in_] at q3
    omega
  rw [w64 (n := i + 1) (by omega)]
  have en : (i + 1).toNat = i.toNat + 1 := by omega
  rw [en, List.nil_append, ← List.eraseIdx_eq_take_drop_succ]
  have hs : (u.eraseIdx i.toNat).Sublist u := List.eraseIdx_sublist _ _
  have hsl := hs.length_le
  have h' := unknown_sub h hs
  rw [bsolves_eq h g] at q2
  rw [bsolves_eq h' g]
  have ha : ((sp_worlds t (u.eraseIdx i.toNat)).all fun s => sp_rworks t s plan) = true := by
    rw [List.all_eq_true]
    have : ∀ x ∈ sp_worlds t u, sp_rworks t x plan = true := by simpa using q2
    exact fun x hx => this x (worlds_sub h hs x hx)
  rw [ha]
  refine ⟨⟨i0, by omega⟩, ⟨by omega, by omega⟩, ⟨by unfold maxLen; simp; omega, by simp; omega⟩, ⟨by unfold maxLen; omega, by omega⟩, fun _ => ⟨fun _ => rfl, fun q => by simp at q⟩, fun q => by simp at q⟩
/-- a plan works from all of these states if it is a way to a belief in which the goal is sure -/
theorem works_way {t : Task} : ∀ {plan : List Int} {ws : Bel}, (∀ x ∈ plan, inb t.ops x) → ((∀ s ∈ ws, sp_rworks t s plan = true) ↔ ∃ v, Way (bsucc t) ws plan v ∧ sp_sure v t.goal = true)
  | [], ws, _ => by
    constructor
    · intro h
      refine ⟨ws, rfl, sure_iff.2 fun s hs x hx => ?_⟩
      have := h s hs
      simp [sp_rworks, sp_ends, sp_subset] at this
      exact of_decide_eq_true (this x hx)
    · rintro ⟨v, rfl, hv⟩ s hs
      have := sure_iff.1 hv s hs
      simp [sp_rworks, sp_ends, sp_subset]
      exact fun x hx => decide_eq_true (this x hx)
  | o :: r, ws, hp => by
    have ho := hp o List.mem_cons_self
    have hr : ∀ x ∈ r, inb t.ops x := fun x hx => hp x (List.mem_cons_of_mem _ hx)
    have e : ∀ s, sp_rworks t s (o :: r) = true ↔ sp_applies t s o = true ∧ sp_rworks t (sp_after t s o) r = true := fun s => by
      by_cases a : sp_applies t s o = true
      · simp [sp_rworks, sp_ends, a]
      · simp [sp_rworks, sp_ends, a]
    have es : sp_sure ws (gt t.ops o).pre = true ↔ ∀ s ∈ ws, sp_applies t s o = true := by
      rw [sure_iff]
      refine forall_congr' fun s => forall_congr' fun _ => ?_
      simp [sp_applies, sp_subset]
    have ih := works_way (ws := sp_bafter t ws o) hr
    constructor
    · intro h
      have h1 : sp_sure ws (gt t.ops o).pre = true := es.2 fun s hs => ((e s).1 (h s hs)).1
      obtain ⟨v, w, g⟩ := ih.1 fun s' hs' => by
        obtain ⟨s, hs, rfl⟩ := mem_bafter.1 hs'
        exact ((e s).1 (h s hs)).2
      exact ⟨v, ⟨_, mem_bsucc.2 ⟨ho, h1, rfl⟩, w⟩, g⟩
    · rintro ⟨v, ⟨x, hx, w⟩, g⟩ s hs
      obtain ⟨_, h1, h2⟩ := mem_bsucc.1 hx
      simp only at h1 h2
      subst h2
      exact (e s).2 ⟨es.1 h1 s hs, ih.2 ⟨v, w, g⟩ _ (mem_bafter.2 ⟨s, hs, rfl⟩)⟩
theorem way_inb {t : Task} : ∀ {p : List Int} {u v : Bel}, Way (bsucc t) u p v → ∀ x ∈ p, inb t.ops x
  | [], _, _, _, x, hx => by cases hx
  | o :: p, _, _, ⟨y, h1, h2⟩, x, hx => by
    rcases List.mem_cons.1 hx with rfl | hx
    · exact (mem_bsucc.1 h1).1
    · exact way_inb h2 x hx
theorem steps_of {n : Nat} {p : List Int} (h : p.length ≤ 60) (g : ∀ x ∈ p, 0 ≤ x ∧ x < (n : Int)) : sp_steps n p = ⟨0, 0⟩ := by
  unfold sp_steps
  rw [if_neg (by omega), if_pos]
  rw [List.all_eq_true]
  exact fun x hx => decide_eq_true (g x hx)
theorem bsolves_way {t : Task} {u plan : List Int} (h : sp_unknownFault t u = ⟨0, 0⟩) (g : sp_steps t.ops.length plan = ⟨0, 0⟩) : (sp_bsolves t u plan).1 = true ↔ ∃ v, Way (bsucc t) (sp_worlds t u) plan v ∧ sp_sure v t.goal = true := by
  rw [bsolves_eq h g]
  simp only [List.all_eq_true]
  exact works_way (steps_ok g).2
theorem ok_lawBeliefShortest : ∀ (t : Task) (unknown : List Int) (plan : List Int), F_lawBeliefShortest t unknown plan (fun r => r = sp_lawBeliefShortest t unknown plan) := fun t u plan => by
  unfold F_lawBeliefShortest F_lawBeliefShortest_J1
  simp only [forall_eq]
  refine ⟨fun _ => ⟨fun _ => rfl, fun q => by simp at q⟩, fun q => ⟨fun _ => rfl, fun q2 => ?_⟩⟩
  obtain ⟨h, g⟩ := bsolves_ok (t := t) (u := u) (plan := plan) (by simpa using q2)
  have hw := bsolves_way h g
  have hs := bsucc_sorted t
  generalize hb : sp_bsolves t u plan = B at hw ⊢
  rcases hr : sp_breadthP (sp_worlds t u) t t with ⟨p, f, b⟩
  unfold sp_bplan at q ⊢
  rw [if_pos h, hr] at q ⊢
  by_cases hsm : sp_small (sp_worlds t u) t = true
  · rw [if_pos hsm] at q ⊢
    by_cases h60 : 60 < p.length
    · rw [if_pos h60] at q; simp at q
    · rw [if_neg h60]
      have hb2 : b = true := by
        have := search_small (done := fun w => sp_sure w t.goal) hsm
        rw [show search (bsucc t) (fun w => sp_sure w t.goal) (sp_worlds t u) = (p, f, b) from hr] at this
        exact this
      subst hb2
      cases f with
      | false =>
        obtain ⟨_, hn⟩ := search_none hs hr
        have hB : B.1 = false := by
          cases hB : B.1 with
          | false => rfl
          | true =>
            obtain ⟨v, w, gg⟩ := hw.1 hB
            rw [show sp_sure v t.goal = false from hn _ _ w] at gg
            cases gg
        rw [hB]
        exact ⟨fun _ => ⟨fun _ => rfl, fun q => by simp at q⟩, fun q => by simp at q⟩
      | true =>
        obtain ⟨_, ⟨v, w, gg⟩, hmin⟩ := search_found hs hr
        have hst : sp_steps t.ops.length p = ⟨0, 0⟩ := steps_of (by omega) (way_inb w)
        have h1 : (sp_bsolves t u p).1 = true := (bsolves_way h hst).2 ⟨v, w, gg⟩
        have h2 : (sp_bsolves t u p).2 = ⟨0, 0⟩ := by rw [bsolves_eq h hst]
        rw [h1, h2]
        refine ⟨fun q => by simp at q, fun _ => ⟨fun _ => ⟨fun _ => ⟨fun _ => rfl, fun q => ?_⟩, fun q => by simp at q⟩, fun q => by simp at q⟩⟩
        have hB : B.1 = true := by simpa using q
        obtain ⟨v', w', gg'⟩ := hw.1 hB
        have hl := sle_len (hmin _ _ w' gg')
        refine ⟨fun _ => rfl, fun q => ?_⟩
        have := of_decide_eq_false q
        simp only at this
        omega
  · rw [if_neg hsm] at q; simp at q
end Go.Proofs.YtojoehfldbimpaaDoor.Pl
