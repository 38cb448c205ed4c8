/- The laws on beliefs. Plain Lean. No condition. -/
import Derived.Test.YtojoehfldbimpaaDoorK6
namespace Go.Proofs.YtojoehfldbimpaaDoor.Pl
open Go Go.RowKit
theorem able_val : sp_validate sp_able = ⟨0, 0⟩ := by decide +kernel
theorem able_ok : sp_unknownFault sp_able [0] = ⟨0, 0⟩ := by decide +kernel
theorem able_worlds : sp_worlds sp_able [0] = [[], [0]] := by
  rw [worlds_possible able_val (by decide +kernel)]; decide +kernel
theorem able_small : (search (bsucc sp_able) (fun _ => false) [[], [0]]).2.2 = true := by decide +kernel
theorem able_search : search (bsucc sp_able) (fun w => sp_sure w sp_able.goal) [[], [0]] = ([0], true, true) := by decide +kernel
theorem able_plan : sp_bplan sp_able [0] = ([0], true, ⟨0, 0⟩) := by
  unfold sp_bplan sp_small sp_breadthP
  rw [if_pos able_ok, able_worlds, if_pos able_small, able_search]
  rfl
theorem able_init : sp_initial sp_able [0] = ([[], [0]], ⟨0, 0⟩) := by
  unfold sp_initial
  rw [if_pos able_ok, able_worlds]
theorem ok_settled : F_settled (fun r => r = sp_settled) := by
  unfold F_settled
  simp only [forall_eq, able_plan, able_init]
  exact ⟨fun _ => ⟨fun _ => ⟨fun _ => ⟨by simp [pre_numbers], fun _ => ⟨by simp [pre_sets, pre_same], by decide⟩, fun h => absurd h (by decide)⟩, fun h => absurd h (by decide)⟩, fun h => absurd h (by decide)⟩, fun h => absurd h (by decide)⟩
theorem sets_pre {t : Task} (hv : sp_validate t = ⟨0, 0⟩) {a b : Bel} (ha : WsOK t a) (hb : WsOK t b) : pre_sets a b :=
  ⟨by have := ha.1; omega, by have := hb.1; omega, fun s hs => by have := set_len24 hv (ha.2 s hs); omega, fun s hs => by have := set_len24 hv (hb.2 s hs); omega⟩
theorem initial_snd (t : Task) (u : List Int) : (sp_initial t u).2 = sp_unknownFault t u := by
  unfold sp_initial; split
  · rename_i h; exact h.symm
  · rfl
theorem code_ne {f : Fault} (hc : f.code = 0 → f = ⟨0, 0⟩) (h : ¬ f = ⟨0, 0⟩) : f.code ≠ 0 := fun e => h (hc e)
theorem bsolves_snd {t : Task} {u plan : List Int} (h : sp_unknownFault t u = ⟨0, 0⟩) : (sp_bsolves t u plan).2 = sp_steps t.ops.length plan := by
  unfold sp_bsolves; rw [if_pos h]; split
  · rename_i g; exact g.symm
  · rfl
/-! ### closed lists of beliefs -/
theorem addNew_spec {most : Int} : ∀ (l all all' : List Bel), all.Nodup → addNew most l all = some all' → all'.Nodup ∧ (∃ r, all' = all ++ r) ∧ (∀ x ∈ l, x ∈ all') ∧ (∀ x ∈ all', x ∈ all ∨ x ∈ l) ∧ ((all.length : Int) ≤ most → (all'.length : Int) ≤ most)
  | [], all, all', h, he => by
    cases he
    exact ⟨h, ⟨[], by simp⟩, fun x hx => (by cases hx), fun x hx => .inl hx, id⟩
  | n :: l, all, all', h, he => by
    rw [addNew] at he
    split at he
    · rename_i hn
      obtain ⟨a, ⟨r, rfl⟩, c, d, e⟩ := addNew_spec l all all' h he
      refine ⟨a, ⟨r, rfl⟩, fun x hx => ?_, fun x hx => (d x hx).imp id (List.mem_cons_of_mem _), e⟩
      rcases List.mem_cons.1 hx with rfl | hx
      · exact List.mem_append_left _ hn
      · exact c x hx
    · rename_i hn
      split at he
      · cases he
      · rename_i hm
        have h' : (all ++ [n]).Nodup := by
          rw [List.nodup_append]
          refine ⟨h, by simp, fun a ha b hb => ?_⟩
          simp at hb
          subst hb
          exact fun e => hn (e ▸ ha)
        obtain ⟨a, ⟨r, rfl⟩, c, d, e⟩ := addNew_spec l _ all' h' he
        refine ⟨a, ⟨[n] ++ r, by simp⟩, fun x hx => ?_, fun x hx => ?_, fun _ => e (by simp; omega)⟩
        · rcases List.mem_cons.1 hx with rfl | hx
          · simp
          · exact c x hx
        · rcases d x hx with d | d
          · rcases List.mem_append.1 d with d | d
            · exact .inl d
            · rw [List.mem_singleton.1 d]; exact .inr List.mem_cons_self
          · exact .inr (List.mem_cons_of_mem _ d)
theorem bclose_spec {most : Int} {succ : Bel → List Bel} {P : Bel → Prop} (hP : ∀ b, P b → ∀ x ∈ succ b, P x) : ∀ (k : Nat) (all : List Bel) (i : Nat) (all' : List Bel), all.Nodup → (∀ b ∈ all, P b) → (all.length : Int) ≤ most → most + 1 ≤ (k : Int) + i → i ≤ all.length → (∀ j : Nat, j < i → ∀ x ∈ succ (all.getD j []), x ∈ all) → bclose most succ k all i = some all' →
    all'.Nodup ∧ (∀ b ∈ all', P b) ∧ (all'.length : Int) ≤ most ∧ (∃ r, all' = all ++ r) ∧ ∀ b ∈ all', ∀ x ∈ succ b, x ∈ all'
  | 0, all, i, all', _, _, h3, h4, h5, _, _ => by omega
  | k + 1, all, i, all', h1, h2, h3, h4, h5, h6, he => by
    rw [bclose] at he
    split at he
    · rename_i hn
      cases he
      have hl : all.length ≤ i := by simpa using hn
      refine ⟨h1, h2, h3, ⟨[], by simp⟩, fun b hb x hx => ?_⟩
      obtain ⟨j, hj, rfl⟩ := List.mem_iff_getElem.1 hb
      refine h6 j (by omega) x ?_
      rw [List.getD_eq_getElem?_getD, List.getElem?_eq_getElem hj]; exact hx
    · rename_i b hb
      have hil := (List.getElem?_eq_some_iff.1 hb).1
      split at he
      · cases he
      · rename_i all2 h7
        obtain ⟨a1, ⟨r, rfl⟩, a3, a4, a5⟩ := addNew_spec _ _ _ h1 h7
        obtain ⟨c1, c2, c3, ⟨r2, rfl⟩, c5⟩ := bclose_spec hP k (all ++ r) (i + 1) all' a1 (fun y hy => by
          rcases a4 y hy with q | q
          · exact h2 y q
          · exact hP b (h2 b (List.mem_of_getElem? hb)) y q) (a5 h3) (by omega) (by rw [List.length_append]; omega) (fun j hj x hx => by
          have hjl : j < all.length := by omega
          rw [List.getD_eq_getElem?_getD, List.getElem?_append_left hjl, ← List.getD_eq_getElem?_getD] at hx
          rcases Nat.lt_or_ge j i with q | q
          · exact List.mem_append_left _ (h6 j q x hx)
          · have : j = i := by omega
            subst this
            rw [List.getD_eq_getElem?_getD, hb] at hx
            exact a3 x hx) he
        exact ⟨c1, c2, c3, ⟨r ++ r2, by rw [List.append_assoc]⟩, c5⟩
theorem beliefs_closed {t : Task} {start : Bel} (hv : sp_validate t = ⟨0, 0⟩) (hw : WsOK t start) {sensors : List Int} {all : List Bel} (h : sp_beliefs t start sensors 150 = (all, true)) : (all.length ≤ 150 ∧ start ∈ all ∧ all.getD 0 [] = start ∧ ∀ b ∈ all, ∀ x ∈ osucc t sensors b, x ∈ all) ∧ Closed t all := by
  unfold sp_beliefs at h
  split at h
  · rename_i all2 he
    simp only [Prod.mk.injEq, and_true] at h
    subst h
    obtain ⟨a1, a2, a3, ⟨r, a4⟩, a5⟩ := bclose_spec (P := WsOK t) (fun b hb x hx => osucc_ok hv hb hx) _ [start] 0 _ (by simp) (fun b hb => by rw [List.mem_singleton.1 hb]; exact hw) (by simp) (by decide) (by simp) (fun j hj => by omega) he
    have hs : ∀ b ∈ all2, ∀ x ∈ bsucc t b, x.2 ∈ all2 := fun b hb x hx => a5 b hb x.2 (by rw [osucc_def]; exact List.mem_append_left _ (List.mem_map_of_mem hx))
    exact ⟨⟨by omega, by rw [a4]; simp, by rw [a4]; rfl, a5⟩, hv, by omega, by rw [a4]; simp, a2, a1, hs⟩
  · simp at h
/-- where the beliefs are few, the plan is the reference's -/
theorem plan_conformant {t : Task} {start : Bel} {all : List Bel} (hc : Closed t all) (hl : all.length ≤ 2000) (h0 : start ∈ all) (he : all.getD 0 [] = start) : sp_small start t = true ∧ (sp_breadthP start t t).1 = (sp_conformant t all).1 ∧ (sp_breadthP start t t).2.1 = (sp_conformant t all).2 := by
  have hs := bsucc_sorted t
  refine ⟨search_fits hl h0 hc.step, ?_⟩
  have hb : (sp_breadthP start t t).2.2 = true := search_fits hl h0 hc.step
  rcases hr : sp_breadthP start t t with ⟨p, f, b⟩
  rw [hr] at hb
  simp only at hb
  subst hb
  unfold sp_breadthP at hr
  cases f with
  | true =>
    obtain ⟨_, hL⟩ := search_found hs hr
    have hex : ∃ p, Least (bsucc t) (fun w => sp_sure w t.goal) (all.getD 0 []) p := ⟨p, by rw [he]; exact hL⟩
    unfold sp_conformant
    rw [dif_pos hex]
    have := Classical.choose_spec hex
    generalize Classical.choose hex = p2 at this
    rw [he] at this
    exact ⟨hL.unique this, rfl⟩
  | false =>
    obtain ⟨h1, h2⟩ := search_none hs hr
    unfold sp_conformant
    rw [dif_neg]
    · exact ⟨h1, rfl⟩
    · rintro ⟨p', ⟨v, w, g⟩, _⟩
      rw [he] at w
      have := h2 p' v w
      rw [show sp_sure v t.goal = true from g] at this; cases this
end Go.Proofs.YtojoehfldbimpaaDoor.Pl
