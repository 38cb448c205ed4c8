/- What the reference's searches among beliefs ask and give. Plain Lean. No condition. -/
import Derived.Test.YtojoehfldbimpaaDoorK5
namespace Go.Proofs.YtojoehfldbimpaaDoor.Pl
open Go Go.RowKit
theorem placeOf_mem {all : List Bel} {l : Bel} (h : l ∈ all) : inb all (sp_placeOf all l) ∧ gt all (sp_placeOf all l) = l := by
  have hl := List.idxOf_lt_length_of_mem h
  rw [sp_placeOf, if_pos h]
  refine ⟨⟨by omega, by omega⟩, ?_⟩
  rw [gt_of ⟨by omega, by omega⟩]
  simp only [Int.toNat_natCast, List.getElem_idxOf]
theorem placeOf_neg {all : List Bel} {l : Bel} : sp_placeOf all l < 0 ↔ l ∉ all := by
  unfold sp_placeOf
  split
  · rename_i h; constructor
    · intro q; omega
    · intro q; exact absurd h q
  · rename_i h; exact ⟨fun _ => h, fun _ => by decide⟩
theorem place_pre {t : Task} (hv : sp_validate t = ⟨0, 0⟩) {all : List Bel} (hl : all.length ≤ 1000) (h : ∀ b ∈ all, WsOK t b) {l : Bel} (hw : WsOK t l) : pre_placeOf all l :=
  ⟨hl, fun x hx => ⟨by have := (h x hx).1; omega, fun s hs => by have := set_len24 hv ((h x hx).2 s hs); omega⟩, by have := hw.1; omega, fun s hs => by have := set_len24 hv (hw.2 s hs); omega⟩
theorem allHold_pre {t : Task} (hv : sp_validate t = ⟨0, 0⟩) {ws : Bel} (hw : WsOK t ws) {facts : List Int} (hf : sp_isSet facts t.facts = true) : pre_allHold ws facts :=
  ⟨by have := hw.1; omega, by have := set_len24 hv hf; omega, fun s hs => by have := set_len24 hv (hw.2 s hs); omega⟩
theorem observed_ok {t : Task} {ws : Bel} (hw : WsOK t ws) (f : Int) : WsOK t (sp_observed ws f).1 ∧ WsOK t (sp_observed ws f).2 :=
  ⟨⟨Nat.le_trans (List.length_filter_le _ _) hw.1, fun s hs => hw.2 s (List.mem_filter.1 hs).1⟩, Nat.le_trans (List.length_filter_le _ _) hw.1, fun s hs => hw.2 s (List.mem_filter.1 hs).1⟩
def obs2 (ws : Bel) (f : Int) : List Bel := if (sp_observed ws f).1 ≠ [] ∧ (sp_observed ws f).2 ≠ [] then [(sp_observed ws f).1, (sp_observed ws f).2] else []
theorem osucc_def (t : Task) (sensors : List Int) (ws : Bel) : osucc t sensors ws = (bsucc t ws).map (·.2) ++ sensors.flatMap (obs2 ws) := rfl
theorem osucc_ok {t : Task} (hv : sp_validate t = ⟨0, 0⟩) {sensors : List Int} {ws x : Bel} (hw : WsOK t ws) (h : x ∈ osucc t sensors ws) : WsOK t x := by
  rw [osucc_def] at h
  rcases List.mem_append.1 h with h | h
  · obtain ⟨y, hy, rfl⟩ := List.mem_map.1 h
    exact bsucc_ok hv hw hy
  · obtain ⟨f, _, hf⟩ := List.mem_flatMap.1 h
    unfold obs2 at hf
    split at hf
    · simp only [List.mem_cons, List.not_mem_nil, or_false] at hf
      rcases hf with rfl | rfl
      · exact (observed_ok hw f).1
      · exact (observed_ok hw f).2
    · cases hf
theorem obs2_len (ws : Bel) : ∀ l : List Int, (l.flatMap (obs2 ws)).length ≤ 2 * l.length
  | [] => by simp
  | f :: r => by
    have := obs2_len ws r
    have h2 : (obs2 ws f).length ≤ 2 := by unfold obs2; split <;> simp
    rw [List.flatMap_cons, List.length_append, List.length_cons]; omega
theorem opS_len (t : Task) (ws : Bel) (l : List Int) : (l.filterMap (opS t ws)).length ≤ l.length := List.length_filterMap_le _ _
theorem room24 {α : Type} {l : List α} {k : Nat} (h : l.length ≤ k) (hk : k ≤ 100000) : room l.length 24 := ⟨by unfold maxLen; omega, by omega⟩
/-! ### distances -/
def dsum (d : List Int) : Nat := (d.map Int.toNat).sum
theorem dsum_set : ∀ (d : List Int) (i : Nat) (v : Int), i < d.length → 0 ≤ v → v < d.getD i 0 → dsum (d.set i v) < dsum d
  | [], i, v, h, _, _ => by simp at h
  | x :: r, 0, v, _, h0, hv => by
    have : v < x := by simpa using hv
    simp only [dsum, List.set_cons_zero, List.map_cons, List.sum_cons]; omega
  | x :: r, i + 1, v, h, h0, hv => by
    have := dsum_set r i v (by simpa using h) h0 (by simpa using hv)
    simp only [dsum, List.set_cons_succ, List.map_cons, List.sum_cons] at this ⊢; omega
/-- the next node by an operator -/
def nxt (t : Task) (all : List Bel) (i : Nat) (o : Int) : Int := sp_placeOf all (sp_bafter t (gt all (i : Int)) o)
def edge (t : Task) (all : List Bel) (i : Nat) (o : Int) : Prop := inb t.ops o ∧ sp_allHold (gt all (i : Int)) (gt t.ops o).pre = true
def isGoal (t : Task) (all : List Bel) (i : Nat) : Prop := sp_allHold (gt all (i : Int)) t.goal = true
theorem Closed.nxt {t : Task} {all : List Bel} (h : Closed t all) {i : Nat} (hi : i < all.length) {o : Int} (e : edge t all i o) : inb all (nxt t all i o) ∧ gt all (nxt t all i o) = sp_bafter t (gt all (i : Int)) o ∧ (o, sp_bafter t (gt all (i : Int)) o) ∈ bsucc t (gt all (i : Int)) := by
  have hm : (o, sp_bafter t (gt all (i : Int)) o) ∈ bsucc t (gt all (i : Int)) := mem_bsucc.2 ⟨e.1, by rw [sure_allHold]; exact e.2, rfl⟩
  have := placeOf_mem (h.step _ (gt_memN hi) _ hm)
  exact ⟨this.1, this.2, hm⟩
structure DInv (t : Task) (all : List Bel) (d : List Int) : Prop where
  len : d.length = all.length
  goal : ∀ i : Nat, i < all.length → isGoal t all i → gt d (i : Int) = 0
  pos : ∀ i : Nat, i < all.length → ¬ isGoal t all i → 1 ≤ gt d (i : Int) ∧ gt d (i : Int) ≤ 1000000000
  wit : ∀ i : Nat, i < all.length → ¬ isGoal t all i → gt d (i : Int) < 1000000000 → ∃ o, edge t all i o ∧ gt d (nxt t all i o) + 1 ≤ gt d (i : Int)
theorem DInv.rng {t : Task} {all : List Bel} {d : List Int} (h : DInv t all d) {i : Int} (hi : inb all i) : 0 ≤ gt d i ∧ gt d i ≤ 1000000000 := by
  obtain ⟨k, rfl⟩ : ∃ k : Nat, i = k := ⟨i.toNat, by have := hi.1; omega⟩
  have hk : k < all.length := by have := hi.2; omega
  by_cases g : isGoal t all k
  · rw [h.goal k hk g]; decide
  · have := h.pos k hk g; omega
theorem DInv.relax {t : Task} {all : List Bel} {d : List Int} (hc : Closed t all) (h : DInv t all d) {i : Nat} (hi : i < all.length) {o : Int} (e : edge t all i o) (hl : gt d (nxt t all i o) + 1 < gt d (i : Int)) : DInv t all (d.set i (gt d (nxt t all i o) + 1)) ∧ dsum (d.set i (gt d (nxt t all i o) + 1)) < dsum d := by
  obtain ⟨n1, _, _⟩ := hc.nxt hi e
  have hr := h.rng n1
  have hin : inb d ((i : Nat) : Int) := ⟨by omega, by rw [h.len]; omega⟩
  have hset : ∀ j : Int, 0 ≤ j → gt (d.set i (gt d (nxt t all i o) + 1)) j = if j = (i : Int) then gt d (nxt t all i o) + 1 else gt d j := fun j hj => by
    have := gt_setI (x := gt d (nxt t all i o) + 1) hin hj
    rwa [Int.toNat_natCast] at this
  have ng : ¬ isGoal t all i := fun g => by have := h.goal i hi g; omega
  have hp := h.pos i hi ng
  refine ⟨⟨by rw [List.length_set]; exact h.len, fun j hj g => ?_, fun j hj g => ?_, fun j hj g hlt => ?_⟩, ?_⟩
  · rw [hset _ (by omega), if_neg (show ¬ ((j : Int) = (i : Int)) from fun q => ng ((show j = i by omega) ▸ g))]
    exact h.goal j hj g
  · rw [hset _ (by omega)]
    split
    · omega
    · exact h.pos j hj g
  · rw [hset _ (by omega)] at hlt ⊢
    by_cases q : (j : Int) = (i : Int)
    · rw [if_pos q]
      have : j = i := by omega
      subst this
      refine ⟨o, e, ?_⟩
      rw [hset _ n1.1]
      split
      · rename_i q2; rw [q2] at hl; omega
      · omega
    · rw [if_neg q] at hlt ⊢
      obtain ⟨o', e', l'⟩ := h.wit j hj g hlt
      obtain ⟨m1, _, _⟩ := hc.nxt hj e'
      refine ⟨o', e', ?_⟩
      rw [hset _ m1.1]
      split
      · rename_i q2; rw [q2] at l'; omega
      · exact l'
  · refine dsum_set d i _ (by rw [h.len]; exact hi) (by omega) ?_
    have : d.getD i 0 = gt d (i : Int) := by
      unfold gt
      rw [Int.toNat_natCast]; rfl
    rw [this]; exact hl
/-- no edge can be relaxed -/
def Fix (t : Task) (all : List Bel) (d : List Int) : Prop := ∀ (i : Nat) (o : Int), i < all.length → edge t all i o → gt d (i : Int) ≤ gt d (nxt t all i o) + 1
theorem DInv.exact_ {t : Task} {all : List Bel} {d : List Int} (h : DInv t all d) (hf : Fix t all d) {i : Nat} (hi : i < all.length) (h0 : 0 < gt d (i : Int)) (hl : gt d (i : Int) < 1000000000) : ∃ o, edge t all i o ∧ gt d (nxt t all i o) = gt d (i : Int) - 1 := by
  have ng : ¬ isGoal t all i := fun g => by have := h.goal i hi g; omega
  obtain ⟨o, e, l⟩ := h.wit i hi ng hl
  have := hf i o hi e
  exact ⟨o, e, by omega⟩
/-- a finite distance is less than the number of nodes -/
theorem DInv.small {t : Task} {all : List Bel} {d : List Int} (hc : Closed t all) (h : DInv t all d) (hf : Fix t all d) {i : Nat} (hi : i < all.length) (hl : gt d (i : Int) < 1000000000) : gt d (i : Int) < all.length := by
  have chain : ∀ (m : Nat) (i : Nat), i < all.length → gt d (i : Int) = m → (m : Int) < 1000000000 → ∃ l : List Nat, l.length = m + 1 ∧ l.Nodup ∧ ∀ j ∈ l, j < all.length ∧ gt d (j : Int) ≤ m := by
    intro m
    induction m with
    | zero => exact fun i hi he _ => ⟨[i], rfl, by simp, fun j hj => by rw [List.mem_singleton.1 hj]; exact ⟨hi, by omega⟩⟩
    | succ m ih =>
      intro i hi he hb
      obtain ⟨o, e, x⟩ := h.exact_ hf hi (by omega) (by omega)
      obtain ⟨n1, _, _⟩ := hc.nxt hi e
      obtain ⟨k, hk⟩ : ∃ k : Nat, nxt t all i o = k := ⟨(nxt t all i o).toNat, by have := n1.1; omega⟩
      rw [hk] at x n1
      obtain ⟨l, l1, l2, l3⟩ := ih k (by have := n1.2; omega) (by omega) (by omega)
      refine ⟨i :: l, by simp [l1], List.nodup_cons.2 ⟨fun hm => ?_, l2⟩, fun j hj => ?_⟩
      · have := (l3 i hm).2; omega
      · rcases List.mem_cons.1 hj with rfl | hj
        · exact ⟨hi, by omega⟩
        · have := l3 j hj; exact ⟨this.1, by omega⟩
  have hr := h.rng (i := (i : Int)) ⟨by omega, by omega⟩
  obtain ⟨l, l1, l2, l3⟩ := chain (gt d (i : Int)).toNat i hi (by omega) (by omega)
  have := nodup_len all.length l l2 fun v hv => (l3 v hv).1
  omega
abbrev GoalB (t : Task) : Bel → Bool := fun w => sp_sure w t.goal
theorem goal_iff {t : Task} {all : List Bel} {i : Nat} : GoalB t (gt all (i : Int)) = true ↔ isGoal t all i := by
  unfold isGoal; rw [← sure_allHold]
/-- each way to the goal is at least as long as the distance -/
theorem DInv.lower {t : Task} {all : List Bel} {d : List Int} (hc : Closed t all) (h : DInv t all d) (hf : Fix t all d) : ∀ (p : List Int) (i : Nat) (v : Bel), i < all.length → Way (bsucc t) (gt all (i : Int)) p v → GoalB t v = true → gt d (i : Int) < 1000000000 ∧ gt d (i : Int) ≤ p.length
  | [], i, v, hi, hw, hg => by
    have e : gt all (i : Int) = v := hw
    have := h.goal i hi (goal_iff.1 (by rw [e]; exact hg))
    rw [this]; exact ⟨by decide, by simp⟩
  | o :: p, i, v, hi, ⟨x, hx, hw⟩, hg => by
    obtain ⟨m1, m2, m3⟩ := mem_bsucc.1 hx
    have e : edge t all i o := ⟨m1, by rw [← sure_allHold]; exact m2⟩
    obtain ⟨n1, n2, _⟩ := hc.nxt hi e
    simp only at m3
    obtain ⟨k, hk⟩ : ∃ k : Nat, nxt t all i o = k := ⟨(nxt t all i o).toNat, by have := n1.1; omega⟩
    have hkl : k < all.length := by have := n1.2; omega
    rw [hk] at n2
    rw [m3, ← n2] at hw
    obtain ⟨a, b⟩ := h.lower hc hf p k v hkl hw hg
    have hs := h.small hc hf hkl a
    have := hf i o hi e
    rw [hk] at this
    have := hc.len
    simp only [List.length_cons]
    omega
/-- .. and there is one of that length -/
theorem DInv.way {t : Task} {all : List Bel} {d : List Int} (hc : Closed t all) (h : DInv t all d) (hf : Fix t all d) (m : Nat) : ∀ i : Nat, i < all.length → gt d (i : Int) = m → (m : Int) < 1000000000 → ∃ p v, Way (bsucc t) (gt all (i : Int)) p v ∧ GoalB t v = true ∧ p.length = m := by
  induction m with
  | zero =>
    intro i hi he _
    have g : isGoal t all i := Classical.byContradiction fun g => by have := h.pos i hi g; omega
    exact ⟨[], _, rfl, goal_iff.2 g, rfl⟩
  | succ m ih =>
    intro i hi he hb
    obtain ⟨o, e, x⟩ := h.exact_ hf hi (by omega) (by omega)
    obtain ⟨n1, n2, n3⟩ := hc.nxt hi e
    obtain ⟨k, hk⟩ : ∃ k : Nat, nxt t all i o = k := ⟨(nxt t all i o).toNat, by have := n1.1; omega⟩
    rw [hk] at x n1 n2
    obtain ⟨p, v, w1, w2, w3⟩ := ih k (by have := n1.2; omega) (by omega) (by omega)
    rw [n2] at w1
    exact ⟨o :: p, v, ⟨_, n3, w1⟩, w2, by simp [w3]⟩
theorem Least.len {t : Task} {all : List Bel} {d : List Int} (hc : Closed t all) (h : DInv t all d) (hf : Fix t all d) {i : Nat} (hi : i < all.length) {p : List Int} (hl : Least (bsucc t) (GoalB t) (gt all (i : Int)) p) : (p.length : Int) = gt d (i : Int) := by
  obtain ⟨⟨v, w, g⟩, m⟩ := hl
  obtain ⟨a, b⟩ := h.lower hc hf p i v hi w g
  have hr := h.rng (i := (i : Int)) ⟨by omega, by omega⟩
  obtain ⟨p', v', w1, w2, w3⟩ := h.way hc hf (gt d (i : Int)).toNat i hi (by omega) (by omega)
  have := sle_len (m p' v' w1 w2)
  omega
/-- the smallest operator that reduces the distance -/
theorem Least.step {t : Task} {all : List Bel} {d : List Int} (hc : Closed t all) (h : DInv t all d) (hf : Fix t all d) {i : Nat} (hi : i < all.length) (h0 : 0 < gt d (i : Int)) {o : Int} (e : edge t all i o) (hd : gt d (nxt t all i o) = gt d (i : Int) - 1)
    (hmin : ∀ o', o' < o → edge t all i o' → gt d (nxt t all i o') ≠ gt d (i : Int) - 1) {rest : List Int} (hl : Least (bsucc t) (GoalB t) (gt all (nxt t all i o)) rest) : Least (bsucc t) (GoalB t) (gt all (i : Int)) (o :: rest) := by
  obtain ⟨n1, n2, n3⟩ := hc.nxt hi e
  obtain ⟨k, hk⟩ : ∃ k : Nat, nxt t all i o = k := ⟨(nxt t all i o).toNat, by have := n1.1; omega⟩
  have hkl : k < all.length := by have := n1.2; omega
  have hlen : (rest.length : Int) = gt d (i : Int) - 1 := by
    rw [hk] at hl hd
    rw [Least.len hc h hf hkl hl, hd]
  obtain ⟨⟨v, w, g⟩, m⟩ := hl
  refine ⟨⟨v, ⟨_, n3, n2 ▸ w⟩, g⟩, fun p' v' w' g' => ?_⟩
  have hlow := h.lower hc hf p' i v' hi w' g'
  cases p' with
  | nil => simp at hlow; omega
  | cons o' q =>
    obtain ⟨x, hx, hw⟩ := w'
    obtain ⟨m1, m2, m3⟩ := mem_bsucc.1 hx
    have e' : edge t all i o' := ⟨m1, by rw [← sure_allHold]; exact m2⟩
    obtain ⟨p1, p2, _⟩ := hc.nxt hi e'
    simp only at m3
    simp only [List.length_cons] at hlow
    by_cases hlt : rest.length < q.length
    · exact .inr (.inl (by simp; omega))
    · have hql : q.length = rest.length := by omega
      rw [m3, ← p2] at hw
      obtain ⟨k', hk'⟩ : ∃ k' : Nat, nxt t all i o' = k' := ⟨(nxt t all i o').toNat, by have := p1.1; omega⟩
      have hl2 := (h.lower hc hf q k' v' (by have := p1.2; omega) (hk' ▸ hw) g').2
      have hf2 := hf i o' hi e'
      rw [hk'] at hf2
      have hx2 : gt d (nxt t all i o') = gt d (i : Int) - 1 := by rw [hk']; omega
      have hge : o ≤ o' := by
        rcases Int.lt_or_le o' o with c | c
        · exact absurd hx2 (hmin o' c e')
        · exact c
      by_cases heq : o = o'
      · subst heq
        rcases m q v' hw g' with c | c
        · exact .inl (by rw [c])
        · rcases c with c | ⟨c1, c2⟩
          · omega
          · exact .inr (.inr ⟨by simp [c1], .inr ⟨rfl, c2⟩⟩)
      · exact .inr (.inr ⟨by simp; omega, .inl (by omega)⟩)
theorem mem_ops {t : Task} {all : List Bel} {i : Nat} {o : Int} (h : edge t all i o) : ∃ q : Nat, o = q ∧ q < t.ops.length := ⟨o.toNat, by have := h.1.1; omega, by have := h.1.2; have := h.1.1; omega⟩
end Go.Proofs.YtojoehfldbimpaaDoor.Pl
