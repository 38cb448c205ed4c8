/- What the reference's searches among beliefs ask and give. Plain Lean. No condition. -/
import Derived.Test.YtojoehfldbimpaaGreatDoorK5
namespace Go.Proofs.YtojoehfldbimpaaGreatDoor.Pl
open Go Go.RowKit
theorem placeOf_mem {all : List Bel} {l : Bel} (h : l ∈ all) : inb all (sp_placeOf all l) ∧ gt all (sp_placeOf all l) = l := by
  have hl := List.idxOf_lt_length_of_mem h
  rw [sp_placeOf, if_pos h]
  refine ⟨⟨by omega, by omega⟩, ?_⟩
  rw [gt_of ⟨by omega, by omega⟩]
  simp only [Int.toNat_natCast, List.getElem_idxOf]
/-- the next node by an operator -/
def nxt (t : Task) (all : List Bel) (i : Nat) (o : Int) : Int := sp_placeOf all (sp_bafter t (gt all (i : Int)) o)
def edge (t : Task) (all : List Bel) (i : Nat) (o : Int) : Prop := inb t.ops o ∧ sp_allHold (gt all (i : Int)) (gt t.ops o).pre = true
def isGoal (t : Task) (all : List Bel) (i : Nat) : Prop := sp_allHold (gt all (i : Int)) t.goal = true
theorem Closed.nxt {t : Task} {all : List Bel} (h : Closed t all) {i : Nat} (hi : i < all.length) {o : Int} (e : edge t all i o) : inb all (nxt t all i o) ∧ gt all (nxt t all i o) = sp_bafter t (gt all (i : Int)) o ∧ (o, sp_bafter t (gt all (i : Int)) o) ∈ bsucc t (gt all (i : Int)) := by
  have hm : (o, sp_bafter t (gt all (i : Int)) o) ∈ bsucc t (gt all (i : Int)) := mem_bsucc.2 ⟨e.1, by rw [sure_allHold]; exact e.2, rfl⟩
  have := placeOf_mem (h.step _ (gt_memN hi) _ hm)
  exact ⟨this.1, this.2, hm⟩
structure DInv (t : Task) (all : List Bel) (d : List Int) : Prop where
  len : d.length = all.length
  goal : ∀ i : Nat, i < all.length → isGoal t all i → gt d (i : Int) = 0
  pos : ∀ i : Nat, i < all.length → ¬ isGoal t all i → 1 ≤ gt d (i : Int) ∧ gt d (i : Int) ≤ 1000000000
  wit : ∀ i : Nat, i < all.length → ¬ isGoal t all i → gt d (i : Int) < 1000000000 → ∃ o, edge t all i o ∧ gt d (nxt t all i o) + 1 ≤ gt d (i : Int)
theorem DInv.rng {t : Task} {all : List Bel} {d : List Int} (h : DInv t all d) {i : Int} (hi : inb all i) : 0 ≤ gt d i ∧ gt d i ≤ 1000000000 := by
  obtain ⟨k, rfl⟩ : ∃ k : Nat, i = k := ⟨i.toNat, by have := hi.1; omega⟩
  have hk : k < all.length := by have := hi.2; omega
  by_cases g : isGoal t all k
  · rw [h.goal k hk g]; decide
  · have := h.pos k hk g; omega
/-- no edge can be relaxed -/
def Fix (t : Task) (all : List Bel) (d : List Int) : Prop := ∀ (i : Nat) (o : Int), i < all.length → edge t all i o → gt d (i : Int) ≤ gt d (nxt t all i o) + 1
theorem DInv.exact_ {t : Task} {all : List Bel} {d : List Int} (h : DInv t all d) (hf : Fix t all d) {i : Nat} (hi : i < all.length) (h0 : 0 < gt d (i : Int)) (hl : gt d (i : Int) < 1000000000) : ∃ o, edge t all i o ∧ gt d (nxt t all i o) = gt d (i : Int) - 1 := by
  have ng : ¬ isGoal t all i := fun g => by have := h.goal i hi g; omega
  obtain ⟨o, e, l⟩ := h.wit i hi ng hl
  have := hf i o hi e
  exact ⟨o, e, by omega⟩
/-- a finite distance is less than the number of nodes -/
theorem DInv.small {t : Task} {all : List Bel} {d : List Int} (hc : Closed t all) (h : DInv t all d) (hf : Fix t all d) {i : Nat} (hi : i < all.length) (hl : gt d (i : Int) < 1000000000) : gt d (i : Int) < all.length := by
  have chain : ∀ (m : Nat) (i : Nat), i < all.length → gt d (i : Int) = m → (m : Int) < 1000000000 → ∃ l : List Nat, l.length = m + 1 ∧ l.Nodup ∧ ∀ j ∈ l, j < all.length ∧ gt d (j : Int) ≤ m := by
    intro m
    induction m with
    | zero => exact fun i hi he _ => ⟨[i], rfl, by simp, fun j hj => by rw [List.mem_singleton.1 hj]; exact ⟨hi, by omega⟩⟩
    | succ m ih =>
      intro i hi he hb
      obtain ⟨o, e, x⟩ := h.exact_ hf hi (by omega) (by omega)
      obtain ⟨n1, _, _⟩ := hc.nxt hi e
      obtain ⟨k, hk⟩ : ∃ k : Nat, nxt t all i o = k := ⟨(nxt t all i o).toNat, by have := n1.1; omega⟩
      rw [hk] at x n1
      obtain ⟨l, l1, l2, l3⟩ := ih k (by have := n1.2; omega) (by omega) (by omega)
      refine ⟨i :: l, by simp [l1], List.nodup_cons.2 ⟨fun hm => ?_, l2⟩, fun j hj => ?_⟩
      · have := (l3 i hm).2; omega
      · rcases List.mem_cons.1 hj with rfl | hj
        · exact ⟨hi, by omega⟩
        · have := l3 j hj; exact ⟨this.1, by omega⟩
  have hr := h.rng (i := (i : Int)) ⟨by omega, by omega⟩
  obtain ⟨l, l1, l2, l3⟩ := chain (gt d (i : Int)).toNat i hi (by omega) (by omega)
  have := nodup_len all.length l l2 fun v hv => (l3 v hv).1
  omega
abbrev GoalB (t : Task) : Bel → Bool := fun w => sp_sure w t.goal
theorem goal_iff {t : Task} {all : List Bel} {i : Nat} : GoalB t (gt all (i : Int)) = true ↔ isGoal t all i := by
  unfold isGoal; rw [← sure_allHold]
/-- each way to the goal is at least as long as the distance -/
theorem DInv.lower {t : Task} {all : List Bel} {d : List Int} (hc : Closed t all) (h : DInv t all d) (hf : Fix t all d) : ∀ (p : List Int) (i : Nat) (v : Bel), i < all.length → Way (bsucc t) (gt all (i : Int)) p v → GoalB t v = true → gt d (i : Int) < 1000000000 ∧ gt d (i : Int) ≤ p.length
  | [], i, v, hi, hw, hg => by
    have e : gt all (i : Int) = v := hw
    have := h.goal i hi (goal_iff.1 (by rw [e]; exact hg))
    rw [this]; exact ⟨by decide, by simp⟩
  | o :: p, i, v, hi, ⟨x, hx, hw⟩, hg => by
    obtain ⟨m1, m2, m3⟩ := mem_bsucc.1 hx
    have e : edge t all i o := ⟨m1, by rw [← sure_allHold]; exact m2⟩
    obtain ⟨n1, n2, _⟩ := hc.nxt hi e
    simp only at m3
    obtain ⟨k, hk⟩ : ∃ k : Nat, nxt t all i o = k := ⟨(nxt t all i o).toNat, by have := n1.1; omega⟩
    have hkl : k < all.length := by have := n1.2; omega
    rw [hk] at n2
    rw [m3, ← n2] at hw
    obtain ⟨a, b⟩ := h.lower hc hf p k v hkl hw hg
    have hs := h.small hc hf hkl a
    have := hf i o hi e
    rw [hk] at this
    have := hc.len
    simp only [List.length_cons]
    omega
/-- .. and there is one of that length -/
theorem DInv.way {t : Task} {all : List Bel} {d : List Int} (hc : Closed t all) (h : DInv t all d) (hf : Fix t all d) (m : Nat) : ∀ i : Nat, i < all.length → gt d (i : Int) = m → (m : Int) < 1000000000 → ∃ p v, Way (bsucc t) (gt all (i : Int)) p v ∧ GoalB t v = true ∧ p.length = m := by
  induction m with
  | zero =>
    intro i hi he _
    have g : isGoal t all i := Classical.byContradiction fun g => by have := h.pos i hi g; omega
    exact ⟨[], _, rfl, goal_iff.2 g, rfl⟩
  | succ m ih =>
    intro i hi he hb
    obtain ⟨o, e, x⟩ := h.exact_ hf hi (by omega) (by omega)
    obtain ⟨n1, n2, n3⟩ := hc.nxt hi e
    obtain ⟨k, hk⟩ : ∃ k : Nat, nxt t all i o = k := ⟨(nxt t all i o).toNat, by have := n1.1; omega⟩
    rw [hk] at x n1 n2
    obtain ⟨p, v, w1, w2, w3⟩ := ih k (by have := n1.2; omega) (by omega) (by omega)
    rw [n2] at w1
    exact ⟨o :: p, v, ⟨_, n3, w1⟩, w2, by simp [w3]⟩
theorem Least.len {t : Task} {all : List Bel} {d : List Int} (hc : Closed t all) (h : DInv t all d) (hf : Fix t all d) {i : Nat} (hi : i < all.length) {p : List Int} (hl : Least (bsucc t) (GoalB t) (gt all (i : Int)) p) : (p.length : Int) = gt d (i : Int) := by
  obtain ⟨⟨v, w, g⟩, m⟩ := hl
  obtain ⟨a, b⟩ := h.lower hc hf p i v hi w g
  have hr := h.rng (i := (i : Int)) ⟨by omega, by omega⟩
  obtain ⟨p', v', w1, w2, w3⟩ := h.way hc hf (gt d (i : Int)).toNat i hi (by omega) (by omega)
  have := sle_len (m p' v' w1 w2)
  omega
/-- the smallest operator that reduces the distance -/
theorem Least.step {t : Task} {all : List Bel} {d : List Int} (hc : Closed t all) (h : DInv t all d) (hf : Fix t all d) {i : Nat} (hi : i < all.length) (h0 : 0 < gt d (i : Int)) {o : Int} (e : edge t all i o) (hd : gt d (nxt t all i o) = gt d (i : Int) - 1)
    (hmin : ∀ o', o' < o → edge t all i o' → gt d (nxt t all i o') ≠ gt d (i : Int) - 1) {rest : List Int} (hl : Least (bsucc t) (GoalB t) (gt all (nxt t all i o)) rest) : Least (bsucc t) (GoalB t) (gt all (i : Int)) (o :: rest) := by
  obtain ⟨n1, n2, n3⟩ := hc.nxt hi e
  obtain ⟨k, hk⟩ : ∃ k : Nat, nxt t all i o = k := ⟨(nxt t all i o).toNat, by have := n1.1; omega⟩
  have hkl : k < all.length := by have := n1.2; omega
  have hlen : (rest.length : Int) = gt d (i : Int) - 1 := by
    rw [hk] at hl hd
    rw [Least.len hc h hf hkl hl, hd]
  obtain ⟨⟨v, w, g⟩, m⟩ := hl
  refine ⟨⟨v, ⟨_, n3, n2 ▸ w⟩, g⟩, fun p' v' w' g' => ?_⟩
  have hlow := h.lower hc hf p' i v' hi w' g'
  cases p' with
  | nil => simp at hlow; omega
  | cons o' q =>
    obtain ⟨x, hx, hw⟩ := w'
    obtain ⟨m1, m2, m3⟩ := mem_bsucc.1 hx
    have e' : edge t all i o' := ⟨m1, by rw [← sure_allHold]; exact m2⟩
    obtain ⟨p1, p2, _⟩ := hc.nxt hi e'
    simp only at m3
    simp only [List.length_cons] at hlow
    by_cases hlt : rest.length < q.length
    · exact .inr (.inl (by simp; omega))
    · have hql : q.length = rest.length := by omega
      rw [m3, ← p2] at hw
      obtain ⟨k', hk'⟩ : ∃ k' : Nat, nxt t all i o' = k' := ⟨(nxt t all i o').toNat, by have := p1.1; omega⟩
      have hl2 := (h.lower hc hf q k' v' (by have := p1.2; omega) (hk' ▸ hw) g').2
      have hf2 := hf i o' hi e'
      rw [hk'] at hf2
      have hx2 : gt d (nxt t all i o') = gt d (i : Int) - 1 := by rw [hk']; omega
      have hge : o ≤ o' := by
        rcases Int.lt_or_le o' o with c | c
        · exact absurd hx2 (hmin o' c e')
        · exact c
      by_cases heq : o = o'
      · subst heq
        rcases m q v' hw g' with c | c
        · exact .inl (by rw [c])
        · rcases c with c | ⟨c1, c2⟩
          · omega
          · exact .inr (.inr ⟨by simp [c1], .inr ⟨rfl, c2⟩⟩)
      · exact .inr (.inr ⟨by simp; omega, .inl (by omega)⟩)
end Go.Proofs.YtojoehfldbimpaaGreatDoor.Pl

