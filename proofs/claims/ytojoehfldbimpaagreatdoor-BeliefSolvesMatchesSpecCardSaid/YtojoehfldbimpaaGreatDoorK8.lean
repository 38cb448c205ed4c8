/- Sorting and compacting lists of states. Plain Lean. No condition. -/
import Derived.Test.YtojoehfldbimpaaGreatDoorBe1
namespace Go.Proofs.YtojoehfldbimpaaGreatDoor.Pl
open Go Go.RowKit
theorem sortR_perm (l : Bel) : (sp_sortR l).Perm l := List.mergeSort_perm _ _
theorem sortR_len (l : Bel) : (sp_sortR l).length = l.length := (sortR_perm l).length_eq
def Nle (x y : List Int) : Prop := sp_before y x = false
theorem nle_trans {x y z : List Int} (h : Nle x y) (g : Nle y z) : Nle x z := by
  unfold Nle at *
  rcases before_tri y x with a | a | a
  · rw [h] at a; cases a
  · rw [← a]; exact g
  · rcases before_tri z y with b | b | b
    · rw [g] at b; cases b
    · rw [b]; exact h
    · have := before_trans _ _ _ a b
      cases e : sp_before z x
      · rfl
      · have := before_trans _ _ _ this e
        rw [before_irr] at this; cases this
theorem sortR_sorted (l : Bel) : (sp_sortR l).Pairwise Nle := by
  have := List.pairwise_mergeSort (le := fun x y : List Int => !sp_before y x) (fun a b c h g => by
    simp only [Bool.not_eq_true'] at *
    exact nle_trans h g) (fun a b => by
    rcases before_tri a b with h | h | h
    · cases e : sp_before b a
      · simp
      · have := before_trans _ _ _ h e
        rw [before_irr] at this; cases this
    · subst h; rw [before_irr]; simp
    · cases e : sp_before a b
      · simp
      · have := before_trans _ _ _ h e
        rw [before_irr] at this; cases this) l
  exact this.imp fun h => by simpa [Nle] using h
theorem sorted_perm : ∀ (a b : Bel), a.Pairwise Nle → b.Pairwise Nle → a.Perm b → a = b
  | [], b, _, _, h => (List.nil_perm.1 h).symm
  | x :: a, [], _, _, h => absurd h.length_eq (by simp)
  | x :: a, y :: b, ha, hb, h => by
    rw [List.pairwise_cons] at ha hb
    have e : x = y := by
      rcases List.mem_cons.1 (h.mem_iff.1 (List.mem_cons_self (a := x) (l := a))) with e | e
      · exact e
      · rcases List.mem_cons.1 (h.mem_iff.2 (List.mem_cons_self (a := y) (l := b))) with e' | e'
        · exact e'.symm
        · have h1 := ha.1 y e'
          have h2 := hb.1 x e
          rcases before_tri x y with g | g | g
          · rw [show sp_before x y = false from h2] at g; cases g
          · exact g
          · rw [show sp_before y x = false from h1] at g; cases g
    subst e
    rw [sorted_perm a b ha.2 hb.2 h.cons_inv]
theorem compactR_snoc (l : Bel) (x : List Int) : sp_compactR (l ++ [x]) = if (sp_compactR l).getLast? = some x then sp_compactR l else sp_compactR l ++ [x] := by
  unfold sp_compactR; rw [List.foldl_append]; rfl
theorem compactR_last (l : Bel) : (sp_compactR l).getLast? = l.getLast? := by
  rcases List.eq_nil_or_concat l with rfl | ⟨l, x, rfl⟩
  · rfl
  · rw [List.concat_eq_append, compactR_snoc]
    split
    · rename_i h; rw [h]; simp
    · simp
theorem compactR_step (l : Bel) (x : List Int) : sp_compactR (l ++ [x]) = if l.getLast? = some x then sp_compactR l else sp_compactR l ++ [x] := by
  rw [compactR_snoc, compactR_last]
theorem mem_compactR (x : List Int) : ∀ (m : Nat) (l : Bel), l.length = m → (x ∈ sp_compactR l ↔ x ∈ l)
  | 0, l, h => by rw [List.length_eq_zero_iff.1 h]; simp [sp_compactR]
  | m + 1, l, h => by
    rcases List.eq_nil_or_concat l with rfl | ⟨l, y, rfl⟩
    · simp at h
    · rw [List.concat_eq_append] at h ⊢
      have ih := mem_compactR x m l (by simpa using h)
      rw [compactR_step]
      split
      · rename_i hl
        rw [ih, List.mem_append, List.mem_singleton]
        constructor
        · exact .inl
        · rintro (g | rfl)
          · exact g
          · exact List.mem_of_getLast? hl
      · rw [List.mem_append, ih, List.mem_append]
theorem compactR_sorted : ∀ (m : Nat) (l : Bel), l.length = m → l.Pairwise Nle → (sp_compactR l).Pairwise Bfr
  | 0, l, h, _ => by rw [List.length_eq_zero_iff.1 h]; simp [sp_compactR]
  | m + 1, l, h, hs => by
    rcases List.eq_nil_or_concat l with rfl | ⟨l, y, rfl⟩
    · simp at h
    · rw [List.concat_eq_append] at h hs ⊢
      obtain ⟨h1, _, h3⟩ := List.pairwise_append.1 hs
      have ih := compactR_sorted m l (by simpa using h) h1
      rw [compactR_step]
      split
      · exact ih
      · rename_i hl
        refine List.pairwise_append.2 ⟨ih, by simp, fun a ha b hb => ?_⟩
        rw [List.mem_singleton.1 hb]
        have ham := (mem_compactR a _ l rfl).1 ha
        have hn : Nle a y := h3 a ham y (by simp)
        rcases before_tri a y with g | g | g
        · exact g
        · -- a is y; the last of l is not, and lies between
          subst g
          rcases List.eq_nil_or_concat l with rfl | ⟨l2, z, rfl⟩
          · cases ham
          · rw [List.concat_eq_append] at hl h1 h3 ham ha ih
            have hz : z ≠ a := fun e => hl (by simp [e])
            have h4 : Nle z a := h3 z (by simp) a (by simp)
            rcases List.mem_append.1 ham with q | q
            · have h5 : Nle a z := (List.pairwise_append.1 h1).2.2 a q z (by simp)
              rcases before_tri a z with k | k | k
              · rw [show sp_before a z = false from h4] at k; cases k
              · exact absurd k.symm hz
              · rw [show sp_before z a = false from h5] at k; cases k
            · exact absurd (List.mem_singleton.1 q).symm hz
        · rw [show sp_before y a = false from hn] at g; cases g
theorem normal_eq (l : Bel) : sp_compactR (sp_sortR l) = sp_normal l :=
  bfr_ext (compactR_sorted _ _ rfl (sortR_sorted l)) (normal_sorted l) fun x => by rw [mem_compactR x _ _ rfl, mem_normal, (sortR_perm l).mem_iff]
theorem ok_normal : ∀ (l : List (List Int)), pre_normal l → F_normal l (fun r => r = sp_normal l) := fun l hp => by
  unfold F_normal
  simp only [forall_eq]
  exact ⟨hp, ⟨by rw [sortR_len]; exact hp.1, fun x hx => hp.2 x ((sortR_perm l).mem_iff.1 hx)⟩, normal_eq l⟩
theorem last_take {l : Bel} {k : Nat} (h0 : 0 < k) (h : k ≤ l.length) : (l.take k).getLast? = some (gt l ((k - 1 : Nat) : Int)) := by
  have := takeN_gt (xs := l) (k := k - 1) (by omega)
  rw [show k - 1 + 1 = k by omega] at this
  rw [this]; simp
theorem ok_compactR : ∀ (s_ : List (List Int)), pre_compactR s_ → F_compactR s_ (fun r => r = sp_compactR s_) := fun s ⟨hl, hr⟩ => by
  unfold F_compactR
  simp only [decide_eq_true_eq, decide_eq_false_iff_not]
  refine ⟨fun h => ?_, fun h => ?_⟩
  · match s, h with
    | [], _ => rfl
    | [x], _ => rfl
    | _ :: _ :: _, h => simp at h; omega
  have ext : ∀ k : Nat, 0 < k → k < s.length → sp_compactR (s.take (k + 1)) = if gt s ((k - 1 : Nat) : Int) = gt s (k : Int) then sp_compactR (s.take k) else sp_compactR (s.take k) ++ [gt s (k : Int)] := fun k h0 hk => by
    rw [takeN_gt hk, compactR_step, last_take h0 (by omega)]
    simp only [Option.some.injEq]
  refine ⟨fun k => ∃ j : Nat, k = j ∧ 1 ≤ j ∧ j ≤ s.length ∧ sp_compactR (s.take j) = s.take j, fun k => (s.length - k).toNat, ⟨1, rfl, by omega, by omega, ?_⟩, ?_⟩
  · match s, h with
    | [], h => simp at h
    | x :: r, _ => rfl
  rintro _ ⟨j, rfl, j1, j2, j3⟩
  unfold F_compactR_L1
  simp only [forall_eq, decide_eq_true_eq, decide_eq_false_iff_not, sp_sequal]
  refine ⟨fun g => ?_, fun g => ?_⟩
  · have hj : j < s.length := by omega
    have ej := ext j (by omega) hj
    rw [w64 (n := (j : Int) - 1) (by omega), w64 (n := (j : Int) + 1) (by omega), show (j : Int) - 1 = ((j - 1 : Nat) : Int) by omega]
    refine ⟨⟨by omega, g⟩, ⟨by omega, by omega⟩, ⟨hr _ (gt_memN hj), hr _ (gt_memN (by omega))⟩, fun e => ⟨⟨by omega, by omega⟩, ?_⟩, fun e => ⟨⟨j + 1, by omega, by omega, by omega, ?_⟩, by omega⟩⟩
    · rw [if_pos e.symm] at ej
      refine ⟨fun k3 k22 s2 => ∃ a b : Nat, k3 = a ∧ k22 = b ∧ 1 ≤ b ∧ j + b ≤ s.length ∧ a + 1 ≤ j + b ∧ s2.length = s.length ∧ s2.take a = sp_compactR (s.take (j + b)) ∧ ∀ p : Nat, j + b ≤ p + 1 → p < s.length → gt s2 (p : Int) = gt s (p : Int), fun _ k22 _ => (s.length - k22).toNat, ⟨j, 1, rfl, rfl, by omega, by omega, by omega, rfl, by rw [ej, j3], fun p _ _ => rfl⟩, ?_⟩
      rintro _ _ s2 ⟨a, b, rfl, rfl, b1, b2, b3, b4, b5, b6⟩
      unfold F_compactR_L2 F_compactR_J1
      simp only [forall_eq, decide_eq_true_eq, decide_eq_false_iff_not, Bool.not_eq_true', Bool.not_eq_false', Int.toNat_natCast]
      refine ⟨fun q => ?_, fun q => ?_⟩
      · have hb : j + b < s.length := by omega
        rw [w64 (n := (b : Int) - 1) (by omega), w64 (n := (b : Int) + 1) (by omega), w64 (n := (a : Int) + 1) (by omega)]
        have e1 : (j : Int) + (b : Int) = ((j + b : Nat) : Int) := by omega
        have e2 : (j : Int) + ((b : Int) - 1) = ((j + b - 1 : Nat) : Int) := by omega
        rw [e1, e2, b6 (j + b) (by omega) hb, b6 (j + b - 1) (by omega) (by omega)]
        have eb := ext (j + b) (by omega) hb
        refine ⟨by omega, ⟨by omega, by omega⟩, by omega, ⟨by omega, by omega⟩, ⟨hr _ (gt_memN hb), hr _ (gt_memN (by omega))⟩, fun e => ⟨⟨by omega, by omega⟩, ⟨a + 1, b + 1, by omega, by omega, by omega, by omega, by omega, by rw [List.length_set]; exact b4, ?_, fun p p1 p2 => ?_⟩, by omega⟩, fun e => ⟨⟨a, b + 1, rfl, by omega, by omega, by omega, by omega, b4, ?_, fun p p1 p2 => b6 p (by omega) p2⟩, by omega⟩⟩
        · have hne : ¬ gt s ((j + b - 1 : Nat) : Int) = gt s ((j + b : Nat) : Int) := fun k => of_decide_eq_false e k.symm
          rw [if_neg hne] at eb
          rw [show j + (b + 1) = j + b + 1 by omega, eb, ← b5]
          have hal : a < (s2.set a (gt s ((j + b : Nat) : Int))).length := by rw [List.length_set]; omega
          rw [takeN_gt hal, List.take_set_of_le (Nat.le_refl a)]
          congr 1
          have := gt_set (xs := s2) (i := (a : Int)) (x := gt s ((j + b : Nat) : Int)) ⟨by omega, by omega⟩
          rw [Int.toNat_natCast] at this
          rw [this]
        · have := gt_setI (xs := s2) (i := (a : Int)) (j := (p : Int)) (x := gt s ((j + b : Nat) : Int)) ⟨by omega, by omega⟩ (by omega)
          rw [Int.toNat_natCast] at this
          rw [this, if_neg (by omega)]
          exact b6 p (by omega) p2
        · rw [if_pos (of_decide_eq_true e).symm] at eb
          rw [show j + (b + 1) = j + b + 1 by omega, eb]; exact b5
      · have e1 : j + b = s.length := by omega
        refine ⟨⟨by omega, by omega⟩, ?_⟩
        have e2 : (s2.take a).length = a := by rw [List.length_take]; omega
        rw [List.take_append_of_le_length (by omega), List.take_take, Nat.min_self, b5, e1, List.take_length]
    · have hne : ¬ gt s ((j - 1 : Nat) : Int) = gt s (j : Int) := fun k => e k.symm
      rw [ej, if_neg hne, j3, takeN_gt hj]
  · have : j = s.length := by omega
    subst this
    rw [List.take_length] at j3
    exact j3.symm
end Go.Proofs.YtojoehfldbimpaaGreatDoor.Pl

