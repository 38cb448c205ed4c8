/- What the small functions on lists of states ask and give. Plain Lean. No condition. -/
import Derived.Test.YtojoehfldbimpaaGreatDoorK2
namespace Go.Proofs.YtojoehfldbimpaaGreatDoor.Pl
open Go Go.RowKit
theorem drop_gtN {α : Type} [Inhabited α] {xs : List α} {k : Nat} (h : k < xs.length) : xs.drop k = gt xs (k : Int) :: xs.drop (k + 1) := by
  have h2 := drop_gt (xs := xs) (i := (k : Int)) ⟨by omega, by omega⟩
  have h3 : ((k : Int) + 1).toNat = k + 1 := by omega
  rwa [h3, Int.toNat_natCast] at h2
theorem TaskOK.rng {t : Task} (h : sp_validate t = ⟨0, 0⟩) : 0 ≤ t.facts ∧ t.facts ≤ 24 ∧ sp_isSet t.init t.facts = true ∧ sp_isSet t.goal t.facts = true := by
  have := taskOK_of h
  exact ⟨this.facts.1, this.facts.2, this.init, this.goal⟩
theorem ok_unknownFault : ∀ (t : Task) (unknown : List Int), F_unknownFault t unknown (fun r => r = sp_unknownFault t unknown) := fun t u => by
  unfold F_unknownFault sp_unknownFault
  simp only [forall_eq, fault_ne, fault_eq]
  simp only [decide_eq_true_eq, decide_eq_false_iff_not, Bool.not_eq_true', Bool.not_eq_false']
  refine ⟨fun h => by rw [if_neg h], fun h => ?_⟩
  rw [if_pos h]
  refine ⟨fun g => by rw [if_pos (by omega)], fun g => ?_⟩
  rw [if_neg (by omega)]
  obtain ⟨f0, f1, _⟩ := TaskOK.rng h
  refine ⟨⟨f0, by omega⟩, fun q => ?_, fun q => ?_⟩
  · rw [q]; rfl
  · rw [if_pos q]
theorem ok_rUnknownFault : ∀ (t : Task) (unknown : List Int), F_rUnknownFault t unknown (fun r => r = sp_unknownFault t unknown) := fun t u => by
  unfold F_rUnknownFault F_rUnknownFault_J1 F_rUnknownFault_J2 F_rUnknownFault_J3 sp_unknownFault
  simp only [forall_eq, sp_at_, beq_iff_eq, beq_eq_false_iff_ne, ne_eq, decide_eq_true_eq, decide_eq_false_iff_not, Bool.not_eq_true', Bool.not_eq_false']
  have e : (⟨(sp_validate t).code, (sp_validate t).index⟩ : Fault) = sp_validate t := rfl
  refine ⟨fun h => ⟨fun g => ⟨fun q => absurd q (by decide), fun _ => ⟨fun q => absurd q (by decide), fun _ => ?_⟩⟩, fun g => ⟨fun _ => ?_, fun q => absurd h q⟩⟩, fun h => ⟨fun g => absurd g (by decide), fun _ => ⟨fun q => absurd q h, fun _ => ⟨fun q => absurd q (by decide), fun _ => ?_⟩⟩⟩⟩
  · rw [if_pos (validate_code h), if_pos (by omega)]
  · have hv := validate_code h
    obtain ⟨f0, f1, _⟩ := TaskOK.rng hv
    rw [if_pos hv, if_neg (by omega)]
    refine ⟨⟨f0, by omega⟩, fun q => ?_, fun q => ?_⟩
    · rw [q]; rfl
    · rw [if_pos q, ← hv]
  · rw [if_neg fun k => h (by rw [k])]
theorem unknown_ok {t : Task} {u : List Int} (h : sp_unknownFault t u = ⟨0, 0⟩) : UOK t u := by
  unfold sp_unknownFault at h
  split at h
  · rename_i hv
    split at h
    · exact absurd h (fault_mk (by decide))
    · rename_i hl
      split at h
      · rename_i hs; exact ⟨hv, by omega, hs⟩
      · exact absurd h (fault_mk (by decide))
  · rename_i hv; exact absurd h hv
theorem unknown_code {t : Task} {u : List Int} : (sp_unknownFault t u).code = 0 → sp_unknownFault t u = ⟨0, 0⟩ := fun h => by
  unfold sp_unknownFault at h ⊢
  split
  · rename_i hv
    rw [if_pos hv] at h
    split
    · rename_i hl; rw [if_pos hl] at h; exact absurd h (by decide)
    · rename_i hl
      rw [if_neg hl] at h
      split
      · rfl
      · rename_i hs; rw [if_neg hs] at h; exact absurd h (by decide)
  · rename_i hv
    rw [if_neg hv] at h
    exact absurd (validate_code h) hv
theorem ok_scompare : ∀ (s1 : List Int) (s2 : List Int), pre_scompare s1 s2 → F_scompare s1 s2 (fun r => r = sp_scompare s1 s2) := fun a b ⟨h1, h2⟩ => by
  refine ⟨fun t => ∃ k : Nat, t = k ∧ k ≤ a.length ∧ k ≤ b.length ∧ sp_scompare (a.drop k) (b.drop k) = sp_scompare a b, fun t => (a.length - t).toNat, ⟨0, rfl, Nat.zero_le _, Nat.zero_le _, by simp⟩, ?_⟩
  rintro _ ⟨k, rfl, k1, k2, k3⟩
  unfold F_scompare_L1
  simp only [forall_eq, decide_eq_true_eq, decide_eq_false_iff_not, bne_iff_ne, ne_eq, bne_eq_false_iff_eq, sp_compare]
  refine ⟨fun h => ?_, fun h => ?_⟩
  · have hk : k < a.length := by omega
    have ea := drop_gtN hk
    refine ⟨⟨by omega, h⟩, fun g => ?_, fun g => ?_⟩
    · rw [← k3, ea, List.drop_eq_nil_of_le (show b.length ≤ k by omega)]; rfl
    · have hb : k < b.length := by omega
      rw [ea, drop_gtN hb, sp_scompare] at k3
      refine ⟨⟨by omega, by omega⟩, ?_⟩
      rcases Int.lt_trichotomy (gt a (k : Int)) (gt b (k : Int)) with q | q | q
      · rw [if_pos q] at k3 ⊢
        exact ⟨fun _ => k3, fun e => absurd e (by decide)⟩
      · have n1 : ¬ gt a (k : Int) < gt b (k : Int) := by omega
        have n2 : ¬ gt b (k : Int) < gt a (k : Int) := by omega
        rw [if_neg n1, if_neg n2] at k3 ⊢
        refine ⟨fun e => absurd rfl e, fun _ => ?_⟩
        rw [w64 (by omega)]
        exact ⟨⟨k + 1, by omega, by omega, by omega, k3⟩, by omega⟩
      · have n1 : ¬ gt a (k : Int) < gt b (k : Int) := by omega
        rw [if_neg n1, if_pos q] at k3 ⊢
        exact ⟨fun _ => k3, fun e => absurd e (by decide)⟩
  · rw [List.drop_eq_nil_of_le (show a.length ≤ k by omega)] at k3
    refine ⟨fun g => ?_, fun g => ?_⟩
    · rw [← k3, drop_gtN (xs := b) (k := k) (by omega)]; rfl
    · rw [← k3, List.drop_eq_nil_of_le (show b.length ≤ k by omega)]; rfl
theorem take_same {α : Type} [Inhabited α] {a b : List α} {k : Nat} (ha : k < a.length) (hb : k < b.length) (h : a.take k = b.take k) (e : gt a (k : Int) = gt b (k : Int)) : a.take (k + 1) = b.take (k + 1) := by
  rw [takeN_gt ha, takeN_gt hb, h, e]
theorem ok_sequal : ∀ (s1 : List Int) (s2 : List Int), pre_sequal s1 s2 → F_sequal s1 s2 (fun r => r = sp_sequal s1 s2) := fun a b ⟨h1, h2⟩ => by
  unfold F_sequal
  simp only [bne_iff_ne, ne_eq, bne_eq_false_iff_eq]
  refine ⟨fun h => (decide_eq_false fun e => h (by rw [e])).symm, fun h => ?_⟩
  have hl : a.length = b.length := by omega
  refine ⟨fun t => ∃ k : Nat, t = k ∧ k ≤ a.length ∧ a.take k = b.take k, fun t => (a.length - t).toNat, ⟨0, rfl, Nat.zero_le _, by simp⟩, ?_⟩
  rintro _ ⟨k, rfl, k1, k2⟩
  unfold F_sequal_L1
  simp only [decide_eq_true_eq, decide_eq_false_iff_not, bne_iff_ne, ne_eq, bne_eq_false_iff_eq]
  refine ⟨fun g => ⟨⟨by omega, g⟩, ⟨by omega, by omega⟩, fun q => (decide_eq_false fun e => q (by rw [e])).symm, fun q => ?_⟩, fun g => ?_⟩
  · rw [w64 (by omega)]
    exact ⟨⟨k + 1, by omega, by omega, take_same (by omega) (by omega) k2 q⟩, by omega⟩
  · rw [List.take_of_length_le (by omega), List.take_of_length_le (by omega)] at k2
    exact (decide_eq_true k2).symm
theorem ok_ints : ∀ (a : List Int) (b : List Int), pre_ints a b → F_ints a b (fun r => r = sp_ints a b) := fun a b ⟨h1, h2⟩ => by
  unfold F_ints
  simp only [bne_iff_ne, ne_eq, bne_eq_false_iff_eq]
  refine ⟨fun h => (decide_eq_false fun e => h (by rw [e])).symm, fun h => ?_⟩
  have hl : a.length = b.length := by omega
  refine ⟨fun t => ∃ k : Nat, t = k ∧ k ≤ a.length ∧ a.take k = b.take k, fun t => (a.length - t).toNat, ⟨0, rfl, Nat.zero_le _, by simp⟩, ?_⟩
  rintro _ ⟨k, rfl, k1, k2⟩
  unfold F_ints_L1
  simp only [decide_eq_true_eq, decide_eq_false_iff_not, bne_iff_ne, ne_eq, bne_eq_false_iff_eq]
  refine ⟨fun g => ⟨⟨by omega, g⟩, ⟨by omega, by omega⟩, fun q => (decide_eq_false fun e => q (by rw [e])).symm, fun q => ?_⟩, fun g => ?_⟩
  · rw [w64 (by omega)]
    exact ⟨⟨k + 1, by omega, by omega, take_same (by omega) (by omega) k2 q⟩, by omega⟩
  · rw [List.take_of_length_le (by omega), List.take_of_length_le (by omega)] at k2
    exact (decide_eq_true k2).symm
theorem ok_indexR : ∀ (s_ : List (List Int)) (pf : (List Int) → Bool) (Df : (List Int) → Prop), pre_any s_ pf Df → F_indexR s_ pf Df (fun r => r = sp_indexF s_ pf Df) := fun xs p D ⟨hl, hD⟩ => by
  refine ⟨fun t => 0 ≤ t ∧ t ≤ xs.length ∧ ∀ x ∈ xs.take t.toNat, p x = false, fun t => (xs.length - t).toNat, ⟨Int.le_refl _, by omega, by simp⟩, ?_⟩
  rintro t ⟨h0, h1, h2⟩
  unfold F_indexR_L1
  obtain ⟨k1, k2⟩ := any_split h0 h2
  simp only [decide_eq_true_eq, decide_eq_false_iff_not, forall_eq]
  refine ⟨fun h => ⟨⟨h0, h⟩, hD _ (gt_mem ⟨h0, h⟩), fun q => (k1 h q).symm, fun q => ?_⟩, fun h => (k2 h).symm⟩
  rw [w64 (by omega)]
  exact ⟨⟨by omega, by omega, any_next h0 h2 h q⟩, by omega⟩
theorem ok_containsR : ∀ (s_ : List (List Int)) (pf : (List Int) → Bool) (Df : (List Int) → Prop), pre_any s_ pf Df → F_containsR s_ pf Df (fun r => r = sp_any s_ pf Df) := fun xs p D hp => by
  refine ⟨hp, fun r hr => ?_⟩
  rw [hr]
  show decide (0 ≤ sp_indexF xs p D) = sp_any xs p D
  unfold sp_indexF sp_any
  cases h : xs.any p
  · simp
  · simp
/-- what is turned round from both ends -/
theorem ok_reverse : ∀ (s_ : List Int), pre_reverse s_ → F_reverse s_ (fun r => r = sp_reverse s_) := fun s hp => by
  unfold pre_reverse at hp
  have hg : ∀ (l : List Int) (p : Nat), p < l.length → gt l.reverse (p : Int) = gt l ((l.length - 1 - p : Nat) : Int) := fun l p h => by
    rw [gt_of ⟨by omega, by rw [List.length_reverse]; omega⟩, gt_of ⟨by omega, by omega⟩]
    simp only [Int.toNat_natCast, List.getElem_reverse]
  unfold F_reverse
  rw [w64 (n := (s.length : Int) - 1) (by omega)]
  refine ⟨fun i j l => ∃ k : Nat, i = k ∧ j = (s.length : Int) - 1 - k ∧ 2 * k ≤ s.length + 1 ∧ l.length = s.length ∧ ∀ p : Nat, p < s.length → gt l (p : Int) = if p < k ∨ s.length ≤ p + k then gt s ((s.length - 1 - p : Nat) : Int) else gt s (p : Int), fun i j _ => (j - i).toNat, ⟨0, rfl, by omega, by omega, rfl, fun p h => by rw [if_neg (by omega)]⟩, ?_⟩
  rintro _ _ l ⟨k, rfl, rfl, k1, k2, k3⟩
  unfold F_reverse_L1
  simp only [decide_eq_true_eq, decide_eq_false_iff_not, forall_eq]
  refine ⟨fun h => ?_, fun h => ?_⟩
  · have ej : (s.length : Int) - 1 - k = ((s.length - 1 - k : Nat) : Int) := by omega
    rw [ej] at h ⊢
    have i1 : inb l ((s.length - 1 - k : Nat) : Int) := ⟨by omega, by omega⟩
    have i2 : inb l (k : Int) := ⟨by omega, by omega⟩
    have i3 : inb (l.set ((k : Int)).toNat (gt l ((s.length - 1 - k : Nat) : Int))) ((s.length - 1 - k : Nat) : Int) := ⟨by omega, by rw [List.length_set]; omega⟩
    rw [w64 (n := (k : Int) + 1) (by omega), w64 (n := ((s.length - 1 - k : Nat) : Int) - 1) (by omega)]
    refine ⟨i1, i2, i3, ⟨k + 1, by omega, by omega, by omega, by rw [List.length_set, List.length_set]; exact k2, fun p hp => ?_⟩, by omega⟩
    rw [gt_setI i3 (by omega), gt_setI i2 (by omega)]
    by_cases e1 : p = s.length - 1 - k
    · subst e1
      rw [if_pos rfl, if_pos (by omega), k3 k (by omega), if_neg (by omega)]
      congr 1; omega
    · rw [if_neg (by omega)]
      by_cases e2 : p = k
      · subst e2
        rw [if_pos rfl, if_pos (by omega), k3 _ (by omega), if_neg (by omega)]
      · rw [if_neg (by omega), k3 p hp]
        by_cases e3 : p < k ∨ s.length ≤ p + k
        · rw [if_pos e3, if_pos (by omega)]
        · rw [if_neg e3, if_neg (by omega)]
  · refine ext_gt (by rw [k2]; exact (sp_reverse_len s).symm) fun p hp => ?_
    rw [k2] at hp
    rw [k3 p hp, sp_reverse, hg s p hp]
    by_cases e3 : p < k ∨ s.length ≤ p + k
    · rw [if_pos e3]
    · rw [if_neg e3]; congr 1; omega
theorem ok_before : ∀ (a : List Int) (b : List Int), pre_before a b → F_before a b (fun r => r = sp_before a b) := fun a b ⟨h1, h2⟩ => by
  refine ⟨fun t => ∃ k : Nat, t = k ∧ k ≤ a.length ∧ k ≤ b.length ∧ sp_before (a.drop k) (b.drop k) = sp_before a b, fun t => (a.length - t).toNat, ⟨0, rfl, Nat.zero_le _, Nat.zero_le _, by simp⟩, ?_⟩
  rintro _ ⟨k, rfl, k1, k2, k3⟩
  unfold F_before_L1 F_before_J1
  simp only [decide_eq_true_eq, decide_eq_false_iff_not, bne_iff_ne, ne_eq, bne_eq_false_iff_eq]
  have out : ¬ ((k : Int) < a.length ∧ (k : Int) < b.length) → decide ((a.length : Int) < b.length) = sp_before a b := fun h => by
    rw [← k3]
    rcases Nat.lt_or_ge k a.length with g | g
    · rw [drop_gtN g, List.drop_eq_nil_of_le (show b.length ≤ k by omega), sp_before]
      exact decide_eq_false (by omega)
    · rw [List.drop_eq_nil_of_le g]
      rcases Nat.lt_or_ge k b.length with q | q
      · rw [drop_gtN q, sp_before]; exact decide_eq_true (by omega)
      · rw [List.drop_eq_nil_of_le q, sp_before]; exact decide_eq_false (by omega)
  refine ⟨fun h => ⟨fun g => ?_, fun g => out (by omega)⟩, fun h => ⟨fun g => absurd g (by decide), fun _ => out (by omega)⟩⟩
  rw [drop_gtN (show k < a.length by omega), drop_gtN (show k < b.length by omega), sp_before] at k3
  refine ⟨⟨by omega, h⟩, ⟨by omega, g⟩, fun q => ?_, fun q => ?_⟩
  · rw [if_neg q] at k3; exact k3
  · rw [if_pos q] at k3
    rw [w64 (by omega)]
    exact ⟨⟨k + 1, by omega, by omega, by omega, k3⟩, by omega⟩
theorem insert_split : ∀ (l : Bel) (s : List Int) (k : Nat), k ≤ l.length → (∀ x ∈ l.take k, sp_before x s = true) → sp_insert l s = l.take k ++ sp_insert (l.drop k) s
  | l, s, 0, _, _ => by simp
  | [], s, k + 1, h, _ => by simp at h
  | x :: r, s, k + 1, h, hx => by
    have h1 := hx x (by simp)
    rw [List.take_succ_cons, List.drop_succ_cons, sp_insert, if_pos h1, insert_split r s k (by simpa using h) fun y hy => hx y (by simp [hy])]
    rfl
theorem ok_insert : ∀ (l : List (List Int)) (s_ : List Int), pre_insert l s_ → F_insert l s_ (fun r => r = sp_insert l s_) := fun l s ⟨h1, h2, h3⟩ => by
  refine ⟨fun t => ∃ k : Nat, t = k ∧ k ≤ l.length ∧ ∀ x ∈ l.take k, sp_before x s = true, fun t => (l.length - t).toNat, ⟨0, rfl, Nat.zero_le _, by simp⟩, ?_⟩
  rintro _ ⟨k, rfl, k1, k2⟩
  have sp := insert_split l s k k1 k2
  unfold F_insert_L1 F_insert_J1 F_insert_J2
  simp only [forall_eq, decide_eq_true_eq, decide_eq_false_iff_not, List.nil_append, Int.toNat_natCast, sp_ints]
  have fin : (l.drop k = [] ∨ ∃ y r, l.drop k = y :: r ∧ sp_before y s = false ∧ y ≠ s) → (0 ≤ (k : Int) ∧ (k : Int) ≤ (l.length : Int)) ∧ room (l.take k).length 24 ∧ room (l.take k ++ [s]).length 24 ∧ room (l.take k ++ [s] ++ l.drop k).length 24 ∧ l.take k ++ [s] ++ l.drop k = sp_insert l s := fun h => by
    have e1 : (l.take k).length = k := by rw [List.length_take]; omega
    refine ⟨⟨by omega, by omega⟩, ⟨?_, ?_⟩, ⟨?_, ?_⟩, ⟨?_, ?_⟩, ?_⟩
    all_goals try (simp only [List.length_append, List.length_drop, e1, List.length_singleton, maxLen]; omega)
    rw [sp]
    rcases h with h | ⟨y, r, h, hb, hn⟩
    · rw [h]; simp [sp_insert]
    · rw [h, sp_insert, if_neg (by rw [hb]; decide), if_neg hn, List.append_assoc]; rfl
  refine ⟨fun h => ?_, fun h => ⟨fun g => absurd g (by decide), fun _ => ⟨fun g => absurd h (by omega), fun _ => ⟨fun g => absurd g (by decide), fun _ => fin (.inl (List.drop_eq_nil_of_le (by omega)))⟩⟩⟩⟩
  have hk : k < l.length := by omega
  refine ⟨⟨by omega, h⟩, ⟨h3 _ (gt_memN hk), h2⟩, fun g => ?_, fun g => ⟨fun _ => ⟨⟨by omega, h⟩, ⟨h3 _ (gt_memN hk), h2⟩, fun q => ?_, fun q => ?_⟩, fun q => absurd h q⟩⟩
  · rw [w64 (by omega)]
    refine ⟨⟨k + 1, by omega, by omega, fun x hx => ?_⟩, by omega⟩
    rw [takeN_gt hk] at hx
    rcases List.mem_append.1 hx with hx | hx
    · exact k2 x hx
    · rw [List.mem_singleton.1 hx]; exact g
  · rw [sp, drop_gtN hk, sp_insert, if_neg (by rw [g]; decide), if_pos q, ← drop_gtN hk, List.take_append_drop]
  · exact fin (.inr ⟨_, _, drop_gtN hk, g, q⟩)
end Go.Proofs.YtojoehfldbimpaaGreatDoor.Pl

