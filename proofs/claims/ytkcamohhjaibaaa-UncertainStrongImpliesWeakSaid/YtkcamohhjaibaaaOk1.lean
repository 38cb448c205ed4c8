/- What the small functions ask and give: links, faults, lists of numbers. Plain Lean. No condition. -/
import Derived.Test.YtkcamohhjaibaaaF
import Derived.Test.YtkcamohhjaibaaaPm
namespace Go.Proofs.Ytkcamohhjaibaaa.Pl
open Go Go.RowKit
theorem w64 {n : Int} (h : -9223372036854775808 ≤ n ∧ n ≤ 9223372036854775807) : IntKind.i64.wrap n = n := by rw [IntKind.wrap_i64]; omega
theorem gt_of {α : Type} [Inhabited α] {xs : List α} {i : Int} (h : inb xs i) : gt xs i = xs[i.toNat]'(inb_lt h) := by
  have := inb_lt h
  simp [gt, this]
theorem ok_in_ : ∀ (n_ : Int) (low : Int) (high : Int), F_in_ n_ low high (fun r => r = sp_in_ n_ low high) := fun n lo hi => by
  unfold F_in_ sp_in_
  refine ⟨fun h => ?_, fun h => ?_⟩ <;> rw [h] <;> simp
theorem ok_at_ : ∀ (code : Int) (index : Int), F_at_ code index (fun r => r = sp_at_ code index) := fun _ _ => rfl
theorem lt_max4 {k a b c d : Int} : k < max (max (max a b) c) d ↔ k < a ∨ k < b ∨ k < c ∨ k < d := by omega
theorem min4_lt {k a b c d : Int} : min (min (min a b) c) d < k ↔ a < k ∨ b < k ∨ c < k ∨ d < k := by omega
theorem ok_linkCode : ∀ (l : Link) (n_ : Int), F_linkCode l n_ (fun r => r = sp_linkCode l n_) := fun l n => by
  unfold F_linkCode F_linkCode_J1 F_linkCode_J2 F_linkCode_J3 sp_linkCode
  simp only [IntKind.wrap_i64, decide_eq_true_eq, decide_eq_false_iff_not, beq_iff_eq, beq_eq_false_iff_ne, ne_eq, forall_eq, lt_max4, min4_lt]
  repeat' (first | apply And.intro | intro)
  all_goals first | contradiction | ((repeat' split) <;> omega)
theorem ok_rLinkCode : ∀ (l : Link) (n_ : Int), pre_rLinkCode l n_ → F_rLinkCode l n_ (fun r => r = sp_linkCode l n_) := fun l n hp => by
  unfold pre_rLinkCode at hp
  unfold F_rLinkCode F_rLinkCode_J1 F_rLinkCode_J2 sp_linkCode sp_in_
  simp only [IntKind.wrap_i64, beq_iff_eq, beq_eq_false_iff_ne, ne_eq, forall_eq, Bool.not_eq_true', Bool.not_eq_false', Bool.and_eq_true, Bool.and_eq_false_iff, decide_eq_true_eq, decide_eq_false_iff_not]
  repeat' (first | apply And.intro | intro)
  all_goals first | contradiction | ((repeat' split) <;> omega)
theorem drop_gt {α : Type} [Inhabited α] {xs : List α} {i : Int} (h : inb xs i) : xs.drop i.toNat = gt xs i :: xs.drop (i + 1).toNat := by
  have h1 := inb_lt h
  have h2 : (i + 1).toNat = i.toNat + 1 := by have := h.1; omega
  rw [gt_of h, h2, List.drop_eq_getElem_cons h1]
/-- the link at an index of a valid list has code 0 -/
def FaultInv (ev : Int) (links : List Link) (t : Int) : Prop := 0 ≤ t ∧ t ≤ links.length ∧ linksFault ev links 0 = linksFault ev (links.drop t.toNat) t
theorem FaultInv.zero (ev : Int) (links : List Link) : FaultInv ev links 0 := ⟨Int.le_refl _, by omega, by simp⟩
theorem FaultInv.step {ev : Int} {links : List Link} {t : Int} (h : FaultInv ev links t) (ht : t < links.length) : (sp_linkCode (gt links t) ev ≠ 0 → linksFault ev links 0 = ⟨sp_linkCode (gt links t) ev, t⟩) ∧ (sp_linkCode (gt links t) ev = 0 → FaultInv ev links (t + 1)) := by
  obtain ⟨h1, h2, h3⟩ := h
  rw [drop_gt ⟨h1, ht⟩] at h3
  refine ⟨fun h => ?_, fun h => ⟨by omega, by omega, ?_⟩⟩
  · rw [h3]; simp [linksFault, h]
  · rw [h3]; simp [linksFault, h]
theorem FaultInv.done {ev : Int} {links : List Link} {t : Int} (h : FaultInv ev links t) (ht : ¬ t < links.length) : linksFault ev links 0 = ⟨0, 0⟩ := by
  obtain ⟨h1, h2, h3⟩ := h
  rw [h3, List.drop_of_length_le (by omega)]; rfl
theorem ok_validate : ∀ (n_ : Network), F_validate n_ (fun r => r = sp_validate n_) := fun n => by
  have key : ¬ n.links.length > 30 → ¬ (n.events < 1 ∨ 10 < n.events) → ∃ (I1 : Int → Prop) (μ1 : Int → Nat), I1 0 ∧ ∀ (t25 : Int), I1 t25 → F_validate_L1 n (fun r => r = sp_validate n) t25 I1 μ1 := fun hl he => by
    have hs : sp_validate n = linksFault n.events n.links 0 := by
      unfold sp_validate
      rw [if_neg he, if_neg hl]
    refine ⟨FaultInv n.events n.links, fun t => (n.links.length - t).toNat, .zero _ _, fun t ht => ?_⟩
    unfold F_validate_L1
    simp only [decide_eq_true_eq, decide_eq_false_iff_not, bne_iff_ne, ne_eq, forall_eq, hs, bne_eq_false_iff_eq]
    refine ⟨fun h => ⟨⟨ht.1, h⟩, fun h2 => ((ht.step h).1 h2).symm, fun h2 => ?_⟩, fun h => (ht.done h).symm⟩
    have h3 := ht.1
    rw [w64 (by omega)]
    exact ⟨(ht.step h).2 h2, by omega⟩
  have hs : sp_validate n = if n.events < 1 ∨ 10 < n.events then ⟨3, -1⟩ else if 30 < n.links.length then ⟨2, -1⟩ else linksFault n.events n.links 0 := rfl
  unfold F_validate F_validate_J1
  simp only [decide_eq_true_eq, decide_eq_false_iff_not]
  repeat' (first | apply And.intro | intro)
  all_goals first | contradiction | (rw [hs]; (repeat' split) <;> first | rfl | omega) | exact key (by omega) (by omega)
theorem ok_networkFault : ∀ (n_ : Network), F_networkFault n_ (fun r => r = sp_validate n_) := fun n => by
  have hs : sp_validate n = if n.events < 1 ∨ 10 < n.events then ⟨3, -1⟩ else if 30 < n.links.length then ⟨2, -1⟩ else linksFault n.events n.links 0 := rfl
  unfold F_networkFault
  simp only [forall_eq, sp_in_, sp_at_, Bool.not_eq_true', Bool.not_eq_false', Bool.and_eq_true, Bool.and_eq_false_iff, decide_eq_true_eq, decide_eq_false_iff_not]
  refine ⟨fun h => ?_, fun he => ⟨fun h => ?_, fun hl => ?_⟩⟩
  · rw [hs, if_pos (by omega)]
  · rw [hs, if_neg (by omega), if_pos (by omega)]
  · have hs' : sp_validate n = linksFault n.events n.links 0 := by rw [hs, if_neg (by omega), if_neg (by omega)]
    refine ⟨FaultInv n.events n.links, fun t => (n.links.length - t).toNat, .zero _ _, fun t ht => ?_⟩
    unfold F_networkFault_L1
    simp only [decide_eq_true_eq, decide_eq_false_iff_not, bne_iff_ne, ne_eq, forall_eq, hs', bne_eq_false_iff_eq, sp_at_]
    refine ⟨fun h => ⟨⟨ht.1, h⟩, he, fun h2 => ((ht.step h).1 h2).symm, fun h2 => ?_⟩, fun h => (ht.done h).symm⟩
    have h3 := ht.1
    rw [w64 (by omega)]
    exact ⟨(ht.step h).2 h2, by omega⟩
end Go.Proofs.Ytkcamohhjaibaaa.Pl
