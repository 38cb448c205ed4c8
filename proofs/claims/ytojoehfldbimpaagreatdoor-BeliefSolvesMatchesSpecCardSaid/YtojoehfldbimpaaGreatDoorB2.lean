/- What the checks of sets ask and give. Plain Lean. No condition. -/
import Derived.Test.YtojoehfldbimpaaGreatDoorB1
import Derived.Laws.Bits64
namespace Go.Proofs.YtojoehfldbimpaaGreatDoor.Pl
open Go Go.RowKit
theorem half {n : Int} (h0 : 0 ≤ n) (h1 : n ≤ 100000) : IntKind.i64.wrap (Int.fdiv (IntKind.u64.wrap (IntKind.i64.wrap n)) (2 ^ (min ((1 : Int)).toNat (IntKind.bits .u64)))) = n / 2 := by
  have e : (2 : Int) ^ (min ((1 : Int)).toNat (IntKind.bits .u64)) = 2 := by decide
  rw [e, w64 (n := n) (by omega), IntKind.wrap_u64, Int.fdiv_eq_ediv_of_nonneg _ (by omega), w64 (by omega)]
  omega
theorem filter_lt {x : List Int} {t : Int} {i : Nat} (hi : i ≤ x.length) (h1 : ∀ p : Nat, p < i → gt x (p : Int) < t) (h2 : ∀ p : Nat, i ≤ p → p < x.length → t ≤ gt x (p : Int)) : (x.filter fun a => decide (a < t)).length = i := by
  have e1 : (x.take i).filter (fun a => decide (a < t)) = x.take i := List.filter_eq_self.2 fun a ha => by
    obtain ⟨p, hp, rfl⟩ := List.mem_take_iff_getElem.1 ha
    have := h1 p (by omega)
    rw [gt_of ⟨by omega, by omega⟩] at this
    simpa using this
  have e2 : (x.drop i).filter (fun a => decide (a < t)) = [] := List.filter_eq_nil_iff.2 fun a ha => by
    obtain ⟨p, hp, rfl⟩ := List.mem_drop_iff_getElem.1 ha
    have := h2 (i + p) (by omega) (by omega)
    rw [gt_of ⟨by omega, by omega⟩] at this
    simp only [Int.toNat_natCast] at this
    simpa [Nat.add_comm] using this
  conv => lhs; rw [← List.take_append_drop i x]
  rw [List.filter_append, e1, e2, List.append_nil, List.length_take]
  omega
theorem sorted_gt {x : List Int} (hs : x.Pairwise (· < ·)) {p q : Nat} (hpq : p < q) (hq : q < x.length) : gt x (p : Int) < gt x (q : Int) := by
  rw [gt_of ⟨by omega, by omega⟩, gt_of ⟨by omega, by omega⟩]
  exact List.pairwise_iff_getElem.1 hs _ _ _ _ (by simpa using hpq)
theorem ok_bsearch : ∀ (x : List Int) (target : Int), pre_bsearch x target → F_bsearch x target (fun r => r = sp_bsearch x target) := fun x t ⟨hs, hl⟩ => by
  refine ⟨fun i j => ∃ a b : Nat, i = a ∧ j = b ∧ a ≤ b ∧ b ≤ x.length ∧ (∀ p : Nat, p < a → gt x (p : Int) < t) ∧ ∀ p : Nat, b ≤ p → p < x.length → t ≤ gt x (p : Int), fun i j => (j - i).toNat, ⟨0, x.length, rfl, rfl, by omega, by omega, fun p hp => by omega, fun p h1 h2 => by omega⟩, ?_⟩
  rintro _ _ ⟨a, b, rfl, rfl, hab, hb, h1, h2⟩
  unfold F_bsearch_L1
  simp only [decide_eq_true_eq, decide_eq_false_iff_not, forall_eq, beq_iff_eq, beq_eq_false_iff_ne, ne_eq, sp_isNaN1, sp_less]
  have ew := half (n := (a : Int) + b) (by omega) (by omega)
  refine ⟨fun h => ?_, fun h => ?_⟩
  · rw [ew]
    have em : ((a : Int) + b) / 2 = ((a + b) / 2 : Nat) := by omega
    rw [em]
    have hm : (a + b) / 2 < b := by omega
    refine ⟨⟨by omega, by omega⟩, fun q => ?_, fun q => ?_⟩
    · rw [w64 (by omega)]
      refine ⟨⟨(a + b) / 2 + 1, b, by omega, rfl, by omega, hb, fun p hp => ?_, h2⟩, by omega⟩
      rcases Nat.lt_or_ge p ((a + b) / 2) with g | g
      · exact Int.lt_trans (sorted_gt hs g (by omega)) q
      · rw [show p = (a + b) / 2 by omega]; exact q
    · refine ⟨⟨a, (a + b) / 2, rfl, rfl, by omega, by omega, h1, fun p g1 g2 => ?_⟩, by omega⟩
      rcases Nat.lt_or_ge ((a + b) / 2) p with g | g
      · have := sorted_gt hs g g2
        omega
      · rw [show p = (a + b) / 2 by omega]; omega
  · have e : a = b := by omega
    subst e
    have hf := filter_lt hb h1 h2
    have hm : (t ∈ x) ↔ a < x.length ∧ gt x (a : Int) = t := by
      constructor
      · intro hx
        obtain ⟨p, hp, e⟩ := mem_gt hx
        rcases Nat.lt_trichotomy p a with g | g | g
        · have := h1 p g; omega
        · subst g; exact ⟨hp, e⟩
        · have := sorted_gt hs g hp
          have := h2 a (Nat.le_refl _) (by omega)
          omega
      · rintro ⟨g1, g2⟩
        exact g2 ▸ gt_memN g1
    unfold sp_bsearch
    rw [hf]
    refine ⟨fun g => ⟨⟨by omega, g⟩, fun q => ?_, fun q => ⟨fun g => absurd g (by decide), fun _ => ?_⟩⟩, fun g => ?_⟩
    · rw [decide_eq_true (hm.2 ⟨by omega, q⟩)]
    · rw [decide_eq_false fun k => q (hm.1 k).2]
    · rw [decide_eq_false fun k => g (by have := (hm.1 k).1; omega)]
/-- a set is known by its prefixes -/
def SetTo (l : List Int) (n : Int) (k : Nat) : Prop := ∀ p : Nat, p < k → (0 ≤ gt l (p : Int) ∧ gt l (p : Int) < n) ∧ (0 < p → gt l ((p - 1 : Nat) : Int) < gt l (p : Int))
theorem SetTo.pair {l : List Int} {n : Int} {k : Nat} (h : SetTo l n k) : ∀ q : Nat, q < k → ∀ p : Nat, p < q → gt l (p : Int) < gt l (q : Int)
  | 0, _, p, hp => by omega
  | q + 1, hq, p, hp => by
    have h1 := (h (q + 1) hq).2 (by omega)
    rw [Nat.add_sub_cancel] at h1
    rcases Nat.lt_or_ge p q with g | g
    · exact Int.lt_trans (h.pair q (by omega) p g) h1
    · rw [show p = q by omega]; exact h1
theorem SetTo.all {l : List Int} {n : Int} (h : SetTo l n l.length) : sp_isSet l n = true := decide_eq_true ⟨List.pairwise_iff_getElem.2 fun p q hp hq hpq => by
    have := h.pair q hq p hpq
    rw [gt_of ⟨by omega, by omega⟩, gt_of ⟨by omega, by omega⟩] at this
    simpa using this, fun x hx => by
    obtain ⟨p, hp, rfl⟩ := mem_gt hx
    exact (h p hp).1⟩
theorem setTo_of {l : List Int} {n : Int} (h : sp_isSet l n = true) : SetTo l n l.length := fun p hp =>
  ⟨(of_decide_eq_true h).2 _ (gt_memN hp), fun h0 => sorted_gt (of_decide_eq_true h).1 (by omega) hp⟩
theorem not_setTo {l : List Int} {n : Int} {k : Nat} (hk : k < l.length) (h : ¬ SetTo l n (k + 1)) : sp_isSet l n = false := by
  cases e : sp_isSet l n
  · rfl
  · exact absurd (fun p hp => setTo_of e p (by omega)) h
theorem SetTo.small {l : List Int} {n : Int} (hn : 0 ≤ n) : ∀ {k : Nat}, SetTo l n k → (k : Int) ≤ n ∧ (0 < k → (k : Int) ≤ gt l ((k - 1 : Nat) : Int) + 1)
  | 0, _ => ⟨by omega, fun h => by omega⟩
  | k + 1, h => by
    have ih := SetTo.small hn (k := k) (fun p hp => h p (by omega))
    have h1 := h k (by omega)
    rw [Nat.add_sub_cancel]
    rcases Nat.eq_zero_or_pos k with rfl | q
    · constructor
      · have := h1.1; omega
      · intro _; have := h1.1; omega
    · have h2 := h1.2 q
      have h3 := ih.2 q
      constructor
      · have := h1.1; omega
      · intro _; omega
theorem setTo_next {l : List Int} {n : Int} {k : Nat} (h : SetTo l n k) : SetTo l n (k + 1) ↔ (0 ≤ gt l (k : Int) ∧ gt l (k : Int) < n) ∧ (0 < k → gt l ((k - 1 : Nat) : Int) < gt l (k : Int)) := by
  refine ⟨fun g => g k (by omega), fun g p hp => ?_⟩
  rcases Nat.lt_or_ge p k with q | q
  · exact h p q
  · rw [show p = k by omega]; exact g
theorem ok_isSet : ∀ (l : List Int) (n_ : Int), pre_isSet l n_ → F_isSet l n_ (fun r => r = sp_isSet l n_) := fun l n ⟨n0, n1⟩ => by
  refine ⟨fun t => ∃ k : Nat, t = k ∧ k ≤ l.length ∧ SetTo l n k, fun t => (l.length - t).toNat, ⟨0, rfl, Nat.zero_le _, fun p hp => by omega⟩, ?_⟩
  rintro _ ⟨k, rfl, k1, k2⟩
  unfold F_isSet_L1 F_isSet_J1
  simp only [decide_eq_true_eq, decide_eq_false_iff_not]
  have hk := k2.small n0
  rw [w64 (n := (k : Int) + 1) (by omega)]
  refine ⟨fun h => ?_, fun h => ?_⟩
  · have bad : ¬ ((0 ≤ gt l (k : Int) ∧ gt l (k : Int) < n) ∧ (0 < k → gt l ((k - 1 : Nat) : Int) < gt l (k : Int))) → false = sp_isSet l n := fun q => (not_setTo (k := k) (by omega) (fun g => q ((setTo_next k2).1 g))).symm
    have good : ((0 ≤ gt l (k : Int) ∧ gt l (k : Int) < n) ∧ (0 < k → gt l ((k - 1 : Nat) : Int) < gt l (k : Int))) → (∃ k' : Nat, (k : Int) + 1 = k' ∧ k' ≤ l.length ∧ SetTo l n k') ∧ ((l.length : Int) - (k + 1)).toNat < ((l.length : Int) - k).toNat := fun q => ⟨⟨k + 1, by omega, by omega, (setTo_next k2).2 q⟩, by omega⟩
    refine ⟨⟨by omega, h⟩, fun q => ⟨fun _ => bad fun g => ?_, fun g => absurd g (by decide)⟩, fun q => ⟨fun q2 => ⟨fun _ => bad fun g => ?_, fun g => absurd g (by decide)⟩, fun q2 => ⟨fun q3 => ?_, fun q3 => ⟨fun g => absurd g (by decide), fun _ => good ⟨by omega, fun q4 => by omega⟩⟩⟩⟩⟩
    · have := g.1.1; omega
    · have := g.1.2; omega
    · rw [w64 (by omega), show ((k : Int) - 1) = ((k - 1 : Nat) : Int) by omega]
      refine ⟨⟨by omega, by omega⟩, fun g => bad fun g2 => ?_, fun g => good ⟨by omega, fun _ => by omega⟩⟩
      have := g2.2 (by omega); omega
  · have : k = l.length := by omega
    subst this
    exact k2.all.symm
theorem ok_rIsSet : ∀ (l : List Int) (n_ : Int), pre_isSet l n_ → F_rIsSet l n_ (fun r => r = sp_isSet l n_) := fun l n ⟨n0, n1⟩ => by
  refine ⟨fun t => ∃ k : Nat, t = k ∧ k ≤ l.length ∧ SetTo l n k, fun t => (l.length - t).toNat, ⟨0, rfl, Nat.zero_le _, fun p hp => by omega⟩, ?_⟩
  rintro _ ⟨k, rfl, k1, k2⟩
  unfold F_rIsSet_L1 F_rIsSet_J1
  have hk := k2.small n0
  rw [w64 (n := (k : Int) + 1) (by omega), w64 (n := n - 1) (by omega)]
  simp only [decide_eq_true_eq, decide_eq_false_iff_not, forall_eq, sp_in_, Bool.not_eq_true', Bool.not_eq_false', Bool.and_eq_true, Bool.and_eq_false_iff]
  refine ⟨fun h => ?_, fun h => ?_⟩
  · have bad : ¬ ((0 ≤ gt l (k : Int) ∧ gt l (k : Int) < n) ∧ (0 < k → gt l ((k - 1 : Nat) : Int) < gt l (k : Int))) → false = sp_isSet l n := fun q => (not_setTo (k := k) (by omega) (fun g => q ((setTo_next k2).1 g))).symm
    have good : ((0 ≤ gt l (k : Int) ∧ gt l (k : Int) < n) ∧ (0 < k → gt l ((k - 1 : Nat) : Int) < gt l (k : Int))) → (∃ k' : Nat, (k : Int) + 1 = k' ∧ k' ≤ l.length ∧ SetTo l n k') ∧ ((l.length : Int) - (k + 1)).toNat < ((l.length : Int) - k).toNat := fun q => ⟨⟨k + 1, by omega, by omega, (setTo_next k2).2 q⟩, by omega⟩
    refine ⟨⟨by omega, h⟩, fun q => ⟨fun _ => bad fun g => ?_, fun g => absurd g (by decide)⟩, fun q => ⟨fun q3 => ?_, fun q3 => ⟨fun g => absurd g (by decide), fun _ => good ⟨by omega, fun q4 => by omega⟩⟩⟩⟩
    · have := g.1; omega
    · rw [w64 (by omega), show ((k : Int) - 1) = ((k - 1 : Nat) : Int) by omega]
      refine ⟨⟨by omega, by omega⟩, fun g => bad fun g2 => ?_, fun g => good ⟨by omega, fun _ => by omega⟩⟩
      have := g2.2 (by omega); omega
  · have : k = l.length := by omega
    subst this
    exact k2.all.symm
end Go.Proofs.YtojoehfldbimpaaGreatDoor.Pl

