/- The laws on more links and on the reference, in plain Lean. No condition. -/
import Derived.Test.YtijicdmpidbacaaOk11
namespace Go.Proofs.Ytijicdmpidbacaa.Pl
open Go Go.RowKit
theorem Way.sub {N : Nat} {W V : Nat → Nat → Int} (h : ∀ a b, V a b ≤ W a b) {i j : Nat} {r : List Nat} (w : Way N W i j r) : Way N V i j r ∧ wt V (i :: r) ≤ wt W (i :: r) := by
  induction r generalizing i with
  | nil =>
    have := w.unnil; subst this
    exact ⟨.nil w.start, by simp [wt]⟩
  | cons b r ih =>
    obtain ⟨h1, h2, h3⟩ := w.uncons
    obtain ⟨g1, g2⟩ := ih h3
    have := h i b
    exact ⟨.cons h1 (by omega) g1, by simp only [wt]; omega⟩
theorem ok_lawMoreLinks : ∀ (n_ : Network) (l : Link) (i : Int) (j : Int), pre_lawMoreLinks n_ l i j → F_lawMoreLinks n_ l i j (fun r => r = sp_lawMoreLinks n_ l i j) := fun n l i j hp => by
  unfold pre_lawMoreLinks at hp
  unfold F_lawMoreLinks sp_lawMoreLinks
  refine ⟨⟨by simp only [List.nil_append, maxLen]; omega, by simp only [List.nil_append]; omega⟩, ⟨by simp only [List.nil_append, List.length_append, List.length_singleton, maxLen]; omega, by simp only [List.nil_append, List.length_append, List.length_singleton]; omega⟩, ?_⟩
  unfold F_lawMoreLinks_J1
  simp only [List.nil_append]
  obtain ⟨m, hm⟩ : ∃ m : Network, m = ⟨n.events, n.links ++ [l]⟩ := ⟨_, rfl⟩
  rw [← hm]
  intro r2 hr2 r3 hr3
  subst hr2; subst hr3
  have out : F_lawMoreLinks_J2 n i j (fun r => r = true) (sp_minimal n) (sp_minimal m) true := by
    unfold F_lawMoreLinks_J2; simp [sp_bounded]
  simp only [forall_eq, bne_iff_ne, ne_eq, bne_eq_false_iff_eq, Bool.not_eq_true', Bool.not_eq_false']
  refine ⟨fun _ => out, fun h1 => ⟨fun _ => out, fun h2 => ⟨fun _ => out, fun h3 => ⟨fun _ => out, fun h4 => ?_⟩⟩⟩⟩
  cases h5 : sp_in_ j 0 (IntKind.i64.wrap (n.events - 1))
  · exact out
  obtain ⟨D', ⟨v', t'⟩, e'⟩ := minimal_ok h2 h3
  obtain ⟨hv, he⟩ := minimal_good h1
  have v := valid_of hv
  have hev := v.ev
  have hme : m.events = n.events := by rw [hm]
  have hle : ∀ a b, Wd m a b ≤ Wd n a b := fun a b => by
    unfold Wd
    rw [hm]
    rw [dirL_snoc]; exact dirStep_le _ _ _ _
  rw [hme] at t' e'
  have hn : ¬ Neg n.events.toNat (Wd n) := fun ⟨a, r, w, hw⟩ => by
    obtain ⟨g1, g2⟩ := w.sub hle
    exact t'.notNeg ⟨a, r, g1, by omega⟩
  obtain ⟨D, t, e⟩ : ∃ D, Tight n.events.toNat (Wd n) D ∧ sp_minimal n = (mat n.events.toNat D, true, ⟨0, 0⟩) := by
    rcases tighten_rel v.okay with ⟨D, t, e⟩ | ⟨h, _⟩
    · exact ⟨D, t, by rw [he, e]⟩
    · exact absurd h hn
  simp only [sp_in_, Bool.and_eq_true, decide_eq_true_eq] at h4 h5
  rw [w64 (by omega)] at h4 h5
  obtain ⟨a, rfl⟩ : ∃ a : Nat, i = a := ⟨i.toNat, by omega⟩
  obtain ⟨b, rfl⟩ : ∃ b : Nat, j = b := ⟨j.toNat, by omega⟩
  have ha : a < n.events.toNat := by omega
  have hb : b < n.events.toNat := by omega
  have sq : Sq n.events.toNat (sp_minimal n).1 := by rw [e]; exact mat_sq _ _
  have sq' : Sq n.events.toNat (sp_minimal m).1 := by rw [e']; exact mat_sq _ _
  have at_ : gt (gt (sp_minimal n).1 a) b = D a b := by rw [sq.gt, e, mat_at ha hb]
  have at' : gt (gt (sp_minimal m).1 a) b = D' a b := by rw [sq'.gt, e', mat_at ha hb]
  have len : ((gt (sp_minimal n).1 a).length : Int) = n.events := by
    have := sq.row a ha
    rw [gt_cast, show (default : List Int) = [] from rfl, this]; omega
  have len' : ((gt (sp_minimal m).1 a).length : Int) = n.events := by
    have := sq'.row a ha
    rw [gt_cast, show (default : List Int) = [] from rfl, this]; omega
  have l0 : ((sp_minimal n).1.length : Int) = n.events := by rw [sq.len]; omega
  have l0' : ((sp_minimal m).1.length : Int) = n.events := by rw [sq'.len]; omega
  have key : D' a b ≤ D a b := by
    rcases Int.lt_or_eq_of_le (t.le a b ha hb) with q | q
    · obtain ⟨r, w, hw⟩ := t.re a b ha hb q
      obtain ⟨g1, g2⟩ := w.sub hle
      have := t'.lo a b r g1
      omega
    · rw [q]; exact t'.le a b ha hb
  have ok1 : (sp_minimal n).2.1 = true := by rw [e]
  unfold F_lawMoreLinks_J2
  simp [sp_bounded, ok1, l0, l0', len, len', at_, at', sq.inb ha, sq.inb2 ha hb, sq'.inb ha, sq'.inb2 ha hb, key]
/-- what is known of a valid network -/
theorem validate_ne {n : Network} (h : sp_validate n ≠ ⟨0, 0⟩) : (sp_validate n).code ≠ 0 := fun e => h (validate_code e)
theorem beq_fault (c i : Int) (f : Fault) : ((f.code == c) && (f.index == i)) = decide (f = ⟨c, i⟩) := by
  obtain ⟨c', i'⟩ := f
  rw [Bool.eq_iff_iff]; simp
theorem earliest_at {n : Network} {D : Nat → Nat → Int} (e : sp_minimal n = (mat n.events.toNat D, true, ⟨0, 0⟩)) (hN : 0 < n.events.toNat) : sp_earliest n = ((sp_minimal n).1.map (fun r => -(gt r 0)), true, ⟨0, 0⟩) ∧ (sp_earliest n).1.length = n.events.toNat ∧ ∀ a : Nat, a < n.events.toNat → gt (sp_earliest n).1 (a : Int) = -(D a 0) := by
  have g2 : (sp_minimal n).2.1 = true := by rw [e]
  have hs : sp_earliest n = ((sp_minimal n).1.map (fun r => -(gt r 0)), true, ⟨0, 0⟩) := by rw [sp_earliest, if_pos g2, e]
  have sq : Sq n.events.toNat (sp_minimal n).1 := by rw [e]; exact mat_sq _ _
  refine ⟨hs, by rw [hs]; simp [sq.len], fun a ha => ?_⟩
  have h0 := sq.inb (a := a) (by omega)
  have : gt (gt (sp_minimal n).1 (a : Int)) (0 : Int) = D a 0 := by
    have := sq.gt a 0
    rw [e, mat_at (by omega) (by omega)] at this
    rw [← e] at this
    exact this
  rw [hs, ← this]
  have hlt := inb_lt h0
  simp only [gt, Int.toNat_natCast] at hlt ⊢
  rw [List.getD_eq_getElem?_getD, List.getElem?_map, List.getElem?_eq_getElem hlt, List.getD_eq_getElem?_getD (l := (sp_minimal n).1), List.getElem?_eq_getElem hlt]
  rfl
/-- the part on cycles -/
theorem spec_cycle {n : Network} {c : List Int} (hv : sp_validate n = ⟨0, 0⟩) : F_lawMatchesSpec_J7 n c (fun r => r = true) (sp_negative n c) false := by
  have v := valid_of hv
  have hev := v.ev
  unfold F_lawMatchesSpec_J7
  simp only [Bool.false_eq_true, false_implies, true_and, forall_const, forall_eq, sp_in_, sp_at_, Bool.not_eq_true', Bool.not_eq_false', Bool.and_eq_true, Bool.and_eq_false_iff, decide_eq_true_eq, decide_eq_false_iff_not]
  have main : ∀ x10 x11 : Int, ((x10 = 0 ∧ x11 = 0 ∧ 2 ≤ c.length ∧ c.length ≤ 10) ∨ (x10 ≠ 0 ∧ sp_negative n c = (false, ⟨x10, x11⟩))) → F_lawMatchesSpec_J8 n c (fun r => r = true) (sp_negative n c) x10 x11 := by
    intro x10 x11 h0
    have fin : ∀ x y : Int, x ≠ 0 → sp_negative n c = (false, ⟨x, y⟩) → ((x != 0) = true → ((((sp_negative n c).2.code == x) && ((sp_negative n c).2.index == y)) = true → ((!(sp_negative n c).1) = true → ∀ r14 : Bool, r14 = sp_bounded → r14 = true) ∧ ((!(sp_negative n c).1) = false → false = true)) ∧ ((((sp_negative n c).2.code == x) && ((sp_negative n c).2.index == y)) = false → false = true)) := fun x y hx he => by
      rw [he]; simp [sp_bounded]
    refine ⟨fun k x y => 0 ≤ k ∧ ((x = 0 ∧ y = 0 ∧ k ≤ c.length ∧ 2 ≤ c.length ∧ c.length ≤ 10 ∧ evFault n.events c 0 = evFault n.events (c.drop k.toNat) k) ∨ (x ≠ 0 ∧ sp_negative n c = (false, ⟨x, y⟩))), fun k _ _ => (c.length - k).toNat, ⟨Int.le_refl _, ?_⟩, ?_⟩
    · rcases h0 with ⟨h1, h2, h3, h4⟩ | h
      · exact .inl ⟨h1, h2, by omega, h3, h4, by simp⟩
      · exact .inr h
    rintro k x y ⟨k0, hk⟩
    have stop : (x ≠ 0 ∧ sp_negative n c = (false, ⟨x, y⟩)) → ∀ I2 μ2, F_lawMatchesSpec_J9 n c (fun r => r = true) (sp_negative n c) false x y k I2 μ2 := by
      rintro ⟨a, b⟩ I2 μ2
      unfold F_lawMatchesSpec_J9
      exact ⟨fun h => (by cases h), fun _ => ⟨fun _ => fin x y a b (by simpa using a), fun h => absurd (by simpa using h) a⟩⟩
    unfold F_lawMatchesSpec_L2
    simp only [decide_eq_true_eq, decide_eq_false_iff_not]
    refine ⟨fun hlt => ?_, fun hge => ?_⟩
    · rcases hk with ⟨rfl, rfl, h1, h2, h3, h4⟩ | hk
      · have hb : inb c k := ⟨k0, hlt⟩
        rw [drop_gt hb, evFault_cons] at h4
        unfold F_lawMatchesSpec_J9 F_lawMatchesSpec_J10
        simp only [beq_self_eq_true, true_implies, Bool.true_eq_false, false_implies, and_true, forall_eq, sp_in_, sp_at_, Bool.not_eq_true', Bool.not_eq_false', Bool.and_eq_true, Bool.and_eq_false_iff, decide_eq_true_eq, decide_eq_false_iff_not]
        rw [w64 (n := n.events - 1) (by omega), w64 (n := -3 - k) (by omega), w64 (n := k + 1) (by omega)]
        refine ⟨hb, fun q => ?_, fun q => ?_⟩
        · rw [if_pos (by omega)] at h4
          refine ⟨⟨by omega, .inr ⟨by omega, ?_⟩⟩, by omega⟩
          rw [sp_negative, if_pos hv, if_pos ⟨h2, h3⟩, if_neg (by rw [h4]; exact fun e => absurd (congrArg Fault.code e) (by simp)), h4]
        · rw [if_neg (by omega)] at h4
          exact ⟨⟨by omega, .inl ⟨trivial, trivial, by omega, h2, h3, h4⟩⟩, by omega⟩
      · have : (x == 0) = false := by simpa using hk.1
        rw [this]; exact stop hk _ _
    · rcases hk with ⟨rfl, rfl, h1, h2, h3, h4⟩ | hk
      · rw [List.drop_of_length_le (by omega)] at h4
        have hz : evFault n.events c 0 = ⟨0, 0⟩ := h4
        have hr := evFault_zero hz
        have hs : sp_negative n c = (decide (cycSum n c c.length < 0), ⟨0, 0⟩) := by rw [sp_negative, if_pos hv, if_pos ⟨h2, h3⟩, if_pos hz]
        unfold F_lawMatchesSpec_J9
        simp only [Bool.false_eq_true, false_implies, true_and, forall_const, bne_self_eq_false]
        refine ⟨fun s t => ∃ m : Nat, t = m ∧ m ≤ c.length ∧ s = cycSum n c m, fun _ t => (c.length - t).toNat, ⟨0, rfl, Nat.zero_le _, rfl⟩, ?_⟩
        rintro s t ⟨m, rfl, m1, rfl⟩
        unfold F_lawMatchesSpec_L3
        simp only [decide_eq_true_eq, decide_eq_false_iff_not]
        refine ⟨fun hl => ?_, fun hl => ?_⟩
        · have lk := cycSum_low v.okay c m
          have db := dirL_bounds v.okay.low v.okay.high (gt c m) (cycNext c m)
          simp only [inf] at db
          have i0 : inb c 0 := ⟨Int.le_refl _, by omega⟩
          have im : inb c (m : Int) := ⟨by omega, hl⟩
          have dd : ∀ x, x = cycNext c m → F_lawMatchesSpec_J11 n c x (cycSum n c m) m (fun s t => ∃ m : Nat, t = m ∧ m ≤ c.length ∧ s = cycSum n c m) (fun _ t => (c.length - t).toNat) := by
            rintro x rfl
            unfold F_lawMatchesSpec_J11
            refine ⟨im, v.okay, fun r hr => ?_⟩
            have e : sp_direct n (gt c m) (cycNext c m) = dirL n.links (gt c m) (cycNext c m) := by
              unfold sp_direct
              split
              · rename_i q; rw [← q, dirL_diag v.okay.ne]
              · rfl
            rw [e] at hr
            subst hr
            rw [w64 (n := cycSum n c m + _) (by omega), w64 (n := (m : Int) + 1) (by omega)]
            exact ⟨⟨m + 1, by omega, by omega, rfl⟩, show ((c.length : Int) - ((m : Int) + 1)).toNat < ((c.length : Int) - (m : Int)).toNat by omega⟩
          refine ⟨i0, ?_⟩
          intro x18 hx
          rw [w64 (n := (m : Int) + 1) (by omega)] at hx ⊢
          subst hx
          simp only [decide_eq_true_eq, decide_eq_false_iff_not]
          exact ⟨fun q => ⟨⟨by omega, q⟩, dd _ (by rw [cycNext, if_pos q])⟩, fun q => dd _ (by rw [cycNext, if_neg q])⟩
        · have : m = c.length := by omega
          subst this
          rw [hs]
          simp [sp_bounded]
      · exact stop hk _ _
  refine ⟨fun h => main _ _ (.inr ⟨by decide, by rw [sp_negative, if_pos hv, if_neg (by omega)]⟩), fun h => main _ _ (.inl ⟨rfl, rfl, by omega, by omega⟩)⟩
/-- the part on times -/
theorem spec_times {n : Network} {ts c : List Int} (hv : sp_validate n = ⟨0, 0⟩) : F_lawMatchesSpec_J3 n ts c (fun r => r = true) (sp_respects n ts) (sp_negative n c) := by
  have v := valid_of hv
  have hev := v.ev
  have cyc := spec_cycle (c := c) hv
  have main : ∀ x2 x3 : Int, ((x2 = 0 ∧ x3 = 0 ∧ (ts.length : Int) = n.events) ∨ (x2 ≠ 0 ∧ sp_respects n ts = (false, ⟨x2, x3⟩))) → F_lawMatchesSpec_J4 n ts c (fun r => r = true) (sp_respects n ts) (sp_negative n c) x2 x3 := by
    intro x2 x3 h0
    refine ⟨fun k x y => 0 ≤ k ∧ ((x = 0 ∧ y = 0 ∧ k ≤ ts.length ∧ (ts.length : Int) = n.events ∧ timesFault ts 0 = timesFault (ts.drop k.toNat) k) ∨ (x ≠ 0 ∧ sp_respects n ts = (false, ⟨x, y⟩))), fun k _ _ => (ts.length - k).toNat, ⟨Int.le_refl _, ?_⟩, ?_⟩
    · rcases h0 with ⟨h1, h2, h3⟩ | h
      · exact .inl ⟨h1, h2, by omega, h3, by simp⟩
      · exact .inr h
    rintro k x y ⟨k0, hk⟩
    have stop : (x ≠ 0 ∧ sp_respects n ts = (false, ⟨x, y⟩)) → ∀ I2 μ2, F_lawMatchesSpec_J5 n ts c (fun r => r = true) (sp_respects n ts) (sp_negative n c) k I2 μ2 false x y := by
      rintro ⟨a, b⟩ I2 μ2
      unfold F_lawMatchesSpec_J5
      rw [b]
      refine ⟨fun h => (by cases h), fun _ => ⟨fun h => by simp at h, fun _ => ⟨fun h => absurd (by simpa using h) a, fun _ => cyc⟩⟩⟩
    unfold F_lawMatchesSpec_L1
    simp only [decide_eq_true_eq, decide_eq_false_iff_not]
    refine ⟨fun hlt => ?_, fun hge => ?_⟩
    · rcases hk with ⟨rfl, rfl, h1, h2, h4⟩ | hk
      · have hb : inb ts k := ⟨k0, hlt⟩
        rw [drop_gt hb, timesFault_cons] at h4
        unfold F_lawMatchesSpec_J5 F_lawMatchesSpec_J6
        simp only [beq_self_eq_true, true_implies, Bool.true_eq_false, false_implies, and_true, forall_eq, sp_in_, sp_at_, Bool.not_eq_true', Bool.not_eq_false', Bool.and_eq_true, Bool.and_eq_false_iff, decide_eq_true_eq, decide_eq_false_iff_not]
        rw [w64 (n := -3 - k) (by omega), w64 (n := k + 1) (by omega)]
        refine ⟨hb, fun q => ?_, fun q => ?_⟩
        · rw [if_pos (by omega)] at h4
          refine ⟨⟨by omega, .inr ⟨by omega, ?_⟩⟩, by omega⟩
          rw [sp_respects, if_pos hv, if_pos h2, if_neg (by rw [h4]; exact fun e => absurd (congrArg Fault.code e) (by simp)), h4]
        · rw [if_neg (by omega)] at h4
          exact ⟨⟨by omega, .inl ⟨trivial, trivial, by omega, h2, h4⟩⟩, by omega⟩
      · have : (x == 0) = false := by simpa using hk.1
        rw [this]; exact stop hk _ _
    · rcases hk with ⟨rfl, rfl, h1, h2, h4⟩ | hk
      · rw [List.drop_of_length_le (by omega)] at h4
        have hz : timesFault ts 0 = ⟨0, 0⟩ := h4
        have hs : sp_respects n ts = (sp_fits n ts, ⟨0, 0⟩) := by rw [sp_respects, if_pos hv, if_pos h2, if_pos hz]
        unfold F_lawMatchesSpec_J5
        rw [hs]
        refine ⟨fun h => (by cases h), fun _ => ⟨fun h => by simp at h, fun _ => ⟨fun _ => ⟨⟨hv, h2, timesFault_zero hz⟩, fun r hr => ?_⟩, fun h => by simp at h⟩⟩⟩
        have : (sp_fits n ts != r) = false := by rw [hr]; exact bne_self_eq_false _
        rw [this]; exact cyc
      · exact stop hk _ _
  unfold F_lawMatchesSpec_J3
  simp only [forall_eq, sp_at_, bne_iff_ne, ne_eq, bne_eq_false_iff_eq]
  refine ⟨fun h => main _ _ (.inr ⟨by decide, by rw [sp_respects, if_pos hv, if_neg h]⟩), fun h => main _ _ (.inl ⟨rfl, rfl, h⟩)⟩
theorem ok_lawMatchesSpec : ∀ (n_ : Network) (times : List Int) (cycle : List Int), F_lawMatchesSpec n_ times cycle (fun r => r = sp_lawMatchesSpec n_ times cycle) := fun n ts c => by
  unfold F_lawMatchesSpec sp_lawMatchesSpec
  intro r2 hr2 r3 hr3 r4 hr4 r5 hr5 r6 hr6 r21 hr21
  subst hr2; subst hr3; subst hr4; subst hr5; subst hr6; subst hr21
  by_cases hv : sp_validate n = ⟨0, 0⟩
  · have v := valid_of hv
    have hev := v.ev
    have he : sp_minimal n = ((sp_tighten n).1, (sp_tighten n).2, ⟨0, 0⟩) := by rw [sp_minimal, if_pos hv]
    have tim := spec_times (ts := ts) (c := c) hv
    have key : F_lawMatchesSpec_J1 n ts c (fun r => r = true) (sp_validate n) (sp_minimal n) (sp_earliest n) (sp_respects n ts) (sp_negative n c) false := by
      unfold F_lawMatchesSpec_J1
      refine ⟨fun h => (by cases h), fun _ => ⟨fun h => (by rw [hv] at h; cases h), fun _ => ⟨v.okay, ?_⟩⟩⟩
      intro r8 hr8
      subst hr8
      rcases tighten_rel v.okay with ⟨D, t, e⟩ | ⟨hn, e⟩
      · have e1 : sp_minimal n = (mat n.events.toNat D, true, ⟨0, 0⟩) := by rw [he, e]
        obtain ⟨f1, f2, f3⟩ := earliest_at e1 (by omega)
        have sq := mat_sq n.events.toNat D
        have b1 : ((sp_minimal n).2.1 != (sp_tighten n).2) = false := by rw [e1, e]; rfl
        have b2 : ((sp_earliest n).2.1 != (sp_tighten n).2) = false := by rw [f1, e]; rfl
        rw [b1, b2]
        refine ⟨fun h => (by cases h), fun _ => ⟨fun h => (by cases h), fun _ => ⟨?_, ?_⟩⟩⟩
        · rw [e1]
          refine ⟨by rw [sq.len]; omega, fun x hx => ?_⟩
          replace hx : x ∈ mat n.events.toNat D := hx
          obtain ⟨i, hi, rfl⟩ := List.mem_iff_getElem.1 hx
          rw [sq.len] at hi
          have := sq.row i hi
          rw [List.getD_eq_getElem?_getD, List.getElem?_eq_getElem (by rw [sq.len]; exact hi)] at this
          simp only [Option.getD_some] at this
          omega
        · intro r20 hr20
          have : r20 = true := by rw [hr20, e1, e]; simp [sp_sets]
          subst this
          unfold F_lawMatchesSpec_J2
          refine ⟨fun h => (by cases h), fun _ => ⟨fun _ => ?_, fun h => (by rw [e] at h; cases h)⟩⟩
          refine ⟨fun k => 0 ≤ k ∧ k ≤ n.events, fun k => (n.events - k).toNat, ⟨Int.le_refl _, by omega⟩, ?_⟩
          rintro k ⟨k0, k1⟩
          unfold F_lawMatchesSpec_L4
          simp only [decide_eq_true_eq, decide_eq_false_iff_not]
          refine ⟨fun h => ⟨fun h2 => ?_, fun h2 => ?_⟩, fun h => tim⟩
          · exfalso
            have : ((sp_earliest n).1.length : Int) = n.events := by rw [f2]; omega
            rw [this] at h2; simp at h2
          · obtain ⟨a, rfl⟩ : ∃ a : Nat, k = a := ⟨k.toNat, by omega⟩
            have ha : a < n.events.toNat := by omega
            have lowD := t.low v ha (y := 0) (by omega)
            have upD := t.le a 0 ha (by omega)
            simp only [inf] at upD
            have hg : gt (gt (sp_tighten n).1 (a : Int)) (0 : Int) = D a 0 := by
              rw [e]
              have := sq.gt a 0
              rw [mat_at ha (by omega)] at this
              exact this
            refine ⟨⟨by omega, by rw [f2]; omega⟩, by rw [e]; exact sq.inb ha, by rw [e]; exact sq.inb2 (b := 0) ha (by omega), ?_⟩
            intro x19 hx
            rw [hg, f3 a ha, w64 (by omega)] at hx
            have : x19 = false := by rw [hx]; simp
            subst this
            unfold F_lawMatchesSpec_J12
            rw [w64 (by omega)]
            exact ⟨fun h => (by cases h), fun _ => ⟨⟨by omega, by omega⟩, show (n.events - ((a : Int) + 1)).toNat < (n.events - (a : Int)).toNat by omega⟩⟩
      · have e1 : sp_minimal n = ([], false, ⟨0, 0⟩) := by rw [he, e]
        have f1 : sp_earliest n = ([], false, ⟨0, 0⟩) := by rw [sp_earliest, if_neg (by rw [e1]; decide), e1]
        rw [e, e1, f1]
        refine ⟨fun h => (by cases h), fun _ => ⟨fun h => (by cases h), fun _ => ⟨⟨by simp, fun x hx => (by cases hx)⟩, ?_⟩⟩⟩
        intro r20 hr20
        have : r20 = true := by rw [hr20]; rfl
        subst this
        unfold F_lawMatchesSpec_J2
        refine ⟨fun h => (by cases h), fun _ => ⟨fun h => (by cases h), fun _ => ⟨fun h => by simp at h, fun _ => tim⟩⟩⟩
    have m2 : (sp_minimal n).2.2 = ⟨0, 0⟩ := by rw [he]
    have m3 : (sp_earliest n).2.2 = ⟨0, 0⟩ := by
      unfold sp_earliest; split
      · exact m2
      · exact m2
    rw [m2, m3, hv]
    rw [hv] at key
    exact ⟨fun h => (by cases h), fun _ => ⟨fun h => (by cases h), fun _ => key⟩⟩
  · have hc := validate_ne hv
    have e1 : sp_minimal n = ([], false, sp_validate n) := by rw [sp_minimal, if_neg hv]
    have e2 : sp_earliest n = ([], false, sp_validate n) := by rw [sp_earliest, if_neg (by rw [e1]; simp), e1]
    have e3 : sp_respects n ts = (false, sp_validate n) := by rw [sp_respects, if_neg hv]
    have e4 : sp_negative n c = (false, sp_validate n) := by rw [sp_negative, if_neg hv]
    rw [e1, e2, e3, e4]
    have key : F_lawMatchesSpec_J1 n ts c (fun r => r = true) (sp_validate n) ([], false, sp_validate n) ([], false, sp_validate n) (false, sp_validate n) (false, sp_validate n) false := by
      unfold F_lawMatchesSpec_J1
      have w0 : IntKind.i64.wrap 0 = 0 := rfl
      simp [sp_bounded, hc, w0]
    simp only [beq_self_eq_true, Bool.and_self, Bool.not_true]
    exact ⟨fun h => (by cases h), fun _ => ⟨fun h => (by cases h), fun _ => key⟩⟩
end Go.Proofs.Ytijicdmpidbacaa.Pl
