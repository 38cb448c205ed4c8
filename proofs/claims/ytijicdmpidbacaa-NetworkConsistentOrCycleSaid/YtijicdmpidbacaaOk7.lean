/- Schedules: what Fits, Respects and Earliest ask and give. Plain Lean. No condition. -/
import Derived.Test.YtijicdmpidbacaaOk6
namespace Go.Proofs.Ytijicdmpidbacaa.Pl
open Go Go.RowKit
theorem ok_fits1 : ∀ (l : Link) (x : List Int), pre_fits1 l x → F_fits1 l x (fun r => r = sp_fits1 l x) := fun l x ⟨h1, h2, h3⟩ => by
  have g1 := h3 _ (gt_mem h1)
  have g2 := h3 _ (gt_mem h2)
  unfold F_fits1
  refine ⟨h1, h2, ?_⟩
  rw [w64 (by omega)]
  simp only [forall_eq, decide_eq_true_eq, decide_eq_false_iff_not, sp_fits1]
  refine ⟨fun h => ?_, fun h => ?_⟩
  · simp [h]
  · simp [h]
theorem ok_fits : ∀ (n_ : Network) (times : List Int), pre_fits n_ times → F_fits n_ times (fun r => r = sp_fits n_ times) := fun n ts ⟨h1, h2, h3⟩ => by
  have v := valid_of h1
  have hev := v.ev
  have hlen := v.len
  have hne : ts ≠ [] := fun e => by rw [e] at h2; simp at h2; omega
  have hp : ∀ l ∈ n.links, pre_fits1 l ts := fun l hl => by
    have k1 := v.okay.src l hl
    have k2 := v.okay.dst l hl
    exact ⟨⟨k2.1, by omega⟩, ⟨k1.1, by omega⟩, h3⟩
  have hneg : decide (sp_min_ ts < 0) = !(ts.all fun t => decide (0 ≤ t)) := by
    rw [Bool.eq_iff_iff]
    simp only [decide_eq_true_eq, min_lt hne, Bool.not_eq_true', List.all_eq_false, decide_eq_true_eq, Int.not_le]
  unfold F_fits F_fits_J1
  simp only [forall_eq, bne_iff_ne, ne_eq, bne_eq_false_iff_eq, hneg, sp_any]
  refine ⟨⟨Int.le_refl _, by omega⟩, fun h => ⟨fun _ => ?_, fun h => by cases h⟩, fun h => ⟨⟨hne, by omega⟩, fun g => ?_, fun g => ⟨⟨by omega, hp⟩, ?_⟩⟩⟩
  · simp [sp_fits, h]
  · have g' : (ts.all fun t => decide (0 ≤ t)) = false := by simpa using g
    simp [sp_fits, g']
  · have g' : (ts.all fun t => decide (0 ≤ t)) = true := by simpa using g
    simp [sp_fits, g', h]
def TimesInv (ts : List Int) (t : Int) : Prop := 0 ≤ t ∧ t ≤ ts.length ∧ timesFault ts 0 = timesFault (ts.drop t.toNat) t
theorem timesFault_cons (x : Int) (r : List Int) (i : Int) : timesFault (x :: r) i = if x < -1000000 ∨ 1000000 < x then ⟨3, -3 - i⟩ else timesFault r (i + 1) := rfl
theorem timesFault_zero : ∀ {ts : List Int} {i : Int}, timesFault ts i = ⟨0, 0⟩ → ∀ t ∈ ts, -1000000 ≤ t ∧ t ≤ 1000000
  | [], _, _, t, ht => by cases ht
  | x :: r, i, h, t, ht => by
    rw [timesFault_cons] at h
    by_cases c : x < -1000000 ∨ 1000000 < x
    · rw [if_pos c] at h; exact absurd (congrArg Fault.code h) (by simp)
    · rw [if_neg c] at h
      rcases List.mem_cons.1 ht with rfl | ht
      · omega
      · exact timesFault_zero h t ht
theorem ok_respects : ∀ (n_ : Network) (times : List Int), F_respects n_ times (fun r => r = sp_respects n_ times) := fun n ts => by
  unfold F_respects
  simp only [forall_eq, fault_ne, fault_eq, bne_iff_ne, ne_eq, bne_eq_false_iff_eq]
  refine ⟨fun h => ?_, fun h1 => ⟨fun h2 => ?_, fun h2 => ?_⟩⟩
  · rw [sp_respects, if_neg h]
  · rw [sp_respects, if_pos h1, if_neg h2]
  · have v := valid_of h1
    have hev := v.ev
    have hs : sp_respects n ts = if timesFault ts 0 = ⟨0, 0⟩ then (sp_fits n ts, ⟨0, 0⟩) else (false, timesFault ts 0) := by rw [sp_respects, if_pos h1, if_pos h2]
    refine ⟨TimesInv ts, fun t => (ts.length - t).toNat, ⟨Int.le_refl _, by omega, by simp⟩, ?_⟩
    rintro t ⟨g0, g1, g2⟩
    have bad : t < ts.length → (gt ts t < -1000000 ∨ 1000000 < gt ts t) → (false, (⟨3, IntKind.i64.wrap (-3 - t)⟩ : Fault)) = sp_respects n ts := fun h c => by
      rw [drop_gt ⟨g0, h⟩, timesFault_cons] at g2
      rw [if_pos c] at g2
      rw [hs, if_neg (by rw [g2]; exact fun e => absurd (congrArg Fault.code e) (by simp)), g2, w64 (by omega)]
    have good : t < ts.length → ¬ (gt ts t < -1000000 ∨ 1000000 < gt ts t) → TimesInv ts (IntKind.i64.wrap (t + 1)) ∧ ((ts.length : Int) - IntKind.i64.wrap (t + 1)).toNat < ((ts.length : Int) - t).toNat := fun h c => by
      rw [drop_gt ⟨g0, h⟩, timesFault_cons] at g2
      rw [if_neg c] at g2
      rw [w64 (by omega)]
      exact ⟨⟨by omega, by omega, g2⟩, by omega⟩
    unfold F_respects_L1 F_respects_J1
    simp only [decide_eq_true_eq, decide_eq_false_iff_not]
    refine ⟨fun h => ⟨⟨g0, h⟩, fun c => ⟨fun _ => bad h (.inl c), fun e => by cases e⟩, fun c => ⟨fun c2 => bad h (.inr c2), fun c2 => good h (by omega)⟩⟩, fun h => ?_⟩
    have hz : timesFault ts 0 = ⟨0, 0⟩ := by rw [g2, List.drop_of_length_le (by omega)]; rfl
    exact ⟨⟨h1, h2, timesFault_zero hz⟩, fun r hr => by rw [hs, if_pos hz, hr]⟩
theorem ok_earliest : ∀ (n_ : Network), F_earliest n_ (fun r => r = sp_earliest n_) := fun n => by
  unfold F_earliest
  intro r2 hr2
  subst hr2
  simp only [Bool.not_eq_true', Bool.not_eq_false']
  refine ⟨fun h => by rw [sp_earliest, if_neg (by rw [h]; decide)], fun h => ?_⟩
  have hc : (sp_minimal n).2.2.code = 0 := by
    by_cases c : sp_validate n = ⟨0, 0⟩
    · rw [sp_minimal, if_pos c]
    · rw [sp_minimal, if_neg c] at h; cases h
  obtain ⟨D, ⟨v, t_⟩, e⟩ := minimal_ok hc h
  have hev := v.ev
  obtain ⟨N, hN⟩ : ∃ N : Nat, n.events.toNat = N := ⟨_, rfl⟩
  rw [hN] at e t_
  have hN0 : 0 < N := by omega
  have hN10 : N ≤ 10 := by omega
  have hsp : sp_earliest n = ((sp_minimal n).1.map (fun r => -(gt r 0)), true, (sp_minimal n).2.2) := by rw [sp_earliest, if_pos h]
  have sq : Sq N (sp_minimal n).1 := by rw [e]; exact mat_sq _ _
  refine ⟨fun t out => 0 ≤ t ∧ t ≤ N ∧ out = ((sp_minimal n).1.take t.toNat).map (fun r => -(gt r 0)), fun t _ => (N - t).toNat, ⟨Int.le_refl _, by omega, by simp⟩, ?_⟩
  rintro t out ⟨g0, g1, g2⟩
  unfold F_earliest_L1
  simp only [decide_eq_true_eq, decide_eq_false_iff_not, sq.len]
  refine ⟨fun g => ?_, fun g => ?_⟩
  · obtain ⟨a, rfl⟩ : ∃ a : Nat, t = a := ⟨t.toNat, by omega⟩
    have ha : a < N := by omega
    have hb : inb (sp_minimal n).1 (a : Int) := sq.inb ha
    have hD : Mx (sp_minimal n).1 a 0 = D a 0 := by rw [e, mat_at ha hN0]
    have lowD : -30000 ≤ D a 0 := by
      rcases Int.lt_or_eq_of_le (t_.le a 0 ha hN0) with q | q
      · obtain ⟨r, w, hw⟩ := t_.re a 0 ha hN0 q
        have := w.ge t_.notNeg (fun p q => (dirL_bounds v.okay.low v.okay.high p q).1)
        omega
      · rw [q]; simp only [inf]; omega
    have upD : D a 0 ≤ inf := t_.le a 0 ha hN0
    simp only [inf] at upD
    have hg : gt (gt (sp_minimal n).1 (a : Int)) (0 : Int) = D a 0 := hD
    have ol : out.length = a := by rw [g2]; simp [sq.len]; omega
    rw [hg, w64 (n := 0 - D a 0) (by omega), w64 (n := (a : Int) + 1) (by omega)]
    refine ⟨hb, sq.inb2 ha hN0, ⟨by simp only [List.length_append, List.length_singleton, ol, maxLen]; omega, by simp only [List.length_append, List.length_singleton, ol]; omega⟩, ⟨by omega, by omega, ?_⟩, by omega⟩
    rw [take_gt hb, List.map_append, ← g2]
    simp only [List.map_cons, List.map_nil, hg]
    congr 2; omega
  · rw [hsp, g2, List.take_of_length_le (by rw [sq.len]; omega)]
end Go.Proofs.Ytijicdmpidbacaa.Pl
