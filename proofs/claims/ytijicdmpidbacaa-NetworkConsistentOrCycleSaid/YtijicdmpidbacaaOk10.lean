/- Direct bounds, schedules, cycles: what the functions ask and give. Plain Lean. No condition. -/
import Derived.Test.YtijicdmpidbacaaOk9
namespace Go.Proofs.Ytijicdmpidbacaa.Pl
open Go Go.RowKit
theorem ok_direct : ∀ (n_ : Network) (i : Int) (j : Int), pre_direct n_ i j → F_direct n_ i j (fun r => r = sp_direct n_ i j) := fun n i j ok => by
  have hlen := ok.len
  have main : ∀ d0, sp_direct n i j = n.links.foldl (dirStep i j) d0 → F_direct_J1 n i j (fun r => r = sp_direct n i j) d0 := by
    intro d0 hs
    refine ⟨fun d k => 0 ≤ k ∧ k ≤ n.links.length ∧ d = (n.links.take k.toNat).foldl (dirStep i j) d0, fun _ k => (n.links.length - k).toNat, ⟨Int.le_refl _, by omega, by simp⟩, ?_⟩
    rintro d k ⟨h0, h1, h2⟩
    unfold F_direct_L1
    simp only [decide_eq_true_eq, decide_eq_false_iff_not]
    refine ⟨fun h => ⟨⟨h0, h⟩, ?_⟩, fun h => ?_⟩
    · have hb : inb n.links k := ⟨h0, h⟩
      have lo := ok.low _ (gt_mem hb)
      have e1 := w64 (n := k + 1) (by omega)
      have e2 := w64 (n := 0 - (gt n.links k).low) (by omega)
      unfold F_direct_J3 F_direct_J4 F_direct_J5 F_direct_J2
      simp only [e1, e2, beq_iff_eq, beq_eq_false_iff_ne, ne_eq, decide_eq_true_eq, decide_eq_false_iff_not]
      rw [take_gt hb, List.foldl_append, ← h2]
      simp only [List.foldl_cons, List.foldl_nil, dirStep]
      repeat' (first | apply And.intro | intro)
      all_goals first | omega | contradiction | ((repeat' split) <;> omega)
    · rw [h2, hs, List.take_of_length_le (by omega)]
  unfold F_direct
  simp only [beq_iff_eq, beq_eq_false_iff_ne, ne_eq]
  refine ⟨fun h => by simp [sp_direct, h], fun h => ⟨fun h2 => main _ ?_, fun h2 => main _ ?_⟩⟩
  · rw [sp_direct, if_neg h, dirL, if_pos (.inr h2)]
  · rw [sp_direct, if_neg h, dirL, if_neg (by omega)]
theorem ok_isSchedule : ∀ (n_ : Network) (times : List Int), pre_isSchedule n_ times → F_isSchedule n_ times (fun r => r = sp_isSchedule n_ times) := fun n ts ⟨h1, h2, h3⟩ => by
  have v := valid_of h1
  have hev := v.ev
  have hlen := v.len
  refine ⟨fun t => 0 ≤ t ∧ t ≤ ts.length ∧ ∀ x ∈ ts.take t.toNat, 0 ≤ x, fun t => (ts.length - t).toNat, ⟨Int.le_refl _, by omega, by simp⟩, ?_⟩
  rintro t ⟨g0, g1, g2⟩
  unfold F_isSchedule_L1
  simp only [decide_eq_true_eq, decide_eq_false_iff_not]
  refine ⟨fun h => ⟨⟨g0, h⟩, fun c => ?_, fun c => ?_⟩, fun h => ?_⟩
  · have hb : inb ts t := ⟨g0, h⟩
    have : (ts.all fun t => decide (0 ≤ t)) = false := by
      rw [List.all_eq_false]; exact ⟨_, gt_mem hb, by simpa using c⟩
    simp [sp_isSchedule, sp_fits, this]
  · have hb : inb ts t := ⟨g0, h⟩
    rw [w64 (by omega)]
    refine ⟨⟨by omega, by omega, fun x hx => ?_⟩, by omega⟩
    rw [take_gt hb] at hx
    rcases List.mem_append.1 hx with hx | hx
    · exact g2 x hx
    · rw [List.mem_singleton.1 hx]; omega
  · rw [List.take_of_length_le (by omega)] at g2
    have hall : (ts.all fun t => decide (0 ≤ t)) = true := by simpa using g2
    refine ⟨fun k => 0 ≤ k ∧ k ≤ n.links.length ∧ ∀ l ∈ n.links.take k.toNat, sp_fits1 l ts = false, fun k => (n.links.length - k).toNat, ⟨Int.le_refl _, by omega, by simp⟩, ?_⟩
    rintro k ⟨f0, f1, f2⟩
    unfold F_isSchedule_L2
    simp only [decide_eq_true_eq, decide_eq_false_iff_not, forall_eq]
    refine ⟨fun h => ?_, fun h => ?_⟩
    · have hb : inb n.links k := ⟨f0, h⟩
      have hm := gt_mem hb
      have k1 := v.okay.src _ hm
      have k2 := v.okay.dst _ hm
      have i1 : inb ts (gt n.links k).dst := ⟨k2.1, by omega⟩
      have i2 : inb ts (gt n.links k).src := ⟨k1.1, by omega⟩
      have r1 := h3 _ (gt_mem i1)
      have r2 := h3 _ (gt_mem i2)
      have hc : (!sp_in_ (gt ts (gt n.links k).dst - gt ts (gt n.links k).src) (gt n.links k).low (gt n.links k).high) = sp_fits1 (gt n.links k) ts := by
        rw [Bool.eq_iff_iff]
        simp only [sp_in_, sp_fits1, Bool.not_eq_true', Bool.and_eq_false_iff, decide_eq_true_eq, decide_eq_false_iff_not]
        omega
      rw [w64 (n := gt ts (gt n.links k).dst - gt ts (gt n.links k).src) (by omega), w64 (n := k + 1) (by omega), hc]
      refine ⟨hb, i1, i2, fun c => ?_, fun c => ⟨⟨by omega, by omega, ?_⟩, by omega⟩⟩
      · have : (n.links.any fun l => sp_fits1 l ts) = true := List.any_eq_true.2 ⟨_, hm, c⟩
        simp [sp_isSchedule, sp_fits, this]
      · intro l hl
        rw [take_gt hb] at hl
        rcases List.mem_append.1 hl with hl | hl
        · exact f2 l hl
        · rw [List.mem_singleton.1 hl]; exact c
    · rw [List.take_of_length_le (by omega)] at f2
      have : (n.links.any fun l => sp_fits1 l ts) = false := by rw [List.any_eq_false]; simpa using f2
      refine ⟨⟨Int.le_refl _, by omega⟩, ?_⟩
      rw [sp_isSchedule, sp_fits, hall, this, Bool.eq_iff_iff]
      simp
theorem evFault_cons (n x : Int) (r : List Int) (i : Int) : evFault n (x :: r) i = if x < 0 ∨ n ≤ x then ⟨3, -3 - i⟩ else evFault n r (i + 1) := rfl
theorem evFault_zero {n : Int} : ∀ {ts : List Int} {i : Int}, evFault n ts i = ⟨0, 0⟩ → ∀ t ∈ ts, 0 ≤ t ∧ t < n
  | [], _, _, t, ht => by cases ht
  | x :: r, i, h, t, ht => by
    rw [evFault_cons] at h
    by_cases c : x < 0 ∨ n ≤ x
    · rw [if_pos c] at h; exact absurd (congrArg Fault.code h) (by simp)
    · rw [if_neg c] at h
      rcases List.mem_cons.1 ht with rfl | ht
      · omega
      · exact evFault_zero h t ht
theorem bounds_at {n : Network} {i j : Int} (hi : 0 ≤ i ∧ i < n.events) (hj : 0 ≤ j ∧ j < n.events) : inb (sp_bounds n) i ∧ inb (gt (sp_bounds n) i) j ∧ gt (gt (sp_bounds n) i) j = dirL n.links i j := by
  obtain ⟨a, rfl⟩ : ∃ a : Nat, i = a := ⟨i.toNat, by omega⟩
  obtain ⟨b, rfl⟩ : ∃ b : Nat, j = b := ⟨j.toNat, by omega⟩
  have ha : a < n.events.toNat := by omega
  have hb : b < n.events.toNat := by omega
  have sq := mat_sq n.events.toNat (Wd n)
  exact ⟨sq.inb ha, sq.inb2 ha hb, by
    show gt (gt (mat n.events.toNat (Wd n)) (a : Int)) (b : Int) = _
    rw [sq.gt]; exact mat_at ha hb⟩
theorem cycSum_low {n : Network} (ok : Okay n) (c : List Int) : ∀ k : Nat, -3000 * (k : Int) ≤ cycSum n c k ∧ cycSum n c k ≤ 1000000000 * (k : Int)
  | 0 => by simp [cycSum]
  | k + 1 => by
    have := cycSum_low ok c k
    have h2 := dirL_bounds ok.low ok.high (gt c k) (cycNext c k)
    simp only [inf] at h2
    simp only [cycSum]
    omega
theorem cycSum_mono {n : Network} (ok : Okay n) (c : List Int) : ∀ (d k : Nat), cycSum n c k - 3000 * (d : Int) ≤ cycSum n c (k + d)
  | 0, k => by simp
  | d + 1, k => by
    have := cycSum_mono ok c d k
    have h2 := dirL_bounds ok.low ok.high (gt c ((k + d : Nat) : Int)) (cycNext c ((k + d : Nat) : Int))
    show _ ≤ cycSum n c (k + d + 1)
    simp only [cycSum]
    omega
theorem ok_negative : ∀ (n_ : Network) (cycle : List Int), F_negative n_ cycle (fun r => r = sp_negative n_ cycle) := fun n c => by
  have out : F_negative_J1 n c (fun r => r = sp_negative n c) true ↔ (false, ⟨9, -2⟩) = sp_negative n c := by
    unfold F_negative_J1; simp
  unfold F_negative
  simp only [forall_eq, fault_ne, fault_eq, decide_eq_true_eq, decide_eq_false_iff_not]
  refine ⟨fun h => by rw [sp_negative, if_neg h], fun h1 => ⟨fun h2 => out.2 (by rw [sp_negative, if_pos h1, if_neg (by omega)]), fun h2 => ?_⟩⟩
  by_cases h3 : 10 < (c.length : Int)
  · rw [decide_eq_true h3]; exact out.2 (by rw [sp_negative, if_pos h1, if_neg (by omega)])
  rw [decide_eq_false h3]
  have v := valid_of h1
  have hev := v.ev
  have hs : sp_negative n c = if evFault n.events c 0 = ⟨0, 0⟩ then (decide (cycSum n c c.length < 0), ⟨0, 0⟩) else (false, evFault n.events c 0) := by rw [sp_negative, if_pos h1, if_pos (by omega)]
  unfold F_negative_J1
  simp only [Bool.false_eq_true, false_implies, true_and, forall_const]
  refine ⟨fun t => 0 ≤ t ∧ t ≤ c.length ∧ evFault n.events c 0 = evFault n.events (c.drop t.toNat) t, fun t => (c.length - t).toNat, ⟨Int.le_refl _, by omega, by simp⟩, ?_⟩
  rintro t ⟨g0, g1, g2⟩
  unfold F_negative_L1 F_negative_J2
  simp only [decide_eq_true_eq, decide_eq_false_iff_not, forall_const]
  refine ⟨fun h => ?_, fun h => ?_⟩
  · have hb : inb c t := ⟨g0, h⟩
    rw [drop_gt hb, evFault_cons] at g2
    have bad : (gt c t < 0 ∨ n.events ≤ gt c t) → (false, (⟨3, IntKind.i64.wrap (-3 - t)⟩ : Fault)) = sp_negative n c := fun q => by
      rw [if_pos q] at g2
      rw [hs, if_neg (by rw [g2]; exact fun e => absurd (congrArg Fault.code e) (by simp)), g2, w64 (by omega)]
    refine ⟨hb, fun q => ⟨bad (.inl q), fun e => by cases e⟩, fun q => ⟨fun q2 => bad (.inr q2), fun q2 => ?_⟩⟩
    rw [if_neg (by omega)] at g2
    rw [w64 (by omega)]
    exact ⟨⟨by omega, by omega, g2⟩, by omega⟩
  · have hz : evFault n.events c 0 = ⟨0, 0⟩ := by rw [g2, List.drop_of_length_le (by omega)]; rfl
    have hr := evFault_zero hz
    rw [if_pos hz] at hs
    refine ⟨v.okay, ?_⟩
    intro r3 hr3
    subst hr3
    refine ⟨fun s t => ∃ k : Nat, t = k ∧ k ≤ c.length ∧ s = cycSum n c k ∧ ∀ m : Nat, m < k → dirL n.links (gt c m) (cycNext c m) < inf, fun _ t => (c.length - t).toNat, ⟨0, rfl, Nat.zero_le _, rfl, fun m h => absurd h (Nat.not_lt_zero _)⟩, ?_⟩
    rintro s t ⟨k, rfl, k1, rfl, k3⟩
    unfold F_negative_L2
    simp only [decide_eq_true_eq, decide_eq_false_iff_not, beq_iff_eq, beq_eq_false_iff_ne, ne_eq]
    refine ⟨fun h => ?_, fun h => ?_⟩
    · have hb : inb c (k : Int) := ⟨by omega, h⟩
      have hm := hr _ (gt_mem hb)
      have enx : Int.tmod (IntKind.i64.wrap ((k : Int) + 1)) (c.length : Int) = if (k : Int) + 1 < c.length then (k : Int) + 1 else 0 := by
        rw [w64 (by omega)]
        split
        · rw [Int.tmod_eq_emod_of_nonneg (by omega), Int.emod_eq_of_lt (by omega) (by omega)]
        · rw [show (k : Int) + 1 = c.length by omega, Int.tmod_self]
      obtain ⟨x, hx⟩ : ∃ x, x = if (k : Int) + 1 < c.length then (k : Int) + 1 else 0 := ⟨_, rfl⟩
      have hxb : inb c x := by
        rw [hx]; split
        · exact ⟨by omega, by assumption⟩
        · exact ⟨by omega, by omega⟩
      have hxn : gt c x = cycNext c k := by
        unfold cycNext; rw [hx]; split <;> rfl
      have hm2 := hr _ (gt_mem hxb)
      obtain ⟨b1, b2, b3⟩ := bounds_at hm hm2
      rw [enx, ← hx]
      rw [hxn] at b3 b2 hm2
      have db := dirL_bounds v.okay.low v.okay.high (gt c k) (cycNext c k)
      simp only [inf] at db
      refine ⟨hb, b1, by omega, ?_⟩
      intro y hy
      subst hy
      rw [hxn, b3]
      refine ⟨hxb, b2, fun q => ?_, fun q => ?_⟩
      · have low := cycSum_mono v.okay c (c.length - (k + 1)) (k + 1)
        have lk := (cycSum_low v.okay c k).1
        have e : k + 1 + (c.length - (k + 1)) = c.length := by omega
        rw [e] at low
        simp only [cycSum, q] at low
        have : ¬ cycSum n c c.length < 0 := by omega
        rw [hs, decide_eq_false this]
      · have lk := cycSum_low v.okay c k
        intro x2 hx2
        subst hx2
        rw [w64 (n := cycSum n c k + _) (by omega), w64 (n := (k : Int) + 1) (by omega)]
        refine ⟨⟨k + 1, by omega, by omega, rfl, fun m hm => ?_⟩, by omega⟩
        rcases Nat.lt_succ_iff_lt_or_eq.1 hm with q2 | rfl
        · exact k3 m q2
        · simp only [inf]; omega
    · have : k = c.length := by omega
      rw [hs, this]
end Go.Proofs.Ytijicdmpidbacaa.Pl
