/- What the laws of operators that take time ask. Plain Lean. No condition. -/
import Derived.Test.YtaenggfmpagjgaaD7
namespace Go.Proofs.Ytaenggfmpagjgaa.Pl
open Go Go.RowKit
theorem timedT_valid : sp_tvalidate sp_timedT = ⟨0, 0⟩ := by
  have hc : sp_tcode (gt sp_timedT.ops ((0 : Nat) : Int)) sp_timedT.facts = 0 := by
    rw [tcode_good ⟨by decide, by decide, by decide, by decide, by decide, by decide, by decide, by decide, by decide⟩, if_pos (by decide)]
  rw [sp_tvalidate, if_neg (by decide), if_neg (by decide), if_neg (by decide), if_neg (by decide)]
  refine ffirst_none fun j hj => ?_
  have : j = 0 := by have : j < 1 := hj; omega
  subst this
  exact topFault_zero hc
theorem timedT_line : LineOK sp_timedT [0] := ⟨ttaskOK_of timedT_valid, timedT_valid, by decide, fun k hk => by
  have : k = 0 := by have : k < 1 := hk; omega
  subst this
  exact planRng_good (by decide)⟩
theorem timedT_check : sp_tcheck sp_timedT [⟨0, 0⟩] = (3, true, ⟨0, 0⟩) := by
  have h1 := line_sched timedT_line
  have h2 := happenings_line timedT_line
  have h3 : runH sp_timedT (lineN sp_timedT [0] [(0 : Int)].length) (haps sp_timedT (lineN sp_timedT [0] [(0 : Int)].length) [(0 : Int)].length) sp_timedT.init (List.replicate (lineN sp_timedT [0] [(0 : Int)].length).length false) 0 = (3, true) := by decide
  rw [← h2] at h3
  change sp_timedR sp_timedT [⟨0, 0⟩] = (3, true) at h3
  change sp_scheduleFault sp_timedT [⟨0, 0⟩] = ⟨0, 0⟩ at h1
  rw [sp_tcheck, if_pos h1, h3]
theorem ok_lasted : F_lasted (fun r => r = sp_lasted) := by
  unfold F_lasted
  simp only [forall_eq]
  rw [timedT_check]
  exact ⟨fun _ => ⟨fun _ => rfl, fun g => absurd g (by decide)⟩, fun g => absurd g (by decide)⟩
theorem fault_same (f : Fault) : ((f.code == f.code) && (f.index == f.index)) = true := by simp
theorem ok_lawTimed : ∀ (t : TTask) (l : List Occ), F_lawTimed t l (fun r => r = sp_lawTimed t l) := fun t l => by
  unfold F_lawTimed
  simp only [forall_eq, fault_same]
  refine ⟨fun g => absurd g (by decide), fun _ => ?_⟩
  have e : (sp_tcheck t l).2.2 = sp_scheduleFault t l := by
    unfold sp_tcheck
    split
    · rename_i h; rw [h]
    · rfl
  rw [e, fault_same]
  unfold F_lawTimed_J1
  simp only [forall_eq]
  refine ⟨fun g => absurd g (by decide), fun _ => ⟨fun h => ?_, fun h => ?_⟩⟩
  · have hne : sp_scheduleFault t l ≠ ⟨0, 0⟩ := fun g => by rw [g] at h; exact absurd h (by decide)
    rw [sp_tcheck, if_neg hne]
    exact ⟨fun _ => ⟨fun _ => rfl, fun g => by simp at g⟩, fun g => by simp at g⟩
  · have h0 := scheduleFault_code (t := t) (l := l) (by simpa using h)
    rw [sp_tcheck, if_pos h0]
    refine ⟨h0, fun _ => ⟨fun _ => rfl, fun g => ?_⟩, fun g => ?_⟩
    · simp at g
    · simp at g
theorem ok_lawSequence : ∀ (t : TTask), F_lawSequence t (fun r => r = sp_lawSequence t) := fun t => by
  unfold F_lawSequence
  simp only [forall_eq]
  refine ⟨fun h => ?_, fun h => ?_⟩
  · have hne : sp_tvalidate t ≠ ⟨0, 0⟩ := fun g => by rw [g] at h; exact absurd h (by decide)
    rw [sp_sequence, if_neg hne]
    refine ⟨fun _ => ⟨⟨by simp, by simp, by simp, fun o ho => by cases ho⟩, fun _ => rfl, fun g => ?_⟩, fun g => ?_⟩
    · simp [sp_planning] at g
    · simp at g
  · have h0 := tvalidate_code (t := t) (by simpa using h)
    have ok := ttaskOK_of h0
    have hn := ok.facts
    rw [sp_sequence, if_pos h0]
    refine ⟨fun _ => ⟨h0, ⟨?_, ?_, ?_, fun o ho => ?_⟩, fun _ => ⟨fun _ => rfl, fun g => ?_⟩, fun g => ?_⟩, fun g => by simp at g⟩
    · have := set_lenK hn ok.init
      show t.init.length ≤ 1000
      omega
    · have := set_lenK hn ok.goal
      show t.goal.length ≤ 1000
      omega
    · have := ok.len
      show (t.ops.map (seqOp t)).length ≤ 1000
      rw [List.length_map]; omega
    · obtain ⟨x, hx, rfl⟩ := List.mem_map.1 ho
      obtain ⟨i, hi, rfl⟩ := mem_gt hx
      obtain ⟨so, _⟩ := ok.op (i := (i : Int)) ⟨by omega, by omega⟩
      have l1 := set_len (by omega) (seqPre_set hn.1 so)
      have l2 := set_lenK hn (update_set hn.1 (gt t.ops (i : Int)).delEnd so.addStart so.addEnd)
      have l3 := set_lenK hn (minus_set hn.1 (sp_update (gt t.ops (i : Int)).addStart (gt t.ops (i : Int)).addEnd (gt t.ops (i : Int)).delEnd) (union_set hn.1 so.delStart so.delEnd))
      exact ⟨by show (seqPre t (gt t.ops (i : Int))).length ≤ 1000; omega, by show (sp_update _ _ _).length ≤ 1000; omega, by show (sp_minus _ _).length ≤ 1000; omega⟩
    · rw [sequenced_valid h0] at g; exact absurd g (by decide)
    · simp [sp_planning] at g
theorem ok_lawEndsLast : ∀ (t : TTask) (l : List Occ), F_lawEndsLast t l (fun r => r = sp_lawEndsLast t l) := fun t l => by
  unfold F_lawEndsLast
  simp only [forall_eq]
  have skip : F_lawEndsLast_J1 t l (fun r => r = sp_lawEndsLast t l) (sp_tcheck t l) true := by
    unfold F_lawEndsLast_J1
    simp only [forall_eq]
    exact ⟨fun _ => rfl, fun g => absurd g (by decide)⟩
  refine ⟨fun _ => skip, fun h => ?_⟩
  cases hb : (sp_tcheck t l).2.1 with
  | false => exact skip
  | true =>
    have h0 : sp_scheduleFault t l = ⟨0, 0⟩ := Classical.byContradiction fun g => by
      rw [sp_tcheck, if_neg g] at hb
      cases hb
    have ok := schedOK_of h0
    have hlen := ok.len
    have e : sp_tcheck t l = ((sp_timedR t l).1, (sp_timedR t l).2, ⟨0, 0⟩) := by rw [sp_tcheck, if_pos h0]
    rw [e] at hb
    obtain ⟨h1, h2, h3⟩ := last_end ok (n := (sp_timedR t l).1) (by
      have : (sp_timedR t l).2 = true := hb
      rw [← this])
    unfold F_lawEndsLast_J1
    simp only [forall_eq]
    refine ⟨fun g => absurd g (by decide), fun _ => ⟨fun last i => ∃ k : Nat, i = k ∧ k ≤ l.length ∧ (k = 0 → last = 0) ∧ (0 < k → ∃ j : Nat, j < k ∧ last = endOf t l j) ∧ ∀ j : Nat, j < k → endOf t l j ≤ last, fun _ i => (l.length - i).toNat, ⟨0, rfl, by omega, fun _ => rfl, fun g => by omega, fun _ g => by omega⟩, ?_⟩⟩
    rintro last _ ⟨k, rfl, k1, k2, k3, k4⟩
    unfold F_lawEndsLast_L1
    simp only [decide_eq_true_eq, decide_eq_false_iff_not, forall_eq, beq_iff_eq, beq_eq_false_iff_ne, ne_eq]
    refine ⟨fun hk => ?_, fun hk => ⟨fun _ => rfl, fun g => absurd ?_ g⟩⟩
    · have hi : inb l (k : Int) := ⟨by omega, hk⟩
      obtain ⟨o1, o2, o3⟩ := ok.op hi
      obtain ⟨_, d1, d2⟩ := ok.sets hi
      unfold opOf at d1 d2
      rw [w64 (n := (gt l (k : Int)).start + (gt t.ops (gt l (k : Int)).op).dur) (by omega)]
      unfold F_lawEndsLast_J2
      rw [w64 (n := (k : Int) + 1) (by omega)]
      refine ⟨hi, o1, fun g => ⟨⟨k + 1, by omega, by omega, fun g => by omega, fun _ => ⟨k, by omega, rfl⟩, fun j hj => ?_⟩, by dsimp only; omega⟩, fun g => ⟨⟨k + 1, by omega, by omega, fun g => by omega, fun _ => ?_, fun j hj => ?_⟩, by dsimp only; omega⟩⟩
      · rcases Nat.lt_or_ge j k with c | c
        · have := k4 j c
          exact Int.le_of_lt (Int.lt_of_le_of_lt this g)
        · rw [show j = k by omega]; exact Int.le_refl _
      · have hk0 : k ≠ 0 := fun c => by
          have := k2 c
          omega
        obtain ⟨j, j1, j2⟩ := k3 (by omega)
        exact ⟨j, by omega, j2⟩
      · rcases Nat.lt_or_ge j k with c | c
        · exact k4 j c
        · rw [show j = k by omega]; exact Int.not_lt.1 g
    · rw [e]
      show (sp_timedR t l).1 = last
      have hkl : k = l.length := by omega
      subst hkl
      by_cases c : l.length = 0
      · rw [h1 c, k2 c]
      · obtain ⟨i, i1, i2⟩ := h2 (by omega)
        obtain ⟨j, j1, j2⟩ := k3 (by omega)
        have a1 := h3 j j1
        have a2 := k4 i i1
        omega
theorem ok_lawDelayed : ∀ (t : TTask) (l : List Occ) (by_ : Int), pre_lawDelayed t l by_ → F_lawDelayed t l by_ (fun r => r = sp_lawDelayed t l by_) := fun t l b hp => by
  unfold pre_lawDelayed at hp
  refine ⟨fun i later => ∃ k : Nat, i = k ∧ k ≤ l.length ∧ later = (l.take k).map (sh b) ∧ (0 < k → 0 ≤ b ∧ b ≤ 1000) ∧ ∀ j : Nat, j < k → 0 ≤ (gt l (j : Int)).start ∧ (gt l (j : Int)).start ≤ 1000, fun i _ => (l.length - i).toNat, ⟨0, rfl, by omega, rfl, fun g => by omega, fun _ g => by omega⟩, ?_⟩
  rintro _ later ⟨k, rfl, k1, k2, k3, k4⟩
  have skip : ∀ I μ, F_lawDelayed_J1 l b (fun r => r = sp_lawDelayed t l b) true (k : Int) later I μ := fun I μ => by
    unfold F_lawDelayed_J1
    simp only [forall_eq]
    exact ⟨fun _ => rfl, fun g => absurd g (by decide)⟩
  unfold F_lawDelayed_L1
  simp only [decide_eq_true_eq, decide_eq_false_iff_not, forall_eq]
  refine ⟨fun hk => ⟨fun _ => skip _ _, fun g1 => ⟨fun _ => skip _ _, fun g2 => ⟨⟨by omega, hk⟩, fun _ => skip _ _, fun g3 => ?_⟩⟩⟩, fun hk => ?_⟩
  · by_cases g4 : 1000 < (gt l (k : Int)).start
    · rw [decide_eq_true g4]; exact skip _ _
    · rw [decide_eq_false g4]
      unfold F_lawDelayed_J1
      have hl : (later ++ ([⟨(gt l (k : Int)).op, (gt l (k : Int)).start + b⟩] : List Occ)).length = k + 1 := by
        rw [List.length_append, k2, List.length_map, List.length_take]; simp; omega
      rw [w64 (n := (k : Int) + 1) (by omega), w64 (n := (gt l (k : Int)).start + b) (by omega), hl]
      refine ⟨fun g => absurd g (by decide), fun _ => ⟨⟨by omega, hk⟩, ⟨by simp only [maxLen]; omega, by omega⟩, ⟨k + 1, by omega, by omega, ?_, fun _ => ⟨by omega, by omega⟩, fun j hj => ?_⟩, by dsimp only; omega⟩⟩
      · rw [takeN_gt (by omega), List.map_append, ← k2]; rfl
      · rcases Nat.lt_or_ge j k with c | c
        · exact k4 j c
        · rw [show j = k by omega]; exact ⟨by omega, by omega⟩
  · have hkl : k = l.length := by omega
    subst hkl
    rw [List.take_length] at k2
    subst k2
    have hsf : sp_scheduleFault t (l.map (sh b)) = sp_scheduleFault t l := by
      cases hc : l with
      | nil => rfl
      | cons x r =>
        rw [← hc]
        exact sched_sh (k3 (by rw [hc]; simp)) k4
    by_cases h0 : sp_scheduleFault t l = ⟨0, 0⟩
    · have e1 : sp_tcheck t l = ((sp_timedR t l).1, (sp_timedR t l).2, ⟨0, 0⟩) := by rw [sp_tcheck, if_pos h0]
      have e2 : sp_tcheck t (l.map (sh b)) = ((sp_timedR t (l.map (sh b))).1, (sp_timedR t (l.map (sh b))).2, ⟨0, 0⟩) := by rw [sp_tcheck, if_pos (hsf.trans h0)]
      have ok := schedOK_of h0
      have hlen := ok.len
      have ets := timed_sh t l b
      rw [e1, e2]
      refine ⟨fun g => by simp at g, fun _ => ?_⟩
      unfold F_lawDelayed_J2
      simp only [forall_eq]
      refine ⟨fun g => absurd g (by decide), fun _ => ⟨fun _ => ⟨fun _ => rfl, fun g => ?_⟩, fun g => ?_⟩⟩
      · have hb : (sp_timedR t l).2 = true := by simpa using g
        have hst : sp_timedR t l = ((sp_timedR t l).1, true) := by rw [← hb]
        rw [if_pos hb] at ets
        obtain ⟨h1, h2, _⟩ := last_end ok hst
        refine ⟨fun c => ?_, fun c => ?_⟩
        · have hl0 : l.length = 0 := by simpa using c
          have hl : l = [] := List.length_eq_zero_iff.1 hl0
          refine ⟨fun _ => rfl, fun g => ?_⟩
          rw [ets, if_pos hl, h1 hl0] at g
          simp at g
        · have hl0 : l.length ≠ 0 := by simpa using c
          have hl : l ≠ [] := fun q => hl0 (by rw [q]; rfl)
          obtain ⟨i, i1, i2⟩ := h2 (by omega)
          obtain ⟨o1, o2, o3⟩ := ok.op (i := (i : Int)) ⟨by omega, by omega⟩
          obtain ⟨_, d1, d2⟩ := ok.sets (i := (i : Int)) ⟨by omega, by omega⟩
          obtain ⟨b1, b2⟩ := k3 (by omega)
          unfold endOf at i2
          refine ⟨fun _ => ⟨fun _ => rfl, fun g => ?_⟩, fun g => ?_⟩
          · rw [ets, if_neg hl, w64 (n := (sp_timedR t l).1 + b) (by omega)] at g
            simp at g
          · exact absurd (of_decide_eq_false g) (by omega)
      · rw [ets] at g
        cases hb : (sp_timedR t l).2 with
        | true => rw [hb] at g; simp at g
        | false => rw [hb] at g; simp at g
    · have e1 : sp_tcheck t l = (0, false, sp_scheduleFault t l) := by rw [sp_tcheck, if_neg h0]
      have e2 : sp_tcheck t (l.map (sh b)) = (0, false, sp_scheduleFault t l) := by rw [sp_tcheck, hsf, if_neg h0]
      have hc : (sp_scheduleFault t l).code ≠ 0 := fun g => h0 (scheduleFault_code g)
      rw [e1, e2]
      refine ⟨fun _ => ?_, fun g => absurd (by simpa using g) hc⟩
      unfold F_lawDelayed_J2
      simp only [forall_eq, fault_same]
      exact ⟨fun _ => ⟨fun _ => rfl, fun g => absurd g (by decide)⟩, fun g => absurd g (by decide)⟩
end Go.Proofs.Ytaenggfmpagjgaa.Pl
