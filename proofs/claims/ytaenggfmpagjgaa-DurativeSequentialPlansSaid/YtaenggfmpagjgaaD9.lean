/- What the laws of schedules without gaps ask. Plain Lean. No condition. -/
import Derived.Test.YtaenggfmpagjgaaD8
namespace Go.Proofs.Ytaenggfmpagjgaa.Pl
open Go Go.RowKit
theorem ok_lawSequential : ∀ (t : TTask) (plan : List Int), F_lawSequential t plan (fun r => r = sp_lawSequential t plan) := fun t plan => by
  unfold F_lawSequential
  simp only [forall_eq]
  have skip : F_lawSequential_J1 t plan (fun r => r = sp_lawSequential t plan) (sp_line t plan) (sp_sequence t) true := by
    unfold F_lawSequential_J1
    simp only [forall_eq]
    exact ⟨fun _ => rfl, fun g => absurd g (by decide)⟩
  refine ⟨fun _ => skip, fun h => ?_⟩
  cases hb : ((sp_sequence t).2.code != 0) with
  | true => exact skip
  | false =>
    have h0 : sp_lineFault t plan = ⟨0, 0⟩ := Classical.byContradiction fun g => by
      have e : sp_line t plan = ([], sp_lineFault t plan) := by rw [sp_line, if_neg g]
      rw [e] at h
      refine g ?_
      unfold sp_lineFault at h ⊢
      split at h
      · rename_i c
        rw [if_pos c]
        split at h
        · simp at h
        · rename_i c2
          rw [if_neg c2]
          refine fault_code_ff (fun k => ?_) (by simpa using h)
          unfold planRng
          split
          · exact fun _ => rfl
          · exact fun h => absurd (show (3 : Int) = 0 from h) (by decide)
      · rename_i c
        rw [if_neg c]
        exact tvalidate_code (by simpa using h)
    have ok := lineOK_of h0
    have hn := ok.task.facts
    have hlen := ok.len
    have e1 : sp_line t plan = (lineN t plan plan.length, ⟨0, 0⟩) := by rw [sp_line, if_pos h0]
    have e2 : sp_sequence t = (sp_sequenced t, ⟨0, 0⟩) := by rw [sp_sequence, if_pos ok.val]
    have hv := sequenced_valid ok.val
    have hops : (sp_sequenced t).ops.length = t.ops.length := List.length_map _
    have hin : ∀ x ∈ plan, inb t.ops x := fun x hx => by
      obtain ⟨i, hi, rfl⟩ := mem_gt hx
      exact ok.op hi
    have hpf : sp_planFault (sp_sequenced t) plan = ⟨0, 0⟩ := by
      rw [sp_planFault, if_pos hv, sp_steps, if_neg (by omega), if_pos]
      refine List.all_eq_true.2 fun x hx => decide_eq_true ?_
      have := hin x hx
      rw [hops]
      exact ⟨this.1, this.2⟩
    have e3 : sp_solves (sp_sequenced t) plan = (sp_rsolves (sp_sequenced t) plan, ⟨0, 0⟩) := by rw [sp_solves, if_pos hpf]
    have hs := line_sched ok
    have e4 : sp_tcheck t (lineN t plan plan.length) = ((sp_timedR t (lineN t plan plan.length)).1, (sp_timedR t (lineN t plan plan.length)).2, ⟨0, 0⟩) := by rw [sp_tcheck, if_pos hs]
    have e5 := line_timed ok
    rw [e1, e2]
    unfold F_lawSequential_J1
    simp only [forall_eq]
    refine ⟨fun g => absurd g (by decide), fun _ => ?_⟩
    rw [e3, e4]
    have e6 : ((sp_rsolves (sp_sequenced t) plan) != (sp_timedR t (lineN t plan plan.length)).2) = false := by
      rw [e5]
      cases sp_rsolves (sp_sequenced t) plan <;> rfl
    refine ⟨fun g => by simp at g, fun _ => ⟨fun g => by simp at g, fun _ => ?_⟩⟩
    show F_lawSequential_J2 t plan _ _ _ ((sp_rsolves (sp_sequenced t) plan) != (sp_timedR t (lineN t plan plan.length)).2)
    rw [e6]
    unfold F_lawSequential_J2
    refine ⟨fun g => absurd g (by decide), fun _ => ⟨fun sum i => ∃ k : Nat, i = k ∧ k ≤ plan.length ∧ sum = durSum t plan k, fun _ i => (plan.length - i).toNat, ⟨0, rfl, by omega, rfl⟩, ?_⟩⟩
    rintro _ _ ⟨k, rfl, k1, rfl⟩
    unfold F_lawSequential_L1
    simp only [decide_eq_true_eq, decide_eq_false_iff_not, forall_eq]
    refine ⟨fun hk => ?_, fun hk => ⟨fun _ => rfl, fun g => ⟨fun _ => rfl, fun g2 => ?_⟩⟩⟩
    · have hi := ok.op (k := k) (by omega)
      obtain ⟨_, d1, d2⟩ := ok.task.op hi
      have hd := durSum_bounds ok.task (plan := plan) k fun j hj => ok.rng j (by omega)
      rw [w64 (n := (k : Int) + 1) (by omega), w64 (n := durSum t plan k + (gt t.ops (gt plan (k : Int))).dur) (by omega)]
      exact ⟨⟨by omega, hk⟩, hi, ⟨k + 1, by omega, by omega, rfl⟩, by omega⟩
    · have e : k = plan.length := by omega
      subst e
      have g' : sp_rsolves (sp_sequenced t) plan = true := by simpa using g
      have : (sp_timedR t (lineN t plan plan.length)).1 = durSum t plan plan.length := by rw [e5, if_pos g']
      rw [this] at g2
      simp at g2
/-- the fault that has been found among the first steps of a plan -/
def LnI (t : TTask) (plan : List Int) (i x y : Int) : Prop :=
  ∃ k : Nat, i = k ∧ k ≤ plan.length ∧ ((x = 0 ∧ y = 0 ∧ sp_tvalidate t = ⟨0, 0⟩ ∧ plan.length ≤ 12 ∧ ∀ j, j < k → planRng t plan j = ⟨0, 0⟩) ∨ (x ≠ 0 ∧ (⟨x, y⟩ : Fault) = sp_lineFault t plan))
theorem lawLine_J2 (t : TTask) (plan : List Int) (x y : Int) (h : LnI t plan 0 x y) : F_lawLine_J2 t plan (fun r => r = sp_lawLine t plan) (sp_line t plan) x y := by
  unfold F_lawLine_J2
  refine ⟨LnI t plan, fun i _ _ => (plan.length - i).toNat, h, ?_⟩
  rintro _ x y ⟨k, rfl, k1, k2⟩
  have fin : x ≠ 0 → ((k : Int) < plan.length → False) ∨ True → (⟨x, y⟩ : Fault) = sp_lineFault t plan → F_lawLine_J3 t plan (fun r => r = sp_lawLine t plan) (sp_line t plan) false x y (k : Int) (LnI t plan) (fun i _ _ => (plan.length - i).toNat) := fun hx _ he => by
    have hne : sp_lineFault t plan ≠ ⟨0, 0⟩ := fun g => by rw [g] at he; exact hx (congrArg Fault.code he)
    have e : sp_line t plan = ([], ⟨x, y⟩) := by rw [sp_line, if_neg hne, he]
    rw [e]
    unfold F_lawLine_J3
    simp only [forall_eq]
    refine ⟨fun g => absurd g (by decide), fun _ => ⟨fun _ => ⟨fun _ => ⟨fun _ => rfl, fun g => absurd g (by decide)⟩, fun g => ?_⟩, fun g => ?_⟩⟩
    · simp at g
    · simp at g; exact absurd g hx
  unfold F_lawLine_L1
  simp only [decide_eq_true_eq, decide_eq_false_iff_not]
  rcases k2 with ⟨rfl, rfl, h0, h1, k3⟩ | ⟨hx, he⟩
  · have ok := ttaskOK_of h0
    have hlen := ok.len
    refine ⟨fun hk => ?_, fun hk => ?_⟩
    · unfold F_lawLine_J3
      rw [w64 (n := ((t.ops.length : Nat) : Int) - 1) (by omega), w64 (n := (-6 : Int) - (k : Int)) (by omega)]
      simp only [forall_eq, sp_in_, sp_at_, Bool.not_eq_true', Bool.not_eq_false', Bool.and_eq_true, Bool.and_eq_false_iff, decide_eq_true_eq, decide_eq_false_iff_not]
      refine ⟨fun _ => ⟨⟨by omega, hk⟩, fun g => ?_, fun g => ?_⟩, fun g => absurd g (by decide)⟩
      · unfold F_lawLine_J4
        rw [w64 (n := (k : Int) + 1) (by omega)]
        have hb : ¬ (0 ≤ gt plan (k : Int) ∧ gt plan (k : Int) < t.ops.length) := by omega
        refine ⟨⟨k + 1, by omega, by omega, .inr ⟨by decide, ?_⟩⟩, by dsimp only; omega⟩
        rw [sp_lineFault, if_pos h0, if_neg (by omega), ffirst_hit (i := k) (by omega) k3 (by rw [planRng_bad hb]; exact fault_mk (by decide)), planRng_bad hb]
      · unfold F_lawLine_J4
        rw [w64 (n := (k : Int) + 1) (by omega)]
        exact ⟨⟨k + 1, by omega, by omega, .inl ⟨rfl, rfl, h0, h1, zero_next k3 (planRng_good (by omega))⟩⟩, by dsimp only; omega⟩
    · have e : k = plan.length := by omega
      subst e
      have hf : sp_lineFault t plan = ⟨0, 0⟩ := by rw [sp_lineFault, if_pos h0, if_neg (by omega), ffirst_none k3]
      have lok := lineOK_of hf
      have e : sp_line t plan = (lineN t plan plan.length, ⟨0, 0⟩) := by rw [sp_line, if_pos hf]
      rw [e]
      unfold F_lawLine_J3
      refine ⟨fun g => absurd g (by decide), fun _ => ⟨fun g => absurd g (by decide), fun _ => ⟨fun i want => ∃ m : Nat, i = m ∧ m ≤ plan.length ∧ want = lineN t plan m, fun i _ => (plan.length - i).toNat, ⟨0, rfl, by omega, rfl⟩, ?_⟩⟩⟩
      rintro _ _ ⟨m, rfl, m1, rfl⟩
      unfold F_lawLine_L2
      simp only [decide_eq_true_eq, decide_eq_false_iff_not, forall_eq]
      refine ⟨fun hm => ⟨fun start i => ∃ j : Nat, i = j ∧ j ≤ m ∧ start = durSum t plan j, fun _ i => (m - i).toNat, ⟨0, rfl, by omega, rfl⟩, ?_⟩, fun hm => ⟨fun _ => ⟨?_, fun _ => rfl, fun g => ?_⟩, fun g => absurd g (by decide)⟩⟩
      · rintro _ _ ⟨j, rfl, j1, rfl⟩
        unfold F_lawLine_L3
        simp only [decide_eq_true_eq, decide_eq_false_iff_not]
        refine ⟨fun hj => ?_, fun hj => ?_⟩
        · have hi := lok.op (k := j) (by omega)
          obtain ⟨_, d1, d2⟩ := ok.op hi
          have hd := durSum_bounds ok (plan := plan) j fun i hi => k3 i (by omega)
          rw [w64 (n := (j : Int) + 1) (by omega), w64 (n := durSum t plan j + (gt t.ops (gt plan (j : Int))).dur) (by omega)]
          exact ⟨⟨by omega, by omega⟩, hi, ⟨j + 1, by omega, by omega, rfl⟩, by omega⟩
        · have e : j = m := by omega
          subst e
          have e2 := lineN_succ t plan j
          rw [← e2, lineN_len, w64 (n := (j : Int) + 1) (by omega)]
          exact ⟨⟨by omega, hm⟩, ⟨by simp only [maxLen]; omega, by omega⟩, ⟨j + 1, by omega, by omega, rfl⟩, by omega⟩
      · show (lineN t plan plan.length).length ≤ 1000
        rw [lineN_len]; omega
      · have e : m = plan.length := by omega
        subst e
        simp [sp_occurs] at g
  · refine ⟨fun hk => ?_, fun hk => fin hx (.inr trivial) he⟩
    rw [show (x == 0) = false by simpa using hx]
    exact fin hx (.inr trivial) he
theorem ok_lawLine : ∀ (t : TTask) (plan : List Int), F_lawLine t plan (fun r => r = sp_lawLine t plan) := fun t plan => by
  unfold F_lawLine
  simp only [forall_eq]
  refine ⟨fun h => ?_, fun h => ?_⟩
  · have h0 := tvalidate_code (t := t) (by simpa using h)
    unfold F_lawLine_J1
    simp only [forall_eq, decide_eq_true_eq, decide_eq_false_iff_not]
    refine ⟨fun g => lawLine_J2 _ _ _ _ ⟨0, rfl, by omega, .inr ⟨by decide, ?_⟩⟩, fun g => lawLine_J2 _ _ _ _ ⟨0, rfl, by omega, .inl ⟨by rw [h0], by rw [h0], h0, by omega, fun _ q => by omega⟩⟩⟩
    rw [sp_lineFault, if_pos h0, if_pos (by omega)]; rfl
  · unfold F_lawLine_J1
    have hc : (sp_tvalidate t).code ≠ 0 := by simpa using h
    have hne : sp_tvalidate t ≠ ⟨0, 0⟩ := fun g => hc (by rw [g])
    refine ⟨fun g => absurd g (by decide), fun _ => lawLine_J2 _ _ _ _ ⟨0, rfl, by omega, .inr ⟨hc, ?_⟩⟩⟩
    rw [sp_lineFault, if_neg hne]
end Go.Proofs.Ytaenggfmpagjgaa.Pl
