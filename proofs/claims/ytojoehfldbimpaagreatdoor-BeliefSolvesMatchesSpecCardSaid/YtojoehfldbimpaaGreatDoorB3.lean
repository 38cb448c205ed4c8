/- What the checks of tasks and plans ask and give. Plain Lean. No condition. -/
import Derived.Test.YtojoehfldbimpaaGreatDoorB2
namespace Go.Proofs.YtojoehfldbimpaaGreatDoor.Pl
open Go Go.RowKit
theorem ok_meets1 : ∀ (x : Int) (x2 : List Int), pre_meets1 x x2 → F_meets1 x x2 (fun r => r = sp_meets1 x x2) := fun x b hp => by
  refine ⟨hp, fun r hr => ?_⟩
  rw [hr]; rfl
theorem ok_meets : ∀ (a : List Int) (b : List Int), pre_meets a b → F_meets a b (fun r => r = sp_meets a b) := fun a b ⟨h1, h2⟩ => by
  refine ⟨⟨h1, fun x _ => h2⟩, fun r hr => ?_⟩
  rw [hr]; rfl
theorem ok_disjoint : ∀ (a : List Int) (b : List Int), pre_disjoint a b → F_disjoint a b (fun r => r = sp_disjoint a b) := fun a b ⟨h1, h2⟩ => by
  refine ⟨fun t => ∃ k : Nat, t = k ∧ k ≤ a.length ∧ ∀ x ∈ a.take k, x ∉ b, fun t => (a.length - t).toNat, ⟨0, rfl, Nat.zero_le _, by simp⟩, ?_⟩
  rintro _ ⟨k, rfl, k1, k2⟩
  unfold F_disjoint_L1
  simp only [decide_eq_true_eq, decide_eq_false_iff_not, forall_eq, sp_has]
  refine ⟨fun h => ⟨⟨by omega, h⟩, h2, fun q => ?_, fun q => ?_⟩, fun h => ?_⟩
  · have : sp_meets a b = true := List.any_eq_true.2 ⟨_, gt_memN (i := k) (by omega), by simpa using q⟩
    rw [sp_disjoint, this]; rfl
  · rw [w64 (by omega)]
    refine ⟨⟨k + 1, by omega, by omega, fun x hx => ?_⟩, by omega⟩
    rw [takeN_gt (by omega)] at hx
    rcases List.mem_append.1 hx with hx | hx
    · exact k2 x hx
    · rw [List.mem_singleton.1 hx]; simpa using q
  · rw [List.take_of_length_le (by omega)] at k2
    have : sp_meets a b = false := by
      rw [sp_meets, List.any_eq_false]
      intro x hx
      simpa using k2 x hx
    rw [sp_disjoint, this]; rfl
/-- sets are short -/
theorem set_len {l : List Int} {n : Int} (hn : 0 ≤ n) (h : sp_isSet l n = true) : (l.length : Int) ≤ n := (setTo_of h).small hn |>.1
theorem set_sorted {l : List Int} {n : Int} (h : sp_isSet l n = true) : l.Pairwise (· < ·) := (of_decide_eq_true h).1
theorem set_rng {l : List Int} {n : Int} (h : sp_isSet l n = true) : ∀ x ∈ l, 0 ≤ x ∧ x < n := (of_decide_eq_true h).2
theorem ok_operator : ∀ (o : Operator) (facts : Int), pre_operator o facts → F_operator o facts (fun r => r = sp_operator o facts) := fun o n ⟨n0, n1⟩ => by
  have bad : ¬ (sp_isSet o.pre n = true ∧ sp_isSet o.add n = true ∧ sp_isSet o.del n = true ∧ sp_meets o.add o.del = false) → (5 : Int) = sp_operator o n := fun h => by rw [sp_operator, if_neg h]
  unfold F_operator F_operator_J1 F_operator_J2
  simp only [forall_eq, Bool.not_eq_true', Bool.not_eq_false', decide_eq_true_eq, decide_eq_false_iff_not]
  refine ⟨⟨n0, n1⟩, fun h => ⟨fun _ => bad fun g => ?_, fun g => absurd g (by decide)⟩, fun h1 => ⟨⟨n0, n1⟩, fun h => ⟨fun _ => bad fun g => ?_, fun g => absurd g (by decide)⟩, fun h2 => ⟨⟨n0, n1⟩, fun h => ⟨fun _ => bad fun g => ?_, fun g => absurd g (by decide)⟩, fun h3 => ?_⟩⟩⟩
  · rw [g.1] at h; exact absurd h (by decide)
  · rw [g.2.1] at h; exact absurd h (by decide)
  · rw [g.2.2.1] at h; exact absurd h (by decide)
  · have l1 := set_len n0 h2
    have l2 := set_len n0 h3
    refine ⟨⟨by omega, set_sorted h3, by omega⟩, fun h => bad fun g => ?_, fun h => ?_⟩
    · rw [g.2.2.2] at h; exact absurd h (by decide)
    · have e : sp_operator o n = if 0 ≤ o.cost ∧ o.cost ≤ 100 then 0 else 3 := by rw [sp_operator, if_pos ⟨h1, h2, h3, h⟩]
      rw [e]
      refine ⟨fun q => ⟨fun _ => ?_, fun g => absurd g (by decide)⟩, fun q => ⟨fun g => ?_, fun g => ?_⟩⟩
      · rw [if_neg (by omega)]
      · rw [if_neg (by omega)]
      · rw [if_pos (by omega)]
theorem opFault_zero {t : Task} {k : Nat} (h : sp_operator (gt t.ops k) t.facts = 0) : opFault t k = ⟨0, 0⟩ := by rw [opFault, if_pos h]
theorem opFault_ne {t : Task} {k : Nat} (h : sp_operator (gt t.ops k) t.facts ≠ 0) : opFault t k = ⟨sp_operator (gt t.ops k) t.facts, k⟩ := by rw [opFault, if_neg h]
theorem ok_validate : ∀ (t : Task), F_validate t (fun r => r = sp_validate t) := fun t => by
  have hs : sp_validate t = if t.facts < 0 ∨ 24 < t.facts then ⟨3, -1⟩ else if sp_isSet t.init t.facts = false then ⟨5, -2⟩ else if sp_isSet t.goal t.facts = false then ⟨5, -3⟩ else if 40 < t.ops.length then ⟨2, -1⟩ else ffirst (opFault t) t.ops.length := rfl
  have key : ¬ (t.facts < 0 ∨ 24 < t.facts) → F_validate_J1 t (fun r => r = sp_validate t) false := fun hf => by
    unfold F_validate_J1
    simp only [forall_eq, Bool.not_eq_true', Bool.not_eq_false', decide_eq_true_eq, decide_eq_false_iff_not]
    refine ⟨fun g => absurd g (by decide), fun _ => ⟨⟨by omega, by omega⟩, fun h => ?_, fun h1 => ⟨⟨by omega, by omega⟩, fun h => ?_, fun h2 => ⟨fun h => ?_, fun h3 => ?_⟩⟩⟩⟩
    · rw [hs, if_neg hf, if_pos h]
    · rw [hs, if_neg hf, if_neg (by rw [h1]; decide), if_pos h]
    · rw [hs, if_neg hf, if_neg (by rw [h1]; decide), if_neg (by rw [h2]; decide), if_pos (by omega)]
    · have e : sp_validate t = ffirst (opFault t) t.ops.length := by rw [hs, if_neg hf, if_neg (by rw [h1]; decide), if_neg (by rw [h2]; decide), if_neg (by omega)]
      rw [e]
      refine ⟨fun i => ∃ k : Nat, i = k ∧ k ≤ t.ops.length ∧ ∀ j, j < k → opFault t j = ⟨0, 0⟩, fun i => (t.ops.length - i).toNat, ⟨0, rfl, by omega, fun j hj => by omega⟩, ?_⟩
      rintro _ ⟨k, rfl, k1, k2⟩
      unfold F_validate_L1
      simp only [decide_eq_true_eq, decide_eq_false_iff_not, forall_eq, bne_iff_ne, ne_eq, bne_eq_false_iff_eq]
      refine ⟨fun h => ⟨⟨by omega, h⟩, ⟨by omega, by omega⟩, fun q => ?_, fun q => ?_⟩, fun h => ?_⟩
      · rw [ffirst_hit (i := k) (by omega) k2 (by rw [opFault_ne q]; exact fault_mk q), opFault_ne q]
      · rw [w64 (by omega)]
        exact ⟨⟨k + 1, by omega, by omega, zero_next k2 (opFault_zero q)⟩, by omega⟩
      · rw [ffirst_none fun j hj => k2 j (by omega)]
  unfold F_validate
  simp only [decide_eq_true_eq, decide_eq_false_iff_not]
  refine ⟨fun h => ⟨fun _ => ?_, fun g => absurd g (by decide)⟩, fun h => ?_⟩
  · rw [hs, if_pos (.inl h)]
  · by_cases h2 : 24 < t.facts
    · rw [decide_eq_true h2]
      refine ⟨fun _ => ?_, fun g => absurd g (by decide)⟩
      rw [hs, if_pos (.inr h2)]
    · rw [decide_eq_false h2]
      exact key (by omega)
theorem ok_taskFault : ∀ (t : Task), F_taskFault t (fun r => r = sp_validate t) := fun t => by
  have hs : sp_validate t = if t.facts < 0 ∨ 24 < t.facts then ⟨3, -1⟩ else if sp_isSet t.init t.facts = false then ⟨5, -2⟩ else if sp_isSet t.goal t.facts = false then ⟨5, -3⟩ else if 40 < t.ops.length then ⟨2, -1⟩ else ffirst (opFault t) t.ops.length := rfl
  unfold F_taskFault
  simp only [forall_eq, sp_in_, sp_at_, Bool.not_eq_true', Bool.not_eq_false', Bool.and_eq_true, Bool.and_eq_false_iff, decide_eq_true_eq, decide_eq_false_iff_not]
  refine ⟨fun h => ?_, fun hf => ⟨⟨by omega, by omega⟩, fun h => ?_, fun h1 => ⟨⟨by omega, by omega⟩, fun h => ?_, fun h2 => ⟨fun h => ?_, fun h3 => ?_⟩⟩⟩⟩
  · rw [hs, if_pos (by omega)]
  · rw [hs, if_neg (by omega), if_pos h]
  · rw [hs, if_neg (by omega), if_neg (by rw [h1]; decide), if_pos h]
  · rw [hs, if_neg (by omega), if_neg (by rw [h1]; decide), if_neg (by rw [h2]; decide), if_pos (by omega)]
  · have e : sp_validate t = ffirst (opFault t) t.ops.length := by rw [hs, if_neg (by omega), if_neg (by rw [h1]; decide), if_neg (by rw [h2]; decide), if_neg (by omega)]
    rw [e]
    refine ⟨fun i => ∃ k : Nat, i = k ∧ k ≤ t.ops.length ∧ ∀ j, j < k → opFault t j = ⟨0, 0⟩, fun i => (t.ops.length - i).toNat, ⟨0, rfl, by omega, fun j hj => by omega⟩, ?_⟩
    rintro _ ⟨k, rfl, k1, k2⟩
    unfold F_taskFault_L1 F_taskFault_J1
    simp only [decide_eq_true_eq, decide_eq_false_iff_not, forall_eq, sp_in_, sp_at_, Bool.not_eq_true', Bool.not_eq_false', Bool.and_eq_true, Bool.and_eq_false_iff]
    have hit : sp_operator (gt t.ops k) t.facts ≠ 0 → (k : Int) < t.ops.length → (⟨sp_operator (gt t.ops k) t.facts, k⟩ : Fault) = ffirst (opFault t) t.ops.length := fun q h => by
      rw [ffirst_hit (i := k) (by omega) k2 (by rw [opFault_ne q]; exact fault_mk q), opFault_ne q]
    have bad : ¬ (sp_isSet (gt t.ops k).pre t.facts = true ∧ sp_isSet (gt t.ops k).add t.facts = true ∧ sp_isSet (gt t.ops k).del t.facts = true ∧ sp_meets (gt t.ops k).add (gt t.ops k).del = false) → (k : Int) < t.ops.length → (⟨5, k⟩ : Fault) = ffirst (opFault t) t.ops.length := fun q h => by
      have e : sp_operator (gt t.ops k) t.facts = 5 := by rw [sp_operator, if_neg q]
      have := hit (by omega) h
      rwa [e] at this
    have fin : (sp_isSet (gt t.ops k).pre t.facts = true ∧ sp_isSet (gt t.ops k).add t.facts = true ∧ sp_isSet (gt t.ops k).del t.facts = true ∧ sp_meets (gt t.ops k).add (gt t.ops k).del = false) → (k : Int) < t.ops.length → (¬ (0 ≤ (gt t.ops k).cost) ∨ ¬ ((gt t.ops k).cost ≤ 100) → (⟨3, k⟩ : Fault) = ffirst (opFault t) t.ops.length) ∧ (0 ≤ (gt t.ops k).cost ∧ (gt t.ops k).cost ≤ 100 → (∃ k' : Nat, IntKind.i64.wrap ((k : Int) + 1) = k' ∧ k' ≤ t.ops.length ∧ ∀ j, j < k' → opFault t j = ⟨0, 0⟩) ∧ (t.ops.length - IntKind.i64.wrap ((k : Int) + 1)).toNat < (t.ops.length - (k : Int)).toNat) := fun q h => by
      refine ⟨fun c => ?_, fun c => ?_⟩
      · have e : sp_operator (gt t.ops k) t.facts = 3 := by rw [sp_operator, if_pos q, if_neg (by omega)]
        have := hit (by omega) h
        rwa [e] at this
      · have e : sp_operator (gt t.ops k) t.facts = 0 := by rw [sp_operator, if_pos q, if_pos c]
        rw [w64 (by omega)]
        exact ⟨⟨k + 1, by omega, by omega, zero_next k2 (opFault_zero e)⟩, by omega⟩
    refine ⟨fun h => ⟨⟨by omega, h⟩, ⟨by omega, by omega⟩, fun q => ⟨fun _ => bad (fun g => ?_) h, fun g => absurd g (by decide)⟩, fun q1 => ⟨⟨by omega, by omega⟩, fun q => ⟨fun _ => bad (fun g => ?_) h, fun g => absurd g (by decide)⟩, fun q2 => ⟨⟨by omega, by omega⟩, fun q => ⟨fun _ => bad (fun g => ?_) h, fun g => absurd g (by decide)⟩, fun q3 => ?_⟩⟩⟩, fun h => ?_⟩
    · rw [g.1] at q; exact absurd q (by decide)
    · rw [g.2.1] at q; exact absurd q (by decide)
    · rw [g.2.2.1] at q; exact absurd q (by decide)
    · have l1 := set_len (by omega) q2
      have l2 := set_len (by omega) q3
      refine ⟨⟨by omega, by omega⟩, fun q => bad (fun g => ?_) h, fun q => ?_⟩
      · rw [sp_disjoint, g.2.2.2] at q; exact absurd q (by decide)
      · have q4 : sp_meets (gt t.ops k).add (gt t.ops k).del = false := by
          rw [sp_disjoint] at q
          simpa using q
        exact fin ⟨q1, q2, q3, q4⟩ h
    · rw [ffirst_none fun j hj => k2 j (by omega)]
theorem steps_tail {n : Int} {p : List Int} {k : Nat} (hl : ¬ 60 < p.length) (hk : ∀ x ∈ p.take k, 0 ≤ x ∧ x < n) : (k < p.length → ¬ (0 ≤ gt p (k : Int) ∧ gt p (k : Int) < n) → sp_steps n p = ⟨3, -6⟩) ∧ (k < p.length → (0 ≤ gt p (k : Int) ∧ gt p (k : Int) < n) → ∀ x ∈ p.take (k + 1), 0 ≤ x ∧ x < n) ∧ (¬ k < p.length → sp_steps n p = ⟨0, 0⟩) := by
  refine ⟨fun h q => ?_, fun h q x hx => ?_, fun h => ?_⟩
  · rw [sp_steps, if_neg hl, if_neg]
    intro g
    have := List.all_eq_true.1 g _ (gt_memN (i := k) h)
    exact q (of_decide_eq_true this)
  · rw [takeN_gt h] at hx
    rcases List.mem_append.1 hx with hx | hx
    · exact hk x hx
    · rw [List.mem_singleton.1 hx]; exact q
  · rw [List.take_of_length_le (by omega)] at hk
    rw [sp_steps, if_neg hl, if_pos (List.all_eq_true.2 fun x hx => decide_eq_true (hk x hx))]
theorem ok_steps : ∀ (operators : Int) (plan : List Int), pre_steps operators plan → F_steps operators plan (fun r => r = sp_steps operators plan) := fun n p ⟨n0, n1⟩ => by
  unfold F_steps
  simp only [decide_eq_true_eq, decide_eq_false_iff_not]
  refine ⟨fun h => ?_, fun hl => ⟨fun t => ∃ k : Nat, t = k ∧ k ≤ p.length ∧ ∀ x ∈ p.take k, 0 ≤ x ∧ x < n, fun t => (p.length - t).toNat, ⟨0, rfl, Nat.zero_le _, by simp⟩, ?_⟩⟩
  · rw [sp_steps, if_pos (by omega)]
  · rintro _ ⟨k, rfl, k1, k2⟩
    unfold F_steps_L1 F_steps_J1
    obtain ⟨e1, e2, e3⟩ := steps_tail (by omega) k2
    rw [w64 (n := (k : Int) + 1) (by omega)]
    simp only [decide_eq_true_eq, decide_eq_false_iff_not]
    refine ⟨fun h => ⟨⟨by omega, h⟩, fun q => ⟨fun _ => (e1 (by omega) (by omega)).symm, fun g => absurd g (by decide)⟩, fun q => ⟨fun q2 => (e1 (by omega) (by omega)).symm, fun q2 => ⟨⟨k + 1, by omega, by omega, e2 (by omega) (by omega)⟩, by omega⟩⟩⟩, fun h => (e3 (by omega)).symm⟩
theorem ok_stepsFault : ∀ (operators : Int) (plan : List Int), pre_steps operators plan → F_stepsFault operators plan (fun r => r = sp_steps operators plan) := fun n p ⟨n0, n1⟩ => by
  unfold F_stepsFault
  simp only [decide_eq_true_eq, decide_eq_false_iff_not, forall_eq, sp_at_]
  refine ⟨fun h => ?_, fun hl => ⟨fun t => ∃ k : Nat, t = k ∧ k ≤ p.length ∧ ∀ x ∈ p.take k, 0 ≤ x ∧ x < n, fun t => (p.length - t).toNat, ⟨0, rfl, Nat.zero_le _, by simp⟩, ?_⟩⟩
  · rw [sp_steps, if_pos (by omega)]
  · rintro _ ⟨k, rfl, k1, k2⟩
    unfold F_stepsFault_L1
    obtain ⟨e1, e2, e3⟩ := steps_tail (by omega) k2
    rw [w64 (n := (k : Int) + 1) (by omega), w64 (n := n - 1) (by omega)]
    simp only [decide_eq_true_eq, decide_eq_false_iff_not, forall_eq, sp_in_, sp_at_, Bool.not_eq_true', Bool.not_eq_false', Bool.and_eq_true, Bool.and_eq_false_iff]
    refine ⟨fun h => ⟨⟨by omega, h⟩, fun q => (e1 (by omega) (by omega)).symm, fun q => ⟨⟨k + 1, by omega, by omega, e2 (by omega) (by omega)⟩, by omega⟩⟩, fun h => (e3 (by omega)).symm⟩
/-- a task without fault -/
structure TaskOK (t : Task) : Prop where
  facts : 0 ≤ t.facts ∧ t.facts ≤ 24
  init : sp_isSet t.init t.facts = true
  goal : sp_isSet t.goal t.facts = true
  len : t.ops.length ≤ 40
  ops : ∀ k : Nat, k < t.ops.length → sp_operator (gt t.ops k) t.facts = 0
theorem taskOK_of {t : Task} (h : sp_validate t = ⟨0, 0⟩) : TaskOK t := by
  unfold sp_validate at h
  split at h
  · exact absurd h (fault_mk (by decide))
  · split at h
    · exact absurd h (fault_mk (by decide))
    · split at h
      · exact absurd h (fault_mk (by decide))
      · split at h
        · exact absurd h (fault_mk (by decide))
        · rename_i h1 h2 h3 h4
          refine ⟨by omega, by simpa using h2, by simpa using h3, by omega, fun k hk => ?_⟩
          have := ffirst_zero h k hk
          unfold opFault at this
          split at this
          · assumption
          · rename_i h5
            exact absurd this (fault_mk h5)
theorem fault_code_ff {f : Nat → Fault} {n : Nat} (h : ∀ k, (f k).code = 0 → f k = ⟨0, 0⟩) : (ffirst f n).code = 0 → ffirst f n = ⟨0, 0⟩ := by
  unfold ffirst
  split
  · exact h _
  · exact fun _ => rfl
theorem validate_code {t : Task} : (sp_validate t).code = 0 → sp_validate t = ⟨0, 0⟩ := by
  unfold sp_validate
  repeat' split
  · exact fun h => absurd h (by decide)
  · exact fun h => absurd h (by decide)
  · exact fun h => absurd h (by decide)
  · exact fun h => absurd h (by decide)
  · refine fault_code_ff fun k => ?_
    unfold opFault
    split
    · exact fun _ => rfl
    · rename_i h1
      exact fun h => absurd h h1
theorem steps_code {n : Int} {p : List Int} : (sp_steps n p).code = 0 → sp_steps n p = ⟨0, 0⟩ := by
  unfold sp_steps
  repeat' split
  · exact fun h => absurd h (by decide)
  · exact fun _ => rfl
  · exact fun h => absurd h (by decide)
end Go.Proofs.YtojoehfldbimpaaGreatDoor.Pl

