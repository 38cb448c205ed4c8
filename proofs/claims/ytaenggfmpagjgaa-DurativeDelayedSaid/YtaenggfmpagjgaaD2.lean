/- What the checks of operators that take time, and of schedules, ask and give. Plain Lean. No condition. -/
import Derived.Test.YtaenggfmpagjgaaD1
namespace Go.Proofs.Ytaenggfmpagjgaa.Pl
open Go Go.RowKit
def sevenL (o : TOp) : List (List Int) := [o.atStart, o.over, o.atEnd, o.addStart, o.delStart, o.addEnd, o.delEnd]
theorem SetsOK.all {o : TOp} {n : Int} (h : SetsOK o n) : ∀ l ∈ sevenL o, sp_isSet l n = true := by
  intro l hl
  simp only [sevenL, List.mem_cons, List.not_mem_nil, or_false] at hl
  rcases hl with rfl | rfl | rfl | rfl | rfl | rfl | rfl
  · exact h.atStart
  · exact h.over
  · exact h.atEnd
  · exact h.addStart
  · exact h.delStart
  · exact h.addEnd
  · exact h.delEnd
theorem setsOK_of {o : TOp} {n : Int} (h : ∀ l ∈ sevenL o, sp_isSet l n = true) (h1 : sp_meets o.addStart o.delStart = false) (h2 : sp_meets o.addEnd o.delEnd = false) : SetsOK o n := by
  refine ⟨h _ ?_, h _ ?_, h _ ?_, h _ ?_, h _ ?_, h _ ?_, h _ ?_, h1, h2⟩ <;> simp [sevenL]
theorem tcode_bad {o : TOp} {n : Int} (h : ¬ SetsOK o n) : sp_tcode o n = 5 := by rw [sp_tcode, if_neg h]
theorem tcode_good {o : TOp} {n : Int} (h : SetsOK o n) : sp_tcode o n = if 1 ≤ o.dur ∧ o.dur ≤ 1000 then 0 else 3 := by rw [sp_tcode, if_pos h]
theorem ok_tcode : ∀ (o : TOp) (facts : Int), pre_tcode o facts → F_tcode o facts (fun r => r = sp_tcode o facts) := fun o n ⟨n0, n1⟩ => by
  unfold F_tcode
  intro x hx
  have hx' : x = 7 := hx
  subst hx'
  have hl : (sevenL o).length = 7 := rfl
  refine ⟨fun t => ∃ k : Nat, t = k ∧ k ≤ 7 ∧ ∀ l ∈ (sevenL o).take k, sp_isSet l n = true, fun t => (7 - t).toNat, ⟨0, rfl, by omega, by simp⟩, ?_⟩
  rintro _ ⟨k, rfl, k1, k2⟩
  unfold F_tcode_L1
  change (decide ((k : Int) < 7) = true → inb (sevenL o) (k : Int) ∧ pre_isSet (gt (sevenL o) (k : Int)) n ∧ _) ∧ _
  simp only [decide_eq_true_eq, decide_eq_false_iff_not, forall_eq, Bool.not_eq_true', Bool.not_eq_false']
  refine ⟨fun h => ⟨⟨by omega, by rw [hl]; omega⟩, ⟨n0, n1⟩, fun q => ?_, fun q => ?_⟩, fun h => ?_⟩
  · have q' : sp_isSet (gt (sevenL o) (k : Int)) n = false := q
    refine (tcode_bad fun g => ?_).symm
    rw [g.all _ (gt_memN (by omega))] at q'
    cases q'
  · rw [w64 (by omega)]
    refine ⟨⟨k + 1, by omega, by omega, fun l hx => ?_⟩, by omega⟩
    rw [takeN_gt (by omega)] at hx
    rcases List.mem_append.1 hx with hx | hx
    · exact k2 l hx
    · rw [List.mem_singleton.1 hx]; exact q
  · rw [List.take_of_length_le (by omega)] at k2
    have m : ∀ l ∈ sevenL o, l.Pairwise (· < ·) ∧ l.length ≤ 1000 := fun l hx => ⟨set_sorted (k2 l hx), by have := set_len n0 (k2 l hx); omega⟩
    have mm : ∀ a ∈ sevenL o, ∀ b ∈ sevenL o, pre_meets a b := fun a ha b hb => ⟨(m a ha).2, m b hb⟩
    have five : F_tcode_J1 o (fun r => r = 5) true := by
      unfold F_tcode_J1
      exact ⟨fun _ => rfl, fun g => absurd g (by decide)⟩
    refine ⟨mm _ (by simp [sevenL]) _ (by simp [sevenL]), fun q => ?_, fun q1 => ⟨mm _ (by simp [sevenL]) _ (by simp [sevenL]), ?_⟩⟩
    · rw [tcode_bad fun g => by rw [g.start] at q; cases q]
      exact five
    · cases q2 : sp_meets o.addEnd o.delEnd with
      | true =>
        rw [tcode_bad fun g => by rw [g.ends] at q2; cases q2]
        exact five
      | false =>
        rw [tcode_good (setsOK_of k2 q1 q2)]
        unfold F_tcode_J1 F_tcode_J2
        simp only [decide_eq_true_eq, decide_eq_false_iff_not]
        refine ⟨fun g => absurd g (by decide), fun _ => ⟨fun g => ⟨fun _ => ?_, fun g => absurd g (by decide)⟩, fun g => ⟨fun g2 => ?_, fun g2 => ?_⟩⟩⟩
        · rw [if_neg (by omega)]
        · rw [if_neg (by omega)]
        · rw [if_pos (by omega)]
theorem topFault_zero {t : TTask} {k : Nat} (h : sp_tcode (gt t.ops k) t.facts = 0) : topFault t k = ⟨0, 0⟩ := by rw [topFault, if_pos h]
theorem topFault_ne {t : TTask} {k : Nat} (h : sp_tcode (gt t.ops k) t.facts ≠ 0) : topFault t k = ⟨sp_tcode (gt t.ops k) t.facts, k⟩ := by rw [topFault, if_neg h]
theorem ok_tvalidate : ∀ (t : TTask), F_tvalidate t (fun r => r = sp_tvalidate t) := fun t => by
  have hs : sp_tvalidate t = if t.facts < 0 ∨ 23 < t.facts then ⟨3, -1⟩ else if sp_isSet t.init t.facts = false then ⟨5, -2⟩ else if sp_isSet t.goal t.facts = false then ⟨5, -3⟩ else if 40 < t.ops.length then ⟨2, -1⟩ else ffirst (topFault t) t.ops.length := rfl
  have key : ¬ (t.facts < 0 ∨ 23 < t.facts) → F_tvalidate_J1 t (fun r => r = sp_tvalidate t) false := fun hf => by
    unfold F_tvalidate_J1
    simp only [forall_eq, Bool.not_eq_true', Bool.not_eq_false', decide_eq_true_eq, decide_eq_false_iff_not]
    refine ⟨fun g => absurd g (by decide), fun _ => ⟨⟨by omega, by omega⟩, fun h => ?_, fun h1 => ⟨⟨by omega, by omega⟩, fun h => ?_, fun h2 => ⟨fun h => ?_, fun h3 => ?_⟩⟩⟩⟩
    · rw [hs, if_neg hf, if_pos h]
    · rw [hs, if_neg hf, if_neg (by rw [h1]; decide), if_pos h]
    · rw [hs, if_neg hf, if_neg (by rw [h1]; decide), if_neg (by rw [h2]; decide), if_pos (by omega)]
    · have e : sp_tvalidate t = ffirst (topFault t) t.ops.length := by rw [hs, if_neg hf, if_neg (by rw [h1]; decide), if_neg (by rw [h2]; decide), if_neg (by omega)]
      rw [e]
      refine ⟨fun i => ∃ k : Nat, i = k ∧ k ≤ t.ops.length ∧ ∀ j, j < k → topFault t j = ⟨0, 0⟩, fun i => (t.ops.length - i).toNat, ⟨0, rfl, by omega, fun j hj => by omega⟩, ?_⟩
      rintro _ ⟨k, rfl, k1, k2⟩
      unfold F_tvalidate_L1
      simp only [decide_eq_true_eq, decide_eq_false_iff_not, forall_eq, bne_iff_ne, ne_eq, bne_eq_false_iff_eq]
      refine ⟨fun h => ⟨⟨by omega, h⟩, ⟨by omega, by omega⟩, fun q => ?_, fun q => ?_⟩, fun h => ?_⟩
      · rw [ffirst_hit (i := k) (by omega) k2 (by rw [topFault_ne q]; exact fault_mk q), topFault_ne q]
      · rw [w64 (by omega)]
        exact ⟨⟨k + 1, by omega, by omega, zero_next k2 (topFault_zero q)⟩, by omega⟩
      · rw [ffirst_none fun j hj => k2 j (by omega)]
  unfold F_tvalidate
  simp only [decide_eq_true_eq, decide_eq_false_iff_not]
  refine ⟨fun h => ⟨fun _ => ?_, fun g => absurd g (by decide)⟩, fun h => ?_⟩
  · rw [hs, if_pos (.inl h)]
  · by_cases h2 : 23 < t.facts
    · rw [decide_eq_true h2]
      refine ⟨fun _ => ?_, fun g => absurd g (by decide)⟩
      rw [hs, if_pos (.inr h2)]
    · rw [decide_eq_false h2]
      exact key (by omega)
theorem ok_timedFault : ∀ (t : TTask), F_timedFault t (fun r => r = sp_tvalidate t) := fun t => by
  have hs : sp_tvalidate t = if t.facts < 0 ∨ 23 < t.facts then ⟨3, -1⟩ else if sp_isSet t.init t.facts = false then ⟨5, -2⟩ else if sp_isSet t.goal t.facts = false then ⟨5, -3⟩ else if 40 < t.ops.length then ⟨2, -1⟩ else ffirst (topFault t) t.ops.length := rfl
  unfold F_timedFault
  simp only [forall_eq, sp_in_, sp_at_, Bool.not_eq_true', Bool.not_eq_false', Bool.and_eq_true, Bool.and_eq_false_iff, decide_eq_true_eq, decide_eq_false_iff_not]
  refine ⟨fun h => ?_, fun hf => ⟨⟨by omega, by omega⟩, fun h => ?_, fun h1 => ⟨⟨by omega, by omega⟩, fun h => ?_, fun h2 => ⟨fun h => ?_, fun h3 => ?_⟩⟩⟩⟩
  · rw [hs, if_pos (by omega)]
  · rw [hs, if_neg (by omega), if_pos h]
  · rw [hs, if_neg (by omega), if_neg (by rw [h1]; decide), if_pos h]
  · rw [hs, if_neg (by omega), if_neg (by rw [h1]; decide), if_neg (by rw [h2]; decide), if_pos (by omega)]
  · have e : sp_tvalidate t = ffirst (topFault t) t.ops.length := by rw [hs, if_neg (by omega), if_neg (by rw [h1]; decide), if_neg (by rw [h2]; decide), if_neg (by omega)]
    rw [e]
    refine ⟨fun i => ∃ k : Nat, i = k ∧ k ≤ t.ops.length ∧ ∀ j, j < k → topFault t j = ⟨0, 0⟩, fun i => (t.ops.length - i).toNat, ⟨0, rfl, by omega, fun j hj => by omega⟩, ?_⟩
    rintro _ ⟨k, rfl, k1, k2⟩
    have hit : sp_tcode (gt t.ops k) t.facts ≠ 0 → (k : Int) < t.ops.length → (⟨sp_tcode (gt t.ops k) t.facts, k⟩ : Fault) = ffirst (topFault t) t.ops.length := fun q h => by
      rw [ffirst_hit (i := k) (by omega) k2 (by rw [topFault_ne q]; exact fault_mk q), topFault_ne q]
    have bad : ∀ I μ, (k : Int) < t.ops.length → ¬ SetsOK (gt t.ops k) t.facts → F_timedFault_J1 t (fun r => r = ffirst (topFault t) t.ops.length) true (k : Int) I μ := fun I μ h q => by
      unfold F_timedFault_J1
      refine ⟨fun _ r hr => ?_, fun g => absurd g (by decide)⟩
      have := hit (by rw [tcode_bad q]; decide) h
      rw [tcode_bad q] at this
      rw [hr, ← this]; rfl
    unfold F_timedFault_L1
    simp only [decide_eq_true_eq, decide_eq_false_iff_not, forall_eq, Bool.not_eq_true', Bool.not_eq_false']
    refine ⟨fun h => ⟨⟨by omega, h⟩, ⟨by omega, by omega⟩, fun q => bad _ _ h fun g => ?_, fun a1 => ⟨⟨by omega, by omega⟩, fun q => bad _ _ h fun g => ?_, fun a2 => ⟨⟨by omega, by omega⟩, fun q => bad _ _ h fun g => ?_, fun a3 => ⟨⟨by omega, by omega⟩, fun q => bad _ _ h fun g => ?_, fun a4 => ⟨⟨by omega, by omega⟩, fun q => bad _ _ h fun g => ?_, fun a5 => ⟨⟨by omega, by omega⟩, fun q => bad _ _ h fun g => ?_, fun a6 => ⟨⟨by omega, by omega⟩, fun q => bad _ _ h fun g => ?_, fun a7 => ?_⟩⟩⟩⟩⟩⟩⟩, fun h => ?_⟩
    · rw [g.atStart] at q; cases q
    · rw [g.over] at q; cases q
    · rw [g.atEnd] at q; cases q
    · rw [g.addStart] at q; cases q
    · rw [g.delStart] at q; cases q
    · rw [g.addEnd] at q; cases q
    · rw [g.delEnd] at q; cases q
    · have l4 := set_len (by omega) a4
      have l5 := set_len (by omega) a5
      have l6 := set_len (by omega) a6
      have l7 := set_len (by omega) a7
      refine ⟨⟨by omega, by omega⟩, fun q => bad _ _ h fun g => ?_, fun b1 => ⟨⟨by omega, by omega⟩, ?_⟩⟩
      · rw [sp_disjoint, g.start] at q; cases q
      · have c1 : sp_meets (gt t.ops k).addStart (gt t.ops k).delStart = false := by
          rw [sp_disjoint] at b1; simpa using b1
        rw [sp_disjoint, Bool.not_not]
        cases c2 : sp_meets (gt t.ops k).addEnd (gt t.ops k).delEnd with
        | true => exact bad _ _ h fun g => by rw [g.ends] at c2; cases c2
        | false =>
          have ok := setsOK_of (o := gt t.ops k) (n := t.facts) (by
            intro l hl
            simp only [sevenL, List.mem_cons, List.not_mem_nil, or_false] at hl
            rcases hl with rfl | rfl | rfl | rfl | rfl | rfl | rfl <;> assumption) c1 c2
          unfold F_timedFault_J1
          simp only [forall_eq, sp_in_, sp_at_, Bool.not_eq_true', Bool.not_eq_false', Bool.and_eq_true, Bool.and_eq_false_iff, decide_eq_true_eq, decide_eq_false_iff_not]
          refine ⟨fun g => absurd g (by decide), fun _ => ⟨fun q => ?_, fun q => ?_⟩⟩
          · have e : sp_tcode (gt t.ops k) t.facts = 3 := by rw [tcode_good ok, if_neg (by omega)]
            have := hit (by rw [e]; decide) h
            rwa [e] at this
          · have e : sp_tcode (gt t.ops k) t.facts = 0 := by rw [tcode_good ok, if_pos (by omega)]
            rw [w64 (by omega)]
            exact ⟨⟨k + 1, by omega, by omega, zero_next k2 (topFault_zero e)⟩, by omega⟩
    · rw [ffirst_none fun j hj => k2 j (by omega)]
/-- a task without fault -/
structure TTaskOK (t : TTask) : Prop where
  facts : 0 ≤ t.facts ∧ t.facts ≤ 23
  init : sp_isSet t.init t.facts = true
  goal : sp_isSet t.goal t.facts = true
  len : t.ops.length ≤ 40
  ops : ∀ k : Nat, k < t.ops.length → sp_tcode (gt t.ops k) t.facts = 0
theorem ttaskOK_of {t : TTask} (h : sp_tvalidate t = ⟨0, 0⟩) : TTaskOK t := by
  unfold sp_tvalidate at h
  split at h
  · exact absurd h (fault_mk (by decide))
  · split at h
    · exact absurd h (fault_mk (by decide))
    · split at h
      · exact absurd h (fault_mk (by decide))
      · split at h
        · exact absurd h (fault_mk (by decide))
        · rename_i h1 h2 h3 h4
          refine ⟨by omega, by simpa using h2, by simpa using h3, by omega, fun k hk => ?_⟩
          have := ffirst_zero h k hk
          unfold topFault at this
          split at this
          · assumption
          · rename_i h5
            exact absurd this (fault_mk h5)
theorem TTaskOK.op {t : TTask} (h : TTaskOK t) {i : Int} (hi : inb t.ops i) : SetsOK (gt t.ops i) t.facts ∧ 1 ≤ (gt t.ops i).dur ∧ (gt t.ops i).dur ≤ 1000 := by
  have h1 := h.ops i.toNat (by have := hi.2; have := hi.1; omega)
  rw [Int.toNat_of_nonneg hi.1] at h1
  by_cases hs : SetsOK (gt t.ops i) t.facts
  · rw [tcode_good hs] at h1
    split at h1
    · rename_i g; exact ⟨hs, g⟩
    · cases h1
  · rw [tcode_bad hs] at h1; cases h1
theorem tvalidate_code {t : TTask} : (sp_tvalidate t).code = 0 → sp_tvalidate t = ⟨0, 0⟩ := by
  unfold sp_tvalidate
  repeat' split
  · exact fun h => absurd h (by decide)
  · exact fun h => absurd h (by decide)
  · exact fun h => absurd h (by decide)
  · exact fun h => absurd h (by decide)
  · refine fault_code_ff fun k => ?_
    unfold topFault
    split
    · exact fun _ => rfl
    · rename_i h1
      exact fun h => absurd h h1
theorem occFault_bad {t : TTask} {l : List Occ} {k : Nat} (h : ¬ (0 ≤ (gt l k).op ∧ (gt l k).op < t.ops.length ∧ 0 ≤ (gt l k).start ∧ (gt l k).start ≤ 1000000)) : occFault t l k = ⟨3, -6 - k⟩ := by rw [occFault, if_neg h]
theorem occFault_good {t : TTask} {l : List Occ} {k : Nat} (h : 0 ≤ (gt l k).op ∧ (gt l k).op < t.ops.length ∧ 0 ≤ (gt l k).start ∧ (gt l k).start ≤ 1000000) : occFault t l k = ⟨0, 0⟩ := by rw [occFault, if_pos h]
theorem scheduleFault_bad {t : TTask} {l : List Occ} {k : Nat} (h0 : sp_tvalidate t = ⟨0, 0⟩) (h1 : l.length ≤ 12) (hk : k < l.length) (hz : ∀ j, j < k → occFault t l j = ⟨0, 0⟩) (h : ¬ (0 ≤ (gt l k).op ∧ (gt l k).op < t.ops.length ∧ 0 ≤ (gt l k).start ∧ (gt l k).start ≤ 1000000)) : sp_scheduleFault t l = ⟨3, -6 - k⟩ := by
  rw [sp_scheduleFault, if_pos h0, if_neg (by omega), ffirst_hit hk hz (by rw [occFault_bad h]; exact fault_mk (by decide)), occFault_bad h]
theorem ok_scheduleFault : ∀ (t : TTask) (l : List Occ), F_scheduleFault t l (fun r => r = sp_scheduleFault t l) := fun t l => by
  unfold F_scheduleFault
  simp only [forall_eq, fault_ne, fault_eq, decide_eq_true_eq, decide_eq_false_iff_not]
  refine ⟨fun h => by rw [sp_scheduleFault, if_neg h], fun h0 => ⟨fun h => by rw [sp_scheduleFault, if_pos h0, if_pos (by omega)], fun h1 => ?_⟩⟩
  refine ⟨fun i => ∃ k : Nat, i = k ∧ k ≤ l.length ∧ ∀ j, j < k → occFault t l j = ⟨0, 0⟩, fun i => (l.length - i).toNat, ⟨0, rfl, by omega, fun j hj => by omega⟩, ?_⟩
  rintro _ ⟨k, rfl, k1, k2⟩
  have bad : ∀ I μ, (k : Int) < l.length → ¬ (0 ≤ (gt l k).op ∧ (gt l k).op < t.ops.length ∧ 0 ≤ (gt l k).start ∧ (gt l k).start ≤ 1000000) → F_scheduleFault_J1 (fun r => r = sp_scheduleFault t l) true (k : Int) I μ := fun I μ h q => by
    unfold F_scheduleFault_J1
    refine ⟨fun _ => ?_, fun g => absurd g (by decide)⟩
    rw [scheduleFault_bad h0 (by omega) (by omega) k2 q, w64 (by omega)]
  unfold F_scheduleFault_L1
  simp only [decide_eq_true_eq, decide_eq_false_iff_not]
  refine ⟨fun h => ⟨⟨by omega, h⟩, fun q => bad _ _ h (by omega), fun q1 => ⟨fun q => bad _ _ h (by omega), fun q2 => ⟨fun q => bad _ _ h (by omega), fun q3 => ?_⟩⟩⟩, fun h => ?_⟩
  · by_cases q : 1000000 < (gt l k).start
    · rw [decide_eq_true q]; exact bad _ _ h (by omega)
    · rw [decide_eq_false q]
      unfold F_scheduleFault_J1
      refine ⟨fun g => absurd g (by decide), fun _ => ?_⟩
      rw [w64 (n := (k : Int) + 1) (by omega)]
      exact ⟨⟨k + 1, by omega, by omega, zero_next k2 (occFault_good (by omega))⟩, by dsimp only; omega⟩
  · rw [sp_scheduleFault, if_pos h0, if_neg (by omega), ffirst_none fun j hj => k2 j (by omega)]
theorem ok_occurFault : ∀ (t : TTask) (l : List Occ), F_occurFault t l (fun r => r = sp_scheduleFault t l) := fun t l => by
  unfold F_occurFault
  simp only [forall_eq, bne_iff_ne, ne_eq, bne_eq_false_iff_eq, decide_eq_true_eq, decide_eq_false_iff_not, sp_at_]
  refine ⟨fun h => by rw [sp_scheduleFault, if_neg fun g => h (by rw [g])], fun hc => ?_⟩
  have h0 := tvalidate_code hc
  have hlen := (ttaskOK_of h0).len
  refine ⟨fun h => by rw [sp_scheduleFault, if_pos h0, if_pos (by omega)], fun h1 => ?_⟩
  refine ⟨fun i => ∃ k : Nat, i = k ∧ k ≤ l.length ∧ ∀ j, j < k → occFault t l j = ⟨0, 0⟩, fun i => (l.length - i).toNat, ⟨0, rfl, by omega, fun j hj => by omega⟩, ?_⟩
  rintro _ ⟨k, rfl, k1, k2⟩
  have bad : ∀ I μ, (k : Int) < l.length → ¬ (0 ≤ (gt l k).op ∧ (gt l k).op < t.ops.length ∧ 0 ≤ (gt l k).start ∧ (gt l k).start ≤ 1000000) → F_occurFault_J1 (fun r => r = sp_scheduleFault t l) true (k : Int) I μ := fun I μ h q => by
    unfold F_occurFault_J1
    refine ⟨fun _ r hr => ?_, fun g => absurd g (by decide)⟩
    rw [hr, scheduleFault_bad h0 (by omega) (by omega) k2 q, sp_at_, w64 (by omega)]
  unfold F_occurFault_L1
  rw [w64 (n := ((t.ops.length : Nat) : Int) - 1) (by omega)]
  simp only [decide_eq_true_eq, decide_eq_false_iff_not, forall_eq, sp_in_, Bool.not_eq_true', Bool.not_eq_false', Bool.and_eq_true, Bool.and_eq_false_iff]
  refine ⟨fun h => ⟨⟨by omega, h⟩, fun q => bad _ _ h (by omega), fun q1 => ?_⟩, fun h => ?_⟩
  · by_cases q : 0 ≤ (gt l k).start ∧ (gt l k).start ≤ 1000000
    · rw [decide_eq_true q.1, decide_eq_true q.2]
      unfold F_occurFault_J1
      refine ⟨fun g => absurd g (by decide), fun _ => ?_⟩
      rw [w64 (n := (k : Int) + 1) (by omega)]
      exact ⟨⟨k + 1, by omega, by omega, zero_next k2 (occFault_good (by omega))⟩, by dsimp only; omega⟩
    · have e : (!(decide (0 ≤ (gt l k).start) && decide ((gt l k).start ≤ 1000000))) = true := by
        simp only [Bool.not_eq_true', Bool.and_eq_false_iff, decide_eq_false_iff_not]; omega
      rw [e]; exact bad _ _ h (by omega)
  · rw [sp_scheduleFault, if_pos h0, if_neg (by omega), ffirst_none fun j hj => k2 j (by omega)]
theorem scheduleFault_code {t : TTask} {l : List Occ} : (sp_scheduleFault t l).code = 0 → sp_scheduleFault t l = ⟨0, 0⟩ := by
  unfold sp_scheduleFault
  split
  · split
    · exact fun h => absurd h (by decide)
    · refine fault_code_ff fun k => ?_
      unfold occFault
      split
      · exact fun _ => rfl
      · exact fun h => absurd (show (3 : Int) = 0 from h) (by decide)
  · exact tvalidate_code
/-- a schedule without fault -/
structure SchedOK (t : TTask) (l : List Occ) : Prop where
  task : TTaskOK t
  len : l.length ≤ 12
  occ : ∀ k : Nat, k < l.length → inb t.ops (gt l k).op ∧ 0 ≤ (gt l k).start ∧ (gt l k).start ≤ 1000000
theorem schedOK_of {t : TTask} {l : List Occ} (h : sp_scheduleFault t l = ⟨0, 0⟩) : SchedOK t l := by
  unfold sp_scheduleFault at h
  split at h
  · rename_i h0
    split at h
    · exact absurd h (fault_mk (by decide))
    · rename_i h1
      refine ⟨ttaskOK_of h0, by omega, fun k hk => ?_⟩
      have := ffirst_zero h k hk
      unfold occFault at this
      split at this
      · rename_i g; exact ⟨⟨g.1, g.2.1⟩, g.2.2⟩
      · exact absurd this (fault_mk (by decide))
  · rename_i h0; exact absurd h h0
end Go.Proofs.Ytaenggfmpagjgaa.Pl
