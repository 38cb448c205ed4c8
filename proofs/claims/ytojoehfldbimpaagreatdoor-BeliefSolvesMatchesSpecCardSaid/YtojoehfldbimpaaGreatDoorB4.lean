/- Performing plans, fact by fact; whether all orders work. Plain Lean. No condition. -/
import Derived.Test.YtojoehfldbimpaaGreatDoorB3
namespace Go.Proofs.YtojoehfldbimpaaGreatDoor.Pl
open Go Go.RowKit
theorem mem_allS {n : Nat} {x : Int} : x ∈ allS n ↔ 0 ≤ x ∧ x < n := by
  unfold allS
  simp only [List.mem_map, List.mem_range]
  constructor
  · rintro ⟨j, hj, rfl⟩; omega
  · intro h; exact ⟨x.toNat, by omega, by omega⟩
theorem allS_len (n : Nat) : (allS n).length = n := by simp [allS]
theorem filter1_pos {p : Int → Bool} {k : Int} (h : p k = true) : [k].filter p = [k] := by rw [List.filter_cons, if_pos h]; rfl
theorem filter1_neg {p : Int → Bool} {k : Int} (h : p k = false) : [k].filter p = [] := by rw [List.filter_cons, if_neg (by rw [h]; decide)]; rfl
theorem subset_iff {a b : List Int} : sp_subset a b = true ↔ ∀ x ∈ a, x ∈ b := by
  simp only [sp_subset, List.all_eq_true, decide_eq_true_eq]
theorem ok_subset : ∀ (part : List Int) (l : List Int), pre_subset part l → F_subset part l (fun r => r = sp_subset part l) := fun a b ⟨h1, h2⟩ => by
  refine ⟨fun t => ∃ k : Nat, t = k ∧ k ≤ a.length ∧ ∀ x ∈ a.take k, x ∈ b, fun t => (a.length - t).toNat, ⟨0, rfl, Nat.zero_le _, by simp⟩, ?_⟩
  rintro _ ⟨k, rfl, k1, k2⟩
  unfold F_subset_L1
  simp only [decide_eq_true_eq, decide_eq_false_iff_not, forall_eq, sp_has, Bool.not_eq_true', Bool.not_eq_false']
  refine ⟨fun h => ⟨⟨by omega, h⟩, h2, fun q => ?_, fun q => ?_⟩, fun h => ?_⟩
  · cases e : sp_subset a b
    · rfl
    · exact absurd (subset_iff.1 e _ (gt_memN (i := k) (by omega))) q
  · rw [w64 (by omega)]
    refine ⟨⟨k + 1, by omega, by omega, fun x hx => ?_⟩, by omega⟩
    rw [takeN_gt (by omega)] at hx
    rcases List.mem_append.1 hx with hx | hx
    · exact k2 x hx
    · rw [List.mem_singleton.1 hx]; exact q
  · rw [List.take_of_length_le (by omega)] at k2
    exact (subset_iff.2 k2).symm
/-- an operator of a task without fault -/
theorem TaskOK.op {t : Task} (h : TaskOK t) {i : Int} (hi : inb t.ops i) : sp_isSet (gt t.ops i).pre t.facts = true ∧ sp_isSet (gt t.ops i).add t.facts = true ∧ sp_isSet (gt t.ops i).del t.facts = true ∧ sp_meets (gt t.ops i).add (gt t.ops i).del = false := by
  have h1 := h.ops i.toNat (by have := hi.2; have := hi.1; omega)
  rw [Int.toNat_of_nonneg hi.1] at h1
  unfold sp_operator at h1
  split at h1
  · assumption
  · exact absurd h1 (by decide)
theorem TaskOK.lens {t : Task} (h : TaskOK t) {i : Int} (hi : inb t.ops i) : (gt t.ops i).pre.length ≤ 24 ∧ (gt t.ops i).add.length ≤ 24 ∧ (gt t.ops i).del.length ≤ 24 := by
  obtain ⟨h1, h2, h3, _⟩ := h.op hi
  have hf := h.facts
  have := set_len hf.1 h1
  have := set_len hf.1 h2
  have := set_len hf.1 h3
  omega
theorem ok_applies : ∀ (t : Task) (s_ : List Int) (op : Int), pre_applies t s_ op → F_applies t s_ op (fun r => r = sp_applies t s_ op) := fun t s op ⟨h1, h2, h3⟩ => by
  have := (taskOK_of h1).lens h2
  refine ⟨h2, ⟨by omega, h3⟩, fun r hr => ?_⟩
  rw [hr]; rfl
theorem allS_succ (n : Nat) : allS (n + 1) = allS n ++ [(n : Int)] := by
  unfold allS
  rw [List.range_succ, List.map_append]; rfl
theorem mem_after {t : Task} (hf : 0 ≤ t.facts) {s : List Int} {op f : Int} : f ∈ sp_after t s op ↔ (0 ≤ f ∧ f < t.facts) ∧ (f ∈ (gt t.ops op).add ∨ (f ∈ s ∧ f ∉ (gt t.ops op).del)) := by
  rw [sp_after, List.mem_filter, mem_allS, decide_eq_true_eq, Int.toNat_of_nonneg hf]
theorem after_len {t : Task} {s : List Int} {op : Int} : (sp_after t s op).length ≤ t.facts.toNat := by
  have := List.length_filter_le (fun p => decide (p ∈ (gt t.ops op).add ∨ (p ∈ s ∧ p ∉ (gt t.ops op).del))) (allS t.facts.toNat)
  rwa [allS_len] at this
theorem ok_after : ∀ (t : Task) (s_ : List Int) (op : Int), pre_after t s_ op → F_after t s_ op (fun r => r = sp_after t s_ op) := fun t s op ⟨h1, h2, h3⟩ => by
  have tk := taskOK_of h1
  have hl := tk.lens h2
  have hf := tk.facts
  refine ⟨fun p out => ∃ k : Nat, p = k ∧ k ≤ t.facts.toNat ∧ out = (allS k).filter (fun p => decide (p ∈ (gt t.ops op).add ∨ (p ∈ s ∧ p ∉ (gt t.ops op).del))), fun p _ => (t.facts - p).toNat, ⟨0, rfl, Nat.zero_le _, rfl⟩, ?_⟩
  rintro _ out ⟨k, rfl, k1, k2⟩
  unfold F_after_L1 F_after_J2 F_after_J1
  have hlen : out.length ≤ k := by
    rw [k2]
    have := List.length_filter_le (fun p => decide (p ∈ (gt t.ops op).add ∨ (p ∈ s ∧ p ∉ (gt t.ops op).del))) (allS k)
    rwa [allS_len] at this
  rw [w64 (n := (k : Int) + 1) (by omega)]
  simp only [decide_eq_true_eq, decide_eq_false_iff_not, forall_eq, sp_has, Bool.not_eq_true', Bool.not_eq_false', List.length_append, List.length_singleton]
  refine ⟨fun h => ?_, fun h => ?_⟩
  · have yes : ((k : Int) ∈ (gt t.ops op).add ∨ ((k : Int) ∈ s ∧ (k : Int) ∉ (gt t.ops op).del)) → room (out.length + 1) 8 ∧ (∃ k' : Nat, (k : Int) + 1 = k' ∧ k' ≤ t.facts.toNat ∧ out ++ [(k : Int)] = (allS k').filter (fun p => decide (p ∈ (gt t.ops op).add ∨ (p ∈ s ∧ p ∉ (gt t.ops op).del)))) ∧ (t.facts - ((k : Int) + 1)).toNat < (t.facts - (k : Int)).toNat := fun q => by
      refine ⟨⟨by simp only [maxLen]; omega, by omega⟩, ⟨k + 1, by omega, by omega, ?_⟩, by omega⟩
      rw [allS_succ, List.filter_append, ← k2, filter1_pos (p := fun p => decide (p ∈ (gt t.ops op).add ∨ (p ∈ s ∧ p ∉ (gt t.ops op).del))) (decide_eq_true q)]
    have no : ¬ ((k : Int) ∈ (gt t.ops op).add ∨ ((k : Int) ∈ s ∧ (k : Int) ∉ (gt t.ops op).del)) → (∃ k' : Nat, (k : Int) + 1 = k' ∧ k' ≤ t.facts.toNat ∧ out = (allS k').filter (fun p => decide (p ∈ (gt t.ops op).add ∨ (p ∈ s ∧ p ∉ (gt t.ops op).del)))) ∧ (t.facts - ((k : Int) + 1)).toNat < (t.facts - (k : Int)).toNat := fun q => by
      refine ⟨⟨k + 1, by omega, by omega, ?_⟩, by omega⟩
      rw [allS_succ, List.filter_append, ← k2, filter1_neg (p := fun p => decide (p ∈ (gt t.ops op).add ∨ (p ∈ s ∧ p ∉ (gt t.ops op).del))) (decide_eq_false q), List.append_nil]
    refine ⟨h2, show _ ≤ _ by omega, fun q => ⟨fun _ => yes (.inl q), fun g => absurd g (by decide)⟩, fun q => ⟨h3, fun q2 => ⟨show _ ≤ _ by omega, fun q3 => yes (.inr ⟨q2, q3⟩), fun q3 => no ?_⟩, fun q2 => ⟨fun g => absurd g (by decide), fun _ => no ?_⟩⟩⟩
    · exact fun g => g.elim q fun g => g.2 q3
    · exact fun g => g.elim q fun g => q2 g.1
  · have e : k = t.facts.toNat := by omega
    rw [k2, e]; rfl
theorem ok_ends : ∀ (t : Task) (s_ : List Int) (plan : List Int), pre_ends t s_ plan → F_ends t s_ plan (fun r => r = sp_ends t s_ plan) := fun t s plan ⟨h1, h2, h3, h4⟩ => by
  have tk := taskOK_of h1
  refine ⟨fun s2 i => ∃ k : Nat, i = k ∧ k ≤ plan.length ∧ s2.length ≤ 1000 ∧ sp_ends t s plan = sp_ends t s2 (plan.drop k), fun _ i => (plan.length - i).toNat, ⟨0, rfl, Nat.zero_le _, h2, by simp⟩, ?_⟩
  rintro s2 _ ⟨k, rfl, k1, k2, k3⟩
  unfold F_ends_L1
  simp only [decide_eq_true_eq, decide_eq_false_iff_not, forall_eq, Bool.not_eq_true', Bool.not_eq_false']
  refine ⟨fun h => ?_, fun h => ?_⟩
  · have hk : k < plan.length := by omega
    have hop := h4 _ (gt_memN hk)
    have hd := drop_gt (xs := plan) (i := (k : Int)) ⟨by omega, h⟩
    rw [Int.toNat_natCast, show ((k : Int) + 1).toNat = k + 1 by omega] at hd
    rw [hd, sp_ends] at k3
    refine ⟨⟨by omega, h⟩, ⟨h1, hop, k2⟩, fun q => ?_, fun q => ⟨⟨h1, hop, k2⟩, ?_⟩⟩
    · rw [k3, if_neg (by rw [q]; decide)]
    · rw [if_pos q] at k3
      rw [w64 (by omega)]
      have := after_len (t := t) (s := s2) (op := gt plan (k : Int))
      have := tk.facts
      exact ⟨⟨k + 1, by omega, by omega, by omega, k3⟩, by omega⟩
  · rw [List.drop_of_length_le (by omega), sp_ends] at k3
    exact k3.symm
theorem ends_len {t : Task} (hf : t.facts ≤ 24) : ∀ (plan s : List Int), s.length ≤ 1000 → (sp_ends t s plan).1.length ≤ 1000
  | [], s, h => h
  | op :: r, s, h => by
    rw [sp_ends]
    split
    · refine ends_len hf r _ ?_
      have := after_len (t := t) (s := s) (op := op)
      omega
    · exact Nat.zero_le _
theorem ok_rworks : ∀ (t : Task) (s_ : List Int) (plan : List Int), pre_rworks t s_ plan → F_rworks t s_ plan (fun r => r = sp_rworks t s_ plan) := fun t s plan hp => by
  have tk := taskOK_of hp.1
  have hg := set_len tk.facts.1 tk.goal
  have hf := tk.facts
  have hl := ends_len hf.2 plan s hp.2.1
  refine ⟨hp, fun r hr => ?_⟩
  rw [hr]
  refine ⟨fun h => ⟨⟨by omega, hl⟩, fun r hr => ?_⟩, fun h => ?_⟩
  · rw [hr, sp_rworks, h, Bool.true_and]
  · rw [sp_rworks, h, Bool.false_and]
theorem steps_ok {n : Int} {p : List Int} (h : sp_steps n p = ⟨0, 0⟩) : p.length ≤ 60 ∧ ∀ x ∈ p, 0 ≤ x ∧ x < n := by
  unfold sp_steps at h
  split at h
  · exact absurd h (fault_mk (by decide))
  · split at h
    · rename_i h1 h2
      exact ⟨by omega, fun x hx => of_decide_eq_true (List.all_eq_true.1 h2 x hx)⟩
    · exact absurd h (fault_mk (by decide))
end Go.Proofs.YtojoehfldbimpaaGreatDoor.Pl

