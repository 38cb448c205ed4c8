/- Performing plans, fact by fact; whether all orders work. Plain Lean. No condition. -/
import Derived.Test.YtojoehfldbimpaaDoorB3
namespace Go.Proofs.YtojoehfldbimpaaDoor.Pl
open Go Go.RowKit
theorem mem_allS {n : Nat} {x : Int} : x ∈ allS n ↔ 0 ≤ x ∧ x < n := by
  unfold allS
  simp only [List.mem_map, List.mem_range]
  constructor
  · rintro ⟨j, hj, rfl⟩; omega
  · intro h; exact ⟨x.toNat, by omega, by omega⟩
theorem allS_len (n : Nat) : (allS n).length = n := by simp [allS]
theorem filter1_pos {p : Int → Bool} {k : Int} (h : p k = true) : [k].filter p = [k] := by rw [List.filter_cons, if_pos h]; rfl
theorem filter1_neg {p : Int → Bool} {k : Int} (h : p k = false) : [k].filter p = [] := by rw [List.filter_cons, if_neg (by rw [h]; decide)]; rfl
theorem subset_iff {a b : List Int} : sp_subset a b = true ↔ ∀ x ∈ a, x ∈ b := by
  simp only [sp_subset, List.all_eq_true, decide_eq_true_eq]
/-- an operator of a task without fault -/
theorem TaskOK.op {t : Task} (h : TaskOK t) {i : Int} (hi : inb t.ops i) : sp_isSet (gt t.ops i).pre t.facts = true ∧ sp_isSet (gt t.ops i).add t.facts = true ∧ sp_isSet (gt t.ops i).del t.facts = true ∧ sp_meets (gt t.ops i).add (gt t.ops i).del = false := by
  have h1 := h.ops i.toNat (by have := hi.2; have := hi.1; omega)
  rw [Int.toNat_of_nonneg hi.1] at h1
  unfold sp_operator at h1
  split at h1
  · assumption
  · exact absurd h1 (by decide)
theorem TaskOK.lens {t : Task} (h : TaskOK t) {i : Int} (hi : inb t.ops i) : (gt t.ops i).pre.length ≤ 24 ∧ (gt t.ops i).add.length ≤ 24 ∧ (gt t.ops i).del.length ≤ 24 := by
  obtain ⟨h1, h2, h3, _⟩ := h.op hi
  have hf := h.facts
  have := set_len hf.1 h1
  have := set_len hf.1 h2
  have := set_len hf.1 h3
  omega
theorem allS_succ (n : Nat) : allS (n + 1) = allS n ++ [(n : Int)] := by
  unfold allS
  rw [List.range_succ, List.map_append]; rfl
theorem mem_after {t : Task} (hf : 0 ≤ t.facts) {s : List Int} {op f : Int} : f ∈ sp_after t s op ↔ (0 ≤ f ∧ f < t.facts) ∧ (f ∈ (gt t.ops op).add ∨ (f ∈ s ∧ f ∉ (gt t.ops op).del)) := by
  rw [sp_after, List.mem_filter, mem_allS, decide_eq_true_eq, Int.toNat_of_nonneg hf]
theorem after_len {t : Task} {s : List Int} {op : Int} : (sp_after t s op).length ≤ t.facts.toNat := by
  have := List.length_filter_le (fun p => decide (p ∈ (gt t.ops op).add ∨ (p ∈ s ∧ p ∉ (gt t.ops op).del))) (allS t.facts.toNat)
  rwa [allS_len] at this
theorem ends_len {t : Task} (hf : t.facts ≤ 24) : ∀ (plan s : List Int), s.length ≤ 1000 → (sp_ends t s plan).1.length ≤ 1000
  | [], s, h => h
  | op :: r, s, h => by
    rw [sp_ends]
    split
    · refine ends_len hf r _ ?_
      have := after_len (t := t) (s := s) (op := op)
      omega
    · exact Nat.zero_le _
theorem steps_ok {n : Int} {p : List Int} (h : sp_steps n p = ⟨0, 0⟩) : p.length ≤ 60 ∧ ∀ x ∈ p, 0 ≤ x ∧ x < n := by
  unfold sp_steps at h
  split at h
  · exact absurd h (fault_mk (by decide))
  · split at h
    · rename_i h1 h2
      exact ⟨by omega, fun x hx => of_decide_eq_true (List.all_eq_true.1 h2 x hx)⟩
    · exact absurd h (fault_mk (by decide))
theorem plan_ok {t : Task} {p : List Int} (h : sp_planFault t p = ⟨0, 0⟩) : sp_validate t = ⟨0, 0⟩ ∧ p.length ≤ 60 ∧ ∀ x ∈ p, inb t.ops x := by
  unfold sp_planFault at h
  split at h
  · rename_i h1
    exact ⟨h1, steps_ok h⟩
  · rename_i h1
    exact absurd h h1
end Go.Proofs.YtojoehfldbimpaaDoor.Pl
