/- The laws on schedules: bounds hold, the earliest schedule is least. Plain Lean. No condition. -/
import Derived.Test.YtkcamohhjaibaaaOk7
namespace Go.Proofs.Ytkcamohhjaibaaa.Pl
open Go Go.RowKit
structure Sched (n : Network) (ts : List Int) : Prop where
  valid : Valid n
  len : (ts.length : Int) = n.events
  rng : ∀ t ∈ ts, 0 ≤ t ∧ t ≤ 1000000
  zero : gt ts 0 = 0
  link : ∀ l ∈ n.links, l.low ≤ gt ts l.dst - gt ts l.src ∧ gt ts l.dst - gt ts l.src ≤ l.high
theorem timesFault_code : ∀ (ts : List Int) (i : Int), (timesFault ts i).code = 0 → timesFault ts i = ⟨0, 0⟩
  | [], _, _ => rfl
  | x :: r, i, h => by
    rw [timesFault_cons] at h ⊢
    by_cases c : x < -1000000 ∨ 1000000 < x
    · rw [if_pos c] at h; exact absurd h (by simp)
    · rw [if_neg c] at h ⊢; exact timesFault_code r _ h
theorem respects_good {n : Network} {ts : List Int} (h : (sp_respects n ts).2.code = 0) (h2 : (sp_respects n ts).1 = true) : Sched n ts := by
  unfold sp_respects at h h2
  by_cases c1 : sp_validate n = ⟨0, 0⟩
  · rw [if_pos c1] at h h2
    by_cases c2 : (ts.length : Int) = n.events
    · rw [if_pos c2] at h h2
      by_cases c3 : timesFault ts 0 = ⟨0, 0⟩
      · rw [if_pos c3] at h2
        have hr := timesFault_zero c3
        simp only [sp_fits, Bool.and_eq_true, decide_eq_true_eq, List.all_eq_true, Bool.not_eq_true', List.any_eq_false, sp_fits1] at h2
        obtain ⟨⟨k1, k2⟩, k3⟩ := h2
        exact ⟨valid_of c1, c2, fun t ht => ⟨k2 t ht, (hr t ht).2⟩, k1, fun l hl => by have := k3 l hl; omega⟩
      · rw [if_neg c3] at h
        exact absurd (timesFault_code _ _ h) c3
    · rw [if_neg c2] at h; exact absurd h (by simp)
  · rw [if_neg c1] at h
    exact absurd (validate_code h) c1
theorem Sched.feasible {n : Network} {ts : List Int} (s : Sched n ts) : Feasible n.events.toNat (Wd n) (fun a => gt ts (a : Int)) := fun i j hi hj _ => by
  have mem : ∀ a : Nat, a < n.events.toNat → gt ts (a : Int) ∈ ts := fun a ha => gt_mem ⟨by omega, by rw [s.len]; have := s.valid.ev; omega⟩
  have ri := s.rng _ (mem i hi)
  have rj := s.rng _ (mem j hj)
  have key : ∀ (ls : List Link), (∀ l ∈ ls, l.low ≤ gt ts l.dst - gt ts l.src ∧ gt ts l.dst - gt ts l.src ≤ l.high) → ∀ d : Int, gt ts (j : Int) - gt ts (i : Int) ≤ d → gt ts (j : Int) - gt ts (i : Int) ≤ ls.foldl (dirStep (i : Int) (j : Int)) d := by
    intro ls
    induction ls with
    | nil => intro _ d h; exact h
    | cons l r ih =>
      intro hl d h
      refine ih (fun l hl' => hl l (List.mem_cons_of_mem _ hl')) _ ?_
      have := hl l List.mem_cons_self
      unfold dirStep
      simp only
      have e1 : l.src = (i : Int) → l.dst = (j : Int) → gt ts (j : Int) - gt ts (i : Int) ≤ l.high := fun a b => by rw [a, b] at this; exact this.2
      have e2 : l.src = (j : Int) → l.dst = (i : Int) → gt ts (j : Int) - gt ts (i : Int) ≤ -l.low := fun a b => by rw [a, b] at this; omega
      split
      · rename_i c
        have := e2 c.1 c.2
        split
        · rename_i c'; have := e1 c'.1 c'.2; omega
        · omega
      · split
        · rename_i c'; have := e1 c'.1 c'.2; omega
        · exact h
  refine key n.links s.link _ ?_
  by_cases c : i = j
  · subst c; simp
  · by_cases c0 : j = 0
    · subst c0
      have z : gt ts ((0 : Nat) : Int) = 0 := s.zero
      rw [z]; simp; omega
    · have e : ¬ ((i : Int) = (j : Int) ∨ (j : Int) = 0) := by omega
      rw [if_neg e]; omega
/-- with a schedule the bounds are found -/
theorem Sched.good {n : Network} {ts : List Int} (s : Sched n ts) : (sp_minimal n).2.2.code = 0 ∧ (sp_minimal n).2.1 = true ∧ ∃ D, Good n D ∧ (sp_minimal n).1 = mat n.events.toNat D := by
  have hv : sp_validate n = ⟨0, 0⟩ := by
    have v := s.valid
    have hev := v.ev
    have hlen := v.len
    unfold sp_validate
    rw [if_neg (by omega), if_neg (by omega)]
    have : ∀ (ls : List Link) (i : Int), (∀ l ∈ ls, sp_linkCode l n.events = 0) → linksFault n.events ls i = ⟨0, 0⟩ := by
      intro ls
      induction ls with
      | nil => intro _ _; rfl
      | cons l r ih => intro i h; unfold linksFault; rw [if_pos (h l List.mem_cons_self)]; exact ih _ fun l hl => h l (List.mem_cons_of_mem _ hl)
    exact this _ _ v.links
  have he : sp_minimal n = ((sp_tighten n).1, (sp_tighten n).2, ⟨0, 0⟩) := by rw [sp_minimal, if_pos hv]
  rcases tighten_rel s.valid.okay with ⟨D, t, e⟩ | ⟨hn, _⟩
  · rw [he, e]; exact ⟨rfl, rfl, D, ⟨s.valid, t⟩, rfl⟩
  · exact absurd hn s.feasible.notNeg
end Go.Proofs.Ytkcamohhjaibaaa.Pl
