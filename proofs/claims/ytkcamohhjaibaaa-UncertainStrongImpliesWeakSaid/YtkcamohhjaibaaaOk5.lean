/- The tightest bounds of a network, and the small network that every law looks at. Plain Lean. No condition. -/
import Derived.Test.YtkcamohhjaibaaaOk4
namespace Go.Proofs.Ytkcamohhjaibaaa.Pl
open Go Go.RowKit
theorem linksFault_zero {ev : Int} : ∀ {ls : List Link} {i : Int}, linksFault ev ls i = ⟨0, 0⟩ → ∀ l ∈ ls, sp_linkCode l ev = 0
  | [], _, _, l, hl => by cases hl
  | x :: r, i, h, l, hl => by
    unfold linksFault at h
    by_cases c : sp_linkCode x ev = 0
    · rw [if_pos c] at h
      rcases List.mem_cons.1 hl with rfl | hl
      · exact c
      · exact linksFault_zero h l hl
    · rw [if_neg c] at h
      exact absurd (congrArg Fault.code h) c
theorem linkCode_zero {l : Link} {n : Int} (h : sp_linkCode l n = 0) : (0 ≤ l.src ∧ l.src < n) ∧ (0 ≤ l.dst ∧ l.dst < n) ∧ (-1000 ≤ l.low ∧ l.low ≤ 1000) ∧ (-1000 ≤ l.high ∧ l.high ≤ 1000) ∧ l.src ≠ l.dst ∧ l.low ≤ l.high := by
  unfold sp_linkCode at h
  split at h
  · omega
  · split at h
    · omega
    · split at h
      · omega
      · omega
structure Valid (n : Network) : Prop where
  ev : 1 ≤ n.events ∧ n.events ≤ 10
  len : n.links.length ≤ 30
  links : ∀ l ∈ n.links, sp_linkCode l n.events = 0
theorem valid_of {n : Network} (h : sp_validate n = ⟨0, 0⟩) : Valid n := by
  unfold sp_validate at h
  split at h
  · exact absurd (congrArg Fault.code h) (by decide)
  · split at h
    · exact absurd (congrArg Fault.code h) (by decide)
    · exact ⟨by omega, by omega, linksFault_zero h⟩
theorem fault_code {ev : Int} : ∀ (ls : List Link) (i : Int), (linksFault ev ls i).code = 0 → linksFault ev ls i = ⟨0, 0⟩
  | [], _, _ => rfl
  | x :: r, i, h => by
    unfold linksFault at h ⊢
    by_cases c : sp_linkCode x ev = 0
    · rw [if_pos c] at h ⊢; exact fault_code r _ h
    · rw [if_neg c] at h; exact absurd h c
/-- a fault is none when its code is 0 -/
theorem validate_code {n : Network} (h : (sp_validate n).code = 0) : sp_validate n = ⟨0, 0⟩ := by
  unfold sp_validate at h ⊢
  split at h
  · exact absurd h (by decide)
  · split at h
    · exact absurd h (by decide)
    · rename_i h1 h2
      rw [if_neg h1, if_neg h2]
      exact fault_code _ _ h
theorem Valid.okay {n : Network} (v : Valid n) : Okay n :=
  ⟨v.ev, by have := v.len; omega, fun l hl => (linkCode_zero (v.links l hl)).1, fun l hl => (linkCode_zero (v.links l hl)).2.1, fun l hl => (linkCode_zero (v.links l hl)).2.2.2.2.1,
    fun l hl => by have := (linkCode_zero (v.links l hl)).2.2.1; omega, fun l hl => by have := (linkCode_zero (v.links l hl)).2.2.2.1; omega⟩
theorem fault_ne {f : Fault} : (!((f.code == 0) && (f.index == 0))) = true ↔ f ≠ ⟨0, 0⟩ := by
  obtain ⟨c, i⟩ := f
  simp only [Bool.not_eq_true', Bool.and_eq_false_iff, beq_eq_false_iff_ne, ne_eq, Fault.mk.injEq]
  omega
theorem fault_eq {f : Fault} : (!((f.code == 0) && (f.index == 0))) = false ↔ f = ⟨0, 0⟩ := by
  obtain ⟨c, i⟩ := f
  simp
/-- what Minimal says of a network without fault -/
theorem minimal_good {n : Network} (h : (sp_minimal n).2.2.code = 0) : sp_validate n = ⟨0, 0⟩ ∧ sp_minimal n = ((sp_tighten n).1, (sp_tighten n).2, ⟨0, 0⟩) := by
  by_cases c : sp_validate n = ⟨0, 0⟩
  · exact ⟨c, by rw [sp_minimal, if_pos c]⟩
  · rw [sp_minimal, if_neg c] at h
    exact absurd (validate_code h) c
/-- there are always tightest bounds, or a closed walk of negative weight -/
theorem tighten_rel {n : Network} (ok : Okay n) : TightRel n (sp_tighten n) := by
  have hx : ∃ r, TightRel n r := by
    by_cases hn : Neg n.events.toNat (Wd n)
    · exact ⟨_, .inr ⟨hn, rfl⟩⟩
    · have := ok.ev
      obtain ⟨D, t⟩ := exists_tight ok.ph (fun a b => (dirL_bounds ok.low ok.high a b).1) (by omega) hn
      exact ⟨_, .inl ⟨D, t, rfl⟩⟩
  unfold sp_tighten
  rw [dif_pos hx]
  exact Classical.choose_spec hx
end Go.Proofs.Ytkcamohhjaibaaa.Pl
