/- The laws on more links and on the reference, in plain Lean. No condition. -/
import Derived.Test.YtkcamohhjaibaaaOk11
namespace Go.Proofs.Ytkcamohhjaibaaa.Pl
open Go Go.RowKit
theorem Way.sub {N : Nat} {W V : Nat → Nat → Int} (h : ∀ a b, V a b ≤ W a b) {i j : Nat} {r : List Nat} (w : Way N W i j r) : Way N V i j r ∧ wt V (i :: r) ≤ wt W (i :: r) := by
  induction r generalizing i with
  | nil =>
    have := w.unnil; subst this
    exact ⟨.nil w.start, by simp [wt]⟩
  | cons b r ih =>
    obtain ⟨h1, h2, h3⟩ := w.uncons
    obtain ⟨g1, g2⟩ := ih h3
    have := h i b
    exact ⟨.cons h1 (by omega) g1, by simp only [wt]; omega⟩
/-- what is known of a valid network -/
theorem validate_ne {n : Network} (h : sp_validate n ≠ ⟨0, 0⟩) : (sp_validate n).code ≠ 0 := fun e => h (validate_code e)
theorem beq_fault (c i : Int) (f : Fault) : ((f.code == c) && (f.index == i)) = decide (f = ⟨c, i⟩) := by
  obtain ⟨c', i'⟩ := f
  rw [Bool.eq_iff_iff]; simp
theorem earliest_at {n : Network} {D : Nat → Nat → Int} (e : sp_minimal n = (mat n.events.toNat D, true, ⟨0, 0⟩)) (hN : 0 < n.events.toNat) : sp_earliest n = ((sp_minimal n).1.map (fun r => -(gt r 0)), true, ⟨0, 0⟩) ∧ (sp_earliest n).1.length = n.events.toNat ∧ ∀ a : Nat, a < n.events.toNat → gt (sp_earliest n).1 (a : Int) = -(D a 0) := by
  have g2 : (sp_minimal n).2.1 = true := by rw [e]
  have hs : sp_earliest n = ((sp_minimal n).1.map (fun r => -(gt r 0)), true, ⟨0, 0⟩) := by rw [sp_earliest, if_pos g2, e]
  have sq : Sq n.events.toNat (sp_minimal n).1 := by rw [e]; exact mat_sq _ _
  refine ⟨hs, by rw [hs]; simp [sq.len], fun a ha => ?_⟩
  have h0 := sq.inb (a := a) (by omega)
  have : gt (gt (sp_minimal n).1 (a : Int)) (0 : Int) = D a 0 := by
    have := sq.gt a 0
    rw [e, mat_at (by omega) (by omega)] at this
    rw [← e] at this
    exact this
  rw [hs, ← this]
  have hlt := inb_lt h0
  simp only [gt, Int.toNat_natCast] at hlt ⊢
  rw [List.getD_eq_getElem?_getD, List.getElem?_map, List.getElem?_eq_getElem hlt, List.getD_eq_getElem?_getD (l := (sp_minimal n).1), List.getElem?_eq_getElem hlt]
  rfl
end Go.Proofs.Ytkcamohhjaibaaa.Pl
