/- The law on the triangle. Plain Lean. No condition. -/
import Derived.Test.YtkcamohhjaibaaaOk5
namespace Go.Proofs.Ytkcamohhjaibaaa.Pl
open Go Go.RowKit
/-- a Tight from sums of single bounds -/
theorem tight_of {N : Nat} {W D : Nat → Nat → Int} (hw : ∀ i j, i < N → j < N → D i j ≤ W i j) (hs : ∀ i j, i < N → j < N → D i j < inf → W i j = D i j) (hf : ∀ i j, i < N → j < N → D i j ≤ 1000000)
    (hd : ∀ i, i < N → D i i ≤ 0) (ht : ∀ i j k, i < N → j < N → k < N → D i k ≤ D i j + D j k) : Tight N W D := by
  refine ⟨fun i j hi hj => by have := hf i j hi hj; simp only [inf]; omega, fun i j r w => ?_, fun i j hi hj h => ⟨[j], .cons hi (by rw [hs i j hi hj h]; exact h) (.nil hj), by simp [wt, hs i j hi hj h]⟩⟩
  induction r generalizing i with
  | nil =>
    have := w.unnil; subst this
    simpa [wt] using hd i w.start
  | cons b r ih =>
    obtain ⟨h1, h2, h3⟩ := w.uncons
    have := ih b h3
    have := hw i b h1 h3.start
    have := ht i b j h1 h3.start h3.stop
    simp only [wt]; omega
def pairD (a b : Nat) : Int := if a = b then 0 else if a = 0 then 5 else -2
theorem pair_minimal : sp_minimal (sp_pair 2 5) = ([[0, 5], [-2, 0]], true, ⟨0, 0⟩) := by
  have hv : sp_validate (sp_pair 2 5) = ⟨0, 0⟩ := by decide
  have t : Tight 2 (Wd (sp_pair 2 5)) pairD := by
    have two : ∀ a, a < 2 → a = 0 ∨ a = 1 := fun a h => by omega
    refine tight_of (fun i j hi hj => ?_) (fun i j hi hj _ => ?_) (fun i j hi hj => ?_) (fun i hi => ?_) (fun i j k hi hj hk => ?_)
    · rcases two i hi with rfl | rfl <;> rcases two j hj with rfl | rfl <;> decide
    · rcases two i hi with rfl | rfl <;> rcases two j hj with rfl | rfl <;> decide
    · rcases two i hi with rfl | rfl <;> rcases two j hj with rfl | rfl <;> decide
    · rcases two i hi with rfl | rfl <;> decide
    · rcases two i hi with rfl | rfl <;> rcases two j hj with rfl | rfl <;> rcases two k hk with rfl | rfl <;> decide
  have e : sp_tighten (sp_pair 2 5) = (mat 2 pairD, true) := (tighten_is (n := sp_pair 2 5) (.inl ⟨pairD, t, rfl⟩)).symm
  rw [sp_minimal, if_pos hv, e]
  rfl
/-- what a good answer of Minimal is -/
structure Good (n : Network) (D : Nat → Nat → Int) : Prop where
  valid : Valid n
  tight : Tight n.events.toNat (Wd n) D
theorem minimal_ok {n : Network} (h : (sp_minimal n).2.2.code = 0) (h2 : (sp_minimal n).2.1 = true) : ∃ D, Good n D ∧ (sp_minimal n).1 = mat n.events.toNat D := by
  obtain ⟨hv, he⟩ := minimal_good h
  have v := valid_of hv
  rw [he] at h2 ⊢
  rcases tighten_rel v.okay with ⟨D, t, e⟩ | ⟨_, e⟩
  · exact ⟨D, ⟨v, t⟩, by rw [e]⟩
  · rw [e] at h2; cases h2
end Go.Proofs.Ytkcamohhjaibaaa.Pl
