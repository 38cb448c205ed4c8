/- Schedules: what Fits, Respects and Earliest ask and give. Plain Lean. No condition. -/
import Derived.Test.YtkcamohhjaibaaaOk6
namespace Go.Proofs.Ytkcamohhjaibaaa.Pl
open Go Go.RowKit
def TimesInv (ts : List Int) (t : Int) : Prop := 0 ≤ t ∧ t ≤ ts.length ∧ timesFault ts 0 = timesFault (ts.drop t.toNat) t
theorem timesFault_cons (x : Int) (r : List Int) (i : Int) : timesFault (x :: r) i = if x < -1000000 ∨ 1000000 < x then ⟨3, -3 - i⟩ else timesFault r (i + 1) := rfl
theorem timesFault_zero : ∀ {ts : List Int} {i : Int}, timesFault ts i = ⟨0, 0⟩ → ∀ t ∈ ts, -1000000 ≤ t ∧ t ≤ 1000000
  | [], _, _, t, ht => by cases ht
  | x :: r, i, h, t, ht => by
    rw [timesFault_cons] at h
    by_cases c : x < -1000000 ∨ 1000000 < x
    · rw [if_pos c] at h; exact absurd (congrArg Fault.code h) (by simp)
    · rw [if_neg c] at h
      rcases List.mem_cons.1 ht with rfl | ht
      · omega
      · exact timesFault_zero h t ht
end Go.Proofs.Ytkcamohhjaibaaa.Pl
