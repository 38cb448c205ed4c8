/- The laws on schedules, joined. Plain Lean. No condition. -/
import Derived.Test.YtkcamohhjaibaaaOk8
namespace Go.Proofs.Ytkcamohhjaibaaa.Pl
open Go Go.RowKit
theorem Tight.low {n : Network} {D : Nat → Nat → Int} (v : Valid n) (t : Tight n.events.toNat (Wd n) D) {x y : Nat} (hx : x < n.events.toNat) (hy : y < n.events.toNat) : -30000 ≤ D x y := by
  have hev := v.ev
  rcases Int.lt_or_eq_of_le (t.le x y hx hy) with q | q
  · obtain ⟨r, w, hw⟩ := t.re x y hx hy q
    have := w.ge t.notNeg (fun p q => (dirL_bounds v.okay.low v.okay.high p q).1)
    omega
  · rw [q]; simp only [inf]; omega
theorem Sched.le {n : Network} {ts : List Int} {D : Nat → Nat → Int} (s : Sched n ts) (t : Tight n.events.toNat (Wd n) D) {a b : Nat} (ha : a < n.events.toNat) (hb : b < n.events.toNat) : gt ts (b : Int) - gt ts (a : Int) ≤ D a b := by
  rcases Int.lt_or_eq_of_le (t.le a b ha hb) with q | q
  · exact t.feasible s.feasible ha hb q
  · have mem : ∀ a : Nat, a < n.events.toNat → gt ts (a : Int) ∈ ts := fun a ha => gt_mem ⟨by omega, by rw [s.len]; have := s.valid.ev; omega⟩
    have ra := s.rng _ (mem a ha)
    have rb := s.rng _ (mem b hb)
    rw [q]; simp only [inf]; omega
end Go.Proofs.Ytkcamohhjaibaaa.Pl
