/- The law UncertainStrongImpliesWeak (times that suit all choices of durations suit each of them): for every input the call returns true, and each argument reads afterwards as it read before. No condition. -/
import Derived.Test.YtkcamohhjaibaaaW4
import Derived.Test.YtkcamohhjaibaaaRd
import Derived.ChangeOld
import Derived.SizedLaws
namespace Go.Proofs.Ytkcamohhjaibaaa.uncertainStrongImpliesWeak
open Go.ChangeShapes Go.WideShapes Go.ChangeAt Go.RowKit Go.Joins Pl
theorem own : ownKnob Try.prog.godebug = none := by kernel_rfl
theorem laidOut : laidOutB Try.prog = true := by kernel_rfl
set_option maxRecDepth 100000 in
theorem lifted (os : Os) (started : os.Started) (H : Type) (enc : TypeId × Value → H) :
    ReturnsInHanded {} Try.checked os 4 .any (Rows.uncertainStrongImpliesWeakSpec.pre6 enc Try.prog Try.f4 Rows.uncertainStrongImpliesWeakRow.domain false) (Rows.uncertainStrongImpliesWeakSpec.post enc Try.prog Try.f4 false true false false) := by
  refine returnsInHanded_of_change_sized (C := Try.checked) own started (by kernel_rfl) Try.func4
    (ChangeSpec.witness6 (enc := enc) (C := Try.checked) false ⟨#[], #[.agg #[.int .i64 0, .slice none 0 0, .slice none 0 0]], []⟩ 8 (by kernel_rfl) (by kernel_rfl) (by kernel_rfl) (by kernel_rfl)) ?_
  intro W base args ds gs before hval0 hW hcnd hz _
  have hval : ∀ (j : Nat) t v, Try.f4.params[j]? = some t → args[j]? = some v → Value.okWide Try.prog W .any base t v := hval0
  have hW' := hW
  obtain ⟨p, q, hA0, hV, rfl, hfz, hnd⟩ := hW
  have hA : DataW.TrodAll enc Try.prog W 0 (fun _ => true) true Try.f4.params.toList args.toList ds p := hA0
  have kA := hA
  rw [Try.params4] at hA hval
  obtain ⟨v0, vs0, d0, ds0, p0, q0, hargs, rfl, rfl, h0, r0⟩ := trodAll_cons hA
  obtain ⟨rfl, rfl, rfl⟩ := trodAll_nil r0
  obtain rfl : args = #[v0] := by cases args; simp_all
  obtain ⟨rfl, rfl⟩ := trodVars_none hV
  obtain ⟨x0, cs0, rfl, y0, _⟩ := open_aggR Try.underlying26 reads_26 (hval 0 26 v0 rfl rfl) h0
  obtain ⟨a0_0, c0_0, a0_1, c0_1, rfl, ⟨l0_0, b0_0⟩, l0_1, b0_1⟩ := y0
  have hlt := fun x hx => hW'.lt x hx
  refine (c_lawStrongImpliesWeak (hold_sub W) x0 a0_0 c0_0 b0_0 l0_0 a0_1 c0_1 b0_1 l0_1).mono fun e W' ⟨he, bel⟩ => ?_
  subst he
  exact ⟨_, rfl, _, _, _, [], _, [], hW', trodAll_mk1 (shut_bool Try.underlying4 _), all_stays laidOut bel.toK _ _ _ _ (by kernel_rfl) kA (fun x hx => hlt x (by simpa using hx)) (fun x hx => by simpa using hlt x (by simpa using hx)), rfl, bel.toK.frame _, fun h => by cases h⟩
theorem over : Rows.uncertainStrongImpliesWeakRow.holds Try.pinned (OpenSpec.ofChange Rows.uncertainStrongImpliesWeakSpec) :=
  OpenClaim.holds_of_wide 4 Try.f4 rfl rfl rfl rfl rfl rfl rfl ⟨rfl, rfl, rfl, rfl, rfl⟩ rfl rfl rfl rfl rfl (by kernel_rfl) Try.func4 (by kernel_rfl)
    (of_decide_eq_true (by kernel_rfl)) (by unfold Func.isWrapper; first | (rw [if_pos (by decide +kernel)]; kernel_rfl) | (rw [if_neg (by decide +kernel)]; exact ⟨rfl, rfl⟩))
    (fun os started H enc _ => lifted os started H enc)
theorem proved : Rows.UncertainStrongImpliesWeakSaid := over
end Go.Proofs.Ytkcamohhjaibaaa.uncertainStrongImpliesWeak
