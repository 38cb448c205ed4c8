/- The law TopSymmetricStatesAreEstimatedAlike (symmetric states have the same relaxed values, and cuts of both never exceed the cost of plans from either (symmetry, relaxed, lmcut)): for every input the call returns true, and each argument reads afterwards as it read before. No condition. -/
import Derived.Test.YtimillpakjgnoaaGreatM6
import Derived.ChangeOld
import Derived.SizedLaws
namespace Go.Proofs.YtimillpakjgnoaaGreat.topSymmetricStatesAreEstimatedAlike
open Go.ChangeShapes Go.WideShapes Go.ChangeAt Go.RowKit Go.Joins Pl
theorem own : ownKnob Tryz.prog.godebug = none := by kernel_rfl
theorem laidOut : laidOutB Tryz.prog = true := by kernel_rfl
set_option maxRecDepth 100000 in
theorem lifted (os : Os) (started : os.Started) (H : Type) (enc : TypeId × Value → H) :
  ReturnsInHanded {} Tryz.checked os 4 .any (Rows.topSymmetricStatesAreEstimatedAlikeSpec.pre6 enc Tryz.prog Tryz.f4 Rows.topSymmetricStatesAreEstimatedAlikeRow.domain false) (Rows.topSymmetricStatesAreEstimatedAlikeSpec.post enc Tryz.prog Tryz.f4 false true false false) := by
 refine returnsInHanded_of_change_sized (C := Tryz.checked) own started (by kernel_rfl) Tryz.func4
  (ChangeSpec.witness6 (enc := enc) (C := Tryz.checked) false ⟨#[], #[.agg #[.int .i64 0, .slice none 0 0, .slice none 0 0, .slice none 0 0], .slice none 0 0], []⟩ 8 (by kernel_rfl) (by kernel_rfl) (by kernel_rfl) (by kernel_rfl)) ?_
 intro W base args ds gs before hval0 hW hcnd hz _
 have hval : ∀ (j : Nat) t v, Tryz.f4.params[j]? = some t → args[j]? = some v → Value.okWide Tryz.prog W .any base t v := hval0
 have hW' := hW
 obtain ⟨p, q, hA0, hV, rfl, hfz, hnd⟩ := hW
 have hA : DataW.TrodAll enc Tryz.prog W 0 (fun _ => true) true Tryz.f4.params.toList args.toList ds p := hA0
 have kA := hA
 rw [Tryz.params4] at hA hval
 obtain ⟨v0, vs0, d0, ds0, p0, q0, hargs, rfl, rfl, h0, r0⟩ := trodAll_cons hA
 obtain ⟨v1, vs1, d1, ds1, p1, q1, rfl, rfl, rfl, h1, r1⟩ := trodAll_cons r0
 obtain ⟨rfl, rfl, rfl⟩ := trodAll_nil r1
 obtain rfl : args = #[v0, v1] := by cases args; simp_all
 obtain ⟨rfl, rfl⟩ := trodVars_none hV
 obtain ⟨x0, cs0, rfl, y0, _⟩ := open_aggR Tryz.underlying25 reads_25 (hval 0 25 v0 rfl rfl) h0
 obtain ⟨a0_0, c0_0, a0_1, c0_1, a0_2, c0_2, rfl, ⟨l0_0, b0_0⟩, ⟨l0_1, b0_1⟩, l0_2, b0_2⟩ := y0
 obtain ⟨x1, a1, c1, rfl, l1, b1, _⟩ := open_sliceR Tryz.underlying22 reads_22 (hval 1 22 v1 rfl rfl) h1
 have hlt := fun x hx => hW'.lt x hx
 refine (c_lawSym (hold_sub W) x0 a0_0 c0_0 b0_0 l0_0 a0_1 c0_1 b0_1 l0_1 a0_2 c0_2 b0_2 l0_2 x1 a1 c1 b1 l1).mono fun e W' ⟨he, bel⟩ => ?_
 subst he
 exact ⟨_, rfl, _, _, _, [], _, [], hW', trodAll_mk1 (shut_bool Tryz.underlying4 _), all_stays laidOut bel.toK _ _ _ _ (by kernel_rfl) kA (fun x hx => hlt x (by simpa using hx)) (fun x hx => by simpa using hlt x (by simpa using hx)), rfl, bel.toK.frame _, fun h => by cases h⟩
theorem over : Rows.topSymmetricStatesAreEstimatedAlikeRow.holds Tryz.pinned (OpenSpec.ofChange Rows.topSymmetricStatesAreEstimatedAlikeSpec) :=
 OpenClaim.holds_of_wide 4 Tryz.f4 rfl rfl rfl rfl rfl rfl rfl ⟨rfl, rfl, rfl, rfl, rfl⟩ rfl rfl rfl rfl rfl (by kernel_rfl) Tryz.func4 (by kernel_rfl)
  (of_decide_eq_true (by kernel_rfl)) (by unfold Func.isWrapper; first | (rw [if_pos (by decide +kernel)]; kernel_rfl) | (rw [if_neg (by decide +kernel)]; exact ⟨rfl, rfl⟩))
  (fun os started H enc _ => lifted os started H enc)
theorem proved : Rows.TopSymmetricStatesAreEstimatedAlikeSaid := over
end Go.Proofs.YtimillpakjgnoaaGreat.topSymmetricStatesAreEstimatedAlike

