/- The law DurativeDelayed (a schedule that starts later works as before, and ends later by the same time): for every input the call returns true, and each argument reads afterwards as it read before. No condition. -/
import Derived.Test.YtaenggfmpagjgaaW6
import Derived.Test.YtaenggfmpagjgaaRd
import Derived.ChangeOld
import Derived.SizedLaws
namespace Go.Proofs.Ytaenggfmpagjgaa.durativeDelayed
open Go.ChangeShapes Go.WideShapes Go.ChangeAt Go.RowKit Go.Joins Pl
theorem own : ownKnob Try.prog.godebug = none := by kernel_rfl
theorem laidOut : laidOutB Try.prog = true := by kernel_rfl
theorem prehold {t : TTask} {l : List Occ} (_ : Siz.siz t) (h : Siz.siz l) (by_ : Int) : pre_lawDelayed t l by_ := h.1
set_option maxRecDepth 100000 in
theorem lifted (os : Os) (started : os.Started) (H : Type) (enc : TypeId × Value → H) :
    ReturnsInHanded {} Try.checked os 4 .any (Rows.durativeDelayedSpec.pre6 enc Try.prog Try.f4 Rows.durativeDelayedRow.domain false) (Rows.durativeDelayedSpec.post enc Try.prog Try.f4 false true false false) := by
  refine returnsInHanded_of_change_sized (C := Try.checked) own started (by kernel_rfl) Try.func4
    (ChangeSpec.witness6 (enc := enc) (C := Try.checked) false ⟨#[], #[.agg #[.int .i64 0, .slice none 0 0, .slice none 0 0, .slice none 0 0], .slice none 0 0, .int .i64 0], []⟩ 8 (by kernel_rfl) (by kernel_rfl) (by kernel_rfl) (by kernel_rfl)) ?_
  intro W base args ds gs before hval0 hW hcnd hz _
  have hval : ∀ (j : Nat) t v, Try.f4.params[j]? = some t → args[j]? = some v → Value.okWide Try.prog W .any base t v := hval0
  have hW' := hW
  obtain ⟨p, q, hA0, hV, rfl, hfz, hnd⟩ := hW
  have hA : DataW.TrodAll enc Try.prog W 0 (fun _ => true) true Try.f4.params.toList args.toList ds p := hA0
  have kA := hA
  rw [Try.params4] at hA hval
  obtain ⟨v0, vs0, d0, ds0, p0, q0, hargs, rfl, rfl, h0, r0⟩ := trodAll_cons hA
  obtain ⟨v1, vs1, d1, ds1, p1, q1, rfl, rfl, rfl, h1, r1⟩ := trodAll_cons r0
  obtain ⟨v2, vs2, d2, ds2, p2, q2, rfl, rfl, rfl, h2, r2⟩ := trodAll_cons r1
  obtain ⟨rfl, rfl, rfl⟩ := trodAll_nil r2
  obtain rfl : args = #[v0, v1, v2] := by cases args; simp_all
  obtain ⟨rfl, rfl⟩ := trodVars_none hV
  obtain ⟨x0, cs0, rfl, y0, s0⟩ := open_aggR Try.underlying25 reads_25 (hval 0 25 v0 rfl rfl) h0
  obtain ⟨a0_0, c0_0, a0_1, c0_1, a0_2, c0_2, rfl, ⟨l0_0, b0_0⟩, ⟨l0_1, b0_1⟩, l0_2, b0_2⟩ := y0
  obtain ⟨x1, a1, c1, rfl, l1, b1, s1⟩ := open_sliceR Try.underlying26 reads_26 (hval 1 26 v1 rfl rfl) h1
  obtain ⟨x2, rfl, _, _, _⟩ := open_int Try.underlying3 (hval 2 3 v2 rfl rfl) h2
  have hlt := fun x hx => hW'.lt x hx
  have z0 : Siz.siz x0 := s0 fun m hm => by
    have := List.all_eq_true.1 hz m (DataW.weights_mem_each (j := 0) (t := 25) (d := d0) rfl rfl m hm)
    simpa using this
  have z1 : Siz.siz x1 := s1 fun m hm => by
    have := List.all_eq_true.1 hz m (DataW.weights_mem_each (j := 1) (t := 26) (d := d1) rfl rfl m hm)
    simpa using this
  refine (c_lawDelayed (hold_sub W) x0 a0_0 c0_0 b0_0 l0_0 a0_1 c0_1 b0_1 l0_1 a0_2 c0_2 b0_2 l0_2 x1 a1 c1 b1 l1 x2 (prehold z0 z1 x2)).mono fun e W' ⟨he, bel⟩ => ?_
  subst he
  exact ⟨_, rfl, _, _, _, [], _, [], hW', trodAll_mk1 (shut_bool Try.underlying4 _), all_stays laidOut bel.toK _ _ _ _ (by kernel_rfl) kA (fun x hx => hlt x (by simpa using hx)) (fun x hx => by simpa using hlt x (by simpa using hx)), rfl, bel.toK.frame _, fun h => by cases h⟩
theorem over : Rows.durativeDelayedRow.holds Try.pinned (OpenSpec.ofChange Rows.durativeDelayedSpec) :=
  OpenClaim.holds_of_wide 4 Try.f4 rfl rfl rfl rfl rfl rfl rfl ⟨rfl, rfl, rfl, rfl, rfl⟩ rfl rfl rfl rfl rfl (by kernel_rfl) Try.func4 (by kernel_rfl)
    (of_decide_eq_true (by kernel_rfl)) (by unfold Func.isWrapper; first | (rw [if_pos (by decide +kernel)]; kernel_rfl) | (rw [if_neg (by decide +kernel)]; exact ⟨rfl, rfl⟩))
    (fun os started H enc _ => lifted os started H enc)
theorem proved : Rows.DurativeDelayedSaid := over
end Go.Proofs.Ytaenggfmpagjgaa.durativeDelayed
