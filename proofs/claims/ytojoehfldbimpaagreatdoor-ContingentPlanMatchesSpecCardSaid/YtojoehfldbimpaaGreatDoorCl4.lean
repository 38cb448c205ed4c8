/- The law ContingentPlanMatchesSpec (Plan returns the specified tree plan): for every input the call returns true, and each argument reads afterwards as it read before. No condition. -/
import Derived.Test.YtojoehfldbimpaaGreatDoorM6
import Derived.ChangeOld
import Derived.SizedLaws
import Derived.Test.YtojoehfldbimpaaGreatDoorCards
import Derived.Test.YtojoehfldbimpaaGreatDoorTie
import Derived.LaidLaws
import Derived.LaidHandle
import Derived.Lib.LaidTab
import Derived.Stop.LaidErr
import Derived.Stop.Joined
import Derived.RowKitTokens
import Derived.SevenTiedAt
namespace Go.Proofs.YtojoehfldbimpaaGreatDoor.contingentPlanMatchesSpec
open Go.ChangeShapes Go.WideShapes Go.ChangeAt Go.RowKit Go.Joins Pl
theorem own : ownKnob Tryz.prog.godebug = none := by kernel_rfl
theorem laidOut : laidOutB Tryz.prog = true := by kernel_rfl
theorem lx (l : List (String × DataW Unit)) (w : World) (hn : (l.all fun x => x.2.handleName?.isNone) = true) : laidMetH Tryz.prog l w = laidMet Tryz.prog l w := by
 have e : (l.filter fun x => x.2.handleName?.isSome) = [] := by
  rw [List.filter_eq_nil_iff]
  intro x hx
  have := List.all_eq_true.1 hn x hx
  cases hh : x.2.handleName? with
  | none => simp
  | some s => rw [hh] at this; cases this
 unfold laidMetH
 rw [e]
theorem tabH {W : World} (h : laidMetH Tryz.prog Rows.contingentPlanMatchesSpecRow.laid W) : TabH Tryz.prog (hold W) := by
 rw [lx _ _ (by kernel_rfl)] at h
 have h3 : laidMet Tryz.prog [("internal/strconv.uint64pow10", Lib.tabData .u64 Lib.pow10Tab)] W := h.tail.tail
 have ht := Lib.tabIs_of_head (g := 0) (t := 171) (e := 137) (n := 20) (by kernel_rfl) (by kernel_rfl) (by kernel_rfl) (by kernel_rfl) (by kernel_rfl) (by kernel_rfl) h3
 intro w s
 unfold Lib.TabIs World.var? at ht ⊢
 rw [show Tryz.prog.globalNamed "internal/strconv.uint64pow10" = some 0 from by kernel_rfl] at ht ⊢
 simp only [Option.bind_some] at ht ⊢
 cases hb : W.heap[0]? with
 | none => rw [hb] at ht; cases ht
 | some o => rw [hb] at ht; rw [s 0 o hb]; exact ht
def tabCells (d : DataW Unit) : Array Value := match d with
 | .agg l => (l.map fun x => match x with | .lit (.int k z) => Value.int k z | _ => .bool false).toArray
 | _ => #[]
noncomputable def laidWorld (os : Os) : World :=
 let w0 := World.holding Tryz.prog os ⟨#[], #[], []⟩
 { w0 with heap := (((w0.heap.modify 0 fun
   | .cells _ t frozen => .cells (tabCells Rows.laid_internal_strconv_uint64pow10) t frozen
   | o => o).modify 1 fun
   | .cells _ t frozen => .cells (tabCells Rows.laid_math_bits_deBruijn32tab) t frozen
   | o => o).modify 2 fun
   | .cells _ t frozen => .cells (tabCells Rows.laid_math_bits_deBruijn64tab) t frozen
   | o => o) }
theorem laidWorld_met (os : Os) (args : Array Value) : laidMetH Tryz.prog Rows.contingentPlanMatchesSpecRow.laid ((laidWorld os).forCall (fun _ _ => 0) ⟨#[], args, []⟩).memory :=
 laidMetH_of_parts (laidMet_of_run' 8 (by kernel_rfl) (by kernel_rfl)) (by kernel_rfl)
set_option maxRecDepth 100000 in
theorem lifted (os : Os) (started : os.Started) (H : Type) (enc : TypeId × Value → H) :
  ReturnsInHanded {} Tryz.checked os 6 .any (fun w args => (Rows.contingentPlanMatchesSpecSpec.pre enc Tryz.prog Tryz.f6 [] false w args ∧ laidMetH Tryz.prog Rows.contingentPlanMatchesSpecRow.laid w) ∧ sizedMet enc Tryz.prog Tryz.f6 (OpenSpec.ofChange Rows.contingentPlanMatchesSpecSpec) false w args) (Rows.contingentPlanMatchesSpecSpec.post enc Tryz.prog Tryz.f6 false true false false) := by
 refine returnsInHanded_of_change_and (C := Tryz.checked) (X := fun w _ => laidMetH Tryz.prog Rows.contingentPlanMatchesSpecRow.laid w) (fun _ _ _ hh h => h.of_heap hh) own started (by kernel_rfl) Tryz.func6
  (ChangeSpec.witness_at (enc := enc) (C := Tryz.checked) (os := os) (X := fun w _ => laidMetH Tryz.prog Rows.contingentPlanMatchesSpecRow.laid w) false (laidWorld os) #[.agg #[.int .i64 0, .slice none 0 0, .slice none 0 0, .slice none 0 0], .slice none 0 0, .slice none 0 0, .int .i64 0] 8 rfl (by kernel_rfl) (by kernel_rfl) (by kernel_rfl) (by kernel_rfl) (by kernel_rfl) (laidWorld_met os _)) ?_
 intro W base args ds gs before hval0 hW hcnd hz hL _
 have ht := tabH hL
 have hval : ∀ (j : Nat) t v, Tryz.f6.params[j]? = some t → args[j]? = some v → Value.okWide Tryz.prog W .any base t v := hval0
 have hW' := hW
 obtain ⟨p, q, hA0, hV, rfl, hfz, hnd⟩ := hW
 have hA : DataW.TrodAll enc Tryz.prog W 0 (fun _ => true) true Tryz.f6.params.toList args.toList ds p := hA0
 have kA := hA
 rw [Tryz.params6] at hA hval
 obtain ⟨v0, vs0, d0, ds0, p0, q0, hargs, rfl, rfl, h0, r0⟩ := trodAll_cons hA
 obtain ⟨v1, vs1, d1, ds1, p1, q1, rfl, rfl, rfl, h1, r1⟩ := trodAll_cons r0
 obtain ⟨v2, vs2, d2, ds2, p2, q2, rfl, rfl, rfl, h2, r2⟩ := trodAll_cons r1
 obtain ⟨v3, vs3, d3, ds3, p3, q3, rfl, rfl, rfl, h3, r3⟩ := trodAll_cons r2
 obtain ⟨rfl, rfl, rfl⟩ := trodAll_nil r3
 obtain rfl : args = #[v0, v1, v2, v3] := by cases args; simp_all
 obtain ⟨rfl, rfl⟩ := trodVars_none hV
 obtain ⟨x0, cs0, rfl, y0, _⟩ := open_aggR Tryz.underlying25 reads_25 (hval 0 25 v0 rfl rfl) h0
 obtain ⟨a0_0, c0_0, a0_1, c0_1, a0_2, c0_2, rfl, ⟨l0_0, b0_0⟩, ⟨l0_1, b0_1⟩, l0_2, b0_2⟩ := y0
 obtain ⟨x1, a1, c1, rfl, l1, b1, _⟩ := open_sliceR Tryz.underlying22 reads_22 (hval 1 22 v1 rfl rfl) h1
 obtain ⟨x2, a2, c2, rfl, l2, b2, _⟩ := open_sliceR Tryz.underlying22 reads_22 (hval 2 22 v2 rfl rfl) h2
 obtain ⟨x3, rfl, _, _, _⟩ := open_int Tryz.underlying3 (hval 3 3 v3 rfl rfl) h3
 have hlt := fun x hx => hW'.lt x hx
 refine (c_lawContPlan (hold_sub W) ht x0 a0_0 c0_0 b0_0 l0_0 a0_1 c0_1 b0_1 l0_1 a0_2 c0_2 b0_2 l0_2 x1 a1 c1 b1 l1 x2 a2 c2 b2 l2 x3).mono fun e W' ⟨he, bel⟩ => ?_
 subst he
 exact ⟨_, rfl, _, _, _, [], _, [], hW', trodAll_mk1 (shut_bool Tryz.underlying4 _), all_stays laidOut bel.toK _ _ _ _ (by kernel_rfl) kA (fun x hx => hlt x (by simpa using hx)) (fun x hx => by simpa using hlt x (by simpa using hx)), rfl, bel.toK.frame _, fun h => by cases h⟩
theorem over : Rows.contingentPlanMatchesSpecRow.holds Tryz.pinned (OpenSpec.ofChange Rows.contingentPlanMatchesSpecSpec) :=
 OpenClaim.holds_of_wide 6 Tryz.f6 rfl rfl rfl rfl rfl rfl rfl ⟨rfl, rfl, rfl, rfl, rfl⟩ rfl rfl rfl rfl rfl (by kernel_rfl) Tryz.func6 (by kernel_rfl)
  (of_decide_eq_true (by kernel_rfl)) (by unfold Func.isWrapper; first | (rw [if_pos (by decide +kernel)]; kernel_rfl) | (rw [if_neg (by decide +kernel)]; exact ⟨rfl, rfl⟩))
  (fun os started H enc _ => lifted os started H enc)
theorem proved : Rows.ContingentPlanMatchesSpecCardSaid :=
 Claim7.holds_tied_plain_at .later [] [.data, .data, .data] true (true, "aef37adf49b56e675ecc0032e52e0883c904421ff27786cc46e64763447887cf") false over (fun _ h => by cases h) (by kernel_rfl) (fun _ h => by cases h) contingentPlanMatchesSpec_row_tie rfl ⟨rfl, rfl⟩ (by kernel_rfl) rfl
  (fun f fn hf hfn => by
   obtain rfl : f = 6 := Option.some.inj ((show Tryz.prog.funcNamed "helmsman/helmsmanlaw7.ContingentPlanMatchesSpec" = some 6 by kernel_rfl).symm.trans hf) |>.symm
   obtain rfl : fn = Tryz.f6 := (Option.some.inj (Tryz.func6.symm.trans hfn)).symm
   refine ⟨by kernel_rfl, fun j t ht => ?_⟩
   rw [Tryz.params6] at ht
   rcases j with _ | j
   ·obtain rfl : 25 = t := by simpa using ht
    exact (show Tryz.prog.wantsStandIn 25 = false by kernel_rfl)
   rcases j with _ | j
   ·obtain rfl : 22 = t := by simpa using ht
    exact (show Tryz.prog.wantsStandIn 22 = false by kernel_rfl)
   rcases j with _ | j
   ·obtain rfl : 22 = t := by simpa using ht
    exact (show Tryz.prog.wantsStandIn 22 = false by kernel_rfl)
   rcases j with _ | j
   ·obtain rfl : 3 = t := by simpa using ht
    exact (show Tryz.prog.wantsStandIn 3 = false by kernel_rfl)
   simp at ht)
  (by kernel_rfl)
end Go.Proofs.YtojoehfldbimpaaGreatDoor.contingentPlanMatchesSpec

