/- The walks: from what each function asks to what it does; printed from the code. No condition. -/
import Derived.Test.YtaenggfmpagjgaaW3
namespace Go.Proofs.Ytaenggfmpagjgaa.Pl
open Go Go.RowKit
set_option maxHeartbeats 8000000 in
theorem w_timedR {h : FH} {w : World} (hs : Sub h w) (t : TTask) (at_ : Option Addr) (ct : Nat) (_q1 : RSl h at_ t.init) (_q2 : t.init.length ≤ ct) (at_2 : Option Addr) (ct2 : Nat) (_q3 : RSl h at_2 t.goal) (_q4 : t.goal.length ≤ ct2) (at_3 : Option Addr) (ct3 : Nat) (_q5 : RSl h at_3 t.ops) (_q6 : t.ops.length ≤ ct3) (l : List Occ) (al2 : Option Addr) (cl2 : Nat) (_q7 : RSl h al2 l) (_q8 : l.length ≤ cl2) (K : (Int × Bool) → Prop) (hF : F_timedR t l K) : Calls Try.prog 14 #[.agg #[.int .i64 t.facts, .slice at_ t.init.length ct, .slice at_2 t.goal.length ct2, .slice at_3 t.ops.length ct3], .slice al2 l.length cl2] w fun e w' => ∃ r : Int × Bool, K r ∧ e = .returned (.tuple #[.int .i64 r.1, .bool r.2]) ∧ Below w.heap.size w w' := by
  refine enter (args := [.agg #[.int .i64 t.facts, .slice at_ t.init.length ct, .slice at_2 t.goal.length ct2, .slice at_3 t.ops.length ct3], .slice al2 l.length cl2]) Try.func14 rfl Try.ntmps14 rfl hs ?_
  refine .seq ?_
  refine .region ?_
  refine bx (vs := [.int .i64 t.facts, .slice at_ t.init.length ct, .slice at_2 t.goal.length ct2, .slice at_3 t.ops.length ct3]) rfl rfl rfl (fun pt => ?_)
  refine .v (asg rfl) rfl rfl rfl ?_
  refine .v (asg rfl) rfl rfl rfl ?_
  refine .nil ?_
  refine .seqN ?_
  refine .seq ?_
  refine .region ?_
  refine .v (mv rfl) rfl rfl rfl ?_
  refine .v (ln rfl tS26.is) rfl rfl rfl ?_
  obtain ⟨q9, hF⟩ := hF
  refine mk (m := (((l.length : Nat) : Int)).toNat) (cs' := flL (List.replicate (((l.length : Nat) : Int)).toNat (0 : Int))) tS22 rfl rfl (Int.toNat_of_nonneg q9.1).symm q9.2.1 q9.2.2 (flL_rep1 rfl _) rfl (fun a c => ?_)
  have q10 : (List.replicate (((l.length : Nat) : Int)).toNat (0 : Int)).length = (((l.length : Nat) : Int)).toNat := List.length_replicate
  refine .cast (A' := [OwnSl 3 1 a ((((l.length : Nat) : Int)).toNat) c (flL (List.replicate (((l.length : Nat) : Int)).toNat (0 : Int))), Box pt [.int .i64 t.facts, .slice at_ t.init.length ct, .slice at_2 t.goal.length ct2, .slice at_3 t.ops.length ct3]]) rfl ?_
  refine .v (asg rfl) rfl rfl rfl ?_
  refine .nil ?_
  refine .seqN ?_
  refine .seq ?_
  refine .region ?_
  refine .v (fa rfl tF25_1) rfl rfl rfl ?_
  refine .v (ld1 rfl tO22 (cellB (off := 1) (k := 1) rfl rfl)) rfl rfl rfl ?_
  refine .v (asg rfl) rfl rfl rfl ?_
  refine .nil ?_
  refine .seqN ?_
  refine .seq ?_
  refine .region ?_
  refine .v (asg rfl) rfl rfl rfl ?_
  refine .nil ?_
  refine .seqN ?_
  refine .seq ?_
  refine .seq ?_
  refine .region ?_
  refine .v (asg rfl) rfl rfl rfl ?_
  refine .nil ?_
  refine .seqN ?_
  refine .block ?_
  refine .sel0 [1, 0] (by decide) rfl ?_
  obtain ⟨I1, μ1, q17053, q17054⟩ := hF
  refine .loop' (σ := List Int × Int × Int × List Int × Option Addr × Nat × FH) (fun z => I1 z.1 z.2.1 z.2.2.1 z.2.2.2.1 ∧ RSl z.2.2.2.2.2.2 z.2.2.2.2.1 z.1 ∧ z.1.length ≤ z.2.2.2.2.2.1 ∧ z.2.2.2.1.length = (((l.length : Nat) : Int)).toNat ∧ FH.le h z.2.2.2.2.2.2) (fun z => μ1 z.1 z.2.1 z.2.2.1 z.2.2.2.1) (fun z => [(1, .slice al2 l.length cl2), (2, .pointer (some pt)), (6, .slice a ((((l.length : Nat) : Int)).toNat) c), (7, .slice z.2.2.2.2.1 z.1.length z.2.2.2.2.2.1), (8, .int .i64 z.2.1), (9, .int .i64 z.2.2.1)]) (fun z => [Box pt [.int .i64 t.facts, .slice at_ t.init.length ct, .slice at_2 t.goal.length ct2, .slice at_3 t.ops.length ct3], OwnSl 3 1 a ((((l.length : Nat) : Int)).toNat) c (flL z.2.2.2.1)]) (fun z => z.2.2.2.2.2.2) (t.init, 0, 0, (List.replicate (((l.length : Nat) : Int)).toNat (0 : Int)), at_, ct, h) ⟨q17053, _q1, _q2, q10, (FH.le_refl _)⟩ (.cons rfl (.cons rfl (.cons rfl (.cons rfl (.cons rfl (.cons rfl (.nil))))))) rfl (FH.le_refl _) ?_
  rintro ⟨s_, now, step, phase, as2, cs, h67⟩ ⟨q17053, q13703, q13704, q13705, q13706⟩
  have hF := q17054 s_ now step phase q17053
  show J _ _ _ _ _ [(1, .slice al2 l.length cl2), (2, .pointer (some pt)), (6, .slice a ((((l.length : Nat) : Int)).toNat) c), (7, .slice as2 s_.length cs), (8, .int .i64 now), (9, .int .i64 step)] [Box pt [.int .i64 t.facts, .slice at_ t.init.length ct, .slice at_2 t.goal.length ct2, .slice at_3 t.ops.length ct3], OwnSl 3 1 a ((((l.length : Nat) : Int)).toNat) c (flL phase)] h67
  refine .seq ?_
  refine .seq ?_
  refine .region ?_
  refine .v (mv rfl) rfl rfl rfl ?_
  refine .v (mv rfl) rfl rfl rfl ?_
  refine .v (ln rfl tS26.is) rfl rfl rfl ?_
  refine .v (bi rfl rfl rfl) rfl rfl rfl ?_
  obtain ⟨x, q17055⟩ : ∃ y_ : Bool, y_ = (decide (step < (IntKind.i64.wrap (2 * ((l.length : Nat) : Int))))) := ⟨_, rfl⟩
  replace hF := hF x q17055
  refine .v (v := .bool x) (by rw [q17055]; exact bi rfl rfl rfl) rfl rfl rfl ?_
  refine .nil ?_
  refine .seqN ?_
  refine .cond rfl (fun q17057 => ?_) (fun q17057 => ?_)
  · replace hF := hF.1 q17057
    refine .skip ?_
    refine .seqN ?_
    refine .seq ?_
    refine .block ?_
    refine .seq ?_
    refine .region ?_
    refine .v (asg rfl) rfl rfl rfl ?_
    refine .nil ?_
    refine .seqN ?_
    refine .seq ?_
    refine .region ?_
    refine .v (asg rfl) rfl rfl rfl ?_
    refine .nil ?_
    refine .seqN ?_
    refine .seq ?_
    refine .seq ?_
    refine .region ?_
    refine .v (asg rfl) rfl rfl rfl ?_
    refine .nil ?_
    refine .seqN ?_
    refine .block ?_
    obtain ⟨I2, μ2, q19811, q19812⟩ := hF
    refine .loop' (σ := Int × Int × Int) (fun z => I2 z.1 z.2.1 z.2.2) (fun z => μ2 z.1 z.2.1 z.2.2) (fun z => [(1, .slice al2 l.length cl2), (2, .pointer (some pt)), (6, .slice a ((((l.length : Nat) : Int)).toNat) c), (7, .slice as2 s_.length cs), (9, .int .i64 step), (10, .int .i64 z.1), (11, .int .i64 z.2.1), (12, .int .i64 z.2.2)]) (fun _ => [Box pt [.int .i64 t.facts, .slice at_ t.init.length ct, .slice at_2 t.goal.length ct2, .slice at_3 t.ops.length ct3], OwnSl 3 1 a ((((l.length : Nat) : Int)).toNat) c (flL phase)]) (fun _ => h67) ((-1), 0, 0) q19811 (.cons rfl (.cons rfl (.cons rfl (.cons rfl (.cons rfl (.cons rfl (.cons rfl (.cons rfl (.nil))))))))) rfl (FH.le_refl _) ?_
    rintro ⟨next, when, i⟩ q19811
    have hF := q19812 next when i q19811
    show J _ _ _ _ _ [(1, .slice al2 l.length cl2), (2, .pointer (some pt)), (6, .slice a ((((l.length : Nat) : Int)).toNat) c), (7, .slice as2 s_.length cs), (9, .int .i64 step), (10, .int .i64 next), (11, .int .i64 when), (12, .int .i64 i)] [Box pt [.int .i64 t.facts, .slice at_ t.init.length ct, .slice at_2 t.goal.length ct2, .slice at_3 t.ops.length ct3], OwnSl 3 1 a ((((l.length : Nat) : Int)).toNat) c (flL phase)] h67
    refine .seq ?_
    refine .seq ?_
    refine .region ?_
    refine .v (mv rfl) rfl rfl rfl ?_
    refine .v (mv rfl) rfl rfl rfl ?_
    refine .v (ln rfl tS26.is) rfl rfl rfl ?_
    refine .v (bi rfl rfl rfl) rfl rfl rfl ?_
    refine .nil ?_
    refine .seqN ?_
    refine .cond rfl (fun q19814 => ?_) (fun q19814 => ?_)
    · replace hF := hF.1 q19814
      refine .skip ?_
      refine .seqN ?_
      refine .share (σ := Int × Int) (fun z => F_timedR_J1 next when i I2 μ2 z.1 z.2) (fun z => [(1, .slice al2 l.length cl2), (2, .pointer (some pt)), (6, .slice a ((((l.length : Nat) : Int)).toNat) c), (7, .slice as2 s_.length cs), (9, .int .i64 step), (10, .int .i64 z.1), (11, .int .i64 z.2), (12, .int .i64 i)]) (fun _ => [Box pt [.int .i64 t.facts, .slice at_ t.init.length ct, .slice at_2 t.goal.length ct2, .slice at_3 t.ops.length ct3], OwnSl 3 1 a ((((l.length : Nat) : Int)).toNat) c (flL phase)]) (fun _ => h67) ?_ (fun q19866 => ?_)
      · rintro ⟨next3, when3⟩ hF
        show J _ _ _ _ _ [(1, .slice al2 l.length cl2), (2, .pointer (some pt)), (6, .slice a ((((l.length : Nat) : Int)).toNat) c), (7, .slice as2 s_.length cs), (9, .int .i64 step), (10, .int .i64 next3), (11, .int .i64 when3), (12, .int .i64 i)] [Box pt [.int .i64 t.facts, .slice at_ t.init.length ct, .slice at_2 t.goal.length ct2, .slice at_3 t.ops.length ct3], OwnSl 3 1 a ((((l.length : Nat) : Int)).toNat) c (flL phase)] h67
        refine .region ?_
        refine .v (mv rfl) rfl rfl rfl ?_
        refine .v (bi rfl rfl rfl) rfl rfl rfl ?_
        refine .v (asg rfl) rfl rfl rfl ?_
        refine .nil ?_
        exact .round (next3, when3, IntKind.i64.wrap (i + 1)) hF.1 hF.2 (.cons rfl (.cons rfl (.cons rfl (.cons rfl (.cons rfl (.cons rfl (.cons rfl (.cons rfl (.nil))))))))) rfl (FH.le_refl _)
      refine .block ?_
      refine .seq ?_
      refine .seq ?_
      refine .region ?_
      refine .v (mv rfl) rfl rfl rfl ?_
      refine .v (mv rfl) rfl rfl rfl ?_
      obtain ⟨q19867, hF⟩ := hF
      refine .v (ixS rfl rfl tS22 (k := 1) rfl (inb_n q19867 q13705)) rfl rfl rfl ?_
      refine .v (ld1 (v := .int .i64 (gt phase i)) rfl tO3 (cellS (k := 1) rfl (flL_get q19867 (j := 0) rfl))) rfl rfl rfl ?_
      refine .v (bi rfl rfl rfl) rfl rfl rfl ?_
      refine .nil ?_
      refine .seqN ?_
      refine .cond rfl (fun q19869 => ?_) (fun q19869 => ?_)
      · replace hF := hF.1 q19869
        refine .exit ?_
        refine .seqX ?_
        refine .blkX ?_
        exact .use q19866 (next, when) hF (.cons rfl (.cons rfl (.cons rfl (.cons rfl (.cons rfl (.cons rfl (.cons rfl (.cons rfl (.nil))))))))) rfl (FH.le_refl _)
      replace hF := hF.2 q19869
      refine .skip ?_
      refine .seqN ?_
      refine .seq ?_
      refine .region ?_
      refine .v (mv rfl) rfl rfl rfl ?_
      refine .v (mv rfl) rfl rfl rfl ?_
      obtain ⟨q19870, hF⟩ := hF
      refine .v (ix rfl rfl tS26 (_q7.ne (by decide) (inb_pos q19870)) q19870) rfl rfl rfl ?_
      refine .v (fa rfl tF38_1) rfl rfl rfl ?_
      refine .v (ld1 (v := .int .i64 ((gt l i).start)) rfl tO3 (cellH ((_q7.mono (q13706)).elemF q19870 (by decide) 1 _ rfl))) rfl rfl rfl ?_
      refine .v (asg rfl) rfl rfl rfl ?_
      refine .nil ?_
      refine .seqN ?_
      refine .seq ?_
      refine .seq ?_
      refine .region ?_
      refine .v (mv rfl) rfl rfl rfl ?_
      refine .v (mv rfl) rfl rfl rfl ?_
      refine .v (ixS rfl rfl tS22 (k := 1) rfl (inb_n q19867 q13705)) rfl rfl rfl ?_
      refine .v (ld1 (v := .int .i64 (gt phase i)) rfl tO3 (cellS (k := 1) rfl (flL_get q19867 (j := 0) rfl))) rfl rfl rfl ?_
      refine .v (bi rfl rfl rfl) rfl rfl rfl ?_
      refine .nil ?_
      refine .seqN ?_
      refine .shareT (σ := Int) (fun z => F_timedR_J2 z next when i I2 μ2 phase) (fun z => [(1, .slice al2 l.length cl2), (2, .pointer (some pt)), (6, .slice a ((((l.length : Nat) : Int)).toNat) c), (7, .slice as2 s_.length cs), (9, .int .i64 step), (10, .int .i64 next), (11, .int .i64 when), (12, .int .i64 i), (13, .int .i64 z)]) (fun _ => [Box pt [.int .i64 t.facts, .slice at_ t.init.length ct, .slice at_2 t.goal.length ct2, .slice at_3 t.ops.length ct3], OwnSl 3 1 a ((((l.length : Nat) : Int)).toNat) c (flL phase)]) (fun _ => h67) ?_ (fun q19889 => ?_)
      · rintro x2 hF
        show J _ _ _ _ _ [(1, .slice al2 l.length cl2), (2, .pointer (some pt)), (6, .slice a ((((l.length : Nat) : Int)).toNat) c), (7, .slice as2 s_.length cs), (9, .int .i64 step), (10, .int .i64 next), (11, .int .i64 when), (12, .int .i64 i), (13, .int .i64 x2)] [Box pt [.int .i64 t.facts, .slice at_ t.init.length ct, .slice at_2 t.goal.length ct2, .slice at_3 t.ops.length ct3], OwnSl 3 1 a ((((l.length : Nat) : Int)).toNat) c (flL phase)] h67
        refine .share (σ := Bool) (fun z => F_timedR_J3 x2 z next when i I2 μ2) (fun z => [(1, .slice al2 l.length cl2), (2, .pointer (some pt)), (6, .slice a ((((l.length : Nat) : Int)).toNat) c), (7, .slice as2 s_.length cs), (9, .int .i64 step), (10, .int .i64 next), (11, .int .i64 when), (12, .int .i64 i), (13, .int .i64 x2), (83, .bool z)]) (fun _ => [Box pt [.int .i64 t.facts, .slice at_ t.init.length ct, .slice at_2 t.goal.length ct2, .slice at_3 t.ops.length ct3], OwnSl 3 1 a ((((l.length : Nat) : Int)).toNat) c (flL phase)]) (fun _ => h67) ?_ (fun q19894 => ?_)
        · rintro t83 hF
          show J _ _ _ _ _ [(1, .slice al2 l.length cl2), (2, .pointer (some pt)), (6, .slice a ((((l.length : Nat) : Int)).toNat) c), (7, .slice as2 s_.length cs), (9, .int .i64 step), (10, .int .i64 next), (11, .int .i64 when), (12, .int .i64 i), (13, .int .i64 x2), (83, .bool t83)] [Box pt [.int .i64 t.facts, .slice at_ t.init.length ct, .slice at_2 t.goal.length ct2, .slice at_3 t.ops.length ct3], OwnSl 3 1 a ((((l.length : Nat) : Int)).toNat) c (flL phase)] h67
          refine .cond rfl (fun q19895 => ?_) (fun q19895 => ?_)
          · replace hF := hF.1 q19895
            refine .seq ?_
            refine .region ?_
            refine .v (mv rfl) rfl rfl rfl ?_
            refine .v (asg rfl) rfl rfl rfl ?_
            refine .nil ?_
            refine .seqN ?_
            refine .region ?_
            refine .v (mv rfl) rfl rfl rfl ?_
            refine .v (asg rfl) rfl rfl rfl ?_
            refine .nil ?_
            refine .blkN ?_
            exact .use q19866 (i, x2) hF (.cons rfl (.cons rfl (.cons rfl (.cons rfl (.cons rfl (.cons rfl (.cons rfl (.cons rfl (.nil))))))))) rfl (FH.le_refl _)
          replace hF := hF.2 q19895
          refine .skip ?_
          refine .blkN ?_
          exact .use q19866 (next, when) hF (.cons rfl (.cons rfl (.cons rfl (.cons rfl (.cons rfl (.cons rfl (.cons rfl (.cons rfl (.nil))))))))) rfl (FH.le_refl _)
        refine .open_ (by kernel_rfl) (by kernel_rfl) ?_
        refine .v (mv rfl) rfl rfl rfl ?_
        refine .v (bi rfl rfl rfl) rfl rfl rfl ?_
        refine .v (mv rfl) rfl rfl rfl ?_
        rcases Bool.eq_false_or_eq_true (decide (next < 0)) with q19896 | q19896
        · replace hF := hF.1 q19896
          refine .gS rfl rfl rfl q19896 rfl rfl ?_
          refine .gS rfl rfl rfl q19896 rfl rfl ?_
          refine .gS rfl rfl rfl q19896 rfl rfl ?_
          refine .v (pkT rfl q19896 rfl) rfl rfl rfl ?_
          refine .v (mv rfl) rfl rfl rfl ?_
          refine .gS rfl rfl rfl rfl rfl rfl ?_
          refine .gS rfl rfl rfl rfl rfl rfl ?_
          refine .gS rfl rfl rfl rfl rfl rfl ?_
          refine .gS rfl rfl rfl rfl rfl rfl ?_
          refine .gU rfl rfl rfl rfl rfl ?_
          refine .gU rfl rfl rfl rfl rfl ?_
          refine .gU rfl rfl rfl rfl rfl ?_
          refine .gU rfl rfl rfl rfl rfl ?_
          refine .gU rfl rfl rfl rfl rfl ?_
          refine .gU rfl rfl rfl rfl rfl ?_
          refine .gU rfl rfl rfl rfl rfl ?_
          refine .gU rfl rfl rfl rfl rfl ?_
          refine .gU rfl rfl rfl rfl rfl ?_
          refine .gS rfl rfl rfl rfl rfl rfl ?_
          refine .v (pkT rfl rfl rfl) rfl rfl rfl ?_
          refine .fin ?_
          exact .use q19894 true hF (.cons rfl (.cons rfl (.cons rfl (.cons rfl (.cons rfl (.cons rfl (.cons rfl (.cons rfl (.cons rfl (.cons rfl (.nil))))))))))) rfl (FH.le_refl _)
        replace hF := hF.2 q19896
        refine .gv (mv rfl) rfl rfl rfl q19896 rfl rfl ?_
        refine .gv (mv rfl) rfl rfl rfl q19896 rfl rfl ?_
        refine .gv (bi rfl rfl rfl) rfl rfl rfl q19896 rfl rfl ?_
        refine .v (pkF rfl q19896 rfl) rfl rfl rfl ?_
        refine .v (mv rfl) rfl rfl rfl ?_
        rcases Bool.eq_false_or_eq_true (decide (x2 < when)) with q19897 | q19897
        · replace hF := hF.1 q19897
          refine .gS rfl rfl rfl q19897 rfl rfl ?_
          refine .gS rfl rfl rfl q19897 rfl rfl ?_
          refine .gS rfl rfl rfl q19897 rfl rfl ?_
          refine .gS rfl rfl rfl q19897 rfl rfl ?_
          refine .gU rfl rfl rfl rfl rfl ?_
          refine .gU rfl rfl rfl rfl rfl ?_
          refine .gU rfl rfl rfl rfl rfl ?_
          refine .gU rfl rfl rfl rfl rfl ?_
          refine .gU rfl rfl rfl rfl rfl ?_
          refine .gU rfl rfl rfl rfl rfl ?_
          refine .gU rfl rfl rfl rfl rfl ?_
          refine .gU rfl rfl rfl rfl rfl ?_
          refine .gU rfl rfl rfl rfl rfl ?_
          refine .gS rfl rfl rfl q19897 rfl rfl ?_
          refine .v (pkT rfl q19897 rfl) rfl rfl rfl ?_
          refine .fin ?_
          exact .use q19894 true hF (.cons rfl (.cons rfl (.cons rfl (.cons rfl (.cons rfl (.cons rfl (.cons rfl (.cons rfl (.cons rfl (.cons rfl (.nil))))))))))) rfl (FH.le_refl _)
        replace hF := hF.2 q19897
        refine .gv (mv rfl) rfl rfl rfl q19897 rfl rfl ?_
        refine .gv (mv rfl) rfl rfl rfl q19897 rfl rfl ?_
        refine .gv (bi rfl rfl rfl) rfl rfl rfl q19897 rfl rfl ?_
        refine .gv (mv rfl) rfl rfl rfl q19897 rfl rfl ?_
        rcases Bool.eq_false_or_eq_true (x2 == when) with q19898 | q19898
        · replace hF := hF.1 q19898
          refine .gv (mv rfl) rfl rfl rfl q19898 rfl rfl ?_
          refine .gv (mv rfl) rfl rfl rfl q19898 rfl rfl ?_
          refine .gv (ixS rfl rfl tS22 (k := 1) rfl (inb_n q19867 q13705)) rfl rfl rfl q19898 rfl rfl ?_
          refine .gv (ld1 (v := .int .i64 (gt phase i)) rfl tO3 (cellS (k := 1) rfl (flL_get q19867 (j := 0) rfl))) rfl rfl rfl q19898 rfl rfl ?_
          refine .gv (mv rfl) rfl rfl rfl q19898 rfl rfl ?_
          refine .gv (mv rfl) rfl rfl rfl q19898 rfl rfl ?_
          obtain ⟨q19899, hF⟩ := hF
          refine .gv (ixS rfl rfl tS22 (k := 1) rfl (inb_n q19899 q13705)) rfl rfl rfl q19898 rfl rfl ?_
          refine .gv (ld1 (v := .int .i64 (gt phase next)) rfl tO3 (cellS (k := 1) rfl (flL_get q19899 (j := 0) rfl))) rfl rfl rfl q19898 rfl rfl ?_
          refine .gv (bi rfl rfl rfl) rfl rfl rfl q19898 rfl rfl ?_
          refine .gv (pkT rfl q19898 rfl) rfl rfl rfl q19897 rfl rfl ?_
          refine .v (pkF rfl q19897 rfl) rfl rfl rfl ?_
          refine .fin ?_
          exact .use q19894 (decide ((gt phase next) < (gt phase i))) hF (.cons rfl (.cons rfl (.cons rfl (.cons rfl (.cons rfl (.cons rfl (.cons rfl (.cons rfl (.cons rfl (.cons rfl (.nil))))))))))) rfl (FH.le_refl _)
        replace hF := hF.2 q19898
        refine .gS rfl rfl rfl q19898 rfl rfl ?_
        refine .gS rfl rfl rfl q19898 rfl rfl ?_
        refine .gS rfl rfl rfl q19898 rfl rfl ?_
        refine .gS rfl rfl rfl q19898 rfl rfl ?_
        refine .gS rfl rfl rfl q19898 rfl rfl ?_
        refine .gS rfl rfl rfl q19898 rfl rfl ?_
        refine .gS rfl rfl rfl q19898 rfl rfl ?_
        refine .gS rfl rfl rfl q19898 rfl rfl ?_
        refine .gS rfl rfl rfl q19898 rfl rfl ?_
        refine .gv (pkF rfl q19898 rfl) rfl rfl rfl q19897 rfl rfl ?_
        refine .v (pkF rfl q19897 rfl) rfl rfl rfl ?_
        refine .fin ?_
        exact .use q19894 false hF (.cons rfl (.cons rfl (.cons rfl (.cons rfl (.cons rfl (.cons rfl (.cons rfl (.cons rfl (.cons rfl (.cons rfl (.nil))))))))))) rfl (FH.le_refl _)
      refine .cond rfl (fun q19900 => ?_) (fun q19900 => ?_)
      · replace hF := hF.1 q19900
        refine .open_ (by kernel_rfl) (by kernel_rfl) ?_
        refine .v (mv rfl) rfl rfl rfl ?_
        refine .v (fa rfl tF25_3) rfl rfl rfl ?_
        refine .v (ld1 rfl tO23 (cellB (off := 3) (k := 0) rfl rfl)) rfl rfl rfl ?_
        refine .v (mv rfl) rfl rfl rfl ?_
        refine .v (mv rfl) rfl rfl rfl ?_
        refine .v (ix rfl rfl tS26 (_q7.ne (by decide) (inb_pos q19870)) q19870) rfl rfl rfl ?_
        refine .v (fa rfl tF38_0) rfl rfl rfl ?_
        refine .v (ld1 (v := .int .i64 ((gt l i).op)) rfl tO3 (cellH ((_q7.mono (q13706)).elemF q19870 (by decide) 0 _ rfl))) rfl rfl rfl ?_
        obtain ⟨q19901, hF⟩ := hF
        refine .v (ix rfl rfl tS23 (_q5.ne (by decide) (inb_pos q19901)) q19901) rfl rfl rfl ?_
        refine .v (fa rfl tF41_7) rfl rfl rfl ?_
        obtain ⟨_, ⟨a2, c2, a3, c3, a4, c4, a5, c5, a6, c6, a7, c7, a8, c8, rfl, ⟨q19902, q19903⟩, ⟨q19904, q19905⟩, ⟨q19906, q19907⟩, ⟨q19908, q19909⟩, ⟨q19910, q19911⟩, ⟨q19912, q19913⟩, q19914, q19915⟩, q19916⟩ := _q5.elem q19901
        refine .v (ld1 (v := .int .i64 ((gt t.ops ((gt l i).op)).dur)) rfl tO3 (cellH ((fun q => (q19916 q).mono (q13706)) (by decide) 7 _ rfl))) rfl rfl rfl ?_
        obtain ⟨x3, q19917⟩ : ∃ y_ : Int, y_ = (IntKind.i64.wrap (((gt l i).start) + ((gt t.ops ((gt l i).op)).dur))) := ⟨_, rfl⟩
        replace hF := hF x3 q19917
        refine .v (v := .int .i64 x3) (by rw [q19917]; exact bi rfl rfl rfl) rfl rfl rfl ?_
        refine .v (asg rfl) rfl rfl rfl ?_
        refine .fin ?_
        exact .use q19889 x3 hF (.cons rfl (.cons rfl (.cons rfl (.cons rfl (.cons rfl (.cons rfl (.cons rfl (.cons rfl (.cons rfl (.nil)))))))))) rfl (FH.le_refl _)
      replace hF := hF.2 q19900
      refine .skip ?_
      exact .use q19889 ((gt l i).start) hF (.cons rfl (.cons rfl (.cons rfl (.cons rfl (.cons rfl (.cons rfl (.cons rfl (.cons rfl (.cons rfl (.nil)))))))))) rfl (FH.le_refl _)
    replace hF := hF.2 q19814
    refine .exit ?_
    refine .seqX ?_
    refine .seqX ?_
    refine .blkX ?_
    refine .seqN ?_
    refine .seq ?_
    obtain ⟨q19935, hF⟩ := hF
    obtain ⟨q19936, hF⟩ := hF
    obtain ⟨_, ⟨a9, c9, a10, c10, a11, c11, a12, c12, a13, c13, a14, c14, a15, c15, rfl, ⟨q19937, q19938⟩, ⟨q19939, q19940⟩, ⟨q19941, q19942⟩, ⟨q19943, q19944⟩, ⟨q19945, q19946⟩, ⟨q19947, q19948⟩, q19949, q19950⟩, q19951⟩ := _q5.elem q19936
    refine .openA (s0 := [(1, .slice al2 l.length cl2), (2, .pointer (some pt)), (6, .slice a ((((l.length : Nat) : Int)).toNat) c), (7, .slice as2 s_.length cs), (9, .int .i64 step), (10, .int .i64 next), (11, .int .i64 when)]) [0, 1, 2, 3, 4, 5, 6, 7, 8] [(0, .pointer (some (pt.add 3))), (1, .slice at_3 t.ops.length ct3), (2, .slice al2 l.length cl2), (3, .int .i64 next), (4, .pointer (some (ead al2 (next.toNat * 2)))), (5, .pointer (some ((ead al2 (next.toNat * 2)).add 0))), (6, .int .i64 ((gt l next).op)), (7, .pointer (some (ead at_3 (((gt l next).op).toNat * 8)))), (8, .agg #[.slice a9 ((gt t.ops ((gt l next).op)).atStart.length) c9, .slice a10 ((gt t.ops ((gt l next).op)).over.length) c10, .slice a11 ((gt t.ops ((gt l next).op)).atEnd.length) c11, .slice a12 ((gt t.ops ((gt l next).op)).addStart.length) c12, .slice a13 ((gt t.ops ((gt l next).op)).delStart.length) c13, .slice a14 ((gt t.ops ((gt l next).op)).addEnd.length) c14, .slice a15 ((gt t.ops ((gt l next).op)).delEnd.length) c15, .int .i64 ((gt t.ops ((gt l next).op)).dur)])] (by kernel_rfl) (.cons rfl (.cons rfl (.cons rfl (.cons rfl (.cons rfl (.cons rfl (.cons rfl (.nil)))))))) [1, 2, 6, 7, 9, 10, 11] [] rfl (by kernel_rfl) ?_
    refine .step [9] 9 rfl (by kernel_rfl) (by kernel_rfl) (.v [] rfl rfl rfl rfl rfl rfl (fun _ => fa rfl tF25_3) (.v [(86, .pointer (some (pt.add 3)))] rfl rfl rfl rfl rfl rfl (fun _ => ld1 rfl tO23 (cellB (off := 3) (k := 0) rfl rfl)) (.v [] rfl rfl rfl rfl rfl rfl (fun _ => mv rfl) (.v [] rfl rfl rfl rfl rfl rfl (fun _ => mv rfl) (.v [(88, .slice al2 l.length cl2), (89, .int .i64 next)] rfl rfl rfl rfl rfl rfl (fun _ => ix rfl rfl tS26 (_q7.ne (by decide) (inb_pos q19935)) q19935) (.v [(90, .pointer (some (ead al2 (next.toNat * 2))))] rfl rfl rfl rfl rfl rfl (fun _ => fa rfl tF38_0) (.v [(91, .pointer (some ((ead al2 (next.toNat * 2)).add 0)))] rfl rfl rfl rfl rfl rfl (fun _ => ld1 (v := .int .i64 ((gt l next).op)) rfl tO3 (cellH ((_q7.mono (q13706)).elemF q19935 (by decide) 0 _ rfl))) (.v [(87, .slice at_3 t.ops.length ct3), (92, .int .i64 ((gt l next).op))] rfl rfl rfl rfl rfl rfl (fun _ => ix rfl rfl tS23 (_q5.ne (by decide) (inb_pos q19936)) q19936) (.v [(93, .pointer (some (ead at_3 (((gt l next).op).toNat * 8))))] rfl rfl rfl rfl rfl rfl (fun _ => ldA (cs := [.slice a9 ((gt t.ops ((gt l next).op)).atStart.length) c9, .slice a10 ((gt t.ops ((gt l next).op)).over.length) c10, .slice a11 ((gt t.ops ((gt l next).op)).atEnd.length) c11, .slice a12 ((gt t.ops ((gt l next).op)).addStart.length) c12, .slice a13 ((gt t.ops ((gt l next).op)).delStart.length) c13, .slice a14 ((gt t.ops ((gt l next).op)).addEnd.length) c14, .slice a15 ((gt t.ops ((gt l next).op)).delEnd.length) c15, .int .i64 ((gt t.ops ((gt l next).op)).dur)]) rfl tA41 rfl (cellsH ((fun q => (q19951 q).mono (q13706)) (by decide)))) (.nil)))))))))) (.cons [] rfl rfl (fun sL hL => ?_) (.nil))
    refine al tZ41 rfl (fun po => ?_)
    refine .nil ?_
    refine .ja (M := []) (C' := [0, 1, 2, 3, 4, 5, 6, 7, 8]) (pre := [(9, .pointer (some po))]) [(1, .slice al2 l.length cl2), (2, .pointer (some pt)), (6, .slice a ((((l.length : Nat) : Int)).toNat) c), (7, .slice as2 s_.length cs), (9, .int .i64 step), (10, .int .i64 next), (11, .int .i64 when)] [1, 2, 6, 7, 9, 10, 11] hL rfl rfl rfl rfl rfl (.cons rfl (.cons rfl (.cons rfl (.cons rfl (.cons rfl (.cons rfl (.cons rfl (.nil)))))))) rfl rfl (by kernel_rfl) ?_
    refine .step [10] 10 rfl (by kernel_rfl) (by kernel_rfl) (.v [] rfl rfl rfl rfl rfl rfl (fun _ => fa rfl tF25_3) (.v [(86, .pointer (some (pt.add 3)))] rfl rfl rfl rfl rfl rfl (fun _ => ld1 rfl tO23 (cellB (off := 3) (k := 1) rfl rfl)) (.v [] rfl rfl rfl rfl rfl rfl (fun _ => mv rfl) (.v [] rfl rfl rfl rfl rfl rfl (fun _ => mv rfl) (.v [(88, .slice al2 l.length cl2), (89, .int .i64 next)] rfl rfl rfl rfl rfl rfl (fun _ => ix rfl rfl tS26 (_q7.ne (by decide) (inb_pos q19935)) q19935) (.v [(90, .pointer (some (ead al2 (next.toNat * 2))))] rfl rfl rfl rfl rfl rfl (fun _ => fa rfl tF38_0) (.v [(91, .pointer (some ((ead al2 (next.toNat * 2)).add 0)))] rfl rfl rfl rfl rfl rfl (fun _ => ld1 (v := .int .i64 ((gt l next).op)) rfl tO3 (cellH ((_q7.mono (q13706)).elemF q19935 (by decide) 0 _ rfl))) (.v [(87, .slice at_3 t.ops.length ct3), (92, .int .i64 ((gt l next).op))] rfl rfl rfl rfl rfl rfl (fun _ => ix rfl rfl tS23 (_q5.ne (by decide) (inb_pos q19936)) q19936) (.v [(93, .pointer (some (ead at_3 (((gt l next).op).toNat * 8))))] rfl rfl rfl rfl rfl rfl (fun _ => ldA (cs := [.slice a9 ((gt t.ops ((gt l next).op)).atStart.length) c9, .slice a10 ((gt t.ops ((gt l next).op)).over.length) c10, .slice a11 ((gt t.ops ((gt l next).op)).atEnd.length) c11, .slice a12 ((gt t.ops ((gt l next).op)).addStart.length) c12, .slice a13 ((gt t.ops ((gt l next).op)).delStart.length) c13, .slice a14 ((gt t.ops ((gt l next).op)).addEnd.length) c14, .slice a15 ((gt t.ops ((gt l next).op)).delEnd.length) c15, .int .i64 ((gt t.ops ((gt l next).op)).dur)]) rfl tA41 rfl (cellsH ((fun q => (q19951 q).mono (q13706)) (by decide)))) (.nil)))))))))) (.cons [(14, .pointer (some po)), (94, .agg #[.slice a9 ((gt t.ops ((gt l next).op)).atStart.length) c9, .slice a10 ((gt t.ops ((gt l next).op)).over.length) c10, .slice a11 ((gt t.ops ((gt l next).op)).atEnd.length) c11, .slice a12 ((gt t.ops ((gt l next).op)).addStart.length) c12, .slice a13 ((gt t.ops ((gt l next).op)).delStart.length) c13, .slice a14 ((gt t.ops ((gt l next).op)).addEnd.length) c14, .slice a15 ((gt t.ops ((gt l next).op)).delEnd.length) c15, .int .i64 ((gt t.ops ((gt l next).op)).dur)]), (86, .pointer (some (pt.add 3))), (87, .slice at_3 t.ops.length ct3), (88, .slice al2 l.length cl2), (89, .int .i64 next), (90, .pointer (some (ead al2 (next.toNat * 2)))), (91, .pointer (some ((ead al2 (next.toNat * 2)).add 0))), (92, .int .i64 ((gt l next).op)), (93, .pointer (some (ead at_3 (((gt l next).op).toNat * 8)))), (94, .agg #[.slice a9 ((gt t.ops ((gt l next).op)).atStart.length) c9, .slice a10 ((gt t.ops ((gt l next).op)).over.length) c10, .slice a11 ((gt t.ops ((gt l next).op)).atEnd.length) c11, .slice a12 ((gt t.ops ((gt l next).op)).addStart.length) c12, .slice a13 ((gt t.ops ((gt l next).op)).delStart.length) c13, .slice a14 ((gt t.ops ((gt l next).op)).addEnd.length) c14, .slice a15 ((gt t.ops ((gt l next).op)).delEnd.length) c15, .int .i64 ((gt t.ops ((gt l next).op)).dur)]), (14, .pointer (some po))] rfl rfl (fun sL hL => ?_) (.nil))
    refine st (p := po) (off := 0) (k := 0) (vs := [.slice a9 ((gt t.ops ((gt l next).op)).atStart.length) c9, .slice a10 ((gt t.ops ((gt l next).op)).over.length) c10, .slice a11 ((gt t.ops ((gt l next).op)).atEnd.length) c11, .slice a12 ((gt t.ops ((gt l next).op)).addStart.length) c12, .slice a13 ((gt t.ops ((gt l next).op)).delStart.length) c13, .slice a14 ((gt t.ops ((gt l next).op)).addEnd.length) c14, .slice a15 ((gt t.ops ((gt l next).op)).delEnd.length) c15, .int .i64 ((gt t.ops ((gt l next).op)).dur)]) rfl rfl rfl (fun w => (tA41 w).2) rfl rfl rfl rfl ?_
    refine .cast (A' := [Box po [.slice a9 ((gt t.ops ((gt l next).op)).atStart.length) c9, .slice a10 ((gt t.ops ((gt l next).op)).over.length) c10, .slice a11 ((gt t.ops ((gt l next).op)).atEnd.length) c11, .slice a12 ((gt t.ops ((gt l next).op)).addStart.length) c12, .slice a13 ((gt t.ops ((gt l next).op)).delStart.length) c13, .slice a14 ((gt t.ops ((gt l next).op)).addEnd.length) c14, .slice a15 ((gt t.ops ((gt l next).op)).delEnd.length) c15, .int .i64 ((gt t.ops ((gt l next).op)).dur)], Box pt [.int .i64 t.facts, .slice at_ t.init.length ct, .slice at_2 t.goal.length ct2, .slice at_3 t.ops.length ct3], OwnSl 3 1 a ((((l.length : Nat) : Int)).toNat) c (flL phase)]) rfl ?_
    refine .nil ?_
    refine .jaN (M := [8, 0, 1, 2, 3, 4, 5, 6, 7]) (C' := []) (pre := []) [1, 2, 6, 7, 9, 10, 11] hL rfl rfl rfl rfl rfl (by kernel_rfl) ?_
    refine .last [(86, .pointer (some (pt.add 3))), (87, .slice at_3 t.ops.length ct3), (88, .slice al2 l.length cl2), (89, .int .i64 next), (90, .pointer (some (ead al2 (next.toNat * 2)))), (91, .pointer (some ((ead al2 (next.toNat * 2)).add 0))), (92, .int .i64 ((gt l next).op)), (93, .pointer (some (ead at_3 (((gt l next).op).toNat * 8)))), (94, .agg #[.slice a9 ((gt t.ops ((gt l next).op)).atStart.length) c9, .slice a10 ((gt t.ops ((gt l next).op)).over.length) c10, .slice a11 ((gt t.ops ((gt l next).op)).atEnd.length) c11, .slice a12 ((gt t.ops ((gt l next).op)).addStart.length) c12, .slice a13 ((gt t.ops ((gt l next).op)).delStart.length) c13, .slice a14 ((gt t.ops ((gt l next).op)).addEnd.length) c14, .slice a15 ((gt t.ops ((gt l next).op)).delEnd.length) c15, .int .i64 ((gt t.ops ((gt l next).op)).dur)]), (14, .pointer (some po))] rfl (by kernel_rfl) (.nil) rfl ?_
    refine .seqN ?_
    refine .seq ?_
    refine .seq ?_
    refine .region ?_
    refine .v (mv rfl) rfl rfl rfl ?_
    refine .v (mv rfl) rfl rfl rfl ?_
    obtain ⟨q19952, hF⟩ := hF
    refine .v (ixS rfl rfl tS22 (k := 2) rfl (inb_n q19952 q13705)) rfl rfl rfl ?_
    refine .v (ld1 (v := .int .i64 (gt phase next)) rfl tO3 (cellS (k := 2) rfl (flL_get q19952 (j := 0) rfl))) rfl rfl rfl ?_
    refine .v (bi rfl rfl rfl) rfl rfl rfl ?_
    refine .nil ?_
    refine .seqN ?_
    refine .shareT (σ := List Int × Option Addr × Nat × FH) (fun z => F_timedR_J4 t l K next when s_ now step phase I1 μ1 z.1 ∧ RSl z.2.2.2 z.2.1 z.1 ∧ z.1.length ≤ z.2.2.1 ∧ FH.le h67 z.2.2.2) (fun z => [(1, .slice al2 l.length cl2), (2, .pointer (some pt)), (6, .slice a ((((l.length : Nat) : Int)).toNat) c), (7, .slice z.2.1 z.1.length z.2.2.1), (9, .int .i64 step), (10, .int .i64 next), (11, .int .i64 when)]) (fun _ => [Box pt [.int .i64 t.facts, .slice at_ t.init.length ct, .slice at_2 t.goal.length ct2, .slice at_3 t.ops.length ct3], OwnSl 3 1 a ((((l.length : Nat) : Int)).toNat) c (flL phase)]) (fun z => z.2.2.2) ?_ (fun q19973 => ?_)
    · rintro ⟨s_3, as4, cs3, h96⟩ ⟨hF, q19970, q19971, q19972⟩
      show J _ _ _ _ _ [(1, .slice al2 l.length cl2), (2, .pointer (some pt)), (6, .slice a ((((l.length : Nat) : Int)).toNat) c), (7, .slice as4 s_3.length cs3), (9, .int .i64 step), (10, .int .i64 next), (11, .int .i64 when)] [Box pt [.int .i64 t.facts, .slice at_ t.init.length ct, .slice at_2 t.goal.length ct2, .slice at_3 t.ops.length ct3], OwnSl 3 1 a ((((l.length : Nat) : Int)).toNat) c (flL phase)] h96
      refine .seq ?_
      refine .region ?_
      refine .v (mv rfl) rfl rfl rfl ?_
      refine .v (mv rfl) rfl rfl rfl ?_
      refine .v (ixS rfl rfl tS22 (k := 1) rfl (inb_n q19952 q13705)) rfl rfl rfl ?_
      refine .v (ld1 (v := .int .i64 (gt phase next)) rfl tO3 (cellS (k := 1) rfl (flL_get q19952 (j := 0) rfl))) rfl rfl rfl ?_
      refine .v (bi rfl rfl rfl) rfl rfl rfl ?_
      refine .v (ixS rfl rfl tS22 (k := 1) rfl (inb_n q19952 q13705)) rfl rfl rfl ?_
      obtain ⟨d, q19974⟩ : ∃ y_ : List Int, y_ = (phase.set (next).toNat (IntKind.i64.wrap ((gt phase next) + 1))) := ⟨_, rfl⟩
      replace hF := hF d q19974
      refine stS (k := 1) (cs' := flL d) rfl (fun _ => rfl) rfl rfl (fun w => (tO3 w).2) rfl rfl rfl (by rw [← q13705]; exact inb_pos q19952) (fl_room q19952) (by rw [q19974]; exact flL_set q19952 (IntKind.i64.wrap ((gt phase next) + 1))) ?_
      have q19975 : d.length = (((l.length : Nat) : Int)).toNat := by rw [q19974]; exact List.length_set.trans q13705
      refine .cast (A' := [Box pt [.int .i64 t.facts, .slice at_ t.init.length ct, .slice at_2 t.goal.length ct2, .slice at_3 t.ops.length ct3], OwnSl 3 1 a ((((l.length : Nat) : Int)).toNat) c (flL d)]) rfl ?_
      refine .nil ?_
      refine .seqN ?_
      refine .seq ?_
      refine .region ?_
      refine .v (mv rfl) rfl rfl rfl ?_
      refine .v (asg rfl) rfl rfl rfl ?_
      refine .nil ?_
      refine .seqN ?_
      refine .seq ?_
      refine .region ?_
      refine .v (asg rfl) rfl rfl rfl ?_
      refine .nil ?_
      refine .seqN ?_
      refine .block ?_
      obtain ⟨I3, μ3, q20244, q20245⟩ := hF
      refine .loop' (σ := Int) (fun z => I3 z) (fun z => μ3 z) (fun z => [(1, .slice al2 l.length cl2), (2, .pointer (some pt)), (6, .slice a ((((l.length : Nat) : Int)).toNat) c), (7, .slice as4 s_3.length cs3), (8, .int .i64 when), (9, .int .i64 step), (15, .int .i64 z)]) (fun _ => [Box pt [.int .i64 t.facts, .slice at_ t.init.length ct, .slice at_2 t.goal.length ct2, .slice at_3 t.ops.length ct3], OwnSl 3 1 a ((((l.length : Nat) : Int)).toNat) c (flL d)]) (fun _ => h96) 0 q20244 (.cons rfl (.cons rfl (.cons rfl (.cons rfl (.cons rfl (.cons rfl (.cons rfl (.nil)))))))) rfl (FH.le_refl _) ?_
      rintro i3 q20244
      have hF := q20245 i3 q20244
      show J _ _ _ _ _ [(1, .slice al2 l.length cl2), (2, .pointer (some pt)), (6, .slice a ((((l.length : Nat) : Int)).toNat) c), (7, .slice as4 s_3.length cs3), (8, .int .i64 when), (9, .int .i64 step), (15, .int .i64 i3)] [Box pt [.int .i64 t.facts, .slice at_ t.init.length ct, .slice at_2 t.goal.length ct2, .slice at_3 t.ops.length ct3], OwnSl 3 1 a ((((l.length : Nat) : Int)).toNat) c (flL d)] h96
      refine .seq ?_
      refine .seq ?_
      refine .region ?_
      refine .v (mv rfl) rfl rfl rfl ?_
      refine .v (mv rfl) rfl rfl rfl ?_
      refine .v (ln rfl tS26.is) rfl rfl rfl ?_
      refine .v (bi rfl rfl rfl) rfl rfl rfl ?_
      refine .nil ?_
      refine .seqN ?_
      refine .cond rfl (fun q20247 => ?_) (fun q20247 => ?_)
      · replace hF := hF.1 q20247
        refine .skip ?_
        refine .seqN ?_
        refine .seq ?_
        refine .block ?_
        refine .share (σ := Bool) (fun z => F_timedR_J5 K z i3 I3 μ3) (fun z => [(1, .slice al2 l.length cl2), (2, .pointer (some pt)), (6, .slice a ((((l.length : Nat) : Int)).toNat) c), (7, .slice as4 s_3.length cs3), (8, .int .i64 when), (9, .int .i64 step), (15, .int .i64 i3), (158, .bool z)]) (fun _ => [Box pt [.int .i64 t.facts, .slice at_ t.init.length ct, .slice at_2 t.goal.length ct2, .slice at_3 t.ops.length ct3], OwnSl 3 1 a ((((l.length : Nat) : Int)).toNat) c (flL d)]) (fun _ => h96) ?_ (fun q20357 => ?_)
        · rintro t158 hF
          show J _ _ _ _ _ [(1, .slice al2 l.length cl2), (2, .pointer (some pt)), (6, .slice a ((((l.length : Nat) : Int)).toNat) c), (7, .slice as4 s_3.length cs3), (8, .int .i64 when), (9, .int .i64 step), (15, .int .i64 i3), (158, .bool t158)] [Box pt [.int .i64 t.facts, .slice at_ t.init.length ct, .slice at_2 t.goal.length ct2, .slice at_3 t.ops.length ct3], OwnSl 3 1 a ((((l.length : Nat) : Int)).toNat) c (flL d)] h96
          refine .cond rfl (fun q20358 => ?_) (fun q20358 => ?_)
          · replace hF := hF.1 q20358
            refine .seq ?_
            refine .region ?_
            refine .v (asg rfl) rfl rfl rfl ?_
            refine .v (asg rfl) rfl rfl rfl ?_
            refine .nil ?_
            refine .seqN ?_
            refine .ret ?_
            refine .blkR ?_
            refine .seqR ?_
            refine .seqR ?_
            refine .blkR ?_
            refine .blkR ?_
            refine .seqR ?_
            refine .seqR ?_
            refine .blkR ?_
            refine .seqR ?_
            refine .res2 rfl (rvT rfl) (rvT rfl) (fun w' S => ⟨(0, false), hF, rfl, S.below⟩)
          replace hF := hF.2 q20358
          refine .skip ?_
          refine .blkN ?_
          refine .seqN ?_
          refine .region ?_
          refine .v (mv rfl) rfl rfl rfl ?_
          refine .v (bi rfl rfl rfl) rfl rfl rfl ?_
          refine .v (asg rfl) rfl rfl rfl ?_
          refine .nil ?_
          exact .round (IntKind.i64.wrap (i3 + 1)) hF.1 hF.2 (.cons rfl (.cons rfl (.cons rfl (.cons rfl (.cons rfl (.cons rfl (.cons rfl (.nil)))))))) rfl (FH.le_refl _)
        refine .open_ (by kernel_rfl) (by kernel_rfl) ?_
        refine .v (mv rfl) rfl rfl rfl ?_
        refine .v (mv rfl) rfl rfl rfl ?_
        obtain ⟨q20359, hF⟩ := hF
        refine .v (ixS rfl rfl tS22 (k := 1) rfl (inb_n q20359 q19975)) rfl rfl rfl ?_
        refine .v (ld1 (v := .int .i64 (gt d i3)) rfl tO3 (cellS (k := 1) rfl (flL_get q20359 (j := 0) rfl))) rfl rfl rfl ?_
        refine .v (bi rfl rfl rfl) rfl rfl rfl ?_
        refine .v (mv rfl) rfl rfl rfl ?_
        rcases Bool.eq_false_or_eq_true ((gt d i3) == 1) with q20360 | q20360
        · replace hF := hF.1 q20360
          refine .gv (fa rfl tF25_3) rfl rfl rfl q20360 rfl rfl ?_
          refine .gv (ld1 rfl tO23 (cellB (off := 3) (k := 0) rfl rfl)) rfl rfl rfl q20360 rfl rfl ?_
          refine .gv (mv rfl) rfl rfl rfl q20360 rfl rfl ?_
          refine .gv (mv rfl) rfl rfl rfl q20360 rfl rfl ?_
          obtain ⟨q20361, hF⟩ := hF
          refine .gv (ix rfl rfl tS26 (_q7.ne (by decide) (inb_pos q20361)) q20361) rfl rfl rfl q20360 rfl rfl ?_
          refine .gv (fa rfl tF38_0) rfl rfl rfl q20360 rfl rfl ?_
          refine .gv (ld1 (v := .int .i64 ((gt l i3).op)) rfl tO3 (cellH ((_q7.mono (FH.le_trans (q13706) (q19972))).elemF q20361 (by decide) 0 _ rfl))) rfl rfl rfl q20360 rfl rfl ?_
          obtain ⟨q20362, hF⟩ := hF
          refine .gv (ix rfl rfl tS23 (_q5.ne (by decide) (inb_pos q20362)) q20362) rfl rfl rfl q20360 rfl rfl ?_
          refine .gv (fa rfl tF41_1) rfl rfl rfl q20360 rfl rfl ?_
          obtain ⟨_, ⟨a16, c16, a17, c17, a18, c18, a19, c19, a20, c20, a21, c21, a22, c22, rfl, ⟨q20363, q20364⟩, ⟨q20365, q20366⟩, ⟨q20367, q20368⟩, ⟨q20369, q20370⟩, ⟨q20371, q20372⟩, ⟨q20373, q20374⟩, q20375, q20376⟩, q20377⟩ := _q5.elem q20362
          refine .gv (ld1 (v := .slice a17 ((gt t.ops ((gt l i3).op)).over.length) c17) rfl tO22 (cellH ((fun q => (q20377 q).mono (FH.le_trans (q13706) (q19972))) (by decide) 1 _ rfl))) rfl rfl rfl q20360 rfl rfl ?_
          refine .gv (mv rfl) rfl rfl rfl q20360 rfl rfl ?_
          obtain ⟨q20378, hF⟩ := hF
          obtain ⟨r2, q20379⟩ : ∃ y_ : Bool, y_ = sp_subset ((gt t.ops ((gt l i3).op)).over) s_3 := ⟨_, rfl⟩
          replace hF := hF r2 q20379
          refine .gc (cl (v := .bool r2) Try.call33 rfl rfl (fun w S => (by rw [q20379]; exact c_subset S.sub ((gt t.ops ((gt l i3).op)).over) a17 c17 (q20366.mono (FH.le_trans (q13706) (q19972))) q20365 s_3 as4 cs3 q19970 q19971 q20378))) rfl rfl rfl q20360 rfl rfl ?_
          refine .gv (nt rfl) rfl rfl rfl q20360 rfl rfl ?_
          refine .v (pkT rfl q20360 rfl) rfl rfl rfl ?_
          refine .fin ?_
          exact .use q20357 (!r2) hF (.cons rfl (.cons rfl (.cons rfl (.cons rfl (.cons rfl (.cons rfl (.cons rfl (.cons rfl (.nil))))))))) rfl (FH.le_refl _)
        replace hF := hF.2 q20360
        refine .gS rfl rfl rfl q20360 rfl rfl ?_
        refine .gS rfl rfl rfl q20360 rfl rfl ?_
        refine .gS rfl rfl rfl q20360 rfl rfl ?_
        refine .gS rfl rfl rfl q20360 rfl rfl ?_
        refine .gS rfl rfl rfl q20360 rfl rfl ?_
        refine .gS rfl rfl rfl q20360 rfl rfl ?_
        refine .gS rfl rfl rfl q20360 rfl rfl ?_
        refine .gS rfl rfl rfl q20360 rfl rfl ?_
        refine .gS rfl rfl rfl q20360 rfl rfl ?_
        refine .gS rfl rfl rfl q20360 rfl rfl ?_
        refine .gS rfl rfl rfl q20360 rfl rfl ?_
        refine .gS rfl rfl rfl q20360 rfl rfl ?_
        refine .gS rfl rfl rfl q20360 rfl rfl ?_
        refine .v (pkF rfl q20360 rfl) rfl rfl rfl ?_
        refine .fin ?_
        exact .use q20357 false hF (.cons rfl (.cons rfl (.cons rfl (.cons rfl (.cons rfl (.cons rfl (.cons rfl (.cons rfl (.nil))))))))) rfl (FH.le_refl _)
      replace hF := hF.2 q20247
      refine .exit ?_
      refine .seqX ?_
      refine .seqX ?_
      refine .blkX ?_
      refine .blkN ?_
      refine .seqN ?_
      refine .region ?_
      refine .v (mv rfl) rfl rfl rfl ?_
      refine .v (bi rfl rfl rfl) rfl rfl rfl ?_
      refine .v (asg rfl) rfl rfl rfl ?_
      refine .nil ?_
      exact .round (s_3, when, IntKind.i64.wrap (step + 1), d, as4, cs3, h96) ⟨hF.1, q19970, q19971, q19975, (FH.le_trans (q13706) (q19972))⟩ hF.2 (.cons rfl (.cons rfl (.cons rfl (.cons rfl (.cons rfl (.cons rfl (.nil))))))) rfl (FH.le_refl _)
    refine .cond rfl (fun q20380 => ?_) (fun q20380 => ?_)
    · replace hF := hF.1 q20380
      refine .seq ?_
      refine .seq ?_
      refine .region ?_
      refine .v (fa rfl tF41_0) rfl rfl rfl ?_
      refine .v (ld1 rfl tO22 (cellB (off := 0) (k := 0) rfl rfl)) rfl rfl rfl ?_
      refine .v (mv rfl) rfl rfl rfl ?_
      obtain ⟨q20381, hF⟩ := hF
      obtain ⟨r3, q20382⟩ : ∃ y_ : Bool, y_ = sp_subset ((gt t.ops ((gt l next).op)).atStart) s_ := ⟨_, rfl⟩
      replace hF := hF r3 q20382
      refine .c (cl (v := .bool r3) Try.call33 rfl rfl (fun w S => (by rw [q20382]; exact c_subset S.sub ((gt t.ops ((gt l next).op)).atStart) a9 c9 (q19938.mono (q13706)) q19937 s_ as2 cs q13703 q13704 q20381))) rfl rfl rfl ?_
      refine .v (nt rfl) rfl rfl rfl ?_
      refine .nil ?_
      refine .seqN ?_
      refine .cond rfl (fun q20384 => ?_) (fun q20384 => ?_)
      · replace hF := hF.1 q20384
        refine .seq ?_
        refine .region ?_
        refine .v (asg rfl) rfl rfl rfl ?_
        refine .v (asg rfl) rfl rfl rfl ?_
        refine .nil ?_
        refine .seqN ?_
        refine .ret ?_
        refine .seqR ?_
        refine .seqR ?_
        refine .blkR ?_
        refine .seqR ?_
        refine .seqR ?_
        refine .blkR ?_
        refine .seqR ?_
        refine .res2 rfl (rvT rfl) (rvT rfl) (fun w' S => ⟨(0, false), hF, rfl, S.below⟩)
      replace hF := hF.2 q20384
      refine .skip ?_
      refine .seqN ?_
      refine .region ?_
      refine .v (fa rfl tF25_0) rfl rfl rfl ?_
      refine .v (ld1 rfl tO3 (cellB (off := 0) (k := 1) rfl rfl)) rfl rfl rfl ?_
      refine .v (mv rfl) rfl rfl rfl ?_
      refine .v (fa rfl tF41_3) rfl rfl rfl ?_
      refine .v (ld1 rfl tO22 (cellB (off := 3) (k := 0) rfl rfl)) rfl rfl rfl ?_
      refine .v (fa rfl tF41_4) rfl rfl rfl ?_
      refine .v (ld1 rfl tO22 (cellB (off := 4) (k := 0) rfl rfl)) rfl rfl rfl ?_
      obtain ⟨q20385, hF⟩ := hF
      obtain ⟨r4, q20386⟩ : ∃ y_ : List Int, y_ = sp_changed t.facts s_ ((gt t.ops ((gt l next).op)).addStart) ((gt t.ops ((gt l next).op)).delStart) := ⟨_, rfl⟩
      replace hF := hF r4 q20386
      refine clR (α := Option Addr × Nat) (Φ := fun h1 z => RSl h1 z.1 r4 ∧ r4.length ≤ z.2) (V := fun z => .slice z.1 r4.length z.2) Try.call34 rfl rfl (fun w S => (by rw [q20386]; exact c_changed S.sub t.facts s_ as2 cs q13703 q13704 ((gt t.ops ((gt l next).op)).addStart) a12 c12 (q19944.mono (q13706)) q19943 ((gt t.ops ((gt l next).op)).delStart) a13 c13 (q19946.mono (q13706)) q19945 q20385)) rfl (fun z h97 le97 hz => ?_)
      obtain ⟨a23, c23⟩ := z
      obtain ⟨q20387, q20388⟩ := hz
      refine .v (asg rfl) rfl rfl rfl ?_
      refine .nil ?_
      refine .sel0 [1, 2] (by decide) rfl ?_
      exact .use q19973 (r4, a23, c23, h97) ⟨hF, q20387, q20388, (le97)⟩ (.cons rfl (.cons rfl (.cons rfl (.cons rfl (.cons rfl (.cons rfl (.cons rfl (.nil)))))))) rfl (FH.le_refl _)
    replace hF := hF.2 q20380
    refine .seq ?_
    refine .seq ?_
    refine .region ?_
    refine .v (fa rfl tF41_2) rfl rfl rfl ?_
    refine .v (ld1 rfl tO22 (cellB (off := 2) (k := 0) rfl rfl)) rfl rfl rfl ?_
    refine .v (mv rfl) rfl rfl rfl ?_
    obtain ⟨q20389, hF⟩ := hF
    obtain ⟨r5, q20390⟩ : ∃ y_ : Bool, y_ = sp_subset ((gt t.ops ((gt l next).op)).atEnd) s_ := ⟨_, rfl⟩
    replace hF := hF r5 q20390
    refine .c (cl (v := .bool r5) Try.call33 rfl rfl (fun w S => (by rw [q20390]; exact c_subset S.sub ((gt t.ops ((gt l next).op)).atEnd) a11 c11 (q19942.mono (q13706)) q19941 s_ as2 cs q13703 q13704 q20389))) rfl rfl rfl ?_
    refine .v (nt rfl) rfl rfl rfl ?_
    refine .nil ?_
    refine .seqN ?_
    refine .cond rfl (fun q20392 => ?_) (fun q20392 => ?_)
    · replace hF := hF.1 q20392
      refine .seq ?_
      refine .region ?_
      refine .v (asg rfl) rfl rfl rfl ?_
      refine .v (asg rfl) rfl rfl rfl ?_
      refine .nil ?_
      refine .seqN ?_
      refine .ret ?_
      refine .seqR ?_
      refine .seqR ?_
      refine .blkR ?_
      refine .seqR ?_
      refine .seqR ?_
      refine .blkR ?_
      refine .seqR ?_
      refine .res2 rfl (rvT rfl) (rvT rfl) (fun w' S => ⟨(0, false), hF, rfl, S.below⟩)
    replace hF := hF.2 q20392
    refine .skip ?_
    refine .seqN ?_
    refine .region ?_
    refine .v (fa rfl tF25_0) rfl rfl rfl ?_
    refine .v (ld1 rfl tO3 (cellB (off := 0) (k := 1) rfl rfl)) rfl rfl rfl ?_
    refine .v (mv rfl) rfl rfl rfl ?_
    refine .v (fa rfl tF41_5) rfl rfl rfl ?_
    refine .v (ld1 rfl tO22 (cellB (off := 5) (k := 0) rfl rfl)) rfl rfl rfl ?_
    refine .v (fa rfl tF41_6) rfl rfl rfl ?_
    refine .v (ld1 rfl tO22 (cellB (off := 6) (k := 0) rfl rfl)) rfl rfl rfl ?_
    obtain ⟨q20393, hF⟩ := hF
    obtain ⟨r6, q20394⟩ : ∃ y_ : List Int, y_ = sp_changed t.facts s_ ((gt t.ops ((gt l next).op)).addEnd) ((gt t.ops ((gt l next).op)).delEnd) := ⟨_, rfl⟩
    replace hF := hF r6 q20394
    refine clR (α := Option Addr × Nat) (Φ := fun h1 z => RSl h1 z.1 r6 ∧ r6.length ≤ z.2) (V := fun z => .slice z.1 r6.length z.2) Try.call34 rfl rfl (fun w S => (by rw [q20394]; exact c_changed S.sub t.facts s_ as2 cs q13703 q13704 ((gt t.ops ((gt l next).op)).addEnd) a14 c14 (q19948.mono (q13706)) q19947 ((gt t.ops ((gt l next).op)).delEnd) a15 c15 (q19950.mono (q13706)) q19949 q20393)) rfl (fun z h98 le98 hz => ?_)
    obtain ⟨a24, c24⟩ := z
    obtain ⟨q20395, q20396⟩ := hz
    refine .v (asg rfl) rfl rfl rfl ?_
    refine .nil ?_
    refine .sel0 [1, 2] (by decide) rfl ?_
    exact .use q19973 (r6, a24, c24, h98) ⟨hF, q20395, q20396, (le98)⟩ (.cons rfl (.cons rfl (.cons rfl (.cons rfl (.cons rfl (.cons rfl (.cons rfl (.nil)))))))) rfl (FH.le_refl _)
  replace hF := hF.2 q17057
  refine .exit ?_
  refine .seqX ?_
  refine .seqX ?_
  refine .blkX ?_
  refine .seqN ?_
  refine .seq ?_
  refine .seq ?_
  refine .region ?_
  refine .v (fa rfl tF25_2) rfl rfl rfl ?_
  refine .v (ld1 rfl tO22 (cellB (off := 2) (k := 0) rfl rfl)) rfl rfl rfl ?_
  refine .v (mv rfl) rfl rfl rfl ?_
  obtain ⟨q20397, hF⟩ := hF
  obtain ⟨r7, q20398⟩ : ∃ y_ : Bool, y_ = sp_subset t.goal s_ := ⟨_, rfl⟩
  replace hF := hF r7 q20398
  refine .c (cl (v := .bool r7) Try.call33 rfl rfl (fun w S => (by rw [q20398]; exact c_subset S.sub t.goal at_2 ct2 (_q3.mono (q13706)) _q4 s_ as2 cs q13703 q13704 q20397))) rfl rfl rfl ?_
  refine .v (nt rfl) rfl rfl rfl ?_
  refine .nil ?_
  refine .seqN ?_
  refine .cond rfl (fun q20400 => ?_) (fun q20400 => ?_)
  · replace hF := hF.1 q20400
    refine .seq ?_
    refine .region ?_
    refine .v (asg rfl) rfl rfl rfl ?_
    refine .v (asg rfl) rfl rfl rfl ?_
    refine .nil ?_
    refine .seqN ?_
    refine .ret ?_
    refine .seqR ?_
    refine .res2 rfl (rvT rfl) (rvT rfl) (fun w' S => ⟨(0, false), hF, rfl, S.below⟩)
  replace hF := hF.2 q20400
  refine .skip ?_
  refine .seqN ?_
  refine .seq ?_
  refine .region ?_
  refine .v (mv rfl) rfl rfl rfl ?_
  refine .v (asg rfl) rfl rfl rfl ?_
  refine .v (asg rfl) rfl rfl rfl ?_
  refine .nil ?_
  refine .seqN ?_
  refine .ret ?_
  refine .res2 rfl (rvT rfl) (rvT rfl) (fun w' S => ⟨(now, true), hF, rfl, S.below⟩)

theorem c_timedR {h : FH} {w : World} (hs : Sub h w) (t : TTask) (at_ : Option Addr) (ct : Nat) (_q1 : RSl h at_ t.init) (_q2 : t.init.length ≤ ct) (at_2 : Option Addr) (ct2 : Nat) (_q3 : RSl h at_2 t.goal) (_q4 : t.goal.length ≤ ct2) (at_3 : Option Addr) (ct3 : Nat) (_q5 : RSl h at_3 t.ops) (_q6 : t.ops.length ≤ ct3) (l : List Occ) (al2 : Option Addr) (cl2 : Nat) (_q7 : RSl h al2 l) (_q8 : l.length ≤ cl2) (hp : pre_timedR t l) : Calls Try.prog 14 #[.agg #[.int .i64 t.facts, .slice at_ t.init.length ct, .slice at_2 t.goal.length ct2, .slice at_3 t.ops.length ct3], .slice al2 l.length cl2] w fun e w' => e = .returned (.tuple #[.int .i64 (sp_timedR t l).1, .bool (sp_timedR t l).2]) ∧ Below w.heap.size w w' :=
  (w_timedR hs t at_ ct _q1 _q2 at_2 ct2 _q3 _q4 at_3 ct3 _q5 _q6 l al2 cl2 _q7 _q8 (fun r => r = sp_timedR t l) (ok_timedR t l hp)).mono fun _ _ ⟨_, hk, he, hb⟩ => ⟨by rw [he, hk], hb⟩

set_option maxHeartbeats 8000000 in
theorem w_sequence {h : FH} {w : World} (hs : Sub h w) (t : TTask) (at_ : Option Addr) (ct : Nat) (_q1 : RSl h at_ t.init) (_q2 : t.init.length ≤ ct) (at_2 : Option Addr) (ct2 : Nat) (_q3 : RSl h at_2 t.goal) (_q4 : t.goal.length ≤ ct2) (at_3 : Option Addr) (ct3 : Nat) (_q5 : RSl h at_3 t.ops) (_q6 : t.ops.length ≤ ct3) (K : (Task × Fault) → Prop) (hF : F_sequence t K) : Calls Try.prog 19 #[.agg #[.int .i64 t.facts, .slice at_ t.init.length ct, .slice at_2 t.goal.length ct2, .slice at_3 t.ops.length ct3]] w fun e w' => ∃ (r : Task × Fault) (z : Option Addr × Nat × Option Addr × Nat × Option Addr × Nat) (h1 : FH), K r ∧ e = .returned (.tuple #[.agg #[.int .i64 r.1.facts, .slice z.1 r.1.init.length z.2.1, .slice z.2.2.1 r.1.goal.length z.2.2.2.1, .slice z.2.2.2.2.1 r.1.ops.length z.2.2.2.2.2], .agg #[.int .i64 r.2.code, .int .i64 r.2.index]]) ∧ FH.le h h1 ∧ (RSl h1 z.1 r.1.init ∧ r.1.init.length ≤ z.2.1 ∧ RSl h1 z.2.2.1 r.1.goal ∧ r.1.goal.length ≤ z.2.2.2.1 ∧ RSl h1 z.2.2.2.2.1 r.1.ops ∧ r.1.ops.length ≤ z.2.2.2.2.2) ∧ SH (Kp.all w h) h1 w' [] := by
  refine enter (args := [.agg #[.int .i64 t.facts, .slice at_ t.init.length ct, .slice at_2 t.goal.length ct2, .slice at_3 t.ops.length ct3]]) Try.func19 rfl Try.ntmps19 rfl hs ?_
  refine .seq ?_
  refine .region ?_
  refine bx (vs := [.int .i64 t.facts, .slice at_ t.init.length ct, .slice at_2 t.goal.length ct2, .slice at_3 t.ops.length ct3]) rfl rfl rfl (fun pt => ?_)
  refine al tZ50 rfl (fun pv => ?_)
  refine al tZ28 rfl (fun pv2 => ?_)
  refine .nil ?_
  refine .seqN ?_
  refine .seq ?_
  refine .seq ?_
  refine .region ?_
  refine .v (ldA (cs := [.int .i64 t.facts, .slice at_ t.init.length ct, .slice at_2 t.goal.length ct2, .slice at_3 t.ops.length ct3]) rfl tA25 rfl (cellsB (off := 0) (k := 2) rfl (m := 4) rfl)) rfl rfl rfl ?_
  obtain ⟨r2, q7⟩ : ∃ y_ : Fault, y_ = sp_tvalidate t := ⟨_, rfl⟩
  replace hF := hF r2 q7
  refine .c (cl (v := .agg #[.int .i64 r2.code, .int .i64 r2.index]) Try.call11 rfl rfl (fun w S => (by rw [q7]; exact c_tvalidate S.sub t at_ ct _q1 _q2 at_2 ct2 _q3 _q4 at_3 ct3 _q5 _q6 ))) rfl rfl rfl ?_
  refine al tZ28 rfl (fun pf => ?_)
  refine st (p := pf) (off := 0) (k := 0) (vs := [.int .i64 r2.code, .int .i64 r2.index]) rfl rfl rfl (fun w => (tA28 w).2) rfl rfl rfl rfl ?_
  refine .cast (A' := [Box pf [.int .i64 r2.code, .int .i64 r2.index], Box pv2 [.int .i64 0, .int .i64 0], Box pv [.int .i64 0, .slice none 0 0, .slice none 0 0, .slice none 0 0], Box pt [.int .i64 t.facts, .slice at_ t.init.length ct, .slice at_2 t.goal.length ct2, .slice at_3 t.ops.length ct3]]) rfl ?_
  refine .nil ?_
  refine .seqN ?_
  refine .seq ?_
  refine .region ?_
  refine .v (ldA (cs := [.int .i64 r2.code, .int .i64 r2.index]) rfl tA28 rfl (cellsB (off := 0) (k := 0) rfl (m := 2) rfl)) rfl rfl rfl ?_
  refine .v (bld (cs := #[.int .i64 0, .int .i64 0]) (pv := []) tB28 rfl rfl) rfl rfl rfl ?_
  refine .v (ne2 tE28 rfl rfl) rfl rfl rfl ?_
  refine .nil ?_
  refine .seqN ?_
  refine .cond rfl (fun q9 => ?_) (fun q9 => ?_)
  · replace hF := hF.1 q9
    refine .seq ?_
    refine .openA (s0 := [(2, .pointer (some pv)), (3, .pointer (some pv2)), (4, .pointer (some pf))]) [0, 1] [(0, .agg #[.int .i64 0, .slice none 0 0, .slice none 0 0, .slice none 0 0]), (1, .agg #[.int .i64 r2.code, .int .i64 r2.index])] (by kernel_rfl) (.cons rfl (.cons rfl (.cons rfl (.nil)))) [2, 3, 4] [] rfl (by kernel_rfl) ?_
    refine .step [2] 2 rfl (by kernel_rfl) (by kernel_rfl) (.v [] rfl rfl rfl rfl rfl rfl (fun _ => bld (cs := #[.int .i64 0, .slice none 0 0, .slice none 0 0, .slice none 0 0]) (pv := []) tB50 rfl rfl) (.v [] rfl rfl rfl rfl rfl rfl (fun _ => ldA (cs := [.int .i64 r2.code, .int .i64 r2.index]) rfl tA28 rfl (cellsB (off := 0) (k := 0) rfl (m := 2) rfl)) (.nil))) (.cons [(17, .agg #[.int .i64 0, .slice none 0 0, .slice none 0 0, .slice none 0 0]), (17, .agg #[.int .i64 0, .slice none 0 0, .slice none 0 0, .slice none 0 0])] rfl rfl (fun sL hL => ?_) (.nil))
    refine st (p := pv) (off := 0) (k := 2) (vs := [.int .i64 0, .slice none 0 0, .slice none 0 0, .slice none 0 0]) rfl rfl rfl (fun w => (tA50 w).2) rfl rfl rfl rfl ?_
    refine .cast (A' := [Box pf [.int .i64 r2.code, .int .i64 r2.index], Box pv2 [.int .i64 0, .int .i64 0], Box pv [.int .i64 0, .slice none 0 0, .slice none 0 0, .slice none 0 0], Box pt [.int .i64 t.facts, .slice at_ t.init.length ct, .slice at_2 t.goal.length ct2, .slice at_3 t.ops.length ct3]]) rfl ?_
    refine .nil ?_
    refine .jaN (M := [0]) (C' := [1]) (pre := []) [2, 3, 4] hL rfl rfl rfl rfl rfl (by kernel_rfl) ?_
    refine .step [3] 3 rfl (by kernel_rfl) (by kernel_rfl) (.v [] rfl rfl rfl rfl rfl rfl (fun _ => ldA (cs := [.int .i64 r2.code, .int .i64 r2.index]) rfl tA28 rfl (cellsB (off := 0) (k := 0) rfl (m := 2) rfl)) (.nil)) (.cons [(18, .agg #[.int .i64 r2.code, .int .i64 r2.index]), (17, .agg #[.int .i64 0, .slice none 0 0, .slice none 0 0, .slice none 0 0]), (18, .agg #[.int .i64 r2.code, .int .i64 r2.index])] rfl rfl (fun sL hL => ?_) (.nil))
    refine st (p := pv2) (off := 0) (k := 1) (vs := [.int .i64 r2.code, .int .i64 r2.index]) rfl rfl rfl (fun w => (tA28 w).2) rfl rfl rfl rfl ?_
    refine .cast (A' := [Box pf [.int .i64 r2.code, .int .i64 r2.index], Box pv2 [.int .i64 r2.code, .int .i64 r2.index], Box pv [.int .i64 0, .slice none 0 0, .slice none 0 0, .slice none 0 0], Box pt [.int .i64 t.facts, .slice at_ t.init.length ct, .slice at_2 t.goal.length ct2, .slice at_3 t.ops.length ct3]]) rfl ?_
    refine .nil ?_
    refine .jaN (M := [1]) (C' := []) (pre := []) [2, 3, 4] hL rfl rfl rfl rfl rfl (by kernel_rfl) ?_
    refine .last [(17, .agg #[.int .i64 0, .slice none 0 0, .slice none 0 0, .slice none 0 0]), (18, .agg #[.int .i64 r2.code, .int .i64 r2.index])] rfl (by kernel_rfl) (.nil) rfl ?_
    refine .seqN ?_
    refine .ret ?_
    refine .seqR ?_
    refine .res2 rfl (rvC rfl tA50 (k := 2) rfl rfl) (rvC rfl tA28 (k := 1) rfl rfl) (fun w' S => ⟨((⟨0, [], [], []⟩ : Task), r2), (none, 0, none, 0, none, 0), h, hF, rfl, (FH.le_refl _), ⟨RSl.nil_, (Nat.le_refl 0), RSl.nil_, (Nat.le_refl 0), RSl.nil_, (Nat.le_refl 0)⟩, S.none⟩)
  replace hF := hF.2 q9
  refine .skip ?_
  refine .seqN ?_
  refine .share (σ := List Int × List Int × Addr × Option Addr × Nat × Option Addr × Nat × FH) (fun z => F_sequence_J1 t K z.1 z.2.1 ∧ RSl z.2.2.2.2.2.2.2 z.2.2.2.1 z.1 ∧ z.1.length ≤ z.2.2.2.2.1 ∧ RSl z.2.2.2.2.2.2.2 z.2.2.2.2.2.1 z.2.1 ∧ z.2.1.length ≤ z.2.2.2.2.2.2.1 ∧ FH.le h z.2.2.2.2.2.2.2) (fun z => [(1, .pointer (some pt)), (2, .pointer (some pv)), (3, .pointer (some pv2)), (5, .pointer (some z.2.2.1))]) (fun z => [Box pt [.int .i64 t.facts, .slice at_ t.init.length ct, .slice at_2 t.goal.length ct2, .slice at_3 t.ops.length ct3], Box pv [.int .i64 0, .slice none 0 0, .slice none 0 0, .slice none 0 0], Box pv2 [.int .i64 0, .int .i64 0], Box z.2.2.1 [.int .i64 (IntKind.i64.wrap (t.facts + 1)), .slice z.2.2.2.1 z.1.length z.2.2.2.2.1, .slice z.2.2.2.2.2.1 z.2.1.length z.2.2.2.2.2.2.1, .slice none 0 0]]) (fun z => z.2.2.2.2.2.2.2) ?_ (fun q35 => ?_)
  · rintro ⟨x, x2, p, ax, cx, ax2, cx2, h6⟩ ⟨hF, q30, q31, q32, q33, q34⟩
    show J _ _ _ _ _ [(1, .pointer (some pt)), (2, .pointer (some pv)), (3, .pointer (some pv2)), (5, .pointer (some p))] [Box pt [.int .i64 t.facts, .slice at_ t.init.length ct, .slice at_2 t.goal.length ct2, .slice at_3 t.ops.length ct3], Box pv [.int .i64 0, .slice none 0 0, .slice none 0 0, .slice none 0 0], Box pv2 [.int .i64 0, .int .i64 0], Box p [.int .i64 (IntKind.i64.wrap (t.facts + 1)), .slice ax x.length cx, .slice ax2 x2.length cx2, .slice none 0 0]] h6
    refine .seq ?_
    refine .seq ?_
    refine .region ?_
    refine .v (fa rfl tF25_3) rfl rfl rfl ?_
    refine .v (ld1 rfl tO23 (cellB (off := 3) (k := 0) rfl rfl)) rfl rfl rfl ?_
    refine .v (ln rfl tS23.is) rfl rfl rfl ?_
    refine .v (mv rfl) rfl rfl rfl ?_
    refine .nil ?_
    refine .seqN ?_
    refine .block ?_
    refine .nilSl 73 4 ?_
    refine .cast (A' := [OwnSl 73 4 none (([] : List Operator).length) 0 [], Box pt [.int .i64 t.facts, .slice at_ t.init.length ct, .slice at_2 t.goal.length ct2, .slice at_3 t.ops.length ct3], Box pv [.int .i64 0, .slice none 0 0, .slice none 0 0, .slice none 0 0], Box pv2 [.int .i64 0, .int .i64 0], Box p [.int .i64 (IntKind.i64.wrap (t.facts + 1)), .slice ax x.length cx, .slice ax2 x2.length cx2, .slice none 0 0]]) rfl ?_
    refine .sel0 [1, 2, 3, 4, 0] (by decide) rfl ?_
    obtain ⟨I1, μ1, q894, q895⟩ := hF
    refine .loop' (σ := Int × List Operator × Option Addr × Nat × List Value × FH) (fun z => I1 z.1 z.2.1 ∧ RepL z.2.2.2.2.2 z.2.1 z.2.2.2.2.1 ∧ FH.le h6 z.2.2.2.2.2) (fun z => μ1 z.1 z.2.1) (fun z => [(1, .pointer (some pt)), (2, .pointer (some pv)), (3, .pointer (some pv2)), (5, .pointer (some p)), (30, .slice at_3 t.ops.length ct3), (31, .int .i64 ((t.ops.length : Nat) : Int)), (32, .int .i64 z.1)]) (fun z => [Box pt [.int .i64 t.facts, .slice at_ t.init.length ct, .slice at_2 t.goal.length ct2, .slice at_3 t.ops.length ct3], Box pv [.int .i64 0, .slice none 0 0, .slice none 0 0, .slice none 0 0], Box pv2 [.int .i64 0, .int .i64 0], Box p [.int .i64 (IntKind.i64.wrap (t.facts + 1)), .slice ax x.length cx, .slice ax2 x2.length cx2, .slice z.2.2.1 z.2.1.length z.2.2.2.1], OwnSl 73 4 z.2.2.1 z.2.1.length z.2.2.2.1 z.2.2.2.2.1]) (fun z => z.2.2.2.2.2) (0, ([] : List Operator), none, 0, [], h6) ⟨q894, (show RepL h6 ([] : List Operator) [] from rfl), (FH.le_refl _)⟩ (.cons rfl (.cons rfl (.cons rfl (.cons rfl (.cons rfl (.cons rfl (.cons rfl (.nil)))))))) rfl (FH.le_refl _) ?_
    rintro ⟨t32, l, al2, cl2, csl, h61⟩ ⟨q894, q722, q723⟩
    have hF := q895 t32 l q894
    show J _ _ _ _ _ [(1, .pointer (some pt)), (2, .pointer (some pv)), (3, .pointer (some pv2)), (5, .pointer (some p)), (30, .slice at_3 t.ops.length ct3), (31, .int .i64 ((t.ops.length : Nat) : Int)), (32, .int .i64 t32)] [Box pt [.int .i64 t.facts, .slice at_ t.init.length ct, .slice at_2 t.goal.length ct2, .slice at_3 t.ops.length ct3], Box pv [.int .i64 0, .slice none 0 0, .slice none 0 0, .slice none 0 0], Box pv2 [.int .i64 0, .int .i64 0], Box p [.int .i64 (IntKind.i64.wrap (t.facts + 1)), .slice ax x.length cx, .slice ax2 x2.length cx2, .slice al2 l.length cl2], OwnSl 73 4 al2 l.length cl2 csl] h61
    refine .seq ?_
    refine .region ?_
    refine .v (bi rfl rfl rfl) rfl rfl rfl ?_
    refine .nil ?_
    refine .seqN ?_
    refine .seq ?_
    refine .cond rfl (fun q898 => ?_) (fun q898 => ?_)
    · replace hF := hF.1 q898
      refine .skip ?_
      refine .seqN ?_
      refine .seq ?_
      refine .block ?_
      refine .seq ?_
      refine .region ?_
      obtain ⟨q1009, hF⟩ := hF
      refine .v (ix rfl rfl tS23 (_q5.ne (by decide) (inb_pos q1009)) q1009) rfl rfl rfl ?_
      obtain ⟨_, ⟨a, c, a2, c2, a3, c3, a4, c4, a5, c5, a6, c6, a7, c7, rfl, ⟨q1010, q1011⟩, ⟨q1012, q1013⟩, ⟨q1014, q1015⟩, ⟨q1016, q1017⟩, ⟨q1018, q1019⟩, ⟨q1020, q1021⟩, q1022, q1023⟩, q1024⟩ := _q5.elem q1009
      refine .v (ldA (cs := [.slice a ((gt t.ops t32).atStart.length) c, .slice a2 ((gt t.ops t32).over.length) c2, .slice a3 ((gt t.ops t32).atEnd.length) c3, .slice a4 ((gt t.ops t32).addStart.length) c4, .slice a5 ((gt t.ops t32).delStart.length) c5, .slice a6 ((gt t.ops t32).addEnd.length) c6, .slice a7 ((gt t.ops t32).delEnd.length) c7, .int .i64 ((gt t.ops t32).dur)]) rfl tA41 rfl (cellsH ((fun q => (q1024 q).mono (FH.le_trans (q34) (q723))) (by decide)))) rfl rfl rfl ?_
      refine al tZ41 rfl (fun po => ?_)
      refine st (p := po) (off := 0) (k := 0) (vs := [.slice a ((gt t.ops t32).atStart.length) c, .slice a2 ((gt t.ops t32).over.length) c2, .slice a3 ((gt t.ops t32).atEnd.length) c3, .slice a4 ((gt t.ops t32).addStart.length) c4, .slice a5 ((gt t.ops t32).delStart.length) c5, .slice a6 ((gt t.ops t32).addEnd.length) c6, .slice a7 ((gt t.ops t32).delEnd.length) c7, .int .i64 ((gt t.ops t32).dur)]) rfl rfl rfl (fun w => (tA41 w).2) rfl rfl rfl rfl ?_
      refine .cast (A' := [Box po [.slice a ((gt t.ops t32).atStart.length) c, .slice a2 ((gt t.ops t32).over.length) c2, .slice a3 ((gt t.ops t32).atEnd.length) c3, .slice a4 ((gt t.ops t32).addStart.length) c4, .slice a5 ((gt t.ops t32).delStart.length) c5, .slice a6 ((gt t.ops t32).addEnd.length) c6, .slice a7 ((gt t.ops t32).delEnd.length) c7, .int .i64 ((gt t.ops t32).dur)], Box pt [.int .i64 t.facts, .slice at_ t.init.length ct, .slice at_2 t.goal.length ct2, .slice at_3 t.ops.length ct3], Box pv [.int .i64 0, .slice none 0 0, .slice none 0 0, .slice none 0 0], Box pv2 [.int .i64 0, .int .i64 0], Box p [.int .i64 (IntKind.i64.wrap (t.facts + 1)), .slice ax x.length cx, .slice ax2 x2.length cx2, .slice al2 l.length cl2], OwnSl 73 4 al2 l.length cl2 csl]) rfl ?_
      refine .nil ?_
      refine .seqN ?_
      refine .seq ?_
      refine .region ?_
      refine .v (fa rfl tF41_1) rfl rfl rfl ?_
      refine .v (ld1 rfl tO22 (cellB (off := 1) (k := 0) rfl rfl)) rfl rfl rfl ?_
      refine .v (fa rfl tF41_2) rfl rfl rfl ?_
      refine .v (ld1 rfl tO22 (cellB (off := 2) (k := 0) rfl rfl)) rfl rfl rfl ?_
      obtain ⟨q1025, hF⟩ := hF
      obtain ⟨r3, q1026⟩ : ∃ y_ : List Int, y_ = sp_union ((gt t.ops t32).over) ((gt t.ops t32).atEnd) := ⟨_, rfl⟩
      replace hF := hF r3 q1026
      refine clO (α := Option Addr × Nat) (V := fun z => .slice z.1 r3.length z.2) (Ψ := fun z => True) (B := fun z => [OwnSl 3 1 z.1 r3.length z.2 (flL r3)]) Try.call36 rfl rfl (fun w S => (by rw [q1026]; exact c_union S.sub ((gt t.ops t32).over) a2 c2 (q1013.mono (FH.le_trans (q34) (q723))) q1012 ((gt t.ops t32).atEnd) a3 c3 (q1015.mono (FH.le_trans (q34) (q723))) q1014 q1025)) rfl (fun z _ => ?_)
      obtain ⟨a8, c8⟩ := z
      refine .cast (A' := [OwnSl 3 1 a8 r3.length c8 (flL r3), Box po [.slice a ((gt t.ops t32).atStart.length) c, .slice a2 ((gt t.ops t32).over.length) c2, .slice a3 ((gt t.ops t32).atEnd.length) c3, .slice a4 ((gt t.ops t32).addStart.length) c4, .slice a5 ((gt t.ops t32).delStart.length) c5, .slice a6 ((gt t.ops t32).addEnd.length) c6, .slice a7 ((gt t.ops t32).delEnd.length) c7, .int .i64 ((gt t.ops t32).dur)], Box pt [.int .i64 t.facts, .slice at_ t.init.length ct, .slice at_2 t.goal.length ct2, .slice at_3 t.ops.length ct3], Box pv [.int .i64 0, .slice none 0 0, .slice none 0 0, .slice none 0 0], Box pv2 [.int .i64 0, .int .i64 0], Box p [.int .i64 (IntKind.i64.wrap (t.facts + 1)), .slice ax x.length cx, .slice ax2 x2.length cx2, .slice al2 l.length cl2], OwnSl 73 4 al2 l.length cl2 csl]) rfl ?_
      refine .v (asg rfl) rfl rfl rfl ?_
      refine .nil ?_
      refine .seqN ?_
      refine .seq ?_
      refine .openA (s0 := [(1, .pointer (some pt)), (2, .pointer (some pv)), (3, .pointer (some pv2)), (5, .pointer (some p)), (7, .pointer (some po)), (8, .slice a8 r3.length c8), (30, .slice at_3 t.ops.length ct3), (31, .int .i64 ((t.ops.length : Nat) : Int)), (32, .int .i64 t32)]) [0, 1, 2, 3, 4] [(0, .pointer (some (po.add 0))), (1, .slice a ((gt t.ops t32).atStart.length) c), (2, .slice a8 r3.length c8), (3, .pointer (some (po.add 3))), (4, .slice a4 ((gt t.ops t32).addStart.length) c4)] (by kernel_rfl) (.cons rfl (.cons rfl (.cons rfl (.cons rfl (.cons rfl (.cons rfl (.cons rfl (.cons rfl (.cons rfl (.nil)))))))))) [1, 2, 3, 5, 7, 8, 30, 31, 32] [] rfl (by kernel_rfl) ?_
      refine .step [5] 5 rfl (by kernel_rfl) (by kernel_rfl) (.v [] rfl rfl rfl rfl rfl rfl (fun _ => fa rfl tF41_0) (.v [(41, .pointer (some (po.add 0)))] rfl rfl rfl rfl rfl rfl (fun _ => ld1 rfl tO22 (cellB (off := 0) (k := 1) rfl rfl)) (.v [] rfl rfl rfl rfl rfl rfl (fun _ => mv rfl) (.v [] rfl rfl rfl rfl rfl rfl (fun _ => fa rfl tF41_3) (.v [(44, .pointer (some (po.add 3)))] rfl rfl rfl rfl rfl rfl (fun _ => ld1 rfl tO22 (cellB (off := 3) (k := 1) rfl rfl)) (.nil)))))) (.cons [(43, .slice a8 r3.length c8), (45, .slice a4 ((gt t.ops t32).addStart.length) c4)] rfl rfl (fun sL hL => ?_) (.nil))
      obtain ⟨q1031, hF⟩ := hF
      obtain ⟨r4, q1032⟩ : ∃ y_ : List Int, y_ = sp_minus r3 ((gt t.ops t32).addStart) := ⟨_, rfl⟩
      replace hF := hF r4 q1032
      refine clO (α := Option Addr × Nat) (V := fun z => .slice z.1 r4.length z.2) (Ψ := fun z => True) (B := fun z => [OwnSl 3 1 z.1 r4.length z.2 (flL r4)]) Try.call37 rfl rfl (fun w S => (by rw [q1032]; obtain ⟨h_, hl_, hs_, hne_, hr_⟩ := look S (k := 0) rfl; exact (c_minus hs_ r3 a8 c8 (RSl.of hr_) (look_len S (k := 0) rfl) ((gt t.ops t32).addStart) a4 c4 (RSl.mono hl_ (q1017.mono (FH.le_trans (q34) (q723)))) q1016 q1031).mono fun _ _ ⟨z, h0, h1, e1, e2, e3, e4⟩ => ⟨z, h0, h1, e1, e2, FH.le_trans hl_ e3, e4⟩)) rfl (fun z _ => ?_)
      obtain ⟨a9, c9⟩ := z
      refine .cast (A' := [OwnSl 3 1 a9 r4.length c9 (flL r4), OwnSl 3 1 a8 r3.length c8 (flL r3), Box po [.slice a ((gt t.ops t32).atStart.length) c, .slice a2 ((gt t.ops t32).over.length) c2, .slice a3 ((gt t.ops t32).atEnd.length) c3, .slice a4 ((gt t.ops t32).addStart.length) c4, .slice a5 ((gt t.ops t32).delStart.length) c5, .slice a6 ((gt t.ops t32).addEnd.length) c6, .slice a7 ((gt t.ops t32).delEnd.length) c7, .int .i64 ((gt t.ops t32).dur)], Box pt [.int .i64 t.facts, .slice at_ t.init.length ct, .slice at_2 t.goal.length ct2, .slice at_3 t.ops.length ct3], Box pv [.int .i64 0, .slice none 0 0, .slice none 0 0, .slice none 0 0], Box pv2 [.int .i64 0, .int .i64 0], Box p [.int .i64 (IntKind.i64.wrap (t.facts + 1)), .slice ax x.length cx, .slice ax2 x2.length cx2, .slice al2 l.length cl2], OwnSl 73 4 al2 l.length cl2 csl]) rfl ?_
      refine .nil ?_
      refine .ja (M := [2, 4, 3]) (C' := [0, 1]) (pre := [(5, .slice a9 r4.length c9)]) [(1, .pointer (some pt)), (2, .pointer (some pv)), (3, .pointer (some pv2)), (5, .pointer (some p)), (7, .pointer (some po)), (8, .slice a8 r3.length c8), (30, .slice at_3 t.ops.length ct3), (31, .int .i64 ((t.ops.length : Nat) : Int)), (32, .int .i64 t32)] [1, 2, 3, 5, 7, 8, 30, 31, 32] hL rfl rfl rfl rfl rfl (.cons rfl (.cons rfl (.cons rfl (.cons rfl (.cons rfl (.cons rfl (.cons rfl (.cons rfl (.cons rfl (.nil)))))))))) rfl rfl (by kernel_rfl) ?_
      refine .step [6] 6 rfl (by kernel_rfl) (by kernel_rfl) (.v [] rfl rfl rfl rfl rfl rfl (fun _ => fa rfl tF41_0) (.v [(41, .pointer (some (po.add 0)))] rfl rfl rfl rfl rfl rfl (fun _ => ld1 rfl tO22 (cellB (off := 0) (k := 2) rfl rfl)) (.nil))) (.cons [(42, .slice a ((gt t.ops t32).atStart.length) c), (46, .slice a9 r4.length c9), (46, .slice a9 r4.length c9)] rfl rfl (fun sL hL => ?_) (.nil))
      obtain ⟨q1033, hF⟩ := hF
      obtain ⟨r5, q1034⟩ : ∃ y_ : List Int, y_ = sp_union ((gt t.ops t32).atStart) r4 := ⟨_, rfl⟩
      replace hF := hF r5 q1034
      refine clO (α := Option Addr × Nat) (V := fun z => .slice z.1 r5.length z.2) (Ψ := fun z => True) (B := fun z => [OwnSl 3 1 z.1 r5.length z.2 (flL r5)]) Try.call36 rfl rfl (fun w S => (by rw [q1034]; obtain ⟨h_, hl_, hs_, hne_, hr_⟩ := look S (k := 0) rfl; exact (c_union hs_ ((gt t.ops t32).atStart) a c (RSl.mono hl_ (q1011.mono (FH.le_trans (q34) (q723)))) q1010 r4 a9 c9 (RSl.of hr_) (look_len S (k := 0) rfl) q1033).mono fun _ _ ⟨z, h0, h1, e1, e2, e3, e4⟩ => ⟨z, h0, h1, e1, e2, FH.le_trans hl_ e3, e4⟩)) rfl (fun z _ => ?_)
      obtain ⟨a10, c10⟩ := z
      refine .cast (A' := [OwnSl 3 1 a10 r5.length c10 (flL r5), OwnSl 3 1 a9 r4.length c9 (flL r4), OwnSl 3 1 a8 r3.length c8 (flL r3), Box po [.slice a ((gt t.ops t32).atStart.length) c, .slice a2 ((gt t.ops t32).over.length) c2, .slice a3 ((gt t.ops t32).atEnd.length) c3, .slice a4 ((gt t.ops t32).addStart.length) c4, .slice a5 ((gt t.ops t32).delStart.length) c5, .slice a6 ((gt t.ops t32).addEnd.length) c6, .slice a7 ((gt t.ops t32).delEnd.length) c7, .int .i64 ((gt t.ops t32).dur)], Box pt [.int .i64 t.facts, .slice at_ t.init.length ct, .slice at_2 t.goal.length ct2, .slice at_3 t.ops.length ct3], Box pv [.int .i64 0, .slice none 0 0, .slice none 0 0, .slice none 0 0], Box pv2 [.int .i64 0, .int .i64 0], Box p [.int .i64 (IntKind.i64.wrap (t.facts + 1)), .slice ax x.length cx, .slice ax2 x2.length cx2, .slice al2 l.length cl2], OwnSl 73 4 al2 l.length cl2 csl]) rfl ?_
      refine .nil ?_
      refine .ja (M := [1, 0]) (C' := [7]) (pre := [(6, .slice a10 r5.length c10), (7, .slice a10 r5.length c10)]) [(1, .pointer (some pt)), (2, .pointer (some pv)), (3, .pointer (some pv2)), (5, .pointer (some p)), (7, .pointer (some po)), (8, .slice a8 r3.length c8), (30, .slice at_3 t.ops.length ct3), (31, .int .i64 ((t.ops.length : Nat) : Int)), (32, .int .i64 t32)] [1, 2, 3, 5, 7, 8, 30, 31, 32] hL rfl rfl rfl rfl rfl (.cons rfl (.cons rfl (.cons rfl (.cons rfl (.cons rfl (.cons rfl (.cons rfl (.cons rfl (.cons rfl (.nil)))))))))) rfl rfl (by kernel_rfl) ?_
      refine .last [(41, .pointer (some (po.add 0))), (42, .slice a ((gt t.ops t32).atStart.length) c), (43, .slice a8 r3.length c8), (44, .pointer (some (po.add 3))), (45, .slice a4 ((gt t.ops t32).addStart.length) c4), (46, .slice a9 r4.length c9), (47, .slice a10 r5.length c10), (9, .slice a10 r5.length c10)] rfl (by kernel_rfl) (.v [(47, .slice a10 r5.length c10), (47, .slice a10 r5.length c10), (41, .pointer (some (po.add 0))), (42, .slice a ((gt t.ops t32).atStart.length) c), (43, .slice a8 r3.length c8), (44, .pointer (some (po.add 3))), (45, .slice a4 ((gt t.ops t32).addStart.length) c4), (46, .slice a9 r4.length c9), (47, .slice a10 r5.length c10)] rfl rfl rfl rfl rfl rfl (fun _ => asg rfl) (.nil)) rfl ?_
      refine .seqN ?_
      refine .seq ?_
      refine .seq ?_
      refine .region ?_
      refine .v (mv rfl) rfl rfl rfl ?_
      refine .v (fa rfl tF41_4) rfl rfl rfl ?_
      refine .v (ld1 rfl tO22 (cellB (off := 4) (k := 3) rfl rfl)) rfl rfl rfl ?_
      obtain ⟨q1035, hF⟩ := hF
      obtain ⟨r6, q1036⟩ : ∃ y_ : Bool, y_ = sp_meets r3 ((gt t.ops t32).delStart) := ⟨_, rfl⟩
      replace hF := hF r6 q1036
      refine .c (cl (v := .bool r6) Try.call38 rfl rfl (fun w S => (by rw [q1036]; obtain ⟨h_, hl_, hs_, hne_, hr_⟩ := look S (k := 2) rfl; exact c_meets hs_ r3 a8 c8 (RSl.of hr_) (look_len S (k := 2) rfl) ((gt t.ops t32).delStart) a5 c5 (RSl.mono hl_ (q1019.mono (FH.le_trans (q34) (q723)))) q1018 q1035))) rfl rfl rfl ?_
      refine .nil ?_
      refine .seqN ?_
      refine .shareT (σ := List Int × Option Addr × Nat) (fun z => F_sequence_J2 t z.1 t32 l I1 μ1) (fun z => [(1, .pointer (some pt)), (2, .pointer (some pv)), (3, .pointer (some pv2)), (5, .pointer (some p)), (7, .pointer (some po)), (9, .slice z.2.1 z.1.length z.2.2), (30, .slice at_3 t.ops.length ct3), (31, .int .i64 ((t.ops.length : Nat) : Int)), (32, .int .i64 t32)]) (fun z => [Box pt [.int .i64 t.facts, .slice at_ t.init.length ct, .slice at_2 t.goal.length ct2, .slice at_3 t.ops.length ct3], Box pv [.int .i64 0, .slice none 0 0, .slice none 0 0, .slice none 0 0], Box pv2 [.int .i64 0, .int .i64 0], Box p [.int .i64 (IntKind.i64.wrap (t.facts + 1)), .slice ax x.length cx, .slice ax2 x2.length cx2, .slice al2 l.length cl2], Box po [.slice a ((gt t.ops t32).atStart.length) c, .slice a2 ((gt t.ops t32).over.length) c2, .slice a3 ((gt t.ops t32).atEnd.length) c3, .slice a4 ((gt t.ops t32).addStart.length) c4, .slice a5 ((gt t.ops t32).delStart.length) c5, .slice a6 ((gt t.ops t32).addEnd.length) c6, .slice a7 ((gt t.ops t32).delEnd.length) c7, .int .i64 ((gt t.ops t32).dur)], OwnSl 3 1 z.2.1 z.1.length z.2.2 (flL z.1), OwnSl 73 4 al2 l.length cl2 csl]) (fun _ => h61) ?_ (fun q1041 => ?_)
      · rintro ⟨pre, apre, cpre⟩ hF
        show J _ _ _ _ _ [(1, .pointer (some pt)), (2, .pointer (some pv)), (3, .pointer (some pv2)), (5, .pointer (some p)), (7, .pointer (some po)), (9, .slice apre pre.length cpre), (30, .slice at_3 t.ops.length ct3), (31, .int .i64 ((t.ops.length : Nat) : Int)), (32, .int .i64 t32)] [Box pt [.int .i64 t.facts, .slice at_ t.init.length ct, .slice at_2 t.goal.length ct2, .slice at_3 t.ops.length ct3], Box pv [.int .i64 0, .slice none 0 0, .slice none 0 0, .slice none 0 0], Box pv2 [.int .i64 0, .int .i64 0], Box p [.int .i64 (IntKind.i64.wrap (t.facts + 1)), .slice ax x.length cx, .slice ax2 x2.length cx2, .slice al2 l.length cl2], Box po [.slice a ((gt t.ops t32).atStart.length) c, .slice a2 ((gt t.ops t32).over.length) c2, .slice a3 ((gt t.ops t32).atEnd.length) c3, .slice a4 ((gt t.ops t32).addStart.length) c4, .slice a5 ((gt t.ops t32).delStart.length) c5, .slice a6 ((gt t.ops t32).addEnd.length) c6, .slice a7 ((gt t.ops t32).delEnd.length) c7, .int .i64 ((gt t.ops t32).dur)], OwnSl 3 1 apre pre.length cpre (flL pre), OwnSl 73 4 al2 l.length cl2 csl] h61
        refine .seq ?_
        refine .region ?_
        refine .v (fa rfl tF41_3) rfl rfl rfl ?_
        refine .v (ld1 rfl tO22 (cellB (off := 3) (k := 4) rfl rfl)) rfl rfl rfl ?_
        refine .v (fa rfl tF41_5) rfl rfl rfl ?_
        refine .v (ld1 rfl tO22 (cellB (off := 5) (k := 4) rfl rfl)) rfl rfl rfl ?_
        refine .v (fa rfl tF41_6) rfl rfl rfl ?_
        refine .v (ld1 rfl tO22 (cellB (off := 6) (k := 4) rfl rfl)) rfl rfl rfl ?_
        obtain ⟨q1042, hF⟩ := hF
        obtain ⟨r7, q1043⟩ : ∃ y_ : List Int, y_ = sp_update ((gt t.ops t32).addStart) ((gt t.ops t32).addEnd) ((gt t.ops t32).delEnd) := ⟨_, rfl⟩
        replace hF := hF r7 q1043
        refine clO (α := Option Addr × Nat) (V := fun z => .slice z.1 r7.length z.2) (Ψ := fun z => True) (B := fun z => [OwnSl 3 1 z.1 r7.length z.2 (flL r7)]) Try.call27 rfl rfl (fun w S => (by rw [q1043]; exact c_update S.sub ((gt t.ops t32).addStart) a4 c4 (q1017.mono (FH.le_trans (q34) (q723))) q1016 ((gt t.ops t32).addEnd) a6 c6 (q1021.mono (FH.le_trans (q34) (q723))) q1020 ((gt t.ops t32).delEnd) a7 c7 (q1023.mono (FH.le_trans (q34) (q723))) q1022 q1042)) rfl (fun z _ => ?_)
        obtain ⟨a11, c11⟩ := z
        refine .cast (A' := [OwnSl 3 1 a11 r7.length c11 (flL r7), Box pt [.int .i64 t.facts, .slice at_ t.init.length ct, .slice at_2 t.goal.length ct2, .slice at_3 t.ops.length ct3], Box pv [.int .i64 0, .slice none 0 0, .slice none 0 0, .slice none 0 0], Box pv2 [.int .i64 0, .int .i64 0], Box p [.int .i64 (IntKind.i64.wrap (t.facts + 1)), .slice ax x.length cx, .slice ax2 x2.length cx2, .slice al2 l.length cl2], Box po [.slice a ((gt t.ops t32).atStart.length) c, .slice a2 ((gt t.ops t32).over.length) c2, .slice a3 ((gt t.ops t32).atEnd.length) c3, .slice a4 ((gt t.ops t32).addStart.length) c4, .slice a5 ((gt t.ops t32).delStart.length) c5, .slice a6 ((gt t.ops t32).addEnd.length) c6, .slice a7 ((gt t.ops t32).delEnd.length) c7, .int .i64 ((gt t.ops t32).dur)], OwnSl 3 1 apre pre.length cpre (flL pre), OwnSl 73 4 al2 l.length cl2 csl]) rfl ?_
        refine .v (asg rfl) rfl rfl rfl ?_
        refine .nil ?_
        refine .seqN ?_
        refine .seq ?_
        refine .region ?_
        refine .v (fa rfl tF41_4) rfl rfl rfl ?_
        refine .v (ld1 rfl tO22 (cellB (off := 4) (k := 5) rfl rfl)) rfl rfl rfl ?_
        refine .v (fa rfl tF41_6) rfl rfl rfl ?_
        refine .v (ld1 rfl tO22 (cellB (off := 6) (k := 5) rfl rfl)) rfl rfl rfl ?_
        obtain ⟨q1044, hF⟩ := hF
        obtain ⟨r8, q1045⟩ : ∃ y_ : List Int, y_ = sp_union ((gt t.ops t32).delStart) ((gt t.ops t32).delEnd) := ⟨_, rfl⟩
        replace hF := hF r8 q1045
        refine clO (α := Option Addr × Nat) (V := fun z => .slice z.1 r8.length z.2) (Ψ := fun z => True) (B := fun z => [OwnSl 3 1 z.1 r8.length z.2 (flL r8)]) Try.call36 rfl rfl (fun w S => (by rw [q1045]; exact c_union S.sub ((gt t.ops t32).delStart) a5 c5 (q1019.mono (FH.le_trans (q34) (q723))) q1018 ((gt t.ops t32).delEnd) a7 c7 (q1023.mono (FH.le_trans (q34) (q723))) q1022 q1044)) rfl (fun z _ => ?_)
        obtain ⟨a12, c12⟩ := z
        refine .cast (A' := [OwnSl 3 1 a12 r8.length c12 (flL r8), OwnSl 3 1 a11 r7.length c11 (flL r7), Box pt [.int .i64 t.facts, .slice at_ t.init.length ct, .slice at_2 t.goal.length ct2, .slice at_3 t.ops.length ct3], Box pv [.int .i64 0, .slice none 0 0, .slice none 0 0, .slice none 0 0], Box pv2 [.int .i64 0, .int .i64 0], Box p [.int .i64 (IntKind.i64.wrap (t.facts + 1)), .slice ax x.length cx, .slice ax2 x2.length cx2, .slice al2 l.length cl2], Box po [.slice a ((gt t.ops t32).atStart.length) c, .slice a2 ((gt t.ops t32).over.length) c2, .slice a3 ((gt t.ops t32).atEnd.length) c3, .slice a4 ((gt t.ops t32).addStart.length) c4, .slice a5 ((gt t.ops t32).delStart.length) c5, .slice a6 ((gt t.ops t32).addEnd.length) c6, .slice a7 ((gt t.ops t32).delEnd.length) c7, .int .i64 ((gt t.ops t32).dur)], OwnSl 3 1 apre pre.length cpre (flL pre), OwnSl 73 4 al2 l.length cl2 csl]) rfl ?_
        refine .v (mv rfl) rfl rfl rfl ?_
        refine .freezeL (k := 0) rfl (fun h83 le83 q1047 q1046 => ?_)
        refine .cast (A' := [tru, OwnSl 3 1 a11 r7.length c11 (flL r7), Box pt [.int .i64 t.facts, .slice at_ t.init.length ct, .slice at_2 t.goal.length ct2, .slice at_3 t.ops.length ct3], Box pv [.int .i64 0, .slice none 0 0, .slice none 0 0, .slice none 0 0], Box pv2 [.int .i64 0, .int .i64 0], Box p [.int .i64 (IntKind.i64.wrap (t.facts + 1)), .slice ax x.length cx, .slice ax2 x2.length cx2, .slice al2 l.length cl2], Box po [.slice a ((gt t.ops t32).atStart.length) c, .slice a2 ((gt t.ops t32).over.length) c2, .slice a3 ((gt t.ops t32).atEnd.length) c3, .slice a4 ((gt t.ops t32).addStart.length) c4, .slice a5 ((gt t.ops t32).delStart.length) c5, .slice a6 ((gt t.ops t32).addEnd.length) c6, .slice a7 ((gt t.ops t32).delEnd.length) c7, .int .i64 ((gt t.ops t32).dur)], OwnSl 3 1 apre pre.length cpre (flL pre), OwnSl 73 4 al2 l.length cl2 csl]) rfl ?_
        refine .freezeL (k := 1) rfl (fun h84 le84 q1049 q1048 => ?_)
        refine .cast (A' := [tru, tru, Box pt [.int .i64 t.facts, .slice at_ t.init.length ct, .slice at_2 t.goal.length ct2, .slice at_3 t.ops.length ct3], Box pv [.int .i64 0, .slice none 0 0, .slice none 0 0, .slice none 0 0], Box pv2 [.int .i64 0, .int .i64 0], Box p [.int .i64 (IntKind.i64.wrap (t.facts + 1)), .slice ax x.length cx, .slice ax2 x2.length cx2, .slice al2 l.length cl2], Box po [.slice a ((gt t.ops t32).atStart.length) c, .slice a2 ((gt t.ops t32).over.length) c2, .slice a3 ((gt t.ops t32).atEnd.length) c3, .slice a4 ((gt t.ops t32).addStart.length) c4, .slice a5 ((gt t.ops t32).delStart.length) c5, .slice a6 ((gt t.ops t32).addEnd.length) c6, .slice a7 ((gt t.ops t32).delEnd.length) c7, .int .i64 ((gt t.ops t32).dur)], OwnSl 3 1 apre pre.length cpre (flL pre), OwnSl 73 4 al2 l.length cl2 csl]) rfl ?_
        obtain ⟨q1050, hF⟩ := hF
        obtain ⟨r9, q1051⟩ : ∃ y_ : List Int, y_ = sp_minus r8 r7 := ⟨_, rfl⟩
        replace hF := hF r9 q1051
        refine clO (α := Option Addr × Nat) (V := fun z => .slice z.1 r9.length z.2) (Ψ := fun z => True) (B := fun z => [OwnSl 3 1 z.1 r9.length z.2 (flL r9)]) Try.call37 rfl rfl (fun w S => (by rw [q1051]; exact c_minus S.sub r8 a12 c12 ((RSl.of q1046).mono (le84)) (q1047) r7 a11 c11 (RSl.of q1048) (q1049) q1050)) rfl (fun z _ => ?_)
        obtain ⟨a13, c13⟩ := z
        refine .cast (A' := [OwnSl 3 1 a13 r9.length c13 (flL r9), tru, tru, Box pt [.int .i64 t.facts, .slice at_ t.init.length ct, .slice at_2 t.goal.length ct2, .slice at_3 t.ops.length ct3], Box pv [.int .i64 0, .slice none 0 0, .slice none 0 0, .slice none 0 0], Box pv2 [.int .i64 0, .int .i64 0], Box p [.int .i64 (IntKind.i64.wrap (t.facts + 1)), .slice ax x.length cx, .slice ax2 x2.length cx2, .slice al2 l.length cl2], Box po [.slice a ((gt t.ops t32).atStart.length) c, .slice a2 ((gt t.ops t32).over.length) c2, .slice a3 ((gt t.ops t32).atEnd.length) c3, .slice a4 ((gt t.ops t32).addStart.length) c4, .slice a5 ((gt t.ops t32).delStart.length) c5, .slice a6 ((gt t.ops t32).addEnd.length) c6, .slice a7 ((gt t.ops t32).delEnd.length) c7, .int .i64 ((gt t.ops t32).dur)], OwnSl 3 1 apre pre.length cpre (flL pre), OwnSl 73 4 al2 l.length cl2 csl]) rfl ?_
        refine .v (asg rfl) rfl rfl rfl ?_
        refine .nil ?_
        refine .seqN ?_
        refine .region ?_
        refine .v (fa rfl tF50_3) rfl rfl rfl ?_
        refine .v (ld1 rfl tO48 (cellB (off := 3) (k := 6) rfl rfl)) rfl rfl rfl ?_
        refine .v (mv rfl) rfl rfl rfl ?_
        refine .v (mv rfl) rfl rfl rfl ?_
        refine .v (mv rfl) rfl rfl rfl ?_
        refine .v (bld (cs := #[.slice apre pre.length cpre, .slice a11 r7.length c11, .slice a13 r9.length c13, .int .i64 0]) (pv := [(0, .slice apre pre.length cpre), (1, .slice a11 r7.length c11), (2, .slice a13 r9.length c13)]) tB73 rfl rfl) rfl rfl rfl ?_
        refine .freezeL (k := 8) rfl (fun h85 le85 q1053 q1052 => ?_)
        refine .cast (A' := [OwnSl 3 1 a13 r9.length c13 (flL r9), tru, tru, Box pt [.int .i64 t.facts, .slice at_ t.init.length ct, .slice at_2 t.goal.length ct2, .slice at_3 t.ops.length ct3], Box pv [.int .i64 0, .slice none 0 0, .slice none 0 0, .slice none 0 0], Box pv2 [.int .i64 0, .int .i64 0], Box p [.int .i64 (IntKind.i64.wrap (t.facts + 1)), .slice ax x.length cx, .slice ax2 x2.length cx2, .slice al2 l.length cl2], Box po [.slice a ((gt t.ops t32).atStart.length) c, .slice a2 ((gt t.ops t32).over.length) c2, .slice a3 ((gt t.ops t32).atEnd.length) c3, .slice a4 ((gt t.ops t32).addStart.length) c4, .slice a5 ((gt t.ops t32).delStart.length) c5, .slice a6 ((gt t.ops t32).addEnd.length) c6, .slice a7 ((gt t.ops t32).delEnd.length) c7, .int .i64 ((gt t.ops t32).dur)], tru, OwnSl 73 4 al2 l.length cl2 csl]) rfl ?_
        refine .freezeL (k := 0) rfl (fun h86 le86 q1055 q1054 => ?_)
        refine .cast (A' := [tru, tru, tru, Box pt [.int .i64 t.facts, .slice at_ t.init.length ct, .slice at_2 t.goal.length ct2, .slice at_3 t.ops.length ct3], Box pv [.int .i64 0, .slice none 0 0, .slice none 0 0, .slice none 0 0], Box pv2 [.int .i64 0, .int .i64 0], Box p [.int .i64 (IntKind.i64.wrap (t.facts + 1)), .slice ax x.length cx, .slice ax2 x2.length cx2, .slice al2 l.length cl2], Box po [.slice a ((gt t.ops t32).atStart.length) c, .slice a2 ((gt t.ops t32).over.length) c2, .slice a3 ((gt t.ops t32).atEnd.length) c3, .slice a4 ((gt t.ops t32).addStart.length) c4, .slice a5 ((gt t.ops t32).delStart.length) c5, .slice a6 ((gt t.ops t32).addEnd.length) c6, .slice a7 ((gt t.ops t32).delEnd.length) c7, .int .i64 ((gt t.ops t32).dur)], tru, OwnSl 73 4 al2 l.length cl2 csl]) rfl ?_
        refine bs2 (cs := #[.slice apre pre.length cpre, .slice a11 r7.length c11, .slice a13 r9.length c13, .int .i64 0]) (pv := [(0, .agg #[.slice apre pre.length cpre, .slice a11 r7.length c11, .slice a13 r9.length c13, .int .i64 0])]) tS48 rfl rfl (by decide) (by decide) rfl rfl rfl (fun a14 _ => ?_)
        refine .cast (A' := [OwnSl 73 4 a14 (([(⟨pre, r7, r9, 0⟩ : Operator)] : List Operator).length) 1 [.slice apre pre.length cpre, .slice a11 r7.length c11, .slice a13 r9.length c13, .int .i64 0], tru, tru, tru, Box pt [.int .i64 t.facts, .slice at_ t.init.length ct, .slice at_2 t.goal.length ct2, .slice at_3 t.ops.length ct3], Box pv [.int .i64 0, .slice none 0 0, .slice none 0 0, .slice none 0 0], Box pv2 [.int .i64 0, .int .i64 0], Box p [.int .i64 (IntKind.i64.wrap (t.facts + 1)), .slice ax x.length cx, .slice ax2 x2.length cx2, .slice al2 l.length cl2], Box po [.slice a ((gt t.ops t32).atStart.length) c, .slice a2 ((gt t.ops t32).over.length) c2, .slice a3 ((gt t.ops t32).atEnd.length) c3, .slice a4 ((gt t.ops t32).addStart.length) c4, .slice a5 ((gt t.ops t32).delStart.length) c5, .slice a6 ((gt t.ops t32).addEnd.length) c6, .slice a7 ((gt t.ops t32).delEnd.length) c7, .int .i64 ((gt t.ops t32).dur)], tru, OwnSl 73 4 al2 l.length cl2 csl]) rfl ?_
        obtain ⟨q1057, hF⟩ := hF
        have q1058 : l.length + ([(⟨pre, r7, r9, 0⟩ : Operator)] : List Operator).length = ((l ++ ([(⟨pre, r7, r9, 0⟩ : Operator)] : List Operator))).length := len_app rfl rfl
        have q1059 := RepL.append (RepL.mono (FH.le_trans (FH.le_trans (FH.le_trans (le83) (le84)) (le85)) (le86)) q722) (show RepL h86 ([(⟨pre, r7, r9, 0⟩ : Operator)] : List Operator) [.slice apre pre.length cpre, .slice a11 r7.length c11, .slice a13 r9.length c13, .int .i64 0] from ⟨[.slice apre pre.length cpre, .slice a11 r7.length c11, .slice a13 r9.length c13, .int .i64 0], _, rfl, ⟨apre, cpre, a11, c11, a13, c13, rfl, ⟨(q1053), ((RSl.of q1052).mono (le86))⟩, ⟨(q1049), ((RSl.of q1048).mono (FH.le_trans (le85) (le86)))⟩, ⟨(q1055), (RSl.of q1054)⟩⟩, rfl⟩)
        refine app (k := 10) (news := [.slice apre pre.length cpre, .slice a11 r7.length c11, .slice a13 r9.length c13, .int .i64 0]) (cs' := (csl ++ [.slice apre pre.length cpre, .slice a11 r7.length c11, .slice a13 r9.length c13, .int .i64 0])) (nm := ((l ++ ([(⟨pre, r7, r9, 0⟩ : Operator)] : List Operator))).length) tS48 rfl (by decide) rfl rfl rfl (RepL.len (show RepL h86 ([(⟨pre, r7, r9, 0⟩ : Operator)] : List Operator) [.slice apre pre.length cpre, .slice a11 r7.length c11, .slice a13 r9.length c13, .int .i64 0] from ⟨[.slice apre pre.length cpre, .slice a11 r7.length c11, .slice a13 r9.length c13, .int .i64 0], _, rfl, ⟨apre, cpre, a11, c11, a13, c13, rfl, ⟨(q1053), ((RSl.of q1052).mono (le86))⟩, ⟨(q1049), ((RSl.of q1048).mono (FH.le_trans (le85) (le86)))⟩, ⟨(q1055), (RSl.of q1054)⟩⟩, rfl⟩)) (srcS (k := 0) rfl) (RepL.one (show RepL h86 ([(⟨pre, r7, r9, 0⟩ : Operator)] : List Operator) [.slice apre pre.length cpre, .slice a11 r7.length c11, .slice a13 r9.length c13, .int .i64 0] from ⟨[.slice apre pre.length cpre, .slice a11 r7.length c11, .slice a13 r9.length c13, .int .i64 0], _, rfl, ⟨apre, cpre, a11, c11, a13, c13, rfl, ⟨(q1053), ((RSl.of q1052).mono (le86))⟩, ⟨(q1049), ((RSl.of q1048).mono (FH.le_trans (le85) (le86)))⟩, ⟨(q1055), (RSl.of q1054)⟩⟩, rfl⟩)) (room_of q1058 q1057).1 (room_of q1058 q1057).2 q1058 rfl rfl (fun a15 c14 => ?_)
        refine .cast (A' := [OwnSl 73 4 a14 (([(⟨pre, r7, r9, 0⟩ : Operator)] : List Operator).length) 1 [.slice apre pre.length cpre, .slice a11 r7.length c11, .slice a13 r9.length c13, .int .i64 0], tru, tru, tru, Box pt [.int .i64 t.facts, .slice at_ t.init.length ct, .slice at_2 t.goal.length ct2, .slice at_3 t.ops.length ct3], Box pv [.int .i64 0, .slice none 0 0, .slice none 0 0, .slice none 0 0], Box pv2 [.int .i64 0, .int .i64 0], Box p [.int .i64 (IntKind.i64.wrap (t.facts + 1)), .slice ax x.length cx, .slice ax2 x2.length cx2, .slice al2 l.length cl2], Box po [.slice a ((gt t.ops t32).atStart.length) c, .slice a2 ((gt t.ops t32).over.length) c2, .slice a3 ((gt t.ops t32).atEnd.length) c3, .slice a4 ((gt t.ops t32).addStart.length) c4, .slice a5 ((gt t.ops t32).delStart.length) c5, .slice a6 ((gt t.ops t32).addEnd.length) c6, .slice a7 ((gt t.ops t32).delEnd.length) c7, .int .i64 ((gt t.ops t32).dur)], tru, OwnSl 73 4 a15 ((l ++ ([(⟨pre, r7, r9, 0⟩ : Operator)] : List Operator)).length) c14 (csl ++ [.slice apre pre.length cpre, .slice a11 r7.length c11, .slice a13 r9.length c13, .int .i64 0])]) rfl ?_
        refine .v (fa rfl tF50_3) rfl rfl rfl ?_
        refine st (p := p) (off := 3) (k := 7) (vs := [.slice a15 ((l ++ ([(⟨pre, r7, r9, 0⟩ : Operator)] : List Operator)).length) c14]) rfl rfl rfl (fun w => (tO48 w).2) rfl rfl rfl rfl ?_
        refine .cast (A' := [OwnSl 73 4 a14 (([(⟨pre, r7, r9, 0⟩ : Operator)] : List Operator).length) 1 [.slice apre pre.length cpre, .slice a11 r7.length c11, .slice a13 r9.length c13, .int .i64 0], tru, tru, tru, Box pt [.int .i64 t.facts, .slice at_ t.init.length ct, .slice at_2 t.goal.length ct2, .slice at_3 t.ops.length ct3], Box pv [.int .i64 0, .slice none 0 0, .slice none 0 0, .slice none 0 0], Box pv2 [.int .i64 0, .int .i64 0], Box p [.int .i64 (IntKind.i64.wrap (t.facts + 1)), .slice ax x.length cx, .slice ax2 x2.length cx2, .slice a15 ((l ++ ([(⟨pre, r7, r9, 0⟩ : Operator)] : List Operator)).length) c14], Box po [.slice a ((gt t.ops t32).atStart.length) c, .slice a2 ((gt t.ops t32).over.length) c2, .slice a3 ((gt t.ops t32).atEnd.length) c3, .slice a4 ((gt t.ops t32).addStart.length) c4, .slice a5 ((gt t.ops t32).delStart.length) c5, .slice a6 ((gt t.ops t32).addEnd.length) c6, .slice a7 ((gt t.ops t32).delEnd.length) c7, .int .i64 ((gt t.ops t32).dur)], tru, OwnSl 73 4 a15 ((l ++ ([(⟨pre, r7, r9, 0⟩ : Operator)] : List Operator)).length) c14 (csl ++ [.slice apre pre.length cpre, .slice a11 r7.length c11, .slice a13 r9.length c13, .int .i64 0])]) rfl ?_
        refine .nil ?_
        refine .blkN ?_
        refine .seqN ?_
        refine .region ?_
        refine .v (bi rfl rfl rfl) rfl rfl rfl ?_
        refine .v (mv rfl) rfl rfl rfl ?_
        refine .nil ?_
        refine .sel0 [4, 5, 6, 7, 10] (by decide) rfl ?_
        exact .round (IntKind.i64.wrap (t32 + 1), (l ++ ([(⟨pre, r7, r9, 0⟩ : Operator)] : List Operator)), a15, c14, (csl ++ [.slice apre pre.length cpre, .slice a11 r7.length c11, .slice a13 r9.length c13, .int .i64 0]), h86) ⟨hF.1, q1059, (FH.le_trans (FH.le_trans (FH.le_trans (FH.le_trans (q723) (le83)) (le84)) (le85)) (le86))⟩ hF.2 (.cons rfl (.cons rfl (.cons rfl (.cons rfl (.cons rfl (.cons rfl (.cons rfl (.nil)))))))) rfl (FH.le_refl _)
      refine .cond rfl (fun q1060 => ?_) (fun q1060 => ?_)
      · replace hF := hF.1 q1060
        refine .region ?_
        refine .v (mv rfl) rfl rfl rfl ?_
        refine .v (fa rfl tF25_0) rfl rfl rfl ?_
        refine .v (ld1 rfl tO3 (cellB (off := 0) (k := 4) rfl rfl)) rfl rfl rfl ?_
        refine bs2 (cs := #[.int .i64 t.facts]) (pv := [(0, .int .i64 t.facts)]) tS22 rfl rfl (by decide) (by decide) rfl rfl rfl (fun a16 _ => ?_)
        refine .cast (A' := [OwnSl 3 1 a16 (([t.facts] : List Int).length) 1 (flL ([t.facts] : List Int)), OwnSl 3 1 a10 r5.length c10 (flL r5), OwnSl 3 1 a9 r4.length c9 (flL r4), OwnSl 3 1 a8 r3.length c8 (flL r3), Box po [.slice a ((gt t.ops t32).atStart.length) c, .slice a2 ((gt t.ops t32).over.length) c2, .slice a3 ((gt t.ops t32).atEnd.length) c3, .slice a4 ((gt t.ops t32).addStart.length) c4, .slice a5 ((gt t.ops t32).delStart.length) c5, .slice a6 ((gt t.ops t32).addEnd.length) c6, .slice a7 ((gt t.ops t32).delEnd.length) c7, .int .i64 ((gt t.ops t32).dur)], Box pt [.int .i64 t.facts, .slice at_ t.init.length ct, .slice at_2 t.goal.length ct2, .slice at_3 t.ops.length ct3], Box pv [.int .i64 0, .slice none 0 0, .slice none 0 0, .slice none 0 0], Box pv2 [.int .i64 0, .int .i64 0], Box p [.int .i64 (IntKind.i64.wrap (t.facts + 1)), .slice ax x.length cx, .slice ax2 x2.length cx2, .slice al2 l.length cl2], OwnSl 73 4 al2 l.length cl2 csl]) rfl ?_
        obtain ⟨q1062, hF⟩ := hF
        have q1063 : r5.length + ([t.facts] : List Int).length = ((r5 ++ ([t.facts] : List Int))).length := len_app rfl rfl
        refine app (k := 1) (news := flL ([t.facts] : List Int)) (cs' := flL (r5 ++ ([t.facts] : List Int))) (nm := ((r5 ++ ([t.facts] : List Int))).length) tS22 rfl (by decide) rfl rfl rfl (by rw [flL_len]; rfl) (srcS (k := 0) rfl) (flL_one _) (room_of q1063 q1062).1 (room_of q1063 q1062).2 q1063 (flL_append _ _).symm rfl (fun a17 c15 => ?_)
        refine .cast (A' := [OwnSl 3 1 a16 (([t.facts] : List Int).length) 1 (flL ([t.facts] : List Int)), OwnSl 3 1 a17 ((r5 ++ ([t.facts] : List Int)).length) c15 (flL (r5 ++ ([t.facts] : List Int))), OwnSl 3 1 a9 r4.length c9 (flL r4), OwnSl 3 1 a8 r3.length c8 (flL r3), Box po [.slice a ((gt t.ops t32).atStart.length) c, .slice a2 ((gt t.ops t32).over.length) c2, .slice a3 ((gt t.ops t32).atEnd.length) c3, .slice a4 ((gt t.ops t32).addStart.length) c4, .slice a5 ((gt t.ops t32).delStart.length) c5, .slice a6 ((gt t.ops t32).addEnd.length) c6, .slice a7 ((gt t.ops t32).delEnd.length) c7, .int .i64 ((gt t.ops t32).dur)], Box pt [.int .i64 t.facts, .slice at_ t.init.length ct, .slice at_2 t.goal.length ct2, .slice at_3 t.ops.length ct3], Box pv [.int .i64 0, .slice none 0 0, .slice none 0 0, .slice none 0 0], Box pv2 [.int .i64 0, .int .i64 0], Box p [.int .i64 (IntKind.i64.wrap (t.facts + 1)), .slice ax x.length cx, .slice ax2 x2.length cx2, .slice al2 l.length cl2], OwnSl 73 4 al2 l.length cl2 csl]) rfl ?_
        refine .v (asg rfl) rfl rfl rfl ?_
        refine .nil ?_
        refine .sel0 [5, 6, 7, 8, 4, 1, 9] (by decide) rfl ?_
        exact .use q1041 ((r5 ++ ([t.facts] : List Int)), a17, c15) hF (.cons rfl (.cons rfl (.cons rfl (.cons rfl (.cons rfl (.cons rfl (.cons rfl (.cons rfl (.cons rfl (.nil)))))))))) rfl (FH.le_refl _)
      replace hF := hF.2 q1060
      refine .skip ?_
      refine .sel0 [4, 5, 6, 7, 3, 0, 8] (by decide) rfl ?_
      exact .use q1041 (r5, a10, c10) hF (.cons rfl (.cons rfl (.cons rfl (.cons rfl (.cons rfl (.cons rfl (.cons rfl (.cons rfl (.cons rfl (.nil)))))))))) rfl (FH.le_refl _)
    replace hF := hF.2 q898
    refine .exit ?_
    refine .seqX ?_
    refine .seqX ?_
    refine .blkX ?_
    refine .seqN ?_
    refine .seq ?_
    refine .region ?_
    refine .v (ldA (cs := [.int .i64 (IntKind.i64.wrap (t.facts + 1)), .slice ax x.length cx, .slice ax2 x2.length cx2, .slice al2 l.length cl2]) rfl tA50 rfl (cellsB (off := 0) (k := 3) rfl (m := 4) rfl)) rfl rfl rfl ?_
    refine .v (bld (cs := #[.int .i64 0, .int .i64 0]) (pv := []) tB28 rfl rfl) rfl rfl rfl ?_
    refine st (p := pv) (off := 0) (k := 1) (vs := [.int .i64 (IntKind.i64.wrap (t.facts + 1)), .slice ax x.length cx, .slice ax2 x2.length cx2, .slice al2 l.length cl2]) rfl rfl rfl (fun w => (tA50 w).2) rfl rfl rfl rfl ?_
    refine .cast (A' := [Box pt [.int .i64 t.facts, .slice at_ t.init.length ct, .slice at_2 t.goal.length ct2, .slice at_3 t.ops.length ct3], Box pv [.int .i64 (IntKind.i64.wrap (t.facts + 1)), .slice ax x.length cx, .slice ax2 x2.length cx2, .slice al2 l.length cl2], Box pv2 [.int .i64 0, .int .i64 0], Box p [.int .i64 (IntKind.i64.wrap (t.facts + 1)), .slice ax x.length cx, .slice ax2 x2.length cx2, .slice al2 l.length cl2], OwnSl 73 4 al2 l.length cl2 csl]) rfl ?_
    refine st (p := pv2) (off := 0) (k := 2) (vs := [.int .i64 0, .int .i64 0]) rfl rfl rfl (fun w => (tA28 w).2) rfl rfl rfl rfl ?_
    refine .cast (A' := [Box pt [.int .i64 t.facts, .slice at_ t.init.length ct, .slice at_2 t.goal.length ct2, .slice at_3 t.ops.length ct3], Box pv [.int .i64 (IntKind.i64.wrap (t.facts + 1)), .slice ax x.length cx, .slice ax2 x2.length cx2, .slice al2 l.length cl2], Box pv2 [.int .i64 0, .int .i64 0], Box p [.int .i64 (IntKind.i64.wrap (t.facts + 1)), .slice ax x.length cx, .slice ax2 x2.length cx2, .slice al2 l.length cl2], OwnSl 73 4 al2 l.length cl2 csl]) rfl ?_
    refine .nil ?_
    refine .seqN ?_
    refine .freezeL (k := 4) rfl (fun h87 le87 q1065 q1064 => ?_)
    refine .cast (A' := [Box pt [.int .i64 t.facts, .slice at_ t.init.length ct, .slice at_2 t.goal.length ct2, .slice at_3 t.ops.length ct3], Box pv [.int .i64 (IntKind.i64.wrap (t.facts + 1)), .slice ax x.length cx, .slice ax2 x2.length cx2, .slice al2 l.length cl2], Box pv2 [.int .i64 0, .int .i64 0], Box p [.int .i64 (IntKind.i64.wrap (t.facts + 1)), .slice ax x.length cx, .slice ax2 x2.length cx2, .slice al2 l.length cl2], tru]) rfl ?_
    refine .ret ?_
    refine .res2 rfl (rvC rfl tA50 (k := 1) rfl rfl) (rvC rfl tA28 (k := 2) rfl rfl) (fun w' S => ⟨((⟨IntKind.i64.wrap (t.facts + 1), x, x2, l⟩ : Task), (⟨0, 0⟩ : Fault)), (ax, cx, ax2, cx2, al2, cl2), h87, hF, rfl, (FH.le_trans (FH.le_trans (q34) (q723)) (le87)), ⟨(q30.mono (FH.le_trans (q723) (le87))), q31, (q32.mono (FH.le_trans (q723) (le87))), q33, (show RSl h87 al2 l from ⟨_, q722.mono (le87), q1064⟩), (q1065)⟩, S.none⟩)
  refine .openA (s0 := [(1, .pointer (some pt)), (2, .pointer (some pv)), (3, .pointer (some pv2))]) [0, 1, 2, 3, 4, 6, 7] [(0, .pointer (some (pt.add 0))), (1, .int .i64 t.facts), (2, .int .i64 (IntKind.i64.wrap (t.facts + 1))), (3, .pointer (some (pt.add 1))), (4, .slice at_ t.init.length ct), (6, .pointer (some (pt.add 2))), (7, .slice at_2 t.goal.length ct2)] (by kernel_rfl) (.cons rfl (.cons rfl (.cons rfl (.nil)))) [1, 2, 3] [] rfl (by kernel_rfl) ?_
  refine .step [5, 10] 5 rfl (by kernel_rfl) (by kernel_rfl) (.v [] rfl rfl rfl rfl rfl rfl (fun _ => fa rfl tF25_0) (.v [(19, .pointer (some (pt.add 0)))] rfl rfl rfl rfl rfl rfl (fun _ => ld1 rfl tO3 (cellB (off := 0) (k := 3) rfl rfl)) (.v [(20, .int .i64 t.facts)] rfl rfl rfl rfl rfl rfl (fun _ => bi rfl rfl rfl) (.v [] rfl rfl rfl rfl rfl rfl (fun _ => fa rfl tF25_1) (.v [(22, .pointer (some (pt.add 1)))] rfl rfl rfl rfl rfl rfl (fun _ => ld1 rfl tO22 (cellB (off := 1) (k := 3) rfl rfl)) (.v [] rfl rfl rfl rfl rfl rfl (fun _ => fa rfl tF25_2) (.v [(25, .pointer (some (pt.add 2)))] rfl rfl rfl rfl rfl rfl (fun _ => ld1 rfl tO22 (cellB (off := 2) (k := 3) rfl rfl)) (.nil)))))))) (.cons [(23, .slice at_ t.init.length ct)] rfl rfl (fun sL hL => ?_) (.cons [] rfl rfl (fun sL hL => ?_) (.nil)))
  · obtain ⟨q1066, hF⟩ := hF
    obtain ⟨r10, q1067⟩ : ∃ y_ : List Int, y_ = sp_clone t.init := ⟨_, rfl⟩
    replace hF := hF r10 q1067
    refine clR (α := Option Addr × Nat) (Φ := fun h1 z => RSl h1 z.1 r10 ∧ r10.length ≤ z.2) (V := fun z => .slice z.1 r10.length z.2) Try.call35 rfl rfl (fun w S => (by rw [q1067]; exact c_clone S.sub t.init at_ ct _q1 _q2 q1066)) rfl (fun z h88 le88 hz => ?_)
    obtain ⟨a18, c16⟩ := z
    obtain ⟨q1068, q1069⟩ := hz
    refine .nil ?_
    refine .ja (M := [4, 3]) (C' := [0, 1, 2, 6, 7]) (pre := [(5, .slice a18 r10.length c16)]) [(1, .pointer (some pt)), (2, .pointer (some pv)), (3, .pointer (some pv2))] [1, 2, 3] hL rfl rfl rfl rfl rfl (.cons rfl (.cons rfl (.cons rfl (.nil)))) rfl rfl (by kernel_rfl) ?_
    refine .step [8, 10] 8 rfl (by kernel_rfl) (by kernel_rfl) (.v [] rfl rfl rfl rfl rfl rfl (fun _ => fa rfl tF25_0) (.v [(19, .pointer (some (pt.add 0)))] rfl rfl rfl rfl rfl rfl (fun _ => ld1 rfl tO3 (cellB (off := 0) (k := 3) rfl rfl)) (.v [(20, .int .i64 t.facts)] rfl rfl rfl rfl rfl rfl (fun _ => bi rfl rfl rfl) (.v [] rfl rfl rfl rfl rfl rfl (fun _ => fa rfl tF25_2) (.v [(25, .pointer (some (pt.add 2)))] rfl rfl rfl rfl rfl rfl (fun _ => ld1 rfl tO22 (cellB (off := 2) (k := 3) rfl rfl)) (.nil)))))) (.cons [(26, .slice at_2 t.goal.length ct2), (24, .slice a18 r10.length c16)] rfl rfl (fun sL hL => ?_) (.cons [] rfl rfl (fun sL hL => ?_) (.nil)))
    · obtain ⟨q1070, hF⟩ := hF
      obtain ⟨r11, q1071⟩ : ∃ y_ : List Int, y_ = sp_clone t.goal := ⟨_, rfl⟩
      replace hF := hF r11 q1071
      refine clR (α := Option Addr × Nat) (Φ := fun h1 z => RSl h1 z.1 r11 ∧ r11.length ≤ z.2) (V := fun z => .slice z.1 r11.length z.2) Try.call35 rfl rfl (fun w S => (by rw [q1071]; exact c_clone S.sub t.goal at_2 ct2 (_q3.mono (le88)) _q4 q1070)) rfl (fun z h89 le89 hz => ?_)
      obtain ⟨a19, c17⟩ := z
      obtain ⟨q1072, q1073⟩ := hz
      refine .nil ?_
      refine .ja (M := [7, 6]) (C' := [0, 1, 2, 9]) (pre := [(8, .slice a19 r11.length c17), (9, .agg #[.int .i64 (IntKind.i64.wrap (t.facts + 1)), .slice a18 r10.length c16, .slice a19 r11.length c17, .slice none 0 0])]) [(1, .pointer (some pt)), (2, .pointer (some pv)), (3, .pointer (some pv2))] [1, 2, 3] hL rfl rfl rfl rfl rfl (.cons rfl (.cons rfl (.cons rfl (.nil)))) rfl rfl (by kernel_rfl) ?_
      refine .step [10] 10 rfl (by kernel_rfl) (by kernel_rfl) (.v [] rfl rfl rfl rfl rfl rfl (fun _ => fa rfl tF25_0) (.v [(19, .pointer (some (pt.add 0)))] rfl rfl rfl rfl rfl rfl (fun _ => ld1 rfl tO3 (cellB (off := 0) (k := 3) rfl rfl)) (.v [(20, .int .i64 t.facts)] rfl rfl rfl rfl rfl rfl (fun _ => bi rfl rfl rfl) (.v [(21, .int .i64 (IntKind.i64.wrap (t.facts + 1))), (24, .slice a18 r10.length c16), (27, .slice a19 r11.length c17)] rfl rfl rfl rfl rfl rfl (fun _ => bld (cs := #[.int .i64 (IntKind.i64.wrap (t.facts + 1)), .slice a18 r10.length c16, .slice a19 r11.length c17, .slice none 0 0]) (pv := [(0, .int .i64 (IntKind.i64.wrap (t.facts + 1))), (1, .slice a18 r10.length c16), (2, .slice a19 r11.length c17)]) tB50 rfl rfl) (.nil))))) (.cons [] rfl rfl (fun sL hL => ?_) (.nil))
      refine al tZ50 rfl (fun pout => ?_)
      refine .nil ?_
      refine .ja (M := []) (C' := [0, 1, 2, 9]) (pre := [(10, .pointer (some pout))]) [(1, .pointer (some pt)), (2, .pointer (some pv)), (3, .pointer (some pv2))] [1, 2, 3] hL rfl rfl rfl rfl rfl (.cons rfl (.cons rfl (.cons rfl (.nil)))) rfl rfl (by kernel_rfl) ?_
      refine .step [11] 11 rfl (by kernel_rfl) (by kernel_rfl) (.v [] rfl rfl rfl rfl rfl rfl (fun _ => fa rfl tF25_0) (.v [(19, .pointer (some (pt.add 0)))] rfl rfl rfl rfl rfl rfl (fun _ => ld1 rfl tO3 (cellB (off := 0) (k := 4) rfl rfl)) (.v [(20, .int .i64 t.facts)] rfl rfl rfl rfl rfl rfl (fun _ => bi rfl rfl rfl) (.v [(21, .int .i64 (IntKind.i64.wrap (t.facts + 1))), (24, .slice a18 r10.length c16), (27, .slice a19 r11.length c17)] rfl rfl rfl rfl rfl rfl (fun _ => bld (cs := #[.int .i64 (IntKind.i64.wrap (t.facts + 1)), .slice a18 r10.length c16, .slice a19 r11.length c17, .slice none 0 0]) (pv := [(0, .int .i64 (IntKind.i64.wrap (t.facts + 1))), (1, .slice a18 r10.length c16), (2, .slice a19 r11.length c17)]) tB50 rfl rfl) (.nil))))) (.cons [(5, .pointer (some pout)), (28, .agg #[.int .i64 (IntKind.i64.wrap (t.facts + 1)), .slice a18 r10.length c16, .slice a19 r11.length c17, .slice none 0 0]), (27, .slice a19 r11.length c17), (19, .pointer (some (pt.add 0))), (20, .int .i64 t.facts), (21, .int .i64 (IntKind.i64.wrap (t.facts + 1))), (22, .pointer (some (pt.add 1))), (23, .slice at_ t.init.length ct), (24, .slice a18 r10.length c16), (25, .pointer (some (pt.add 2))), (26, .slice at_2 t.goal.length ct2), (27, .slice a19 r11.length c17), (28, .agg #[.int .i64 (IntKind.i64.wrap (t.facts + 1)), .slice a18 r10.length c16, .slice a19 r11.length c17, .slice none 0 0]), (5, .pointer (some pout))] rfl rfl (fun sL hL => ?_) (.nil))
      refine st (p := pout) (off := 0) (k := 0) (vs := [.int .i64 (IntKind.i64.wrap (t.facts + 1)), .slice a18 r10.length c16, .slice a19 r11.length c17, .slice none 0 0]) rfl rfl rfl (fun w => (tA50 w).2) rfl rfl rfl rfl ?_
      refine .cast (A' := [Box pout [.int .i64 (IntKind.i64.wrap (t.facts + 1)), .slice a18 r10.length c16, .slice a19 r11.length c17, .slice none 0 0], Box pf [.int .i64 r2.code, .int .i64 r2.index], Box pv2 [.int .i64 0, .int .i64 0], Box pv [.int .i64 0, .slice none 0 0, .slice none 0 0, .slice none 0 0], Box pt [.int .i64 t.facts, .slice at_ t.init.length ct, .slice at_2 t.goal.length ct2, .slice at_3 t.ops.length ct3]]) rfl ?_
      refine .nil ?_
      refine .jaN (M := [9, 0, 1, 2]) (C' := []) (pre := []) [1, 2, 3] hL rfl rfl rfl rfl rfl (by kernel_rfl) ?_
      refine .last [(19, .pointer (some (pt.add 0))), (20, .int .i64 t.facts), (21, .int .i64 (IntKind.i64.wrap (t.facts + 1))), (22, .pointer (some (pt.add 1))), (23, .slice at_ t.init.length ct), (24, .slice a18 r10.length c16), (25, .pointer (some (pt.add 2))), (26, .slice at_2 t.goal.length ct2), (27, .slice a19 r11.length c17), (28, .agg #[.int .i64 (IntKind.i64.wrap (t.facts + 1)), .slice a18 r10.length c16, .slice a19 r11.length c17, .slice none 0 0]), (5, .pointer (some pout))] rfl (by kernel_rfl) (.nil) rfl ?_
      refine .sel0 [4, 3, 2, 0] (by decide) rfl ?_
      exact .use q35 (r10, r11, pout, a18, c16, a19, c17, h89) ⟨hF, (q1068.mono (le89)), q1069, q1072, q1073, (FH.le_trans (le88) (le89))⟩ (.cons rfl (.cons rfl (.cons rfl (.cons rfl (.nil))))) rfl (FH.le_refl _)
    · refine al tZ50 rfl (fun pout => ?_)
      refine .nil ?_
      refine .ja (M := []) (C' := [0, 1, 2, 6, 7]) (pre := [(10, .pointer (some pout))]) [(1, .pointer (some pt)), (2, .pointer (some pv)), (3, .pointer (some pv2))] [1, 2, 3] hL rfl rfl rfl rfl rfl (.cons rfl (.cons rfl (.cons rfl (.nil)))) rfl rfl (by kernel_rfl) ?_
      refine .step [8] 8 rfl (by kernel_rfl) (by kernel_rfl) (.v [] rfl rfl rfl rfl rfl rfl (fun _ => fa rfl tF25_0) (.v [(19, .pointer (some (pt.add 0)))] rfl rfl rfl rfl rfl rfl (fun _ => ld1 rfl tO3 (cellB (off := 0) (k := 4) rfl rfl)) (.v [(20, .int .i64 t.facts)] rfl rfl rfl rfl rfl rfl (fun _ => bi rfl rfl rfl) (.v [] rfl rfl rfl rfl rfl rfl (fun _ => fa rfl tF25_2) (.v [(25, .pointer (some (pt.add 2)))] rfl rfl rfl rfl rfl rfl (fun _ => ld1 rfl tO22 (cellB (off := 2) (k := 4) rfl rfl)) (.nil)))))) (.cons [(26, .slice at_2 t.goal.length ct2), (24, .slice a18 r10.length c16)] rfl rfl (fun sL hL => ?_) (.nil))
      obtain ⟨q1074, hF⟩ := hF
      obtain ⟨r11, q1075⟩ : ∃ y_ : List Int, y_ = sp_clone t.goal := ⟨_, rfl⟩
      replace hF := hF r11 q1075
      refine clR (α := Option Addr × Nat) (Φ := fun h1 z => RSl h1 z.1 r11 ∧ r11.length ≤ z.2) (V := fun z => .slice z.1 r11.length z.2) Try.call35 rfl rfl (fun w S => (by rw [q1075]; exact c_clone S.sub t.goal at_2 ct2 (_q3.mono (le88)) _q4 q1074)) rfl (fun z h90 le90 hz => ?_)
      obtain ⟨a19, c17⟩ := z
      obtain ⟨q1076, q1077⟩ := hz
      refine .nil ?_
      refine .ja (M := [7, 6]) (C' := [0, 1, 2, 9]) (pre := [(8, .slice a19 r11.length c17), (9, .agg #[.int .i64 (IntKind.i64.wrap (t.facts + 1)), .slice a18 r10.length c16, .slice a19 r11.length c17, .slice none 0 0])]) [(1, .pointer (some pt)), (2, .pointer (some pv)), (3, .pointer (some pv2))] [1, 2, 3] hL rfl rfl rfl rfl rfl (.cons rfl (.cons rfl (.cons rfl (.nil)))) rfl rfl (by kernel_rfl) ?_
      refine .step [11] 11 rfl (by kernel_rfl) (by kernel_rfl) (.v [] rfl rfl rfl rfl rfl rfl (fun _ => fa rfl tF25_0) (.v [(19, .pointer (some (pt.add 0)))] rfl rfl rfl rfl rfl rfl (fun _ => ld1 rfl tO3 (cellB (off := 0) (k := 4) rfl rfl)) (.v [(20, .int .i64 t.facts)] rfl rfl rfl rfl rfl rfl (fun _ => bi rfl rfl rfl) (.v [(21, .int .i64 (IntKind.i64.wrap (t.facts + 1))), (24, .slice a18 r10.length c16), (27, .slice a19 r11.length c17)] rfl rfl rfl rfl rfl rfl (fun _ => bld (cs := #[.int .i64 (IntKind.i64.wrap (t.facts + 1)), .slice a18 r10.length c16, .slice a19 r11.length c17, .slice none 0 0]) (pv := [(0, .int .i64 (IntKind.i64.wrap (t.facts + 1))), (1, .slice a18 r10.length c16), (2, .slice a19 r11.length c17)]) tB50 rfl rfl) (.nil))))) (.cons [(5, .pointer (some pout)), (28, .agg #[.int .i64 (IntKind.i64.wrap (t.facts + 1)), .slice a18 r10.length c16, .slice a19 r11.length c17, .slice none 0 0]), (27, .slice a19 r11.length c17), (19, .pointer (some (pt.add 0))), (20, .int .i64 t.facts), (21, .int .i64 (IntKind.i64.wrap (t.facts + 1))), (22, .pointer (some (pt.add 1))), (23, .slice at_ t.init.length ct), (24, .slice a18 r10.length c16), (25, .pointer (some (pt.add 2))), (26, .slice at_2 t.goal.length ct2), (27, .slice a19 r11.length c17), (28, .agg #[.int .i64 (IntKind.i64.wrap (t.facts + 1)), .slice a18 r10.length c16, .slice a19 r11.length c17, .slice none 0 0]), (5, .pointer (some pout))] rfl rfl (fun sL hL => ?_) (.nil))
      refine st (p := pout) (off := 0) (k := 0) (vs := [.int .i64 (IntKind.i64.wrap (t.facts + 1)), .slice a18 r10.length c16, .slice a19 r11.length c17, .slice none 0 0]) rfl rfl rfl (fun w => (tA50 w).2) rfl rfl rfl rfl ?_
      refine .cast (A' := [Box pout [.int .i64 (IntKind.i64.wrap (t.facts + 1)), .slice a18 r10.length c16, .slice a19 r11.length c17, .slice none 0 0], Box pf [.int .i64 r2.code, .int .i64 r2.index], Box pv2 [.int .i64 0, .int .i64 0], Box pv [.int .i64 0, .slice none 0 0, .slice none 0 0, .slice none 0 0], Box pt [.int .i64 t.facts, .slice at_ t.init.length ct, .slice at_2 t.goal.length ct2, .slice at_3 t.ops.length ct3]]) rfl ?_
      refine .nil ?_
      refine .jaN (M := [9, 0, 1, 2]) (C' := []) (pre := []) [1, 2, 3] hL rfl rfl rfl rfl rfl (by kernel_rfl) ?_
      refine .last [(19, .pointer (some (pt.add 0))), (20, .int .i64 t.facts), (21, .int .i64 (IntKind.i64.wrap (t.facts + 1))), (22, .pointer (some (pt.add 1))), (23, .slice at_ t.init.length ct), (24, .slice a18 r10.length c16), (25, .pointer (some (pt.add 2))), (26, .slice at_2 t.goal.length ct2), (27, .slice a19 r11.length c17), (28, .agg #[.int .i64 (IntKind.i64.wrap (t.facts + 1)), .slice a18 r10.length c16, .slice a19 r11.length c17, .slice none 0 0]), (5, .pointer (some pout))] rfl (by kernel_rfl) (.nil) rfl ?_
      refine .sel0 [4, 3, 2, 0] (by decide) rfl ?_
      exact .use q35 (r10, r11, pout, a18, c16, a19, c17, h90) ⟨hF, (q1068.mono (le90)), q1069, q1076, q1077, (FH.le_trans (le88) (le90))⟩ (.cons rfl (.cons rfl (.cons rfl (.cons rfl (.nil))))) rfl (FH.le_refl _)
  · refine al tZ50 rfl (fun pout => ?_)
    refine .nil ?_
    refine .ja (M := []) (C' := [0, 1, 2, 3, 4, 6, 7]) (pre := [(10, .pointer (some pout))]) [(1, .pointer (some pt)), (2, .pointer (some pv)), (3, .pointer (some pv2))] [1, 2, 3] hL rfl rfl rfl rfl rfl (.cons rfl (.cons rfl (.cons rfl (.nil)))) rfl rfl (by kernel_rfl) ?_
    refine .step [5] 5 rfl (by kernel_rfl) (by kernel_rfl) (.v [] rfl rfl rfl rfl rfl rfl (fun _ => fa rfl tF25_0) (.v [(19, .pointer (some (pt.add 0)))] rfl rfl rfl rfl rfl rfl (fun _ => ld1 rfl tO3 (cellB (off := 0) (k := 4) rfl rfl)) (.v [(20, .int .i64 t.facts)] rfl rfl rfl rfl rfl rfl (fun _ => bi rfl rfl rfl) (.v [] rfl rfl rfl rfl rfl rfl (fun _ => fa rfl tF25_1) (.v [(22, .pointer (some (pt.add 1)))] rfl rfl rfl rfl rfl rfl (fun _ => ld1 rfl tO22 (cellB (off := 1) (k := 4) rfl rfl)) (.v [] rfl rfl rfl rfl rfl rfl (fun _ => fa rfl tF25_2) (.v [(25, .pointer (some (pt.add 2)))] rfl rfl rfl rfl rfl rfl (fun _ => ld1 rfl tO22 (cellB (off := 2) (k := 4) rfl rfl)) (.nil)))))))) (.cons [(23, .slice at_ t.init.length ct)] rfl rfl (fun sL hL => ?_) (.nil))
    obtain ⟨q1078, hF⟩ := hF
    obtain ⟨r10, q1079⟩ : ∃ y_ : List Int, y_ = sp_clone t.init := ⟨_, rfl⟩
    replace hF := hF r10 q1079
    refine clR (α := Option Addr × Nat) (Φ := fun h1 z => RSl h1 z.1 r10 ∧ r10.length ≤ z.2) (V := fun z => .slice z.1 r10.length z.2) Try.call35 rfl rfl (fun w S => (by rw [q1079]; exact c_clone S.sub t.init at_ ct _q1 _q2 q1078)) rfl (fun z h91 le91 hz => ?_)
    obtain ⟨a18, c16⟩ := z
    obtain ⟨q1080, q1081⟩ := hz
    refine .nil ?_
    refine .ja (M := [4, 3]) (C' := [0, 1, 2, 6, 7]) (pre := [(5, .slice a18 r10.length c16)]) [(1, .pointer (some pt)), (2, .pointer (some pv)), (3, .pointer (some pv2))] [1, 2, 3] hL rfl rfl rfl rfl rfl (.cons rfl (.cons rfl (.cons rfl (.nil)))) rfl rfl (by kernel_rfl) ?_
    refine .step [8] 8 rfl (by kernel_rfl) (by kernel_rfl) (.v [] rfl rfl rfl rfl rfl rfl (fun _ => fa rfl tF25_0) (.v [(19, .pointer (some (pt.add 0)))] rfl rfl rfl rfl rfl rfl (fun _ => ld1 rfl tO3 (cellB (off := 0) (k := 4) rfl rfl)) (.v [(20, .int .i64 t.facts)] rfl rfl rfl rfl rfl rfl (fun _ => bi rfl rfl rfl) (.v [] rfl rfl rfl rfl rfl rfl (fun _ => fa rfl tF25_2) (.v [(25, .pointer (some (pt.add 2)))] rfl rfl rfl rfl rfl rfl (fun _ => ld1 rfl tO22 (cellB (off := 2) (k := 4) rfl rfl)) (.nil)))))) (.cons [(26, .slice at_2 t.goal.length ct2), (24, .slice a18 r10.length c16)] rfl rfl (fun sL hL => ?_) (.nil))
    obtain ⟨q1082, hF⟩ := hF
    obtain ⟨r11, q1083⟩ : ∃ y_ : List Int, y_ = sp_clone t.goal := ⟨_, rfl⟩
    replace hF := hF r11 q1083
    refine clR (α := Option Addr × Nat) (Φ := fun h1 z => RSl h1 z.1 r11 ∧ r11.length ≤ z.2) (V := fun z => .slice z.1 r11.length z.2) Try.call35 rfl rfl (fun w S => (by rw [q1083]; exact c_clone S.sub t.goal at_2 ct2 (_q3.mono (le91)) _q4 q1082)) rfl (fun z h92 le92 hz => ?_)
    obtain ⟨a19, c17⟩ := z
    obtain ⟨q1084, q1085⟩ := hz
    refine .nil ?_
    refine .ja (M := [7, 6]) (C' := [0, 1, 2, 9]) (pre := [(8, .slice a19 r11.length c17), (9, .agg #[.int .i64 (IntKind.i64.wrap (t.facts + 1)), .slice a18 r10.length c16, .slice a19 r11.length c17, .slice none 0 0])]) [(1, .pointer (some pt)), (2, .pointer (some pv)), (3, .pointer (some pv2))] [1, 2, 3] hL rfl rfl rfl rfl rfl (.cons rfl (.cons rfl (.cons rfl (.nil)))) rfl rfl (by kernel_rfl) ?_
    refine .step [11] 11 rfl (by kernel_rfl) (by kernel_rfl) (.v [] rfl rfl rfl rfl rfl rfl (fun _ => fa rfl tF25_0) (.v [(19, .pointer (some (pt.add 0)))] rfl rfl rfl rfl rfl rfl (fun _ => ld1 rfl tO3 (cellB (off := 0) (k := 4) rfl rfl)) (.v [(20, .int .i64 t.facts)] rfl rfl rfl rfl rfl rfl (fun _ => bi rfl rfl rfl) (.v [(21, .int .i64 (IntKind.i64.wrap (t.facts + 1))), (24, .slice a18 r10.length c16), (27, .slice a19 r11.length c17)] rfl rfl rfl rfl rfl rfl (fun _ => bld (cs := #[.int .i64 (IntKind.i64.wrap (t.facts + 1)), .slice a18 r10.length c16, .slice a19 r11.length c17, .slice none 0 0]) (pv := [(0, .int .i64 (IntKind.i64.wrap (t.facts + 1))), (1, .slice a18 r10.length c16), (2, .slice a19 r11.length c17)]) tB50 rfl rfl) (.nil))))) (.cons [(5, .pointer (some pout)), (28, .agg #[.int .i64 (IntKind.i64.wrap (t.facts + 1)), .slice a18 r10.length c16, .slice a19 r11.length c17, .slice none 0 0]), (27, .slice a19 r11.length c17), (19, .pointer (some (pt.add 0))), (20, .int .i64 t.facts), (21, .int .i64 (IntKind.i64.wrap (t.facts + 1))), (22, .pointer (some (pt.add 1))), (23, .slice at_ t.init.length ct), (24, .slice a18 r10.length c16), (25, .pointer (some (pt.add 2))), (26, .slice at_2 t.goal.length ct2), (27, .slice a19 r11.length c17), (28, .agg #[.int .i64 (IntKind.i64.wrap (t.facts + 1)), .slice a18 r10.length c16, .slice a19 r11.length c17, .slice none 0 0]), (5, .pointer (some pout))] rfl rfl (fun sL hL => ?_) (.nil))
    refine st (p := pout) (off := 0) (k := 0) (vs := [.int .i64 (IntKind.i64.wrap (t.facts + 1)), .slice a18 r10.length c16, .slice a19 r11.length c17, .slice none 0 0]) rfl rfl rfl (fun w => (tA50 w).2) rfl rfl rfl rfl ?_
    refine .cast (A' := [Box pout [.int .i64 (IntKind.i64.wrap (t.facts + 1)), .slice a18 r10.length c16, .slice a19 r11.length c17, .slice none 0 0], Box pf [.int .i64 r2.code, .int .i64 r2.index], Box pv2 [.int .i64 0, .int .i64 0], Box pv [.int .i64 0, .slice none 0 0, .slice none 0 0, .slice none 0 0], Box pt [.int .i64 t.facts, .slice at_ t.init.length ct, .slice at_2 t.goal.length ct2, .slice at_3 t.ops.length ct3]]) rfl ?_
    refine .nil ?_
    refine .jaN (M := [9, 0, 1, 2]) (C' := []) (pre := []) [1, 2, 3] hL rfl rfl rfl rfl rfl (by kernel_rfl) ?_
    refine .last [(19, .pointer (some (pt.add 0))), (20, .int .i64 t.facts), (21, .int .i64 (IntKind.i64.wrap (t.facts + 1))), (22, .pointer (some (pt.add 1))), (23, .slice at_ t.init.length ct), (24, .slice a18 r10.length c16), (25, .pointer (some (pt.add 2))), (26, .slice at_2 t.goal.length ct2), (27, .slice a19 r11.length c17), (28, .agg #[.int .i64 (IntKind.i64.wrap (t.facts + 1)), .slice a18 r10.length c16, .slice a19 r11.length c17, .slice none 0 0]), (5, .pointer (some pout))] rfl (by kernel_rfl) (.nil) rfl ?_
    refine .sel0 [4, 3, 2, 0] (by decide) rfl ?_
    exact .use q35 (r10, r11, pout, a18, c16, a19, c17, h92) ⟨hF, (q1080.mono (le92)), q1081, q1084, q1085, (FH.le_trans (le91) (le92))⟩ (.cons rfl (.cons rfl (.cons rfl (.cons rfl (.nil))))) rfl (FH.le_refl _)

theorem c_sequence {h : FH} {w : World} (hs : Sub h w) (t : TTask) (at_ : Option Addr) (ct : Nat) (_q1 : RSl h at_ t.init) (_q2 : t.init.length ≤ ct) (at_2 : Option Addr) (ct2 : Nat) (_q3 : RSl h at_2 t.goal) (_q4 : t.goal.length ≤ ct2) (at_3 : Option Addr) (ct3 : Nat) (_q5 : RSl h at_3 t.ops) (_q6 : t.ops.length ≤ ct3) : Calls Try.prog 19 #[.agg #[.int .i64 t.facts, .slice at_ t.init.length ct, .slice at_2 t.goal.length ct2, .slice at_3 t.ops.length ct3]] w fun e w' => ∃ (z : Option Addr × Nat × Option Addr × Nat × Option Addr × Nat) (h1 : FH), e = .returned (.tuple #[.agg #[.int .i64 (sp_sequence t).1.facts, .slice z.1 (sp_sequence t).1.init.length z.2.1, .slice z.2.2.1 (sp_sequence t).1.goal.length z.2.2.2.1, .slice z.2.2.2.2.1 (sp_sequence t).1.ops.length z.2.2.2.2.2], .agg #[.int .i64 (sp_sequence t).2.code, .int .i64 (sp_sequence t).2.index]]) ∧ FH.le h h1 ∧ (RSl h1 z.1 (sp_sequence t).1.init ∧ (sp_sequence t).1.init.length ≤ z.2.1 ∧ RSl h1 z.2.2.1 (sp_sequence t).1.goal ∧ (sp_sequence t).1.goal.length ≤ z.2.2.2.1 ∧ RSl h1 z.2.2.2.2.1 (sp_sequence t).1.ops ∧ (sp_sequence t).1.ops.length ≤ z.2.2.2.2.2) ∧ SH (Kp.all w h) h1 w' [] :=
  (w_sequence hs t at_ ct _q1 _q2 at_2 ct2 _q3 _q4 at_3 ct3 _q5 _q6 (fun r => r = sp_sequence t) (ok_sequence t)).mono fun _ _ ⟨r, z, h1, hk, he, hl, hf, hS⟩ => by subst hk; exact ⟨z, h1, he, hl, hf, hS⟩

set_option maxHeartbeats 8000000 in
theorem w_sequenced {h : FH} {w : World} (hs : Sub h w) (t : TTask) (at_ : Option Addr) (ct : Nat) (_q1 : RSl h at_ t.init) (_q2 : t.init.length ≤ ct) (at_2 : Option Addr) (ct2 : Nat) (_q3 : RSl h at_2 t.goal) (_q4 : t.goal.length ≤ ct2) (at_3 : Option Addr) (ct3 : Nat) (_q5 : RSl h at_3 t.ops) (_q6 : t.ops.length ≤ ct3) (K : Task → Prop) (hF : F_sequenced t K) : Calls Try.prog 21 #[.agg #[.int .i64 t.facts, .slice at_ t.init.length ct, .slice at_2 t.goal.length ct2, .slice at_3 t.ops.length ct3]] w fun e w' => ∃ (r : Task) (z : Option Addr × Nat × Option Addr × Nat × Option Addr × Nat) (h1 : FH), K r ∧ e = .returned (.agg #[.int .i64 r.facts, .slice z.1 r.init.length z.2.1, .slice z.2.2.1 r.goal.length z.2.2.2.1, .slice z.2.2.2.2.1 r.ops.length z.2.2.2.2.2]) ∧ FH.le h h1 ∧ (RSl h1 z.1 r.init ∧ r.init.length ≤ z.2.1 ∧ RSl h1 z.2.2.1 r.goal ∧ r.goal.length ≤ z.2.2.2.1 ∧ RSl h1 z.2.2.2.2.1 r.ops ∧ r.ops.length ≤ z.2.2.2.2.2) ∧ SH (Kp.all w h) h1 w' [] := by
  refine enter (args := [.agg #[.int .i64 t.facts, .slice at_ t.init.length ct, .slice at_2 t.goal.length ct2, .slice at_3 t.ops.length ct3]]) Try.func21 rfl Try.ntmps21 rfl hs ?_
  refine .seq ?_
  refine .region ?_
  refine bx (vs := [.int .i64 t.facts, .slice at_ t.init.length ct, .slice at_2 t.goal.length ct2, .slice at_3 t.ops.length ct3]) rfl rfl rfl (fun pt => ?_)
  refine al tZ50 rfl (fun pv => ?_)
  refine .nil ?_
  refine .seqN ?_
  refine .seq ?_
  refine .region ?_
  refine .v (fa rfl tF25_0) rfl rfl rfl ?_
  refine .v (ld1 rfl tO3 (cellB (off := 0) (k := 1) rfl rfl)) rfl rfl rfl ?_
  refine .v (bi rfl rfl rfl) rfl rfl rfl ?_
  refine .v (fa rfl tF25_1) rfl rfl rfl ?_
  refine .v (ld1 rfl tO22 (cellB (off := 1) (k := 1) rfl rfl)) rfl rfl rfl ?_
  refine .v (fa rfl tF25_2) rfl rfl rfl ?_
  refine .v (ld1 rfl tO22 (cellB (off := 2) (k := 1) rfl rfl)) rfl rfl rfl ?_
  refine .v (bld (cs := #[.int .i64 (IntKind.i64.wrap (t.facts + 1)), .slice at_ t.init.length ct, .slice at_2 t.goal.length ct2, .slice none 0 0]) (pv := [(0, .int .i64 (IntKind.i64.wrap (t.facts + 1))), (1, .slice at_ t.init.length ct), (2, .slice at_2 t.goal.length ct2)]) tB50 rfl rfl) rfl rfl rfl ?_
  refine al tZ50 rfl (fun pout => ?_)
  refine st (p := pout) (off := 0) (k := 0) (vs := [.int .i64 (IntKind.i64.wrap (t.facts + 1)), .slice at_ t.init.length ct, .slice at_2 t.goal.length ct2, .slice none 0 0]) rfl rfl rfl (fun w => (tA50 w).2) rfl rfl rfl rfl ?_
  refine .cast (A' := [Box pout [.int .i64 (IntKind.i64.wrap (t.facts + 1)), .slice at_ t.init.length ct, .slice at_2 t.goal.length ct2, .slice none 0 0], Box pv [.int .i64 0, .slice none 0 0, .slice none 0 0, .slice none 0 0], Box pt [.int .i64 t.facts, .slice at_ t.init.length ct, .slice at_2 t.goal.length ct2, .slice at_3 t.ops.length ct3]]) rfl ?_
  refine .nil ?_
  refine .seqN ?_
  refine .seq ?_
  refine .seq ?_
  refine .region ?_
  refine .v (asg rfl) rfl rfl rfl ?_
  refine .nil ?_
  refine .seqN ?_
  refine .block ?_
  refine .nilSl 73 4 ?_
  refine .cast (A' := [OwnSl 73 4 none (([] : List Operator).length) 0 [], Box pout [.int .i64 (IntKind.i64.wrap (t.facts + 1)), .slice at_ t.init.length ct, .slice at_2 t.goal.length ct2, .slice none 0 0], Box pv [.int .i64 0, .slice none 0 0, .slice none 0 0, .slice none 0 0], Box pt [.int .i64 t.facts, .slice at_ t.init.length ct, .slice at_2 t.goal.length ct2, .slice at_3 t.ops.length ct3]]) rfl ?_
  refine .sel0 [3, 2, 1, 0] (by decide) rfl ?_
  obtain ⟨I1, μ1, q18950, q18951⟩ := hF
  refine .loop' (σ := Int × List Operator × Option Addr × Nat × List Value × FH) (fun z => I1 z.1 z.2.1 ∧ RepL z.2.2.2.2.2 z.2.1 z.2.2.2.2.1 ∧ FH.le h z.2.2.2.2.2) (fun z => μ1 z.1 z.2.1) (fun z => [(1, .pointer (some pt)), (2, .pointer (some pv)), (3, .pointer (some pout)), (4, .int .i64 z.1)]) (fun z => [Box pt [.int .i64 t.facts, .slice at_ t.init.length ct, .slice at_2 t.goal.length ct2, .slice at_3 t.ops.length ct3], Box pv [.int .i64 0, .slice none 0 0, .slice none 0 0, .slice none 0 0], Box pout [.int .i64 (IntKind.i64.wrap (t.facts + 1)), .slice at_ t.init.length ct, .slice at_2 t.goal.length ct2, .slice z.2.2.1 z.2.1.length z.2.2.2.1], OwnSl 73 4 z.2.2.1 z.2.1.length z.2.2.2.1 z.2.2.2.2.1]) (fun z => z.2.2.2.2.2) (0, ([] : List Operator), none, 0, [], h) ⟨q18950, (show RepL h ([] : List Operator) [] from rfl), (FH.le_refl _)⟩ (.cons rfl (.cons rfl (.cons rfl (.cons rfl (.nil))))) rfl (FH.le_refl _) ?_
  rintro ⟨i, l, al2, cl2, csl, h1483⟩ ⟨q18950, q15161, q15162⟩
  have hF := q18951 i l q18950
  show J _ _ _ _ _ [(1, .pointer (some pt)), (2, .pointer (some pv)), (3, .pointer (some pout)), (4, .int .i64 i)] [Box pt [.int .i64 t.facts, .slice at_ t.init.length ct, .slice at_2 t.goal.length ct2, .slice at_3 t.ops.length ct3], Box pv [.int .i64 0, .slice none 0 0, .slice none 0 0, .slice none 0 0], Box pout [.int .i64 (IntKind.i64.wrap (t.facts + 1)), .slice at_ t.init.length ct, .slice at_2 t.goal.length ct2, .slice al2 l.length cl2], OwnSl 73 4 al2 l.length cl2 csl] h1483
  refine .seq ?_
  refine .seq ?_
  refine .region ?_
  refine .v (mv rfl) rfl rfl rfl ?_
  refine .v (fa rfl tF25_3) rfl rfl rfl ?_
  refine .v (ld1 rfl tO23 (cellB (off := 3) (k := 0) rfl rfl)) rfl rfl rfl ?_
  refine .v (ln rfl tS23.is) rfl rfl rfl ?_
  refine .v (bi rfl rfl rfl) rfl rfl rfl ?_
  refine .nil ?_
  refine .seqN ?_
  refine .cond rfl (fun q18953 => ?_) (fun q18953 => ?_)
  · replace hF := hF.1 q18953
    refine .skip ?_
    refine .seqN ?_
    refine .seq ?_
    refine .block ?_
    refine .seq ?_
    refine .region ?_
    refine .v (fa rfl tF25_3) rfl rfl rfl ?_
    refine .v (ld1 rfl tO23 (cellB (off := 3) (k := 0) rfl rfl)) rfl rfl rfl ?_
    refine .v (mv rfl) rfl rfl rfl ?_
    obtain ⟨q21476, hF⟩ := hF
    refine .v (ix rfl rfl tS23 (_q5.ne (by decide) (inb_pos q21476)) q21476) rfl rfl rfl ?_
    obtain ⟨_, ⟨a, c, a2, c2, a3, c3, a4, c4, a5, c5, a6, c6, a7, c7, rfl, ⟨q21477, q21478⟩, ⟨q21479, q21480⟩, ⟨q21481, q21482⟩, ⟨q21483, q21484⟩, ⟨q21485, q21486⟩, ⟨q21487, q21488⟩, q21489, q21490⟩, q21491⟩ := _q5.elem q21476
    refine .v (ldA (cs := [.slice a ((gt t.ops i).atStart.length) c, .slice a2 ((gt t.ops i).over.length) c2, .slice a3 ((gt t.ops i).atEnd.length) c3, .slice a4 ((gt t.ops i).addStart.length) c4, .slice a5 ((gt t.ops i).delStart.length) c5, .slice a6 ((gt t.ops i).addEnd.length) c6, .slice a7 ((gt t.ops i).delEnd.length) c7, .int .i64 ((gt t.ops i).dur)]) rfl tA41 rfl (cellsH ((fun q => (q21491 q).mono (q15162)) (by decide)))) rfl rfl rfl ?_
    refine al tZ41 rfl (fun po => ?_)
    refine st (p := po) (off := 0) (k := 0) (vs := [.slice a ((gt t.ops i).atStart.length) c, .slice a2 ((gt t.ops i).over.length) c2, .slice a3 ((gt t.ops i).atEnd.length) c3, .slice a4 ((gt t.ops i).addStart.length) c4, .slice a5 ((gt t.ops i).delStart.length) c5, .slice a6 ((gt t.ops i).addEnd.length) c6, .slice a7 ((gt t.ops i).delEnd.length) c7, .int .i64 ((gt t.ops i).dur)]) rfl rfl rfl (fun w => (tA41 w).2) rfl rfl rfl rfl ?_
    refine .cast (A' := [Box po [.slice a ((gt t.ops i).atStart.length) c, .slice a2 ((gt t.ops i).over.length) c2, .slice a3 ((gt t.ops i).atEnd.length) c3, .slice a4 ((gt t.ops i).addStart.length) c4, .slice a5 ((gt t.ops i).delStart.length) c5, .slice a6 ((gt t.ops i).addEnd.length) c6, .slice a7 ((gt t.ops i).delEnd.length) c7, .int .i64 ((gt t.ops i).dur)], Box pt [.int .i64 t.facts, .slice at_ t.init.length ct, .slice at_2 t.goal.length ct2, .slice at_3 t.ops.length ct3], Box pv [.int .i64 0, .slice none 0 0, .slice none 0 0, .slice none 0 0], Box pout [.int .i64 (IntKind.i64.wrap (t.facts + 1)), .slice at_ t.init.length ct, .slice at_2 t.goal.length ct2, .slice al2 l.length cl2], OwnSl 73 4 al2 l.length cl2 csl]) rfl ?_
    refine .nil ?_
    refine .seqN ?_
    refine .seq ?_
    refine .region ?_
    refine al tZ73 rfl (fun px => ?_)
    refine .nil ?_
    refine .seqN ?_
    refine .seq ?_
    refine .region ?_
    refine .v (asg rfl) rfl rfl rfl ?_
    refine .nil ?_
    refine .seqN ?_
    refine .seq ?_
    refine .seq ?_
    refine .region ?_
    refine .v (asg rfl) rfl rfl rfl ?_
    refine .nil ?_
    refine .seqN ?_
    refine .block ?_
    refine .nilSl 3 1 ?_
    refine .cast (A' := [OwnSl 3 1 none (([] : List Int).length) 0 (flL ([] : List Int)), Box px [.slice none 0 0, .slice none 0 0, .slice none 0 0, .int .i64 0], Box po [.slice a ((gt t.ops i).atStart.length) c, .slice a2 ((gt t.ops i).over.length) c2, .slice a3 ((gt t.ops i).atEnd.length) c3, .slice a4 ((gt t.ops i).addStart.length) c4, .slice a5 ((gt t.ops i).delStart.length) c5, .slice a6 ((gt t.ops i).addEnd.length) c6, .slice a7 ((gt t.ops i).delEnd.length) c7, .int .i64 ((gt t.ops i).dur)], Box pt [.int .i64 t.facts, .slice at_ t.init.length ct, .slice at_2 t.goal.length ct2, .slice at_3 t.ops.length ct3], Box pv [.int .i64 0, .slice none 0 0, .slice none 0 0, .slice none 0 0], Box pout [.int .i64 (IntKind.i64.wrap (t.facts + 1)), .slice at_ t.init.length ct, .slice at_2 t.goal.length ct2, .slice al2 l.length cl2], OwnSl 73 4 al2 l.length cl2 csl]) rfl ?_
    refine .nilSl 3 1 ?_
    refine .cast (A' := [OwnSl 3 1 none (([] : List Int).length) 0 (flL ([] : List Int)), OwnSl 3 1 none (([] : List Int).length) 0 (flL ([] : List Int)), Box px [.slice none (([] : List Int).length) 0, .slice none 0 0, .slice none 0 0, .int .i64 0], Box po [.slice a ((gt t.ops i).atStart.length) c, .slice a2 ((gt t.ops i).over.length) c2, .slice a3 ((gt t.ops i).atEnd.length) c3, .slice a4 ((gt t.ops i).addStart.length) c4, .slice a5 ((gt t.ops i).delStart.length) c5, .slice a6 ((gt t.ops i).addEnd.length) c6, .slice a7 ((gt t.ops i).delEnd.length) c7, .int .i64 ((gt t.ops i).dur)], Box pt [.int .i64 t.facts, .slice at_ t.init.length ct, .slice at_2 t.goal.length ct2, .slice at_3 t.ops.length ct3], Box pv [.int .i64 0, .slice none 0 0, .slice none 0 0, .slice none 0 0], Box pout [.int .i64 (IntKind.i64.wrap (t.facts + 1)), .slice at_ t.init.length ct, .slice at_2 t.goal.length ct2, .slice al2 l.length cl2], OwnSl 73 4 al2 l.length cl2 csl]) rfl ?_
    refine .nilSl 3 1 ?_
    refine .cast (A' := [OwnSl 3 1 none (([] : List Int).length) 0 (flL ([] : List Int)), OwnSl 3 1 none (([] : List Int).length) 0 (flL ([] : List Int)), OwnSl 3 1 none (([] : List Int).length) 0 (flL ([] : List Int)), Box px [.slice none (([] : List Int).length) 0, .slice none (([] : List Int).length) 0, .slice none 0 0, .int .i64 0], Box po [.slice a ((gt t.ops i).atStart.length) c, .slice a2 ((gt t.ops i).over.length) c2, .slice a3 ((gt t.ops i).atEnd.length) c3, .slice a4 ((gt t.ops i).addStart.length) c4, .slice a5 ((gt t.ops i).delStart.length) c5, .slice a6 ((gt t.ops i).addEnd.length) c6, .slice a7 ((gt t.ops i).delEnd.length) c7, .int .i64 ((gt t.ops i).dur)], Box pt [.int .i64 t.facts, .slice at_ t.init.length ct, .slice at_2 t.goal.length ct2, .slice at_3 t.ops.length ct3], Box pv [.int .i64 0, .slice none 0 0, .slice none 0 0, .slice none 0 0], Box pout [.int .i64 (IntKind.i64.wrap (t.facts + 1)), .slice at_ t.init.length ct, .slice at_2 t.goal.length ct2, .slice al2 l.length cl2], OwnSl 73 4 al2 l.length cl2 csl]) rfl ?_
    refine .sel0 [5, 6, 7, 4, 3, 8, 2, 1, 0] (by decide) rfl ?_
    obtain ⟨I2, μ2, q22511, q22512⟩ := hF
    refine .loop' (σ := Bool × Int × List Int × List Int × List Int × Option Addr × Nat × Option Addr × Nat × Option Addr × Nat) (fun z => I2 z.1 z.2.1 z.2.2.1 z.2.2.2.1 z.2.2.2.2.1) (fun z => μ2 z.1 z.2.1 z.2.2.1 z.2.2.2.1 z.2.2.2.2.1) (fun z => [(1, .pointer (some pt)), (2, .pointer (some pv)), (3, .pointer (some pout)), (4, .int .i64 i), (5, .pointer (some po)), (6, .pointer (some px)), (7, .bool z.1), (8, .int .i64 z.2.1)]) (fun z => [Box pt [.int .i64 t.facts, .slice at_ t.init.length ct, .slice at_2 t.goal.length ct2, .slice at_3 t.ops.length ct3], Box pv [.int .i64 0, .slice none 0 0, .slice none 0 0, .slice none 0 0], Box pout [.int .i64 (IntKind.i64.wrap (t.facts + 1)), .slice at_ t.init.length ct, .slice at_2 t.goal.length ct2, .slice al2 l.length cl2], Box po [.slice a ((gt t.ops i).atStart.length) c, .slice a2 ((gt t.ops i).over.length) c2, .slice a3 ((gt t.ops i).atEnd.length) c3, .slice a4 ((gt t.ops i).addStart.length) c4, .slice a5 ((gt t.ops i).delStart.length) c5, .slice a6 ((gt t.ops i).addEnd.length) c6, .slice a7 ((gt t.ops i).delEnd.length) c7, .int .i64 ((gt t.ops i).dur)], Box px [.slice z.2.2.2.2.2.1 z.2.2.1.length z.2.2.2.2.2.2.1, .slice z.2.2.2.2.2.2.2.1 z.2.2.2.1.length z.2.2.2.2.2.2.2.2.1, .slice z.2.2.2.2.2.2.2.2.2.1 z.2.2.2.2.1.length z.2.2.2.2.2.2.2.2.2.2, .int .i64 0], OwnSl 73 4 al2 l.length cl2 csl, OwnSl 3 1 z.2.2.2.2.2.1 z.2.2.1.length z.2.2.2.2.2.2.1 (flL z.2.2.1), OwnSl 3 1 z.2.2.2.2.2.2.2.1 z.2.2.2.1.length z.2.2.2.2.2.2.2.2.1 (flL z.2.2.2.1), OwnSl 3 1 z.2.2.2.2.2.2.2.2.2.1 z.2.2.2.2.1.length z.2.2.2.2.2.2.2.2.2.2 (flL z.2.2.2.2.1)]) (fun _ => h1483) (false, 0, ([] : List Int), ([] : List Int), ([] : List Int), none, 0, none, 0, none, 0) q22511 (.cons rfl (.cons rfl (.cons rfl (.cons rfl (.cons rfl (.cons rfl (.cons rfl (.cons rfl (.nil))))))))) rfl (FH.le_refl _) ?_
    rintro ⟨never, p, l3, l4, l5, al4, cl4, al5, cl5, al6, cl6⟩ q22511
    have hF := q22512 never p l3 l4 l5 q22511
    show J _ _ _ _ _ [(1, .pointer (some pt)), (2, .pointer (some pv)), (3, .pointer (some pout)), (4, .int .i64 i), (5, .pointer (some po)), (6, .pointer (some px)), (7, .bool never), (8, .int .i64 p)] [Box pt [.int .i64 t.facts, .slice at_ t.init.length ct, .slice at_2 t.goal.length ct2, .slice at_3 t.ops.length ct3], Box pv [.int .i64 0, .slice none 0 0, .slice none 0 0, .slice none 0 0], Box pout [.int .i64 (IntKind.i64.wrap (t.facts + 1)), .slice at_ t.init.length ct, .slice at_2 t.goal.length ct2, .slice al2 l.length cl2], Box po [.slice a ((gt t.ops i).atStart.length) c, .slice a2 ((gt t.ops i).over.length) c2, .slice a3 ((gt t.ops i).atEnd.length) c3, .slice a4 ((gt t.ops i).addStart.length) c4, .slice a5 ((gt t.ops i).delStart.length) c5, .slice a6 ((gt t.ops i).addEnd.length) c6, .slice a7 ((gt t.ops i).delEnd.length) c7, .int .i64 ((gt t.ops i).dur)], Box px [.slice al4 l3.length cl4, .slice al5 l4.length cl5, .slice al6 l5.length cl6, .int .i64 0], OwnSl 73 4 al2 l.length cl2 csl, OwnSl 3 1 al4 l3.length cl4 (flL l3), OwnSl 3 1 al5 l4.length cl5 (flL l4), OwnSl 3 1 al6 l5.length cl6 (flL l5)] h1483
    refine .seq ?_
    refine .seq ?_
    refine .region ?_
    refine .v (mv rfl) rfl rfl rfl ?_
    refine .v (fa rfl tF25_0) rfl rfl rfl ?_
    refine .v (ld1 rfl tO3 (cellB (off := 0) (k := 0) rfl rfl)) rfl rfl rfl ?_
    refine .v (bi rfl rfl rfl) rfl rfl rfl ?_
    refine .nil ?_
    refine .seqN ?_
    refine .cond rfl (fun q22514 => ?_) (fun q22514 => ?_)
    · replace hF := hF.1 q22514
      refine .skip ?_
      refine .seqN ?_
      refine .share (σ := Bool × List Int × List Int × List Int × Option Addr × Nat × Option Addr × Nat × Option Addr × Nat) (fun z => F_sequenced_J1 never l3 l4 l5 p z.1 I2 μ2 z.2.1 z.2.2.1 z.2.2.2.1) (fun z => [(1, .pointer (some pt)), (2, .pointer (some pv)), (3, .pointer (some pout)), (4, .int .i64 i), (5, .pointer (some po)), (6, .pointer (some px)), (7, .bool z.1), (8, .int .i64 p)]) (fun z => [Box pt [.int .i64 t.facts, .slice at_ t.init.length ct, .slice at_2 t.goal.length ct2, .slice at_3 t.ops.length ct3], Box pv [.int .i64 0, .slice none 0 0, .slice none 0 0, .slice none 0 0], Box pout [.int .i64 (IntKind.i64.wrap (t.facts + 1)), .slice at_ t.init.length ct, .slice at_2 t.goal.length ct2, .slice al2 l.length cl2], Box po [.slice a ((gt t.ops i).atStart.length) c, .slice a2 ((gt t.ops i).over.length) c2, .slice a3 ((gt t.ops i).atEnd.length) c3, .slice a4 ((gt t.ops i).addStart.length) c4, .slice a5 ((gt t.ops i).delStart.length) c5, .slice a6 ((gt t.ops i).addEnd.length) c6, .slice a7 ((gt t.ops i).delEnd.length) c7, .int .i64 ((gt t.ops i).dur)], Box px [.slice z.2.2.2.2.1 z.2.1.length z.2.2.2.2.2.1, .slice z.2.2.2.2.2.2.1 z.2.2.1.length z.2.2.2.2.2.2.2.1, .slice z.2.2.2.2.2.2.2.2.1 z.2.2.2.1.length z.2.2.2.2.2.2.2.2.2, .int .i64 0], OwnSl 73 4 al2 l.length cl2 csl, OwnSl 3 1 z.2.2.2.2.1 z.2.1.length z.2.2.2.2.2.1 (flL z.2.1), OwnSl 3 1 z.2.2.2.2.2.2.1 z.2.2.1.length z.2.2.2.2.2.2.2.1 (flL z.2.2.1), OwnSl 3 1 z.2.2.2.2.2.2.2.2.1 z.2.2.2.1.length z.2.2.2.2.2.2.2.2.2 (flL z.2.2.2.1)]) (fun _ => h1483) ?_ (fun q22616 => ?_)
      · rintro ⟨never3, l9, l10, l11, al10, cl10, al11, cl11, al12, cl12⟩ hF
        show J _ _ _ _ _ [(1, .pointer (some pt)), (2, .pointer (some pv)), (3, .pointer (some pout)), (4, .int .i64 i), (5, .pointer (some po)), (6, .pointer (some px)), (7, .bool never3), (8, .int .i64 p)] [Box pt [.int .i64 t.facts, .slice at_ t.init.length ct, .slice at_2 t.goal.length ct2, .slice at_3 t.ops.length ct3], Box pv [.int .i64 0, .slice none 0 0, .slice none 0 0, .slice none 0 0], Box pout [.int .i64 (IntKind.i64.wrap (t.facts + 1)), .slice at_ t.init.length ct, .slice at_2 t.goal.length ct2, .slice al2 l.length cl2], Box po [.slice a ((gt t.ops i).atStart.length) c, .slice a2 ((gt t.ops i).over.length) c2, .slice a3 ((gt t.ops i).atEnd.length) c3, .slice a4 ((gt t.ops i).addStart.length) c4, .slice a5 ((gt t.ops i).delStart.length) c5, .slice a6 ((gt t.ops i).addEnd.length) c6, .slice a7 ((gt t.ops i).delEnd.length) c7, .int .i64 ((gt t.ops i).dur)], Box px [.slice al10 l9.length cl10, .slice al11 l10.length cl11, .slice al12 l11.length cl12, .int .i64 0], OwnSl 73 4 al2 l.length cl2 csl, OwnSl 3 1 al10 l9.length cl10 (flL l9), OwnSl 3 1 al11 l10.length cl11 (flL l10), OwnSl 3 1 al12 l11.length cl12 (flL l11)] h1483
        refine .region ?_
        refine .v (mv rfl) rfl rfl rfl ?_
        refine .v (bi rfl rfl rfl) rfl rfl rfl ?_
        refine .v (asg rfl) rfl rfl rfl ?_
        refine .nil ?_
        exact .round (never3, IntKind.i64.wrap (p + 1), l9, l10, l11, al10, cl10, al11, cl11, al12, cl12) hF.1 hF.2 (.cons rfl (.cons rfl (.cons rfl (.cons rfl (.cons rfl (.cons rfl (.cons rfl (.cons rfl (.nil))))))))) rfl (FH.le_refl _)
      refine .block ?_
      refine .share (σ := Bool) (fun z => F_sequenced_J2 t z never l3 l4 l5 p I2 μ2 i) (fun z => [(1, .pointer (some pt)), (2, .pointer (some pv)), (3, .pointer (some pout)), (4, .int .i64 i), (5, .pointer (some po)), (6, .pointer (some px)), (7, .bool never), (8, .int .i64 p), (9, .bool z)]) (fun _ => [Box pt [.int .i64 t.facts, .slice at_ t.init.length ct, .slice at_2 t.goal.length ct2, .slice at_3 t.ops.length ct3], Box pv [.int .i64 0, .slice none 0 0, .slice none 0 0, .slice none 0 0], Box pout [.int .i64 (IntKind.i64.wrap (t.facts + 1)), .slice at_ t.init.length ct, .slice at_2 t.goal.length ct2, .slice al2 l.length cl2], Box po [.slice a ((gt t.ops i).atStart.length) c, .slice a2 ((gt t.ops i).over.length) c2, .slice a3 ((gt t.ops i).atEnd.length) c3, .slice a4 ((gt t.ops i).addStart.length) c4, .slice a5 ((gt t.ops i).delStart.length) c5, .slice a6 ((gt t.ops i).addEnd.length) c6, .slice a7 ((gt t.ops i).delEnd.length) c7, .int .i64 ((gt t.ops i).dur)], Box px [.slice al4 l3.length cl4, .slice al5 l4.length cl5, .slice al6 l5.length cl6, .int .i64 0], OwnSl 73 4 al2 l.length cl2 csl, OwnSl 3 1 al4 l3.length cl4 (flL l3), OwnSl 3 1 al5 l4.length cl5 (flL l4), OwnSl 3 1 al6 l5.length cl6 (flL l5)]) (fun _ => h1483) ?_ (fun q22622 => ?_)
      · rintro later hF
        show J _ _ _ _ _ [(1, .pointer (some pt)), (2, .pointer (some pv)), (3, .pointer (some pout)), (4, .int .i64 i), (5, .pointer (some po)), (6, .pointer (some px)), (7, .bool never), (8, .int .i64 p), (9, .bool later)] [Box pt [.int .i64 t.facts, .slice at_ t.init.length ct, .slice at_2 t.goal.length ct2, .slice at_3 t.ops.length ct3], Box pv [.int .i64 0, .slice none 0 0, .slice none 0 0, .slice none 0 0], Box pout [.int .i64 (IntKind.i64.wrap (t.facts + 1)), .slice at_ t.init.length ct, .slice at_2 t.goal.length ct2, .slice al2 l.length cl2], Box po [.slice a ((gt t.ops i).atStart.length) c, .slice a2 ((gt t.ops i).over.length) c2, .slice a3 ((gt t.ops i).atEnd.length) c3, .slice a4 ((gt t.ops i).addStart.length) c4, .slice a5 ((gt t.ops i).delStart.length) c5, .slice a6 ((gt t.ops i).addEnd.length) c6, .slice a7 ((gt t.ops i).delEnd.length) c7, .int .i64 ((gt t.ops i).dur)], Box px [.slice al4 l3.length cl4, .slice al5 l4.length cl5, .slice al6 l5.length cl6, .int .i64 0], OwnSl 73 4 al2 l.length cl2 csl, OwnSl 3 1 al4 l3.length cl4 (flL l3), OwnSl 3 1 al5 l4.length cl5 (flL l4), OwnSl 3 1 al6 l5.length cl6 (flL l5)] h1483
        refine .seq ?_
        refine .share (σ := Bool) (fun z => F_sequenced_J3 t later z never l3 l4 l5 p I2 μ2 i) (fun z => [(1, .pointer (some pt)), (2, .pointer (some pv)), (3, .pointer (some pout)), (4, .int .i64 i), (5, .pointer (some po)), (6, .pointer (some px)), (7, .bool never), (8, .int .i64 p), (9, .bool later), (61, .bool z)]) (fun _ => [Box pt [.int .i64 t.facts, .slice at_ t.init.length ct, .slice at_2 t.goal.length ct2, .slice at_3 t.ops.length ct3], Box pv [.int .i64 0, .slice none 0 0, .slice none 0 0, .slice none 0 0], Box pout [.int .i64 (IntKind.i64.wrap (t.facts + 1)), .slice at_ t.init.length ct, .slice at_2 t.goal.length ct2, .slice al2 l.length cl2], Box po [.slice a ((gt t.ops i).atStart.length) c, .slice a2 ((gt t.ops i).over.length) c2, .slice a3 ((gt t.ops i).atEnd.length) c3, .slice a4 ((gt t.ops i).addStart.length) c4, .slice a5 ((gt t.ops i).delStart.length) c5, .slice a6 ((gt t.ops i).addEnd.length) c6, .slice a7 ((gt t.ops i).delEnd.length) c7, .int .i64 ((gt t.ops i).dur)], Box px [.slice al4 l3.length cl4, .slice al5 l4.length cl5, .slice al6 l5.length cl6, .int .i64 0], OwnSl 73 4 al2 l.length cl2 csl, OwnSl 3 1 al4 l3.length cl4 (flL l3), OwnSl 3 1 al5 l4.length cl5 (flL l4), OwnSl 3 1 al6 l5.length cl6 (flL l5)]) (fun _ => h1483) ?_ (fun q22629 => ?_)
        · rintro t61 hF
          show J _ _ _ _ _ [(1, .pointer (some pt)), (2, .pointer (some pv)), (3, .pointer (some pout)), (4, .int .i64 i), (5, .pointer (some po)), (6, .pointer (some px)), (7, .bool never), (8, .int .i64 p), (9, .bool later), (61, .bool t61)] [Box pt [.int .i64 t.facts, .slice at_ t.init.length ct, .slice at_2 t.goal.length ct2, .slice at_3 t.ops.length ct3], Box pv [.int .i64 0, .slice none 0 0, .slice none 0 0, .slice none 0 0], Box pout [.int .i64 (IntKind.i64.wrap (t.facts + 1)), .slice at_ t.init.length ct, .slice at_2 t.goal.length ct2, .slice al2 l.length cl2], Box po [.slice a ((gt t.ops i).atStart.length) c, .slice a2 ((gt t.ops i).over.length) c2, .slice a3 ((gt t.ops i).atEnd.length) c3, .slice a4 ((gt t.ops i).addStart.length) c4, .slice a5 ((gt t.ops i).delStart.length) c5, .slice a6 ((gt t.ops i).addEnd.length) c6, .slice a7 ((gt t.ops i).delEnd.length) c7, .int .i64 ((gt t.ops i).dur)], Box px [.slice al4 l3.length cl4, .slice al5 l4.length cl5, .slice al6 l5.length cl6, .int .i64 0], OwnSl 73 4 al2 l.length cl2 csl, OwnSl 3 1 al4 l3.length cl4 (flL l3), OwnSl 3 1 al5 l4.length cl5 (flL l4), OwnSl 3 1 al6 l5.length cl6 (flL l5)] h1483
          refine .shareT (σ := List Int × Option Addr × Nat) (fun z => F_sequenced_J4 t later never l3 l4 l5 p I2 μ2 z.1 i) (fun _ => [(1, .pointer (some pt)), (2, .pointer (some pv)), (3, .pointer (some pout)), (4, .int .i64 i), (5, .pointer (some po)), (6, .pointer (some px)), (7, .bool never), (8, .int .i64 p), (9, .bool later)]) (fun z => [Box pt [.int .i64 t.facts, .slice at_ t.init.length ct, .slice at_2 t.goal.length ct2, .slice at_3 t.ops.length ct3], Box pv [.int .i64 0, .slice none 0 0, .slice none 0 0, .slice none 0 0], Box pout [.int .i64 (IntKind.i64.wrap (t.facts + 1)), .slice at_ t.init.length ct, .slice at_2 t.goal.length ct2, .slice al2 l.length cl2], Box po [.slice a ((gt t.ops i).atStart.length) c, .slice a2 ((gt t.ops i).over.length) c2, .slice a3 ((gt t.ops i).atEnd.length) c3, .slice a4 ((gt t.ops i).addStart.length) c4, .slice a5 ((gt t.ops i).delStart.length) c5, .slice a6 ((gt t.ops i).addEnd.length) c6, .slice a7 ((gt t.ops i).delEnd.length) c7, .int .i64 ((gt t.ops i).dur)], Box px [.slice z.2.1 z.1.length z.2.2, .slice al5 l4.length cl5, .slice al6 l5.length cl6, .int .i64 0], OwnSl 73 4 al2 l.length cl2 csl, OwnSl 3 1 z.2.1 z.1.length z.2.2 (flL z.1), OwnSl 3 1 al5 l4.length cl5 (flL l4), OwnSl 3 1 al6 l5.length cl6 (flL l5)]) (fun _ => h1483) ?_ (fun q22634 => ?_)
          · rintro ⟨l12, al13, cl13⟩ hF
            show J _ _ _ _ _ [(1, .pointer (some pt)), (2, .pointer (some pv)), (3, .pointer (some pout)), (4, .int .i64 i), (5, .pointer (some po)), (6, .pointer (some px)), (7, .bool never), (8, .int .i64 p), (9, .bool later)] [Box pt [.int .i64 t.facts, .slice at_ t.init.length ct, .slice at_2 t.goal.length ct2, .slice at_3 t.ops.length ct3], Box pv [.int .i64 0, .slice none 0 0, .slice none 0 0, .slice none 0 0], Box pout [.int .i64 (IntKind.i64.wrap (t.facts + 1)), .slice at_ t.init.length ct, .slice at_2 t.goal.length ct2, .slice al2 l.length cl2], Box po [.slice a ((gt t.ops i).atStart.length) c, .slice a2 ((gt t.ops i).over.length) c2, .slice a3 ((gt t.ops i).atEnd.length) c3, .slice a4 ((gt t.ops i).addStart.length) c4, .slice a5 ((gt t.ops i).delStart.length) c5, .slice a6 ((gt t.ops i).addEnd.length) c6, .slice a7 ((gt t.ops i).delEnd.length) c7, .int .i64 ((gt t.ops i).dur)], Box px [.slice al13 l12.length cl13, .slice al5 l4.length cl5, .slice al6 l5.length cl6, .int .i64 0], OwnSl 73 4 al2 l.length cl2 csl, OwnSl 3 1 al13 l12.length cl13 (flL l12), OwnSl 3 1 al5 l4.length cl5 (flL l4), OwnSl 3 1 al6 l5.length cl6 (flL l5)] h1483
            refine .share (σ := Bool) (fun z => F_sequenced_J5 t never l3 l4 l5 p I2 μ2 z l12 i) (fun z => [(1, .pointer (some pt)), (2, .pointer (some pv)), (3, .pointer (some pout)), (4, .int .i64 i), (5, .pointer (some po)), (6, .pointer (some px)), (7, .bool z), (8, .int .i64 p)]) (fun _ => [Box pt [.int .i64 t.facts, .slice at_ t.init.length ct, .slice at_2 t.goal.length ct2, .slice at_3 t.ops.length ct3], Box pv [.int .i64 0, .slice none 0 0, .slice none 0 0, .slice none 0 0], Box pout [.int .i64 (IntKind.i64.wrap (t.facts + 1)), .slice at_ t.init.length ct, .slice at_2 t.goal.length ct2, .slice al2 l.length cl2], Box po [.slice a ((gt t.ops i).atStart.length) c, .slice a2 ((gt t.ops i).over.length) c2, .slice a3 ((gt t.ops i).atEnd.length) c3, .slice a4 ((gt t.ops i).addStart.length) c4, .slice a5 ((gt t.ops i).delStart.length) c5, .slice a6 ((gt t.ops i).addEnd.length) c6, .slice a7 ((gt t.ops i).delEnd.length) c7, .int .i64 ((gt t.ops i).dur)], Box px [.slice al13 l12.length cl13, .slice al5 l4.length cl5, .slice al6 l5.length cl6, .int .i64 0], OwnSl 73 4 al2 l.length cl2 csl, OwnSl 3 1 al13 l12.length cl13 (flL l12), OwnSl 3 1 al5 l4.length cl5 (flL l4), OwnSl 3 1 al6 l5.length cl6 (flL l5)]) (fun _ => h1483) ?_ (fun q22639 => ?_)
            · rintro never4 hF
              show J _ _ _ _ _ [(1, .pointer (some pt)), (2, .pointer (some pv)), (3, .pointer (some pout)), (4, .int .i64 i), (5, .pointer (some po)), (6, .pointer (some px)), (7, .bool never4), (8, .int .i64 p)] [Box pt [.int .i64 t.facts, .slice at_ t.init.length ct, .slice at_2 t.goal.length ct2, .slice at_3 t.ops.length ct3], Box pv [.int .i64 0, .slice none 0 0, .slice none 0 0, .slice none 0 0], Box pout [.int .i64 (IntKind.i64.wrap (t.facts + 1)), .slice at_ t.init.length ct, .slice at_2 t.goal.length ct2, .slice al2 l.length cl2], Box po [.slice a ((gt t.ops i).atStart.length) c, .slice a2 ((gt t.ops i).over.length) c2, .slice a3 ((gt t.ops i).atEnd.length) c3, .slice a4 ((gt t.ops i).addStart.length) c4, .slice a5 ((gt t.ops i).delStart.length) c5, .slice a6 ((gt t.ops i).addEnd.length) c6, .slice a7 ((gt t.ops i).delEnd.length) c7, .int .i64 ((gt t.ops i).dur)], Box px [.slice al13 l12.length cl13, .slice al5 l4.length cl5, .slice al6 l5.length cl6, .int .i64 0], OwnSl 73 4 al2 l.length cl2 csl, OwnSl 3 1 al13 l12.length cl13 (flL l12), OwnSl 3 1 al5 l4.length cl5 (flL l4), OwnSl 3 1 al6 l5.length cl6 (flL l5)] h1483
              refine .seq ?_
              refine .openA (s0 := [(1, .pointer (some pt)), (2, .pointer (some pv)), (3, .pointer (some pout)), (4, .int .i64 i), (5, .pointer (some po)), (6, .pointer (some px)), (7, .bool never4), (8, .int .i64 p)]) [0, 1, 2, 3, 4, 6, 7, 8, 9, 11, 12, 13, 14, 16] [(0, .pointer (some (pt.add 0))), (1, .int .i64 t.facts), (2, .pointer (some (pt.add 0))), (3, .int .i64 t.facts), (4, .int .i64 p), (6, .pointer (some (po.add 3))), (7, .slice a4 ((gt t.ops i).addStart.length) c4), (8, .pointer (some (po.add 4))), (9, .slice a5 ((gt t.ops i).delStart.length) c5), (11, .pointer (some (po.add 5))), (12, .slice a6 ((gt t.ops i).addEnd.length) c6), (13, .pointer (some (po.add 6))), (14, .slice a7 ((gt t.ops i).delEnd.length) c7), (16, .int .i64 p)] (by kernel_rfl) (.cons rfl (.cons rfl (.cons rfl (.cons rfl (.cons rfl (.cons rfl (.cons rfl (.cons rfl (.nil))))))))) [1, 2, 3, 4, 5, 6, 7, 8] [] rfl (by kernel_rfl) ?_
              refine .step [5] 5 rfl (by kernel_rfl) (by kernel_rfl) (.v [] rfl rfl rfl rfl rfl rfl (fun _ => fa rfl tF25_0) (.v [(78, .pointer (some (pt.add 0)))] rfl rfl rfl rfl rfl rfl (fun _ => ld1 rfl tO3 (cellB (off := 0) (k := 0) rfl rfl)) (.v [] rfl rfl rfl rfl rfl rfl (fun _ => fa rfl tF25_0) (.v [(80, .pointer (some (pt.add 0)))] rfl rfl rfl rfl rfl rfl (fun _ => ld1 rfl tO3 (cellB (off := 0) (k := 0) rfl rfl)) (.v [] rfl rfl rfl rfl rfl rfl (fun _ => mv rfl) (.v [] rfl rfl rfl rfl rfl rfl (fun _ => fa rfl tF41_3) (.v [(84, .pointer (some (po.add 3)))] rfl rfl rfl rfl rfl rfl (fun _ => ld1 rfl tO22 (cellB (off := 3) (k := 3) rfl rfl)) (.v [] rfl rfl rfl rfl rfl rfl (fun _ => fa rfl tF41_4) (.v [(86, .pointer (some (po.add 4)))] rfl rfl rfl rfl rfl rfl (fun _ => ld1 rfl tO22 (cellB (off := 4) (k := 3) rfl rfl)) (.v [] rfl rfl rfl rfl rfl rfl (fun _ => fa rfl tF41_5) (.v [(89, .pointer (some (po.add 5)))] rfl rfl rfl rfl rfl rfl (fun _ => ld1 rfl tO22 (cellB (off := 5) (k := 3) rfl rfl)) (.v [] rfl rfl rfl rfl rfl rfl (fun _ => fa rfl tF41_6) (.v [(91, .pointer (some (po.add 6)))] rfl rfl rfl rfl rfl rfl (fun _ => ld1 rfl tO22 (cellB (off := 6) (k := 3) rfl rfl)) (.v [] rfl rfl rfl rfl rfl rfl (fun _ => mv rfl) (.nil))))))))))))))) (.cons [(82, .int .i64 p)] rfl rfl (fun sL hL => ?_) (.nil))
              refine bs2 (cs := #[.int .i64 p]) (pv := [(0, .int .i64 p)]) tS22 rfl rfl (by decide) (by decide) rfl rfl rfl (fun a8 _ => ?_)
              refine .cast (A' := [OwnSl 3 1 a8 (([p] : List Int).length) 1 (flL ([p] : List Int)), Box pt [.int .i64 t.facts, .slice at_ t.init.length ct, .slice at_2 t.goal.length ct2, .slice at_3 t.ops.length ct3], Box pv [.int .i64 0, .slice none 0 0, .slice none 0 0, .slice none 0 0], Box pout [.int .i64 (IntKind.i64.wrap (t.facts + 1)), .slice at_ t.init.length ct, .slice at_2 t.goal.length ct2, .slice al2 l.length cl2], Box po [.slice a ((gt t.ops i).atStart.length) c, .slice a2 ((gt t.ops i).over.length) c2, .slice a3 ((gt t.ops i).atEnd.length) c3, .slice a4 ((gt t.ops i).addStart.length) c4, .slice a5 ((gt t.ops i).delStart.length) c5, .slice a6 ((gt t.ops i).addEnd.length) c6, .slice a7 ((gt t.ops i).delEnd.length) c7, .int .i64 ((gt t.ops i).dur)], Box px [.slice al13 l12.length cl13, .slice al5 l4.length cl5, .slice al6 l5.length cl6, .int .i64 0], OwnSl 73 4 al2 l.length cl2 csl, OwnSl 3 1 al13 l12.length cl13 (flL l12), OwnSl 3 1 al5 l4.length cl5 (flL l4), OwnSl 3 1 al6 l5.length cl6 (flL l5)]) rfl ?_
              refine .nil ?_
              refine .ja (M := [4]) (C' := [0, 1, 2, 3, 6, 7, 8, 9, 11, 12, 13, 14, 16]) (pre := [(5, .slice a8 (([p] : List Int).length) 1)]) [(1, .pointer (some pt)), (2, .pointer (some pv)), (3, .pointer (some pout)), (4, .int .i64 i), (5, .pointer (some po)), (6, .pointer (some px)), (7, .bool never4), (8, .int .i64 p)] [1, 2, 3, 4, 5, 6, 7, 8] hL rfl rfl rfl rfl rfl (.cons rfl (.cons rfl (.cons rfl (.cons rfl (.cons rfl (.cons rfl (.cons rfl (.cons rfl (.nil))))))))) rfl rfl (by kernel_rfl) ?_
              refine .step [10] 10 rfl (by kernel_rfl) (by kernel_rfl) (.v [] rfl rfl rfl rfl rfl rfl (fun _ => fa rfl tF25_0) (.v [(78, .pointer (some (pt.add 0)))] rfl rfl rfl rfl rfl rfl (fun _ => ld1 rfl tO3 (cellB (off := 0) (k := 1) rfl rfl)) (.v [] rfl rfl rfl rfl rfl rfl (fun _ => fa rfl tF25_0) (.v [(80, .pointer (some (pt.add 0)))] rfl rfl rfl rfl rfl rfl (fun _ => ld1 rfl tO3 (cellB (off := 0) (k := 1) rfl rfl)) (.v [] rfl rfl rfl rfl rfl rfl (fun _ => fa rfl tF41_3) (.v [(84, .pointer (some (po.add 3)))] rfl rfl rfl rfl rfl rfl (fun _ => ld1 rfl tO22 (cellB (off := 3) (k := 4) rfl rfl)) (.v [] rfl rfl rfl rfl rfl rfl (fun _ => fa rfl tF41_4) (.v [(86, .pointer (some (po.add 4)))] rfl rfl rfl rfl rfl rfl (fun _ => ld1 rfl tO22 (cellB (off := 4) (k := 4) rfl rfl)) (.v [] rfl rfl rfl rfl rfl rfl (fun _ => fa rfl tF41_5) (.v [(89, .pointer (some (po.add 5)))] rfl rfl rfl rfl rfl rfl (fun _ => ld1 rfl tO22 (cellB (off := 5) (k := 4) rfl rfl)) (.v [] rfl rfl rfl rfl rfl rfl (fun _ => fa rfl tF41_6) (.v [(91, .pointer (some (po.add 6)))] rfl rfl rfl rfl rfl rfl (fun _ => ld1 rfl tO22 (cellB (off := 6) (k := 4) rfl rfl)) (.v [] rfl rfl rfl rfl rfl rfl (fun _ => mv rfl) (.nil)))))))))))))) (.cons [(81, .int .i64 t.facts), (83, .slice a8 (([p] : List Int).length) 1), (85, .slice a4 ((gt t.ops i).addStart.length) c4), (87, .slice a5 ((gt t.ops i).delStart.length) c5)] rfl rfl (fun sL hL => ?_) (.nil))
              refine .freezeL (k := 0) rfl (fun h2213 le2213 q22655 q22654 => ?_)
              refine .cast (A' := [tru, Box pt [.int .i64 t.facts, .slice at_ t.init.length ct, .slice at_2 t.goal.length ct2, .slice at_3 t.ops.length ct3], Box pv [.int .i64 0, .slice none 0 0, .slice none 0 0, .slice none 0 0], Box pout [.int .i64 (IntKind.i64.wrap (t.facts + 1)), .slice at_ t.init.length ct, .slice at_2 t.goal.length ct2, .slice al2 l.length cl2], Box po [.slice a ((gt t.ops i).atStart.length) c, .slice a2 ((gt t.ops i).over.length) c2, .slice a3 ((gt t.ops i).atEnd.length) c3, .slice a4 ((gt t.ops i).addStart.length) c4, .slice a5 ((gt t.ops i).delStart.length) c5, .slice a6 ((gt t.ops i).addEnd.length) c6, .slice a7 ((gt t.ops i).delEnd.length) c7, .int .i64 ((gt t.ops i).dur)], Box px [.slice al13 l12.length cl13, .slice al5 l4.length cl5, .slice al6 l5.length cl6, .int .i64 0], OwnSl 73 4 al2 l.length cl2 csl, OwnSl 3 1 al13 l12.length cl13 (flL l12), OwnSl 3 1 al5 l4.length cl5 (flL l4), OwnSl 3 1 al6 l5.length cl6 (flL l5)]) rfl ?_
              obtain ⟨q22656, hF⟩ := hF
              obtain ⟨r2, q22657⟩ : ∃ y_ : List Int, y_ = sp_changed t.facts ([p] : List Int) ((gt t.ops i).addStart) ((gt t.ops i).delStart) := ⟨_, rfl⟩
              replace hF := hF r2 q22657
              refine clR (α := Option Addr × Nat) (Φ := fun h1 z => RSl h1 z.1 r2 ∧ r2.length ≤ z.2) (V := fun z => .slice z.1 r2.length z.2) Try.call34 rfl rfl (fun w S => (by rw [q22657]; exact c_changed S.sub t.facts ([p] : List Int) a8 1 (RSl.of q22654) (q22655) ((gt t.ops i).addStart) a4 c4 (q21484.mono (FH.le_trans (q15162) (le2213))) q21483 ((gt t.ops i).delStart) a5 c5 (q21486.mono (FH.le_trans (q15162) (le2213))) q21485 q22656)) rfl (fun z h2214 le2214 hz => ?_)
              obtain ⟨a9, c8⟩ := z
              obtain ⟨q22658, q22659⟩ := hz
              refine .nil ?_
              refine .ja (M := [3, 7, 9, 2, 6, 8]) (C' := [0, 1, 11, 12, 13, 14, 16]) (pre := [(10, .slice a9 r2.length c8)]) [(1, .pointer (some pt)), (2, .pointer (some pv)), (3, .pointer (some pout)), (4, .int .i64 i), (5, .pointer (some po)), (6, .pointer (some px)), (7, .bool never4), (8, .int .i64 p)] [1, 2, 3, 4, 5, 6, 7, 8] hL rfl rfl rfl rfl rfl (.cons rfl (.cons rfl (.cons rfl (.cons rfl (.cons rfl (.cons rfl (.cons rfl (.cons rfl (.nil))))))))) rfl rfl (by kernel_rfl) ?_
              refine .step [15] 15 rfl (by kernel_rfl) (by kernel_rfl) (.v [] rfl rfl rfl rfl rfl rfl (fun _ => fa rfl tF25_0) (.v [(78, .pointer (some (pt.add 0)))] rfl rfl rfl rfl rfl rfl (fun _ => ld1 rfl tO3 (cellB (off := 0) (k := 1) rfl rfl)) (.v [] rfl rfl rfl rfl rfl rfl (fun _ => fa rfl tF41_5) (.v [(89, .pointer (some (po.add 5)))] rfl rfl rfl rfl rfl rfl (fun _ => ld1 rfl tO22 (cellB (off := 5) (k := 4) rfl rfl)) (.v [] rfl rfl rfl rfl rfl rfl (fun _ => fa rfl tF41_6) (.v [(91, .pointer (some (po.add 6)))] rfl rfl rfl rfl rfl rfl (fun _ => ld1 rfl tO22 (cellB (off := 6) (k := 4) rfl rfl)) (.v [] rfl rfl rfl rfl rfl rfl (fun _ => mv rfl) (.nil)))))))) (.cons [(79, .int .i64 t.facts), (88, .slice a9 r2.length c8), (90, .slice a6 ((gt t.ops i).addEnd.length) c6), (92, .slice a7 ((gt t.ops i).delEnd.length) c7), (88, .slice a9 r2.length c8)] rfl rfl (fun sL hL => ?_) (.nil))
              obtain ⟨q22660, hF⟩ := hF
              obtain ⟨r3, q22661⟩ : ∃ y_ : List Int, y_ = sp_changed t.facts r2 ((gt t.ops i).addEnd) ((gt t.ops i).delEnd) := ⟨_, rfl⟩
              replace hF := hF r3 q22661
              refine clR (α := Option Addr × Nat) (Φ := fun h1 z => RSl h1 z.1 r3 ∧ r3.length ≤ z.2) (V := fun z => .slice z.1 r3.length z.2) Try.call34 rfl rfl (fun w S => (by rw [q22661]; exact c_changed S.sub t.facts r2 a9 c8 q22658 q22659 ((gt t.ops i).addEnd) a6 c6 (q21488.mono (FH.le_trans (FH.le_trans (q15162) (le2213)) (le2214))) q21487 ((gt t.ops i).delEnd) a7 c7 (q21490.mono (FH.le_trans (FH.le_trans (q15162) (le2213)) (le2214))) q21489 q22660)) rfl (fun z h2215 le2215 hz => ?_)
              obtain ⟨a10, c9⟩ := z
              obtain ⟨q22662, q22663⟩ := hz
              refine .nil ?_
              obtain ⟨q22664, hF⟩ := hF
              obtain ⟨r4, q22665⟩ : ∃ y_ : Bool, y_ = sp_has r3 p := ⟨_, rfl⟩
              replace hF := hF r4 q22665
              refine .ja (M := [1, 12, 14, 0, 11, 13]) (C' := [16, 17, 18]) (pre := [(15, .slice a10 r3.length c9), (17, .bool r4), (18, .bool r4)]) [(1, .pointer (some pt)), (2, .pointer (some pv)), (3, .pointer (some pout)), (4, .int .i64 i), (5, .pointer (some po)), (6, .pointer (some px)), (7, .bool never4), (8, .int .i64 p)] [1, 2, 3, 4, 5, 6, 7, 8] hL rfl rfl rfl rfl rfl (.cons rfl (.cons rfl (.cons rfl (.cons rfl (.cons rfl (.cons rfl (.cons rfl (.cons rfl (.nil))))))))) rfl rfl (by kernel_rfl) ?_
              refine .last [(78, .pointer (some (pt.add 0))), (79, .int .i64 t.facts), (80, .pointer (some (pt.add 0))), (81, .int .i64 t.facts), (82, .int .i64 p), (83, .slice a8 (([p] : List Int).length) 1), (84, .pointer (some (po.add 3))), (85, .slice a4 ((gt t.ops i).addStart.length) c4), (86, .pointer (some (po.add 4))), (87, .slice a5 ((gt t.ops i).delStart.length) c5), (88, .slice a9 r2.length c8), (89, .pointer (some (po.add 5))), (90, .slice a6 ((gt t.ops i).addEnd.length) c6), (91, .pointer (some (po.add 6))), (92, .slice a7 ((gt t.ops i).delEnd.length) c7), (93, .slice a10 r3.length c9), (94, .int .i64 p), (95, .bool r4), (10, .bool r4)] rfl (by kernel_rfl) (.v [] rfl rfl rfl rfl rfl rfl (fun _ => mv rfl) (.c [(93, .slice a10 r3.length c9), (94, .int .i64 p), (93, .slice a10 r3.length c9)] rfl rfl rfl rfl rfl rfl (fun _ => cl (v := .bool r4) Try.call40 rfl rfl (fun w S => (by rw [q22665]; exact c_has S.sub r3 a10 c9 q22662 q22663 p q22664))) (.v [(95, .bool r4), (95, .bool r4), (78, .pointer (some (pt.add 0))), (79, .int .i64 t.facts), (80, .pointer (some (pt.add 0))), (81, .int .i64 t.facts), (82, .int .i64 p), (83, .slice a8 (([p] : List Int).length) 1), (84, .pointer (some (po.add 3))), (85, .slice a4 ((gt t.ops i).addStart.length) c4), (86, .pointer (some (po.add 4))), (87, .slice a5 ((gt t.ops i).delStart.length) c5), (88, .slice a9 r2.length c8), (89, .pointer (some (po.add 5))), (90, .slice a6 ((gt t.ops i).addEnd.length) c6), (91, .pointer (some (po.add 6))), (92, .slice a7 ((gt t.ops i).delEnd.length) c7), (93, .slice a10 r3.length c9), (94, .int .i64 p), (95, .bool r4)] rfl rfl rfl rfl rfl rfl (fun _ => asg rfl) (.nil)))) rfl ?_
              refine .seqN ?_
              refine .seq ?_
              refine .openA (s0 := [(1, .pointer (some pt)), (2, .pointer (some pv)), (3, .pointer (some pout)), (4, .int .i64 i), (5, .pointer (some po)), (6, .pointer (some px)), (7, .bool never4), (8, .int .i64 p), (10, .bool r4)]) [0, 1, 2, 3, 4, 5, 6, 7, 9, 10, 11, 12, 14] [(0, .pointer (some (pt.add 0))), (1, .int .i64 t.facts), (2, .pointer (some (pt.add 0))), (3, .int .i64 t.facts), (4, .pointer (some (po.add 3))), (5, .slice a4 ((gt t.ops i).addStart.length) c4), (6, .pointer (some (po.add 4))), (7, .slice a5 ((gt t.ops i).delStart.length) c5), (9, .pointer (some (po.add 5))), (10, .slice a6 ((gt t.ops i).addEnd.length) c6), (11, .pointer (some (po.add 6))), (12, .slice a7 ((gt t.ops i).delEnd.length) c7), (14, .int .i64 p)] (by kernel_rfl) (.cons rfl (.cons rfl (.cons rfl (.cons rfl (.cons rfl (.cons rfl (.cons rfl (.cons rfl (.cons rfl (.nil)))))))))) [1, 2, 3, 4, 5, 6, 7, 8, 10] [] rfl (by kernel_rfl) ?_
              refine .step [8] 8 rfl (by kernel_rfl) (by kernel_rfl) (.v [] rfl rfl rfl rfl rfl rfl (fun _ => fa rfl tF25_0) (.v [(96, .pointer (some (pt.add 0)))] rfl rfl rfl rfl rfl rfl (fun _ => ld1 rfl tO3 (cellB (off := 0) (k := 1) rfl rfl)) (.v [] rfl rfl rfl rfl rfl rfl (fun _ => fa rfl tF25_0) (.v [(98, .pointer (some (pt.add 0)))] rfl rfl rfl rfl rfl rfl (fun _ => ld1 rfl tO3 (cellB (off := 0) (k := 1) rfl rfl)) (.v [] rfl rfl rfl rfl rfl rfl (fun _ => fa rfl tF41_3) (.v [(100, .pointer (some (po.add 3)))] rfl rfl rfl rfl rfl rfl (fun _ => ld1 rfl tO22 (cellB (off := 3) (k := 4) rfl rfl)) (.v [] rfl rfl rfl rfl rfl rfl (fun _ => fa rfl tF41_4) (.v [(102, .pointer (some (po.add 4)))] rfl rfl rfl rfl rfl rfl (fun _ => ld1 rfl tO22 (cellB (off := 4) (k := 4) rfl rfl)) (.v [] rfl rfl rfl rfl rfl rfl (fun _ => fa rfl tF41_5) (.v [(105, .pointer (some (po.add 5)))] rfl rfl rfl rfl rfl rfl (fun _ => ld1 rfl tO22 (cellB (off := 5) (k := 4) rfl rfl)) (.v [] rfl rfl rfl rfl rfl rfl (fun _ => fa rfl tF41_6) (.v [(107, .pointer (some (po.add 6)))] rfl rfl rfl rfl rfl rfl (fun _ => ld1 rfl tO22 (cellB (off := 6) (k := 4) rfl rfl)) (.v [] rfl rfl rfl rfl rfl rfl (fun _ => mv rfl) (.nil)))))))))))))) (.cons [(99, .int .i64 t.facts), (101, .slice a4 ((gt t.ops i).addStart.length) c4), (103, .slice a5 ((gt t.ops i).delStart.length) c5)] rfl rfl (fun sL hL => ?_) (.nil))
              obtain ⟨q22676, hF⟩ := hF
              obtain ⟨r5, q22677⟩ : ∃ y_ : List Int, y_ = sp_changed t.facts [] ((gt t.ops i).addStart) ((gt t.ops i).delStart) := ⟨_, rfl⟩
              replace hF := hF r5 q22677
              refine clR (α := Option Addr × Nat) (Φ := fun h1 z => RSl h1 z.1 r5 ∧ r5.length ≤ z.2) (V := fun z => .slice z.1 r5.length z.2) Try.call34 rfl rfl (fun w S => (by rw [q22677]; exact c_changed S.sub t.facts [] none 0 RSl.nil_ (Nat.le_refl 0) ((gt t.ops i).addStart) a4 c4 (q21484.mono (FH.le_trans (FH.le_trans (FH.le_trans (q15162) (le2213)) (le2214)) (le2215))) q21483 ((gt t.ops i).delStart) a5 c5 (q21486.mono (FH.le_trans (FH.le_trans (FH.le_trans (q15162) (le2213)) (le2214)) (le2215))) q21485 q22676)) rfl (fun z h2218 le2218 hz => ?_)
              obtain ⟨a11, c10⟩ := z
              obtain ⟨q22678, q22679⟩ := hz
              refine .nil ?_
              refine .ja (M := [3, 5, 7, 2, 4, 6]) (C' := [0, 1, 9, 10, 11, 12, 14]) (pre := [(8, .slice a11 r5.length c10)]) [(1, .pointer (some pt)), (2, .pointer (some pv)), (3, .pointer (some pout)), (4, .int .i64 i), (5, .pointer (some po)), (6, .pointer (some px)), (7, .bool never4), (8, .int .i64 p), (10, .bool r4)] [1, 2, 3, 4, 5, 6, 7, 8, 10] hL rfl rfl rfl rfl rfl (.cons rfl (.cons rfl (.cons rfl (.cons rfl (.cons rfl (.cons rfl (.cons rfl (.cons rfl (.cons rfl (.nil)))))))))) rfl rfl (by kernel_rfl) ?_
              refine .step [13] 13 rfl (by kernel_rfl) (by kernel_rfl) (.v [] rfl rfl rfl rfl rfl rfl (fun _ => fa rfl tF25_0) (.v [(96, .pointer (some (pt.add 0)))] rfl rfl rfl rfl rfl rfl (fun _ => ld1 rfl tO3 (cellB (off := 0) (k := 1) rfl rfl)) (.v [] rfl rfl rfl rfl rfl rfl (fun _ => fa rfl tF41_5) (.v [(105, .pointer (some (po.add 5)))] rfl rfl rfl rfl rfl rfl (fun _ => ld1 rfl tO22 (cellB (off := 5) (k := 4) rfl rfl)) (.v [] rfl rfl rfl rfl rfl rfl (fun _ => fa rfl tF41_6) (.v [(107, .pointer (some (po.add 6)))] rfl rfl rfl rfl rfl rfl (fun _ => ld1 rfl tO22 (cellB (off := 6) (k := 4) rfl rfl)) (.v [] rfl rfl rfl rfl rfl rfl (fun _ => mv rfl) (.nil)))))))) (.cons [(97, .int .i64 t.facts), (104, .slice a11 r5.length c10), (106, .slice a6 ((gt t.ops i).addEnd.length) c6), (108, .slice a7 ((gt t.ops i).delEnd.length) c7), (104, .slice a11 r5.length c10)] rfl rfl (fun sL hL => ?_) (.nil))
              obtain ⟨q22680, hF⟩ := hF
              obtain ⟨r6, q22681⟩ : ∃ y_ : List Int, y_ = sp_changed t.facts r5 ((gt t.ops i).addEnd) ((gt t.ops i).delEnd) := ⟨_, rfl⟩
              replace hF := hF r6 q22681
              refine clR (α := Option Addr × Nat) (Φ := fun h1 z => RSl h1 z.1 r6 ∧ r6.length ≤ z.2) (V := fun z => .slice z.1 r6.length z.2) Try.call34 rfl rfl (fun w S => (by rw [q22681]; exact c_changed S.sub t.facts r5 a11 c10 q22678 q22679 ((gt t.ops i).addEnd) a6 c6 (q21488.mono (FH.le_trans (FH.le_trans (FH.le_trans (FH.le_trans (q15162) (le2213)) (le2214)) (le2215)) (le2218))) q21487 ((gt t.ops i).delEnd) a7 c7 (q21490.mono (FH.le_trans (FH.le_trans (FH.le_trans (FH.le_trans (q15162) (le2213)) (le2214)) (le2215)) (le2218))) q21489 q22680)) rfl (fun z h2219 le2219 hz => ?_)
              obtain ⟨a12, c11⟩ := z
              obtain ⟨q22682, q22683⟩ := hz
              refine .nil ?_
              obtain ⟨q22684, hF⟩ := hF
              obtain ⟨r7, q22685⟩ : ∃ y_ : Bool, y_ = sp_has r6 p := ⟨_, rfl⟩
              replace hF := hF r7 q22685
              refine .ja (M := [1, 10, 12, 0, 9, 11]) (C' := [14, 15, 16]) (pre := [(13, .slice a12 r6.length c11), (15, .bool r7), (16, .bool r7)]) [(1, .pointer (some pt)), (2, .pointer (some pv)), (3, .pointer (some pout)), (4, .int .i64 i), (5, .pointer (some po)), (6, .pointer (some px)), (7, .bool never4), (8, .int .i64 p), (10, .bool r4)] [1, 2, 3, 4, 5, 6, 7, 8, 10] hL rfl rfl rfl rfl rfl (.cons rfl (.cons rfl (.cons rfl (.cons rfl (.cons rfl (.cons rfl (.cons rfl (.cons rfl (.cons rfl (.nil)))))))))) rfl rfl (by kernel_rfl) ?_
              refine .last [(96, .pointer (some (pt.add 0))), (97, .int .i64 t.facts), (98, .pointer (some (pt.add 0))), (99, .int .i64 t.facts), (100, .pointer (some (po.add 3))), (101, .slice a4 ((gt t.ops i).addStart.length) c4), (102, .pointer (some (po.add 4))), (103, .slice a5 ((gt t.ops i).delStart.length) c5), (104, .slice a11 r5.length c10), (105, .pointer (some (po.add 5))), (106, .slice a6 ((gt t.ops i).addEnd.length) c6), (107, .pointer (some (po.add 6))), (108, .slice a7 ((gt t.ops i).delEnd.length) c7), (109, .slice a12 r6.length c11), (110, .int .i64 p), (111, .bool r7), (11, .bool r7)] rfl (by kernel_rfl) (.v [] rfl rfl rfl rfl rfl rfl (fun _ => mv rfl) (.c [(109, .slice a12 r6.length c11), (110, .int .i64 p), (109, .slice a12 r6.length c11)] rfl rfl rfl rfl rfl rfl (fun _ => cl (v := .bool r7) Try.call40 rfl rfl (fun w S => (by rw [q22685]; exact c_has S.sub r6 a12 c11 q22682 q22683 p q22684))) (.v [(111, .bool r7), (111, .bool r7), (96, .pointer (some (pt.add 0))), (97, .int .i64 t.facts), (98, .pointer (some (pt.add 0))), (99, .int .i64 t.facts), (100, .pointer (some (po.add 3))), (101, .slice a4 ((gt t.ops i).addStart.length) c4), (102, .pointer (some (po.add 4))), (103, .slice a5 ((gt t.ops i).delStart.length) c5), (104, .slice a11 r5.length c10), (105, .pointer (some (po.add 5))), (106, .slice a6 ((gt t.ops i).addEnd.length) c6), (107, .pointer (some (po.add 6))), (108, .slice a7 ((gt t.ops i).delEnd.length) c7), (109, .slice a12 r6.length c11), (110, .int .i64 p), (111, .bool r7)] rfl rfl rfl rfl rfl rfl (fun _ => asg rfl) (.nil)))) rfl ?_
              refine .seqN ?_
              refine .seq ?_
              refine .seq ?_
              refine .region ?_
              refine .v (mv rfl) rfl rfl rfl ?_
              refine .nil ?_
              refine .seqN ?_
              refine .shareT (σ := List Int × Option Addr × Nat) (fun z => F_sequenced_J6 never r4 l3 l4 l5 p I2 μ2 never4 l12 z.1) (fun _ => [(1, .pointer (some pt)), (2, .pointer (some pv)), (3, .pointer (some pout)), (4, .int .i64 i), (5, .pointer (some po)), (6, .pointer (some px)), (7, .bool never4), (8, .int .i64 p), (10, .bool r4)]) (fun z => [Box pt [.int .i64 t.facts, .slice at_ t.init.length ct, .slice at_2 t.goal.length ct2, .slice at_3 t.ops.length ct3], Box pv [.int .i64 0, .slice none 0 0, .slice none 0 0, .slice none 0 0], Box pout [.int .i64 (IntKind.i64.wrap (t.facts + 1)), .slice at_ t.init.length ct, .slice at_2 t.goal.length ct2, .slice al2 l.length cl2], Box po [.slice a ((gt t.ops i).atStart.length) c, .slice a2 ((gt t.ops i).over.length) c2, .slice a3 ((gt t.ops i).atEnd.length) c3, .slice a4 ((gt t.ops i).addStart.length) c4, .slice a5 ((gt t.ops i).delStart.length) c5, .slice a6 ((gt t.ops i).addEnd.length) c6, .slice a7 ((gt t.ops i).delEnd.length) c7, .int .i64 ((gt t.ops i).dur)], Box px [.slice al13 l12.length cl13, .slice z.2.1 z.1.length z.2.2, .slice al6 l5.length cl6, .int .i64 0], OwnSl 73 4 al2 l.length cl2 csl, OwnSl 3 1 al13 l12.length cl13 (flL l12), OwnSl 3 1 z.2.1 z.1.length z.2.2 (flL z.1), OwnSl 3 1 al6 l5.length cl6 (flL l5)]) (fun _ => h2219) ?_ (fun q22690 => ?_)
              · rintro ⟨l13, al14, cl14⟩ hF
                show J _ _ _ _ _ [(1, .pointer (some pt)), (2, .pointer (some pv)), (3, .pointer (some pout)), (4, .int .i64 i), (5, .pointer (some po)), (6, .pointer (some px)), (7, .bool never4), (8, .int .i64 p), (10, .bool r4)] [Box pt [.int .i64 t.facts, .slice at_ t.init.length ct, .slice at_2 t.goal.length ct2, .slice at_3 t.ops.length ct3], Box pv [.int .i64 0, .slice none 0 0, .slice none 0 0, .slice none 0 0], Box pout [.int .i64 (IntKind.i64.wrap (t.facts + 1)), .slice at_ t.init.length ct, .slice at_2 t.goal.length ct2, .slice al2 l.length cl2], Box po [.slice a ((gt t.ops i).atStart.length) c, .slice a2 ((gt t.ops i).over.length) c2, .slice a3 ((gt t.ops i).atEnd.length) c3, .slice a4 ((gt t.ops i).addStart.length) c4, .slice a5 ((gt t.ops i).delStart.length) c5, .slice a6 ((gt t.ops i).addEnd.length) c6, .slice a7 ((gt t.ops i).delEnd.length) c7, .int .i64 ((gt t.ops i).dur)], Box px [.slice al13 l12.length cl13, .slice al14 l13.length cl14, .slice al6 l5.length cl6, .int .i64 0], OwnSl 73 4 al2 l.length cl2 csl, OwnSl 3 1 al13 l12.length cl13 (flL l12), OwnSl 3 1 al14 l13.length cl14 (flL l13), OwnSl 3 1 al6 l5.length cl6 (flL l5)] h2219
                refine .seq ?_
                refine .region ?_
                refine .v (mv rfl) rfl rfl rfl ?_
                refine .v (nt rfl) rfl rfl rfl ?_
                refine .nil ?_
                refine .seqN ?_
                refine .cond rfl (fun q22691 => ?_) (fun q22691 => ?_)
                · replace hF := hF.1 q22691
                  refine .region ?_
                  refine .v (fa rfl tF73_2) rfl rfl rfl ?_
                  refine .v (ld1 rfl tO22 (cellB (off := 2) (k := 4) rfl rfl)) rfl rfl rfl ?_
                  refine .v (mv rfl) rfl rfl rfl ?_
                  refine bs2 (cs := #[.int .i64 p]) (pv := [(0, .int .i64 p)]) tS22 rfl rfl (by decide) (by decide) rfl rfl rfl (fun a13 _ => ?_)
                  refine .cast (A' := [OwnSl 3 1 a13 (([p] : List Int).length) 1 (flL ([p] : List Int)), Box pt [.int .i64 t.facts, .slice at_ t.init.length ct, .slice at_2 t.goal.length ct2, .slice at_3 t.ops.length ct3], Box pv [.int .i64 0, .slice none 0 0, .slice none 0 0, .slice none 0 0], Box pout [.int .i64 (IntKind.i64.wrap (t.facts + 1)), .slice at_ t.init.length ct, .slice at_2 t.goal.length ct2, .slice al2 l.length cl2], Box po [.slice a ((gt t.ops i).atStart.length) c, .slice a2 ((gt t.ops i).over.length) c2, .slice a3 ((gt t.ops i).atEnd.length) c3, .slice a4 ((gt t.ops i).addStart.length) c4, .slice a5 ((gt t.ops i).delStart.length) c5, .slice a6 ((gt t.ops i).addEnd.length) c6, .slice a7 ((gt t.ops i).delEnd.length) c7, .int .i64 ((gt t.ops i).dur)], Box px [.slice al13 l12.length cl13, .slice al14 l13.length cl14, .slice al6 l5.length cl6, .int .i64 0], OwnSl 73 4 al2 l.length cl2 csl, OwnSl 3 1 al13 l12.length cl13 (flL l12), OwnSl 3 1 al14 l13.length cl14 (flL l13), OwnSl 3 1 al6 l5.length cl6 (flL l5)]) rfl ?_
                  obtain ⟨q22693, hF⟩ := hF
                  have q22694 : l5.length + ([p] : List Int).length = ((l5 ++ ([p] : List Int))).length := len_app rfl rfl
                  refine app (k := 9) (news := flL ([p] : List Int)) (cs' := flL (l5 ++ ([p] : List Int))) (nm := ((l5 ++ ([p] : List Int))).length) tS22 rfl (by decide) rfl rfl rfl (by rw [flL_len]; rfl) (srcS (k := 0) rfl) (flL_one _) (room_of q22694 q22693).1 (room_of q22694 q22693).2 q22694 (flL_append _ _).symm rfl (fun a14 c12 => ?_)
                  refine .cast (A' := [OwnSl 3 1 a13 (([p] : List Int).length) 1 (flL ([p] : List Int)), Box pt [.int .i64 t.facts, .slice at_ t.init.length ct, .slice at_2 t.goal.length ct2, .slice at_3 t.ops.length ct3], Box pv [.int .i64 0, .slice none 0 0, .slice none 0 0, .slice none 0 0], Box pout [.int .i64 (IntKind.i64.wrap (t.facts + 1)), .slice at_ t.init.length ct, .slice at_2 t.goal.length ct2, .slice al2 l.length cl2], Box po [.slice a ((gt t.ops i).atStart.length) c, .slice a2 ((gt t.ops i).over.length) c2, .slice a3 ((gt t.ops i).atEnd.length) c3, .slice a4 ((gt t.ops i).addStart.length) c4, .slice a5 ((gt t.ops i).delStart.length) c5, .slice a6 ((gt t.ops i).addEnd.length) c6, .slice a7 ((gt t.ops i).delEnd.length) c7, .int .i64 ((gt t.ops i).dur)], Box px [.slice al13 l12.length cl13, .slice al14 l13.length cl14, .slice al6 l5.length cl6, .int .i64 0], OwnSl 73 4 al2 l.length cl2 csl, OwnSl 3 1 al13 l12.length cl13 (flL l12), OwnSl 3 1 al14 l13.length cl14 (flL l13), OwnSl 3 1 a14 ((l5 ++ ([p] : List Int)).length) c12 (flL (l5 ++ ([p] : List Int)))]) rfl ?_
                  refine .v (fa rfl tF73_2) rfl rfl rfl ?_
                  refine st (p := px) (off := 2) (k := 5) (vs := [.slice a14 ((l5 ++ ([p] : List Int)).length) c12]) rfl rfl rfl (fun w => (tO22 w).2) rfl rfl rfl rfl ?_
                  refine .cast (A' := [OwnSl 3 1 a13 (([p] : List Int).length) 1 (flL ([p] : List Int)), Box pt [.int .i64 t.facts, .slice at_ t.init.length ct, .slice at_2 t.goal.length ct2, .slice at_3 t.ops.length ct3], Box pv [.int .i64 0, .slice none 0 0, .slice none 0 0, .slice none 0 0], Box pout [.int .i64 (IntKind.i64.wrap (t.facts + 1)), .slice at_ t.init.length ct, .slice at_2 t.goal.length ct2, .slice al2 l.length cl2], Box po [.slice a ((gt t.ops i).atStart.length) c, .slice a2 ((gt t.ops i).over.length) c2, .slice a3 ((gt t.ops i).atEnd.length) c3, .slice a4 ((gt t.ops i).addStart.length) c4, .slice a5 ((gt t.ops i).delStart.length) c5, .slice a6 ((gt t.ops i).addEnd.length) c6, .slice a7 ((gt t.ops i).delEnd.length) c7, .int .i64 ((gt t.ops i).dur)], Box px [.slice al13 l12.length cl13, .slice al14 l13.length cl14, .slice a14 ((l5 ++ ([p] : List Int)).length) c12, .int .i64 0], OwnSl 73 4 al2 l.length cl2 csl, OwnSl 3 1 al13 l12.length cl13 (flL l12), OwnSl 3 1 al14 l13.length cl14 (flL l13), OwnSl 3 1 a14 ((l5 ++ ([p] : List Int)).length) c12 (flL (l5 ++ ([p] : List Int)))]) rfl ?_
                  refine .nil ?_
                  refine .blkN ?_
                  refine .sel0 [1, 2, 3, 4, 5, 6, 7, 8, 9] (by decide) rfl ?_
                  exact .use q22616 (never4, l12, l13, (l5 ++ ([p] : List Int)), al13, cl13, al14, cl14, a14, c12) hF (.cons rfl (.cons rfl (.cons rfl (.cons rfl (.cons rfl (.cons rfl (.cons rfl (.cons rfl (.nil))))))))) rfl (FH.le_trans (FH.le_trans (FH.le_trans (FH.le_trans (le2213) (le2214)) (le2215)) (le2218)) (le2219))
                replace hF := hF.2 q22691
                refine .skip ?_
                refine .blkN ?_
                exact .use q22616 (never4, l12, l13, l5, al13, cl13, al14, cl14, al6, cl6) hF (.cons rfl (.cons rfl (.cons rfl (.cons rfl (.cons rfl (.cons rfl (.cons rfl (.cons rfl (.nil))))))))) rfl (FH.le_trans (FH.le_trans (FH.le_trans (FH.le_trans (le2213) (le2214)) (le2215)) (le2218)) (le2219))
              refine .cond rfl (fun q22695 => ?_) (fun q22695 => ?_)
              · replace hF := hF.1 q22695
                refine .region ?_
                refine .v (fa rfl tF73_1) rfl rfl rfl ?_
                refine .v (ld1 rfl tO22 (cellB (off := 1) (k := 5) rfl rfl)) rfl rfl rfl ?_
                refine .v (mv rfl) rfl rfl rfl ?_
                refine bs2 (cs := #[.int .i64 p]) (pv := [(0, .int .i64 p)]) tS22 rfl rfl (by decide) (by decide) rfl rfl rfl (fun a15 _ => ?_)
                refine .cast (A' := [OwnSl 3 1 a15 (([p] : List Int).length) 1 (flL ([p] : List Int)), tru, Box pt [.int .i64 t.facts, .slice at_ t.init.length ct, .slice at_2 t.goal.length ct2, .slice at_3 t.ops.length ct3], Box pv [.int .i64 0, .slice none 0 0, .slice none 0 0, .slice none 0 0], Box pout [.int .i64 (IntKind.i64.wrap (t.facts + 1)), .slice at_ t.init.length ct, .slice at_2 t.goal.length ct2, .slice al2 l.length cl2], Box po [.slice a ((gt t.ops i).atStart.length) c, .slice a2 ((gt t.ops i).over.length) c2, .slice a3 ((gt t.ops i).atEnd.length) c3, .slice a4 ((gt t.ops i).addStart.length) c4, .slice a5 ((gt t.ops i).delStart.length) c5, .slice a6 ((gt t.ops i).addEnd.length) c6, .slice a7 ((gt t.ops i).delEnd.length) c7, .int .i64 ((gt t.ops i).dur)], Box px [.slice al13 l12.length cl13, .slice al5 l4.length cl5, .slice al6 l5.length cl6, .int .i64 0], OwnSl 73 4 al2 l.length cl2 csl, OwnSl 3 1 al13 l12.length cl13 (flL l12), OwnSl 3 1 al5 l4.length cl5 (flL l4), OwnSl 3 1 al6 l5.length cl6 (flL l5)]) rfl ?_
                obtain ⟨q22697, hF⟩ := hF
                have q22698 : l4.length + ([p] : List Int).length = ((l4 ++ ([p] : List Int))).length := len_app rfl rfl
                refine app (k := 9) (news := flL ([p] : List Int)) (cs' := flL (l4 ++ ([p] : List Int))) (nm := ((l4 ++ ([p] : List Int))).length) tS22 rfl (by decide) rfl rfl rfl (by rw [flL_len]; rfl) (srcS (k := 0) rfl) (flL_one _) (room_of q22698 q22697).1 (room_of q22698 q22697).2 q22698 (flL_append _ _).symm rfl (fun a16 c13 => ?_)
                refine .cast (A' := [OwnSl 3 1 a15 (([p] : List Int).length) 1 (flL ([p] : List Int)), tru, Box pt [.int .i64 t.facts, .slice at_ t.init.length ct, .slice at_2 t.goal.length ct2, .slice at_3 t.ops.length ct3], Box pv [.int .i64 0, .slice none 0 0, .slice none 0 0, .slice none 0 0], Box pout [.int .i64 (IntKind.i64.wrap (t.facts + 1)), .slice at_ t.init.length ct, .slice at_2 t.goal.length ct2, .slice al2 l.length cl2], Box po [.slice a ((gt t.ops i).atStart.length) c, .slice a2 ((gt t.ops i).over.length) c2, .slice a3 ((gt t.ops i).atEnd.length) c3, .slice a4 ((gt t.ops i).addStart.length) c4, .slice a5 ((gt t.ops i).delStart.length) c5, .slice a6 ((gt t.ops i).addEnd.length) c6, .slice a7 ((gt t.ops i).delEnd.length) c7, .int .i64 ((gt t.ops i).dur)], Box px [.slice al13 l12.length cl13, .slice al5 l4.length cl5, .slice al6 l5.length cl6, .int .i64 0], OwnSl 73 4 al2 l.length cl2 csl, OwnSl 3 1 al13 l12.length cl13 (flL l12), OwnSl 3 1 a16 ((l4 ++ ([p] : List Int)).length) c13 (flL (l4 ++ ([p] : List Int))), OwnSl 3 1 al6 l5.length cl6 (flL l5)]) rfl ?_
                refine .v (fa rfl tF73_1) rfl rfl rfl ?_
                refine st (p := px) (off := 1) (k := 6) (vs := [.slice a16 ((l4 ++ ([p] : List Int)).length) c13]) rfl rfl rfl (fun w => (tO22 w).2) rfl rfl rfl rfl ?_
                refine .cast (A' := [OwnSl 3 1 a15 (([p] : List Int).length) 1 (flL ([p] : List Int)), tru, Box pt [.int .i64 t.facts, .slice at_ t.init.length ct, .slice at_2 t.goal.length ct2, .slice at_3 t.ops.length ct3], Box pv [.int .i64 0, .slice none 0 0, .slice none 0 0, .slice none 0 0], Box pout [.int .i64 (IntKind.i64.wrap (t.facts + 1)), .slice at_ t.init.length ct, .slice at_2 t.goal.length ct2, .slice al2 l.length cl2], Box po [.slice a ((gt t.ops i).atStart.length) c, .slice a2 ((gt t.ops i).over.length) c2, .slice a3 ((gt t.ops i).atEnd.length) c3, .slice a4 ((gt t.ops i).addStart.length) c4, .slice a5 ((gt t.ops i).delStart.length) c5, .slice a6 ((gt t.ops i).addEnd.length) c6, .slice a7 ((gt t.ops i).delEnd.length) c7, .int .i64 ((gt t.ops i).dur)], Box px [.slice al13 l12.length cl13, .slice a16 ((l4 ++ ([p] : List Int)).length) c13, .slice al6 l5.length cl6, .int .i64 0], OwnSl 73 4 al2 l.length cl2 csl, OwnSl 3 1 al13 l12.length cl13 (flL l12), OwnSl 3 1 a16 ((l4 ++ ([p] : List Int)).length) c13 (flL (l4 ++ ([p] : List Int))), OwnSl 3 1 al6 l5.length cl6 (flL l5)]) rfl ?_
                refine .nil ?_
                refine .sel0 [2, 3, 4, 5, 6, 7, 8, 9, 10] (by decide) rfl ?_
                exact .use q22690 ((l4 ++ ([p] : List Int)), a16, c13) hF (.cons rfl (.cons rfl (.cons rfl (.cons rfl (.cons rfl (.cons rfl (.cons rfl (.cons rfl (.cons rfl (.nil)))))))))) rfl (FH.le_refl _)
              replace hF := hF.2 q22695
              refine .skip ?_
              refine .sel0 [1, 2, 3, 4, 5, 6, 7, 8, 9] (by decide) rfl ?_
              exact .use q22690 (l4, al5, cl5) hF (.cons rfl (.cons rfl (.cons rfl (.cons rfl (.cons rfl (.cons rfl (.cons rfl (.cons rfl (.cons rfl (.nil)))))))))) rfl (FH.le_refl _)
            refine .region ?_
            refine .v (mv rfl) rfl rfl rfl ?_
            refine .v (mv rfl) rfl rfl rfl ?_
            rcases Bool.eq_false_or_eq_true (never) with q22699 | q22699
            · replace hF := hF.1 q22699
              refine .gS rfl rfl rfl q22699 rfl rfl ?_
              refine .gS rfl rfl rfl q22699 rfl rfl ?_
              refine .gU rfl rfl rfl rfl rfl ?_
              refine .gU rfl rfl rfl rfl rfl ?_
              refine .gU rfl rfl rfl rfl rfl ?_
              refine .gU rfl rfl rfl rfl rfl ?_
              refine .gS rfl rfl rfl q22699 rfl rfl ?_
              refine .v (pkT rfl q22699 rfl) rfl rfl rfl ?_
              refine .v (asg rfl) rfl rfl rfl ?_
              refine .nil ?_
              exact .use q22639 true hF (.cons rfl (.cons rfl (.cons rfl (.cons rfl (.cons rfl (.cons rfl (.cons rfl (.cons rfl (.nil))))))))) rfl (FH.le_refl _)
            replace hF := hF.2 q22699
            refine .gv (mv rfl) rfl rfl rfl q22699 rfl rfl ?_
            refine .gv (mv rfl) rfl rfl rfl q22699 rfl rfl ?_
            rcases Bool.eq_false_or_eq_true (later) with q22700 | q22700
            · replace hF := hF.1 q22700
              refine .gv (fa rfl tF41_4) rfl rfl rfl q22700 rfl rfl ?_
              refine .gv (ld1 rfl tO22 (cellB (off := 4) (k := 3) rfl rfl)) rfl rfl rfl q22700 rfl rfl ?_
              refine .gv (mv rfl) rfl rfl rfl q22700 rfl rfl ?_
              obtain ⟨q22701, hF⟩ := hF
              obtain ⟨r8, q22702⟩ : ∃ y_ : Bool, y_ = sp_has ((gt t.ops i).delStart) p := ⟨_, rfl⟩
              replace hF := hF r8 q22702
              refine .gc (cl (v := .bool r8) Try.call40 rfl rfl (fun w S => (by rw [q22702]; exact c_has S.sub ((gt t.ops i).delStart) a5 c5 (q21486.mono (q15162)) q21485 p q22701))) rfl rfl rfl q22700 rfl rfl ?_
              refine .gv (pkT rfl q22700 rfl) rfl rfl rfl q22699 rfl rfl ?_
              refine .v (pkF rfl q22699 rfl) rfl rfl rfl ?_
              refine .v (asg rfl) rfl rfl rfl ?_
              refine .nil ?_
              exact .use q22639 r8 hF (.cons rfl (.cons rfl (.cons rfl (.cons rfl (.cons rfl (.cons rfl (.cons rfl (.cons rfl (.nil))))))))) rfl (FH.le_refl _)
            replace hF := hF.2 q22700
            refine .gS rfl rfl rfl q22700 rfl rfl ?_
            refine .gS rfl rfl rfl q22700 rfl rfl ?_
            refine .gS rfl rfl rfl q22700 rfl rfl ?_
            refine .gS rfl rfl rfl q22700 rfl rfl ?_
            refine .gv (pkF rfl q22700 rfl) rfl rfl rfl q22699 rfl rfl ?_
            refine .v (pkF rfl q22699 rfl) rfl rfl rfl ?_
            refine .v (asg rfl) rfl rfl rfl ?_
            refine .nil ?_
            exact .use q22639 false hF (.cons rfl (.cons rfl (.cons rfl (.cons rfl (.cons rfl (.cons rfl (.cons rfl (.cons rfl (.nil))))))))) rfl (FH.le_refl _)
          refine .cond rfl (fun q22703 => ?_) (fun q22703 => ?_)
          · replace hF := hF.1 q22703
            refine .region ?_
            refine .v (fa rfl tF73_0) rfl rfl rfl ?_
            refine .v (ld1 rfl tO22 (cellB (off := 0) (k := 4) rfl rfl)) rfl rfl rfl ?_
            refine .v (mv rfl) rfl rfl rfl ?_
            refine bs2 (cs := #[.int .i64 p]) (pv := [(0, .int .i64 p)]) tS22 rfl rfl (by decide) (by decide) rfl rfl rfl (fun a17 _ => ?_)
            refine .cast (A' := [OwnSl 3 1 a17 (([p] : List Int).length) 1 (flL ([p] : List Int)), Box pt [.int .i64 t.facts, .slice at_ t.init.length ct, .slice at_2 t.goal.length ct2, .slice at_3 t.ops.length ct3], Box pv [.int .i64 0, .slice none 0 0, .slice none 0 0, .slice none 0 0], Box pout [.int .i64 (IntKind.i64.wrap (t.facts + 1)), .slice at_ t.init.length ct, .slice at_2 t.goal.length ct2, .slice al2 l.length cl2], Box po [.slice a ((gt t.ops i).atStart.length) c, .slice a2 ((gt t.ops i).over.length) c2, .slice a3 ((gt t.ops i).atEnd.length) c3, .slice a4 ((gt t.ops i).addStart.length) c4, .slice a5 ((gt t.ops i).delStart.length) c5, .slice a6 ((gt t.ops i).addEnd.length) c6, .slice a7 ((gt t.ops i).delEnd.length) c7, .int .i64 ((gt t.ops i).dur)], Box px [.slice al4 l3.length cl4, .slice al5 l4.length cl5, .slice al6 l5.length cl6, .int .i64 0], OwnSl 73 4 al2 l.length cl2 csl, OwnSl 3 1 al4 l3.length cl4 (flL l3), OwnSl 3 1 al5 l4.length cl5 (flL l4), OwnSl 3 1 al6 l5.length cl6 (flL l5)]) rfl ?_
            obtain ⟨q22705, hF⟩ := hF
            have q22706 : l3.length + ([p] : List Int).length = ((l3 ++ ([p] : List Int))).length := len_app rfl rfl
            refine app (k := 7) (news := flL ([p] : List Int)) (cs' := flL (l3 ++ ([p] : List Int))) (nm := ((l3 ++ ([p] : List Int))).length) tS22 rfl (by decide) rfl rfl rfl (by rw [flL_len]; rfl) (srcS (k := 0) rfl) (flL_one _) (room_of q22706 q22705).1 (room_of q22706 q22705).2 q22706 (flL_append _ _).symm rfl (fun a18 c14 => ?_)
            refine .cast (A' := [OwnSl 3 1 a17 (([p] : List Int).length) 1 (flL ([p] : List Int)), Box pt [.int .i64 t.facts, .slice at_ t.init.length ct, .slice at_2 t.goal.length ct2, .slice at_3 t.ops.length ct3], Box pv [.int .i64 0, .slice none 0 0, .slice none 0 0, .slice none 0 0], Box pout [.int .i64 (IntKind.i64.wrap (t.facts + 1)), .slice at_ t.init.length ct, .slice at_2 t.goal.length ct2, .slice al2 l.length cl2], Box po [.slice a ((gt t.ops i).atStart.length) c, .slice a2 ((gt t.ops i).over.length) c2, .slice a3 ((gt t.ops i).atEnd.length) c3, .slice a4 ((gt t.ops i).addStart.length) c4, .slice a5 ((gt t.ops i).delStart.length) c5, .slice a6 ((gt t.ops i).addEnd.length) c6, .slice a7 ((gt t.ops i).delEnd.length) c7, .int .i64 ((gt t.ops i).dur)], Box px [.slice al4 l3.length cl4, .slice al5 l4.length cl5, .slice al6 l5.length cl6, .int .i64 0], OwnSl 73 4 al2 l.length cl2 csl, OwnSl 3 1 a18 ((l3 ++ ([p] : List Int)).length) c14 (flL (l3 ++ ([p] : List Int))), OwnSl 3 1 al5 l4.length cl5 (flL l4), OwnSl 3 1 al6 l5.length cl6 (flL l5)]) rfl ?_
            refine .v (fa rfl tF73_0) rfl rfl rfl ?_
            refine st (p := px) (off := 0) (k := 5) (vs := [.slice a18 ((l3 ++ ([p] : List Int)).length) c14]) rfl rfl rfl (fun w => (tO22 w).2) rfl rfl rfl rfl ?_
            refine .cast (A' := [OwnSl 3 1 a17 (([p] : List Int).length) 1 (flL ([p] : List Int)), Box pt [.int .i64 t.facts, .slice at_ t.init.length ct, .slice at_2 t.goal.length ct2, .slice at_3 t.ops.length ct3], Box pv [.int .i64 0, .slice none 0 0, .slice none 0 0, .slice none 0 0], Box pout [.int .i64 (IntKind.i64.wrap (t.facts + 1)), .slice at_ t.init.length ct, .slice at_2 t.goal.length ct2, .slice al2 l.length cl2], Box po [.slice a ((gt t.ops i).atStart.length) c, .slice a2 ((gt t.ops i).over.length) c2, .slice a3 ((gt t.ops i).atEnd.length) c3, .slice a4 ((gt t.ops i).addStart.length) c4, .slice a5 ((gt t.ops i).delStart.length) c5, .slice a6 ((gt t.ops i).addEnd.length) c6, .slice a7 ((gt t.ops i).delEnd.length) c7, .int .i64 ((gt t.ops i).dur)], Box px [.slice a18 ((l3 ++ ([p] : List Int)).length) c14, .slice al5 l4.length cl5, .slice al6 l5.length cl6, .int .i64 0], OwnSl 73 4 al2 l.length cl2 csl, OwnSl 3 1 a18 ((l3 ++ ([p] : List Int)).length) c14 (flL (l3 ++ ([p] : List Int))), OwnSl 3 1 al5 l4.length cl5 (flL l4), OwnSl 3 1 al6 l5.length cl6 (flL l5)]) rfl ?_
            refine .nil ?_
            refine .sel0 [1, 2, 3, 4, 5, 6, 7, 8, 9] (by decide) rfl ?_
            exact .use q22634 ((l3 ++ ([p] : List Int)), a18, c14) hF (.cons rfl (.cons rfl (.cons rfl (.cons rfl (.cons rfl (.cons rfl (.cons rfl (.cons rfl (.cons rfl (.nil)))))))))) rfl (FH.le_refl _)
          replace hF := hF.2 q22703
          refine .skip ?_
          exact .use q22634 (l3, al4, cl4) hF (.cons rfl (.cons rfl (.cons rfl (.cons rfl (.cons rfl (.cons rfl (.cons rfl (.cons rfl (.cons rfl (.nil)))))))))) rfl (FH.le_refl _)
        refine .region ?_
        refine .v (fa rfl tF41_0) rfl rfl rfl ?_
        refine .v (ld1 rfl tO22 (cellB (off := 0) (k := 3) rfl rfl)) rfl rfl rfl ?_
        refine .v (mv rfl) rfl rfl rfl ?_
        obtain ⟨q22707, hF⟩ := hF
        obtain ⟨r9, q22708⟩ : ∃ y_ : Bool, y_ = sp_has ((gt t.ops i).atStart) p := ⟨_, rfl⟩
        replace hF := hF r9 q22708
        refine .c (cl (v := .bool r9) Try.call40 rfl rfl (fun w S => (by rw [q22708]; exact c_has S.sub ((gt t.ops i).atStart) a c (q21478.mono (q15162)) q21477 p q22707))) rfl rfl rfl ?_
        refine .v (mv rfl) rfl rfl rfl ?_
        rcases Bool.eq_false_or_eq_true (r9) with q22709 | q22709
        · replace hF := hF.1 q22709
          refine .gS rfl rfl rfl q22709 rfl rfl ?_
          refine .gS rfl rfl rfl q22709 rfl rfl ?_
          refine .gU rfl rfl rfl rfl rfl ?_
          refine .gU rfl rfl rfl rfl rfl ?_
          refine .gU rfl rfl rfl rfl rfl ?_
          refine .gU rfl rfl rfl rfl rfl ?_
          refine .gU rfl rfl rfl rfl rfl ?_
          refine .gS rfl rfl rfl q22709 rfl rfl ?_
          refine .v (pkT rfl q22709 rfl) rfl rfl rfl ?_
          refine .nil ?_
          exact .use q22629 true hF (.cons rfl (.cons rfl (.cons rfl (.cons rfl (.cons rfl (.cons rfl (.cons rfl (.cons rfl (.cons rfl (.cons rfl (.nil))))))))))) rfl (FH.le_refl _)
        replace hF := hF.2 q22709
        refine .gv (mv rfl) rfl rfl rfl q22709 rfl rfl ?_
        refine .gv (mv rfl) rfl rfl rfl q22709 rfl rfl ?_
        rcases Bool.eq_false_or_eq_true (later) with q22710 | q22710
        · replace hF := hF.1 q22710
          refine .gv (fa rfl tF41_3) rfl rfl rfl q22710 rfl rfl ?_
          refine .gv (ld1 rfl tO22 (cellB (off := 3) (k := 3) rfl rfl)) rfl rfl rfl q22710 rfl rfl ?_
          refine .gv (mv rfl) rfl rfl rfl q22710 rfl rfl ?_
          obtain ⟨q22711, hF⟩ := hF
          obtain ⟨r10, q22712⟩ : ∃ y_ : Bool, y_ = sp_has ((gt t.ops i).addStart) p := ⟨_, rfl⟩
          replace hF := hF r10 q22712
          refine .gc (cl (v := .bool r10) Try.call40 rfl rfl (fun w S => (by rw [q22712]; exact c_has S.sub ((gt t.ops i).addStart) a4 c4 (q21484.mono (q15162)) q21483 p q22711))) rfl rfl rfl q22710 rfl rfl ?_
          refine .gv (nt rfl) rfl rfl rfl q22710 rfl rfl ?_
          refine .gv (pkT rfl q22710 rfl) rfl rfl rfl q22709 rfl rfl ?_
          refine .v (pkF rfl q22709 rfl) rfl rfl rfl ?_
          refine .nil ?_
          exact .use q22629 (!r10) hF (.cons rfl (.cons rfl (.cons rfl (.cons rfl (.cons rfl (.cons rfl (.cons rfl (.cons rfl (.cons rfl (.cons rfl (.nil))))))))))) rfl (FH.le_refl _)
        replace hF := hF.2 q22710
        refine .gS rfl rfl rfl q22710 rfl rfl ?_
        refine .gS rfl rfl rfl q22710 rfl rfl ?_
        refine .gS rfl rfl rfl q22710 rfl rfl ?_
        refine .gS rfl rfl rfl q22710 rfl rfl ?_
        refine .gS rfl rfl rfl q22710 rfl rfl ?_
        refine .gv (pkF rfl q22710 rfl) rfl rfl rfl q22709 rfl rfl ?_
        refine .v (pkF rfl q22709 rfl) rfl rfl rfl ?_
        refine .nil ?_
        exact .use q22629 false hF (.cons rfl (.cons rfl (.cons rfl (.cons rfl (.cons rfl (.cons rfl (.cons rfl (.cons rfl (.cons rfl (.cons rfl (.nil))))))))))) rfl (FH.le_refl _)
      refine .region ?_
      refine .v (fa rfl tF41_1) rfl rfl rfl ?_
      refine .v (ld1 rfl tO22 (cellB (off := 1) (k := 3) rfl rfl)) rfl rfl rfl ?_
      refine .v (mv rfl) rfl rfl rfl ?_
      obtain ⟨q22713, hF⟩ := hF
      obtain ⟨r11, q22714⟩ : ∃ y_ : Bool, y_ = sp_has ((gt t.ops i).over) p := ⟨_, rfl⟩
      replace hF := hF r11 q22714
      refine .c (cl (v := .bool r11) Try.call40 rfl rfl (fun w S => (by rw [q22714]; exact c_has S.sub ((gt t.ops i).over) a2 c2 (q21480.mono (q15162)) q21479 p q22713))) rfl rfl rfl ?_
      refine .v (mv rfl) rfl rfl rfl ?_
      rcases Bool.eq_false_or_eq_true (r11) with q22715 | q22715
      · replace hF := hF.1 q22715
        refine .gS rfl rfl rfl q22715 rfl rfl ?_
        refine .gS rfl rfl rfl q22715 rfl rfl ?_
        refine .gS rfl rfl rfl q22715 rfl rfl ?_
        refine .gS rfl rfl rfl q22715 rfl rfl ?_
        refine .v (pkT rfl q22715 rfl) rfl rfl rfl ?_
        refine .v (asg rfl) rfl rfl rfl ?_
        refine .nil ?_
        exact .use q22622 true hF (.cons rfl (.cons rfl (.cons rfl (.cons rfl (.cons rfl (.cons rfl (.cons rfl (.cons rfl (.cons rfl (.nil)))))))))) rfl (FH.le_refl _)
      replace hF := hF.2 q22715
      refine .gv (fa rfl tF41_2) rfl rfl rfl q22715 rfl rfl ?_
      refine .gv (ld1 rfl tO22 (cellB (off := 2) (k := 3) rfl rfl)) rfl rfl rfl q22715 rfl rfl ?_
      refine .gv (mv rfl) rfl rfl rfl q22715 rfl rfl ?_
      obtain ⟨q22716, hF⟩ := hF
      obtain ⟨r12, q22717⟩ : ∃ y_ : Bool, y_ = sp_has ((gt t.ops i).atEnd) p := ⟨_, rfl⟩
      replace hF := hF r12 q22717
      refine .gc (cl (v := .bool r12) Try.call40 rfl rfl (fun w S => (by rw [q22717]; exact c_has S.sub ((gt t.ops i).atEnd) a3 c3 (q21482.mono (q15162)) q21481 p q22716))) rfl rfl rfl q22715 rfl rfl ?_
      refine .v (pkF rfl q22715 rfl) rfl rfl rfl ?_
      refine .v (asg rfl) rfl rfl rfl ?_
      refine .nil ?_
      exact .use q22622 r12 hF (.cons rfl (.cons rfl (.cons rfl (.cons rfl (.cons rfl (.cons rfl (.cons rfl (.cons rfl (.cons rfl (.nil)))))))))) rfl (FH.le_refl _)
    replace hF := hF.2 q22514
    refine .exit ?_
    refine .seqX ?_
    refine .seqX ?_
    refine .blkX ?_
    refine .seqN ?_
    refine .seq ?_
    refine .seq ?_
    refine .region ?_
    refine .v (mv rfl) rfl rfl rfl ?_
    refine .nil ?_
    refine .seqN ?_
    refine .shareT (σ := List Int × Option Addr × Nat) (fun z => F_sequenced_J7 l l4 l5 i I1 μ1 z.1) (fun _ => [(1, .pointer (some pt)), (2, .pointer (some pv)), (3, .pointer (some pout)), (4, .int .i64 i), (6, .pointer (some px))]) (fun z => [Box pt [.int .i64 t.facts, .slice at_ t.init.length ct, .slice at_2 t.goal.length ct2, .slice at_3 t.ops.length ct3], Box pv [.int .i64 0, .slice none 0 0, .slice none 0 0, .slice none 0 0], Box pout [.int .i64 (IntKind.i64.wrap (t.facts + 1)), .slice at_ t.init.length ct, .slice at_2 t.goal.length ct2, .slice al2 l.length cl2], Box px [.slice z.2.1 z.1.length z.2.2, .slice al5 l4.length cl5, .slice al6 l5.length cl6, .int .i64 0], OwnSl 73 4 al2 l.length cl2 csl, OwnSl 3 1 z.2.1 z.1.length z.2.2 (flL z.1), OwnSl 3 1 al5 l4.length cl5 (flL l4), OwnSl 3 1 al6 l5.length cl6 (flL l5)]) (fun _ => h1483) ?_ (fun q22722 => ?_)
    · rintro ⟨l14, al15, cl15⟩ hF
      show J _ _ _ _ _ [(1, .pointer (some pt)), (2, .pointer (some pv)), (3, .pointer (some pout)), (4, .int .i64 i), (6, .pointer (some px))] [Box pt [.int .i64 t.facts, .slice at_ t.init.length ct, .slice at_2 t.goal.length ct2, .slice at_3 t.ops.length ct3], Box pv [.int .i64 0, .slice none 0 0, .slice none 0 0, .slice none 0 0], Box pout [.int .i64 (IntKind.i64.wrap (t.facts + 1)), .slice at_ t.init.length ct, .slice at_2 t.goal.length ct2, .slice al2 l.length cl2], Box px [.slice al15 l14.length cl15, .slice al5 l4.length cl5, .slice al6 l5.length cl6, .int .i64 0], OwnSl 73 4 al2 l.length cl2 csl, OwnSl 3 1 al15 l14.length cl15 (flL l14), OwnSl 3 1 al5 l4.length cl5 (flL l4), OwnSl 3 1 al6 l5.length cl6 (flL l5)] h1483
      refine .region ?_
      refine .v (fa rfl tF50_3) rfl rfl rfl ?_
      refine .v (ld1 rfl tO48 (cellB (off := 3) (k := 2) rfl rfl)) rfl rfl rfl ?_
      refine .v (ldA (cs := [.slice al15 l14.length cl15, .slice al5 l4.length cl5, .slice al6 l5.length cl6, .int .i64 0]) rfl tA73 rfl (cellsB (off := 0) (k := 3) rfl (m := 4) rfl)) rfl rfl rfl ?_
      refine .freezeL (k := 5) rfl (fun h2220 le2220 q22724 q22723 => ?_)
      refine .cast (A' := [Box pt [.int .i64 t.facts, .slice at_ t.init.length ct, .slice at_2 t.goal.length ct2, .slice at_3 t.ops.length ct3], Box pv [.int .i64 0, .slice none 0 0, .slice none 0 0, .slice none 0 0], Box pout [.int .i64 (IntKind.i64.wrap (t.facts + 1)), .slice at_ t.init.length ct, .slice at_2 t.goal.length ct2, .slice al2 l.length cl2], Box px [.slice al15 l14.length cl15, .slice al5 l4.length cl5, .slice al6 l5.length cl6, .int .i64 0], OwnSl 73 4 al2 l.length cl2 csl, tru, OwnSl 3 1 al5 l4.length cl5 (flL l4), OwnSl 3 1 al6 l5.length cl6 (flL l5)]) rfl ?_
      refine .freezeL (k := 6) rfl (fun h2221 le2221 q22726 q22725 => ?_)
      refine .cast (A' := [Box pt [.int .i64 t.facts, .slice at_ t.init.length ct, .slice at_2 t.goal.length ct2, .slice at_3 t.ops.length ct3], Box pv [.int .i64 0, .slice none 0 0, .slice none 0 0, .slice none 0 0], Box pout [.int .i64 (IntKind.i64.wrap (t.facts + 1)), .slice at_ t.init.length ct, .slice at_2 t.goal.length ct2, .slice al2 l.length cl2], Box px [.slice al15 l14.length cl15, .slice al5 l4.length cl5, .slice al6 l5.length cl6, .int .i64 0], OwnSl 73 4 al2 l.length cl2 csl, tru, tru, OwnSl 3 1 al6 l5.length cl6 (flL l5)]) rfl ?_
      refine .freezeL (k := 7) rfl (fun h2222 le2222 q22728 q22727 => ?_)
      refine .cast (A' := [Box pt [.int .i64 t.facts, .slice at_ t.init.length ct, .slice at_2 t.goal.length ct2, .slice at_3 t.ops.length ct3], Box pv [.int .i64 0, .slice none 0 0, .slice none 0 0, .slice none 0 0], Box pout [.int .i64 (IntKind.i64.wrap (t.facts + 1)), .slice at_ t.init.length ct, .slice at_2 t.goal.length ct2, .slice al2 l.length cl2], Box px [.slice al15 l14.length cl15, .slice al5 l4.length cl5, .slice al6 l5.length cl6, .int .i64 0], OwnSl 73 4 al2 l.length cl2 csl, tru, tru, tru]) rfl ?_
      refine bs2 (cs := #[.slice al15 l14.length cl15, .slice al5 l4.length cl5, .slice al6 l5.length cl6, .int .i64 0]) (pv := [(0, .agg #[.slice al15 l14.length cl15, .slice al5 l4.length cl5, .slice al6 l5.length cl6, .int .i64 0])]) tS48 rfl rfl (by decide) (by decide) rfl rfl rfl (fun a19 _ => ?_)
      refine .cast (A' := [OwnSl 73 4 a19 (([(⟨l14, l4, l5, 0⟩ : Operator)] : List Operator).length) 1 [.slice al15 l14.length cl15, .slice al5 l4.length cl5, .slice al6 l5.length cl6, .int .i64 0], Box pt [.int .i64 t.facts, .slice at_ t.init.length ct, .slice at_2 t.goal.length ct2, .slice at_3 t.ops.length ct3], Box pv [.int .i64 0, .slice none 0 0, .slice none 0 0, .slice none 0 0], Box pout [.int .i64 (IntKind.i64.wrap (t.facts + 1)), .slice at_ t.init.length ct, .slice at_2 t.goal.length ct2, .slice al2 l.length cl2], Box px [.slice al15 l14.length cl15, .slice al5 l4.length cl5, .slice al6 l5.length cl6, .int .i64 0], OwnSl 73 4 al2 l.length cl2 csl, tru, tru, tru]) rfl ?_
      obtain ⟨q22730, hF⟩ := hF
      have q22731 : l.length + ([(⟨l14, l4, l5, 0⟩ : Operator)] : List Operator).length = ((l ++ ([(⟨l14, l4, l5, 0⟩ : Operator)] : List Operator))).length := len_app rfl rfl
      have q22732 := RepL.append (RepL.mono (FH.le_trans (FH.le_trans (le2220) (le2221)) (le2222)) q15161) (show RepL h2222 ([(⟨l14, l4, l5, 0⟩ : Operator)] : List Operator) [.slice al15 l14.length cl15, .slice al5 l4.length cl5, .slice al6 l5.length cl6, .int .i64 0] from ⟨[.slice al15 l14.length cl15, .slice al5 l4.length cl5, .slice al6 l5.length cl6, .int .i64 0], _, rfl, ⟨al15, cl15, al5, cl5, al6, cl6, rfl, ⟨(q22724), ((RSl.of q22723).mono (FH.le_trans (le2221) (le2222)))⟩, ⟨(q22726), ((RSl.of q22725).mono (le2222))⟩, ⟨(q22728), (RSl.of q22727)⟩⟩, rfl⟩)
      refine app (k := 5) (news := [.slice al15 l14.length cl15, .slice al5 l4.length cl5, .slice al6 l5.length cl6, .int .i64 0]) (cs' := (csl ++ [.slice al15 l14.length cl15, .slice al5 l4.length cl5, .slice al6 l5.length cl6, .int .i64 0])) (nm := ((l ++ ([(⟨l14, l4, l5, 0⟩ : Operator)] : List Operator))).length) tS48 rfl (by decide) rfl rfl rfl (RepL.len (show RepL h2222 ([(⟨l14, l4, l5, 0⟩ : Operator)] : List Operator) [.slice al15 l14.length cl15, .slice al5 l4.length cl5, .slice al6 l5.length cl6, .int .i64 0] from ⟨[.slice al15 l14.length cl15, .slice al5 l4.length cl5, .slice al6 l5.length cl6, .int .i64 0], _, rfl, ⟨al15, cl15, al5, cl5, al6, cl6, rfl, ⟨(q22724), ((RSl.of q22723).mono (FH.le_trans (le2221) (le2222)))⟩, ⟨(q22726), ((RSl.of q22725).mono (le2222))⟩, ⟨(q22728), (RSl.of q22727)⟩⟩, rfl⟩)) (srcS (k := 0) rfl) (RepL.one (show RepL h2222 ([(⟨l14, l4, l5, 0⟩ : Operator)] : List Operator) [.slice al15 l14.length cl15, .slice al5 l4.length cl5, .slice al6 l5.length cl6, .int .i64 0] from ⟨[.slice al15 l14.length cl15, .slice al5 l4.length cl5, .slice al6 l5.length cl6, .int .i64 0], _, rfl, ⟨al15, cl15, al5, cl5, al6, cl6, rfl, ⟨(q22724), ((RSl.of q22723).mono (FH.le_trans (le2221) (le2222)))⟩, ⟨(q22726), ((RSl.of q22725).mono (le2222))⟩, ⟨(q22728), (RSl.of q22727)⟩⟩, rfl⟩)) (room_of q22731 q22730).1 (room_of q22731 q22730).2 q22731 rfl rfl (fun a20 c15 => ?_)
      refine .cast (A' := [OwnSl 73 4 a19 (([(⟨l14, l4, l5, 0⟩ : Operator)] : List Operator).length) 1 [.slice al15 l14.length cl15, .slice al5 l4.length cl5, .slice al6 l5.length cl6, .int .i64 0], Box pt [.int .i64 t.facts, .slice at_ t.init.length ct, .slice at_2 t.goal.length ct2, .slice at_3 t.ops.length ct3], Box pv [.int .i64 0, .slice none 0 0, .slice none 0 0, .slice none 0 0], Box pout [.int .i64 (IntKind.i64.wrap (t.facts + 1)), .slice at_ t.init.length ct, .slice at_2 t.goal.length ct2, .slice al2 l.length cl2], Box px [.slice al15 l14.length cl15, .slice al5 l4.length cl5, .slice al6 l5.length cl6, .int .i64 0], OwnSl 73 4 a20 ((l ++ ([(⟨l14, l4, l5, 0⟩ : Operator)] : List Operator)).length) c15 (csl ++ [.slice al15 l14.length cl15, .slice al5 l4.length cl5, .slice al6 l5.length cl6, .int .i64 0]), tru, tru, tru]) rfl ?_
      refine .v (fa rfl tF50_3) rfl rfl rfl ?_
      refine st (p := pout) (off := 3) (k := 3) (vs := [.slice a20 ((l ++ ([(⟨l14, l4, l5, 0⟩ : Operator)] : List Operator)).length) c15]) rfl rfl rfl (fun w => (tO48 w).2) rfl rfl rfl rfl ?_
      refine .cast (A' := [OwnSl 73 4 a19 (([(⟨l14, l4, l5, 0⟩ : Operator)] : List Operator).length) 1 [.slice al15 l14.length cl15, .slice al5 l4.length cl5, .slice al6 l5.length cl6, .int .i64 0], Box pt [.int .i64 t.facts, .slice at_ t.init.length ct, .slice at_2 t.goal.length ct2, .slice at_3 t.ops.length ct3], Box pv [.int .i64 0, .slice none 0 0, .slice none 0 0, .slice none 0 0], Box pout [.int .i64 (IntKind.i64.wrap (t.facts + 1)), .slice at_ t.init.length ct, .slice at_2 t.goal.length ct2, .slice a20 ((l ++ ([(⟨l14, l4, l5, 0⟩ : Operator)] : List Operator)).length) c15], Box px [.slice al15 l14.length cl15, .slice al5 l4.length cl5, .slice al6 l5.length cl6, .int .i64 0], OwnSl 73 4 a20 ((l ++ ([(⟨l14, l4, l5, 0⟩ : Operator)] : List Operator)).length) c15 (csl ++ [.slice al15 l14.length cl15, .slice al5 l4.length cl5, .slice al6 l5.length cl6, .int .i64 0]), tru, tru, tru]) rfl ?_
      refine .nil ?_
      refine .blkN ?_
      refine .seqN ?_
      refine .region ?_
      refine .v (mv rfl) rfl rfl rfl ?_
      refine .v (bi rfl rfl rfl) rfl rfl rfl ?_
      refine .v (asg rfl) rfl rfl rfl ?_
      refine .nil ?_
      refine .sel0 [1, 2, 3, 5] (by decide) rfl ?_
      exact .round (IntKind.i64.wrap (i + 1), (l ++ ([(⟨l14, l4, l5, 0⟩ : Operator)] : List Operator)), a20, c15, (csl ++ [.slice al15 l14.length cl15, .slice al5 l4.length cl5, .slice al6 l5.length cl6, .int .i64 0]), h2222) ⟨hF.1, q22732, (FH.le_trans (FH.le_trans (FH.le_trans (q15162) (le2220)) (le2221)) (le2222))⟩ hF.2 (.cons rfl (.cons rfl (.cons rfl (.cons rfl (.nil))))) rfl (FH.le_refl _)
    refine .cond rfl (fun q22733 => ?_) (fun q22733 => ?_)
    · replace hF := hF.1 q22733
      refine .region ?_
      refine .v (fa rfl tF73_0) rfl rfl rfl ?_
      refine .v (ld1 rfl tO22 (cellB (off := 0) (k := 4) rfl rfl)) rfl rfl rfl ?_
      refine .v (fa rfl tF25_0) rfl rfl rfl ?_
      refine .v (ld1 rfl tO3 (cellB (off := 0) (k := 0) rfl rfl)) rfl rfl rfl ?_
      refine bs2 (cs := #[.int .i64 t.facts]) (pv := [(0, .int .i64 t.facts)]) tS22 rfl rfl (by decide) (by decide) rfl rfl rfl (fun a21 _ => ?_)
      refine .cast (A' := [OwnSl 3 1 a21 (([t.facts] : List Int).length) 1 (flL ([t.facts] : List Int)), Box pt [.int .i64 t.facts, .slice at_ t.init.length ct, .slice at_2 t.goal.length ct2, .slice at_3 t.ops.length ct3], Box pv [.int .i64 0, .slice none 0 0, .slice none 0 0, .slice none 0 0], Box pout [.int .i64 (IntKind.i64.wrap (t.facts + 1)), .slice at_ t.init.length ct, .slice at_2 t.goal.length ct2, .slice al2 l.length cl2], Box po [.slice a ((gt t.ops i).atStart.length) c, .slice a2 ((gt t.ops i).over.length) c2, .slice a3 ((gt t.ops i).atEnd.length) c3, .slice a4 ((gt t.ops i).addStart.length) c4, .slice a5 ((gt t.ops i).delStart.length) c5, .slice a6 ((gt t.ops i).addEnd.length) c6, .slice a7 ((gt t.ops i).delEnd.length) c7, .int .i64 ((gt t.ops i).dur)], Box px [.slice al4 l3.length cl4, .slice al5 l4.length cl5, .slice al6 l5.length cl6, .int .i64 0], OwnSl 73 4 al2 l.length cl2 csl, OwnSl 3 1 al4 l3.length cl4 (flL l3), OwnSl 3 1 al5 l4.length cl5 (flL l4), OwnSl 3 1 al6 l5.length cl6 (flL l5)]) rfl ?_
      obtain ⟨q22735, hF⟩ := hF
      have q22736 : l3.length + ([t.facts] : List Int).length = ((l3 ++ ([t.facts] : List Int))).length := len_app rfl rfl
      refine app (k := 7) (news := flL ([t.facts] : List Int)) (cs' := flL (l3 ++ ([t.facts] : List Int))) (nm := ((l3 ++ ([t.facts] : List Int))).length) tS22 rfl (by decide) rfl rfl rfl (by rw [flL_len]; rfl) (srcS (k := 0) rfl) (flL_one _) (room_of q22736 q22735).1 (room_of q22736 q22735).2 q22736 (flL_append _ _).symm rfl (fun a22 c16 => ?_)
      refine .cast (A' := [OwnSl 3 1 a21 (([t.facts] : List Int).length) 1 (flL ([t.facts] : List Int)), Box pt [.int .i64 t.facts, .slice at_ t.init.length ct, .slice at_2 t.goal.length ct2, .slice at_3 t.ops.length ct3], Box pv [.int .i64 0, .slice none 0 0, .slice none 0 0, .slice none 0 0], Box pout [.int .i64 (IntKind.i64.wrap (t.facts + 1)), .slice at_ t.init.length ct, .slice at_2 t.goal.length ct2, .slice al2 l.length cl2], Box po [.slice a ((gt t.ops i).atStart.length) c, .slice a2 ((gt t.ops i).over.length) c2, .slice a3 ((gt t.ops i).atEnd.length) c3, .slice a4 ((gt t.ops i).addStart.length) c4, .slice a5 ((gt t.ops i).delStart.length) c5, .slice a6 ((gt t.ops i).addEnd.length) c6, .slice a7 ((gt t.ops i).delEnd.length) c7, .int .i64 ((gt t.ops i).dur)], Box px [.slice al4 l3.length cl4, .slice al5 l4.length cl5, .slice al6 l5.length cl6, .int .i64 0], OwnSl 73 4 al2 l.length cl2 csl, OwnSl 3 1 a22 ((l3 ++ ([t.facts] : List Int)).length) c16 (flL (l3 ++ ([t.facts] : List Int))), OwnSl 3 1 al5 l4.length cl5 (flL l4), OwnSl 3 1 al6 l5.length cl6 (flL l5)]) rfl ?_
      refine .v (fa rfl tF73_0) rfl rfl rfl ?_
      refine st (p := px) (off := 0) (k := 5) (vs := [.slice a22 ((l3 ++ ([t.facts] : List Int)).length) c16]) rfl rfl rfl (fun w => (tO22 w).2) rfl rfl rfl rfl ?_
      refine .cast (A' := [OwnSl 3 1 a21 (([t.facts] : List Int).length) 1 (flL ([t.facts] : List Int)), Box pt [.int .i64 t.facts, .slice at_ t.init.length ct, .slice at_2 t.goal.length ct2, .slice at_3 t.ops.length ct3], Box pv [.int .i64 0, .slice none 0 0, .slice none 0 0, .slice none 0 0], Box pout [.int .i64 (IntKind.i64.wrap (t.facts + 1)), .slice at_ t.init.length ct, .slice at_2 t.goal.length ct2, .slice al2 l.length cl2], Box po [.slice a ((gt t.ops i).atStart.length) c, .slice a2 ((gt t.ops i).over.length) c2, .slice a3 ((gt t.ops i).atEnd.length) c3, .slice a4 ((gt t.ops i).addStart.length) c4, .slice a5 ((gt t.ops i).delStart.length) c5, .slice a6 ((gt t.ops i).addEnd.length) c6, .slice a7 ((gt t.ops i).delEnd.length) c7, .int .i64 ((gt t.ops i).dur)], Box px [.slice a22 ((l3 ++ ([t.facts] : List Int)).length) c16, .slice al5 l4.length cl5, .slice al6 l5.length cl6, .int .i64 0], OwnSl 73 4 al2 l.length cl2 csl, OwnSl 3 1 a22 ((l3 ++ ([t.facts] : List Int)).length) c16 (flL (l3 ++ ([t.facts] : List Int))), OwnSl 3 1 al5 l4.length cl5 (flL l4), OwnSl 3 1 al6 l5.length cl6 (flL l5)]) rfl ?_
      refine .nil ?_
      refine .sel0 [1, 2, 3, 5, 6, 7, 8, 9] (by decide) rfl ?_
      exact .use q22722 ((l3 ++ ([t.facts] : List Int)), a22, c16) hF (.cons rfl (.cons rfl (.cons rfl (.cons rfl (.cons rfl (.nil)))))) rfl (FH.le_refl _)
    replace hF := hF.2 q22733
    refine .skip ?_
    refine .sel0 [0, 1, 2, 4, 5, 6, 7, 8] (by decide) rfl ?_
    exact .use q22722 (l3, al4, cl4) hF (.cons rfl (.cons rfl (.cons rfl (.cons rfl (.cons rfl (.nil)))))) rfl (FH.le_refl _)
  replace hF := hF.2 q18953
  refine .exit ?_
  refine .seqX ?_
  refine .seqX ?_
  refine .blkX ?_
  refine .seqN ?_
  refine .seq ?_
  refine .region ?_
  refine .v (ldA (cs := [.int .i64 (IntKind.i64.wrap (t.facts + 1)), .slice at_ t.init.length ct, .slice at_2 t.goal.length ct2, .slice al2 l.length cl2]) rfl tA50 rfl (cellsB (off := 0) (k := 2) rfl (m := 4) rfl)) rfl rfl rfl ?_
  refine st (p := pv) (off := 0) (k := 1) (vs := [.int .i64 (IntKind.i64.wrap (t.facts + 1)), .slice at_ t.init.length ct, .slice at_2 t.goal.length ct2, .slice al2 l.length cl2]) rfl rfl rfl (fun w => (tA50 w).2) rfl rfl rfl rfl ?_
  refine .cast (A' := [Box pt [.int .i64 t.facts, .slice at_ t.init.length ct, .slice at_2 t.goal.length ct2, .slice at_3 t.ops.length ct3], Box pv [.int .i64 (IntKind.i64.wrap (t.facts + 1)), .slice at_ t.init.length ct, .slice at_2 t.goal.length ct2, .slice al2 l.length cl2], Box pout [.int .i64 (IntKind.i64.wrap (t.facts + 1)), .slice at_ t.init.length ct, .slice at_2 t.goal.length ct2, .slice al2 l.length cl2], OwnSl 73 4 al2 l.length cl2 csl]) rfl ?_
  refine .nil ?_
  refine .seqN ?_
  refine .freezeL (k := 3) rfl (fun h2223 le2223 q22738 q22737 => ?_)
  refine .cast (A' := [Box pt [.int .i64 t.facts, .slice at_ t.init.length ct, .slice at_2 t.goal.length ct2, .slice at_3 t.ops.length ct3], Box pv [.int .i64 (IntKind.i64.wrap (t.facts + 1)), .slice at_ t.init.length ct, .slice at_2 t.goal.length ct2, .slice al2 l.length cl2], Box pout [.int .i64 (IntKind.i64.wrap (t.facts + 1)), .slice at_ t.init.length ct, .slice at_2 t.goal.length ct2, .slice al2 l.length cl2], tru]) rfl ?_
  refine .ret ?_
  refine .res1 rfl (rvC rfl tA50 (k := 1) rfl rfl) (fun w' S => ⟨(⟨IntKind.i64.wrap (t.facts + 1), t.init, t.goal, l⟩ : Task), (at_, ct, at_2, ct2, al2, cl2), h2223, hF, rfl, (FH.le_trans (q15162) (le2223)), ⟨(_q1.mono (FH.le_trans (q15162) (le2223))), _q2, (_q3.mono (FH.le_trans (q15162) (le2223))), _q4, (show RSl h2223 al2 l from ⟨_, q15161.mono (le2223), q22737⟩), (q22738)⟩, S.none⟩)

theorem c_sequenced {h : FH} {w : World} (hs : Sub h w) (t : TTask) (at_ : Option Addr) (ct : Nat) (_q1 : RSl h at_ t.init) (_q2 : t.init.length ≤ ct) (at_2 : Option Addr) (ct2 : Nat) (_q3 : RSl h at_2 t.goal) (_q4 : t.goal.length ≤ ct2) (at_3 : Option Addr) (ct3 : Nat) (_q5 : RSl h at_3 t.ops) (_q6 : t.ops.length ≤ ct3) (hp : pre_sequenced t) : Calls Try.prog 21 #[.agg #[.int .i64 t.facts, .slice at_ t.init.length ct, .slice at_2 t.goal.length ct2, .slice at_3 t.ops.length ct3]] w fun e w' => ∃ (z : Option Addr × Nat × Option Addr × Nat × Option Addr × Nat) (h1 : FH), e = .returned (.agg #[.int .i64 (sp_sequenced t).facts, .slice z.1 (sp_sequenced t).init.length z.2.1, .slice z.2.2.1 (sp_sequenced t).goal.length z.2.2.2.1, .slice z.2.2.2.2.1 (sp_sequenced t).ops.length z.2.2.2.2.2]) ∧ FH.le h h1 ∧ (RSl h1 z.1 (sp_sequenced t).init ∧ (sp_sequenced t).init.length ≤ z.2.1 ∧ RSl h1 z.2.2.1 (sp_sequenced t).goal ∧ (sp_sequenced t).goal.length ≤ z.2.2.2.1 ∧ RSl h1 z.2.2.2.2.1 (sp_sequenced t).ops ∧ (sp_sequenced t).ops.length ≤ z.2.2.2.2.2) ∧ SH (Kp.all w h) h1 w' [] :=
  (w_sequenced hs t at_ ct _q1 _q2 at_2 ct2 _q3 _q4 at_3 ct3 _q5 _q6 (fun r => r = sp_sequenced t) (ok_sequenced t hp)).mono fun _ _ ⟨r, z, h1, hk, he, hl, hf, hS⟩ => by subst hk; exact ⟨z, h1, he, hl, hf, hS⟩

end Go.Proofs.Ytaenggfmpagjgaa.Pl
