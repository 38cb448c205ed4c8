/- The walks: from what each function asks to what it does; printed from the code. No condition. -/
import Derived.Test.YtaenggfmpagjgaaW4
namespace Go.Proofs.Ytaenggfmpagjgaa.Pl
open Go Go.RowKit
set_option maxHeartbeats 8000000 in
theorem w_line {h : FH} {w : World} (hs : Sub h w) (t : TTask) (at_ : Option Addr) (ct : Nat) (_q1 : RSl h at_ t.init) (_q2 : t.init.length ≤ ct) (at_2 : Option Addr) (ct2 : Nat) (_q3 : RSl h at_2 t.goal) (_q4 : t.goal.length ≤ ct2) (at_3 : Option Addr) (ct3 : Nat) (_q5 : RSl h at_3 t.ops) (_q6 : t.ops.length ≤ ct3) (plan : List Int) (aplan : Option Addr) (cplan : Nat) (_q7 : RSl h aplan plan) (_q8 : plan.length ≤ cplan) (K : (List Occ × Fault) → Prop) (hF : F_line t plan K) : Calls Try.prog 15 #[.agg #[.int .i64 t.facts, .slice at_ t.init.length ct, .slice at_2 t.goal.length ct2, .slice at_3 t.ops.length ct3], .slice aplan plan.length cplan] w fun e w' => ∃ (r : List Occ × Fault) (z : Option Addr × Nat) (h1 : FH), K r ∧ e = .returned (.tuple #[.slice z.1 r.1.length z.2, .agg #[.int .i64 r.2.code, .int .i64 r.2.index]]) ∧ FH.le h h1 ∧ (RSl h1 z.1 r.1 ∧ r.1.length ≤ z.2) ∧ SH (Kp.all w h) h1 w' [] := by
  refine enter (args := [.agg #[.int .i64 t.facts, .slice at_ t.init.length ct, .slice at_2 t.goal.length ct2, .slice at_3 t.ops.length ct3], .slice aplan plan.length cplan]) Try.func15 rfl Try.ntmps15 rfl hs ?_
  refine .seq ?_
  refine .region ?_
  refine bx (vs := [.int .i64 t.facts, .slice at_ t.init.length ct, .slice at_2 t.goal.length ct2, .slice at_3 t.ops.length ct3]) rfl rfl rfl (fun pt => ?_)
  refine .v (asg rfl) rfl rfl rfl ?_
  refine al tZ28 rfl (fun pv => ?_)
  refine .nil ?_
  refine .seqN ?_
  refine .seq ?_
  refine .seq ?_
  refine .region ?_
  refine .v (ldA (cs := [.int .i64 t.facts, .slice at_ t.init.length ct, .slice at_2 t.goal.length ct2, .slice at_3 t.ops.length ct3]) rfl tA25 rfl (cellsB (off := 0) (k := 1) rfl (m := 4) rfl)) rfl rfl rfl ?_
  obtain ⟨r2, q9⟩ : ∃ y_ : Fault, y_ = sp_tvalidate t := ⟨_, rfl⟩
  replace hF := hF r2 q9
  refine .c (cl (v := .agg #[.int .i64 r2.code, .int .i64 r2.index]) Try.call11 rfl rfl (fun w S => (by rw [q9]; exact c_tvalidate S.sub t at_ ct _q1 _q2 at_2 ct2 _q3 _q4 at_3 ct3 _q5 _q6 ))) rfl rfl rfl ?_
  refine al tZ28 rfl (fun pf => ?_)
  refine st (p := pf) (off := 0) (k := 0) (vs := [.int .i64 r2.code, .int .i64 r2.index]) rfl rfl rfl (fun w => (tA28 w).2) rfl rfl rfl rfl ?_
  refine .cast (A' := [Box pf [.int .i64 r2.code, .int .i64 r2.index], Box pv [.int .i64 0, .int .i64 0], Box pt [.int .i64 t.facts, .slice at_ t.init.length ct, .slice at_2 t.goal.length ct2, .slice at_3 t.ops.length ct3]]) rfl ?_
  refine .nil ?_
  refine .seqN ?_
  refine .seq ?_
  refine .region ?_
  refine .v (ldA (cs := [.int .i64 r2.code, .int .i64 r2.index]) rfl tA28 rfl (cellsB (off := 0) (k := 0) rfl (m := 2) rfl)) rfl rfl rfl ?_
  refine .v (bld (cs := #[.int .i64 0, .int .i64 0]) (pv := []) tB28 rfl rfl) rfl rfl rfl ?_
  refine .v (ne2 tE28 rfl rfl) rfl rfl rfl ?_
  refine .nil ?_
  refine .seqN ?_
  refine .cond rfl (fun q11 => ?_) (fun q11 => ?_)
  · replace hF := hF.1 q11
    refine .seq ?_
    refine .openL (by kernel_rfl) rfl (by kernel_rfl) (by kernel_rfl) ?_
    refine .v (ldA (cs := [.int .i64 r2.code, .int .i64 r2.index]) rfl tA28 rfl (cellsB (off := 0) (k := 0) rfl (m := 2) rfl)) rfl rfl rfl ?_
    refine .v (asg rfl) rfl rfl rfl ?_
    refine .tail ?_
    refine st (p := pv) (off := 0) (k := 1) (vs := [.int .i64 r2.code, .int .i64 r2.index]) rfl rfl rfl (fun w => (tA28 w).2) rfl rfl rfl rfl ?_
    refine .cast (A' := [Box pf [.int .i64 r2.code, .int .i64 r2.index], Box pv [.int .i64 r2.code, .int .i64 r2.index], Box pt [.int .i64 t.facts, .slice at_ t.init.length ct, .slice at_2 t.goal.length ct2, .slice at_3 t.ops.length ct3]]) rfl ?_
    refine .nil ?_
    refine .seqN ?_
    refine .ret ?_
    refine .seqR ?_
    refine .res2 rfl (rvT rfl) (rvC rfl tA28 (k := 1) rfl rfl) (fun w' S => ⟨(([] : List Occ), r2), (none, 0), h, hF, rfl, (FH.le_refl _), ⟨RSl.nil_, (Nat.le_refl 0)⟩, S.none⟩)
  replace hF := hF.2 q11
  refine .skip ?_
  refine .seqN ?_
  refine .seq ?_
  refine .seq ?_
  refine .region ?_
  refine .v (mv rfl) rfl rfl rfl ?_
  refine .v (ln rfl tS22.is) rfl rfl rfl ?_
  refine .v (bi rfl rfl rfl) rfl rfl rfl ?_
  refine .nil ?_
  refine .seqN ?_
  refine .cond rfl (fun q13 => ?_) (fun q13 => ?_)
  · replace hF := hF.1 q13
    refine .seq ?_
    refine .region ?_
    refine .v (bld (cs := #[.int .i64 2, .int .i64 (-5)]) (pv := [(0, .int .i64 2), (1, .int .i64 (-5))]) tB28 rfl rfl) rfl rfl rfl ?_
    refine .v (asg rfl) rfl rfl rfl ?_
    refine st (p := pv) (off := 0) (k := 1) (vs := [.int .i64 2, .int .i64 (-5)]) rfl rfl rfl (fun w => (tA28 w).2) rfl rfl rfl rfl ?_
    refine .cast (A' := [Box pf [.int .i64 r2.code, .int .i64 r2.index], Box pv [.int .i64 2, .int .i64 (-5)], Box pt [.int .i64 t.facts, .slice at_ t.init.length ct, .slice at_2 t.goal.length ct2, .slice at_3 t.ops.length ct3]]) rfl ?_
    refine .nil ?_
    refine .seqN ?_
    refine .ret ?_
    refine .seqR ?_
    refine .res2 rfl (rvT rfl) (rvC rfl tA28 (k := 1) rfl rfl) (fun w' S => ⟨(([] : List Occ), (⟨2, (-5)⟩ : Fault)), (none, 0), h, hF, rfl, (FH.le_refl _), ⟨RSl.nil_, (Nat.le_refl 0)⟩, S.none⟩)
  replace hF := hF.2 q13
  refine .skip ?_
  refine .seqN ?_
  refine .seq ?_
  refine .region ?_
  refine .v (asg rfl) rfl rfl rfl ?_
  refine .nil ?_
  refine .seqN ?_
  refine .seq ?_
  refine .region ?_
  refine .v (asg rfl) rfl rfl rfl ?_
  refine .nil ?_
  refine .seqN ?_
  refine .seq ?_
  refine .seq ?_
  refine .region ?_
  refine .v (mv rfl) rfl rfl rfl ?_
  refine .v (ln rfl tS22.is) rfl rfl rfl ?_
  refine .v (mv rfl) rfl rfl rfl ?_
  refine .nil ?_
  refine .seqN ?_
  refine .block ?_
  refine .nilSl 38 2 ?_
  refine .cast (A' := [OwnSl 38 2 none (([] : List Occ).length) 0 (flL ([] : List Occ)), Box pf [.int .i64 r2.code, .int .i64 r2.index], Box pv [.int .i64 0, .int .i64 0], Box pt [.int .i64 t.facts, .slice at_ t.init.length ct, .slice at_2 t.goal.length ct2, .slice at_3 t.ops.length ct3]]) rfl ?_
  refine .sel0 [3, 2, 0] (by decide) rfl ?_
  obtain ⟨I1, μ1, q406, q407⟩ := hF
  refine .loop' (σ := Int × Int × List Occ × Option Addr × Nat) (fun z => I1 z.1 z.2.1 z.2.2.1) (fun z => μ1 z.1 z.2.1 z.2.2.1) (fun z => [(2, .pointer (some pt)), (5, .pointer (some pv)), (7, .slice z.2.2.2.1 z.2.2.1.length z.2.2.2.2), (8, .int .i64 z.1), (21, .slice aplan plan.length cplan), (22, .int .i64 ((plan.length : Nat) : Int)), (23, .int .i64 z.2.1)]) (fun z => [Box pt [.int .i64 t.facts, .slice at_ t.init.length ct, .slice at_2 t.goal.length ct2, .slice at_3 t.ops.length ct3], Box pv [.int .i64 0, .int .i64 0], OwnSl 38 2 z.2.2.2.1 z.2.2.1.length z.2.2.2.2 (flL z.2.2.1)]) (fun _ => h) (0, 0, ([] : List Occ), none, 0) q406 (.cons rfl (.cons rfl (.cons rfl (.cons rfl (.cons rfl (.cons rfl (.cons rfl (.nil)))))))) rfl (FH.le_refl _) ?_
  rintro ⟨at_4, t23, out, aout, cout⟩ q406
  have hF := q407 at_4 t23 out q406
  show J _ _ _ _ _ [(2, .pointer (some pt)), (5, .pointer (some pv)), (7, .slice aout out.length cout), (8, .int .i64 at_4), (21, .slice aplan plan.length cplan), (22, .int .i64 ((plan.length : Nat) : Int)), (23, .int .i64 t23)] [Box pt [.int .i64 t.facts, .slice at_ t.init.length ct, .slice at_2 t.goal.length ct2, .slice at_3 t.ops.length ct3], Box pv [.int .i64 0, .int .i64 0], OwnSl 38 2 aout out.length cout (flL out)] h
  refine .seq ?_
  refine .region ?_
  refine .v (bi rfl rfl rfl) rfl rfl rfl ?_
  refine .nil ?_
  refine .seqN ?_
  refine .seq ?_
  refine .cond rfl (fun q410 => ?_) (fun q410 => ?_)
  · replace hF := hF.1 q410
    refine .skip ?_
    refine .seqN ?_
    refine .seq ?_
    refine .block ?_
    refine .seq ?_
    refine .region ?_
    refine .v (mv rfl) rfl rfl rfl ?_
    obtain ⟨q461, hF⟩ := hF
    refine .v (ix rfl rfl tS22 (_q7.ne (by decide) (inb_pos q461)) q461) rfl rfl rfl ?_
    refine .v (ld1 (v := .int .i64 (gt plan t23)) rfl tO3 (cellH (_q7.elemF q461 (by decide) 0 _ rfl))) rfl rfl rfl ?_
    refine .v (asg rfl) rfl rfl rfl ?_
    refine .v (asg rfl) rfl rfl rfl ?_
    refine .nil ?_
    refine .seqN ?_
    refine .seq ?_
    refine .share (σ := Bool) (fun z => F_line_J1 t plan K z at_4 t23 out I1 μ1) (fun z => [(2, .pointer (some pt)), (5, .pointer (some pv)), (7, .slice aout out.length cout), (8, .int .i64 at_4), (9, .int .i64 t23), (10, .int .i64 (gt plan t23)), (21, .slice aplan plan.length cplan), (22, .int .i64 ((plan.length : Nat) : Int)), (23, .int .i64 t23), (36, .bool z)]) (fun _ => [Box pt [.int .i64 t.facts, .slice at_ t.init.length ct, .slice at_2 t.goal.length ct2, .slice at_3 t.ops.length ct3], Box pv [.int .i64 0, .int .i64 0], OwnSl 38 2 aout out.length cout (flL out)]) (fun _ => h) ?_ (fun q463 => ?_)
    · rintro t36 hF
      show J _ _ _ _ _ [(2, .pointer (some pt)), (5, .pointer (some pv)), (7, .slice aout out.length cout), (8, .int .i64 at_4), (9, .int .i64 t23), (10, .int .i64 (gt plan t23)), (21, .slice aplan plan.length cplan), (22, .int .i64 ((plan.length : Nat) : Int)), (23, .int .i64 t23), (36, .bool t36)] [Box pt [.int .i64 t.facts, .slice at_ t.init.length ct, .slice at_2 t.goal.length ct2, .slice at_3 t.ops.length ct3], Box pv [.int .i64 0, .int .i64 0], OwnSl 38 2 aout out.length cout (flL out)] h
      refine .cond rfl (fun q465 => ?_) (fun q465 => ?_)
      · replace hF := hF.1 q465
        refine .seq ?_
        refine .region ?_
        refine .v (mv rfl) rfl rfl rfl ?_
        refine .v (bi rfl rfl rfl) rfl rfl rfl ?_
        refine .v (bld (cs := #[.int .i64 3, .int .i64 (IntKind.i64.wrap ((-6) - t23))]) (pv := [(0, .int .i64 3), (1, .int .i64 (IntKind.i64.wrap ((-6) - t23)))]) tB28 rfl rfl) rfl rfl rfl ?_
        refine .v (asg rfl) rfl rfl rfl ?_
        refine st (p := pv) (off := 0) (k := 1) (vs := [.int .i64 3, .int .i64 (IntKind.i64.wrap ((-6) - t23))]) rfl rfl rfl (fun w => (tA28 w).2) rfl rfl rfl rfl ?_
        refine .cast (A' := [Box pt [.int .i64 t.facts, .slice at_ t.init.length ct, .slice at_2 t.goal.length ct2, .slice at_3 t.ops.length ct3], Box pv [.int .i64 3, .int .i64 (IntKind.i64.wrap ((-6) - t23))], OwnSl 38 2 aout out.length cout (flL out)]) rfl ?_
        refine .nil ?_
        refine .seqN ?_
        refine .ret ?_
        refine .seqR ?_
        refine .blkR ?_
        refine .seqR ?_
        refine .seqR ?_
        refine .blkR ?_
        refine .seqR ?_
        refine .res2 rfl (rvT rfl) (rvC rfl tA28 (k := 1) rfl rfl) (fun w' S => ⟨(([] : List Occ), (⟨3, IntKind.i64.wrap ((-6) - t23)⟩ : Fault)), (none, 0), h, hF, rfl, (FH.le_refl _), ⟨RSl.nil_, (Nat.le_refl 0)⟩, S.none⟩)
      replace hF := hF.2 q465
      refine .skip ?_
      refine .seqN ?_
      refine .seq ?_
      refine .region ?_
      refine .v (mv rfl) rfl rfl rfl ?_
      refine .v (mv rfl) rfl rfl rfl ?_
      refine .v (mv rfl) rfl rfl rfl ?_
      refine .v (bld (cs := #[.int .i64 (gt plan t23), .int .i64 at_4]) (pv := [(0, .int .i64 (gt plan t23)), (1, .int .i64 at_4)]) tB38 rfl rfl) rfl rfl rfl ?_
      refine bs2 (cs := #[.int .i64 (gt plan t23), .int .i64 at_4]) (pv := [(0, .agg #[.int .i64 (gt plan t23), .int .i64 at_4])]) tS26 rfl rfl (by decide) (by decide) rfl rfl rfl (fun a _ => ?_)
      refine .cast (A' := [OwnSl 38 2 a (([(⟨(gt plan t23), at_4⟩ : Occ)] : List Occ).length) 1 (flL ([(⟨(gt plan t23), at_4⟩ : Occ)] : List Occ)), Box pt [.int .i64 t.facts, .slice at_ t.init.length ct, .slice at_2 t.goal.length ct2, .slice at_3 t.ops.length ct3], Box pv [.int .i64 0, .int .i64 0], OwnSl 38 2 aout out.length cout (flL out)]) rfl ?_
      obtain ⟨q467, hF⟩ := hF
      have q468 : out.length + ([(⟨(gt plan t23), at_4⟩ : Occ)] : List Occ).length = ((out ++ ([(⟨(gt plan t23), at_4⟩ : Occ)] : List Occ))).length := len_app rfl rfl
      refine app (k := 3) (news := flL ([(⟨(gt plan t23), at_4⟩ : Occ)] : List Occ)) (cs' := flL (out ++ ([(⟨(gt plan t23), at_4⟩ : Occ)] : List Occ))) (nm := ((out ++ ([(⟨(gt plan t23), at_4⟩ : Occ)] : List Occ))).length) tS26 rfl (by decide) rfl rfl rfl (by rw [flL_len]; rfl) (srcS (k := 0) rfl) (flL_one _) (room_of q468 q467).1 (room_of q468 q467).2 q468 (flL_append _ _).symm rfl (fun a2 c => ?_)
      refine .cast (A' := [OwnSl 38 2 a (([(⟨(gt plan t23), at_4⟩ : Occ)] : List Occ).length) 1 (flL ([(⟨(gt plan t23), at_4⟩ : Occ)] : List Occ)), Box pt [.int .i64 t.facts, .slice at_ t.init.length ct, .slice at_2 t.goal.length ct2, .slice at_3 t.ops.length ct3], Box pv [.int .i64 0, .int .i64 0], OwnSl 38 2 a2 ((out ++ ([(⟨(gt plan t23), at_4⟩ : Occ)] : List Occ)).length) c (flL (out ++ ([(⟨(gt plan t23), at_4⟩ : Occ)] : List Occ)))]) rfl ?_
      refine .v (asg rfl) rfl rfl rfl ?_
      refine .nil ?_
      refine .seqN ?_
      refine .region ?_
      refine .v (mv rfl) rfl rfl rfl ?_
      refine .v (fa rfl tF25_3) rfl rfl rfl ?_
      refine .v (ld1 rfl tO23 (cellB (off := 3) (k := 1) rfl rfl)) rfl rfl rfl ?_
      refine .v (mv rfl) rfl rfl rfl ?_
      obtain ⟨q469, hF⟩ := hF
      refine .v (ix rfl rfl tS23 (_q5.ne (by decide) (inb_pos q469)) q469) rfl rfl rfl ?_
      refine .v (fa rfl tF41_7) rfl rfl rfl ?_
      obtain ⟨_, ⟨a3, c2, a4, c3, a5, c4, a6, c5, a7, c6, a8, c7, a9, c8, rfl, ⟨q470, q471⟩, ⟨q472, q473⟩, ⟨q474, q475⟩, ⟨q476, q477⟩, ⟨q478, q479⟩, ⟨q480, q481⟩, q482, q483⟩, q484⟩ := _q5.elem q469
      refine .v (ld1 (v := .int .i64 ((gt t.ops (gt plan t23)).dur)) rfl tO3 (cellH (q484 (by decide) 7 _ rfl))) rfl rfl rfl ?_
      refine .v (bi rfl rfl rfl) rfl rfl rfl ?_
      refine .v (asg rfl) rfl rfl rfl ?_
      refine .nil ?_
      refine .blkN ?_
      refine .seqN ?_
      refine .region ?_
      refine .v (bi rfl rfl rfl) rfl rfl rfl ?_
      refine .v (mv rfl) rfl rfl rfl ?_
      refine .nil ?_
      refine .sel0 [1, 2, 3] (by decide) rfl ?_
      exact .round (IntKind.i64.wrap (at_4 + ((gt t.ops (gt plan t23)).dur)), IntKind.i64.wrap (t23 + 1), (out ++ ([(⟨(gt plan t23), at_4⟩ : Occ)] : List Occ)), a2, c) hF.1 hF.2 (.cons rfl (.cons rfl (.cons rfl (.cons rfl (.cons rfl (.cons rfl (.cons rfl (.nil)))))))) rfl (FH.le_refl _)
    refine .region ?_
    refine .v (mv rfl) rfl rfl rfl ?_
    refine .v (bi rfl rfl rfl) rfl rfl rfl ?_
    refine .v (mv rfl) rfl rfl rfl ?_
    rcases Bool.eq_false_or_eq_true (decide ((gt plan t23) < 0)) with q485 | q485
    · replace hF := hF.1 q485
      refine .gS rfl rfl rfl q485 rfl rfl ?_
      refine .gS rfl rfl rfl q485 rfl rfl ?_
      refine .gS rfl rfl rfl q485 rfl rfl ?_
      refine .gS rfl rfl rfl q485 rfl rfl ?_
      refine .gS rfl rfl rfl q485 rfl rfl ?_
      refine .v (pkT rfl q485 rfl) rfl rfl rfl ?_
      refine .nil ?_
      exact .use q463 true hF (.cons rfl (.cons rfl (.cons rfl (.cons rfl (.cons rfl (.cons rfl (.cons rfl (.cons rfl (.cons rfl (.cons rfl (.nil))))))))))) rfl (FH.le_refl _)
    replace hF := hF.2 q485
    refine .gv (mv rfl) rfl rfl rfl q485 rfl rfl ?_
    refine .gv (fa rfl tF25_3) rfl rfl rfl q485 rfl rfl ?_
    refine .gv (ld1 rfl tO23 (cellB (off := 3) (k := 0) rfl rfl)) rfl rfl rfl q485 rfl rfl ?_
    refine .gv (ln rfl tS23.is) rfl rfl rfl q485 rfl rfl ?_
    refine .gv (bi rfl rfl rfl) rfl rfl rfl q485 rfl rfl ?_
    refine .v (pkF rfl q485 rfl) rfl rfl rfl ?_
    refine .nil ?_
    exact .use q463 (decide (((t.ops.length : Nat) : Int) ≤ (gt plan t23))) hF (.cons rfl (.cons rfl (.cons rfl (.cons rfl (.cons rfl (.cons rfl (.cons rfl (.cons rfl (.cons rfl (.cons rfl (.nil))))))))))) rfl (FH.le_refl _)
  replace hF := hF.2 q410
  refine .exit ?_
  refine .seqX ?_
  refine .seqX ?_
  refine .blkX ?_
  refine .seqN ?_
  refine .seq ?_
  refine .region ?_
  refine .v (mv rfl) rfl rfl rfl ?_
  refine .v (bld (cs := #[.int .i64 0, .int .i64 0]) (pv := []) tB28 rfl rfl) rfl rfl rfl ?_
  refine .v (asg rfl) rfl rfl rfl ?_
  refine st (p := pv) (off := 0) (k := 1) (vs := [.int .i64 0, .int .i64 0]) rfl rfl rfl (fun w => (tA28 w).2) rfl rfl rfl rfl ?_
  refine .cast (A' := [Box pt [.int .i64 t.facts, .slice at_ t.init.length ct, .slice at_2 t.goal.length ct2, .slice at_3 t.ops.length ct3], Box pv [.int .i64 0, .int .i64 0], OwnSl 38 2 aout out.length cout (flL out)]) rfl ?_
  refine .nil ?_
  refine .seqN ?_
  refine .freezeL (k := 2) rfl (fun h1 le1 q487 q486 => ?_)
  refine .cast (A' := [Box pt [.int .i64 t.facts, .slice at_ t.init.length ct, .slice at_2 t.goal.length ct2, .slice at_3 t.ops.length ct3], Box pv [.int .i64 0, .int .i64 0], tru]) rfl ?_
  refine .ret ?_
  refine .res2 rfl (rvT rfl) (rvC rfl tA28 (k := 1) rfl rfl) (fun w' S => ⟨(out, (⟨0, 0⟩ : Fault)), (aout, cout), h1, hF, rfl, (le1), ⟨(RSl.of q486), (q487)⟩, S.none⟩)

theorem c_line {h : FH} {w : World} (hs : Sub h w) (t : TTask) (at_ : Option Addr) (ct : Nat) (_q1 : RSl h at_ t.init) (_q2 : t.init.length ≤ ct) (at_2 : Option Addr) (ct2 : Nat) (_q3 : RSl h at_2 t.goal) (_q4 : t.goal.length ≤ ct2) (at_3 : Option Addr) (ct3 : Nat) (_q5 : RSl h at_3 t.ops) (_q6 : t.ops.length ≤ ct3) (plan : List Int) (aplan : Option Addr) (cplan : Nat) (_q7 : RSl h aplan plan) (_q8 : plan.length ≤ cplan) : Calls Try.prog 15 #[.agg #[.int .i64 t.facts, .slice at_ t.init.length ct, .slice at_2 t.goal.length ct2, .slice at_3 t.ops.length ct3], .slice aplan plan.length cplan] w fun e w' => ∃ (z : Option Addr × Nat) (h1 : FH), e = .returned (.tuple #[.slice z.1 (sp_line t plan).1.length z.2, .agg #[.int .i64 (sp_line t plan).2.code, .int .i64 (sp_line t plan).2.index]]) ∧ FH.le h h1 ∧ (RSl h1 z.1 (sp_line t plan).1 ∧ (sp_line t plan).1.length ≤ z.2) ∧ SH (Kp.all w h) h1 w' [] :=
  (w_line hs t at_ ct _q1 _q2 at_2 ct2 _q3 _q4 at_3 ct3 _q5 _q6 plan aplan cplan _q7 _q8 (fun r => r = sp_line t plan) (ok_line t plan)).mono fun _ _ ⟨r, z, h1, hk, he, hl, hf, hS⟩ => by subst hk; exact ⟨z, h1, he, hl, hf, hS⟩

theorem w_occurs {h : FH} {w : World} (hs : Sub h w) (a : List Occ) (aa : Option Addr) (ca : Nat) (_q1 : RSl h aa a) (_q2 : a.length ≤ ca) (b : List Occ) (ab : Option Addr) (cb : Nat) (_q3 : RSl h ab b) (_q4 : b.length ≤ cb) (K : Bool → Prop) (hF : F_occurs a b K) : Calls Try.prog 18 #[.slice aa a.length ca, .slice ab b.length cb] w fun e w' => ∃ r : Bool, K r ∧ e = .returned (.bool r) ∧ Below w.heap.size w w' := by
  refine enter (args := [.slice aa a.length ca, .slice ab b.length cb]) Try.func18 rfl Try.ntmps18 rfl hs ?_
  refine .seq ?_
  refine .region ?_
  refine .v (asg rfl) rfl rfl rfl ?_
  refine .nil ?_
  refine .seqN ?_
  refine .seq ?_
  refine .seq ?_
  refine .region ?_
  refine .v (mv rfl) rfl rfl rfl ?_
  refine .v (ln rfl tS26.is) rfl rfl rfl ?_
  refine .v (mv rfl) rfl rfl rfl ?_
  refine .v (ln rfl tS26.is) rfl rfl rfl ?_
  refine .v (bi rfl rfl rfl) rfl rfl rfl ?_
  refine .nil ?_
  refine .seqN ?_
  refine .cond rfl (fun q6 => ?_) (fun q6 => ?_)
  · replace hF := hF.1 q6
    refine .seq ?_
    refine .region ?_
    refine .v (asg rfl) rfl rfl rfl ?_
    refine .nil ?_
    refine .seqN ?_
    refine .ret ?_
    refine .seqR ?_
    refine .res1 rfl (rvT rfl) (fun w' S => ⟨false, hF, rfl, S.below⟩)
  replace hF := hF.2 q6
  refine .skip ?_
  refine .seqN ?_
  refine .seq ?_
  refine .seq ?_
  refine .region ?_
  refine .v (asg rfl) rfl rfl rfl ?_
  refine .nil ?_
  refine .seqN ?_
  refine .block ?_
  obtain ⟨I1, μ1, q79, q80⟩ := hF
  refine .loop' (σ := Int) (fun z => I1 z) (fun z => μ1 z) (fun z => [(0, .slice aa a.length ca), (1, .slice ab b.length cb), (5, .int .i64 z)]) (fun _ => []) (fun _ => h) 0 q79 (.cons rfl (.cons rfl (.cons rfl (.nil)))) rfl (FH.le_refl _) ?_
  rintro i q79
  have hF := q80 i q79
  show J _ _ _ _ _ [(0, .slice aa a.length ca), (1, .slice ab b.length cb), (5, .int .i64 i)] [] h
  refine .seq ?_
  refine .seq ?_
  refine .region ?_
  refine .v (mv rfl) rfl rfl rfl ?_
  refine .v (mv rfl) rfl rfl rfl ?_
  refine .v (ln rfl tS26.is) rfl rfl rfl ?_
  refine .v (bi rfl rfl rfl) rfl rfl rfl ?_
  refine .nil ?_
  refine .seqN ?_
  refine .cond rfl (fun q82 => ?_) (fun q82 => ?_)
  · replace hF := hF.1 q82
    refine .skip ?_
    refine .seqN ?_
    refine .seq ?_
    refine .block ?_
    refine .seq ?_
    refine .open_ (by kernel_rfl) (by kernel_rfl) ?_
    refine .v (mv rfl) rfl rfl rfl ?_
    refine .v (mv rfl) rfl rfl rfl ?_
    obtain ⟨q91, hF⟩ := hF
    refine .v (ix rfl rfl tS26 (_q1.ne (by decide) (inb_pos q91)) q91) rfl rfl rfl ?_
    refine .v (ldA (cs := [.int .i64 ((gt a i).op), .int .i64 ((gt a i).start)]) rfl tA38 rfl (cellsH (_q1.elemF q91 (by decide)))) rfl rfl rfl ?_
    refine .v (mv rfl) rfl rfl rfl ?_
    refine .v (mv rfl) rfl rfl rfl ?_
    obtain ⟨q92, hF⟩ := hF
    refine .v (ix rfl rfl tS26 (_q3.ne (by decide) (inb_pos q92)) q92) rfl rfl rfl ?_
    refine .v (ldA (cs := [.int .i64 ((gt b i).op), .int .i64 ((gt b i).start)]) rfl tA38 rfl (cellsH (_q3.elemF q92 (by decide)))) rfl rfl rfl ?_
    obtain ⟨x, q93⟩ : ∃ y_ : Bool, y_ = (!((((gt a i).op) == ((gt b i).op)) && (((gt a i).start) == ((gt b i).start)))) := ⟨_, rfl⟩
    replace hF := hF x q93
    refine .v (v := .bool x) (by rw [q93]; exact ne2 tE38 rfl rfl) rfl rfl rfl ?_
    refine .fin ?_
    refine .seqN ?_
    refine .cond rfl (fun q94 => ?_) (fun q94 => ?_)
    · replace hF := hF.1 q94
      refine .seq ?_
      refine .region ?_
      refine .v (asg rfl) rfl rfl rfl ?_
      refine .nil ?_
      refine .seqN ?_
      refine .ret ?_
      refine .blkR ?_
      refine .seqR ?_
      refine .seqR ?_
      refine .blkR ?_
      refine .seqR ?_
      refine .res1 rfl (rvT rfl) (fun w' S => ⟨false, hF, rfl, S.below⟩)
    replace hF := hF.2 q94
    refine .skip ?_
    refine .blkN ?_
    refine .seqN ?_
    refine .region ?_
    refine .v (mv rfl) rfl rfl rfl ?_
    refine .v (bi rfl rfl rfl) rfl rfl rfl ?_
    refine .v (asg rfl) rfl rfl rfl ?_
    refine .nil ?_
    exact .round (IntKind.i64.wrap (i + 1)) hF.1 hF.2 (.cons rfl (.cons rfl (.cons rfl (.nil)))) rfl (FH.le_refl _)
  replace hF := hF.2 q82
  refine .exit ?_
  refine .seqX ?_
  refine .seqX ?_
  refine .blkX ?_
  refine .seqN ?_
  refine .seq ?_
  refine .region ?_
  refine .v (asg rfl) rfl rfl rfl ?_
  refine .nil ?_
  refine .seqN ?_
  refine .ret ?_
  refine .res1 rfl (rvT rfl) (fun w' S => ⟨true, hF, rfl, S.below⟩)

theorem c_occurs {h : FH} {w : World} (hs : Sub h w) (a : List Occ) (aa : Option Addr) (ca : Nat) (_q1 : RSl h aa a) (_q2 : a.length ≤ ca) (b : List Occ) (ab : Option Addr) (cb : Nat) (_q3 : RSl h ab b) (_q4 : b.length ≤ cb) (hp : pre_occurs a b) : Calls Try.prog 18 #[.slice aa a.length ca, .slice ab b.length cb] w fun e w' => e = .returned (.bool (sp_occurs a b)) ∧ Below w.heap.size w w' :=
  (w_occurs hs a aa ca _q1 _q2 b ab cb _q3 _q4 (fun r => r = sp_occurs a b) (ok_occurs a b hp)).mono fun _ _ ⟨_, hk, he, hb⟩ => ⟨by rw [he, hk], hb⟩

set_option maxHeartbeats 8000000 in
theorem w_planning {h : FH} {w : World} (hs : Sub h w) (a : Task) (aa : Option Addr) (ca : Nat) (_q1 : RSl h aa a.init) (_q2 : a.init.length ≤ ca) (aa2 : Option Addr) (ca2 : Nat) (_q3 : RSl h aa2 a.goal) (_q4 : a.goal.length ≤ ca2) (aa3 : Option Addr) (ca3 : Nat) (_q5 : RSl h aa3 a.ops) (_q6 : a.ops.length ≤ ca3) (b : Task) (ab : Option Addr) (cb : Nat) (_q7 : RSl h ab b.init) (_q8 : b.init.length ≤ cb) (ab2 : Option Addr) (cb2 : Nat) (_q9 : RSl h ab2 b.goal) (_q10 : b.goal.length ≤ cb2) (ab3 : Option Addr) (cb3 : Nat) (_q11 : RSl h ab3 b.ops) (_q12 : b.ops.length ≤ cb3) (K : Bool → Prop) (hF : F_planning a b K) : Calls Try.prog 20 #[.agg #[.int .i64 a.facts, .slice aa a.init.length ca, .slice aa2 a.goal.length ca2, .slice aa3 a.ops.length ca3], .agg #[.int .i64 b.facts, .slice ab b.init.length cb, .slice ab2 b.goal.length cb2, .slice ab3 b.ops.length cb3]] w fun e w' => ∃ r : Bool, K r ∧ e = .returned (.bool r) ∧ Below w.heap.size w w' := by
  refine enter (args := [.agg #[.int .i64 a.facts, .slice aa a.init.length ca, .slice aa2 a.goal.length ca2, .slice aa3 a.ops.length ca3], .agg #[.int .i64 b.facts, .slice ab b.init.length cb, .slice ab2 b.goal.length cb2, .slice ab3 b.ops.length cb3]]) Try.func20 rfl Try.ntmps20 rfl hs ?_
  refine .seq ?_
  refine .region ?_
  refine bx (vs := [.int .i64 a.facts, .slice aa a.init.length ca, .slice aa2 a.goal.length ca2, .slice aa3 a.ops.length ca3]) rfl rfl rfl (fun pa => ?_)
  refine bx (vs := [.int .i64 b.facts, .slice ab b.init.length cb, .slice ab2 b.goal.length cb2, .slice ab3 b.ops.length cb3]) rfl rfl rfl (fun pb => ?_)
  refine .v (asg rfl) rfl rfl rfl ?_
  refine .nil ?_
  refine .seqN ?_
  refine .seq ?_
  refine .share (σ := Bool) (fun z => F_planning_J1 a b K z) (fun z => [(2, .pointer (some pa)), (3, .pointer (some pb)), (37, .bool z)]) (fun _ => [Box pa [.int .i64 a.facts, .slice aa a.init.length ca, .slice aa2 a.goal.length ca2, .slice aa3 a.ops.length ca3], Box pb [.int .i64 b.facts, .slice ab b.init.length cb, .slice ab2 b.goal.length cb2, .slice ab3 b.ops.length cb3]]) (fun _ => h) ?_ (fun q20 => ?_)
  · rintro t37 hF
    show J _ _ _ _ _ [(2, .pointer (some pa)), (3, .pointer (some pb)), (37, .bool t37)] [Box pa [.int .i64 a.facts, .slice aa a.init.length ca, .slice aa2 a.goal.length ca2, .slice aa3 a.ops.length ca3], Box pb [.int .i64 b.facts, .slice ab b.init.length cb, .slice ab2 b.goal.length cb2, .slice ab3 b.ops.length cb3]] h
    refine .cond rfl (fun q22 => ?_) (fun q22 => ?_)
    · replace hF := hF.1 q22
      refine .seq ?_
      refine .region ?_
      refine .v (asg rfl) rfl rfl rfl ?_
      refine .nil ?_
      refine .seqN ?_
      refine .ret ?_
      refine .seqR ?_
      refine .res1 rfl (rvT rfl) (fun w' S => ⟨false, hF, rfl, S.below⟩)
    replace hF := hF.2 q22
    refine .skip ?_
    refine .seqN ?_
    refine .seq ?_
    refine .seq ?_
    refine .region ?_
    refine .v (asg rfl) rfl rfl rfl ?_
    refine .nil ?_
    refine .seqN ?_
    refine .block ?_
    obtain ⟨I1, μ1, q575, q576⟩ := hF
    refine .loop' (σ := Int) (fun z => I1 z) (fun z => μ1 z) (fun z => [(2, .pointer (some pa)), (3, .pointer (some pb)), (5, .int .i64 z)]) (fun _ => [Box pa [.int .i64 a.facts, .slice aa a.init.length ca, .slice aa2 a.goal.length ca2, .slice aa3 a.ops.length ca3], Box pb [.int .i64 b.facts, .slice ab b.init.length cb, .slice ab2 b.goal.length cb2, .slice ab3 b.ops.length cb3]]) (fun _ => h) 0 q575 (.cons rfl (.cons rfl (.cons rfl (.nil)))) rfl (FH.le_refl _) ?_
    rintro i q575
    have hF := q576 i q575
    show J _ _ _ _ _ [(2, .pointer (some pa)), (3, .pointer (some pb)), (5, .int .i64 i)] [Box pa [.int .i64 a.facts, .slice aa a.init.length ca, .slice aa2 a.goal.length ca2, .slice aa3 a.ops.length ca3], Box pb [.int .i64 b.facts, .slice ab b.init.length cb, .slice ab2 b.goal.length cb2, .slice ab3 b.ops.length cb3]] h
    refine .seq ?_
    refine .seq ?_
    refine .region ?_
    refine .v (mv rfl) rfl rfl rfl ?_
    refine .v (fa rfl tF50_3) rfl rfl rfl ?_
    refine .v (ld1 rfl tO48 (cellB (off := 3) (k := 0) rfl rfl)) rfl rfl rfl ?_
    refine .v (ln rfl tS48.is) rfl rfl rfl ?_
    refine .v (bi rfl rfl rfl) rfl rfl rfl ?_
    refine .nil ?_
    refine .seqN ?_
    refine .cond rfl (fun q578 => ?_) (fun q578 => ?_)
    · replace hF := hF.1 q578
      refine .skip ?_
      refine .seqN ?_
      refine .seq ?_
      refine .block ?_
      refine .seq ?_
      refine .region ?_
      refine .v (fa rfl tF50_3) rfl rfl rfl ?_
      refine .v (ld1 rfl tO48 (cellB (off := 3) (k := 0) rfl rfl)) rfl rfl rfl ?_
      refine .v (mv rfl) rfl rfl rfl ?_
      obtain ⟨q651, hF⟩ := hF
      refine .v (ix rfl rfl tS48 (_q5.ne (by decide) (inb_pos q651)) q651) rfl rfl rfl ?_
      obtain ⟨_, ⟨a2, c, a3, c2, a4, c3, rfl, ⟨q652, q653⟩, ⟨q654, q655⟩, q656, q657⟩, q658⟩ := _q5.elem q651
      refine .v (ldA (cs := [.slice a2 ((gt a.ops i).pre.length) c, .slice a3 ((gt a.ops i).add.length) c2, .slice a4 ((gt a.ops i).del.length) c3, .int .i64 ((gt a.ops i).cost)]) rfl tA73 rfl (cellsH (q658 (by decide)))) rfl rfl rfl ?_
      refine al tZ73 rfl (fun px => ?_)
      refine st (p := px) (off := 0) (k := 0) (vs := [.slice a2 ((gt a.ops i).pre.length) c, .slice a3 ((gt a.ops i).add.length) c2, .slice a4 ((gt a.ops i).del.length) c3, .int .i64 ((gt a.ops i).cost)]) rfl rfl rfl (fun w => (tA73 w).2) rfl rfl rfl rfl ?_
      refine .cast (A' := [Box px [.slice a2 ((gt a.ops i).pre.length) c, .slice a3 ((gt a.ops i).add.length) c2, .slice a4 ((gt a.ops i).del.length) c3, .int .i64 ((gt a.ops i).cost)], Box pa [.int .i64 a.facts, .slice aa a.init.length ca, .slice aa2 a.goal.length ca2, .slice aa3 a.ops.length ca3], Box pb [.int .i64 b.facts, .slice ab b.init.length cb, .slice ab2 b.goal.length cb2, .slice ab3 b.ops.length cb3]]) rfl ?_
      refine .nil ?_
      refine .seqN ?_
      refine .seq ?_
      refine .region ?_
      refine .v (fa rfl tF50_3) rfl rfl rfl ?_
      refine .v (ld1 rfl tO48 (cellB (off := 3) (k := 2) rfl rfl)) rfl rfl rfl ?_
      refine .v (mv rfl) rfl rfl rfl ?_
      obtain ⟨q659, hF⟩ := hF
      refine .v (ix rfl rfl tS48 (_q11.ne (by decide) (inb_pos q659)) q659) rfl rfl rfl ?_
      obtain ⟨_, ⟨a5, c4, a6, c5, a7, c6, rfl, ⟨q660, q661⟩, ⟨q662, q663⟩, q664, q665⟩, q666⟩ := _q11.elem q659
      refine .v (ldA (cs := [.slice a5 ((gt b.ops i).pre.length) c4, .slice a6 ((gt b.ops i).add.length) c5, .slice a7 ((gt b.ops i).del.length) c6, .int .i64 ((gt b.ops i).cost)]) rfl tA73 rfl (cellsH (q666 (by decide)))) rfl rfl rfl ?_
      refine al tZ73 rfl (fun py => ?_)
      refine st (p := py) (off := 0) (k := 0) (vs := [.slice a5 ((gt b.ops i).pre.length) c4, .slice a6 ((gt b.ops i).add.length) c5, .slice a7 ((gt b.ops i).del.length) c6, .int .i64 ((gt b.ops i).cost)]) rfl rfl rfl (fun w => (tA73 w).2) rfl rfl rfl rfl ?_
      refine .cast (A' := [Box py [.slice a5 ((gt b.ops i).pre.length) c4, .slice a6 ((gt b.ops i).add.length) c5, .slice a7 ((gt b.ops i).del.length) c6, .int .i64 ((gt b.ops i).cost)], Box px [.slice a2 ((gt a.ops i).pre.length) c, .slice a3 ((gt a.ops i).add.length) c2, .slice a4 ((gt a.ops i).del.length) c3, .int .i64 ((gt a.ops i).cost)], Box pa [.int .i64 a.facts, .slice aa a.init.length ca, .slice aa2 a.goal.length ca2, .slice aa3 a.ops.length ca3], Box pb [.int .i64 b.facts, .slice ab b.init.length cb, .slice ab2 b.goal.length cb2, .slice ab3 b.ops.length cb3]]) rfl ?_
      refine .nil ?_
      refine .seqN ?_
      refine .share (σ := Bool) (fun z => F_planning_J2 K z i I1 μ1) (fun z => [(2, .pointer (some pa)), (3, .pointer (some pb)), (5, .int .i64 i), (83, .bool z)]) (fun _ => [Box pa [.int .i64 a.facts, .slice aa a.init.length ca, .slice aa2 a.goal.length ca2, .slice aa3 a.ops.length ca3], Box pb [.int .i64 b.facts, .slice ab b.init.length cb, .slice ab2 b.goal.length cb2, .slice ab3 b.ops.length cb3]]) (fun _ => h) ?_ (fun q676 => ?_)
      · rintro t83 hF
        show J _ _ _ _ _ [(2, .pointer (some pa)), (3, .pointer (some pb)), (5, .int .i64 i), (83, .bool t83)] [Box pa [.int .i64 a.facts, .slice aa a.init.length ca, .slice aa2 a.goal.length ca2, .slice aa3 a.ops.length ca3], Box pb [.int .i64 b.facts, .slice ab b.init.length cb, .slice ab2 b.goal.length cb2, .slice ab3 b.ops.length cb3]] h
        refine .cond rfl (fun q677 => ?_) (fun q677 => ?_)
        · replace hF := hF.1 q677
          refine .seq ?_
          refine .region ?_
          refine .v (asg rfl) rfl rfl rfl ?_
          refine .nil ?_
          refine .seqN ?_
          refine .ret ?_
          refine .blkR ?_
          refine .seqR ?_
          refine .seqR ?_
          refine .blkR ?_
          refine .seqR ?_
          refine .res1 rfl (rvT rfl) (fun w' S => ⟨false, hF, rfl, S.below⟩)
        replace hF := hF.2 q677
        refine .skip ?_
        refine .blkN ?_
        refine .seqN ?_
        refine .region ?_
        refine .v (mv rfl) rfl rfl rfl ?_
        refine .v (bi rfl rfl rfl) rfl rfl rfl ?_
        refine .v (asg rfl) rfl rfl rfl ?_
        refine .nil ?_
        exact .round (IntKind.i64.wrap (i + 1)) hF.1 hF.2 (.cons rfl (.cons rfl (.cons rfl (.nil)))) rfl (FH.le_refl _)
      refine .region ?_
      refine .v (fa rfl tF73_0) rfl rfl rfl ?_
      refine .v (ld1 rfl tO22 (cellB (off := 0) (k := 1) rfl rfl)) rfl rfl rfl ?_
      refine .v (fa rfl tF73_0) rfl rfl rfl ?_
      refine .v (ld1 rfl tO22 (cellB (off := 0) (k := 0) rfl rfl)) rfl rfl rfl ?_
      obtain ⟨q678, hF⟩ := hF
      obtain ⟨r2, q679⟩ : ∃ y_ : Bool, y_ = sp_numbers ((gt a.ops i).pre) ((gt b.ops i).pre) := ⟨_, rfl⟩
      replace hF := hF r2 q679
      refine .c (cl (v := .bool r2) Try.call39 rfl rfl (fun w S => (by rw [q679]; exact c_numbers S.sub ((gt a.ops i).pre) a2 c q653 q652 ((gt b.ops i).pre) a5 c4 q661 q660 q678))) rfl rfl rfl ?_
      refine .v (nt rfl) rfl rfl rfl ?_
      refine .v (mv rfl) rfl rfl rfl ?_
      rcases Bool.eq_false_or_eq_true (!r2) with q680 | q680
      · replace hF := hF.1 q680
        refine .gS rfl rfl rfl q680 rfl rfl ?_
        refine .gS rfl rfl rfl q680 rfl rfl ?_
        refine .gS rfl rfl rfl q680 rfl rfl ?_
        refine .gS rfl rfl rfl q680 rfl rfl ?_
        refine .gS rfl rfl rfl q680 rfl rfl ?_
        refine .gS rfl rfl rfl q680 rfl rfl ?_
        refine .v (pkT rfl q680 rfl) rfl rfl rfl ?_
        refine .v (mv rfl) rfl rfl rfl ?_
        refine .gS rfl rfl rfl rfl rfl rfl ?_
        refine .gS rfl rfl rfl rfl rfl rfl ?_
        refine .gS rfl rfl rfl rfl rfl rfl ?_
        refine .gS rfl rfl rfl rfl rfl rfl ?_
        refine .gS rfl rfl rfl rfl rfl rfl ?_
        refine .gS rfl rfl rfl rfl rfl rfl ?_
        refine .v (pkT rfl rfl rfl) rfl rfl rfl ?_
        refine .v (mv rfl) rfl rfl rfl ?_
        refine .gS rfl rfl rfl rfl rfl rfl ?_
        refine .gS rfl rfl rfl rfl rfl rfl ?_
        refine .gS rfl rfl rfl rfl rfl rfl ?_
        refine .gS rfl rfl rfl rfl rfl rfl ?_
        refine .gS rfl rfl rfl rfl rfl rfl ?_
        refine .v (pkT rfl rfl rfl) rfl rfl rfl ?_
        refine .nil ?_
        refine .sel0 [2, 3] (by decide) rfl ?_
        exact .use q676 true hF (.cons rfl (.cons rfl (.cons rfl (.cons rfl (.nil))))) rfl (FH.le_refl _)
      replace hF := hF.2 q680
      refine .gv (fa rfl tF73_1) rfl rfl rfl q680 rfl rfl ?_
      refine .gv (ld1 rfl tO22 (cellB (off := 1) (k := 1) rfl rfl)) rfl rfl rfl q680 rfl rfl ?_
      refine .gv (fa rfl tF73_1) rfl rfl rfl q680 rfl rfl ?_
      refine .gv (ld1 rfl tO22 (cellB (off := 1) (k := 0) rfl rfl)) rfl rfl rfl q680 rfl rfl ?_
      obtain ⟨q681, hF⟩ := hF
      obtain ⟨r3, q682⟩ : ∃ y_ : Bool, y_ = sp_numbers ((gt a.ops i).add) ((gt b.ops i).add) := ⟨_, rfl⟩
      replace hF := hF r3 q682
      refine .gc (cl (v := .bool r3) Try.call39 rfl rfl (fun w S => (by rw [q682]; exact c_numbers S.sub ((gt a.ops i).add) a3 c2 q655 q654 ((gt b.ops i).add) a6 c5 q663 q662 q681))) rfl rfl rfl q680 rfl rfl ?_
      refine .gv (nt rfl) rfl rfl rfl q680 rfl rfl ?_
      refine .v (pkF rfl q680 rfl) rfl rfl rfl ?_
      refine .v (mv rfl) rfl rfl rfl ?_
      rcases Bool.eq_false_or_eq_true (!r3) with q683 | q683
      · replace hF := hF.1 q683
        refine .gS rfl rfl rfl q683 rfl rfl ?_
        refine .gS rfl rfl rfl q683 rfl rfl ?_
        refine .gS rfl rfl rfl q683 rfl rfl ?_
        refine .gS rfl rfl rfl q683 rfl rfl ?_
        refine .gS rfl rfl rfl q683 rfl rfl ?_
        refine .gS rfl rfl rfl q683 rfl rfl ?_
        refine .v (pkT rfl q683 rfl) rfl rfl rfl ?_
        refine .v (mv rfl) rfl rfl rfl ?_
        refine .gS rfl rfl rfl rfl rfl rfl ?_
        refine .gS rfl rfl rfl rfl rfl rfl ?_
        refine .gS rfl rfl rfl rfl rfl rfl ?_
        refine .gS rfl rfl rfl rfl rfl rfl ?_
        refine .gS rfl rfl rfl rfl rfl rfl ?_
        refine .v (pkT rfl rfl rfl) rfl rfl rfl ?_
        refine .nil ?_
        refine .sel0 [2, 3] (by decide) rfl ?_
        exact .use q676 true hF (.cons rfl (.cons rfl (.cons rfl (.cons rfl (.nil))))) rfl (FH.le_refl _)
      replace hF := hF.2 q683
      refine .gv (fa rfl tF73_2) rfl rfl rfl q683 rfl rfl ?_
      refine .gv (ld1 rfl tO22 (cellB (off := 2) (k := 1) rfl rfl)) rfl rfl rfl q683 rfl rfl ?_
      refine .gv (fa rfl tF73_2) rfl rfl rfl q683 rfl rfl ?_
      refine .gv (ld1 rfl tO22 (cellB (off := 2) (k := 0) rfl rfl)) rfl rfl rfl q683 rfl rfl ?_
      obtain ⟨q684, hF⟩ := hF
      obtain ⟨r4, q685⟩ : ∃ y_ : Bool, y_ = sp_numbers ((gt a.ops i).del) ((gt b.ops i).del) := ⟨_, rfl⟩
      replace hF := hF r4 q685
      refine .gc (cl (v := .bool r4) Try.call39 rfl rfl (fun w S => (by rw [q685]; exact c_numbers S.sub ((gt a.ops i).del) a4 c3 q657 q656 ((gt b.ops i).del) a7 c6 q665 q664 q684))) rfl rfl rfl q683 rfl rfl ?_
      refine .gv (nt rfl) rfl rfl rfl q683 rfl rfl ?_
      refine .v (pkF rfl q683 rfl) rfl rfl rfl ?_
      refine .v (mv rfl) rfl rfl rfl ?_
      rcases Bool.eq_false_or_eq_true (!r4) with q686 | q686
      · replace hF := hF.1 q686
        refine .gS rfl rfl rfl q686 rfl rfl ?_
        refine .gS rfl rfl rfl q686 rfl rfl ?_
        refine .gS rfl rfl rfl q686 rfl rfl ?_
        refine .gS rfl rfl rfl q686 rfl rfl ?_
        refine .gS rfl rfl rfl q686 rfl rfl ?_
        refine .v (pkT rfl q686 rfl) rfl rfl rfl ?_
        refine .nil ?_
        refine .sel0 [2, 3] (by decide) rfl ?_
        exact .use q676 true hF (.cons rfl (.cons rfl (.cons rfl (.cons rfl (.nil))))) rfl (FH.le_refl _)
      replace hF := hF.2 q686
      refine .gv (fa rfl tF73_3) rfl rfl rfl q686 rfl rfl ?_
      refine .gv (ld1 rfl tO3 (cellB (off := 3) (k := 1) rfl rfl)) rfl rfl rfl q686 rfl rfl ?_
      refine .gv (fa rfl tF73_3) rfl rfl rfl q686 rfl rfl ?_
      refine .gv (ld1 rfl tO3 (cellB (off := 3) (k := 0) rfl rfl)) rfl rfl rfl q686 rfl rfl ?_
      refine .gv (bi rfl rfl rfl) rfl rfl rfl q686 rfl rfl ?_
      refine .v (pkF rfl q686 rfl) rfl rfl rfl ?_
      refine .nil ?_
      refine .sel0 [2, 3] (by decide) rfl ?_
      exact .use q676 (((gt a.ops i).cost) != ((gt b.ops i).cost)) hF (.cons rfl (.cons rfl (.cons rfl (.cons rfl (.nil))))) rfl (FH.le_refl _)
    replace hF := hF.2 q578
    refine .exit ?_
    refine .seqX ?_
    refine .seqX ?_
    refine .blkX ?_
    refine .seqN ?_
    refine .seq ?_
    refine .region ?_
    refine .v (asg rfl) rfl rfl rfl ?_
    refine .nil ?_
    refine .seqN ?_
    refine .ret ?_
    refine .res1 rfl (rvT rfl) (fun w' S => ⟨true, hF, rfl, S.below⟩)
  refine .region ?_
  refine .v (fa rfl tF50_0) rfl rfl rfl ?_
  refine .v (ld1 rfl tO3 (cellB (off := 0) (k := 1) rfl rfl)) rfl rfl rfl ?_
  refine .v (fa rfl tF50_0) rfl rfl rfl ?_
  refine .v (ld1 rfl tO3 (cellB (off := 0) (k := 0) rfl rfl)) rfl rfl rfl ?_
  refine .v (bi rfl rfl rfl) rfl rfl rfl ?_
  refine .v (mv rfl) rfl rfl rfl ?_
  rcases Bool.eq_false_or_eq_true (a.facts != b.facts) with q687 | q687
  · replace hF := hF.1 q687
    refine .gS rfl rfl rfl q687 rfl rfl ?_
    refine .gS rfl rfl rfl q687 rfl rfl ?_
    refine .gS rfl rfl rfl q687 rfl rfl ?_
    refine .gS rfl rfl rfl q687 rfl rfl ?_
    refine .gS rfl rfl rfl q687 rfl rfl ?_
    refine .gS rfl rfl rfl q687 rfl rfl ?_
    refine .v (pkT rfl q687 rfl) rfl rfl rfl ?_
    refine .v (mv rfl) rfl rfl rfl ?_
    refine .gS rfl rfl rfl rfl rfl rfl ?_
    refine .gS rfl rfl rfl rfl rfl rfl ?_
    refine .gS rfl rfl rfl rfl rfl rfl ?_
    refine .gS rfl rfl rfl rfl rfl rfl ?_
    refine .gS rfl rfl rfl rfl rfl rfl ?_
    refine .gS rfl rfl rfl rfl rfl rfl ?_
    refine .v (pkT rfl rfl rfl) rfl rfl rfl ?_
    refine .v (mv rfl) rfl rfl rfl ?_
    refine .gS rfl rfl rfl rfl rfl rfl ?_
    refine .gS rfl rfl rfl rfl rfl rfl ?_
    refine .gS rfl rfl rfl rfl rfl rfl ?_
    refine .gS rfl rfl rfl rfl rfl rfl ?_
    refine .gS rfl rfl rfl rfl rfl rfl ?_
    refine .gS rfl rfl rfl rfl rfl rfl ?_
    refine .gS rfl rfl rfl rfl rfl rfl ?_
    refine .v (pkT rfl rfl rfl) rfl rfl rfl ?_
    refine .nil ?_
    refine .sel0 [1, 0] (by decide) rfl ?_
    exact .use q20 true hF (.cons rfl (.cons rfl (.cons rfl (.nil)))) rfl (FH.le_refl _)
  replace hF := hF.2 q687
  refine .gv (fa rfl tF50_1) rfl rfl rfl q687 rfl rfl ?_
  refine .gv (ld1 rfl tO22 (cellB (off := 1) (k := 1) rfl rfl)) rfl rfl rfl q687 rfl rfl ?_
  refine .gv (fa rfl tF50_1) rfl rfl rfl q687 rfl rfl ?_
  refine .gv (ld1 rfl tO22 (cellB (off := 1) (k := 0) rfl rfl)) rfl rfl rfl q687 rfl rfl ?_
  obtain ⟨q688, hF⟩ := hF
  obtain ⟨r5, q689⟩ : ∃ y_ : Bool, y_ = sp_numbers a.init b.init := ⟨_, rfl⟩
  replace hF := hF r5 q689
  refine .gc (cl (v := .bool r5) Try.call39 rfl rfl (fun w S => (by rw [q689]; exact c_numbers S.sub a.init aa ca _q1 _q2 b.init ab cb _q7 _q8 q688))) rfl rfl rfl q687 rfl rfl ?_
  refine .gv (nt rfl) rfl rfl rfl q687 rfl rfl ?_
  refine .v (pkF rfl q687 rfl) rfl rfl rfl ?_
  refine .v (mv rfl) rfl rfl rfl ?_
  rcases Bool.eq_false_or_eq_true (!r5) with q690 | q690
  · replace hF := hF.1 q690
    refine .gS rfl rfl rfl q690 rfl rfl ?_
    refine .gS rfl rfl rfl q690 rfl rfl ?_
    refine .gS rfl rfl rfl q690 rfl rfl ?_
    refine .gS rfl rfl rfl q690 rfl rfl ?_
    refine .gS rfl rfl rfl q690 rfl rfl ?_
    refine .gS rfl rfl rfl q690 rfl rfl ?_
    refine .v (pkT rfl q690 rfl) rfl rfl rfl ?_
    refine .v (mv rfl) rfl rfl rfl ?_
    refine .gS rfl rfl rfl rfl rfl rfl ?_
    refine .gS rfl rfl rfl rfl rfl rfl ?_
    refine .gS rfl rfl rfl rfl rfl rfl ?_
    refine .gS rfl rfl rfl rfl rfl rfl ?_
    refine .gS rfl rfl rfl rfl rfl rfl ?_
    refine .gS rfl rfl rfl rfl rfl rfl ?_
    refine .gS rfl rfl rfl rfl rfl rfl ?_
    refine .v (pkT rfl rfl rfl) rfl rfl rfl ?_
    refine .nil ?_
    refine .sel0 [1, 0] (by decide) rfl ?_
    exact .use q20 true hF (.cons rfl (.cons rfl (.cons rfl (.nil)))) rfl (FH.le_refl _)
  replace hF := hF.2 q690
  refine .gv (fa rfl tF50_2) rfl rfl rfl q690 rfl rfl ?_
  refine .gv (ld1 rfl tO22 (cellB (off := 2) (k := 1) rfl rfl)) rfl rfl rfl q690 rfl rfl ?_
  refine .gv (fa rfl tF50_2) rfl rfl rfl q690 rfl rfl ?_
  refine .gv (ld1 rfl tO22 (cellB (off := 2) (k := 0) rfl rfl)) rfl rfl rfl q690 rfl rfl ?_
  obtain ⟨q691, hF⟩ := hF
  obtain ⟨r6, q692⟩ : ∃ y_ : Bool, y_ = sp_numbers a.goal b.goal := ⟨_, rfl⟩
  replace hF := hF r6 q692
  refine .gc (cl (v := .bool r6) Try.call39 rfl rfl (fun w S => (by rw [q692]; exact c_numbers S.sub a.goal aa2 ca2 _q3 _q4 b.goal ab2 cb2 _q9 _q10 q691))) rfl rfl rfl q690 rfl rfl ?_
  refine .gv (nt rfl) rfl rfl rfl q690 rfl rfl ?_
  refine .v (pkF rfl q690 rfl) rfl rfl rfl ?_
  refine .v (mv rfl) rfl rfl rfl ?_
  rcases Bool.eq_false_or_eq_true (!r6) with q693 | q693
  · replace hF := hF.1 q693
    refine .gS rfl rfl rfl q693 rfl rfl ?_
    refine .gS rfl rfl rfl q693 rfl rfl ?_
    refine .gS rfl rfl rfl q693 rfl rfl ?_
    refine .gS rfl rfl rfl q693 rfl rfl ?_
    refine .gS rfl rfl rfl q693 rfl rfl ?_
    refine .gS rfl rfl rfl q693 rfl rfl ?_
    refine .gS rfl rfl rfl q693 rfl rfl ?_
    refine .v (pkT rfl q693 rfl) rfl rfl rfl ?_
    refine .nil ?_
    refine .sel0 [1, 0] (by decide) rfl ?_
    exact .use q20 true hF (.cons rfl (.cons rfl (.cons rfl (.nil)))) rfl (FH.le_refl _)
  replace hF := hF.2 q693
  refine .gv (fa rfl tF50_3) rfl rfl rfl q693 rfl rfl ?_
  refine .gv (ld1 rfl tO48 (cellB (off := 3) (k := 1) rfl rfl)) rfl rfl rfl q693 rfl rfl ?_
  refine .gv (ln rfl tS48.is) rfl rfl rfl q693 rfl rfl ?_
  refine .gv (fa rfl tF50_3) rfl rfl rfl q693 rfl rfl ?_
  refine .gv (ld1 rfl tO48 (cellB (off := 3) (k := 0) rfl rfl)) rfl rfl rfl q693 rfl rfl ?_
  refine .gv (ln rfl tS48.is) rfl rfl rfl q693 rfl rfl ?_
  refine .gv (bi rfl rfl rfl) rfl rfl rfl q693 rfl rfl ?_
  refine .v (pkF rfl q693 rfl) rfl rfl rfl ?_
  refine .nil ?_
  refine .sel0 [1, 0] (by decide) rfl ?_
  exact .use q20 (((a.ops.length : Nat) : Int) != ((b.ops.length : Nat) : Int)) hF (.cons rfl (.cons rfl (.cons rfl (.nil)))) rfl (FH.le_refl _)

theorem c_planning {h : FH} {w : World} (hs : Sub h w) (a : Task) (aa : Option Addr) (ca : Nat) (_q1 : RSl h aa a.init) (_q2 : a.init.length ≤ ca) (aa2 : Option Addr) (ca2 : Nat) (_q3 : RSl h aa2 a.goal) (_q4 : a.goal.length ≤ ca2) (aa3 : Option Addr) (ca3 : Nat) (_q5 : RSl h aa3 a.ops) (_q6 : a.ops.length ≤ ca3) (b : Task) (ab : Option Addr) (cb : Nat) (_q7 : RSl h ab b.init) (_q8 : b.init.length ≤ cb) (ab2 : Option Addr) (cb2 : Nat) (_q9 : RSl h ab2 b.goal) (_q10 : b.goal.length ≤ cb2) (ab3 : Option Addr) (cb3 : Nat) (_q11 : RSl h ab3 b.ops) (_q12 : b.ops.length ≤ cb3) (hp : pre_planning a b) : Calls Try.prog 20 #[.agg #[.int .i64 a.facts, .slice aa a.init.length ca, .slice aa2 a.goal.length ca2, .slice aa3 a.ops.length ca3], .agg #[.int .i64 b.facts, .slice ab b.init.length cb, .slice ab2 b.goal.length cb2, .slice ab3 b.ops.length cb3]] w fun e w' => e = .returned (.bool (sp_planning a b)) ∧ Below w.heap.size w w' :=
  (w_planning hs a aa ca _q1 _q2 aa2 ca2 _q3 _q4 aa3 ca3 _q5 _q6 b ab cb _q7 _q8 ab2 cb2 _q9 _q10 ab3 cb3 _q11 _q12 (fun r => r = sp_planning a b) (ok_planning a b hp)).mono fun _ _ ⟨_, hk, he, hb⟩ => ⟨by rw [he, hk], hb⟩

theorem w_timedT {h : FH} {w : World} (hs : Sub h w) (K : TTask → Prop) (hF : F_timedT  K) : Calls Try.prog 32 #[] w fun e w' => ∃ (r : TTask) (z : Option Addr × Nat × Option Addr × Nat × Option Addr × Nat) (h1 : FH), K r ∧ e = .returned (.agg #[.int .i64 r.facts, .slice z.1 r.init.length z.2.1, .slice z.2.2.1 r.goal.length z.2.2.2.1, .slice z.2.2.2.2.1 r.ops.length z.2.2.2.2.2]) ∧ FH.le h h1 ∧ (RSl h1 z.1 r.init ∧ r.init.length ≤ z.2.1 ∧ RSl h1 z.2.2.1 r.goal ∧ r.goal.length ≤ z.2.2.2.1 ∧ RSl h1 z.2.2.2.2.1 r.ops ∧ r.ops.length ≤ z.2.2.2.2.2) ∧ SH (Kp.all w h) h1 w' [] := by
  refine enter (args := []) Try.func32 rfl Try.ntmps32 rfl hs ?_
  refine .seq ?_
  refine .region ?_
  refine al tZ25 rfl (fun pv => ?_)
  refine .nil ?_
  refine .seqN ?_
  refine .seq ?_
  refine .region ?_
  refine bs2 (cs := #[.int .i64 0]) (pv := [(0, .int .i64 0)]) tS22 rfl rfl (by decide) (by decide) rfl rfl rfl (fun a _ => ?_)
  refine .cast (A' := [OwnSl 3 1 a (([0] : List Int).length) 1 (flL ([0] : List Int)), Box pv [.int .i64 0, .slice none 0 0, .slice none 0 0, .slice none 0 0]]) rfl ?_
  refine bs2 (cs := #[.int .i64 0]) (pv := [(0, .int .i64 0)]) tS22 rfl rfl (by decide) (by decide) rfl rfl rfl (fun a2 _ => ?_)
  refine .cast (A' := [OwnSl 3 1 a2 (([0] : List Int).length) 1 (flL ([0] : List Int)), OwnSl 3 1 a (([0] : List Int).length) 1 (flL ([0] : List Int)), Box pv [.int .i64 0, .slice none 0 0, .slice none 0 0, .slice none 0 0]]) rfl ?_
  refine .v (bld (cs := #[.slice none 0 0, .slice none 0 0, .slice none 0 0, .slice none 0 0, .slice none 0 0, .slice a2 (([0] : List Int).length) 1, .slice none 0 0, .int .i64 3]) (pv := [(5, .slice a2 (([0] : List Int).length) 1), (7, .int .i64 3)]) tB41 rfl rfl) rfl rfl rfl ?_
  refine .freezeL (k := 0) rfl (fun h1 le1 q4 q3 => ?_)
  refine .cast (A' := [tru, OwnSl 3 1 a (([0] : List Int).length) 1 (flL ([0] : List Int)), Box pv [.int .i64 0, .slice none 0 0, .slice none 0 0, .slice none 0 0]]) rfl ?_
  refine bs1S (cs := #[.slice none 0 0, .slice none 0 0, .slice none 0 0, .slice none 0 0, .slice none 0 0, .slice a2 (([0] : List Int).length) 1, .slice none 0 0, .int .i64 3]) tS23 rfl rfl (by decide) rfl rfl (fun a3 _ => ?_)
  refine .cast (A' := [OwnSl 41 8 a3 (([(⟨[], [], [], [], [], ([0] : List Int), [], 3⟩ : TOp)] : List TOp).length) 1 [.slice none 0 0, .slice none 0 0, .slice none 0 0, .slice none 0 0, .slice none 0 0, .slice a2 (([0] : List Int).length) 1, .slice none 0 0, .int .i64 3], tru, OwnSl 3 1 a (([0] : List Int).length) 1 (flL ([0] : List Int)), Box pv [.int .i64 0, .slice none 0 0, .slice none 0 0, .slice none 0 0]]) rfl ?_
  refine .v (bld (cs := #[.int .i64 1, .slice none 0 0, .slice a (([0] : List Int).length) 1, .slice a3 (([(⟨[], [], [], [], [], ([0] : List Int), [], 3⟩ : TOp)] : List TOp).length) 1]) (pv := [(0, .int .i64 1), (2, .slice a (([0] : List Int).length) 1), (3, .slice a3 (([(⟨[], [], [], [], [], ([0] : List Int), [], 3⟩ : TOp)] : List TOp).length) 1)]) tB25 rfl rfl) rfl rfl rfl ?_
  refine st (p := pv) (off := 0) (k := 3) (vs := [.int .i64 1, .slice none 0 0, .slice a (([0] : List Int).length) 1, .slice a3 (([(⟨[], [], [], [], [], ([0] : List Int), [], 3⟩ : TOp)] : List TOp).length) 1]) rfl rfl rfl (fun w => (tA25 w).2) rfl rfl rfl rfl ?_
  refine .cast (A' := [OwnSl 41 8 a3 (([(⟨[], [], [], [], [], ([0] : List Int), [], 3⟩ : TOp)] : List TOp).length) 1 [.slice none 0 0, .slice none 0 0, .slice none 0 0, .slice none 0 0, .slice none 0 0, .slice a2 (([0] : List Int).length) 1, .slice none 0 0, .int .i64 3], tru, OwnSl 3 1 a (([0] : List Int).length) 1 (flL ([0] : List Int)), Box pv [.int .i64 1, .slice none 0 0, .slice a (([0] : List Int).length) 1, .slice a3 (([(⟨[], [], [], [], [], ([0] : List Int), [], 3⟩ : TOp)] : List TOp).length) 1]]) rfl ?_
  refine .nil ?_
  refine .seqN ?_
  refine .freezeL (k := 0) rfl (fun h2 le2 q7 q6 => ?_)
  refine .cast (A' := [tru, tru, OwnSl 3 1 a (([0] : List Int).length) 1 (flL ([0] : List Int)), Box pv [.int .i64 1, .slice none 0 0, .slice a (([0] : List Int).length) 1, .slice a3 (([(⟨[], [], [], [], [], ([0] : List Int), [], 3⟩ : TOp)] : List TOp).length) 1]]) rfl ?_
  refine .freezeL (k := 2) rfl (fun h3 le3 q9 q8 => ?_)
  refine .cast (A' := [tru, tru, tru, Box pv [.int .i64 1, .slice none 0 0, .slice a (([0] : List Int).length) 1, .slice a3 (([(⟨[], [], [], [], [], ([0] : List Int), [], 3⟩ : TOp)] : List TOp).length) 1]]) rfl ?_
  refine .ret ?_
  refine .res1 rfl (rvC rfl tA25 (k := 3) rfl rfl) (fun w' S => ⟨(⟨1, [], ([0] : List Int), ([(⟨[], [], [], [], [], ([0] : List Int), [], 3⟩ : TOp)] : List TOp)⟩ : TTask), (none, 0, a, 1, a3, 1), h3, hF, rfl, (FH.le_trans (FH.le_trans (le1) (le2)) (le3)), ⟨RSl.nil_, (Nat.le_refl 0), (RSl.of q8), (q9), ((show RSl h2 a3 ([(⟨[], [], [], [], [], ([0] : List Int), [], 3⟩ : TOp)] : List TOp) from ⟨_, (show RepL h1 ([(⟨[], [], [], [], [], ([0] : List Int), [], 3⟩ : TOp)] : List TOp) [.slice none 0 0, .slice none 0 0, .slice none 0 0, .slice none 0 0, .slice none 0 0, .slice a2 (([0] : List Int).length) 1, .slice none 0 0, .int .i64 3] from ⟨[.slice none 0 0, .slice none 0 0, .slice none 0 0, .slice none 0 0, .slice none 0 0, .slice a2 (([0] : List Int).length) 1, .slice none 0 0, .int .i64 3], _, rfl, ⟨none, 0, none, 0, none, 0, none, 0, none, 0, a2, 1, none, 0, rfl, ⟨Nat.le_refl 0, RSl.nil_⟩, ⟨Nat.le_refl 0, RSl.nil_⟩, ⟨Nat.le_refl 0, RSl.nil_⟩, ⟨Nat.le_refl 0, RSl.nil_⟩, ⟨Nat.le_refl 0, RSl.nil_⟩, ⟨(q4), (RSl.of q3)⟩, ⟨Nat.le_refl 0, RSl.nil_⟩⟩, rfl⟩).mono (le2), q6⟩).mono (le3)), (q7)⟩, S.none⟩)

theorem c_timedT {h : FH} {w : World} (hs : Sub h w) : Calls Try.prog 32 #[] w fun e w' => ∃ (z : Option Addr × Nat × Option Addr × Nat × Option Addr × Nat) (h1 : FH), e = .returned (.agg #[.int .i64 (sp_timedT).facts, .slice z.1 (sp_timedT).init.length z.2.1, .slice z.2.2.1 (sp_timedT).goal.length z.2.2.2.1, .slice z.2.2.2.2.1 (sp_timedT).ops.length z.2.2.2.2.2]) ∧ FH.le h h1 ∧ (RSl h1 z.1 (sp_timedT).init ∧ (sp_timedT).init.length ≤ z.2.1 ∧ RSl h1 z.2.2.1 (sp_timedT).goal ∧ (sp_timedT).goal.length ≤ z.2.2.2.1 ∧ RSl h1 z.2.2.2.2.1 (sp_timedT).ops ∧ (sp_timedT).ops.length ≤ z.2.2.2.2.2) ∧ SH (Kp.all w h) h1 w' [] :=
  (w_timedT hs  (fun r => r = sp_timedT) (ok_timedT )).mono fun _ _ ⟨r, z, h1, hk, he, hl, hf, hS⟩ => by subst hk; exact ⟨z, h1, he, hl, hf, hS⟩

theorem w_lasted {h : FH} {w : World} (hs : Sub h w) (K : Bool → Prop) (hF : F_lasted  K) : Calls Try.prog 13 #[] w fun e w' => ∃ r : Bool, K r ∧ e = .returned (.bool r) ∧ Below w.heap.size w w' := by
  refine enter (args := []) Try.func13 rfl Try.ntmps13 rfl hs ?_
  refine .seq ?_
  refine .region ?_
  refine .v (asg rfl) rfl rfl rfl ?_
  refine .nil ?_
  refine .seqN ?_
  refine .seq ?_
  refine .region ?_
  obtain ⟨r2, q1⟩ : ∃ y_ : TTask, y_ = sp_timedT := ⟨_, rfl⟩
  replace hF := hF r2 q1
  refine clR (α := Option Addr × Nat × Option Addr × Nat × Option Addr × Nat) (Φ := fun h1 z => RSl h1 z.1 r2.init ∧ r2.init.length ≤ z.2.1 ∧ RSl h1 z.2.2.1 r2.goal ∧ r2.goal.length ≤ z.2.2.2.1 ∧ RSl h1 z.2.2.2.2.1 r2.ops ∧ r2.ops.length ≤ z.2.2.2.2.2) (V := fun z => .agg #[.int .i64 r2.facts, .slice z.1 r2.init.length z.2.1, .slice z.2.2.1 r2.goal.length z.2.2.2.1, .slice z.2.2.2.2.1 r2.ops.length z.2.2.2.2.2]) Try.call32 rfl rfl (fun w S => (by rw [q1]; exact c_timedT S.sub  )) rfl (fun z h1 le1 hz => ?_)
  obtain ⟨a, c, a2, c2, a3, c3⟩ := z
  obtain ⟨q2, q3, q4, q5, q6, q7⟩ := hz
  refine .v (bld (cs := #[.int .i64 0, .int .i64 0]) (pv := []) tB38 rfl rfl) rfl rfl rfl ?_
  refine bs2 (cs := #[.int .i64 0, .int .i64 0]) (pv := [(0, .agg #[.int .i64 0, .int .i64 0])]) tS26 rfl rfl (by decide) (by decide) rfl rfl rfl (fun a4 _ => ?_)
  refine .cast (A' := [OwnSl 38 2 a4 (([(⟨0, 0⟩ : Occ)] : List Occ).length) 1 (flL ([(⟨0, 0⟩ : Occ)] : List Occ))]) rfl ?_
  obtain ⟨r3, q9⟩ : ∃ y_ : Int × Bool × Fault, y_ = sp_tcheck r2 ([(⟨0, 0⟩ : Occ)] : List Occ) := ⟨_, rfl⟩
  replace hF := hF r3 q9
  refine .c (cl (v := .tuple #[.int .i64 r3.1, .bool r3.2.1, .agg #[.int .i64 r3.2.2.code, .int .i64 r3.2.2.index]]) Try.call9 rfl rfl (fun w S => (by rw [q9]; obtain ⟨h_, hl_, hs_, hne_, hr_⟩ := look S (k := 0) rfl; exact c_tcheck hs_ r2 a c (RSl.mono hl_ q2) q3 a2 c2 (RSl.mono hl_ q4) q5 a3 c3 (RSl.mono hl_ q6) q7 ([(⟨0, 0⟩ : Occ)] : List Occ) a4 1 (RSl.of hr_) (look_len S (k := 0) rfl) ))) rfl rfl rfl ?_
  refine .v (mv rfl) rfl rfl rfl ?_
  refine .v (ext rfl rfl) rfl rfl rfl ?_
  refine .v (ext rfl rfl) rfl rfl rfl ?_
  refine .v (ext rfl rfl) rfl rfl rfl ?_
  refine al tZ28 rfl (fun pf => ?_)
  refine .v (asg rfl) rfl rfl rfl ?_
  refine .v (asg rfl) rfl rfl rfl ?_
  refine st (p := pf) (off := 0) (k := 0) (vs := [.int .i64 r3.2.2.code, .int .i64 r3.2.2.index]) rfl rfl rfl (fun w => (tA28 w).2) rfl rfl rfl rfl ?_
  refine .cast (A' := [Box pf [.int .i64 r3.2.2.code, .int .i64 r3.2.2.index], OwnSl 38 2 a4 (([(⟨0, 0⟩ : Occ)] : List Occ).length) 1 (flL ([(⟨0, 0⟩ : Occ)] : List Occ))]) rfl ?_
  refine .nil ?_
  refine .seqN ?_
  refine .seq ?_
  refine .region ?_
  refine .v (fa rfl tF28_0) rfl rfl rfl ?_
  refine .v (ld1 rfl tO3 (cellB (off := 0) (k := 0) rfl rfl)) rfl rfl rfl ?_
  refine .v (bi rfl rfl rfl) rfl rfl rfl ?_
  refine .v (mv rfl) rfl rfl rfl ?_
  rcases Bool.eq_false_or_eq_true (r3.2.2.code == 0) with q12 | q12
  · replace hF := hF.1 q12
    refine .gv (mv rfl) rfl rfl rfl q12 rfl rfl ?_
    refine .v (pkT rfl q12 rfl) rfl rfl rfl ?_
    refine .v (mv rfl) rfl rfl rfl ?_
    rcases Bool.eq_false_or_eq_true (r3.2.1) with q13 | q13
    · replace hF := hF.1 q13
      refine .gv (mv rfl) rfl rfl rfl q13 rfl rfl ?_
      refine .gv (bi rfl rfl rfl) rfl rfl rfl q13 rfl rfl ?_
      refine .v (pkT rfl q13 rfl) rfl rfl rfl ?_
      refine .v (asg rfl) rfl rfl rfl ?_
      refine .nil ?_
      refine .seqN ?_
      refine .ret ?_
      refine .res1 rfl (rvT rfl) (fun w' S => ⟨r3.1 == 3, hF, rfl, S.below⟩)
    replace hF := hF.2 q13
    refine .gS rfl rfl rfl q13 rfl rfl ?_
    refine .gS rfl rfl rfl q13 rfl rfl ?_
    refine .v (pkF rfl q13 rfl) rfl rfl rfl ?_
    refine .v (asg rfl) rfl rfl rfl ?_
    refine .nil ?_
    refine .seqN ?_
    refine .ret ?_
    refine .res1 rfl (rvT rfl) (fun w' S => ⟨false, hF, rfl, S.below⟩)
  replace hF := hF.2 q12
  refine .gS rfl rfl rfl q12 rfl rfl ?_
  refine .v (pkF rfl q12 rfl) rfl rfl rfl ?_
  refine .v (mv rfl) rfl rfl rfl ?_
  refine .gS rfl rfl rfl rfl rfl rfl ?_
  refine .gS rfl rfl rfl rfl rfl rfl ?_
  refine .v (pkF rfl rfl rfl) rfl rfl rfl ?_
  refine .v (asg rfl) rfl rfl rfl ?_
  refine .nil ?_
  refine .seqN ?_
  refine .ret ?_
  refine .res1 rfl (rvT rfl) (fun w' S => ⟨false, hF, rfl, S.below⟩)

theorem c_lasted {h : FH} {w : World} (hs : Sub h w) : Calls Try.prog 13 #[] w fun e w' => e = .returned (.bool (sp_lasted)) ∧ Below w.heap.size w w' :=
  (w_lasted hs  (fun r => r = sp_lasted) (ok_lasted )).mono fun _ _ ⟨_, hk, he, hb⟩ => ⟨by rw [he, hk], hb⟩

set_option maxHeartbeats 8000000 in
theorem w_lawTimed {h : FH} {w : World} (hs : Sub h w) (t : TTask) (at_ : Option Addr) (ct : Nat) (_q1 : RSl h at_ t.init) (_q2 : t.init.length ≤ ct) (at_2 : Option Addr) (ct2 : Nat) (_q3 : RSl h at_2 t.goal) (_q4 : t.goal.length ≤ ct2) (at_3 : Option Addr) (ct3 : Nat) (_q5 : RSl h at_3 t.ops) (_q6 : t.ops.length ≤ ct3) (l : List Occ) (al2 : Option Addr) (cl2 : Nat) (_q7 : RSl h al2 l) (_q8 : l.length ≤ cl2) (K : Bool → Prop) (hF : F_lawTimed t l K) : Calls Try.prog 3 #[.agg #[.int .i64 t.facts, .slice at_ t.init.length ct, .slice at_2 t.goal.length ct2, .slice at_3 t.ops.length ct3], .slice al2 l.length cl2] w fun e w' => ∃ r : Bool, K r ∧ e = .returned (.bool r) ∧ Below w.heap.size w w' := by
  refine enter (args := [.agg #[.int .i64 t.facts, .slice at_ t.init.length ct, .slice at_2 t.goal.length ct2, .slice at_3 t.ops.length ct3], .slice al2 l.length cl2]) Try.func3 rfl Try.ntmps3 rfl hs ?_
  refine .seq ?_
  refine .region ?_
  refine bx (vs := [.int .i64 t.facts, .slice at_ t.init.length ct, .slice at_2 t.goal.length ct2, .slice at_3 t.ops.length ct3]) rfl rfl rfl (fun pt => ?_)
  refine .v (asg rfl) rfl rfl rfl ?_
  refine .nil ?_
  refine .seqN ?_
  refine .seq ?_
  refine .region ?_
  refine .v (ldA (cs := [.int .i64 t.facts, .slice at_ t.init.length ct, .slice at_2 t.goal.length ct2, .slice at_3 t.ops.length ct3]) rfl tA25 rfl (cellsB (off := 0) (k := 0) rfl (m := 4) rfl)) rfl rfl rfl ?_
  refine .v (mv rfl) rfl rfl rfl ?_
  obtain ⟨r2, q9⟩ : ∃ y_ : Int × Bool × Fault, y_ = sp_tcheck t l := ⟨_, rfl⟩
  replace hF := hF r2 q9
  refine .c (cl (v := .tuple #[.int .i64 r2.1, .bool r2.2.1, .agg #[.int .i64 r2.2.2.code, .int .i64 r2.2.2.index]]) Try.call9 rfl rfl (fun w S => (by rw [q9]; exact c_tcheck S.sub t at_ ct _q1 _q2 at_2 ct2 _q3 _q4 at_3 ct3 _q5 _q6 l al2 cl2 _q7 _q8 ))) rfl rfl rfl ?_
  refine .v (mv rfl) rfl rfl rfl ?_
  refine .v (ext rfl rfl) rfl rfl rfl ?_
  refine .v (ext rfl rfl) rfl rfl rfl ?_
  refine .v (ext rfl rfl) rfl rfl rfl ?_
  refine al tZ28 rfl (fun pf => ?_)
  refine .v (asg rfl) rfl rfl rfl ?_
  refine .v (asg rfl) rfl rfl rfl ?_
  refine st (p := pf) (off := 0) (k := 0) (vs := [.int .i64 r2.2.2.code, .int .i64 r2.2.2.index]) rfl rfl rfl (fun w => (tA28 w).2) rfl rfl rfl rfl ?_
  refine .cast (A' := [Box pf [.int .i64 r2.2.2.code, .int .i64 r2.2.2.index], Box pt [.int .i64 t.facts, .slice at_ t.init.length ct, .slice at_2 t.goal.length ct2, .slice at_3 t.ops.length ct3]]) rfl ?_
  refine .nil ?_
  refine .seqN ?_
  refine .seq ?_
  refine .region ?_
  refine .v (ldA (cs := [.int .i64 t.facts, .slice at_ t.init.length ct, .slice at_2 t.goal.length ct2, .slice at_3 t.ops.length ct3]) rfl tA25 rfl (cellsB (off := 0) (k := 1) rfl (m := 4) rfl)) rfl rfl rfl ?_
  refine .v (mv rfl) rfl rfl rfl ?_
  obtain ⟨r3, q10⟩ : ∃ y_ : Fault, y_ = sp_scheduleFault t l := ⟨_, rfl⟩
  replace hF := hF r3 q10
  refine .c (cl (v := .agg #[.int .i64 r3.code, .int .i64 r3.index]) Try.call10 rfl rfl (fun w S => (by rw [q10]; exact c_occurFault S.sub t at_ ct _q1 _q2 at_2 ct2 _q3 _q4 at_3 ct3 _q5 _q6 l al2 cl2 _q7 _q8 ))) rfl rfl rfl ?_
  refine al tZ28 rfl (fun pe => ?_)
  refine st (p := pe) (off := 0) (k := 0) (vs := [.int .i64 r3.code, .int .i64 r3.index]) rfl rfl rfl (fun w => (tA28 w).2) rfl rfl rfl rfl ?_
  refine .cast (A' := [Box pe [.int .i64 r3.code, .int .i64 r3.index], Box pf [.int .i64 r2.2.2.code, .int .i64 r2.2.2.index], Box pt [.int .i64 t.facts, .slice at_ t.init.length ct, .slice at_2 t.goal.length ct2, .slice at_3 t.ops.length ct3]]) rfl ?_
  refine .nil ?_
  refine .seqN ?_
  refine .seq ?_
  refine .share (σ := Bool) (fun z => F_lawTimed_J1 t l K r2 r3 z) (fun z => [(1, .slice al2 l.length cl2), (2, .pointer (some pt)), (5, .int .i64 r2.1), (6, .bool r2.2.1), (8, .pointer (some pe)), (30, .bool z)]) (fun _ => [Box pt [.int .i64 t.facts, .slice at_ t.init.length ct, .slice at_2 t.goal.length ct2, .slice at_3 t.ops.length ct3], Box pe [.int .i64 r3.code, .int .i64 r3.index]]) (fun _ => h) ?_ (fun q14 => ?_)
  · rintro t30 hF
    show J _ _ _ _ _ [(1, .slice al2 l.length cl2), (2, .pointer (some pt)), (5, .int .i64 r2.1), (6, .bool r2.2.1), (8, .pointer (some pe)), (30, .bool t30)] [Box pt [.int .i64 t.facts, .slice at_ t.init.length ct, .slice at_2 t.goal.length ct2, .slice at_3 t.ops.length ct3], Box pe [.int .i64 r3.code, .int .i64 r3.index]] h
    refine .cond rfl (fun q16 => ?_) (fun q16 => ?_)
    · replace hF := hF.1 q16
      refine .seq ?_
      refine .region ?_
      refine .v (asg rfl) rfl rfl rfl ?_
      refine .nil ?_
      refine .seqN ?_
      refine .ret ?_
      refine .seqR ?_
      refine .res1 rfl (rvT rfl) (fun w' S => ⟨false, hF, rfl, S.below⟩)
    replace hF := hF.2 q16
    refine .skip ?_
    refine .seqN ?_
    refine .seq ?_
    refine .seq ?_
    refine .region ?_
    refine .v (fa rfl tF28_0) rfl rfl rfl ?_
    refine .v (ld1 rfl tO3 (cellB (off := 0) (k := 1) rfl rfl)) rfl rfl rfl ?_
    refine .v (bi rfl rfl rfl) rfl rfl rfl ?_
    refine .nil ?_
    refine .seqN ?_
    refine .cond rfl (fun q24 => ?_) (fun q24 => ?_)
    · replace hF := hF.1 q24
      refine .seq ?_
      refine .region ?_
      refine .v (mv rfl) rfl rfl rfl ?_
      refine .v (bi rfl rfl rfl) rfl rfl rfl ?_
      refine .v (mv rfl) rfl rfl rfl ?_
      rcases Bool.eq_false_or_eq_true (r2.1 == 0) with q28 | q28
      · replace hF := hF.1 q28
        refine .gv (mv rfl) rfl rfl rfl q28 rfl rfl ?_
        refine .gv (nt rfl) rfl rfl rfl q28 rfl rfl ?_
        refine .v (pkT rfl q28 rfl) rfl rfl rfl ?_
        refine .v (mv rfl) rfl rfl rfl ?_
        rcases Bool.eq_false_or_eq_true (!r2.2.1) with q29 | q29
        · replace hF := hF.1 q29
          obtain ⟨r4, q30⟩ : ∃ y_ : Bool, y_ = sp_lasted := ⟨_, rfl⟩
          replace hF := hF r4 q30
          refine .gc (cl (v := .bool r4) Try.call13 rfl rfl (fun w S => (by rw [q30]; exact c_lasted S.sub  ))) rfl rfl rfl q29 rfl rfl ?_
          refine .v (pkT rfl q29 rfl) rfl rfl rfl ?_
          refine .v (asg rfl) rfl rfl rfl ?_
          refine .nil ?_
          refine .seqN ?_
          refine .ret ?_
          refine .seqR ?_
          refine .res1 rfl (rvT rfl) (fun w' S => ⟨r4, hF, rfl, S.below⟩)
        replace hF := hF.2 q29
        refine .gS rfl rfl rfl q29 rfl rfl ?_
        refine .v (pkF rfl q29 rfl) rfl rfl rfl ?_
        refine .v (asg rfl) rfl rfl rfl ?_
        refine .nil ?_
        refine .seqN ?_
        refine .ret ?_
        refine .seqR ?_
        refine .res1 rfl (rvT rfl) (fun w' S => ⟨false, hF, rfl, S.below⟩)
      replace hF := hF.2 q28
      refine .gS rfl rfl rfl q28 rfl rfl ?_
      refine .gS rfl rfl rfl q28 rfl rfl ?_
      refine .v (pkF rfl q28 rfl) rfl rfl rfl ?_
      refine .v (mv rfl) rfl rfl rfl ?_
      refine .gS rfl rfl rfl rfl rfl rfl ?_
      refine .v (pkF rfl rfl rfl) rfl rfl rfl ?_
      refine .v (asg rfl) rfl rfl rfl ?_
      refine .nil ?_
      refine .seqN ?_
      refine .ret ?_
      refine .seqR ?_
      refine .res1 rfl (rvT rfl) (fun w' S => ⟨false, hF, rfl, S.below⟩)
    replace hF := hF.2 q24
    refine .skip ?_
    refine .seqN ?_
    refine .seq ?_
    refine .region ?_
    refine .v (ldA (cs := [.int .i64 t.facts, .slice at_ t.init.length ct, .slice at_2 t.goal.length ct2, .slice at_3 t.ops.length ct3]) rfl tA25 rfl (cellsB (off := 0) (k := 0) rfl (m := 4) rfl)) rfl rfl rfl ?_
    refine .v (mv rfl) rfl rfl rfl ?_
    obtain ⟨q31, hF⟩ := hF
    obtain ⟨r5, q32⟩ : ∃ y_ : Int × Bool, y_ = sp_timedR t l := ⟨_, rfl⟩
    replace hF := hF r5 q32
    refine .c (cl (v := .tuple #[.int .i64 r5.1, .bool r5.2]) Try.call14 rfl rfl (fun w S => (by rw [q32]; exact c_timedR S.sub t at_ ct _q1 _q2 at_2 ct2 _q3 _q4 at_3 ct3 _q5 _q6 l al2 cl2 _q7 _q8 q31))) rfl rfl rfl ?_
    refine .v (mv rfl) rfl rfl rfl ?_
    refine .v (ext rfl rfl) rfl rfl rfl ?_
    refine .v (ext rfl rfl) rfl rfl rfl ?_
    refine .v (asg rfl) rfl rfl rfl ?_
    refine .v (asg rfl) rfl rfl rfl ?_
    refine .nil ?_
    refine .seqN ?_
    refine .seq ?_
    refine .region ?_
    refine .v (mv rfl) rfl rfl rfl ?_
    refine .v (mv rfl) rfl rfl rfl ?_
    refine .v (bi rfl rfl rfl) rfl rfl rfl ?_
    refine .v (mv rfl) rfl rfl rfl ?_
    rcases Bool.eq_false_or_eq_true (r2.1 == r5.1) with q36 | q36
    · replace hF := hF.1 q36
      refine .gv (mv rfl) rfl rfl rfl q36 rfl rfl ?_
      refine .gv (mv rfl) rfl rfl rfl q36 rfl rfl ?_
      refine .gv (beql Try.underlying4 rfl rfl) rfl rfl rfl q36 rfl rfl ?_
      refine .v (pkT rfl q36 rfl) rfl rfl rfl ?_
      refine .v (mv rfl) rfl rfl rfl ?_
      rcases Bool.eq_false_or_eq_true (r2.2.1 == r5.2) with q37 | q37
      · replace hF := hF.1 q37
        obtain ⟨r6, q38⟩ : ∃ y_ : Bool, y_ = sp_lasted := ⟨_, rfl⟩
        replace hF := hF r6 q38
        refine .gc (cl (v := .bool r6) Try.call13 rfl rfl (fun w S => (by rw [q38]; exact c_lasted S.sub  ))) rfl rfl rfl q37 rfl rfl ?_
        refine .v (pkT rfl q37 rfl) rfl rfl rfl ?_
        refine .v (asg rfl) rfl rfl rfl ?_
        refine .nil ?_
        refine .seqN ?_
        refine .ret ?_
        refine .res1 rfl (rvT rfl) (fun w' S => ⟨r6, hF, rfl, S.below⟩)
      replace hF := hF.2 q37
      refine .gS rfl rfl rfl q37 rfl rfl ?_
      refine .v (pkF rfl q37 rfl) rfl rfl rfl ?_
      refine .v (asg rfl) rfl rfl rfl ?_
      refine .nil ?_
      refine .seqN ?_
      refine .ret ?_
      refine .res1 rfl (rvT rfl) (fun w' S => ⟨false, hF, rfl, S.below⟩)
    replace hF := hF.2 q36
    refine .gS rfl rfl rfl q36 rfl rfl ?_
    refine .gS rfl rfl rfl q36 rfl rfl ?_
    refine .gS rfl rfl rfl q36 rfl rfl ?_
    refine .v (pkF rfl q36 rfl) rfl rfl rfl ?_
    refine .v (mv rfl) rfl rfl rfl ?_
    refine .gS rfl rfl rfl rfl rfl rfl ?_
    refine .v (pkF rfl rfl rfl) rfl rfl rfl ?_
    refine .v (asg rfl) rfl rfl rfl ?_
    refine .nil ?_
    refine .seqN ?_
    refine .ret ?_
    refine .res1 rfl (rvT rfl) (fun w' S => ⟨false, hF, rfl, S.below⟩)
  refine .open_ (by kernel_rfl) (by kernel_rfl) ?_
  refine .v (ldA (cs := [.int .i64 t.facts, .slice at_ t.init.length ct, .slice at_2 t.goal.length ct2, .slice at_3 t.ops.length ct3]) rfl tA25 rfl (cellsB (off := 0) (k := 2) rfl (m := 4) rfl)) rfl rfl rfl ?_
  obtain ⟨r7, q39⟩ : ∃ y_ : Fault, y_ = sp_tvalidate t := ⟨_, rfl⟩
  replace hF := hF r7 q39
  refine .c (cl (v := .agg #[.int .i64 r7.code, .int .i64 r7.index]) Try.call11 rfl rfl (fun w S => (by rw [q39]; exact c_tvalidate S.sub t at_ ct _q1 _q2 at_2 ct2 _q3 _q4 at_3 ct3 _q5 _q6 ))) rfl rfl rfl ?_
  refine .v (ldA (cs := [.int .i64 t.facts, .slice at_ t.init.length ct, .slice at_2 t.goal.length ct2, .slice at_3 t.ops.length ct3]) rfl tA25 rfl (cellsB (off := 0) (k := 2) rfl (m := 4) rfl)) rfl rfl rfl ?_
  obtain ⟨r8, q40⟩ : ∃ y_ : Fault, y_ = sp_tvalidate t := ⟨_, rfl⟩
  replace hF := hF r8 q40
  refine .c (cl (v := .agg #[.int .i64 r8.code, .int .i64 r8.index]) Try.call12 rfl rfl (fun w S => (by rw [q40]; exact c_timedFault S.sub t at_ ct _q1 _q2 at_2 ct2 _q3 _q4 at_3 ct3 _q5 _q6 ))) rfl rfl rfl ?_
  refine .v (ne2 tE28 rfl rfl) rfl rfl rfl ?_
  refine .v (mv rfl) rfl rfl rfl ?_
  rcases Bool.eq_false_or_eq_true (!((r7.code == r8.code) && (r7.index == r8.index))) with q41 | q41
  · replace hF := hF.1 q41
    refine .gS rfl rfl rfl q41 rfl rfl ?_
    refine .gS rfl rfl rfl q41 rfl rfl ?_
    refine .gS rfl rfl rfl q41 rfl rfl ?_
    refine .v (pkT rfl q41 rfl) rfl rfl rfl ?_
    refine .fin ?_
    refine .sel0 [2, 0] (by decide) rfl ?_
    exact .use q14 true hF (.cons rfl (.cons rfl (.cons rfl (.cons rfl (.cons rfl (.cons rfl (.nil))))))) rfl (FH.le_refl _)
  replace hF := hF.2 q41
  refine .gv (ldA (cs := [.int .i64 r2.2.2.code, .int .i64 r2.2.2.index]) rfl tA28 rfl (cellsB (off := 0) (k := 1) rfl (m := 2) rfl)) rfl rfl rfl q41 rfl rfl ?_
  refine .gv (ldA (cs := [.int .i64 r3.code, .int .i64 r3.index]) rfl tA28 rfl (cellsB (off := 0) (k := 0) rfl (m := 2) rfl)) rfl rfl rfl q41 rfl rfl ?_
  refine .gv (ne2 tE28 rfl rfl) rfl rfl rfl q41 rfl rfl ?_
  refine .v (pkF rfl q41 rfl) rfl rfl rfl ?_
  refine .fin ?_
  refine .sel0 [2, 0] (by decide) rfl ?_
  exact .use q14 (!((r2.2.2.code == r3.code) && (r2.2.2.index == r3.index))) hF (.cons rfl (.cons rfl (.cons rfl (.cons rfl (.cons rfl (.cons rfl (.nil))))))) rfl (FH.le_refl _)

theorem c_lawTimed {h : FH} {w : World} (hs : Sub h w) (t : TTask) (at_ : Option Addr) (ct : Nat) (_q1 : RSl h at_ t.init) (_q2 : t.init.length ≤ ct) (at_2 : Option Addr) (ct2 : Nat) (_q3 : RSl h at_2 t.goal) (_q4 : t.goal.length ≤ ct2) (at_3 : Option Addr) (ct3 : Nat) (_q5 : RSl h at_3 t.ops) (_q6 : t.ops.length ≤ ct3) (l : List Occ) (al2 : Option Addr) (cl2 : Nat) (_q7 : RSl h al2 l) (_q8 : l.length ≤ cl2) : Calls Try.prog 3 #[.agg #[.int .i64 t.facts, .slice at_ t.init.length ct, .slice at_2 t.goal.length ct2, .slice at_3 t.ops.length ct3], .slice al2 l.length cl2] w fun e w' => e = .returned (.bool (sp_lawTimed t l)) ∧ Below w.heap.size w w' :=
  (w_lawTimed hs t at_ ct _q1 _q2 at_2 ct2 _q3 _q4 at_3 ct3 _q5 _q6 l al2 cl2 _q7 _q8 (fun r => r = sp_lawTimed t l) (ok_lawTimed t l)).mono fun _ _ ⟨_, hk, he, hb⟩ => ⟨by rw [he, hk], hb⟩

set_option maxHeartbeats 8000000 in
theorem w_lawDelayed {h : FH} {w : World} (hs : Sub h w) (t : TTask) (at_ : Option Addr) (ct : Nat) (_q1 : RSl h at_ t.init) (_q2 : t.init.length ≤ ct) (at_2 : Option Addr) (ct2 : Nat) (_q3 : RSl h at_2 t.goal) (_q4 : t.goal.length ≤ ct2) (at_3 : Option Addr) (ct3 : Nat) (_q5 : RSl h at_3 t.ops) (_q6 : t.ops.length ≤ ct3) (l : List Occ) (al2 : Option Addr) (cl2 : Nat) (_q7 : RSl h al2 l) (_q8 : l.length ≤ cl2) (by_ : Int) (K : Bool → Prop) (hF : F_lawDelayed t l by_ K) : Calls Try.prog 4 #[.agg #[.int .i64 t.facts, .slice at_ t.init.length ct, .slice at_2 t.goal.length ct2, .slice at_3 t.ops.length ct3], .slice al2 l.length cl2, .int .i64 by_] w fun e w' => ∃ r : Bool, K r ∧ e = .returned (.bool r) ∧ Below w.heap.size w w' := by
  refine enter (args := [.agg #[.int .i64 t.facts, .slice at_ t.init.length ct, .slice at_2 t.goal.length ct2, .slice at_3 t.ops.length ct3], .slice al2 l.length cl2, .int .i64 by_]) Try.func4 rfl Try.ntmps4 rfl hs ?_
  refine .seq ?_
  refine .region ?_
  refine bx (vs := [.int .i64 t.facts, .slice at_ t.init.length ct, .slice at_2 t.goal.length ct2, .slice at_3 t.ops.length ct3]) rfl rfl rfl (fun pt => ?_)
  refine .v (asg rfl) rfl rfl rfl ?_
  refine .nil ?_
  refine .seqN ?_
  refine .seq ?_
  refine .region ?_
  refine .v (asg rfl) rfl rfl rfl ?_
  refine .nil ?_
  refine .seqN ?_
  refine .seq ?_
  refine .seq ?_
  refine .region ?_
  refine .v (asg rfl) rfl rfl rfl ?_
  refine .nil ?_
  refine .seqN ?_
  refine .block ?_
  refine .nilSl 38 2 ?_
  refine .cast (A' := [OwnSl 38 2 none (([] : List Occ).length) 0 (flL ([] : List Occ)), Box pt [.int .i64 t.facts, .slice at_ t.init.length ct, .slice at_2 t.goal.length ct2, .slice at_3 t.ops.length ct3]]) rfl ?_
  refine .sel0 [1, 0] (by decide) rfl ?_
  obtain ⟨I1, μ1, q276, q277⟩ := hF
  refine .loop' (σ := Int × List Occ × Option Addr × Nat) (fun z => I1 z.1 z.2.1) (fun z => μ1 z.1 z.2.1) (fun z => [(1, .slice al2 l.length cl2), (2, .int .i64 by_), (3, .pointer (some pt)), (7, .slice z.2.2.1 z.2.1.length z.2.2.2), (8, .int .i64 z.1)]) (fun z => [Box pt [.int .i64 t.facts, .slice at_ t.init.length ct, .slice at_2 t.goal.length ct2, .slice at_3 t.ops.length ct3], OwnSl 38 2 z.2.2.1 z.2.1.length z.2.2.2 (flL z.2.1)]) (fun _ => h) (0, ([] : List Occ), none, 0) q276 (.cons rfl (.cons rfl (.cons rfl (.cons rfl (.cons rfl (.nil)))))) rfl (FH.le_refl _) ?_
  rintro ⟨i, later, alater, clater⟩ q276
  have hF := q277 i later q276
  show J _ _ _ _ _ [(1, .slice al2 l.length cl2), (2, .int .i64 by_), (3, .pointer (some pt)), (7, .slice alater later.length clater), (8, .int .i64 i)] [Box pt [.int .i64 t.facts, .slice at_ t.init.length ct, .slice at_2 t.goal.length ct2, .slice at_3 t.ops.length ct3], OwnSl 38 2 alater later.length clater (flL later)] h
  refine .seq ?_
  refine .seq ?_
  refine .region ?_
  refine .v (mv rfl) rfl rfl rfl ?_
  refine .v (mv rfl) rfl rfl rfl ?_
  refine .v (ln rfl tS26.is) rfl rfl rfl ?_
  refine .v (bi rfl rfl rfl) rfl rfl rfl ?_
  refine .nil ?_
  refine .seqN ?_
  refine .cond rfl (fun q279 => ?_) (fun q279 => ?_)
  · replace hF := hF.1 q279
    refine .skip ?_
    refine .seqN ?_
    refine .seq ?_
    refine .block ?_
    refine .seq ?_
    refine .share (σ := Bool) (fun z => F_lawDelayed_J1 l by_ K z i later I1 μ1) (fun z => [(1, .slice al2 l.length cl2), (2, .int .i64 by_), (3, .pointer (some pt)), (7, .slice alater later.length clater), (8, .int .i64 i), (42, .bool z)]) (fun _ => [Box pt [.int .i64 t.facts, .slice at_ t.init.length ct, .slice at_2 t.goal.length ct2, .slice at_3 t.ops.length ct3], OwnSl 38 2 alater later.length clater (flL later)]) (fun _ => h) ?_ (fun q318 => ?_)
    · rintro t42 hF
      show J _ _ _ _ _ [(1, .slice al2 l.length cl2), (2, .int .i64 by_), (3, .pointer (some pt)), (7, .slice alater later.length clater), (8, .int .i64 i), (42, .bool t42)] [Box pt [.int .i64 t.facts, .slice at_ t.init.length ct, .slice at_2 t.goal.length ct2, .slice at_3 t.ops.length ct3], OwnSl 38 2 alater later.length clater (flL later)] h
      refine .cond rfl (fun q321 => ?_) (fun q321 => ?_)
      · replace hF := hF.1 q321
        refine .seq ?_
        refine .region ?_
        obtain ⟨r2, q322⟩ : ∃ y_ : Bool, y_ = sp_lasted := ⟨_, rfl⟩
        replace hF := hF r2 q322
        refine .c (cl (v := .bool r2) Try.call13 rfl rfl (fun w S => (by rw [q322]; exact c_lasted S.sub  ))) rfl rfl rfl ?_
        refine .v (asg rfl) rfl rfl rfl ?_
        refine .nil ?_
        refine .seqN ?_
        refine .ret ?_
        refine .seqR ?_
        refine .blkR ?_
        refine .seqR ?_
        refine .seqR ?_
        refine .blkR ?_
        refine .seqR ?_
        refine .res1 rfl (rvT rfl) (fun w' S => ⟨r2, hF, rfl, S.below⟩)
      replace hF := hF.2 q321
      refine .skip ?_
      refine .seqN ?_
      obtain ⟨q323, hF⟩ := hF
      refine .openA (s0 := [(1, .slice al2 l.length cl2), (2, .int .i64 by_), (3, .pointer (some pt)), (7, .slice alater later.length clater), (8, .int .i64 i)]) [0, 1, 2, 3, 4, 5, 6, 7, 8, 9, 10, 11, 12, 13] [(0, .slice alater later.length clater), (1, .slice al2 l.length cl2), (2, .int .i64 i), (3, .pointer (some (ead al2 (i.toNat * 2)))), (4, .pointer (some ((ead al2 (i.toNat * 2)).add 0))), (5, .int .i64 ((gt l i).op)), (6, .slice al2 l.length cl2), (7, .int .i64 i), (8, .pointer (some (ead al2 (i.toNat * 2)))), (9, .pointer (some ((ead al2 (i.toNat * 2)).add 1))), (10, .int .i64 ((gt l i).start)), (11, .int .i64 by_), (12, .int .i64 (IntKind.i64.wrap (((gt l i).start) + by_))), (13, .agg #[.int .i64 ((gt l i).op), .int .i64 (IntKind.i64.wrap (((gt l i).start) + by_))])] (by kernel_rfl) (.cons rfl (.cons rfl (.cons rfl (.cons rfl (.cons rfl (.nil)))))) [1, 2, 3, 7, 8] [16] rfl (by kernel_rfl) ?_
      refine .step [14] 14 rfl (by kernel_rfl) (by kernel_rfl) (.v [] rfl rfl rfl rfl rfl rfl (fun _ => mv rfl) (.v [] rfl rfl rfl rfl rfl rfl (fun _ => mv rfl) (.v [] rfl rfl rfl rfl rfl rfl (fun _ => mv rfl) (.v [(45, .slice al2 l.length cl2), (46, .int .i64 i)] rfl rfl rfl rfl rfl rfl (fun _ => ix rfl rfl tS26 (_q7.ne (by decide) (inb_pos q323)) q323) (.v [(47, .pointer (some (ead al2 (i.toNat * 2))))] rfl rfl rfl rfl rfl rfl (fun _ => fa rfl tF38_0) (.v [(48, .pointer (some ((ead al2 (i.toNat * 2)).add 0)))] rfl rfl rfl rfl rfl rfl (fun _ => ld1 (v := .int .i64 ((gt l i).op)) rfl tO3 (cellH (_q7.elemF q323 (by decide) 0 _ rfl))) (.v [] rfl rfl rfl rfl rfl rfl (fun _ => mv rfl) (.v [] rfl rfl rfl rfl rfl rfl (fun _ => mv rfl) (.v [(50, .slice al2 l.length cl2), (51, .int .i64 i)] rfl rfl rfl rfl rfl rfl (fun _ => ix rfl rfl tS26 (_q7.ne (by decide) (inb_pos q323)) q323) (.v [(52, .pointer (some (ead al2 (i.toNat * 2))))] rfl rfl rfl rfl rfl rfl (fun _ => fa rfl tF38_1) (.v [(53, .pointer (some ((ead al2 (i.toNat * 2)).add 1)))] rfl rfl rfl rfl rfl rfl (fun _ => ld1 (v := .int .i64 ((gt l i).start)) rfl tO3 (cellH (_q7.elemF q323 (by decide) 1 _ rfl))) (.v [] rfl rfl rfl rfl rfl rfl (fun _ => mv rfl) (.v [(54, .int .i64 ((gt l i).start)), (55, .int .i64 by_)] rfl rfl rfl rfl rfl rfl (fun _ => bi rfl rfl rfl) (.v [(49, .int .i64 ((gt l i).op)), (56, .int .i64 (IntKind.i64.wrap (((gt l i).start) + by_)))] rfl rfl rfl rfl rfl rfl (fun _ => bld (cs := #[.int .i64 ((gt l i).op), .int .i64 (IntKind.i64.wrap (((gt l i).start) + by_))]) (pv := [(0, .int .i64 ((gt l i).op)), (1, .int .i64 (IntKind.i64.wrap (((gt l i).start) + by_)))]) tB38 rfl rfl) (.nil))))))))))))))) (.cons [(57, .agg #[.int .i64 ((gt l i).op), .int .i64 (IntKind.i64.wrap (((gt l i).start) + by_))])] rfl rfl (fun sL hL => ?_) (.nil))
      refine bs2 (cs := #[.int .i64 ((gt l i).op), .int .i64 (IntKind.i64.wrap (((gt l i).start) + by_))]) (pv := [(0, .agg #[.int .i64 ((gt l i).op), .int .i64 (IntKind.i64.wrap (((gt l i).start) + by_))])]) tS26 rfl rfl (by decide) (by decide) rfl rfl rfl (fun a _ => ?_)
      refine .cast (A' := [OwnSl 38 2 a (([(⟨(gt l i).op, IntKind.i64.wrap (((gt l i).start) + by_)⟩ : Occ)] : List Occ).length) 1 (flL ([(⟨(gt l i).op, IntKind.i64.wrap (((gt l i).start) + by_)⟩ : Occ)] : List Occ)), Box pt [.int .i64 t.facts, .slice at_ t.init.length ct, .slice at_2 t.goal.length ct2, .slice at_3 t.ops.length ct3], OwnSl 38 2 alater later.length clater (flL later)]) rfl ?_
      refine .nil ?_
      refine .ja (M := [13, 5, 12, 4, 10, 11, 3, 9, 1, 2, 8, 6, 7]) (C' := [0]) (pre := [(14, .slice a (([(⟨(gt l i).op, IntKind.i64.wrap (((gt l i).start) + by_)⟩ : Occ)] : List Occ).length) 1)]) [(1, .slice al2 l.length cl2), (2, .int .i64 by_), (3, .pointer (some pt)), (7, .slice alater later.length clater), (8, .int .i64 i)] [1, 2, 3, 7, 8] hL rfl rfl rfl rfl rfl (.cons rfl (.cons rfl (.cons rfl (.cons rfl (.cons rfl (.nil)))))) rfl rfl (by kernel_rfl) ?_
      refine .step [15] 15 rfl (by kernel_rfl) (by kernel_rfl) (.v [] rfl rfl rfl rfl rfl rfl (fun _ => mv rfl) (.nil)) (.cons [(44, .slice alater later.length clater), (58, .slice a (([(⟨(gt l i).op, IntKind.i64.wrap (((gt l i).start) + by_)⟩ : Occ)] : List Occ).length) 1)] rfl rfl (fun sL hL => ?_) (.nil))
      obtain ⟨q325, hF⟩ := hF
      have q326 : later.length + ([(⟨(gt l i).op, IntKind.i64.wrap (((gt l i).start) + by_)⟩ : Occ)] : List Occ).length = ((later ++ ([(⟨(gt l i).op, IntKind.i64.wrap (((gt l i).start) + by_)⟩ : Occ)] : List Occ))).length := len_app rfl rfl
      refine app (k := 2) (news := flL ([(⟨(gt l i).op, IntKind.i64.wrap (((gt l i).start) + by_)⟩ : Occ)] : List Occ)) (cs' := flL (later ++ ([(⟨(gt l i).op, IntKind.i64.wrap (((gt l i).start) + by_)⟩ : Occ)] : List Occ))) (nm := ((later ++ ([(⟨(gt l i).op, IntKind.i64.wrap (((gt l i).start) + by_)⟩ : Occ)] : List Occ))).length) tS26 rfl (by decide) rfl rfl rfl (by rw [flL_len]; rfl) (srcS (k := 0) rfl) (flL_one _) (room_of q326 q325).1 (room_of q326 q325).2 q326 (flL_append _ _).symm rfl (fun a2 c => ?_)
      refine .cast (A' := [OwnSl 38 2 a (([(⟨(gt l i).op, IntKind.i64.wrap (((gt l i).start) + by_)⟩ : Occ)] : List Occ).length) 1 (flL ([(⟨(gt l i).op, IntKind.i64.wrap (((gt l i).start) + by_)⟩ : Occ)] : List Occ)), Box pt [.int .i64 t.facts, .slice at_ t.init.length ct, .slice at_2 t.goal.length ct2, .slice at_3 t.ops.length ct3], OwnSl 38 2 a2 ((later ++ ([(⟨(gt l i).op, IntKind.i64.wrap (((gt l i).start) + by_)⟩ : Occ)] : List Occ)).length) c (flL (later ++ ([(⟨(gt l i).op, IntKind.i64.wrap (((gt l i).start) + by_)⟩ : Occ)] : List Occ)))]) rfl ?_
      refine .nil ?_
      refine .ja (M := [0]) (C' := []) (pre := [(15, .slice a2 ((later ++ ([(⟨(gt l i).op, IntKind.i64.wrap (((gt l i).start) + by_)⟩ : Occ)] : List Occ)).length) c)]) [(1, .slice al2 l.length cl2), (2, .int .i64 by_), (3, .pointer (some pt)), (7, .slice alater later.length clater), (8, .int .i64 i)] [1, 2, 3, 7, 8] hL rfl rfl rfl rfl rfl (.cons rfl (.cons rfl (.cons rfl (.cons rfl (.cons rfl (.nil)))))) rfl rfl (by kernel_rfl) ?_
      refine .step [16] 16 rfl (by kernel_rfl) (by kernel_rfl) (.nil) (.cons [(59, .slice a2 ((later ++ ([(⟨(gt l i).op, IntKind.i64.wrap (((gt l i).start) + by_)⟩ : Occ)] : List Occ)).length) c), (59, .slice a2 ((later ++ ([(⟨(gt l i).op, IntKind.i64.wrap (((gt l i).start) + by_)⟩ : Occ)] : List Occ)).length) c), (44, .slice alater later.length clater), (45, .slice al2 l.length cl2), (46, .int .i64 i), (47, .pointer (some (ead al2 (i.toNat * 2)))), (48, .pointer (some ((ead al2 (i.toNat * 2)).add 0))), (49, .int .i64 ((gt l i).op)), (50, .slice al2 l.length cl2), (51, .int .i64 i), (52, .pointer (some (ead al2 (i.toNat * 2)))), (53, .pointer (some ((ead al2 (i.toNat * 2)).add 1))), (54, .int .i64 ((gt l i).start)), (55, .int .i64 by_), (56, .int .i64 (IntKind.i64.wrap (((gt l i).start) + by_))), (57, .agg #[.int .i64 ((gt l i).op), .int .i64 (IntKind.i64.wrap (((gt l i).start) + by_))]), (58, .slice a (([(⟨(gt l i).op, IntKind.i64.wrap (((gt l i).start) + by_)⟩ : Occ)] : List Occ).length) 1), (59, .slice a2 ((later ++ ([(⟨(gt l i).op, IntKind.i64.wrap (((gt l i).start) + by_)⟩ : Occ)] : List Occ)).length) c)] rfl rfl (fun sL hL => ?_) (.nil))
      refine .v (asg rfl) rfl rfl rfl ?_
      refine .nil ?_
      refine .ja (M := []) (C' := []) (pre := [(16, .slice a2 ((later ++ ([(⟨(gt l i).op, IntKind.i64.wrap (((gt l i).start) + by_)⟩ : Occ)] : List Occ)).length) c)]) [(1, .slice al2 l.length cl2), (2, .int .i64 by_), (3, .pointer (some pt)), (8, .int .i64 i)] [1, 2, 3, 8] hL rfl rfl rfl rfl rfl (.cons rfl (.cons rfl (.cons rfl (.cons rfl (.nil))))) rfl rfl (by kernel_rfl) ?_
      refine .last [(44, .slice alater later.length clater), (45, .slice al2 l.length cl2), (46, .int .i64 i), (47, .pointer (some (ead al2 (i.toNat * 2)))), (48, .pointer (some ((ead al2 (i.toNat * 2)).add 0))), (49, .int .i64 ((gt l i).op)), (50, .slice al2 l.length cl2), (51, .int .i64 i), (52, .pointer (some (ead al2 (i.toNat * 2)))), (53, .pointer (some ((ead al2 (i.toNat * 2)).add 1))), (54, .int .i64 ((gt l i).start)), (55, .int .i64 by_), (56, .int .i64 (IntKind.i64.wrap (((gt l i).start) + by_))), (57, .agg #[.int .i64 ((gt l i).op), .int .i64 (IntKind.i64.wrap (((gt l i).start) + by_))]), (58, .slice a (([(⟨(gt l i).op, IntKind.i64.wrap (((gt l i).start) + by_)⟩ : Occ)] : List Occ).length) 1), (59, .slice a2 ((later ++ ([(⟨(gt l i).op, IntKind.i64.wrap (((gt l i).start) + by_)⟩ : Occ)] : List Occ)).length) c), (7, .slice a2 ((later ++ ([(⟨(gt l i).op, IntKind.i64.wrap (((gt l i).start) + by_)⟩ : Occ)] : List Occ)).length) c)] rfl (by kernel_rfl) (.nil) rfl ?_
      refine .blkN ?_
      refine .seqN ?_
      refine .region ?_
      refine .v (mv rfl) rfl rfl rfl ?_
      refine .v (bi rfl rfl rfl) rfl rfl rfl ?_
      refine .v (asg rfl) rfl rfl rfl ?_
      refine .nil ?_
      refine .sel0 [1, 2] (by decide) rfl ?_
      exact .round (IntKind.i64.wrap (i + 1), (later ++ ([(⟨(gt l i).op, IntKind.i64.wrap (((gt l i).start) + by_)⟩ : Occ)] : List Occ)), a2, c) hF.1 hF.2 (.cons rfl (.cons rfl (.cons rfl (.cons rfl (.cons rfl (.nil)))))) rfl (FH.le_refl _)
    refine .region ?_
    refine .v (mv rfl) rfl rfl rfl ?_
    refine .v (bi rfl rfl rfl) rfl rfl rfl ?_
    refine .v (mv rfl) rfl rfl rfl ?_
    rcases Bool.eq_false_or_eq_true (decide (by_ < 0)) with q327 | q327
    · replace hF := hF.1 q327
      refine .gS rfl rfl rfl q327 rfl rfl ?_
      refine .gS rfl rfl rfl q327 rfl rfl ?_
      refine .v (pkT rfl q327 rfl) rfl rfl rfl ?_
      refine .v (mv rfl) rfl rfl rfl ?_
      refine .gS rfl rfl rfl rfl rfl rfl ?_
      refine .gS rfl rfl rfl rfl rfl rfl ?_
      refine .gS rfl rfl rfl rfl rfl rfl ?_
      refine .gS rfl rfl rfl rfl rfl rfl ?_
      refine .gS rfl rfl rfl rfl rfl rfl ?_
      refine .gS rfl rfl rfl rfl rfl rfl ?_
      refine .v (pkT rfl rfl rfl) rfl rfl rfl ?_
      refine .v (mv rfl) rfl rfl rfl ?_
      refine .gS rfl rfl rfl rfl rfl rfl ?_
      refine .gS rfl rfl rfl rfl rfl rfl ?_
      refine .gS rfl rfl rfl rfl rfl rfl ?_
      refine .gS rfl rfl rfl rfl rfl rfl ?_
      refine .gS rfl rfl rfl rfl rfl rfl ?_
      refine .gS rfl rfl rfl rfl rfl rfl ?_
      refine .v (pkT rfl rfl rfl) rfl rfl rfl ?_
      refine .nil ?_
      exact .use q318 true hF (.cons rfl (.cons rfl (.cons rfl (.cons rfl (.cons rfl (.cons rfl (.nil))))))) rfl (FH.le_refl _)
    replace hF := hF.2 q327
    refine .gv (mv rfl) rfl rfl rfl q327 rfl rfl ?_
    refine .gv (bi rfl rfl rfl) rfl rfl rfl q327 rfl rfl ?_
    refine .v (pkF rfl q327 rfl) rfl rfl rfl ?_
    refine .v (mv rfl) rfl rfl rfl ?_
    rcases Bool.eq_false_or_eq_true (decide (1000 < by_)) with q328 | q328
    · replace hF := hF.1 q328
      refine .gS rfl rfl rfl q328 rfl rfl ?_
      refine .gS rfl rfl rfl q328 rfl rfl ?_
      refine .gS rfl rfl rfl q328 rfl rfl ?_
      refine .gS rfl rfl rfl q328 rfl rfl ?_
      refine .gS rfl rfl rfl q328 rfl rfl ?_
      refine .gS rfl rfl rfl q328 rfl rfl ?_
      refine .v (pkT rfl q328 rfl) rfl rfl rfl ?_
      refine .v (mv rfl) rfl rfl rfl ?_
      refine .gS rfl rfl rfl rfl rfl rfl ?_
      refine .gS rfl rfl rfl rfl rfl rfl ?_
      refine .gS rfl rfl rfl rfl rfl rfl ?_
      refine .gS rfl rfl rfl rfl rfl rfl ?_
      refine .gS rfl rfl rfl rfl rfl rfl ?_
      refine .gS rfl rfl rfl rfl rfl rfl ?_
      refine .v (pkT rfl rfl rfl) rfl rfl rfl ?_
      refine .nil ?_
      exact .use q318 true hF (.cons rfl (.cons rfl (.cons rfl (.cons rfl (.cons rfl (.cons rfl (.nil))))))) rfl (FH.le_refl _)
    replace hF := hF.2 q328
    refine .gv (mv rfl) rfl rfl rfl q328 rfl rfl ?_
    refine .gv (mv rfl) rfl rfl rfl q328 rfl rfl ?_
    obtain ⟨q329, hF⟩ := hF
    refine .gv (ix rfl rfl tS26 (_q7.ne (by decide) (inb_pos q329)) q329) rfl rfl rfl q328 rfl rfl ?_
    refine .gv (fa rfl tF38_1) rfl rfl rfl q328 rfl rfl ?_
    refine .gv (ld1 (v := .int .i64 ((gt l i).start)) rfl tO3 (cellH (_q7.elemF q329 (by decide) 1 _ rfl))) rfl rfl rfl q328 rfl rfl ?_
    refine .gv (bi rfl rfl rfl) rfl rfl rfl q328 rfl rfl ?_
    refine .v (pkF rfl q328 rfl) rfl rfl rfl ?_
    refine .v (mv rfl) rfl rfl rfl ?_
    rcases Bool.eq_false_or_eq_true (decide (((gt l i).start) < 0)) with q330 | q330
    · replace hF := hF.1 q330
      refine .gS rfl rfl rfl q330 rfl rfl ?_
      refine .gS rfl rfl rfl q330 rfl rfl ?_
      refine .gS rfl rfl rfl q330 rfl rfl ?_
      refine .gS rfl rfl rfl q330 rfl rfl ?_
      refine .gS rfl rfl rfl q330 rfl rfl ?_
      refine .gS rfl rfl rfl q330 rfl rfl ?_
      refine .v (pkT rfl q330 rfl) rfl rfl rfl ?_
      refine .nil ?_
      exact .use q318 true hF (.cons rfl (.cons rfl (.cons rfl (.cons rfl (.cons rfl (.cons rfl (.nil))))))) rfl (FH.le_refl _)
    replace hF := hF.2 q330
    refine .gv (mv rfl) rfl rfl rfl q330 rfl rfl ?_
    refine .gv (mv rfl) rfl rfl rfl q330 rfl rfl ?_
    refine .gv (ix rfl rfl tS26 (_q7.ne (by decide) (inb_pos q329)) q329) rfl rfl rfl q330 rfl rfl ?_
    refine .gv (fa rfl tF38_1) rfl rfl rfl q330 rfl rfl ?_
    refine .gv (ld1 (v := .int .i64 ((gt l i).start)) rfl tO3 (cellH (_q7.elemF q329 (by decide) 1 _ rfl))) rfl rfl rfl q330 rfl rfl ?_
    refine .gv (bi rfl rfl rfl) rfl rfl rfl q330 rfl rfl ?_
    refine .v (pkF rfl q330 rfl) rfl rfl rfl ?_
    refine .nil ?_
    exact .use q318 (decide (1000 < ((gt l i).start))) hF (.cons rfl (.cons rfl (.cons rfl (.cons rfl (.cons rfl (.cons rfl (.nil))))))) rfl (FH.le_refl _)
  replace hF := hF.2 q279
  refine .exit ?_
  refine .seqX ?_
  refine .seqX ?_
  refine .blkX ?_
  refine .seqN ?_
  refine .seq ?_
  refine .region ?_
  refine .v (ldA (cs := [.int .i64 t.facts, .slice at_ t.init.length ct, .slice at_2 t.goal.length ct2, .slice at_3 t.ops.length ct3]) rfl tA25 rfl (cellsB (off := 0) (k := 0) rfl (m := 4) rfl)) rfl rfl rfl ?_
  refine .v (mv rfl) rfl rfl rfl ?_
  obtain ⟨r3, q331⟩ : ∃ y_ : Int × Bool × Fault, y_ = sp_tcheck t l := ⟨_, rfl⟩
  replace hF := hF r3 q331
  refine .c (cl (v := .tuple #[.int .i64 r3.1, .bool r3.2.1, .agg #[.int .i64 r3.2.2.code, .int .i64 r3.2.2.index]]) Try.call9 rfl rfl (fun w S => (by rw [q331]; exact c_tcheck S.sub t at_ ct _q1 _q2 at_2 ct2 _q3 _q4 at_3 ct3 _q5 _q6 l al2 cl2 _q7 _q8 ))) rfl rfl rfl ?_
  refine .v (mv rfl) rfl rfl rfl ?_
  refine .v (ext rfl rfl) rfl rfl rfl ?_
  refine .v (ext rfl rfl) rfl rfl rfl ?_
  refine .v (ext rfl rfl) rfl rfl rfl ?_
  refine al tZ28 rfl (fun pf => ?_)
  refine .v (asg rfl) rfl rfl rfl ?_
  refine .v (asg rfl) rfl rfl rfl ?_
  refine st (p := pf) (off := 0) (k := 0) (vs := [.int .i64 r3.2.2.code, .int .i64 r3.2.2.index]) rfl rfl rfl (fun w => (tA28 w).2) rfl rfl rfl rfl ?_
  refine .cast (A' := [Box pf [.int .i64 r3.2.2.code, .int .i64 r3.2.2.index], Box pt [.int .i64 t.facts, .slice at_ t.init.length ct, .slice at_2 t.goal.length ct2, .slice at_3 t.ops.length ct3], OwnSl 38 2 alater later.length clater (flL later)]) rfl ?_
  refine .nil ?_
  refine .seqN ?_
  refine .seq ?_
  refine .region ?_
  refine .v (ldA (cs := [.int .i64 t.facts, .slice at_ t.init.length ct, .slice at_2 t.goal.length ct2, .slice at_3 t.ops.length ct3]) rfl tA25 rfl (cellsB (off := 0) (k := 1) rfl (m := 4) rfl)) rfl rfl rfl ?_
  refine .v (mv rfl) rfl rfl rfl ?_
  obtain ⟨r4, q332⟩ : ∃ y_ : Int × Bool × Fault, y_ = sp_tcheck t later := ⟨_, rfl⟩
  replace hF := hF r4 q332
  refine .c (cl (v := .tuple #[.int .i64 r4.1, .bool r4.2.1, .agg #[.int .i64 r4.2.2.code, .int .i64 r4.2.2.index]]) Try.call9 rfl rfl (fun w S => (by rw [q332]; obtain ⟨h_, hl_, hs_, hne_, hr_⟩ := look S (k := 2) rfl; exact c_tcheck hs_ t at_ ct (RSl.mono hl_ _q1) _q2 at_2 ct2 (RSl.mono hl_ _q3) _q4 at_3 ct3 (RSl.mono hl_ _q5) _q6 later alater clater (RSl.of hr_) (look_len S (k := 2) rfl) ))) rfl rfl rfl ?_
  refine .v (mv rfl) rfl rfl rfl ?_
  refine .v (ext rfl rfl) rfl rfl rfl ?_
  refine .v (ext rfl rfl) rfl rfl rfl ?_
  refine .v (ext rfl rfl) rfl rfl rfl ?_
  refine al tZ28 rfl (fun pg => ?_)
  refine .v (asg rfl) rfl rfl rfl ?_
  refine .v (asg rfl) rfl rfl rfl ?_
  refine st (p := pg) (off := 0) (k := 0) (vs := [.int .i64 r4.2.2.code, .int .i64 r4.2.2.index]) rfl rfl rfl (fun w => (tA28 w).2) rfl rfl rfl rfl ?_
  refine .cast (A' := [Box pg [.int .i64 r4.2.2.code, .int .i64 r4.2.2.index], Box pf [.int .i64 r3.2.2.code, .int .i64 r3.2.2.index], Box pt [.int .i64 t.facts, .slice at_ t.init.length ct, .slice at_2 t.goal.length ct2, .slice at_3 t.ops.length ct3], OwnSl 38 2 alater later.length clater (flL later)]) rfl ?_
  refine .nil ?_
  refine .seqN ?_
  refine .seq ?_
  refine .share (σ := Bool) (fun z => F_lawDelayed_J2 l by_ K r3 r4 z) (fun z => [(1, .slice al2 l.length cl2), (2, .int .i64 by_), (9, .int .i64 r3.1), (10, .bool r3.2.1), (11, .pointer (some pf)), (12, .int .i64 r4.1), (13, .bool r4.2.1), (14, .pointer (some pg)), (81, .bool z)]) (fun _ => [Box pf [.int .i64 r3.2.2.code, .int .i64 r3.2.2.index], Box pg [.int .i64 r4.2.2.code, .int .i64 r4.2.2.index]]) (fun _ => h) ?_ (fun q334 => ?_)
  · rintro t81 hF
    show J _ _ _ _ _ [(1, .slice al2 l.length cl2), (2, .int .i64 by_), (9, .int .i64 r3.1), (10, .bool r3.2.1), (11, .pointer (some pf)), (12, .int .i64 r4.1), (13, .bool r4.2.1), (14, .pointer (some pg)), (81, .bool t81)] [Box pf [.int .i64 r3.2.2.code, .int .i64 r3.2.2.index], Box pg [.int .i64 r4.2.2.code, .int .i64 r4.2.2.index]] h
    refine .cond rfl (fun q340 => ?_) (fun q340 => ?_)
    · replace hF := hF.1 q340
      refine .seq ?_
      refine .region ?_
      refine .v (ldA (cs := [.int .i64 r3.2.2.code, .int .i64 r3.2.2.index]) rfl tA28 rfl (cellsB (off := 0) (k := 0) rfl (m := 2) rfl)) rfl rfl rfl ?_
      refine .v (ldA (cs := [.int .i64 r4.2.2.code, .int .i64 r4.2.2.index]) rfl tA28 rfl (cellsB (off := 0) (k := 1) rfl (m := 2) rfl)) rfl rfl rfl ?_
      refine .v (eq2 tE28 rfl rfl) rfl rfl rfl ?_
      refine .v (mv rfl) rfl rfl rfl ?_
      rcases Bool.eq_false_or_eq_true ((r3.2.2.code == r4.2.2.code) && (r3.2.2.index == r4.2.2.index)) with q343 | q343
      · replace hF := hF.1 q343
        obtain ⟨r5, q344⟩ : ∃ y_ : Bool, y_ = sp_lasted := ⟨_, rfl⟩
        replace hF := hF r5 q344
        refine .gc (cl (v := .bool r5) Try.call13 rfl rfl (fun w S => (by rw [q344]; exact c_lasted S.sub  ))) rfl rfl rfl q343 rfl rfl ?_
        refine .v (pkT rfl q343 rfl) rfl rfl rfl ?_
        refine .v (asg rfl) rfl rfl rfl ?_
        refine .nil ?_
        refine .seqN ?_
        refine .ret ?_
        refine .seqR ?_
        refine .res1 rfl (rvT rfl) (fun w' S => ⟨r5, hF, rfl, S.below⟩)
      replace hF := hF.2 q343
      refine .gS rfl rfl rfl q343 rfl rfl ?_
      refine .v (pkF rfl q343 rfl) rfl rfl rfl ?_
      refine .v (asg rfl) rfl rfl rfl ?_
      refine .nil ?_
      refine .seqN ?_
      refine .ret ?_
      refine .seqR ?_
      refine .res1 rfl (rvT rfl) (fun w' S => ⟨false, hF, rfl, S.below⟩)
    replace hF := hF.2 q340
    refine .skip ?_
    refine .seqN ?_
    refine .seq ?_
    refine .region ?_
    refine .v (mv rfl) rfl rfl rfl ?_
    refine .v (mv rfl) rfl rfl rfl ?_
    refine .v (beql Try.underlying4 rfl rfl) rfl rfl rfl ?_
    refine .v (mv rfl) rfl rfl rfl ?_
    rcases Bool.eq_false_or_eq_true (r3.2.1 == r4.2.1) with q357 | q357
    · replace hF := hF.1 q357
      refine .gv (mv rfl) rfl rfl rfl q357 rfl rfl ?_
      refine .gv (nt rfl) rfl rfl rfl q357 rfl rfl ?_
      refine .gv (mv rfl) rfl rfl rfl q357 rfl rfl ?_
      rcases Bool.eq_false_or_eq_true (!r3.2.1) with q358 | q358
      · replace hF := hF.1 q358
        refine .gS rfl rfl rfl q358 rfl rfl ?_
        refine .gS rfl rfl rfl q358 rfl rfl ?_
        refine .gS rfl rfl rfl q358 rfl rfl ?_
        refine .gS rfl rfl rfl q358 rfl rfl ?_
        refine .gU rfl rfl rfl rfl rfl ?_
        refine .gU rfl rfl rfl rfl rfl ?_
        refine .gU rfl rfl rfl rfl rfl ?_
        refine .gS rfl rfl rfl q358 rfl rfl ?_
        refine .gv (pkT rfl q358 rfl) rfl rfl rfl q357 rfl rfl ?_
        refine .gv (mv rfl) rfl rfl rfl q357 rfl rfl ?_
        refine .gS rfl rfl rfl rfl rfl rfl ?_
        refine .gS rfl rfl rfl rfl rfl rfl ?_
        refine .gS rfl rfl rfl rfl rfl rfl ?_
        refine .gS rfl rfl rfl rfl rfl rfl ?_
        refine .gU rfl rfl rfl rfl rfl ?_
        refine .gU rfl rfl rfl rfl rfl ?_
        refine .gU rfl rfl rfl rfl rfl ?_
        refine .gU rfl rfl rfl rfl rfl ?_
        refine .gU rfl rfl rfl rfl rfl ?_
        refine .gS rfl rfl rfl rfl rfl rfl ?_
        refine .gv (pkT rfl rfl rfl) rfl rfl rfl q357 rfl rfl ?_
        refine .v (pkT rfl q357 rfl) rfl rfl rfl ?_
        refine .v (mv rfl) rfl rfl rfl ?_
        obtain ⟨r6, q359⟩ : ∃ y_ : Bool, y_ = sp_lasted := ⟨_, rfl⟩
        replace hF := hF r6 q359
        refine .gc (cl (v := .bool r6) Try.call13 rfl rfl (fun w S => (by rw [q359]; exact c_lasted S.sub  ))) rfl rfl rfl rfl rfl rfl ?_
        refine .v (pkT rfl rfl rfl) rfl rfl rfl ?_
        refine .v (asg rfl) rfl rfl rfl ?_
        refine .nil ?_
        refine .seqN ?_
        refine .ret ?_
        refine .res1 rfl (rvT rfl) (fun w' S => ⟨r6, hF, rfl, S.below⟩)
      replace hF := hF.2 q358
      refine .gv (mv rfl) rfl rfl rfl q358 rfl rfl ?_
      refine .gv (ln rfl tS26.is) rfl rfl rfl q358 rfl rfl ?_
      refine .gv (bi rfl rfl rfl) rfl rfl rfl q358 rfl rfl ?_
      refine .gv (mv rfl) rfl rfl rfl q358 rfl rfl ?_
      rcases Bool.eq_false_or_eq_true (((l.length : Nat) : Int) == 0) with q360 | q360
      · replace hF := hF.1 q360
        refine .gv (mv rfl) rfl rfl rfl q360 rfl rfl ?_
        refine .gv (mv rfl) rfl rfl rfl q360 rfl rfl ?_
        refine .gv (bi rfl rfl rfl) rfl rfl rfl q360 rfl rfl ?_
        refine .gv (pkT rfl q360 rfl) rfl rfl rfl q358 rfl rfl ?_
        refine .gv (pkF rfl q358 rfl) rfl rfl rfl q357 rfl rfl ?_
        refine .gv (mv rfl) rfl rfl rfl q357 rfl rfl ?_
        rcases Bool.eq_false_or_eq_true (r4.1 == r3.1) with q361 | q361
        · replace hF := hF.1 q361
          refine .gS rfl rfl rfl q361 rfl rfl ?_
          refine .gS rfl rfl rfl q361 rfl rfl ?_
          refine .gS rfl rfl rfl q361 rfl rfl ?_
          refine .gS rfl rfl rfl q361 rfl rfl ?_
          refine .gU rfl rfl rfl rfl rfl ?_
          refine .gU rfl rfl rfl rfl rfl ?_
          refine .gU rfl rfl rfl rfl rfl ?_
          refine .gU rfl rfl rfl rfl rfl ?_
          refine .gU rfl rfl rfl rfl rfl ?_
          refine .gS rfl rfl rfl q361 rfl rfl ?_
          refine .gv (pkT rfl q361 rfl) rfl rfl rfl q357 rfl rfl ?_
          refine .v (pkT rfl q357 rfl) rfl rfl rfl ?_
          refine .v (mv rfl) rfl rfl rfl ?_
          obtain ⟨r7, q362⟩ : ∃ y_ : Bool, y_ = sp_lasted := ⟨_, rfl⟩
          replace hF := hF r7 q362
          refine .gc (cl (v := .bool r7) Try.call13 rfl rfl (fun w S => (by rw [q362]; exact c_lasted S.sub  ))) rfl rfl rfl rfl rfl rfl ?_
          refine .v (pkT rfl rfl rfl) rfl rfl rfl ?_
          refine .v (asg rfl) rfl rfl rfl ?_
          refine .nil ?_
          refine .seqN ?_
          refine .ret ?_
          refine .res1 rfl (rvT rfl) (fun w' S => ⟨r7, hF, rfl, S.below⟩)
        replace hF := hF.2 q361
        refine .gv (mv rfl) rfl rfl rfl q361 rfl rfl ?_
        refine .gv (ln rfl tS26.is) rfl rfl rfl q361 rfl rfl ?_
        refine .gv (bi rfl rfl rfl) rfl rfl rfl q361 rfl rfl ?_
        refine .gv (mv rfl) rfl rfl rfl q361 rfl rfl ?_
        rcases Bool.eq_false_or_eq_true (decide (0 < ((l.length : Nat) : Int))) with q363 | q363
        · replace hF := hF.1 q363
          refine .gv (mv rfl) rfl rfl rfl q363 rfl rfl ?_
          refine .gv (mv rfl) rfl rfl rfl q363 rfl rfl ?_
          refine .gv (mv rfl) rfl rfl rfl q363 rfl rfl ?_
          refine .gv (bi rfl rfl rfl) rfl rfl rfl q363 rfl rfl ?_
          refine .gv (bi rfl rfl rfl) rfl rfl rfl q363 rfl rfl ?_
          refine .gv (pkT rfl q363 rfl) rfl rfl rfl q361 rfl rfl ?_
          refine .gv (pkF rfl q361 rfl) rfl rfl rfl q357 rfl rfl ?_
          refine .v (pkT rfl q357 rfl) rfl rfl rfl ?_
          refine .v (mv rfl) rfl rfl rfl ?_
          rcases Bool.eq_false_or_eq_true (r4.1 == (IntKind.i64.wrap (r3.1 + by_))) with q364 | q364
          · replace hF := hF.1 q364
            obtain ⟨r8, q365⟩ : ∃ y_ : Bool, y_ = sp_lasted := ⟨_, rfl⟩
            replace hF := hF r8 q365
            refine .gc (cl (v := .bool r8) Try.call13 rfl rfl (fun w S => (by rw [q365]; exact c_lasted S.sub  ))) rfl rfl rfl q364 rfl rfl ?_
            refine .v (pkT rfl q364 rfl) rfl rfl rfl ?_
            refine .v (asg rfl) rfl rfl rfl ?_
            refine .nil ?_
            refine .seqN ?_
            refine .ret ?_
            refine .res1 rfl (rvT rfl) (fun w' S => ⟨r8, hF, rfl, S.below⟩)
          replace hF := hF.2 q364
          refine .gS rfl rfl rfl q364 rfl rfl ?_
          refine .v (pkF rfl q364 rfl) rfl rfl rfl ?_
          refine .v (asg rfl) rfl rfl rfl ?_
          refine .nil ?_
          refine .seqN ?_
          refine .ret ?_
          refine .res1 rfl (rvT rfl) (fun w' S => ⟨false, hF, rfl, S.below⟩)
        replace hF := hF.2 q363
        refine .gS rfl rfl rfl q363 rfl rfl ?_
        refine .gS rfl rfl rfl q363 rfl rfl ?_
        refine .gS rfl rfl rfl q363 rfl rfl ?_
        refine .gS rfl rfl rfl q363 rfl rfl ?_
        refine .gS rfl rfl rfl q363 rfl rfl ?_
        refine .gv (pkF rfl q363 rfl) rfl rfl rfl q361 rfl rfl ?_
        refine .gv (pkF rfl q361 rfl) rfl rfl rfl q357 rfl rfl ?_
        refine .v (pkT rfl q357 rfl) rfl rfl rfl ?_
        refine .v (mv rfl) rfl rfl rfl ?_
        refine .gS rfl rfl rfl rfl rfl rfl ?_
        refine .v (pkF rfl rfl rfl) rfl rfl rfl ?_
        refine .v (asg rfl) rfl rfl rfl ?_
        refine .nil ?_
        refine .seqN ?_
        refine .ret ?_
        refine .res1 rfl (rvT rfl) (fun w' S => ⟨false, hF, rfl, S.below⟩)
      replace hF := hF.2 q360
      refine .gS rfl rfl rfl q360 rfl rfl ?_
      refine .gS rfl rfl rfl q360 rfl rfl ?_
      refine .gS rfl rfl rfl q360 rfl rfl ?_
      refine .gv (pkF rfl q360 rfl) rfl rfl rfl q358 rfl rfl ?_
      refine .gv (pkF rfl q358 rfl) rfl rfl rfl q357 rfl rfl ?_
      refine .gv (mv rfl) rfl rfl rfl q357 rfl rfl ?_
      refine .gv (mv rfl) rfl rfl rfl rfl rfl rfl ?_
      refine .gv (ln rfl tS26.is) rfl rfl rfl rfl rfl rfl ?_
      refine .gv (bi rfl rfl rfl) rfl rfl rfl rfl rfl rfl ?_
      refine .gv (mv rfl) rfl rfl rfl rfl rfl rfl ?_
      rcases Bool.eq_false_or_eq_true (decide (0 < ((l.length : Nat) : Int))) with q366 | q366
      · replace hF := hF.1 q366
        refine .gv (mv rfl) rfl rfl rfl q366 rfl rfl ?_
        refine .gv (mv rfl) rfl rfl rfl q366 rfl rfl ?_
        refine .gv (mv rfl) rfl rfl rfl q366 rfl rfl ?_
        refine .gv (bi rfl rfl rfl) rfl rfl rfl q366 rfl rfl ?_
        refine .gv (bi rfl rfl rfl) rfl rfl rfl q366 rfl rfl ?_
        refine .gv (pkT rfl q366 rfl) rfl rfl rfl rfl rfl rfl ?_
        refine .gv (pkF rfl rfl rfl) rfl rfl rfl q357 rfl rfl ?_
        refine .v (pkT rfl q357 rfl) rfl rfl rfl ?_
        refine .v (mv rfl) rfl rfl rfl ?_
        rcases Bool.eq_false_or_eq_true (r4.1 == (IntKind.i64.wrap (r3.1 + by_))) with q367 | q367
        · replace hF := hF.1 q367
          obtain ⟨r9, q368⟩ : ∃ y_ : Bool, y_ = sp_lasted := ⟨_, rfl⟩
          replace hF := hF r9 q368
          refine .gc (cl (v := .bool r9) Try.call13 rfl rfl (fun w S => (by rw [q368]; exact c_lasted S.sub  ))) rfl rfl rfl q367 rfl rfl ?_
          refine .v (pkT rfl q367 rfl) rfl rfl rfl ?_
          refine .v (asg rfl) rfl rfl rfl ?_
          refine .nil ?_
          refine .seqN ?_
          refine .ret ?_
          refine .res1 rfl (rvT rfl) (fun w' S => ⟨r9, hF, rfl, S.below⟩)
        replace hF := hF.2 q367
        refine .gS rfl rfl rfl q367 rfl rfl ?_
        refine .v (pkF rfl q367 rfl) rfl rfl rfl ?_
        refine .v (asg rfl) rfl rfl rfl ?_
        refine .nil ?_
        refine .seqN ?_
        refine .ret ?_
        refine .res1 rfl (rvT rfl) (fun w' S => ⟨false, hF, rfl, S.below⟩)
      replace hF := hF.2 q366
      refine .gS rfl rfl rfl q366 rfl rfl ?_
      refine .gS rfl rfl rfl q366 rfl rfl ?_
      refine .gS rfl rfl rfl q366 rfl rfl ?_
      refine .gS rfl rfl rfl q366 rfl rfl ?_
      refine .gS rfl rfl rfl q366 rfl rfl ?_
      refine .gv (pkF rfl q366 rfl) rfl rfl rfl rfl rfl rfl ?_
      refine .gv (pkF rfl rfl rfl) rfl rfl rfl q357 rfl rfl ?_
      refine .v (pkT rfl q357 rfl) rfl rfl rfl ?_
      refine .v (mv rfl) rfl rfl rfl ?_
      refine .gS rfl rfl rfl rfl rfl rfl ?_
      refine .v (pkF rfl rfl rfl) rfl rfl rfl ?_
      refine .v (asg rfl) rfl rfl rfl ?_
      refine .nil ?_
      refine .seqN ?_
      refine .ret ?_
      refine .res1 rfl (rvT rfl) (fun w' S => ⟨false, hF, rfl, S.below⟩)
    replace hF := hF.2 q357
    refine .gS rfl rfl rfl q357 rfl rfl ?_
    refine .gS rfl rfl rfl q357 rfl rfl ?_
    refine .gS rfl rfl rfl q357 rfl rfl ?_
    refine .gU rfl rfl rfl rfl rfl ?_
    refine .gU rfl rfl rfl rfl rfl ?_
    refine .gU rfl rfl rfl rfl rfl ?_
    refine .gU rfl rfl rfl rfl rfl ?_
    refine .gU rfl rfl rfl rfl rfl ?_
    refine .gU rfl rfl rfl rfl rfl ?_
    refine .gU rfl rfl rfl rfl rfl ?_
    refine .gU rfl rfl rfl rfl rfl ?_
    refine .gS rfl rfl rfl q357 rfl rfl ?_
    refine .gS rfl rfl rfl q357 rfl rfl ?_
    refine .gU rfl rfl rfl rfl rfl ?_
    refine .gU rfl rfl rfl rfl rfl ?_
    refine .gU rfl rfl rfl rfl rfl ?_
    refine .gU rfl rfl rfl rfl rfl ?_
    refine .gU rfl rfl rfl rfl rfl ?_
    refine .gU rfl rfl rfl rfl rfl ?_
    refine .gU rfl rfl rfl rfl rfl ?_
    refine .gU rfl rfl rfl rfl rfl ?_
    refine .gU rfl rfl rfl rfl rfl ?_
    refine .gU rfl rfl rfl rfl rfl ?_
    refine .gS rfl rfl rfl q357 rfl rfl ?_
    refine .v (pkF rfl q357 rfl) rfl rfl rfl ?_
    refine .v (mv rfl) rfl rfl rfl ?_
    refine .gS rfl rfl rfl rfl rfl rfl ?_
    refine .v (pkF rfl rfl rfl) rfl rfl rfl ?_
    refine .v (asg rfl) rfl rfl rfl ?_
    refine .nil ?_
    refine .seqN ?_
    refine .ret ?_
    refine .res1 rfl (rvT rfl) (fun w' S => ⟨false, hF, rfl, S.below⟩)
  refine .region ?_
  refine .v (fa rfl tF28_0) rfl rfl rfl ?_
  refine .v (ld1 rfl tO3 (cellB (off := 0) (k := 1) rfl rfl)) rfl rfl rfl ?_
  refine .v (bi rfl rfl rfl) rfl rfl rfl ?_
  refine .v (mv rfl) rfl rfl rfl ?_
  rcases Bool.eq_false_or_eq_true (r3.2.2.code != 0) with q369 | q369
  · replace hF := hF.1 q369
    refine .gS rfl rfl rfl q369 rfl rfl ?_
    refine .gS rfl rfl rfl q369 rfl rfl ?_
    refine .gS rfl rfl rfl q369 rfl rfl ?_
    refine .v (pkT rfl q369 rfl) rfl rfl rfl ?_
    refine .nil ?_
    refine .sel0 [1, 0] (by decide) rfl ?_
    exact .use q334 true hF (.cons rfl (.cons rfl (.cons rfl (.cons rfl (.cons rfl (.cons rfl (.cons rfl (.cons rfl (.cons rfl (.nil)))))))))) rfl (FH.le_refl _)
  replace hF := hF.2 q369
  refine .gv (fa rfl tF28_0) rfl rfl rfl q369 rfl rfl ?_
  refine .gv (ld1 rfl tO3 (cellB (off := 0) (k := 0) rfl rfl)) rfl rfl rfl q369 rfl rfl ?_
  refine .gv (bi rfl rfl rfl) rfl rfl rfl q369 rfl rfl ?_
  refine .v (pkF rfl q369 rfl) rfl rfl rfl ?_
  refine .nil ?_
  refine .sel0 [1, 0] (by decide) rfl ?_
  exact .use q334 (r4.2.2.code != 0) hF (.cons rfl (.cons rfl (.cons rfl (.cons rfl (.cons rfl (.cons rfl (.cons rfl (.cons rfl (.cons rfl (.nil)))))))))) rfl (FH.le_refl _)

theorem c_lawDelayed {h : FH} {w : World} (hs : Sub h w) (t : TTask) (at_ : Option Addr) (ct : Nat) (_q1 : RSl h at_ t.init) (_q2 : t.init.length ≤ ct) (at_2 : Option Addr) (ct2 : Nat) (_q3 : RSl h at_2 t.goal) (_q4 : t.goal.length ≤ ct2) (at_3 : Option Addr) (ct3 : Nat) (_q5 : RSl h at_3 t.ops) (_q6 : t.ops.length ≤ ct3) (l : List Occ) (al2 : Option Addr) (cl2 : Nat) (_q7 : RSl h al2 l) (_q8 : l.length ≤ cl2) (by_ : Int) (hp : pre_lawDelayed t l by_) : Calls Try.prog 4 #[.agg #[.int .i64 t.facts, .slice at_ t.init.length ct, .slice at_2 t.goal.length ct2, .slice at_3 t.ops.length ct3], .slice al2 l.length cl2, .int .i64 by_] w fun e w' => e = .returned (.bool (sp_lawDelayed t l by_)) ∧ Below w.heap.size w w' :=
  (w_lawDelayed hs t at_ ct _q1 _q2 at_2 ct2 _q3 _q4 at_3 ct3 _q5 _q6 l al2 cl2 _q7 _q8 by_ (fun r => r = sp_lawDelayed t l by_) (ok_lawDelayed t l by_ hp)).mono fun _ _ ⟨_, hk, he, hb⟩ => ⟨by rw [he, hk], hb⟩

set_option maxHeartbeats 8000000 in
theorem w_lawEndsLast {h : FH} {w : World} (hs : Sub h w) (t : TTask) (at_ : Option Addr) (ct : Nat) (_q1 : RSl h at_ t.init) (_q2 : t.init.length ≤ ct) (at_2 : Option Addr) (ct2 : Nat) (_q3 : RSl h at_2 t.goal) (_q4 : t.goal.length ≤ ct2) (at_3 : Option Addr) (ct3 : Nat) (_q5 : RSl h at_3 t.ops) (_q6 : t.ops.length ≤ ct3) (l : List Occ) (al2 : Option Addr) (cl2 : Nat) (_q7 : RSl h al2 l) (_q8 : l.length ≤ cl2) (K : Bool → Prop) (hF : F_lawEndsLast t l K) : Calls Try.prog 5 #[.agg #[.int .i64 t.facts, .slice at_ t.init.length ct, .slice at_2 t.goal.length ct2, .slice at_3 t.ops.length ct3], .slice al2 l.length cl2] w fun e w' => ∃ r : Bool, K r ∧ e = .returned (.bool r) ∧ Below w.heap.size w w' := by
  refine enter (args := [.agg #[.int .i64 t.facts, .slice at_ t.init.length ct, .slice at_2 t.goal.length ct2, .slice at_3 t.ops.length ct3], .slice al2 l.length cl2]) Try.func5 rfl Try.ntmps5 rfl hs ?_
  refine .seq ?_
  refine .region ?_
  refine bx (vs := [.int .i64 t.facts, .slice at_ t.init.length ct, .slice at_2 t.goal.length ct2, .slice at_3 t.ops.length ct3]) rfl rfl rfl (fun pt => ?_)
  refine .v (asg rfl) rfl rfl rfl ?_
  refine .nil ?_
  refine .seqN ?_
  refine .seq ?_
  refine .region ?_
  refine .v (ldA (cs := [.int .i64 t.facts, .slice at_ t.init.length ct, .slice at_2 t.goal.length ct2, .slice at_3 t.ops.length ct3]) rfl tA25 rfl (cellsB (off := 0) (k := 0) rfl (m := 4) rfl)) rfl rfl rfl ?_
  refine .v (mv rfl) rfl rfl rfl ?_
  obtain ⟨r2, q9⟩ : ∃ y_ : Int × Bool × Fault, y_ = sp_tcheck t l := ⟨_, rfl⟩
  replace hF := hF r2 q9
  refine .c (cl (v := .tuple #[.int .i64 r2.1, .bool r2.2.1, .agg #[.int .i64 r2.2.2.code, .int .i64 r2.2.2.index]]) Try.call9 rfl rfl (fun w S => (by rw [q9]; exact c_tcheck S.sub t at_ ct _q1 _q2 at_2 ct2 _q3 _q4 at_3 ct3 _q5 _q6 l al2 cl2 _q7 _q8 ))) rfl rfl rfl ?_
  refine .v (mv rfl) rfl rfl rfl ?_
  refine .v (ext rfl rfl) rfl rfl rfl ?_
  refine .v (ext rfl rfl) rfl rfl rfl ?_
  refine .v (ext rfl rfl) rfl rfl rfl ?_
  refine al tZ28 rfl (fun pf => ?_)
  refine .v (asg rfl) rfl rfl rfl ?_
  refine .v (asg rfl) rfl rfl rfl ?_
  refine st (p := pf) (off := 0) (k := 0) (vs := [.int .i64 r2.2.2.code, .int .i64 r2.2.2.index]) rfl rfl rfl (fun w => (tA28 w).2) rfl rfl rfl rfl ?_
  refine .cast (A' := [Box pf [.int .i64 r2.2.2.code, .int .i64 r2.2.2.index], Box pt [.int .i64 t.facts, .slice at_ t.init.length ct, .slice at_2 t.goal.length ct2, .slice at_3 t.ops.length ct3]]) rfl ?_
  refine .nil ?_
  refine .seqN ?_
  refine .seq ?_
  refine .share (σ := Bool) (fun z => F_lawEndsLast_J1 t l K r2 z) (fun z => [(1, .slice al2 l.length cl2), (2, .pointer (some pt)), (5, .int .i64 r2.1), (24, .bool z)]) (fun _ => [Box pt [.int .i64 t.facts, .slice at_ t.init.length ct, .slice at_2 t.goal.length ct2, .slice at_3 t.ops.length ct3]]) (fun _ => h) ?_ (fun q11 => ?_)
  · rintro t24 hF
    show J _ _ _ _ _ [(1, .slice al2 l.length cl2), (2, .pointer (some pt)), (5, .int .i64 r2.1), (24, .bool t24)] [Box pt [.int .i64 t.facts, .slice at_ t.init.length ct, .slice at_2 t.goal.length ct2, .slice at_3 t.ops.length ct3]] h
    refine .cond rfl (fun q14 => ?_) (fun q14 => ?_)
    · replace hF := hF.1 q14
      refine .seq ?_
      refine .region ?_
      obtain ⟨r3, q15⟩ : ∃ y_ : Bool, y_ = sp_lasted := ⟨_, rfl⟩
      replace hF := hF r3 q15
      refine .c (cl (v := .bool r3) Try.call13 rfl rfl (fun w S => (by rw [q15]; exact c_lasted S.sub  ))) rfl rfl rfl ?_
      refine .v (asg rfl) rfl rfl rfl ?_
      refine .nil ?_
      refine .seqN ?_
      refine .ret ?_
      refine .seqR ?_
      refine .res1 rfl (rvT rfl) (fun w' S => ⟨r3, hF, rfl, S.below⟩)
    replace hF := hF.2 q14
    refine .skip ?_
    refine .seqN ?_
    refine .seq ?_
    refine .region ?_
    refine .v (asg rfl) rfl rfl rfl ?_
    refine .nil ?_
    refine .seqN ?_
    refine .seq ?_
    refine .seq ?_
    refine .region ?_
    refine .v (asg rfl) rfl rfl rfl ?_
    refine .nil ?_
    refine .seqN ?_
    refine .block ?_
    obtain ⟨I1, μ1, q223, q224⟩ := hF
    refine .loop' (σ := Int × Int) (fun z => I1 z.1 z.2) (fun z => μ1 z.1 z.2) (fun z => [(1, .slice al2 l.length cl2), (2, .pointer (some pt)), (5, .int .i64 r2.1), (8, .int .i64 z.1), (9, .int .i64 z.2)]) (fun _ => [Box pt [.int .i64 t.facts, .slice at_ t.init.length ct, .slice at_2 t.goal.length ct2, .slice at_3 t.ops.length ct3]]) (fun _ => h) (0, 0) q223 (.cons rfl (.cons rfl (.cons rfl (.cons rfl (.cons rfl (.nil)))))) rfl (FH.le_refl _) ?_
    rintro ⟨last, i⟩ q223
    have hF := q224 last i q223
    show J _ _ _ _ _ [(1, .slice al2 l.length cl2), (2, .pointer (some pt)), (5, .int .i64 r2.1), (8, .int .i64 last), (9, .int .i64 i)] [Box pt [.int .i64 t.facts, .slice at_ t.init.length ct, .slice at_2 t.goal.length ct2, .slice at_3 t.ops.length ct3]] h
    refine .seq ?_
    refine .seq ?_
    refine .region ?_
    refine .v (mv rfl) rfl rfl rfl ?_
    refine .v (mv rfl) rfl rfl rfl ?_
    refine .v (ln rfl tS26.is) rfl rfl rfl ?_
    refine .v (bi rfl rfl rfl) rfl rfl rfl ?_
    refine .nil ?_
    refine .seqN ?_
    refine .cond rfl (fun q226 => ?_) (fun q226 => ?_)
    · replace hF := hF.1 q226
      refine .skip ?_
      refine .seqN ?_
      refine .share (σ := Int) (fun z => F_lawEndsLast_J2 last i I1 μ1 z) (fun z => [(1, .slice al2 l.length cl2), (2, .pointer (some pt)), (5, .int .i64 r2.1), (8, .int .i64 z), (9, .int .i64 i)]) (fun _ => [Box pt [.int .i64 t.facts, .slice at_ t.init.length ct, .slice at_2 t.goal.length ct2, .slice at_3 t.ops.length ct3]]) (fun _ => h) ?_ (fun q246 => ?_)
      · rintro last3 hF
        show J _ _ _ _ _ [(1, .slice al2 l.length cl2), (2, .pointer (some pt)), (5, .int .i64 r2.1), (8, .int .i64 last3), (9, .int .i64 i)] [Box pt [.int .i64 t.facts, .slice at_ t.init.length ct, .slice at_2 t.goal.length ct2, .slice at_3 t.ops.length ct3]] h
        refine .region ?_
        refine .v (mv rfl) rfl rfl rfl ?_
        refine .v (bi rfl rfl rfl) rfl rfl rfl ?_
        refine .v (asg rfl) rfl rfl rfl ?_
        refine .nil ?_
        exact .round (last3, IntKind.i64.wrap (i + 1)) hF.1 hF.2 (.cons rfl (.cons rfl (.cons rfl (.cons rfl (.cons rfl (.nil)))))) rfl (FH.le_refl _)
      refine .block ?_
      refine .seq ?_
      refine .open_ (by kernel_rfl) (by kernel_rfl) ?_
      refine .v (mv rfl) rfl rfl rfl ?_
      refine .v (mv rfl) rfl rfl rfl ?_
      obtain ⟨q247, hF⟩ := hF
      refine .v (ix rfl rfl tS26 (_q7.ne (by decide) (inb_pos q247)) q247) rfl rfl rfl ?_
      refine .v (fa rfl tF38_1) rfl rfl rfl ?_
      refine .v (ld1 (v := .int .i64 ((gt l i).start)) rfl tO3 (cellH (_q7.elemF q247 (by decide) 1 _ rfl))) rfl rfl rfl ?_
      refine .v (fa rfl tF25_3) rfl rfl rfl ?_
      refine .v (ld1 rfl tO23 (cellB (off := 3) (k := 0) rfl rfl)) rfl rfl rfl ?_
      refine .v (mv rfl) rfl rfl rfl ?_
      refine .v (mv rfl) rfl rfl rfl ?_
      refine .v (ix rfl rfl tS26 (_q7.ne (by decide) (inb_pos q247)) q247) rfl rfl rfl ?_
      refine .v (fa rfl tF38_0) rfl rfl rfl ?_
      refine .v (ld1 (v := .int .i64 ((gt l i).op)) rfl tO3 (cellH (_q7.elemF q247 (by decide) 0 _ rfl))) rfl rfl rfl ?_
      obtain ⟨q248, hF⟩ := hF
      refine .v (ix rfl rfl tS23 (_q5.ne (by decide) (inb_pos q248)) q248) rfl rfl rfl ?_
      refine .v (fa rfl tF41_7) rfl rfl rfl ?_
      obtain ⟨_, ⟨a, c, a2, c2, a3, c3, a4, c4, a5, c5, a6, c6, a7, c7, rfl, ⟨q249, q250⟩, ⟨q251, q252⟩, ⟨q253, q254⟩, ⟨q255, q256⟩, ⟨q257, q258⟩, ⟨q259, q260⟩, q261, q262⟩, q263⟩ := _q5.elem q248
      refine .v (ld1 (v := .int .i64 ((gt t.ops ((gt l i).op)).dur)) rfl tO3 (cellH (q263 (by decide) 7 _ rfl))) rfl rfl rfl ?_
      obtain ⟨x, q264⟩ : ∃ y_ : Int, y_ = (IntKind.i64.wrap (((gt l i).start) + ((gt t.ops ((gt l i).op)).dur))) := ⟨_, rfl⟩
      replace hF := hF x q264
      refine .v (v := .int .i64 x) (by rw [q264]; exact bi rfl rfl rfl) rfl rfl rfl ?_
      refine .v (asg rfl) rfl rfl rfl ?_
      refine .fin ?_
      refine .seqN ?_
      refine .seq ?_
      refine .region ?_
      refine .v (mv rfl) rfl rfl rfl ?_
      refine .v (mv rfl) rfl rfl rfl ?_
      refine .v (bi rfl rfl rfl) rfl rfl rfl ?_
      refine .nil ?_
      refine .seqN ?_
      refine .cond rfl (fun q265 => ?_) (fun q265 => ?_)
      · replace hF := hF.1 q265
        refine .region ?_
        refine .v (mv rfl) rfl rfl rfl ?_
        refine .v (asg rfl) rfl rfl rfl ?_
        refine .nil ?_
        refine .blkN ?_
        exact .use q246 x hF (.cons rfl (.cons rfl (.cons rfl (.cons rfl (.cons rfl (.nil)))))) rfl (FH.le_refl _)
      replace hF := hF.2 q265
      refine .skip ?_
      refine .blkN ?_
      exact .use q246 last hF (.cons rfl (.cons rfl (.cons rfl (.cons rfl (.cons rfl (.nil)))))) rfl (FH.le_refl _)
    replace hF := hF.2 q226
    refine .exit ?_
    refine .seqX ?_
    refine .seqX ?_
    refine .blkX ?_
    refine .seqN ?_
    refine .seq ?_
    refine .region ?_
    refine .v (mv rfl) rfl rfl rfl ?_
    refine .v (mv rfl) rfl rfl rfl ?_
    refine .v (bi rfl rfl rfl) rfl rfl rfl ?_
    refine .v (mv rfl) rfl rfl rfl ?_
    rcases Bool.eq_false_or_eq_true (r2.1 == last) with q268 | q268
    · replace hF := hF.1 q268
      obtain ⟨r4, q269⟩ : ∃ y_ : Bool, y_ = sp_lasted := ⟨_, rfl⟩
      replace hF := hF r4 q269
      refine .gc (cl (v := .bool r4) Try.call13 rfl rfl (fun w S => (by rw [q269]; exact c_lasted S.sub  ))) rfl rfl rfl q268 rfl rfl ?_
      refine .v (pkT rfl q268 rfl) rfl rfl rfl ?_
      refine .v (asg rfl) rfl rfl rfl ?_
      refine .nil ?_
      refine .seqN ?_
      refine .ret ?_
      refine .res1 rfl (rvT rfl) (fun w' S => ⟨r4, hF, rfl, S.below⟩)
    replace hF := hF.2 q268
    refine .gS rfl rfl rfl q268 rfl rfl ?_
    refine .v (pkF rfl q268 rfl) rfl rfl rfl ?_
    refine .v (asg rfl) rfl rfl rfl ?_
    refine .nil ?_
    refine .seqN ?_
    refine .ret ?_
    refine .res1 rfl (rvT rfl) (fun w' S => ⟨false, hF, rfl, S.below⟩)
  refine .region ?_
  refine .v (fa rfl tF28_0) rfl rfl rfl ?_
  refine .v (ld1 rfl tO3 (cellB (off := 0) (k := 0) rfl rfl)) rfl rfl rfl ?_
  refine .v (bi rfl rfl rfl) rfl rfl rfl ?_
  refine .v (mv rfl) rfl rfl rfl ?_
  rcases Bool.eq_false_or_eq_true (r2.2.2.code != 0) with q270 | q270
  · replace hF := hF.1 q270
    refine .gS rfl rfl rfl q270 rfl rfl ?_
    refine .gS rfl rfl rfl q270 rfl rfl ?_
    refine .v (pkT rfl q270 rfl) rfl rfl rfl ?_
    refine .nil ?_
    refine .sel0 [1] (by decide) rfl ?_
    exact .use q11 true hF (.cons rfl (.cons rfl (.cons rfl (.cons rfl (.nil))))) rfl (FH.le_refl _)
  replace hF := hF.2 q270
  refine .gv (mv rfl) rfl rfl rfl q270 rfl rfl ?_
  refine .gv (nt rfl) rfl rfl rfl q270 rfl rfl ?_
  refine .v (pkF rfl q270 rfl) rfl rfl rfl ?_
  refine .nil ?_
  refine .sel0 [1] (by decide) rfl ?_
  exact .use q11 (!r2.2.1) hF (.cons rfl (.cons rfl (.cons rfl (.cons rfl (.nil))))) rfl (FH.le_refl _)

theorem c_lawEndsLast {h : FH} {w : World} (hs : Sub h w) (t : TTask) (at_ : Option Addr) (ct : Nat) (_q1 : RSl h at_ t.init) (_q2 : t.init.length ≤ ct) (at_2 : Option Addr) (ct2 : Nat) (_q3 : RSl h at_2 t.goal) (_q4 : t.goal.length ≤ ct2) (at_3 : Option Addr) (ct3 : Nat) (_q5 : RSl h at_3 t.ops) (_q6 : t.ops.length ≤ ct3) (l : List Occ) (al2 : Option Addr) (cl2 : Nat) (_q7 : RSl h al2 l) (_q8 : l.length ≤ cl2) : Calls Try.prog 5 #[.agg #[.int .i64 t.facts, .slice at_ t.init.length ct, .slice at_2 t.goal.length ct2, .slice at_3 t.ops.length ct3], .slice al2 l.length cl2] w fun e w' => e = .returned (.bool (sp_lawEndsLast t l)) ∧ Below w.heap.size w w' :=
  (w_lawEndsLast hs t at_ ct _q1 _q2 at_2 ct2 _q3 _q4 at_3 ct3 _q5 _q6 l al2 cl2 _q7 _q8 (fun r => r = sp_lawEndsLast t l) (ok_lawEndsLast t l)).mono fun _ _ ⟨_, hk, he, hb⟩ => ⟨by rw [he, hk], hb⟩

set_option maxHeartbeats 8000000 in
theorem w_lawLine {h : FH} {w : World} (hs : Sub h w) (t : TTask) (at_ : Option Addr) (ct : Nat) (_q1 : RSl h at_ t.init) (_q2 : t.init.length ≤ ct) (at_2 : Option Addr) (ct2 : Nat) (_q3 : RSl h at_2 t.goal) (_q4 : t.goal.length ≤ ct2) (at_3 : Option Addr) (ct3 : Nat) (_q5 : RSl h at_3 t.ops) (_q6 : t.ops.length ≤ ct3) (plan : List Int) (aplan : Option Addr) (cplan : Nat) (_q7 : RSl h aplan plan) (_q8 : plan.length ≤ cplan) (K : Bool → Prop) (hF : F_lawLine t plan K) : Calls Try.prog 6 #[.agg #[.int .i64 t.facts, .slice at_ t.init.length ct, .slice at_2 t.goal.length ct2, .slice at_3 t.ops.length ct3], .slice aplan plan.length cplan] w fun e w' => ∃ r : Bool, K r ∧ e = .returned (.bool r) ∧ Below w.heap.size w w' := by
  refine enter (args := [.agg #[.int .i64 t.facts, .slice at_ t.init.length ct, .slice at_2 t.goal.length ct2, .slice at_3 t.ops.length ct3], .slice aplan plan.length cplan]) Try.func6 rfl Try.ntmps6 rfl hs ?_
  refine .seq ?_
  refine .region ?_
  refine bx (vs := [.int .i64 t.facts, .slice at_ t.init.length ct, .slice at_2 t.goal.length ct2, .slice at_3 t.ops.length ct3]) rfl rfl rfl (fun pt => ?_)
  refine .v (asg rfl) rfl rfl rfl ?_
  refine .nil ?_
  refine .seqN ?_
  refine .seq ?_
  refine .region ?_
  refine .v (ldA (cs := [.int .i64 t.facts, .slice at_ t.init.length ct, .slice at_2 t.goal.length ct2, .slice at_3 t.ops.length ct3]) rfl tA25 rfl (cellsB (off := 0) (k := 0) rfl (m := 4) rfl)) rfl rfl rfl ?_
  refine .v (mv rfl) rfl rfl rfl ?_
  obtain ⟨r2, q9⟩ : ∃ y_ : List Occ × Fault, y_ = sp_line t plan := ⟨_, rfl⟩
  replace hF := hF r2 q9
  refine clR (α := Option Addr × Nat) (Φ := fun h1 z => RSl h1 z.1 r2.1 ∧ r2.1.length ≤ z.2) (V := fun z => .tuple #[.slice z.1 r2.1.length z.2, .agg #[.int .i64 r2.2.code, .int .i64 r2.2.index]]) Try.call15 rfl rfl (fun w S => (by rw [q9]; exact c_line S.sub t at_ ct _q1 _q2 at_2 ct2 _q3 _q4 at_3 ct3 _q5 _q6 plan aplan cplan _q7 _q8 )) rfl (fun z h1 le1 hz => ?_)
  obtain ⟨a, c⟩ := z
  obtain ⟨q10, q11⟩ := hz
  refine .v (mv rfl) rfl rfl rfl ?_
  refine .v (ext rfl rfl) rfl rfl rfl ?_
  refine .v (ext rfl rfl) rfl rfl rfl ?_
  refine al tZ28 rfl (fun pf => ?_)
  refine .v (asg rfl) rfl rfl rfl ?_
  refine st (p := pf) (off := 0) (k := 0) (vs := [.int .i64 r2.2.code, .int .i64 r2.2.index]) rfl rfl rfl (fun w => (tA28 w).2) rfl rfl rfl rfl ?_
  refine .cast (A' := [Box pf [.int .i64 r2.2.code, .int .i64 r2.2.index], Box pt [.int .i64 t.facts, .slice at_ t.init.length ct, .slice at_2 t.goal.length ct2, .slice at_3 t.ops.length ct3]]) rfl ?_
  refine .nil ?_
  refine .seqN ?_
  refine .seq ?_
  refine .region ?_
  refine .v (ldA (cs := [.int .i64 t.facts, .slice at_ t.init.length ct, .slice at_2 t.goal.length ct2, .slice at_3 t.ops.length ct3]) rfl tA25 rfl (cellsB (off := 0) (k := 1) rfl (m := 4) rfl)) rfl rfl rfl ?_
  obtain ⟨r3, q12⟩ : ∃ y_ : Fault, y_ = sp_tvalidate t := ⟨_, rfl⟩
  replace hF := hF r3 q12
  refine .c (cl (v := .agg #[.int .i64 r3.code, .int .i64 r3.index]) Try.call12 rfl rfl (fun w S => (by rw [q12]; exact c_timedFault S.sub t at_ ct (_q1.mono (le1)) _q2 at_2 ct2 (_q3.mono (le1)) _q4 at_3 ct3 (_q5.mono (le1)) _q6 ))) rfl rfl rfl ?_
  refine al tZ28 rfl (fun pe => ?_)
  refine st (p := pe) (off := 0) (k := 0) (vs := [.int .i64 r3.code, .int .i64 r3.index]) rfl rfl rfl (fun w => (tA28 w).2) rfl rfl rfl rfl ?_
  refine .cast (A' := [Box pe [.int .i64 r3.code, .int .i64 r3.index], Box pf [.int .i64 r2.2.code, .int .i64 r2.2.index], Box pt [.int .i64 t.facts, .slice at_ t.init.length ct, .slice at_2 t.goal.length ct2, .slice at_3 t.ops.length ct3]]) rfl ?_
  refine .nil ?_
  refine .seqN ?_
  refine .seq ?_
  refine .share (σ := Bool) (fun z => F_lawLine_J1 t plan K r2 r3 z) (fun z => [(1, .slice aplan plan.length cplan), (2, .pointer (some pt)), (5, .slice a r2.1.length c), (6, .pointer (some pf)), (7, .pointer (some pe)), (28, .bool z)]) (fun _ => [Box pt [.int .i64 t.facts, .slice at_ t.init.length ct, .slice at_2 t.goal.length ct2, .slice at_3 t.ops.length ct3], Box pf [.int .i64 r2.2.code, .int .i64 r2.2.index], Box pe [.int .i64 r3.code, .int .i64 r3.index]]) (fun _ => h1) ?_ (fun q14 => ?_)
  · rintro t28 hF
    show J _ _ _ _ _ [(1, .slice aplan plan.length cplan), (2, .pointer (some pt)), (5, .slice a r2.1.length c), (6, .pointer (some pf)), (7, .pointer (some pe)), (28, .bool t28)] [Box pt [.int .i64 t.facts, .slice at_ t.init.length ct, .slice at_2 t.goal.length ct2, .slice at_3 t.ops.length ct3], Box pf [.int .i64 r2.2.code, .int .i64 r2.2.index], Box pe [.int .i64 r3.code, .int .i64 r3.index]] h1
    refine .shareT (σ := Int × Int) (fun z => F_lawLine_J2 t plan K r2 z.1 z.2) (fun _ => [(1, .slice aplan plan.length cplan), (2, .pointer (some pt)), (5, .slice a r2.1.length c), (6, .pointer (some pf)), (7, .pointer (some pe))]) (fun z => [Box pt [.int .i64 t.facts, .slice at_ t.init.length ct, .slice at_2 t.goal.length ct2, .slice at_3 t.ops.length ct3], Box pf [.int .i64 r2.2.code, .int .i64 r2.2.index], Box pe [.int .i64 z.1, .int .i64 z.2]]) (fun _ => h1) ?_ (fun q17 => ?_)
    · rintro ⟨x, x2⟩ hF
      show J _ _ _ _ _ [(1, .slice aplan plan.length cplan), (2, .pointer (some pt)), (5, .slice a r2.1.length c), (6, .pointer (some pf)), (7, .pointer (some pe))] [Box pt [.int .i64 t.facts, .slice at_ t.init.length ct, .slice at_2 t.goal.length ct2, .slice at_3 t.ops.length ct3], Box pf [.int .i64 r2.2.code, .int .i64 r2.2.index], Box pe [.int .i64 x, .int .i64 x2]] h1
      refine .seq ?_
      refine .seq ?_
      refine .region ?_
      refine .v (asg rfl) rfl rfl rfl ?_
      refine .nil ?_
      refine .seqN ?_
      refine .block ?_
      obtain ⟨I1, μ1, q90, q91⟩ := hF
      refine .loop' (σ := Int × Int × Int) (fun z => I1 z.1 z.2.1 z.2.2) (fun z => μ1 z.1 z.2.1 z.2.2) (fun z => [(1, .slice aplan plan.length cplan), (2, .pointer (some pt)), (5, .slice a r2.1.length c), (6, .pointer (some pf)), (7, .pointer (some pe)), (8, .int .i64 z.1)]) (fun z => [Box pt [.int .i64 t.facts, .slice at_ t.init.length ct, .slice at_2 t.goal.length ct2, .slice at_3 t.ops.length ct3], Box pf [.int .i64 r2.2.code, .int .i64 r2.2.index], Box pe [.int .i64 z.2.1, .int .i64 z.2.2]]) (fun _ => h1) (0, x, x2) q90 (.cons rfl (.cons rfl (.cons rfl (.cons rfl (.cons rfl (.cons rfl (.nil))))))) rfl (FH.le_refl _) ?_
      rintro ⟨i, x3, x4⟩ q90
      have hF := q91 i x3 x4 q90
      show J _ _ _ _ _ [(1, .slice aplan plan.length cplan), (2, .pointer (some pt)), (5, .slice a r2.1.length c), (6, .pointer (some pf)), (7, .pointer (some pe)), (8, .int .i64 i)] [Box pt [.int .i64 t.facts, .slice at_ t.init.length ct, .slice at_2 t.goal.length ct2, .slice at_3 t.ops.length ct3], Box pf [.int .i64 r2.2.code, .int .i64 r2.2.index], Box pe [.int .i64 x3, .int .i64 x4]] h1
      refine .seq ?_
      refine .share (σ := Bool) (fun z => F_lawLine_J3 t plan K r2 z x3 x4 i I1 μ1) (fun z => [(1, .slice aplan plan.length cplan), (2, .pointer (some pt)), (5, .slice a r2.1.length c), (6, .pointer (some pf)), (7, .pointer (some pe)), (8, .int .i64 i), (38, .bool z)]) (fun _ => [Box pt [.int .i64 t.facts, .slice at_ t.init.length ct, .slice at_2 t.goal.length ct2, .slice at_3 t.ops.length ct3], Box pf [.int .i64 r2.2.code, .int .i64 r2.2.index], Box pe [.int .i64 x3, .int .i64 x4]]) (fun _ => h1) ?_ (fun q93 => ?_)
      · rintro t38 hF
        show J _ _ _ _ _ [(1, .slice aplan plan.length cplan), (2, .pointer (some pt)), (5, .slice a r2.1.length c), (6, .pointer (some pf)), (7, .pointer (some pe)), (8, .int .i64 i), (38, .bool t38)] [Box pt [.int .i64 t.facts, .slice at_ t.init.length ct, .slice at_2 t.goal.length ct2, .slice at_3 t.ops.length ct3], Box pf [.int .i64 r2.2.code, .int .i64 r2.2.index], Box pe [.int .i64 x3, .int .i64 x4]] h1
        refine .cond rfl (fun q95 => ?_) (fun q95 => ?_)
        · replace hF := hF.1 q95
          refine .skip ?_
          refine .seqN ?_
          refine .share (σ := Int × Int) (fun z => F_lawLine_J4 x3 x4 i I1 μ1 z.1 z.2) (fun _ => [(1, .slice aplan plan.length cplan), (2, .pointer (some pt)), (5, .slice a r2.1.length c), (6, .pointer (some pf)), (7, .pointer (some pe)), (8, .int .i64 i)]) (fun z => [Box pt [.int .i64 t.facts, .slice at_ t.init.length ct, .slice at_2 t.goal.length ct2, .slice at_3 t.ops.length ct3], Box pf [.int .i64 r2.2.code, .int .i64 r2.2.index], Box pe [.int .i64 z.1, .int .i64 z.2]]) (fun _ => h1) ?_ (fun q100 => ?_)
          · rintro ⟨x7, x8⟩ hF
            show J _ _ _ _ _ [(1, .slice aplan plan.length cplan), (2, .pointer (some pt)), (5, .slice a r2.1.length c), (6, .pointer (some pf)), (7, .pointer (some pe)), (8, .int .i64 i)] [Box pt [.int .i64 t.facts, .slice at_ t.init.length ct, .slice at_2 t.goal.length ct2, .slice at_3 t.ops.length ct3], Box pf [.int .i64 r2.2.code, .int .i64 r2.2.index], Box pe [.int .i64 x7, .int .i64 x8]] h1
            refine .region ?_
            refine .v (mv rfl) rfl rfl rfl ?_
            refine .v (bi rfl rfl rfl) rfl rfl rfl ?_
            refine .v (asg rfl) rfl rfl rfl ?_
            refine .nil ?_
            exact .round (IntKind.i64.wrap (i + 1), x7, x8) hF.1 hF.2 (.cons rfl (.cons rfl (.cons rfl (.cons rfl (.cons rfl (.cons rfl (.nil))))))) rfl (FH.le_refl _)
          refine .block ?_
          refine .seq ?_
          refine .open_ (by kernel_rfl) (by kernel_rfl) ?_
          refine .v (mv rfl) rfl rfl rfl ?_
          refine .v (mv rfl) rfl rfl rfl ?_
          obtain ⟨q101, hF⟩ := hF
          refine .v (ix rfl rfl tS22 (_q7.ne (by decide) (inb_pos q101)) q101) rfl rfl rfl ?_
          refine .v (ld1 (v := .int .i64 (gt plan i)) rfl tO3 (cellH ((_q7.mono (le1)).elemF q101 (by decide) 0 _ rfl))) rfl rfl rfl ?_
          refine .v (fa rfl tF25_3) rfl rfl rfl ?_
          refine .v (ld1 rfl tO23 (cellB (off := 3) (k := 0) rfl rfl)) rfl rfl rfl ?_
          refine .v (ln rfl tS23.is) rfl rfl rfl ?_
          refine .v (bi rfl rfl rfl) rfl rfl rfl ?_
          obtain ⟨r4, q102⟩ : ∃ y_ : Bool, y_ = sp_in_ (gt plan i) 0 (IntKind.i64.wrap (((t.ops.length : Nat) : Int) - 1)) := ⟨_, rfl⟩
          replace hF := hF r4 q102
          refine .c (cl (v := .bool r4) Try.call17 rfl rfl (fun w S => (by rw [q102]; exact c_in_ S.sub (gt plan i) 0 (IntKind.i64.wrap (((t.ops.length : Nat) : Int) - 1)) ))) rfl rfl rfl ?_
          refine .v (nt rfl) rfl rfl rfl ?_
          refine .fin ?_
          refine .seqN ?_
          refine .cond rfl (fun q103 => ?_) (fun q103 => ?_)
          · replace hF := hF.1 q103
            refine .region ?_
            refine .v (mv rfl) rfl rfl rfl ?_
            refine .v (bi rfl rfl rfl) rfl rfl rfl ?_
            obtain ⟨r5, q104⟩ : ∃ y_ : Fault, y_ = sp_at_ 3 (IntKind.i64.wrap ((-6) - i)) := ⟨_, rfl⟩
            replace hF := hF r5 q104
            refine .c (cl (v := .agg #[.int .i64 r5.code, .int .i64 r5.index]) Try.call16 rfl rfl (fun w S => (by rw [q104]; exact c_at_ S.sub 3 (IntKind.i64.wrap ((-6) - i)) ))) rfl rfl rfl ?_
            refine st (p := pe) (off := 0) (k := 2) (vs := [.int .i64 r5.code, .int .i64 r5.index]) rfl rfl rfl (fun w => (tA28 w).2) rfl rfl rfl rfl ?_
            refine .cast (A' := [Box pt [.int .i64 t.facts, .slice at_ t.init.length ct, .slice at_2 t.goal.length ct2, .slice at_3 t.ops.length ct3], Box pf [.int .i64 r2.2.code, .int .i64 r2.2.index], Box pe [.int .i64 r5.code, .int .i64 r5.index]]) rfl ?_
            refine .nil ?_
            refine .blkN ?_
            exact .use q100 (r5.code, r5.index) hF (.cons rfl (.cons rfl (.cons rfl (.cons rfl (.cons rfl (.cons rfl (.nil))))))) rfl (FH.le_refl _)
          replace hF := hF.2 q103
          refine .skip ?_
          refine .blkN ?_
          exact .use q100 (x3, x4) hF (.cons rfl (.cons rfl (.cons rfl (.cons rfl (.cons rfl (.cons rfl (.nil))))))) rfl (FH.le_refl _)
        replace hF := hF.2 q95
        refine .exit ?_
        refine .seqX ?_
        refine .seqX ?_
        refine .blkX ?_
        refine .seqN ?_
        refine .seq ?_
        refine .seq ?_
        refine .region ?_
        refine .v (fa rfl tF28_0) rfl rfl rfl ?_
        refine .v (ld1 rfl tO3 (cellB (off := 0) (k := 2) rfl rfl)) rfl rfl rfl ?_
        refine .v (bi rfl rfl rfl) rfl rfl rfl ?_
        refine .nil ?_
        refine .seqN ?_
        refine .cond rfl (fun q112 => ?_) (fun q112 => ?_)
        · replace hF := hF.1 q112
          refine .seq ?_
          refine .region ?_
          refine .v (ldA (cs := [.int .i64 r2.2.code, .int .i64 r2.2.index]) rfl tA28 rfl (cellsB (off := 0) (k := 1) rfl (m := 2) rfl)) rfl rfl rfl ?_
          refine .v (ldA (cs := [.int .i64 x3, .int .i64 x4]) rfl tA28 rfl (cellsB (off := 0) (k := 2) rfl (m := 2) rfl)) rfl rfl rfl ?_
          refine .v (eq2 tE28 rfl rfl) rfl rfl rfl ?_
          refine .v (mv rfl) rfl rfl rfl ?_
          rcases Bool.eq_false_or_eq_true ((r2.2.code == x3) && (r2.2.index == x4)) with q116 | q116
          · replace hF := hF.1 q116
            refine .gv (mv rfl) rfl rfl rfl q116 rfl rfl ?_
            refine .gv (ln rfl tS26.is) rfl rfl rfl q116 rfl rfl ?_
            refine .gv (bi rfl rfl rfl) rfl rfl rfl q116 rfl rfl ?_
            refine .v (pkT rfl q116 rfl) rfl rfl rfl ?_
            refine .v (mv rfl) rfl rfl rfl ?_
            rcases Bool.eq_false_or_eq_true (((r2.1.length : Nat) : Int) == 0) with q117 | q117
            · replace hF := hF.1 q117
              obtain ⟨r6, q118⟩ : ∃ y_ : Bool, y_ = sp_lasted := ⟨_, rfl⟩
              replace hF := hF r6 q118
              refine .gc (cl (v := .bool r6) Try.call13 rfl rfl (fun w S => (by rw [q118]; exact c_lasted S.sub  ))) rfl rfl rfl q117 rfl rfl ?_
              refine .v (pkT rfl q117 rfl) rfl rfl rfl ?_
              refine .v (asg rfl) rfl rfl rfl ?_
              refine .nil ?_
              refine .seqN ?_
              refine .ret ?_
              refine .seqR ?_
              refine .res1 rfl (rvT rfl) (fun w' S => ⟨r6, hF, rfl, S.below⟩)
            replace hF := hF.2 q117
            refine .gS rfl rfl rfl q117 rfl rfl ?_
            refine .v (pkF rfl q117 rfl) rfl rfl rfl ?_
            refine .v (asg rfl) rfl rfl rfl ?_
            refine .nil ?_
            refine .seqN ?_
            refine .ret ?_
            refine .seqR ?_
            refine .res1 rfl (rvT rfl) (fun w' S => ⟨false, hF, rfl, S.below⟩)
          replace hF := hF.2 q116
          refine .gS rfl rfl rfl q116 rfl rfl ?_
          refine .gS rfl rfl rfl q116 rfl rfl ?_
          refine .gS rfl rfl rfl q116 rfl rfl ?_
          refine .v (pkF rfl q116 rfl) rfl rfl rfl ?_
          refine .v (mv rfl) rfl rfl rfl ?_
          refine .gS rfl rfl rfl rfl rfl rfl ?_
          refine .v (pkF rfl rfl rfl) rfl rfl rfl ?_
          refine .v (asg rfl) rfl rfl rfl ?_
          refine .nil ?_
          refine .seqN ?_
          refine .ret ?_
          refine .seqR ?_
          refine .res1 rfl (rvT rfl) (fun w' S => ⟨false, hF, rfl, S.below⟩)
        replace hF := hF.2 q112
        refine .skip ?_
        refine .seqN ?_
        refine .seq ?_
        refine .region ?_
        refine .v (asg rfl) rfl rfl rfl ?_
        refine .nil ?_
        refine .seqN ?_
        refine .seq ?_
        refine .seq ?_
        refine .region ?_
        refine .v (asg rfl) rfl rfl rfl ?_
        refine .nil ?_
        refine .seqN ?_
        refine .block ?_
        refine .nilSl 38 2 ?_
        refine .cast (A' := [OwnSl 38 2 none (([] : List Occ).length) 0 (flL ([] : List Occ)), Box pt [.int .i64 t.facts, .slice at_ t.init.length ct, .slice at_2 t.goal.length ct2, .slice at_3 t.ops.length ct3], Box pf [.int .i64 r2.2.code, .int .i64 r2.2.index], Box pe [.int .i64 x3, .int .i64 x4]]) rfl ?_
        refine .sel0 [1, 2, 0] (by decide) rfl ?_
        obtain ⟨I2, μ2, q5021, q5022⟩ := hF
        refine .loop' (σ := Int × List Occ × Option Addr × Nat) (fun z => I2 z.1 z.2.1) (fun z => μ2 z.1 z.2.1) (fun z => [(1, .slice aplan plan.length cplan), (2, .pointer (some pt)), (5, .slice a r2.1.length c), (6, .pointer (some pf)), (9, .slice z.2.2.1 z.2.1.length z.2.2.2), (10, .int .i64 z.1)]) (fun z => [Box pt [.int .i64 t.facts, .slice at_ t.init.length ct, .slice at_2 t.goal.length ct2, .slice at_3 t.ops.length ct3], Box pf [.int .i64 r2.2.code, .int .i64 r2.2.index], OwnSl 38 2 z.2.2.1 z.2.1.length z.2.2.2 (flL z.2.1)]) (fun _ => h1) (0, ([] : List Occ), none, 0) q5021 (.cons rfl (.cons rfl (.cons rfl (.cons rfl (.cons rfl (.cons rfl (.nil))))))) rfl (FH.le_refl _) ?_
        rintro ⟨i3, want, awant, cwant⟩ q5021
        have hF := q5022 i3 want q5021
        show J _ _ _ _ _ [(1, .slice aplan plan.length cplan), (2, .pointer (some pt)), (5, .slice a r2.1.length c), (6, .pointer (some pf)), (9, .slice awant want.length cwant), (10, .int .i64 i3)] [Box pt [.int .i64 t.facts, .slice at_ t.init.length ct, .slice at_2 t.goal.length ct2, .slice at_3 t.ops.length ct3], Box pf [.int .i64 r2.2.code, .int .i64 r2.2.index], OwnSl 38 2 awant want.length cwant (flL want)] h1
        refine .seq ?_
        refine .seq ?_
        refine .region ?_
        refine .v (mv rfl) rfl rfl rfl ?_
        refine .v (mv rfl) rfl rfl rfl ?_
        refine .v (ln rfl tS22.is) rfl rfl rfl ?_
        refine .v (bi rfl rfl rfl) rfl rfl rfl ?_
        refine .nil ?_
        refine .seqN ?_
        refine .cond rfl (fun q5024 => ?_) (fun q5024 => ?_)
        · replace hF := hF.1 q5024
          refine .skip ?_
          refine .seqN ?_
          refine .seq ?_
          refine .block ?_
          refine .seq ?_
          refine .region ?_
          refine .v (asg rfl) rfl rfl rfl ?_
          refine .nil ?_
          refine .seqN ?_
          refine .seq ?_
          refine .seq ?_
          refine .region ?_
          refine .v (asg rfl) rfl rfl rfl ?_
          refine .nil ?_
          refine .seqN ?_
          refine .block ?_
          obtain ⟨I3, μ3, q5944, q5945⟩ := hF
          refine .loop' (σ := Int × Int) (fun z => I3 z.1 z.2) (fun z => μ3 z.1 z.2) (fun z => [(1, .slice aplan plan.length cplan), (2, .pointer (some pt)), (5, .slice a r2.1.length c), (6, .pointer (some pf)), (9, .slice awant want.length cwant), (10, .int .i64 i3), (11, .int .i64 z.1), (12, .int .i64 z.2)]) (fun _ => [Box pt [.int .i64 t.facts, .slice at_ t.init.length ct, .slice at_2 t.goal.length ct2, .slice at_3 t.ops.length ct3], Box pf [.int .i64 r2.2.code, .int .i64 r2.2.index], OwnSl 38 2 awant want.length cwant (flL want)]) (fun _ => h1) (0, 0) q5944 (.cons rfl (.cons rfl (.cons rfl (.cons rfl (.cons rfl (.cons rfl (.cons rfl (.cons rfl (.nil))))))))) rfl (FH.le_refl _) ?_
          rintro ⟨start2, k⟩ q5944
          have hF := q5945 start2 k q5944
          show J _ _ _ _ _ [(1, .slice aplan plan.length cplan), (2, .pointer (some pt)), (5, .slice a r2.1.length c), (6, .pointer (some pf)), (9, .slice awant want.length cwant), (10, .int .i64 i3), (11, .int .i64 start2), (12, .int .i64 k)] [Box pt [.int .i64 t.facts, .slice at_ t.init.length ct, .slice at_2 t.goal.length ct2, .slice at_3 t.ops.length ct3], Box pf [.int .i64 r2.2.code, .int .i64 r2.2.index], OwnSl 38 2 awant want.length cwant (flL want)] h1
          refine .seq ?_
          refine .seq ?_
          refine .region ?_
          refine .v (mv rfl) rfl rfl rfl ?_
          refine .v (mv rfl) rfl rfl rfl ?_
          refine .v (bi rfl rfl rfl) rfl rfl rfl ?_
          refine .nil ?_
          refine .seqN ?_
          refine .cond rfl (fun q5947 => ?_) (fun q5947 => ?_)
          · replace hF := hF.1 q5947
            refine .skip ?_
            refine .seqN ?_
            refine .seq ?_
            refine .block ?_
            refine .open_ (by kernel_rfl) (by kernel_rfl) ?_
            refine .v (mv rfl) rfl rfl rfl ?_
            refine .v (fa rfl tF25_3) rfl rfl rfl ?_
            refine .v (ld1 rfl tO23 (cellB (off := 3) (k := 0) rfl rfl)) rfl rfl rfl ?_
            refine .v (mv rfl) rfl rfl rfl ?_
            refine .v (mv rfl) rfl rfl rfl ?_
            obtain ⟨q5982, hF⟩ := hF
            refine .v (ix rfl rfl tS22 (_q7.ne (by decide) (inb_pos q5982)) q5982) rfl rfl rfl ?_
            refine .v (ld1 (v := .int .i64 (gt plan k)) rfl tO3 (cellH ((_q7.mono (le1)).elemF q5982 (by decide) 0 _ rfl))) rfl rfl rfl ?_
            obtain ⟨q5983, hF⟩ := hF
            refine .v (ix rfl rfl tS23 (_q5.ne (by decide) (inb_pos q5983)) q5983) rfl rfl rfl ?_
            refine .v (fa rfl tF41_7) rfl rfl rfl ?_
            obtain ⟨_, ⟨a2, c2, a3, c3, a4, c4, a5, c5, a6, c6, a7, c7, a8, c8, rfl, ⟨q5984, q5985⟩, ⟨q5986, q5987⟩, ⟨q5988, q5989⟩, ⟨q5990, q5991⟩, ⟨q5992, q5993⟩, ⟨q5994, q5995⟩, q5996, q5997⟩, q5998⟩ := _q5.elem q5983
            refine .v (ld1 (v := .int .i64 ((gt t.ops (gt plan k)).dur)) rfl tO3 (cellH ((fun q => (q5998 q).mono (le1)) (by decide) 7 _ rfl))) rfl rfl rfl ?_
            refine .v (bi rfl rfl rfl) rfl rfl rfl ?_
            refine .v (asg rfl) rfl rfl rfl ?_
            refine .fin ?_
            refine .blkN ?_
            refine .seqN ?_
            refine .region ?_
            refine .v (mv rfl) rfl rfl rfl ?_
            refine .v (bi rfl rfl rfl) rfl rfl rfl ?_
            refine .v (asg rfl) rfl rfl rfl ?_
            refine .nil ?_
            exact .round (IntKind.i64.wrap (start2 + ((gt t.ops (gt plan k)).dur)), IntKind.i64.wrap (k + 1)) hF.1 hF.2 (.cons rfl (.cons rfl (.cons rfl (.cons rfl (.cons rfl (.cons rfl (.cons rfl (.cons rfl (.nil))))))))) rfl (FH.le_refl _)
          replace hF := hF.2 q5947
          refine .exit ?_
          refine .seqX ?_
          refine .seqX ?_
          refine .blkX ?_
          refine .seqN ?_
          refine .region ?_
          refine .v (mv rfl) rfl rfl rfl ?_
          refine .v (mv rfl) rfl rfl rfl ?_
          refine .v (mv rfl) rfl rfl rfl ?_
          obtain ⟨q5999, hF⟩ := hF
          refine .v (ix rfl rfl tS22 (_q7.ne (by decide) (inb_pos q5999)) q5999) rfl rfl rfl ?_
          refine .v (ld1 (v := .int .i64 (gt plan i3)) rfl tO3 (cellH ((_q7.mono (le1)).elemF q5999 (by decide) 0 _ rfl))) rfl rfl rfl ?_
          refine .v (mv rfl) rfl rfl rfl ?_
          refine .v (bld (cs := #[.int .i64 (gt plan i3), .int .i64 start2]) (pv := [(0, .int .i64 (gt plan i3)), (1, .int .i64 start2)]) tB38 rfl rfl) rfl rfl rfl ?_
          refine bs2 (cs := #[.int .i64 (gt plan i3), .int .i64 start2]) (pv := [(0, .agg #[.int .i64 (gt plan i3), .int .i64 start2])]) tS26 rfl rfl (by decide) (by decide) rfl rfl rfl (fun a9 _ => ?_)
          refine .cast (A' := [OwnSl 38 2 a9 (([(⟨(gt plan i3), start2⟩ : Occ)] : List Occ).length) 1 (flL ([(⟨(gt plan i3), start2⟩ : Occ)] : List Occ)), Box pt [.int .i64 t.facts, .slice at_ t.init.length ct, .slice at_2 t.goal.length ct2, .slice at_3 t.ops.length ct3], Box pf [.int .i64 r2.2.code, .int .i64 r2.2.index], OwnSl 38 2 awant want.length cwant (flL want)]) rfl ?_
          obtain ⟨q6001, hF⟩ := hF
          have q6002 : want.length + ([(⟨(gt plan i3), start2⟩ : Occ)] : List Occ).length = ((want ++ ([(⟨(gt plan i3), start2⟩ : Occ)] : List Occ))).length := len_app rfl rfl
          refine app (k := 3) (news := flL ([(⟨(gt plan i3), start2⟩ : Occ)] : List Occ)) (cs' := flL (want ++ ([(⟨(gt plan i3), start2⟩ : Occ)] : List Occ))) (nm := ((want ++ ([(⟨(gt plan i3), start2⟩ : Occ)] : List Occ))).length) tS26 rfl (by decide) rfl rfl rfl (by rw [flL_len]; rfl) (srcS (k := 0) rfl) (flL_one _) (room_of q6002 q6001).1 (room_of q6002 q6001).2 q6002 (flL_append _ _).symm rfl (fun a10 c9 => ?_)
          refine .cast (A' := [OwnSl 38 2 a9 (([(⟨(gt plan i3), start2⟩ : Occ)] : List Occ).length) 1 (flL ([(⟨(gt plan i3), start2⟩ : Occ)] : List Occ)), Box pt [.int .i64 t.facts, .slice at_ t.init.length ct, .slice at_2 t.goal.length ct2, .slice at_3 t.ops.length ct3], Box pf [.int .i64 r2.2.code, .int .i64 r2.2.index], OwnSl 38 2 a10 ((want ++ ([(⟨(gt plan i3), start2⟩ : Occ)] : List Occ)).length) c9 (flL (want ++ ([(⟨(gt plan i3), start2⟩ : Occ)] : List Occ)))]) rfl ?_
          refine .v (asg rfl) rfl rfl rfl ?_
          refine .nil ?_
          refine .blkN ?_
          refine .seqN ?_
          refine .region ?_
          refine .v (mv rfl) rfl rfl rfl ?_
          refine .v (bi rfl rfl rfl) rfl rfl rfl ?_
          refine .v (asg rfl) rfl rfl rfl ?_
          refine .nil ?_
          refine .sel0 [1, 2, 3] (by decide) rfl ?_
          exact .round (IntKind.i64.wrap (i3 + 1), (want ++ ([(⟨(gt plan i3), start2⟩ : Occ)] : List Occ)), a10, c9) hF.1 hF.2 (.cons rfl (.cons rfl (.cons rfl (.cons rfl (.cons rfl (.cons rfl (.nil))))))) rfl (FH.le_refl _)
        replace hF := hF.2 q5024
        refine .exit ?_
        refine .seqX ?_
        refine .seqX ?_
        refine .blkX ?_
        refine .seqN ?_
        refine .seq ?_
        refine .region ?_
        refine .v (fa rfl tF28_0) rfl rfl rfl ?_
        refine .v (ld1 rfl tO3 (cellB (off := 0) (k := 1) rfl rfl)) rfl rfl rfl ?_
        refine .v (bi rfl rfl rfl) rfl rfl rfl ?_
        refine .v (mv rfl) rfl rfl rfl ?_
        rcases Bool.eq_false_or_eq_true (r2.2.code == 0) with q6008 | q6008
        · replace hF := hF.1 q6008
          refine .gv (mv rfl) rfl rfl rfl q6008 rfl rfl ?_
          refine .gv (mv rfl) rfl rfl rfl q6008 rfl rfl ?_
          obtain ⟨q6009, hF⟩ := hF
          obtain ⟨r7, q6010⟩ : ∃ y_ : Bool, y_ = sp_occurs r2.1 want := ⟨_, rfl⟩
          replace hF := hF r7 q6010
          refine .gc (cl (v := .bool r7) Try.call18 rfl rfl (fun w S => (by rw [q6010]; obtain ⟨h_, hl_, hs_, hne_, hr_⟩ := look S (k := 2) rfl; exact c_occurs hs_ r2.1 a c (RSl.mono hl_ q10) q11 want awant cwant (RSl.of hr_) (look_len S (k := 2) rfl) q6009))) rfl rfl rfl q6008 rfl rfl ?_
          refine .v (pkT rfl q6008 rfl) rfl rfl rfl ?_
          refine .v (mv rfl) rfl rfl rfl ?_
          rcases Bool.eq_false_or_eq_true (r7) with q6011 | q6011
          · replace hF := hF.1 q6011
            obtain ⟨r8, q6012⟩ : ∃ y_ : Bool, y_ = sp_lasted := ⟨_, rfl⟩
            replace hF := hF r8 q6012
            refine .gc (cl (v := .bool r8) Try.call13 rfl rfl (fun w S => (by rw [q6012]; exact c_lasted S.sub  ))) rfl rfl rfl q6011 rfl rfl ?_
            refine .v (pkT rfl q6011 rfl) rfl rfl rfl ?_
            refine .v (asg rfl) rfl rfl rfl ?_
            refine .nil ?_
            refine .seqN ?_
            refine .ret ?_
            refine .res1 rfl (rvT rfl) (fun w' S => ⟨r8, hF, rfl, S.below⟩)
          replace hF := hF.2 q6011
          refine .gS rfl rfl rfl q6011 rfl rfl ?_
          refine .v (pkF rfl q6011 rfl) rfl rfl rfl ?_
          refine .v (asg rfl) rfl rfl rfl ?_
          refine .nil ?_
          refine .seqN ?_
          refine .ret ?_
          refine .res1 rfl (rvT rfl) (fun w' S => ⟨false, hF, rfl, S.below⟩)
        replace hF := hF.2 q6008
        refine .gS rfl rfl rfl q6008 rfl rfl ?_
        refine .gS rfl rfl rfl q6008 rfl rfl ?_
        refine .gS rfl rfl rfl q6008 rfl rfl ?_
        refine .v (pkF rfl q6008 rfl) rfl rfl rfl ?_
        refine .v (mv rfl) rfl rfl rfl ?_
        refine .gS rfl rfl rfl rfl rfl rfl ?_
        refine .v (pkF rfl rfl rfl) rfl rfl rfl ?_
        refine .v (asg rfl) rfl rfl rfl ?_
        refine .nil ?_
        refine .seqN ?_
        refine .ret ?_
        refine .res1 rfl (rvT rfl) (fun w' S => ⟨false, hF, rfl, S.below⟩)
      refine .region ?_
      refine .v (mv rfl) rfl rfl rfl ?_
      refine .v (mv rfl) rfl rfl rfl ?_
      refine .v (ln rfl tS22.is) rfl rfl rfl ?_
      refine .v (bi rfl rfl rfl) rfl rfl rfl ?_
      refine .v (mv rfl) rfl rfl rfl ?_
      rcases Bool.eq_false_or_eq_true (decide (i < ((plan.length : Nat) : Int))) with q6013 | q6013
      · replace hF := hF.1 q6013
        refine .gv (fa rfl tF28_0) rfl rfl rfl q6013 rfl rfl ?_
        refine .gv (ld1 rfl tO3 (cellB (off := 0) (k := 2) rfl rfl)) rfl rfl rfl q6013 rfl rfl ?_
        refine .gv (bi rfl rfl rfl) rfl rfl rfl q6013 rfl rfl ?_
        refine .v (pkT rfl q6013 rfl) rfl rfl rfl ?_
        refine .nil ?_
        exact .use q93 (x3 == 0) hF (.cons rfl (.cons rfl (.cons rfl (.cons rfl (.cons rfl (.cons rfl (.cons rfl (.nil)))))))) rfl (FH.le_refl _)
      replace hF := hF.2 q6013
      refine .gS rfl rfl rfl q6013 rfl rfl ?_
      refine .gS rfl rfl rfl q6013 rfl rfl ?_
      refine .gS rfl rfl rfl q6013 rfl rfl ?_
      refine .v (pkF rfl q6013 rfl) rfl rfl rfl ?_
      refine .nil ?_
      exact .use q93 false hF (.cons rfl (.cons rfl (.cons rfl (.cons rfl (.cons rfl (.cons rfl (.cons rfl (.nil)))))))) rfl (FH.le_refl _)
    refine .cond rfl (fun q6014 => ?_) (fun q6014 => ?_)
    · replace hF := hF.1 q6014
      refine .region ?_
      obtain ⟨r9, q6015⟩ : ∃ y_ : Fault, y_ = sp_at_ 2 (-5) := ⟨_, rfl⟩
      replace hF := hF r9 q6015
      refine .c (cl (v := .agg #[.int .i64 r9.code, .int .i64 r9.index]) Try.call16 rfl rfl (fun w S => (by rw [q6015]; exact c_at_ S.sub 2 (-5) ))) rfl rfl rfl ?_
      refine st (p := pe) (off := 0) (k := 2) (vs := [.int .i64 r9.code, .int .i64 r9.index]) rfl rfl rfl (fun w => (tA28 w).2) rfl rfl rfl rfl ?_
      refine .cast (A' := [Box pt [.int .i64 t.facts, .slice at_ t.init.length ct, .slice at_2 t.goal.length ct2, .slice at_3 t.ops.length ct3], Box pf [.int .i64 r2.2.code, .int .i64 r2.2.index], Box pe [.int .i64 r9.code, .int .i64 r9.index]]) rfl ?_
      refine .nil ?_
      exact .use q17 (r9.code, r9.index) hF (.cons rfl (.cons rfl (.cons rfl (.cons rfl (.cons rfl (.nil)))))) rfl (FH.le_refl _)
    replace hF := hF.2 q6014
    refine .skip ?_
    exact .use q17 (r3.code, r3.index) hF (.cons rfl (.cons rfl (.cons rfl (.cons rfl (.cons rfl (.nil)))))) rfl (FH.le_refl _)
  refine .region ?_
  refine .v (fa rfl tF28_0) rfl rfl rfl ?_
  refine .v (ld1 rfl tO3 (cellB (off := 0) (k := 0) rfl rfl)) rfl rfl rfl ?_
  refine .v (bi rfl rfl rfl) rfl rfl rfl ?_
  refine .v (mv rfl) rfl rfl rfl ?_
  rcases Bool.eq_false_or_eq_true (r3.code == 0) with q6016 | q6016
  · replace hF := hF.1 q6016
    refine .gv (mv rfl) rfl rfl rfl q6016 rfl rfl ?_
    refine .gv (ln rfl tS22.is) rfl rfl rfl q6016 rfl rfl ?_
    refine .gv (bi rfl rfl rfl) rfl rfl rfl q6016 rfl rfl ?_
    refine .v (pkT rfl q6016 rfl) rfl rfl rfl ?_
    refine .nil ?_
    refine .sel0 [2, 1, 0] (by decide) rfl ?_
    exact .use q14 (decide (12 < ((plan.length : Nat) : Int))) hF (.cons rfl (.cons rfl (.cons rfl (.cons rfl (.cons rfl (.cons rfl (.nil))))))) rfl (FH.le_refl _)
  replace hF := hF.2 q6016
  refine .gS rfl rfl rfl q6016 rfl rfl ?_
  refine .gS rfl rfl rfl q6016 rfl rfl ?_
  refine .gS rfl rfl rfl q6016 rfl rfl ?_
  refine .v (pkF rfl q6016 rfl) rfl rfl rfl ?_
  refine .nil ?_
  refine .sel0 [2, 1, 0] (by decide) rfl ?_
  exact .use q14 false hF (.cons rfl (.cons rfl (.cons rfl (.cons rfl (.cons rfl (.cons rfl (.nil))))))) rfl (FH.le_refl _)

theorem c_lawLine {h : FH} {w : World} (hs : Sub h w) (t : TTask) (at_ : Option Addr) (ct : Nat) (_q1 : RSl h at_ t.init) (_q2 : t.init.length ≤ ct) (at_2 : Option Addr) (ct2 : Nat) (_q3 : RSl h at_2 t.goal) (_q4 : t.goal.length ≤ ct2) (at_3 : Option Addr) (ct3 : Nat) (_q5 : RSl h at_3 t.ops) (_q6 : t.ops.length ≤ ct3) (plan : List Int) (aplan : Option Addr) (cplan : Nat) (_q7 : RSl h aplan plan) (_q8 : plan.length ≤ cplan) : Calls Try.prog 6 #[.agg #[.int .i64 t.facts, .slice at_ t.init.length ct, .slice at_2 t.goal.length ct2, .slice at_3 t.ops.length ct3], .slice aplan plan.length cplan] w fun e w' => e = .returned (.bool (sp_lawLine t plan)) ∧ Below w.heap.size w w' :=
  (w_lawLine hs t at_ ct _q1 _q2 at_2 ct2 _q3 _q4 at_3 ct3 _q5 _q6 plan aplan cplan _q7 _q8 (fun r => r = sp_lawLine t plan) (ok_lawLine t plan)).mono fun _ _ ⟨_, hk, he, hb⟩ => ⟨by rw [he, hk], hb⟩

end Go.Proofs.Ytaenggfmpagjgaa.Pl
