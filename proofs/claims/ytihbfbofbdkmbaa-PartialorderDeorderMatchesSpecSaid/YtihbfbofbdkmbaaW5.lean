/- The walks: from what each function asks to what it does; printed from the code. No condition. -/
import Derived.Test.YtihbfbofbdkmbaaW4
namespace Go.Proofs.Ytihbfbofbdkmbaa.Pl
open Go Go.RowKit
set_option maxHeartbeats 8000000 in
theorem w_lawFirst {h : FH} {w : World} (hs : Sub h w) (t : Task) (at_ : Option Addr) (ct : Nat) (_q1 : RSl h at_ t.init) (_q2 : t.init.length ≤ ct) (at_2 : Option Addr) (ct2 : Nat) (_q3 : RSl h at_2 t.goal) (_q4 : t.goal.length ≤ ct2) (at_3 : Option Addr) (ct3 : Nat) (_q5 : RSl h at_3 t.ops) (_q6 : t.ops.length ≤ ct3) (steps : List Int) (asteps : Option Addr) (csteps : Nat) (_q7 : RSl h asteps steps) (_q8 : steps.length ≤ csteps) (before : List (Int × Int)) (abefore : Option Addr) (cbefore : Nat) (_q9 : RSl h abefore before) (_q10 : before.length ≤ cbefore) (K : Bool → Prop) (hF : F_lawFirst t steps before K) : Calls Try.prog 7 #[.agg #[.int .i64 t.facts, .slice at_ t.init.length ct, .slice at_2 t.goal.length ct2, .slice at_3 t.ops.length ct3], .slice asteps steps.length csteps, .slice abefore before.length cbefore] w fun e w' => ∃ r : Bool, K r ∧ e = .returned (.bool r) ∧ Below w.heap.size w w' := by
  refine enter (args := [.agg #[.int .i64 t.facts, .slice at_ t.init.length ct, .slice at_2 t.goal.length ct2, .slice at_3 t.ops.length ct3], .slice asteps steps.length csteps, .slice abefore before.length cbefore]) Try.func7 rfl Try.ntmps7 rfl hs ?_
  refine .seq ?_
  refine .region ?_
  refine bx (vs := [.int .i64 t.facts, .slice at_ t.init.length ct, .slice at_2 t.goal.length ct2, .slice at_3 t.ops.length ct3]) rfl rfl rfl (fun pt => ?_)
  refine .v (asg rfl) rfl rfl rfl ?_
  refine .nil ?_
  refine .seqN ?_
  refine .seq ?_
  refine .region ?_
  refine .v (ldA (cs := [.int .i64 t.facts, .slice at_ t.init.length ct, .slice at_2 t.goal.length ct2, .slice at_3 t.ops.length ct3]) rfl tA25 rfl (cellsB (off := 0) (k := 0) rfl (m := 4) rfl)) rfl rfl rfl ?_
  refine .v (mv rfl) rfl rfl rfl ?_
  refine .v (mv rfl) rfl rfl rfl ?_
  obtain ⟨r2, q11⟩ : ∃ y_ : Bool × Fault, y_ = sp_pcheck t steps before := ⟨_, rfl⟩
  replace hF := hF r2 q11
  refine .c (cl (v := .tuple #[.bool r2.1, .agg #[.int .i64 r2.2.code, .int .i64 r2.2.index]]) Try.call23 rfl rfl (fun w S => (by rw [q11]; exact c_pcheck S.sub t at_ ct _q1 _q2 at_2 ct2 _q3 _q4 at_3 ct3 _q5 _q6 steps asteps csteps _q7 _q8 before abefore cbefore _q9 _q10 ))) rfl rfl rfl ?_
  refine .v (mv rfl) rfl rfl rfl ?_
  refine .v (ext rfl rfl) rfl rfl rfl ?_
  refine .v (ext rfl rfl) rfl rfl rfl ?_
  refine al tZ28 rfl (fun pf => ?_)
  refine .v (asg rfl) rfl rfl rfl ?_
  refine st (p := pf) (off := 0) (k := 0) (vs := [.int .i64 r2.2.code, .int .i64 r2.2.index]) rfl rfl rfl (fun w => (tA28 w).2) rfl rfl rfl rfl ?_
  refine .cast (A' := [Box pf [.int .i64 r2.2.code, .int .i64 r2.2.index], Box pt [.int .i64 t.facts, .slice at_ t.init.length ct, .slice at_2 t.goal.length ct2, .slice at_3 t.ops.length ct3]]) rfl ?_
  refine .nil ?_
  refine .seqN ?_
  refine .seq ?_
  refine .region ?_
  refine .v (mv rfl) rfl rfl rfl ?_
  refine .v (ln rfl tS22.is) rfl rfl rfl ?_
  refine .v (mv rfl) rfl rfl rfl ?_
  obtain ⟨r3, q12⟩ : ∃ y_ : List Int × Fault, y_ = sp_first ((steps.length : Nat) : Int) before := ⟨_, rfl⟩
  replace hF := hF r3 q12
  refine clR (α := Option Addr × Nat) (Φ := fun h1 z => RSl h1 z.1 r3.1 ∧ r3.1.length ≤ z.2) (V := fun z => .tuple #[.slice z.1 r3.1.length z.2, .agg #[.int .i64 r3.2.code, .int .i64 r3.2.index]]) Try.call15 rfl rfl (fun w S => (by rw [q12]; exact c_first S.sub ((steps.length : Nat) : Int) before abefore cbefore _q9 _q10 )) rfl (fun z h1 le1 hz => ?_)
  obtain ⟨a, c⟩ := z
  obtain ⟨q13, q14⟩ := hz
  refine .v (mv rfl) rfl rfl rfl ?_
  refine .v (ext rfl rfl) rfl rfl rfl ?_
  refine .v (ext rfl rfl) rfl rfl rfl ?_
  refine al tZ28 rfl (fun pg => ?_)
  refine .v (asg rfl) rfl rfl rfl ?_
  refine st (p := pg) (off := 0) (k := 0) (vs := [.int .i64 r3.2.code, .int .i64 r3.2.index]) rfl rfl rfl (fun w => (tA28 w).2) rfl rfl rfl rfl ?_
  refine .cast (A' := [Box pg [.int .i64 r3.2.code, .int .i64 r3.2.index], Box pf [.int .i64 r2.2.code, .int .i64 r2.2.index], Box pt [.int .i64 t.facts, .slice at_ t.init.length ct, .slice at_2 t.goal.length ct2, .slice at_3 t.ops.length ct3]]) rfl ?_
  refine .nil ?_
  refine .seqN ?_
  refine .seq ?_
  refine .share (σ := Bool) (fun z => F_lawFirst_J1 t steps K r3 z) (fun z => [(1, .slice asteps steps.length csteps), (3, .pointer (some pt)), (9, .slice a r3.1.length c), (40, .bool z)]) (fun _ => [Box pt [.int .i64 t.facts, .slice at_ t.init.length ct, .slice at_2 t.goal.length ct2, .slice at_3 t.ops.length ct3]]) (fun _ => h1) ?_ (fun q17 => ?_)
  · rintro t40 hF
    show J _ _ _ _ _ [(1, .slice asteps steps.length csteps), (3, .pointer (some pt)), (9, .slice a r3.1.length c), (40, .bool t40)] [Box pt [.int .i64 t.facts, .slice at_ t.init.length ct, .slice at_2 t.goal.length ct2, .slice at_3 t.ops.length ct3]] h1
    refine .cond rfl (fun q20 => ?_) (fun q20 => ?_)
    · replace hF := hF.1 q20
      refine .seq ?_
      refine .region ?_
      obtain ⟨r4, q21⟩ : ∃ y_ : Bool, y_ = sp_counted := ⟨_, rfl⟩
      replace hF := hF r4 q21
      refine .c (cl (v := .bool r4) Try.call20 rfl rfl (fun w S => (by rw [q21]; exact c_counted S.sub  ))) rfl rfl rfl ?_
      refine .v (asg rfl) rfl rfl rfl ?_
      refine .nil ?_
      refine .seqN ?_
      refine .ret ?_
      refine .seqR ?_
      refine .res1 rfl (rvT rfl) (fun w' S => ⟨r4, hF, rfl, S.below⟩)
    replace hF := hF.2 q20
    refine .skip ?_
    refine .seqN ?_
    refine .seq ?_
    refine .region ?_
    refine .v (asg rfl) rfl rfl rfl ?_
    refine .nil ?_
    refine .seqN ?_
    refine .seq ?_
    refine .seq ?_
    refine .region ?_
    refine .v (asg rfl) rfl rfl rfl ?_
    refine .nil ?_
    refine .seqN ?_
    refine .block ?_
    refine .nilSl 3 1 ?_
    refine .cast (A' := [OwnSl 3 1 none (([] : List Int).length) 0 (flL ([] : List Int)), Box pt [.int .i64 t.facts, .slice at_ t.init.length ct, .slice at_2 t.goal.length ct2, .slice at_3 t.ops.length ct3]]) rfl ?_
    refine .sel0 [1, 0] (by decide) rfl ?_
    obtain ⟨I1, μ1, q109, q110⟩ := hF
    refine .loop' (σ := Int × List Int × Option Addr × Nat) (fun z => I1 z.1 z.2.1) (fun z => μ1 z.1 z.2.1) (fun z => [(1, .slice asteps steps.length csteps), (3, .pointer (some pt)), (9, .slice a r3.1.length c), (11, .slice z.2.2.1 z.2.1.length z.2.2.2), (12, .int .i64 z.1)]) (fun z => [Box pt [.int .i64 t.facts, .slice at_ t.init.length ct, .slice at_2 t.goal.length ct2, .slice at_3 t.ops.length ct3], OwnSl 3 1 z.2.2.1 z.2.1.length z.2.2.2 (flL z.2.1)]) (fun _ => h1) (0, ([] : List Int), none, 0) q109 (.cons rfl (.cons rfl (.cons rfl (.cons rfl (.cons rfl (.nil)))))) rfl (FH.le_refl _) ?_
    rintro ⟨i, plan, aplan, cplan⟩ q109
    have hF := q110 i plan q109
    show J _ _ _ _ _ [(1, .slice asteps steps.length csteps), (3, .pointer (some pt)), (9, .slice a r3.1.length c), (11, .slice aplan plan.length cplan), (12, .int .i64 i)] [Box pt [.int .i64 t.facts, .slice at_ t.init.length ct, .slice at_2 t.goal.length ct2, .slice at_3 t.ops.length ct3], OwnSl 3 1 aplan plan.length cplan (flL plan)] h1
    refine .seq ?_
    refine .seq ?_
    refine .region ?_
    refine .v (mv rfl) rfl rfl rfl ?_
    refine .v (mv rfl) rfl rfl rfl ?_
    refine .v (ln rfl tS22.is) rfl rfl rfl ?_
    refine .v (bi rfl rfl rfl) rfl rfl rfl ?_
    refine .nil ?_
    refine .seqN ?_
    refine .cond rfl (fun q112 => ?_) (fun q112 => ?_)
    · replace hF := hF.1 q112
      refine .skip ?_
      refine .seqN ?_
      refine .seq ?_
      refine .block ?_
      refine .region ?_
      refine .v (mv rfl) rfl rfl rfl ?_
      refine .v (mv rfl) rfl rfl rfl ?_
      refine .v (mv rfl) rfl rfl rfl ?_
      refine .v (mv rfl) rfl rfl rfl ?_
      obtain ⟨q123, hF⟩ := hF
      refine .v (ix rfl rfl tS22 (q13.ne (by decide) (inb_pos q123)) q123) rfl rfl rfl ?_
      refine .v (ld1 (v := .int .i64 (gt r3.1 i)) rfl tO3 (cellH (q13.elemF q123 (by decide) 0 _ rfl))) rfl rfl rfl ?_
      obtain ⟨q124, hF⟩ := hF
      refine .v (ix rfl rfl tS22 (_q7.ne (by decide) (inb_pos q124)) q124) rfl rfl rfl ?_
      refine .v (ld1 (v := .int .i64 (gt steps (gt r3.1 i))) rfl tO3 (cellH ((_q7.mono (le1)).elemF q124 (by decide) 0 _ rfl))) rfl rfl rfl ?_
      refine bs2 (cs := #[.int .i64 (gt steps (gt r3.1 i))]) (pv := [(0, .int .i64 (gt steps (gt r3.1 i)))]) tS22 rfl rfl (by decide) (by decide) rfl rfl rfl (fun a2 _ => ?_)
      refine .cast (A' := [OwnSl 3 1 a2 (([(gt steps (gt r3.1 i))] : List Int).length) 1 (flL ([(gt steps (gt r3.1 i))] : List Int)), Box pt [.int .i64 t.facts, .slice at_ t.init.length ct, .slice at_2 t.goal.length ct2, .slice at_3 t.ops.length ct3], OwnSl 3 1 aplan plan.length cplan (flL plan)]) rfl ?_
      obtain ⟨q126, hF⟩ := hF
      have q127 : plan.length + ([(gt steps (gt r3.1 i))] : List Int).length = ((plan ++ ([(gt steps (gt r3.1 i))] : List Int))).length := len_app rfl rfl
      refine app (k := 2) (news := flL ([(gt steps (gt r3.1 i))] : List Int)) (cs' := flL (plan ++ ([(gt steps (gt r3.1 i))] : List Int))) (nm := ((plan ++ ([(gt steps (gt r3.1 i))] : List Int))).length) tS22 rfl (by decide) rfl rfl rfl (by rw [flL_len]; rfl) (srcS (k := 0) rfl) (flL_one _) (room_of q127 q126).1 (room_of q127 q126).2 q127 (flL_append _ _).symm rfl (fun a3 c2 => ?_)
      refine .cast (A' := [OwnSl 3 1 a2 (([(gt steps (gt r3.1 i))] : List Int).length) 1 (flL ([(gt steps (gt r3.1 i))] : List Int)), Box pt [.int .i64 t.facts, .slice at_ t.init.length ct, .slice at_2 t.goal.length ct2, .slice at_3 t.ops.length ct3], OwnSl 3 1 a3 ((plan ++ ([(gt steps (gt r3.1 i))] : List Int)).length) c2 (flL (plan ++ ([(gt steps (gt r3.1 i))] : List Int)))]) rfl ?_
      refine .v (asg rfl) rfl rfl rfl ?_
      refine .nil ?_
      refine .blkN ?_
      refine .seqN ?_
      refine .region ?_
      refine .v (mv rfl) rfl rfl rfl ?_
      refine .v (bi rfl rfl rfl) rfl rfl rfl ?_
      refine .v (asg rfl) rfl rfl rfl ?_
      refine .nil ?_
      refine .sel0 [1, 2] (by decide) rfl ?_
      exact .round (IntKind.i64.wrap (i + 1), (plan ++ ([(gt steps (gt r3.1 i))] : List Int)), a3, c2) hF.1 hF.2 (.cons rfl (.cons rfl (.cons rfl (.cons rfl (.cons rfl (.nil)))))) rfl (FH.le_refl _)
    replace hF := hF.2 q112
    refine .exit ?_
    refine .seqX ?_
    refine .seqX ?_
    refine .blkX ?_
    refine .seqN ?_
    refine .seq ?_
    refine .region ?_
    refine .v (ldA (cs := [.int .i64 t.facts, .slice at_ t.init.length ct, .slice at_2 t.goal.length ct2, .slice at_3 t.ops.length ct3]) rfl tA25 rfl (cellsB (off := 0) (k := 0) rfl (m := 4) rfl)) rfl rfl rfl ?_
    refine .v (mv rfl) rfl rfl rfl ?_
    obtain ⟨r5, q128⟩ : ∃ y_ : Bool × Fault, y_ = sp_solves t plan := ⟨_, rfl⟩
    replace hF := hF r5 q128
    refine .c (cl (v := .tuple #[.bool r5.1, .agg #[.int .i64 r5.2.code, .int .i64 r5.2.index]]) Try.call31 rfl rfl (fun w S => (by rw [q128]; obtain ⟨h_, hl_, hs_, hne_, hr_⟩ := look S (k := 1) rfl; exact c_solves hs_ t at_ ct (RSl.mono hl_ (_q1.mono (le1))) _q2 at_2 ct2 (RSl.mono hl_ (_q3.mono (le1))) _q4 at_3 ct3 (RSl.mono hl_ (_q5.mono (le1))) _q6 plan aplan cplan (RSl.of hr_) (look_len S (k := 1) rfl) ))) rfl rfl rfl ?_
    refine .v (mv rfl) rfl rfl rfl ?_
    refine .v (ext rfl rfl) rfl rfl rfl ?_
    refine .v (ext rfl rfl) rfl rfl rfl ?_
    refine al tZ28 rfl (fun ph => ?_)
    refine .v (asg rfl) rfl rfl rfl ?_
    refine st (p := ph) (off := 0) (k := 0) (vs := [.int .i64 r5.2.code, .int .i64 r5.2.index]) rfl rfl rfl (fun w => (tA28 w).2) rfl rfl rfl rfl ?_
    refine .cast (A' := [Box ph [.int .i64 r5.2.code, .int .i64 r5.2.index], Box pt [.int .i64 t.facts, .slice at_ t.init.length ct, .slice at_2 t.goal.length ct2, .slice at_3 t.ops.length ct3], OwnSl 3 1 aplan plan.length cplan (flL plan)]) rfl ?_
    refine .nil ?_
    refine .seqN ?_
    refine .seq ?_
    refine .region ?_
    refine .v (fa rfl tF28_0) rfl rfl rfl ?_
    refine .v (ld1 rfl tO3 (cellB (off := 0) (k := 0) rfl rfl)) rfl rfl rfl ?_
    refine .v (bi rfl rfl rfl) rfl rfl rfl ?_
    refine .v (mv rfl) rfl rfl rfl ?_
    rcases Bool.eq_false_or_eq_true (r5.2.code == 0) with q133 | q133
    · replace hF := hF.1 q133
      refine .gv (mv rfl) rfl rfl rfl q133 rfl rfl ?_
      refine .v (pkT rfl q133 rfl) rfl rfl rfl ?_
      refine .v (mv rfl) rfl rfl rfl ?_
      rcases Bool.eq_false_or_eq_true (r5.1) with q134 | q134
      · replace hF := hF.1 q134
        refine .gv (mv rfl) rfl rfl rfl q134 rfl rfl ?_
        refine .gv (ln rfl tS22.is) rfl rfl rfl q134 rfl rfl ?_
        refine .gv (mv rfl) rfl rfl rfl q134 rfl rfl ?_
        refine .gv (ln rfl tS22.is) rfl rfl rfl q134 rfl rfl ?_
        refine .gv (bi rfl rfl rfl) rfl rfl rfl q134 rfl rfl ?_
        refine .v (pkT rfl q134 rfl) rfl rfl rfl ?_
        refine .v (mv rfl) rfl rfl rfl ?_
        rcases Bool.eq_false_or_eq_true (((plan.length : Nat) : Int) == ((steps.length : Nat) : Int)) with q135 | q135
        · replace hF := hF.1 q135
          obtain ⟨r6, q136⟩ : ∃ y_ : Bool, y_ = sp_counted := ⟨_, rfl⟩
          replace hF := hF r6 q136
          refine .gc (cl (v := .bool r6) Try.call20 rfl rfl (fun w S => (by rw [q136]; exact c_counted S.sub  ))) rfl rfl rfl q135 rfl rfl ?_
          refine .v (pkT rfl q135 rfl) rfl rfl rfl ?_
          refine .v (asg rfl) rfl rfl rfl ?_
          refine .nil ?_
          refine .seqN ?_
          refine .ret ?_
          refine .res1 rfl (rvT rfl) (fun w' S => ⟨r6, hF, rfl, S.below⟩)
        replace hF := hF.2 q135
        refine .gS rfl rfl rfl q135 rfl rfl ?_
        refine .v (pkF rfl q135 rfl) rfl rfl rfl ?_
        refine .v (asg rfl) rfl rfl rfl ?_
        refine .nil ?_
        refine .seqN ?_
        refine .ret ?_
        refine .res1 rfl (rvT rfl) (fun w' S => ⟨false, hF, rfl, S.below⟩)
      replace hF := hF.2 q134
      refine .gS rfl rfl rfl q134 rfl rfl ?_
      refine .gS rfl rfl rfl q134 rfl rfl ?_
      refine .gS rfl rfl rfl q134 rfl rfl ?_
      refine .gS rfl rfl rfl q134 rfl rfl ?_
      refine .gS rfl rfl rfl q134 rfl rfl ?_
      refine .v (pkF rfl q134 rfl) rfl rfl rfl ?_
      refine .v (mv rfl) rfl rfl rfl ?_
      refine .gS rfl rfl rfl rfl rfl rfl ?_
      refine .v (pkF rfl rfl rfl) rfl rfl rfl ?_
      refine .v (asg rfl) rfl rfl rfl ?_
      refine .nil ?_
      refine .seqN ?_
      refine .ret ?_
      refine .res1 rfl (rvT rfl) (fun w' S => ⟨false, hF, rfl, S.below⟩)
    replace hF := hF.2 q133
    refine .gS rfl rfl rfl q133 rfl rfl ?_
    refine .v (pkF rfl q133 rfl) rfl rfl rfl ?_
    refine .v (mv rfl) rfl rfl rfl ?_
    refine .gS rfl rfl rfl rfl rfl rfl ?_
    refine .gS rfl rfl rfl rfl rfl rfl ?_
    refine .gS rfl rfl rfl rfl rfl rfl ?_
    refine .gS rfl rfl rfl rfl rfl rfl ?_
    refine .gS rfl rfl rfl rfl rfl rfl ?_
    refine .v (pkF rfl rfl rfl) rfl rfl rfl ?_
    refine .v (mv rfl) rfl rfl rfl ?_
    refine .gS rfl rfl rfl rfl rfl rfl ?_
    refine .v (pkF rfl rfl rfl) rfl rfl rfl ?_
    refine .v (asg rfl) rfl rfl rfl ?_
    refine .nil ?_
    refine .seqN ?_
    refine .ret ?_
    refine .res1 rfl (rvT rfl) (fun w' S => ⟨false, hF, rfl, S.below⟩)
  refine .region ?_
  refine .v (fa rfl tF28_0) rfl rfl rfl ?_
  refine .v (ld1 rfl tO3 (cellB (off := 0) (k := 1) rfl rfl)) rfl rfl rfl ?_
  refine .v (bi rfl rfl rfl) rfl rfl rfl ?_
  refine .v (mv rfl) rfl rfl rfl ?_
  rcases Bool.eq_false_or_eq_true (r2.2.code != 0) with q137 | q137
  · replace hF := hF.1 q137
    refine .gS rfl rfl rfl q137 rfl rfl ?_
    refine .gS rfl rfl rfl q137 rfl rfl ?_
    refine .gS rfl rfl rfl q137 rfl rfl ?_
    refine .v (pkT rfl q137 rfl) rfl rfl rfl ?_
    refine .v (mv rfl) rfl rfl rfl ?_
    refine .gS rfl rfl rfl rfl rfl rfl ?_
    refine .gS rfl rfl rfl rfl rfl rfl ?_
    refine .v (pkT rfl rfl rfl) rfl rfl rfl ?_
    refine .nil ?_
    refine .sel0 [2] (by decide) rfl ?_
    exact .use q17 true hF (.cons rfl (.cons rfl (.cons rfl (.cons rfl (.nil))))) rfl (FH.le_refl _)
  replace hF := hF.2 q137
  refine .gv (fa rfl tF28_0) rfl rfl rfl q137 rfl rfl ?_
  refine .gv (ld1 rfl tO3 (cellB (off := 0) (k := 0) rfl rfl)) rfl rfl rfl q137 rfl rfl ?_
  refine .gv (bi rfl rfl rfl) rfl rfl rfl q137 rfl rfl ?_
  refine .v (pkF rfl q137 rfl) rfl rfl rfl ?_
  refine .v (mv rfl) rfl rfl rfl ?_
  rcases Bool.eq_false_or_eq_true (r3.2.code != 0) with q138 | q138
  · replace hF := hF.1 q138
    refine .gS rfl rfl rfl q138 rfl rfl ?_
    refine .gS rfl rfl rfl q138 rfl rfl ?_
    refine .v (pkT rfl q138 rfl) rfl rfl rfl ?_
    refine .nil ?_
    refine .sel0 [2] (by decide) rfl ?_
    exact .use q17 true hF (.cons rfl (.cons rfl (.cons rfl (.cons rfl (.nil))))) rfl (FH.le_refl _)
  replace hF := hF.2 q138
  refine .gv (mv rfl) rfl rfl rfl q138 rfl rfl ?_
  refine .gv (nt rfl) rfl rfl rfl q138 rfl rfl ?_
  refine .v (pkF rfl q138 rfl) rfl rfl rfl ?_
  refine .nil ?_
  refine .sel0 [2] (by decide) rfl ?_
  exact .use q17 (!r2.1) hF (.cons rfl (.cons rfl (.cons rfl (.cons rfl (.nil))))) rfl (FH.le_refl _)

theorem c_lawFirst {h : FH} {w : World} (hs : Sub h w) (t : Task) (at_ : Option Addr) (ct : Nat) (_q1 : RSl h at_ t.init) (_q2 : t.init.length ≤ ct) (at_2 : Option Addr) (ct2 : Nat) (_q3 : RSl h at_2 t.goal) (_q4 : t.goal.length ≤ ct2) (at_3 : Option Addr) (ct3 : Nat) (_q5 : RSl h at_3 t.ops) (_q6 : t.ops.length ≤ ct3) (steps : List Int) (asteps : Option Addr) (csteps : Nat) (_q7 : RSl h asteps steps) (_q8 : steps.length ≤ csteps) (before : List (Int × Int)) (abefore : Option Addr) (cbefore : Nat) (_q9 : RSl h abefore before) (_q10 : before.length ≤ cbefore) : Calls Try.prog 7 #[.agg #[.int .i64 t.facts, .slice at_ t.init.length ct, .slice at_2 t.goal.length ct2, .slice at_3 t.ops.length ct3], .slice asteps steps.length csteps, .slice abefore before.length cbefore] w fun e w' => e = .returned (.bool (sp_lawFirst t steps before)) ∧ Below w.heap.size w w' :=
  (w_lawFirst hs t at_ ct _q1 _q2 at_2 ct2 _q3 _q4 at_3 ct3 _q5 _q6 steps asteps csteps _q7 _q8 before abefore cbefore _q9 _q10 (fun r => r = sp_lawFirst t steps before) (ok_lawFirst t steps before)).mono fun _ _ ⟨_, hk, he, hb⟩ => ⟨by rw [he, hk], hb⟩

set_option maxHeartbeats 8000000 in
theorem w_lawDeorder {h : FH} {w : World} (hs : Sub h w) (t : Task) (at_ : Option Addr) (ct : Nat) (_q1 : RSl h at_ t.init) (_q2 : t.init.length ≤ ct) (at_2 : Option Addr) (ct2 : Nat) (_q3 : RSl h at_2 t.goal) (_q4 : t.goal.length ≤ ct2) (at_3 : Option Addr) (ct3 : Nat) (_q5 : RSl h at_3 t.ops) (_q6 : t.ops.length ≤ ct3) (plan : List Int) (aplan : Option Addr) (cplan : Nat) (_q7 : RSl h aplan plan) (_q8 : plan.length ≤ cplan) (K : Bool → Prop) (hF : F_lawDeorder t plan K) : Calls Try.prog 6 #[.agg #[.int .i64 t.facts, .slice at_ t.init.length ct, .slice at_2 t.goal.length ct2, .slice at_3 t.ops.length ct3], .slice aplan plan.length cplan] w fun e w' => ∃ r : Bool, K r ∧ e = .returned (.bool r) ∧ Below w.heap.size w w' := by
  refine enter (args := [.agg #[.int .i64 t.facts, .slice at_ t.init.length ct, .slice at_2 t.goal.length ct2, .slice at_3 t.ops.length ct3], .slice aplan plan.length cplan]) Try.func6 rfl Try.ntmps6 rfl hs ?_
  refine .seq ?_
  refine .region ?_
  refine bx (vs := [.int .i64 t.facts, .slice at_ t.init.length ct, .slice at_2 t.goal.length ct2, .slice at_3 t.ops.length ct3]) rfl rfl rfl (fun pt => ?_)
  refine .v (asg rfl) rfl rfl rfl ?_
  refine .nil ?_
  refine .seqN ?_
  refine .seq ?_
  refine .region ?_
  refine .v (ldA (cs := [.int .i64 t.facts, .slice at_ t.init.length ct, .slice at_2 t.goal.length ct2, .slice at_3 t.ops.length ct3]) rfl tA25 rfl (cellsB (off := 0) (k := 0) rfl (m := 4) rfl)) rfl rfl rfl ?_
  refine .v (mv rfl) rfl rfl rfl ?_
  obtain ⟨r2, q9⟩ : ∃ y_ : (List (Int × Int)) × Fault, y_ = sp_deorder t plan := ⟨_, rfl⟩
  replace hF := hF r2 q9
  refine clR (α := Option Addr × Nat) (Φ := fun h1 z => RSl h1 z.1 r2.1 ∧ r2.1.length ≤ z.2) (V := fun z => .tuple #[.slice z.1 r2.1.length z.2, .agg #[.int .i64 r2.2.code, .int .i64 r2.2.index]]) Try.call25 rfl rfl (fun w S => (by rw [q9]; exact c_deorder S.sub t at_ ct _q1 _q2 at_2 ct2 _q3 _q4 at_3 ct3 _q5 _q6 plan aplan cplan _q7 _q8 )) rfl (fun z h1 le1 hz => ?_)
  obtain ⟨a, c⟩ := z
  obtain ⟨q10, q11⟩ := hz
  refine .v (mv rfl) rfl rfl rfl ?_
  refine .v (ext rfl rfl) rfl rfl rfl ?_
  refine .v (ext rfl rfl) rfl rfl rfl ?_
  refine al tZ28 rfl (fun pf => ?_)
  refine .v (asg rfl) rfl rfl rfl ?_
  refine st (p := pf) (off := 0) (k := 0) (vs := [.int .i64 r2.2.code, .int .i64 r2.2.index]) rfl rfl rfl (fun w => (tA28 w).2) rfl rfl rfl rfl ?_
  refine .cast (A' := [Box pf [.int .i64 r2.2.code, .int .i64 r2.2.index], Box pt [.int .i64 t.facts, .slice at_ t.init.length ct, .slice at_2 t.goal.length ct2, .slice at_3 t.ops.length ct3]]) rfl ?_
  refine .nil ?_
  refine .seqN ?_
  refine .seq ?_
  refine .region ?_
  refine .v (ldA (cs := [.int .i64 t.facts, .slice at_ t.init.length ct, .slice at_2 t.goal.length ct2, .slice at_3 t.ops.length ct3]) rfl tA25 rfl (cellsB (off := 0) (k := 1) rfl (m := 4) rfl)) rfl rfl rfl ?_
  refine .v (mv rfl) rfl rfl rfl ?_
  obtain ⟨r3, q12⟩ : ∃ y_ : Fault, y_ = sp_planFault t plan := ⟨_, rfl⟩
  replace hF := hF r3 q12
  refine .c (cl (v := .agg #[.int .i64 r3.code, .int .i64 r3.index]) Try.call26 rfl rfl (fun w S => (by rw [q12]; exact c_rPlanFault S.sub t at_ ct (_q1.mono (le1)) _q2 at_2 ct2 (_q3.mono (le1)) _q4 at_3 ct3 (_q5.mono (le1)) _q6 plan aplan cplan (_q7.mono (le1)) _q8 ))) rfl rfl rfl ?_
  refine al tZ28 rfl (fun pe => ?_)
  refine st (p := pe) (off := 0) (k := 0) (vs := [.int .i64 r3.code, .int .i64 r3.index]) rfl rfl rfl (fun w => (tA28 w).2) rfl rfl rfl rfl ?_
  refine .cast (A' := [Box pe [.int .i64 r3.code, .int .i64 r3.index], Box pf [.int .i64 r2.2.code, .int .i64 r2.2.index], Box pt [.int .i64 t.facts, .slice at_ t.init.length ct, .slice at_2 t.goal.length ct2, .slice at_3 t.ops.length ct3]]) rfl ?_
  refine .nil ?_
  refine .seqN ?_
  refine .seq ?_
  refine .share (σ := Bool) (fun z => F_lawDeorder_J1 t plan K r2 r3 z) (fun z => [(1, .slice aplan plan.length cplan), (2, .pointer (some pt)), (5, .slice a r2.1.length c), (6, .pointer (some pf)), (7, .pointer (some pe)), (24, .bool z)]) (fun _ => [Box pt [.int .i64 t.facts, .slice at_ t.init.length ct, .slice at_2 t.goal.length ct2, .slice at_3 t.ops.length ct3], Box pf [.int .i64 r2.2.code, .int .i64 r2.2.index], Box pe [.int .i64 r3.code, .int .i64 r3.index]]) (fun _ => h1) ?_ (fun q14 => ?_)
  · rintro t24 hF
    show J _ _ _ _ _ [(1, .slice aplan plan.length cplan), (2, .pointer (some pt)), (5, .slice a r2.1.length c), (6, .pointer (some pf)), (7, .pointer (some pe)), (24, .bool t24)] [Box pt [.int .i64 t.facts, .slice at_ t.init.length ct, .slice at_2 t.goal.length ct2, .slice at_3 t.ops.length ct3], Box pf [.int .i64 r2.2.code, .int .i64 r2.2.index], Box pe [.int .i64 r3.code, .int .i64 r3.index]] h1
    refine .shareT (σ := Int × Int) (fun z => F_lawDeorder_J2 t plan K r2 z.1 z.2) (fun _ => [(1, .slice aplan plan.length cplan), (2, .pointer (some pt)), (5, .slice a r2.1.length c), (6, .pointer (some pf)), (7, .pointer (some pe))]) (fun z => [Box pt [.int .i64 t.facts, .slice at_ t.init.length ct, .slice at_2 t.goal.length ct2, .slice at_3 t.ops.length ct3], Box pf [.int .i64 r2.2.code, .int .i64 r2.2.index], Box pe [.int .i64 z.1, .int .i64 z.2]]) (fun _ => h1) ?_ (fun q17 => ?_)
    · rintro ⟨x, x2⟩ hF
      show J _ _ _ _ _ [(1, .slice aplan plan.length cplan), (2, .pointer (some pt)), (5, .slice a r2.1.length c), (6, .pointer (some pf)), (7, .pointer (some pe))] [Box pt [.int .i64 t.facts, .slice at_ t.init.length ct, .slice at_2 t.goal.length ct2, .slice at_3 t.ops.length ct3], Box pf [.int .i64 r2.2.code, .int .i64 r2.2.index], Box pe [.int .i64 x, .int .i64 x2]] h1
      refine .seq ?_
      refine .share (σ := Bool) (fun z => F_lawDeorder_J3 t plan K r2 x x2 z) (fun z => [(1, .slice aplan plan.length cplan), (2, .pointer (some pt)), (5, .slice a r2.1.length c), (6, .pointer (some pf)), (7, .pointer (some pe)), (34, .bool z)]) (fun _ => [Box pt [.int .i64 t.facts, .slice at_ t.init.length ct, .slice at_2 t.goal.length ct2, .slice at_3 t.ops.length ct3], Box pf [.int .i64 r2.2.code, .int .i64 r2.2.index], Box pe [.int .i64 x, .int .i64 x2]]) (fun _ => h1) ?_ (fun q21 => ?_)
      · rintro t34 hF
        show J _ _ _ _ _ [(1, .slice aplan plan.length cplan), (2, .pointer (some pt)), (5, .slice a r2.1.length c), (6, .pointer (some pf)), (7, .pointer (some pe)), (34, .bool t34)] [Box pt [.int .i64 t.facts, .slice at_ t.init.length ct, .slice at_2 t.goal.length ct2, .slice at_3 t.ops.length ct3], Box pf [.int .i64 r2.2.code, .int .i64 r2.2.index], Box pe [.int .i64 x, .int .i64 x2]] h1
        refine .shareT (σ := Int × Int) (fun z => F_lawDeorder_J4 t plan K r2 z.1 z.2) (fun _ => [(1, .slice aplan plan.length cplan), (2, .pointer (some pt)), (5, .slice a r2.1.length c), (6, .pointer (some pf)), (7, .pointer (some pe))]) (fun z => [Box pt [.int .i64 t.facts, .slice at_ t.init.length ct, .slice at_2 t.goal.length ct2, .slice at_3 t.ops.length ct3], Box pf [.int .i64 r2.2.code, .int .i64 r2.2.index], Box pe [.int .i64 z.1, .int .i64 z.2]]) (fun _ => h1) ?_ (fun q24 => ?_)
        · rintro ⟨x3, x4⟩ hF
          show J _ _ _ _ _ [(1, .slice aplan plan.length cplan), (2, .pointer (some pt)), (5, .slice a r2.1.length c), (6, .pointer (some pf)), (7, .pointer (some pe))] [Box pt [.int .i64 t.facts, .slice at_ t.init.length ct, .slice at_2 t.goal.length ct2, .slice at_3 t.ops.length ct3], Box pf [.int .i64 r2.2.code, .int .i64 r2.2.index], Box pe [.int .i64 x3, .int .i64 x4]] h1
          refine .seq ?_
          refine .seq ?_
          refine .region ?_
          refine .v (fa rfl tF28_0) rfl rfl rfl ?_
          refine .v (ld1 rfl tO3 (cellB (off := 0) (k := 2) rfl rfl)) rfl rfl rfl ?_
          refine .v (bi rfl rfl rfl) rfl rfl rfl ?_
          refine .nil ?_
          refine .seqN ?_
          refine .cond rfl (fun q32 => ?_) (fun q32 => ?_)
          · replace hF := hF.1 q32
            refine .seq ?_
            refine .region ?_
            refine .v (ldA (cs := [.int .i64 r2.2.code, .int .i64 r2.2.index]) rfl tA28 rfl (cellsB (off := 0) (k := 1) rfl (m := 2) rfl)) rfl rfl rfl ?_
            refine .v (ldA (cs := [.int .i64 x3, .int .i64 x4]) rfl tA28 rfl (cellsB (off := 0) (k := 2) rfl (m := 2) rfl)) rfl rfl rfl ?_
            refine .v (eq2 tE28 rfl rfl) rfl rfl rfl ?_
            refine .v (mv rfl) rfl rfl rfl ?_
            rcases Bool.eq_false_or_eq_true ((r2.2.code == x3) && (r2.2.index == x4)) with q36 | q36
            · replace hF := hF.1 q36
              refine .gv (mv rfl) rfl rfl rfl q36 rfl rfl ?_
              refine .gv (ln rfl tS26.is) rfl rfl rfl q36 rfl rfl ?_
              refine .gv (bi rfl rfl rfl) rfl rfl rfl q36 rfl rfl ?_
              refine .v (pkT rfl q36 rfl) rfl rfl rfl ?_
              refine .v (mv rfl) rfl rfl rfl ?_
              rcases Bool.eq_false_or_eq_true (((r2.1.length : Nat) : Int) == 0) with q37 | q37
              · replace hF := hF.1 q37
                obtain ⟨r4, q38⟩ : ∃ y_ : Bool, y_ = sp_counted := ⟨_, rfl⟩
                replace hF := hF r4 q38
                refine .gc (cl (v := .bool r4) Try.call20 rfl rfl (fun w S => (by rw [q38]; exact c_counted S.sub  ))) rfl rfl rfl q37 rfl rfl ?_
                refine .v (pkT rfl q37 rfl) rfl rfl rfl ?_
                refine .v (asg rfl) rfl rfl rfl ?_
                refine .nil ?_
                refine .seqN ?_
                refine .ret ?_
                refine .seqR ?_
                refine .res1 rfl (rvT rfl) (fun w' S => ⟨r4, hF, rfl, S.below⟩)
              replace hF := hF.2 q37
              refine .gS rfl rfl rfl q37 rfl rfl ?_
              refine .v (pkF rfl q37 rfl) rfl rfl rfl ?_
              refine .v (asg rfl) rfl rfl rfl ?_
              refine .nil ?_
              refine .seqN ?_
              refine .ret ?_
              refine .seqR ?_
              refine .res1 rfl (rvT rfl) (fun w' S => ⟨false, hF, rfl, S.below⟩)
            replace hF := hF.2 q36
            refine .gS rfl rfl rfl q36 rfl rfl ?_
            refine .gS rfl rfl rfl q36 rfl rfl ?_
            refine .gS rfl rfl rfl q36 rfl rfl ?_
            refine .v (pkF rfl q36 rfl) rfl rfl rfl ?_
            refine .v (mv rfl) rfl rfl rfl ?_
            refine .gS rfl rfl rfl rfl rfl rfl ?_
            refine .v (pkF rfl rfl rfl) rfl rfl rfl ?_
            refine .v (asg rfl) rfl rfl rfl ?_
            refine .nil ?_
            refine .seqN ?_
            refine .ret ?_
            refine .seqR ?_
            refine .res1 rfl (rvT rfl) (fun w' S => ⟨false, hF, rfl, S.below⟩)
          replace hF := hF.2 q32
          refine .skip ?_
          refine .seqN ?_
          refine .seq ?_
          refine .region ?_
          refine .v (fa rfl tF28_0) rfl rfl rfl ?_
          refine .v (ld1 rfl tO3 (cellB (off := 0) (k := 1) rfl rfl)) rfl rfl rfl ?_
          refine .v (bi rfl rfl rfl) rfl rfl rfl ?_
          refine .v (mv rfl) rfl rfl rfl ?_
          rcases Bool.eq_false_or_eq_true (r2.2.code == 0) with q48 | q48
          · replace hF := hF.1 q48
            refine .gv (mv rfl) rfl rfl rfl q48 rfl rfl ?_
            refine .gv (ldA (cs := [.int .i64 t.facts, .slice at_ t.init.length ct, .slice at_2 t.goal.length ct2, .slice at_3 t.ops.length ct3]) rfl tA25 rfl (cellsB (off := 0) (k := 0) rfl (m := 4) rfl)) rfl rfl rfl q48 rfl rfl ?_
            refine .gv (mv rfl) rfl rfl rfl q48 rfl rfl ?_
            obtain ⟨q49, hF⟩ := hF
            obtain ⟨r5, q50⟩ : ∃ y_ : (List (Int × Int)), y_ = sp_pairsOf t plan := ⟨_, rfl⟩
            replace hF := hF r5 q50
            refine .gR rfl rfl rfl q48 ?_
            refine clR (α := Option Addr × Nat) (Φ := fun h1 z => RSl h1 z.1 r5 ∧ r5.length ≤ z.2) (V := fun z => .slice z.1 r5.length z.2) Try.call30 rfl rfl (fun w S => (by rw [q50]; exact c_pairsOf S.sub t at_ ct (_q1.mono (le1)) _q2 at_2 ct2 (_q3.mono (le1)) _q4 at_3 ct3 (_q5.mono (le1)) _q6 plan aplan cplan (_q7.mono (le1)) _q8 q49)) rfl (fun z h3 le3 hz => ?_)
            obtain ⟨a2, c2⟩ := z
            obtain ⟨q51, q52⟩ := hz
            obtain ⟨q53, hF⟩ := hF
            obtain ⟨r6, q54⟩ : ∃ y_ : Bool, y_ = sp_twoInts r2.1 r5 := ⟨_, rfl⟩
            replace hF := hF r6 q54
            refine .gc (cl (v := .bool r6) Try.call29 rfl rfl (fun w S => (by rw [q54]; exact c_twoInts S.sub r2.1 a c (q10.mono (le3)) q11 r5 a2 c2 q51 q52 q53))) rfl rfl rfl q48 rfl rfl ?_
            refine .v (pkT rfl q48 rfl) rfl rfl rfl ?_
            refine .v (mv rfl) rfl rfl rfl ?_
            rcases Bool.eq_false_or_eq_true (r6) with q55 | q55
            · replace hF := hF.1 q55
              obtain ⟨r7, q56⟩ : ∃ y_ : Bool, y_ = sp_counted := ⟨_, rfl⟩
              replace hF := hF r7 q56
              refine .gc (cl (v := .bool r7) Try.call20 rfl rfl (fun w S => (by rw [q56]; exact c_counted S.sub  ))) rfl rfl rfl q55 rfl rfl ?_
              refine .v (pkT rfl q55 rfl) rfl rfl rfl ?_
              refine .v (asg rfl) rfl rfl rfl ?_
              refine .nil ?_
              refine .seqN ?_
              refine .ret ?_
              refine .res1 rfl (rvT rfl) (fun w' S => ⟨r7, hF, rfl, S.below⟩)
            replace hF := hF.2 q55
            refine .gS rfl rfl rfl q55 rfl rfl ?_
            refine .v (pkF rfl q55 rfl) rfl rfl rfl ?_
            refine .v (asg rfl) rfl rfl rfl ?_
            refine .nil ?_
            refine .seqN ?_
            refine .ret ?_
            refine .res1 rfl (rvT rfl) (fun w' S => ⟨false, hF, rfl, S.below⟩)
          replace hF := hF.2 q48
          refine .gS rfl rfl rfl q48 rfl rfl ?_
          refine .gS rfl rfl rfl q48 rfl rfl ?_
          refine .gS rfl rfl rfl q48 rfl rfl ?_
          refine .gS rfl rfl rfl q48 rfl rfl ?_
          refine .gS rfl rfl rfl q48 rfl rfl ?_
          refine .v (pkF rfl q48 rfl) rfl rfl rfl ?_
          refine .v (mv rfl) rfl rfl rfl ?_
          refine .gS rfl rfl rfl rfl rfl rfl ?_
          refine .v (pkF rfl rfl rfl) rfl rfl rfl ?_
          refine .v (asg rfl) rfl rfl rfl ?_
          refine .nil ?_
          refine .seqN ?_
          refine .ret ?_
          refine .res1 rfl (rvT rfl) (fun w' S => ⟨false, hF, rfl, S.below⟩)
        refine .cond rfl (fun q57 => ?_) (fun q57 => ?_)
        · replace hF := hF.1 q57
          refine .region ?_
          obtain ⟨r8, q58⟩ : ∃ y_ : Fault, y_ = sp_at_ 11 (-8) := ⟨_, rfl⟩
          replace hF := hF r8 q58
          refine .c (cl (v := .agg #[.int .i64 r8.code, .int .i64 r8.index]) Try.call27 rfl rfl (fun w S => (by rw [q58]; exact c_at_ S.sub 11 (-8) ))) rfl rfl rfl ?_
          refine st (p := pe) (off := 0) (k := 2) (vs := [.int .i64 r8.code, .int .i64 r8.index]) rfl rfl rfl (fun w => (tA28 w).2) rfl rfl rfl rfl ?_
          refine .cast (A' := [Box pt [.int .i64 t.facts, .slice at_ t.init.length ct, .slice at_2 t.goal.length ct2, .slice at_3 t.ops.length ct3], Box pf [.int .i64 r2.2.code, .int .i64 r2.2.index], Box pe [.int .i64 r8.code, .int .i64 r8.index]]) rfl ?_
          refine .nil ?_
          exact .use q24 (r8.code, r8.index) hF (.cons rfl (.cons rfl (.cons rfl (.cons rfl (.cons rfl (.nil)))))) rfl (FH.le_refl _)
        replace hF := hF.2 q57
        refine .skip ?_
        exact .use q24 (x, x2) hF (.cons rfl (.cons rfl (.cons rfl (.cons rfl (.cons rfl (.nil)))))) rfl (FH.le_refl _)
      refine .region ?_
      refine .v (fa rfl tF28_0) rfl rfl rfl ?_
      refine .v (ld1 rfl tO3 (cellB (off := 0) (k := 2) rfl rfl)) rfl rfl rfl ?_
      refine .v (bi rfl rfl rfl) rfl rfl rfl ?_
      refine .v (mv rfl) rfl rfl rfl ?_
      rcases Bool.eq_false_or_eq_true (x == 0) with q59 | q59
      · replace hF := hF.1 q59
        refine .gv (ldA (cs := [.int .i64 t.facts, .slice at_ t.init.length ct, .slice at_2 t.goal.length ct2, .slice at_3 t.ops.length ct3]) rfl tA25 rfl (cellsB (off := 0) (k := 0) rfl (m := 4) rfl)) rfl rfl rfl q59 rfl rfl ?_
        refine .gv (mv rfl) rfl rfl rfl q59 rfl rfl ?_
        obtain ⟨q60, hF⟩ := hF
        obtain ⟨r9, q61⟩ : ∃ y_ : Bool, y_ = sp_rsolves t plan := ⟨_, rfl⟩
        replace hF := hF r9 q61
        refine .gc (cl (v := .bool r9) Try.call28 rfl rfl (fun w S => (by rw [q61]; exact c_rsolves S.sub t at_ ct (_q1.mono (le1)) _q2 at_2 ct2 (_q3.mono (le1)) _q4 at_3 ct3 (_q5.mono (le1)) _q6 plan aplan cplan (_q7.mono (le1)) _q8 q60))) rfl rfl rfl q59 rfl rfl ?_
        refine .gv (nt rfl) rfl rfl rfl q59 rfl rfl ?_
        refine .v (pkT rfl q59 rfl) rfl rfl rfl ?_
        refine .nil ?_
        exact .use q21 (!r9) hF (.cons rfl (.cons rfl (.cons rfl (.cons rfl (.cons rfl (.cons rfl (.nil))))))) rfl (FH.le_refl _)
      replace hF := hF.2 q59
      refine .gS rfl rfl rfl q59 rfl rfl ?_
      refine .gS rfl rfl rfl q59 rfl rfl ?_
      refine .gS rfl rfl rfl q59 rfl rfl ?_
      refine .gS rfl rfl rfl q59 rfl rfl ?_
      refine .v (pkF rfl q59 rfl) rfl rfl rfl ?_
      refine .nil ?_
      exact .use q21 false hF (.cons rfl (.cons rfl (.cons rfl (.cons rfl (.cons rfl (.cons rfl (.nil))))))) rfl (FH.le_refl _)
    refine .cond rfl (fun q62 => ?_) (fun q62 => ?_)
    · replace hF := hF.1 q62
      refine .region ?_
      obtain ⟨r10, q63⟩ : ∃ y_ : Fault, y_ = sp_at_ 2 (-5) := ⟨_, rfl⟩
      replace hF := hF r10 q63
      refine .c (cl (v := .agg #[.int .i64 r10.code, .int .i64 r10.index]) Try.call27 rfl rfl (fun w S => (by rw [q63]; exact c_at_ S.sub 2 (-5) ))) rfl rfl rfl ?_
      refine st (p := pe) (off := 0) (k := 2) (vs := [.int .i64 r10.code, .int .i64 r10.index]) rfl rfl rfl (fun w => (tA28 w).2) rfl rfl rfl rfl ?_
      refine .cast (A' := [Box pt [.int .i64 t.facts, .slice at_ t.init.length ct, .slice at_2 t.goal.length ct2, .slice at_3 t.ops.length ct3], Box pf [.int .i64 r2.2.code, .int .i64 r2.2.index], Box pe [.int .i64 r10.code, .int .i64 r10.index]]) rfl ?_
      refine .nil ?_
      exact .use q17 (r10.code, r10.index) hF (.cons rfl (.cons rfl (.cons rfl (.cons rfl (.cons rfl (.nil)))))) rfl (FH.le_refl _)
    replace hF := hF.2 q62
    refine .skip ?_
    exact .use q17 (r3.code, r3.index) hF (.cons rfl (.cons rfl (.cons rfl (.cons rfl (.cons rfl (.nil)))))) rfl (FH.le_refl _)
  refine .region ?_
  refine .v (fa rfl tF28_0) rfl rfl rfl ?_
  refine .v (ld1 rfl tO3 (cellB (off := 0) (k := 0) rfl rfl)) rfl rfl rfl ?_
  refine .v (bi rfl rfl rfl) rfl rfl rfl ?_
  refine .v (mv rfl) rfl rfl rfl ?_
  rcases Bool.eq_false_or_eq_true (r3.code == 0) with q64 | q64
  · replace hF := hF.1 q64
    refine .gv (mv rfl) rfl rfl rfl q64 rfl rfl ?_
    refine .gv (ln rfl tS22.is) rfl rfl rfl q64 rfl rfl ?_
    refine .gv (bi rfl rfl rfl) rfl rfl rfl q64 rfl rfl ?_
    refine .v (pkT rfl q64 rfl) rfl rfl rfl ?_
    refine .nil ?_
    refine .sel0 [2, 1, 0] (by decide) rfl ?_
    exact .use q14 (decide (7 < ((plan.length : Nat) : Int))) hF (.cons rfl (.cons rfl (.cons rfl (.cons rfl (.cons rfl (.cons rfl (.nil))))))) rfl (FH.le_refl _)
  replace hF := hF.2 q64
  refine .gS rfl rfl rfl q64 rfl rfl ?_
  refine .gS rfl rfl rfl q64 rfl rfl ?_
  refine .gS rfl rfl rfl q64 rfl rfl ?_
  refine .v (pkF rfl q64 rfl) rfl rfl rfl ?_
  refine .nil ?_
  refine .sel0 [2, 1, 0] (by decide) rfl ?_
  exact .use q14 false hF (.cons rfl (.cons rfl (.cons rfl (.cons rfl (.cons rfl (.cons rfl (.nil))))))) rfl (FH.le_refl _)

theorem c_lawDeorder {h : FH} {w : World} (hs : Sub h w) (t : Task) (at_ : Option Addr) (ct : Nat) (_q1 : RSl h at_ t.init) (_q2 : t.init.length ≤ ct) (at_2 : Option Addr) (ct2 : Nat) (_q3 : RSl h at_2 t.goal) (_q4 : t.goal.length ≤ ct2) (at_3 : Option Addr) (ct3 : Nat) (_q5 : RSl h at_3 t.ops) (_q6 : t.ops.length ≤ ct3) (plan : List Int) (aplan : Option Addr) (cplan : Nat) (_q7 : RSl h aplan plan) (_q8 : plan.length ≤ cplan) : Calls Try.prog 6 #[.agg #[.int .i64 t.facts, .slice at_ t.init.length ct, .slice at_2 t.goal.length ct2, .slice at_3 t.ops.length ct3], .slice aplan plan.length cplan] w fun e w' => e = .returned (.bool (sp_lawDeorder t plan)) ∧ Below w.heap.size w w' :=
  (w_lawDeorder hs t at_ ct _q1 _q2 at_2 ct2 _q3 _q4 at_3 ct3 _q5 _q6 plan aplan cplan _q7 _q8 (fun r => r = sp_lawDeorder t plan) (ok_lawDeorder t plan)).mono fun _ _ ⟨_, hk, he, hb⟩ => ⟨by rw [he, hk], hb⟩

theorem w_lawDeorderW {h : FH} {w : World} (hs : Sub h w) (t : Task) (at_ : Option Addr) (ct : Nat) (_q1 : RSl h at_ t.init) (_q2 : t.init.length ≤ ct) (at_2 : Option Addr) (ct2 : Nat) (_q3 : RSl h at_2 t.goal) (_q4 : t.goal.length ≤ ct2) (at_3 : Option Addr) (ct3 : Nat) (_q5 : RSl h at_3 t.ops) (_q6 : t.ops.length ≤ ct3) (plan : List Int) (aplan : Option Addr) (cplan : Nat) (_q7 : RSl h aplan plan) (_q8 : plan.length ≤ cplan) (K : Bool → Prop) (hF : F_lawDeorderW t plan K) : Calls Try.prog 8 #[.agg #[.int .i64 t.facts, .slice at_ t.init.length ct, .slice at_2 t.goal.length ct2, .slice at_3 t.ops.length ct3], .slice aplan plan.length cplan] w fun e w' => ∃ r : Bool, K r ∧ e = .returned (.bool r) ∧ Below w.heap.size w w' := by
  refine enter (args := [.agg #[.int .i64 t.facts, .slice at_ t.init.length ct, .slice at_2 t.goal.length ct2, .slice at_3 t.ops.length ct3], .slice aplan plan.length cplan]) Try.func8 rfl Try.ntmps8 rfl hs ?_
  refine .seq ?_
  refine .region ?_
  refine bx (vs := [.int .i64 t.facts, .slice at_ t.init.length ct, .slice at_2 t.goal.length ct2, .slice at_3 t.ops.length ct3]) rfl rfl rfl (fun pt => ?_)
  refine .v (asg rfl) rfl rfl rfl ?_
  refine .nil ?_
  refine .seqN ?_
  refine .seq ?_
  refine .region ?_
  refine .v (ldA (cs := [.int .i64 t.facts, .slice at_ t.init.length ct, .slice at_2 t.goal.length ct2, .slice at_3 t.ops.length ct3]) rfl tA25 rfl (cellsB (off := 0) (k := 0) rfl (m := 4) rfl)) rfl rfl rfl ?_
  refine .v (mv rfl) rfl rfl rfl ?_
  obtain ⟨r2, q9⟩ : ∃ y_ : (List (Int × Int)) × Fault, y_ = sp_deorder t plan := ⟨_, rfl⟩
  replace hF := hF r2 q9
  refine clR (α := Option Addr × Nat) (Φ := fun h1 z => RSl h1 z.1 r2.1 ∧ r2.1.length ≤ z.2) (V := fun z => .tuple #[.slice z.1 r2.1.length z.2, .agg #[.int .i64 r2.2.code, .int .i64 r2.2.index]]) Try.call25 rfl rfl (fun w S => (by rw [q9]; exact c_deorder S.sub t at_ ct _q1 _q2 at_2 ct2 _q3 _q4 at_3 ct3 _q5 _q6 plan aplan cplan _q7 _q8 )) rfl (fun z h1 le1 hz => ?_)
  obtain ⟨a, c⟩ := z
  obtain ⟨q10, q11⟩ := hz
  refine .v (mv rfl) rfl rfl rfl ?_
  refine .v (ext rfl rfl) rfl rfl rfl ?_
  refine .v (ext rfl rfl) rfl rfl rfl ?_
  refine al tZ28 rfl (fun pf => ?_)
  refine .v (asg rfl) rfl rfl rfl ?_
  refine st (p := pf) (off := 0) (k := 0) (vs := [.int .i64 r2.2.code, .int .i64 r2.2.index]) rfl rfl rfl (fun w => (tA28 w).2) rfl rfl rfl rfl ?_
  refine .cast (A' := [Box pf [.int .i64 r2.2.code, .int .i64 r2.2.index], Box pt [.int .i64 t.facts, .slice at_ t.init.length ct, .slice at_2 t.goal.length ct2, .slice at_3 t.ops.length ct3]]) rfl ?_
  refine .nil ?_
  refine .seqN ?_
  refine .seq ?_
  refine .share (σ := Bool) (fun z => F_lawDeorderW_J1 t plan K r2 z) (fun z => [(1, .slice aplan plan.length cplan), (2, .pointer (some pt)), (5, .slice a r2.1.length c), (22, .bool z)]) (fun _ => [Box pt [.int .i64 t.facts, .slice at_ t.init.length ct, .slice at_2 t.goal.length ct2, .slice at_3 t.ops.length ct3]]) (fun _ => h1) ?_ (fun q13 => ?_)
  · rintro t22 hF
    show J _ _ _ _ _ [(1, .slice aplan plan.length cplan), (2, .pointer (some pt)), (5, .slice a r2.1.length c), (22, .bool t22)] [Box pt [.int .i64 t.facts, .slice at_ t.init.length ct, .slice at_2 t.goal.length ct2, .slice at_3 t.ops.length ct3]] h1
    refine .cond rfl (fun q16 => ?_) (fun q16 => ?_)
    · replace hF := hF.1 q16
      refine .seq ?_
      refine .region ?_
      obtain ⟨r3, q17⟩ : ∃ y_ : Bool, y_ = sp_counted := ⟨_, rfl⟩
      replace hF := hF r3 q17
      refine .c (cl (v := .bool r3) Try.call20 rfl rfl (fun w S => (by rw [q17]; exact c_counted S.sub  ))) rfl rfl rfl ?_
      refine .v (asg rfl) rfl rfl rfl ?_
      refine .nil ?_
      refine .seqN ?_
      refine .ret ?_
      refine .seqR ?_
      refine .res1 rfl (rvT rfl) (fun w' S => ⟨r3, hF, rfl, S.below⟩)
    replace hF := hF.2 q16
    refine .skip ?_
    refine .seqN ?_
    refine .seq ?_
    refine .region ?_
    refine .v (ldA (cs := [.int .i64 t.facts, .slice at_ t.init.length ct, .slice at_2 t.goal.length ct2, .slice at_3 t.ops.length ct3]) rfl tA25 rfl (cellsB (off := 0) (k := 0) rfl (m := 4) rfl)) rfl rfl rfl ?_
    refine .v (mv rfl) rfl rfl rfl ?_
    refine .v (mv rfl) rfl rfl rfl ?_
    obtain ⟨r4, q18⟩ : ∃ y_ : Bool × Fault, y_ = sp_pcheck t plan r2.1 := ⟨_, rfl⟩
    replace hF := hF r4 q18
    refine .c (cl (v := .tuple #[.bool r4.1, .agg #[.int .i64 r4.2.code, .int .i64 r4.2.index]]) Try.call23 rfl rfl (fun w S => (by rw [q18]; exact c_pcheck S.sub t at_ ct (_q1.mono (le1)) _q2 at_2 ct2 (_q3.mono (le1)) _q4 at_3 ct3 (_q5.mono (le1)) _q6 plan aplan cplan (_q7.mono (le1)) _q8 r2.1 a c q10 q11 ))) rfl rfl rfl ?_
    refine .v (mv rfl) rfl rfl rfl ?_
    refine .v (ext rfl rfl) rfl rfl rfl ?_
    refine .v (ext rfl rfl) rfl rfl rfl ?_
    refine al tZ28 rfl (fun pg => ?_)
    refine .v (asg rfl) rfl rfl rfl ?_
    refine st (p := pg) (off := 0) (k := 0) (vs := [.int .i64 r4.2.code, .int .i64 r4.2.index]) rfl rfl rfl (fun w => (tA28 w).2) rfl rfl rfl rfl ?_
    refine .cast (A' := [Box pg [.int .i64 r4.2.code, .int .i64 r4.2.index], Box pt [.int .i64 t.facts, .slice at_ t.init.length ct, .slice at_2 t.goal.length ct2, .slice at_3 t.ops.length ct3]]) rfl ?_
    refine .nil ?_
    refine .seqN ?_
    refine .seq ?_
    refine .region ?_
    refine .v (fa rfl tF28_0) rfl rfl rfl ?_
    refine .v (ld1 rfl tO3 (cellB (off := 0) (k := 0) rfl rfl)) rfl rfl rfl ?_
    refine .v (bi rfl rfl rfl) rfl rfl rfl ?_
    refine .v (mv rfl) rfl rfl rfl ?_
    rcases Bool.eq_false_or_eq_true (r4.2.code == 0) with q22 | q22
    · replace hF := hF.1 q22
      refine .gv (mv rfl) rfl rfl rfl q22 rfl rfl ?_
      refine .v (pkT rfl q22 rfl) rfl rfl rfl ?_
      refine .v (mv rfl) rfl rfl rfl ?_
      rcases Bool.eq_false_or_eq_true (r4.1) with q23 | q23
      · replace hF := hF.1 q23
        obtain ⟨r5, q24⟩ : ∃ y_ : Bool, y_ = sp_counted := ⟨_, rfl⟩
        replace hF := hF r5 q24
        refine .gc (cl (v := .bool r5) Try.call20 rfl rfl (fun w S => (by rw [q24]; exact c_counted S.sub  ))) rfl rfl rfl q23 rfl rfl ?_
        refine .v (pkT rfl q23 rfl) rfl rfl rfl ?_
        refine .v (asg rfl) rfl rfl rfl ?_
        refine .nil ?_
        refine .seqN ?_
        refine .ret ?_
        refine .res1 rfl (rvT rfl) (fun w' S => ⟨r5, hF, rfl, S.below⟩)
      replace hF := hF.2 q23
      refine .gS rfl rfl rfl q23 rfl rfl ?_
      refine .v (pkF rfl q23 rfl) rfl rfl rfl ?_
      refine .v (asg rfl) rfl rfl rfl ?_
      refine .nil ?_
      refine .seqN ?_
      refine .ret ?_
      refine .res1 rfl (rvT rfl) (fun w' S => ⟨false, hF, rfl, S.below⟩)
    replace hF := hF.2 q22
    refine .gS rfl rfl rfl q22 rfl rfl ?_
    refine .v (pkF rfl q22 rfl) rfl rfl rfl ?_
    refine .v (mv rfl) rfl rfl rfl ?_
    refine .gS rfl rfl rfl rfl rfl rfl ?_
    refine .v (pkF rfl rfl rfl) rfl rfl rfl ?_
    refine .v (asg rfl) rfl rfl rfl ?_
    refine .nil ?_
    refine .seqN ?_
    refine .ret ?_
    refine .res1 rfl (rvT rfl) (fun w' S => ⟨false, hF, rfl, S.below⟩)
  refine .region ?_
  refine .v (fa rfl tF28_0) rfl rfl rfl ?_
  refine .v (ld1 rfl tO3 (cellB (off := 0) (k := 0) rfl rfl)) rfl rfl rfl ?_
  refine .v (bi rfl rfl rfl) rfl rfl rfl ?_
  refine .v (mv rfl) rfl rfl rfl ?_
  rcases Bool.eq_false_or_eq_true (r2.2.code != 0) with q25 | q25
  · replace hF := hF.1 q25
    refine .gS rfl rfl rfl q25 rfl rfl ?_
    refine .gS rfl rfl rfl q25 rfl rfl ?_
    refine .gS rfl rfl rfl q25 rfl rfl ?_
    refine .v (pkT rfl q25 rfl) rfl rfl rfl ?_
    refine .nil ?_
    refine .sel0 [1] (by decide) rfl ?_
    exact .use q13 true hF (.cons rfl (.cons rfl (.cons rfl (.cons rfl (.nil))))) rfl (FH.le_refl _)
  replace hF := hF.2 q25
  refine .gv (mv rfl) rfl rfl rfl q25 rfl rfl ?_
  refine .gv (ln rfl tS26.is) rfl rfl rfl q25 rfl rfl ?_
  refine .gv (bi rfl rfl rfl) rfl rfl rfl q25 rfl rfl ?_
  refine .v (pkF rfl q25 rfl) rfl rfl rfl ?_
  refine .nil ?_
  refine .sel0 [1] (by decide) rfl ?_
  exact .use q13 (decide (30 < ((r2.1.length : Nat) : Int))) hF (.cons rfl (.cons rfl (.cons rfl (.cons rfl (.nil))))) rfl (FH.le_refl _)

theorem c_lawDeorderW {h : FH} {w : World} (hs : Sub h w) (t : Task) (at_ : Option Addr) (ct : Nat) (_q1 : RSl h at_ t.init) (_q2 : t.init.length ≤ ct) (at_2 : Option Addr) (ct2 : Nat) (_q3 : RSl h at_2 t.goal) (_q4 : t.goal.length ≤ ct2) (at_3 : Option Addr) (ct3 : Nat) (_q5 : RSl h at_3 t.ops) (_q6 : t.ops.length ≤ ct3) (plan : List Int) (aplan : Option Addr) (cplan : Nat) (_q7 : RSl h aplan plan) (_q8 : plan.length ≤ cplan) : Calls Try.prog 8 #[.agg #[.int .i64 t.facts, .slice at_ t.init.length ct, .slice at_2 t.goal.length ct2, .slice at_3 t.ops.length ct3], .slice aplan plan.length cplan] w fun e w' => e = .returned (.bool (sp_lawDeorderW t plan)) ∧ Below w.heap.size w w' :=
  (w_lawDeorderW hs t at_ ct _q1 _q2 at_2 ct2 _q3 _q4 at_3 ct3 _q5 _q6 plan aplan cplan _q7 _q8 (fun r => r = sp_lawDeorderW t plan) (ok_lawDeorderW t plan)).mono fun _ _ ⟨_, hk, he, hb⟩ => ⟨by rw [he, hk], hb⟩

end Go.Proofs.Ytihbfbofbdkmbaa.Pl
