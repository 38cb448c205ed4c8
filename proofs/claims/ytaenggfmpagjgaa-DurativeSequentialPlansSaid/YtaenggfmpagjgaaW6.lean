/- The walks: from what each function asks to what it does; printed from the code. No condition. -/
import Derived.Test.YtaenggfmpagjgaaW5
namespace Go.Proofs.Ytaenggfmpagjgaa.Pl
open Go Go.RowKit
theorem w_lawSequence {h : FH} {w : World} (hs : Sub h w) (t : TTask) (at_ : Option Addr) (ct : Nat) (_q1 : RSl h at_ t.init) (_q2 : t.init.length ≤ ct) (at_2 : Option Addr) (ct2 : Nat) (_q3 : RSl h at_2 t.goal) (_q4 : t.goal.length ≤ ct2) (at_3 : Option Addr) (ct3 : Nat) (_q5 : RSl h at_3 t.ops) (_q6 : t.ops.length ≤ ct3) (K : Bool → Prop) (hF : F_lawSequence t K) : Calls Try.prog 7 #[.agg #[.int .i64 t.facts, .slice at_ t.init.length ct, .slice at_2 t.goal.length ct2, .slice at_3 t.ops.length ct3]] w fun e w' => ∃ r : Bool, K r ∧ e = .returned (.bool r) ∧ Below w.heap.size w w' := by
  refine enter (args := [.agg #[.int .i64 t.facts, .slice at_ t.init.length ct, .slice at_2 t.goal.length ct2, .slice at_3 t.ops.length ct3]]) Try.func7 rfl Try.ntmps7 rfl hs ?_
  refine .seq ?_
  refine .region ?_
  refine bx (vs := [.int .i64 t.facts, .slice at_ t.init.length ct, .slice at_2 t.goal.length ct2, .slice at_3 t.ops.length ct3]) rfl rfl rfl (fun pt => ?_)
  refine .v (asg rfl) rfl rfl rfl ?_
  refine .nil ?_
  refine .seqN ?_
  refine .seq ?_
  refine .region ?_
  refine .v (ldA (cs := [.int .i64 t.facts, .slice at_ t.init.length ct, .slice at_2 t.goal.length ct2, .slice at_3 t.ops.length ct3]) rfl tA25 rfl (cellsB (off := 0) (k := 0) rfl (m := 4) rfl)) rfl rfl rfl ?_
  obtain ⟨r2, q7⟩ : ∃ y_ : Task × Fault, y_ = sp_sequence t := ⟨_, rfl⟩
  replace hF := hF r2 q7
  refine clR (α := Option Addr × Nat × Option Addr × Nat × Option Addr × Nat) (Φ := fun h1 z => RSl h1 z.1 r2.1.init ∧ r2.1.init.length ≤ z.2.1 ∧ RSl h1 z.2.2.1 r2.1.goal ∧ r2.1.goal.length ≤ z.2.2.2.1 ∧ RSl h1 z.2.2.2.2.1 r2.1.ops ∧ r2.1.ops.length ≤ z.2.2.2.2.2) (V := fun z => .tuple #[.agg #[.int .i64 r2.1.facts, .slice z.1 r2.1.init.length z.2.1, .slice z.2.2.1 r2.1.goal.length z.2.2.2.1, .slice z.2.2.2.2.1 r2.1.ops.length z.2.2.2.2.2], .agg #[.int .i64 r2.2.code, .int .i64 r2.2.index]]) Try.call19 rfl rfl (fun w S => (by rw [q7]; exact c_sequence S.sub t at_ ct _q1 _q2 at_2 ct2 _q3 _q4 at_3 ct3 _q5 _q6 )) rfl (fun z h1 le1 hz => ?_)
  obtain ⟨a, c, a2, c2, a3, c3⟩ := z
  obtain ⟨q8, q9, q10, q11, q12, q13⟩ := hz
  refine .v (mv rfl) rfl rfl rfl ?_
  refine .v (ext rfl rfl) rfl rfl rfl ?_
  refine .v (ext rfl rfl) rfl rfl rfl ?_
  refine al tZ50 rfl (fun pu => ?_)
  refine al tZ28 rfl (fun pf => ?_)
  refine st (p := pu) (off := 0) (k := 1) (vs := [.int .i64 r2.1.facts, .slice a r2.1.init.length c, .slice a2 r2.1.goal.length c2, .slice a3 r2.1.ops.length c3]) rfl rfl rfl (fun w => (tA50 w).2) rfl rfl rfl rfl ?_
  refine .cast (A' := [Box pf [.int .i64 0, .int .i64 0], Box pu [.int .i64 r2.1.facts, .slice a r2.1.init.length c, .slice a2 r2.1.goal.length c2, .slice a3 r2.1.ops.length c3], Box pt [.int .i64 t.facts, .slice at_ t.init.length ct, .slice at_2 t.goal.length ct2, .slice at_3 t.ops.length ct3]]) rfl ?_
  refine st (p := pf) (off := 0) (k := 0) (vs := [.int .i64 r2.2.code, .int .i64 r2.2.index]) rfl rfl rfl (fun w => (tA28 w).2) rfl rfl rfl rfl ?_
  refine .cast (A' := [Box pf [.int .i64 r2.2.code, .int .i64 r2.2.index], Box pu [.int .i64 r2.1.facts, .slice a r2.1.init.length c, .slice a2 r2.1.goal.length c2, .slice a3 r2.1.ops.length c3], Box pt [.int .i64 t.facts, .slice at_ t.init.length ct, .slice at_2 t.goal.length ct2, .slice at_3 t.ops.length ct3]]) rfl ?_
  refine .nil ?_
  refine .seqN ?_
  refine .seq ?_
  refine .region ?_
  refine .v (ldA (cs := [.int .i64 t.facts, .slice at_ t.init.length ct, .slice at_2 t.goal.length ct2, .slice at_3 t.ops.length ct3]) rfl tA25 rfl (cellsB (off := 0) (k := 2) rfl (m := 4) rfl)) rfl rfl rfl ?_
  obtain ⟨r3, q14⟩ : ∃ y_ : Fault, y_ = sp_tvalidate t := ⟨_, rfl⟩
  replace hF := hF r3 q14
  refine .c (cl (v := .agg #[.int .i64 r3.code, .int .i64 r3.index]) Try.call12 rfl rfl (fun w S => (by rw [q14]; exact c_timedFault S.sub t at_ ct (_q1.mono (le1)) _q2 at_2 ct2 (_q3.mono (le1)) _q4 at_3 ct3 (_q5.mono (le1)) _q6 ))) rfl rfl rfl ?_
  refine al tZ28 rfl (fun pe => ?_)
  refine st (p := pe) (off := 0) (k := 0) (vs := [.int .i64 r3.code, .int .i64 r3.index]) rfl rfl rfl (fun w => (tA28 w).2) rfl rfl rfl rfl ?_
  refine .cast (A' := [Box pe [.int .i64 r3.code, .int .i64 r3.index], Box pf [.int .i64 r2.2.code, .int .i64 r2.2.index], Box pu [.int .i64 r2.1.facts, .slice a r2.1.init.length c, .slice a2 r2.1.goal.length c2, .slice a3 r2.1.ops.length c3], Box pt [.int .i64 t.facts, .slice at_ t.init.length ct, .slice at_2 t.goal.length ct2, .slice at_3 t.ops.length ct3]]) rfl ?_
  refine .nil ?_
  refine .seqN ?_
  refine .seq ?_
  refine .seq ?_
  refine .region ?_
  refine .v (fa rfl tF28_0) rfl rfl rfl ?_
  refine .v (ld1 rfl tO3 (cellB (off := 0) (k := 0) rfl rfl)) rfl rfl rfl ?_
  refine .v (bi rfl rfl rfl) rfl rfl rfl ?_
  refine .nil ?_
  refine .seqN ?_
  refine .cond rfl (fun q26 => ?_) (fun q26 => ?_)
  · replace hF := hF.1 q26
    refine .seq ?_
    refine .region ?_
    refine .v (ldA (cs := [.int .i64 r2.2.code, .int .i64 r2.2.index]) rfl tA28 rfl (cellsB (off := 0) (k := 1) rfl (m := 2) rfl)) rfl rfl rfl ?_
    refine .v (ldA (cs := [.int .i64 r3.code, .int .i64 r3.index]) rfl tA28 rfl (cellsB (off := 0) (k := 0) rfl (m := 2) rfl)) rfl rfl rfl ?_
    refine .v (eq2 tE28 rfl rfl) rfl rfl rfl ?_
    refine .v (mv rfl) rfl rfl rfl ?_
    rcases Bool.eq_false_or_eq_true ((r2.2.code == r3.code) && (r2.2.index == r3.index)) with q32 | q32
    · replace hF := hF.1 q32
      refine .gv (ldA (cs := [.int .i64 r2.1.facts, .slice a r2.1.init.length c, .slice a2 r2.1.goal.length c2, .slice a3 r2.1.ops.length c3]) rfl tA50 rfl (cellsB (off := 0) (k := 2) rfl (m := 4) rfl)) rfl rfl rfl q32 rfl rfl ?_
      refine .gv (bld (cs := #[.int .i64 0, .slice none 0 0, .slice none 0 0, .slice none 0 0]) (pv := []) tB50 rfl rfl) rfl rfl rfl q32 rfl rfl ?_
      obtain ⟨q33, hF⟩ := hF
      obtain ⟨r4, q34⟩ : ∃ y_ : Bool, y_ = sp_planning r2.1 (⟨0, [], [], []⟩ : Task) := ⟨_, rfl⟩
      replace hF := hF r4 q34
      refine .gc (cl (v := .bool r4) Try.call20 rfl rfl (fun w S => (by rw [q34]; exact c_planning S.sub r2.1 a c q8 q9 a2 c2 q10 q11 a3 c3 q12 q13 (⟨0, [], [], []⟩ : Task) none 0 RSl.nil_ (Nat.le_refl 0) none 0 RSl.nil_ (Nat.le_refl 0) none 0 RSl.nil_ (Nat.le_refl 0) q33))) rfl rfl rfl q32 rfl rfl ?_
      refine .v (pkT rfl q32 rfl) rfl rfl rfl ?_
      refine .v (mv rfl) rfl rfl rfl ?_
      rcases Bool.eq_false_or_eq_true (r4) with q35 | q35
      · replace hF := hF.1 q35
        obtain ⟨r5, q36⟩ : ∃ y_ : Bool, y_ = sp_lasted := ⟨_, rfl⟩
        replace hF := hF r5 q36
        refine .gc (cl (v := .bool r5) Try.call13 rfl rfl (fun w S => (by rw [q36]; exact c_lasted S.sub  ))) rfl rfl rfl q35 rfl rfl ?_
        refine .v (pkT rfl q35 rfl) rfl rfl rfl ?_
        refine .v (asg rfl) rfl rfl rfl ?_
        refine .nil ?_
        refine .seqN ?_
        refine .ret ?_
        refine .seqR ?_
        refine .res1 rfl (rvT rfl) (fun w' S => ⟨r5, hF, rfl, S.below⟩)
      replace hF := hF.2 q35
      refine .gS rfl rfl rfl q35 rfl rfl ?_
      refine .v (pkF rfl q35 rfl) rfl rfl rfl ?_
      refine .v (asg rfl) rfl rfl rfl ?_
      refine .nil ?_
      refine .seqN ?_
      refine .ret ?_
      refine .seqR ?_
      refine .res1 rfl (rvT rfl) (fun w' S => ⟨false, hF, rfl, S.below⟩)
    replace hF := hF.2 q32
    refine .gS rfl rfl rfl q32 rfl rfl ?_
    refine .gS rfl rfl rfl q32 rfl rfl ?_
    refine .gS rfl rfl rfl q32 rfl rfl ?_
    refine .v (pkF rfl q32 rfl) rfl rfl rfl ?_
    refine .v (mv rfl) rfl rfl rfl ?_
    refine .gS rfl rfl rfl rfl rfl rfl ?_
    refine .v (pkF rfl rfl rfl) rfl rfl rfl ?_
    refine .v (asg rfl) rfl rfl rfl ?_
    refine .nil ?_
    refine .seqN ?_
    refine .ret ?_
    refine .seqR ?_
    refine .res1 rfl (rvT rfl) (fun w' S => ⟨false, hF, rfl, S.below⟩)
  replace hF := hF.2 q26
  refine .skip ?_
  refine .seqN ?_
  refine .seq ?_
  rcases Bool.eq_false_or_eq_true (r2.2.code == 0) with q52 | q52
  · replace hF := hF.1 q52
    refine .openA (s0 := [(1, .pointer (some pt)), (3, .pointer (some pu)), (4, .pointer (some pf))]) [0, 1, 2, 3, 4, 5] [(0, .pointer (some (pf.add 0))), (1, .int .i64 r2.2.code), (2, .bool (r2.2.code == 0)), (3, .bool (r2.2.code == 0)), (4, .agg #[.int .i64 r2.1.facts, .slice a r2.1.init.length c, .slice a2 r2.1.goal.length c2, .slice a3 r2.1.ops.length c3]), (5, .agg #[.int .i64 t.facts, .slice at_ t.init.length ct, .slice at_2 t.goal.length ct2, .slice at_3 t.ops.length ct3])] (by kernel_rfl) (.cons rfl (.cons rfl (.cons rfl (.nil)))) [1, 3, 4] [] rfl (by kernel_rfl) ?_
    refine .step [6] 6 rfl (by kernel_rfl) (by kernel_rfl) (.v [] rfl rfl rfl rfl rfl rfl (fun _ => fa rfl tF28_0) (.v [(27, .pointer (some (pf.add 0)))] rfl rfl rfl rfl rfl rfl (fun _ => ld1 rfl tO3 (cellB (off := 0) (k := 1) rfl rfl)) (.v [(28, .int .i64 r2.2.code)] rfl rfl rfl rfl rfl rfl (fun _ => bi rfl rfl rfl) (.v [(29, .bool (r2.2.code == 0))] rfl rfl rfl rfl rfl rfl (fun _ => mv rfl) (.gv [(30, .bool (r2.2.code == 0))] rfl rfl rfl rfl q52 rfl rfl rfl rfl (fun _ => ldA (cs := [.int .i64 r2.1.facts, .slice a r2.1.init.length c, .slice a2 r2.1.goal.length c2, .slice a3 r2.1.ops.length c3]) rfl tA50 rfl (cellsB (off := 0) (k := 2) rfl (m := 4) rfl)) (.gv [(30, .bool (r2.2.code == 0))] rfl rfl rfl rfl q52 rfl rfl rfl rfl (fun _ => ldA (cs := [.int .i64 t.facts, .slice at_ t.init.length ct, .slice at_2 t.goal.length ct2, .slice at_3 t.ops.length ct3]) rfl tA25 rfl (cellsB (off := 0) (k := 3) rfl (m := 4) rfl)) (.nil))))))) (.cons [(32, .agg #[.int .i64 t.facts, .slice at_ t.init.length ct, .slice at_2 t.goal.length ct2, .slice at_3 t.ops.length ct3]), (30, .bool (r2.2.code == 0)), (30, .bool (r2.2.code == 0))] rfl rfl (fun sL hL => ?_) (.nil))
    obtain ⟨q53, hF⟩ := hF
    obtain ⟨r6, q54⟩ : ∃ y_ : Task, y_ = sp_sequenced t := ⟨_, rfl⟩
    replace hF := hF r6 q54
    refine .gR rfl rfl rfl q52 ?_
    refine clR (α := Option Addr × Nat × Option Addr × Nat × Option Addr × Nat) (Φ := fun h1 z => RSl h1 z.1 r6.init ∧ r6.init.length ≤ z.2.1 ∧ RSl h1 z.2.2.1 r6.goal ∧ r6.goal.length ≤ z.2.2.2.1 ∧ RSl h1 z.2.2.2.2.1 r6.ops ∧ r6.ops.length ≤ z.2.2.2.2.2) (V := fun z => .agg #[.int .i64 r6.facts, .slice z.1 r6.init.length z.2.1, .slice z.2.2.1 r6.goal.length z.2.2.2.1, .slice z.2.2.2.2.1 r6.ops.length z.2.2.2.2.2]) Try.call21 rfl rfl (fun w S => (by rw [q54]; exact c_sequenced S.sub t at_ ct (_q1.mono (le1)) _q2 at_2 ct2 (_q3.mono (le1)) _q4 at_3 ct3 (_q5.mono (le1)) _q6 q53)) rfl (fun z h3 le3 hz => ?_)
    obtain ⟨a4, c4, a5, c5, a6, c6⟩ := z
    obtain ⟨q55, q56, q57, q58, q59, q60⟩ := hz
    refine .nil ?_
    obtain ⟨q61, hF⟩ := hF
    obtain ⟨r7, q62⟩ : ∃ y_ : Bool, y_ = sp_planning r2.1 r6 := ⟨_, rfl⟩
    replace hF := hF r7 q62
    rcases Bool.eq_false_or_eq_true (r7) with q63 | q63
    · replace hF := hF.1 q63
      obtain ⟨r8, q64⟩ : ∃ y_ : Fault, y_ = sp_validate r2.1 := ⟨_, rfl⟩
      replace hF := hF r8 q64
      rcases Bool.eq_false_or_eq_true (r8.code == 0) with q65 | q65
      · replace hF := hF.1 q65
        obtain ⟨r9, q66⟩ : ∃ y_ : Bool, y_ = sp_lasted := ⟨_, rfl⟩
        replace hF := hF r9 q66
        refine .ja (M := [5, 3, 2, 1, 0]) (C' := [4, 7, 8, 9, 10, 11, 12, 13, 14, 15, 16, 17, 18]) (pre := [(6, .agg #[.int .i64 r6.facts, .slice a4 r6.init.length c4, .slice a5 r6.goal.length c5, .slice a6 r6.ops.length c6]), (7, .bool r7), (8, .bool r7), (9, .bool r7), (10, .agg #[.int .i64 r2.1.facts, .slice a r2.1.init.length c, .slice a2 r2.1.goal.length c2, .slice a3 r2.1.ops.length c3]), (11, .agg #[.int .i64 r8.code, .int .i64 r8.index]), (12, .int .i64 r8.code), (13, .bool (r8.code == 0)), (14, .bool (r8.code == 0)), (15, .bool (r8.code == 0)), (16, .bool r9), (17, .bool r9), (18, .bool r9)]) [(1, .pointer (some pt)), (3, .pointer (some pu)), (4, .pointer (some pf))] [1, 3, 4] hL rfl rfl rfl rfl rfl (.cons rfl (.cons rfl (.cons rfl (.nil)))) rfl rfl (by kernel_rfl) ?_
        refine .last [(27, .pointer (some (pf.add 0))), (28, .int .i64 r2.2.code), (29, .bool (r2.2.code == 0)), (30, .bool (r2.2.code == 0)), (31, .agg #[.int .i64 r2.1.facts, .slice a r2.1.init.length c, .slice a2 r2.1.goal.length c2, .slice a3 r2.1.ops.length c3]), (32, .agg #[.int .i64 t.facts, .slice at_ t.init.length ct, .slice at_2 t.goal.length ct2, .slice at_3 t.ops.length ct3]), (33, .agg #[.int .i64 r6.facts, .slice a4 r6.init.length c4, .slice a5 r6.goal.length c5, .slice a6 r6.ops.length c6]), (34, .bool r7), (35, .bool r7), (36, .bool r7), (37, .agg #[.int .i64 r2.1.facts, .slice a r2.1.init.length c, .slice a2 r2.1.goal.length c2, .slice a3 r2.1.ops.length c3]), (38, .agg #[.int .i64 r8.code, .int .i64 r8.index]), (39, .int .i64 r8.code), (40, .bool (r8.code == 0)), (41, .bool (r8.code == 0)), (42, .bool (r8.code == 0)), (43, .bool r9), (44, .bool r9), (2, .bool r9)] rfl (by kernel_rfl) (.gv [(30, .bool (r2.2.code == 0))] rfl rfl rfl rfl q52 rfl rfl rfl rfl (fun _ => ldA (cs := [.int .i64 r2.1.facts, .slice a r2.1.init.length c, .slice a2 r2.1.goal.length c2, .slice a3 r2.1.ops.length c3]) rfl tA50 rfl (cellsB (off := 0) (k := 2) rfl (m := 4) rfl)) (.gc [(31, .agg #[.int .i64 r2.1.facts, .slice a r2.1.init.length c, .slice a2 r2.1.goal.length c2, .slice a3 r2.1.ops.length c3]), (33, .agg #[.int .i64 r6.facts, .slice a4 r6.init.length c4, .slice a5 r6.goal.length c5, .slice a6 r6.ops.length c6]), (33, .agg #[.int .i64 r6.facts, .slice a4 r6.init.length c4, .slice a5 r6.goal.length c5, .slice a6 r6.ops.length c6]), (30, .bool (r2.2.code == 0))] rfl rfl rfl rfl q52 rfl rfl rfl rfl (fun _ => cl (v := .bool r7) Try.call20 rfl rfl (fun w S => (by rw [q62]; exact c_planning S.sub r2.1 a c (q8.mono (le3)) q9 a2 c2 (q10.mono (le3)) q11 a3 c3 (q12.mono (le3)) q13 r6 a4 c4 q55 q56 a5 c5 q57 q58 a6 c6 q59 q60 q61))) (.v [(30, .bool (r2.2.code == 0)), (34, .bool r7)] rfl rfl rfl rfl rfl rfl (fun _ => pkT rfl q52 rfl) (.v [(35, .bool r7), (34, .bool r7)] rfl rfl rfl rfl rfl rfl (fun _ => mv rfl) (.gv [(36, .bool r7)] rfl rfl rfl rfl q63 rfl rfl rfl rfl (fun _ => ldA (cs := [.int .i64 r2.1.facts, .slice a r2.1.init.length c, .slice a2 r2.1.goal.length c2, .slice a3 r2.1.ops.length c3]) rfl tA50 rfl (cellsB (off := 0) (k := 2) rfl (m := 4) rfl)) (.gc [(37, .agg #[.int .i64 r2.1.facts, .slice a r2.1.init.length c, .slice a2 r2.1.goal.length c2, .slice a3 r2.1.ops.length c3]), (36, .bool r7), (36, .bool r7)] rfl rfl rfl rfl q63 rfl rfl rfl rfl (fun _ => cl (v := .agg #[.int .i64 r8.code, .int .i64 r8.index]) Try.call22 rfl rfl (fun w S => (by rw [q64]; exact c_validate S.sub r2.1 a c (q8.mono (le3)) q9 a2 c2 (q10.mono (le3)) q11 a3 c3 (q12.mono (le3)) q13 ))) (.gv [(38, .agg #[.int .i64 r8.code, .int .i64 r8.index]), (36, .bool r7)] rfl rfl rfl rfl q63 rfl rfl rfl rfl (fun _ => fldV tV28_0 rfl rfl) (.gv [(39, .int .i64 r8.code), (36, .bool r7)] rfl rfl rfl rfl q63 rfl rfl rfl rfl (fun _ => bi rfl rfl rfl) (.v [(36, .bool r7), (40, .bool (r8.code == 0))] rfl rfl rfl rfl rfl rfl (fun _ => pkT rfl q63 rfl) (.v [(41, .bool (r8.code == 0)), (38, .agg #[.int .i64 r8.code, .int .i64 r8.index])] rfl rfl rfl rfl rfl rfl (fun _ => mv rfl) (.gc [(42, .bool (r8.code == 0)), (42, .bool (r8.code == 0))] rfl rfl rfl rfl q65 rfl rfl rfl rfl (fun _ => cl (v := .bool r9) Try.call13 rfl rfl (fun w S => (by rw [q66]; exact c_lasted S.sub  ))) (.v [(42, .bool (r8.code == 0)), (43, .bool r9)] rfl rfl rfl rfl rfl rfl (fun _ => pkT rfl q65 rfl) (.v [(44, .bool r9), (43, .bool r9), (27, .pointer (some (pf.add 0))), (28, .int .i64 r2.2.code), (29, .bool (r2.2.code == 0)), (30, .bool (r2.2.code == 0)), (31, .agg #[.int .i64 r2.1.facts, .slice a r2.1.init.length c, .slice a2 r2.1.goal.length c2, .slice a3 r2.1.ops.length c3]), (32, .agg #[.int .i64 t.facts, .slice at_ t.init.length ct, .slice at_2 t.goal.length ct2, .slice at_3 t.ops.length ct3]), (33, .agg #[.int .i64 r6.facts, .slice a4 r6.init.length c4, .slice a5 r6.goal.length c5, .slice a6 r6.ops.length c6]), (34, .bool r7), (35, .bool r7), (36, .bool r7), (37, .agg #[.int .i64 r2.1.facts, .slice a r2.1.init.length c, .slice a2 r2.1.goal.length c2, .slice a3 r2.1.ops.length c3]), (38, .agg #[.int .i64 r8.code, .int .i64 r8.index]), (39, .int .i64 r8.code), (40, .bool (r8.code == 0)), (41, .bool (r8.code == 0)), (42, .bool (r8.code == 0)), (43, .bool r9), (44, .bool r9)] rfl rfl rfl rfl rfl rfl (fun _ => asg rfl) (.nil)))))))))))))) rfl ?_
        refine .seqN ?_
        refine .ret ?_
        refine .res1 rfl (rvT rfl) (fun w' S => ⟨r9, hF, rfl, S.below⟩)
      replace hF := hF.2 q65
      refine .ja (M := [5, 3, 2, 1, 0]) (C' := [4, 7, 8, 9, 10, 11, 12, 13, 14, 15, 16, 17, 18]) (pre := [(6, .agg #[.int .i64 r6.facts, .slice a4 r6.init.length c4, .slice a5 r6.goal.length c5, .slice a6 r6.ops.length c6]), (7, .bool r7), (8, .bool r7), (9, .bool r7), (10, .agg #[.int .i64 r2.1.facts, .slice a r2.1.init.length c, .slice a2 r2.1.goal.length c2, .slice a3 r2.1.ops.length c3]), (11, .agg #[.int .i64 r8.code, .int .i64 r8.index]), (12, .int .i64 r8.code), (13, .bool (r8.code == 0)), (14, .bool (r8.code == 0)), (15, .bool (r8.code == 0)), (16, undef), (17, .bool false), (18, .bool false)]) [(1, .pointer (some pt)), (3, .pointer (some pu)), (4, .pointer (some pf))] [1, 3, 4] hL rfl rfl rfl rfl rfl (.cons rfl (.cons rfl (.cons rfl (.nil)))) rfl rfl (by kernel_rfl) ?_
      refine .last [(27, .pointer (some (pf.add 0))), (28, .int .i64 r2.2.code), (29, .bool (r2.2.code == 0)), (30, .bool (r2.2.code == 0)), (31, .agg #[.int .i64 r2.1.facts, .slice a r2.1.init.length c, .slice a2 r2.1.goal.length c2, .slice a3 r2.1.ops.length c3]), (32, .agg #[.int .i64 t.facts, .slice at_ t.init.length ct, .slice at_2 t.goal.length ct2, .slice at_3 t.ops.length ct3]), (33, .agg #[.int .i64 r6.facts, .slice a4 r6.init.length c4, .slice a5 r6.goal.length c5, .slice a6 r6.ops.length c6]), (34, .bool r7), (35, .bool r7), (36, .bool r7), (37, .agg #[.int .i64 r2.1.facts, .slice a r2.1.init.length c, .slice a2 r2.1.goal.length c2, .slice a3 r2.1.ops.length c3]), (38, .agg #[.int .i64 r8.code, .int .i64 r8.index]), (39, .int .i64 r8.code), (40, .bool (r8.code == 0)), (41, .bool (r8.code == 0)), (42, .bool (r8.code == 0)), (43, undef), (44, .bool false), (2, .bool false)] rfl (by kernel_rfl) (.gv [(30, .bool (r2.2.code == 0))] rfl rfl rfl rfl q52 rfl rfl rfl rfl (fun _ => ldA (cs := [.int .i64 r2.1.facts, .slice a r2.1.init.length c, .slice a2 r2.1.goal.length c2, .slice a3 r2.1.ops.length c3]) rfl tA50 rfl (cellsB (off := 0) (k := 2) rfl (m := 4) rfl)) (.gc [(31, .agg #[.int .i64 r2.1.facts, .slice a r2.1.init.length c, .slice a2 r2.1.goal.length c2, .slice a3 r2.1.ops.length c3]), (33, .agg #[.int .i64 r6.facts, .slice a4 r6.init.length c4, .slice a5 r6.goal.length c5, .slice a6 r6.ops.length c6]), (33, .agg #[.int .i64 r6.facts, .slice a4 r6.init.length c4, .slice a5 r6.goal.length c5, .slice a6 r6.ops.length c6]), (30, .bool (r2.2.code == 0))] rfl rfl rfl rfl q52 rfl rfl rfl rfl (fun _ => cl (v := .bool r7) Try.call20 rfl rfl (fun w S => (by rw [q62]; exact c_planning S.sub r2.1 a c (q8.mono (le3)) q9 a2 c2 (q10.mono (le3)) q11 a3 c3 (q12.mono (le3)) q13 r6 a4 c4 q55 q56 a5 c5 q57 q58 a6 c6 q59 q60 q61))) (.v [(30, .bool (r2.2.code == 0)), (34, .bool r7)] rfl rfl rfl rfl rfl rfl (fun _ => pkT rfl q52 rfl) (.v [(35, .bool r7), (34, .bool r7)] rfl rfl rfl rfl rfl rfl (fun _ => mv rfl) (.gv [(36, .bool r7)] rfl rfl rfl rfl q63 rfl rfl rfl rfl (fun _ => ldA (cs := [.int .i64 r2.1.facts, .slice a r2.1.init.length c, .slice a2 r2.1.goal.length c2, .slice a3 r2.1.ops.length c3]) rfl tA50 rfl (cellsB (off := 0) (k := 2) rfl (m := 4) rfl)) (.gc [(37, .agg #[.int .i64 r2.1.facts, .slice a r2.1.init.length c, .slice a2 r2.1.goal.length c2, .slice a3 r2.1.ops.length c3]), (36, .bool r7), (36, .bool r7)] rfl rfl rfl rfl q63 rfl rfl rfl rfl (fun _ => cl (v := .agg #[.int .i64 r8.code, .int .i64 r8.index]) Try.call22 rfl rfl (fun w S => (by rw [q64]; exact c_validate S.sub r2.1 a c (q8.mono (le3)) q9 a2 c2 (q10.mono (le3)) q11 a3 c3 (q12.mono (le3)) q13 ))) (.gv [(38, .agg #[.int .i64 r8.code, .int .i64 r8.index]), (36, .bool r7)] rfl rfl rfl rfl q63 rfl rfl rfl rfl (fun _ => fldV tV28_0 rfl rfl) (.gv [(39, .int .i64 r8.code), (36, .bool r7)] rfl rfl rfl rfl q63 rfl rfl rfl rfl (fun _ => bi rfl rfl rfl) (.v [(36, .bool r7), (40, .bool (r8.code == 0))] rfl rfl rfl rfl rfl rfl (fun _ => pkT rfl q63 rfl) (.v [(41, .bool (r8.code == 0)), (38, .agg #[.int .i64 r8.code, .int .i64 r8.index])] rfl rfl rfl rfl rfl rfl (fun _ => mv rfl) (.gS [(42, .bool (r8.code == 0)), (42, .bool (r8.code == 0))] rfl rfl rfl rfl q65 rfl rfl rfl rfl (.v [(42, .bool (r8.code == 0)), (43, undef)] rfl rfl rfl rfl rfl rfl (fun _ => pkF rfl q65 rfl) (.v [(44, .bool false), (43, undef), (27, .pointer (some (pf.add 0))), (28, .int .i64 r2.2.code), (29, .bool (r2.2.code == 0)), (30, .bool (r2.2.code == 0)), (31, .agg #[.int .i64 r2.1.facts, .slice a r2.1.init.length c, .slice a2 r2.1.goal.length c2, .slice a3 r2.1.ops.length c3]), (32, .agg #[.int .i64 t.facts, .slice at_ t.init.length ct, .slice at_2 t.goal.length ct2, .slice at_3 t.ops.length ct3]), (33, .agg #[.int .i64 r6.facts, .slice a4 r6.init.length c4, .slice a5 r6.goal.length c5, .slice a6 r6.ops.length c6]), (34, .bool r7), (35, .bool r7), (36, .bool r7), (37, .agg #[.int .i64 r2.1.facts, .slice a r2.1.init.length c, .slice a2 r2.1.goal.length c2, .slice a3 r2.1.ops.length c3]), (38, .agg #[.int .i64 r8.code, .int .i64 r8.index]), (39, .int .i64 r8.code), (40, .bool (r8.code == 0)), (41, .bool (r8.code == 0)), (42, .bool (r8.code == 0)), (43, undef), (44, .bool false)] rfl rfl rfl rfl rfl rfl (fun _ => asg rfl) (.nil)))))))))))))) rfl ?_
      refine .seqN ?_
      refine .ret ?_
      refine .res1 rfl (rvT rfl) (fun w' S => ⟨false, hF, rfl, S.below⟩)
    replace hF := hF.2 q63
    refine .ja (M := [5, 3, 2, 1, 0]) (C' := [4, 7, 8, 9, 10, 11, 12, 13, 14, 15, 16, 17, 18]) (pre := [(6, .agg #[.int .i64 r6.facts, .slice a4 r6.init.length c4, .slice a5 r6.goal.length c5, .slice a6 r6.ops.length c6]), (7, .bool r7), (8, .bool r7), (9, .bool r7), (10, undef), (11, undef), (12, undef), (13, undef), (14, .bool false), (15, .bool false), (16, undef), (17, .bool false), (18, .bool false)]) [(1, .pointer (some pt)), (3, .pointer (some pu)), (4, .pointer (some pf))] [1, 3, 4] hL rfl rfl rfl rfl rfl (.cons rfl (.cons rfl (.cons rfl (.nil)))) rfl rfl (by kernel_rfl) ?_
    refine .last [(27, .pointer (some (pf.add 0))), (28, .int .i64 r2.2.code), (29, .bool (r2.2.code == 0)), (30, .bool (r2.2.code == 0)), (31, .agg #[.int .i64 r2.1.facts, .slice a r2.1.init.length c, .slice a2 r2.1.goal.length c2, .slice a3 r2.1.ops.length c3]), (32, .agg #[.int .i64 t.facts, .slice at_ t.init.length ct, .slice at_2 t.goal.length ct2, .slice at_3 t.ops.length ct3]), (33, .agg #[.int .i64 r6.facts, .slice a4 r6.init.length c4, .slice a5 r6.goal.length c5, .slice a6 r6.ops.length c6]), (34, .bool r7), (35, .bool r7), (36, .bool r7), (37, undef), (38, undef), (39, undef), (40, undef), (41, .bool false), (42, .bool false), (43, undef), (44, .bool false), (2, .bool false)] rfl (by kernel_rfl) (.gv [(30, .bool (r2.2.code == 0))] rfl rfl rfl rfl q52 rfl rfl rfl rfl (fun _ => ldA (cs := [.int .i64 r2.1.facts, .slice a r2.1.init.length c, .slice a2 r2.1.goal.length c2, .slice a3 r2.1.ops.length c3]) rfl tA50 rfl (cellsB (off := 0) (k := 2) rfl (m := 4) rfl)) (.gc [(31, .agg #[.int .i64 r2.1.facts, .slice a r2.1.init.length c, .slice a2 r2.1.goal.length c2, .slice a3 r2.1.ops.length c3]), (33, .agg #[.int .i64 r6.facts, .slice a4 r6.init.length c4, .slice a5 r6.goal.length c5, .slice a6 r6.ops.length c6]), (33, .agg #[.int .i64 r6.facts, .slice a4 r6.init.length c4, .slice a5 r6.goal.length c5, .slice a6 r6.ops.length c6]), (30, .bool (r2.2.code == 0))] rfl rfl rfl rfl q52 rfl rfl rfl rfl (fun _ => cl (v := .bool r7) Try.call20 rfl rfl (fun w S => (by rw [q62]; exact c_planning S.sub r2.1 a c (q8.mono (le3)) q9 a2 c2 (q10.mono (le3)) q11 a3 c3 (q12.mono (le3)) q13 r6 a4 c4 q55 q56 a5 c5 q57 q58 a6 c6 q59 q60 q61))) (.v [(30, .bool (r2.2.code == 0)), (34, .bool r7)] rfl rfl rfl rfl rfl rfl (fun _ => pkT rfl q52 rfl) (.v [(35, .bool r7), (34, .bool r7)] rfl rfl rfl rfl rfl rfl (fun _ => mv rfl) (.gS [(36, .bool r7)] rfl rfl rfl rfl q63 rfl rfl rfl rfl (.gS [(37, undef), (36, .bool r7), (36, .bool r7)] rfl rfl rfl rfl q63 rfl rfl rfl rfl (.gS [(38, undef), (36, .bool r7)] rfl rfl rfl rfl q63 rfl rfl rfl rfl (.gS [(39, undef), (36, .bool r7)] rfl rfl rfl rfl q63 rfl rfl rfl rfl (.v [(36, .bool r7), (40, undef)] rfl rfl rfl rfl rfl rfl (fun _ => pkF rfl q63 rfl) (.v [(41, .bool false), (38, undef)] rfl rfl rfl rfl rfl rfl (fun _ => mv rfl) (.gS [(42, .bool false), (42, .bool false)] rfl rfl rfl rfl rfl rfl rfl rfl rfl (.v [(42, .bool false), (43, undef)] rfl rfl rfl rfl rfl rfl (fun _ => pkF rfl rfl rfl) (.v [(44, .bool false), (43, undef), (27, .pointer (some (pf.add 0))), (28, .int .i64 r2.2.code), (29, .bool (r2.2.code == 0)), (30, .bool (r2.2.code == 0)), (31, .agg #[.int .i64 r2.1.facts, .slice a r2.1.init.length c, .slice a2 r2.1.goal.length c2, .slice a3 r2.1.ops.length c3]), (32, .agg #[.int .i64 t.facts, .slice at_ t.init.length ct, .slice at_2 t.goal.length ct2, .slice at_3 t.ops.length ct3]), (33, .agg #[.int .i64 r6.facts, .slice a4 r6.init.length c4, .slice a5 r6.goal.length c5, .slice a6 r6.ops.length c6]), (34, .bool r7), (35, .bool r7), (36, .bool r7), (37, undef), (38, undef), (39, undef), (40, undef), (41, .bool false), (42, .bool false), (43, undef), (44, .bool false)] rfl rfl rfl rfl rfl rfl (fun _ => asg rfl) (.nil)))))))))))))) rfl ?_
    refine .seqN ?_
    refine .ret ?_
    refine .res1 rfl (rvT rfl) (fun w' S => ⟨false, hF, rfl, S.below⟩)
  replace hF := hF.2 q52
  refine .openA (s0 := [(1, .pointer (some pt)), (3, .pointer (some pu)), (4, .pointer (some pf))]) [0, 1, 2, 3, 4, 5, 6, 7, 8, 9, 10, 11, 12, 13, 14, 15, 16, 17, 18] [(0, .pointer (some (pf.add 0))), (1, .int .i64 r2.2.code), (2, .bool (r2.2.code == 0)), (3, .bool (r2.2.code == 0)), (4, undef), (5, undef), (6, undef), (7, undef), (8, .bool false), (9, .bool false), (10, undef), (11, undef), (12, undef), (13, undef), (14, .bool false), (15, .bool false), (16, undef), (17, .bool false), (18, .bool false)] (by kernel_rfl) (.cons rfl (.cons rfl (.cons rfl (.nil)))) [1, 3, 4] [] rfl (by kernel_rfl) ?_
  refine .last [(27, .pointer (some (pf.add 0))), (28, .int .i64 r2.2.code), (29, .bool (r2.2.code == 0)), (30, .bool (r2.2.code == 0)), (31, undef), (32, undef), (33, undef), (34, undef), (35, .bool false), (36, .bool false), (37, undef), (38, undef), (39, undef), (40, undef), (41, .bool false), (42, .bool false), (43, undef), (44, .bool false), (2, .bool false)] rfl (by kernel_rfl) (.v [] rfl rfl rfl rfl rfl rfl (fun _ => fa rfl tF28_0) (.v [(27, .pointer (some (pf.add 0)))] rfl rfl rfl rfl rfl rfl (fun _ => ld1 rfl tO3 (cellB (off := 0) (k := 1) rfl rfl)) (.v [(28, .int .i64 r2.2.code)] rfl rfl rfl rfl rfl rfl (fun _ => bi rfl rfl rfl) (.v [(29, .bool (r2.2.code == 0))] rfl rfl rfl rfl rfl rfl (fun _ => mv rfl) (.gS [(30, .bool (r2.2.code == 0))] rfl rfl rfl rfl q52 rfl rfl rfl rfl (.gS [(30, .bool (r2.2.code == 0))] rfl rfl rfl rfl q52 rfl rfl rfl rfl (.gS [(32, undef), (30, .bool (r2.2.code == 0)), (30, .bool (r2.2.code == 0))] rfl rfl rfl rfl q52 rfl rfl rfl rfl (.gS [(31, undef), (33, undef), (33, undef), (30, .bool (r2.2.code == 0))] rfl rfl rfl rfl q52 rfl rfl rfl rfl (.v [(30, .bool (r2.2.code == 0)), (34, undef)] rfl rfl rfl rfl rfl rfl (fun _ => pkF rfl q52 rfl) (.v [(35, .bool false), (34, undef)] rfl rfl rfl rfl rfl rfl (fun _ => mv rfl) (.gS [(36, .bool false)] rfl rfl rfl rfl rfl rfl rfl rfl rfl (.gS [(37, undef), (36, .bool false), (36, .bool false)] rfl rfl rfl rfl rfl rfl rfl rfl rfl (.gS [(38, undef), (36, .bool false)] rfl rfl rfl rfl rfl rfl rfl rfl rfl (.gS [(39, undef), (36, .bool false)] rfl rfl rfl rfl rfl rfl rfl rfl rfl (.v [(36, .bool false), (40, undef)] rfl rfl rfl rfl rfl rfl (fun _ => pkF rfl rfl rfl) (.v [(41, .bool false), (38, undef)] rfl rfl rfl rfl rfl rfl (fun _ => mv rfl) (.gS [(42, .bool false), (42, .bool false)] rfl rfl rfl rfl rfl rfl rfl rfl rfl (.v [(42, .bool false), (43, undef)] rfl rfl rfl rfl rfl rfl (fun _ => pkF rfl rfl rfl) (.v [(44, .bool false), (43, undef), (27, .pointer (some (pf.add 0))), (28, .int .i64 r2.2.code), (29, .bool (r2.2.code == 0)), (30, .bool (r2.2.code == 0)), (31, undef), (32, undef), (33, undef), (34, undef), (35, .bool false), (36, .bool false), (37, undef), (38, undef), (39, undef), (40, undef), (41, .bool false), (42, .bool false), (43, undef), (44, .bool false)] rfl rfl rfl rfl rfl rfl (fun _ => asg rfl) (.nil)))))))))))))))))))) rfl ?_
  refine .seqN ?_
  refine .ret ?_
  refine .res1 rfl (rvT rfl) (fun w' S => ⟨false, hF, rfl, S.below⟩)

theorem c_lawSequence {h : FH} {w : World} (hs : Sub h w) (t : TTask) (at_ : Option Addr) (ct : Nat) (_q1 : RSl h at_ t.init) (_q2 : t.init.length ≤ ct) (at_2 : Option Addr) (ct2 : Nat) (_q3 : RSl h at_2 t.goal) (_q4 : t.goal.length ≤ ct2) (at_3 : Option Addr) (ct3 : Nat) (_q5 : RSl h at_3 t.ops) (_q6 : t.ops.length ≤ ct3) : Calls Try.prog 7 #[.agg #[.int .i64 t.facts, .slice at_ t.init.length ct, .slice at_2 t.goal.length ct2, .slice at_3 t.ops.length ct3]] w fun e w' => e = .returned (.bool (sp_lawSequence t)) ∧ Below w.heap.size w w' :=
  (w_lawSequence hs t at_ ct _q1 _q2 at_2 ct2 _q3 _q4 at_3 ct3 _q5 _q6 (fun r => r = sp_lawSequence t) (ok_lawSequence t)).mono fun _ _ ⟨_, hk, he, hb⟩ => ⟨by rw [he, hk], hb⟩

set_option maxHeartbeats 8000000 in
theorem w_lawSequential {h : FH} {w : World} (hs : Sub h w) (t : TTask) (at_ : Option Addr) (ct : Nat) (_q1 : RSl h at_ t.init) (_q2 : t.init.length ≤ ct) (at_2 : Option Addr) (ct2 : Nat) (_q3 : RSl h at_2 t.goal) (_q4 : t.goal.length ≤ ct2) (at_3 : Option Addr) (ct3 : Nat) (_q5 : RSl h at_3 t.ops) (_q6 : t.ops.length ≤ ct3) (plan : List Int) (aplan : Option Addr) (cplan : Nat) (_q7 : RSl h aplan plan) (_q8 : plan.length ≤ cplan) (K : Bool → Prop) (hF : F_lawSequential t plan K) : Calls Try.prog 8 #[.agg #[.int .i64 t.facts, .slice at_ t.init.length ct, .slice at_2 t.goal.length ct2, .slice at_3 t.ops.length ct3], .slice aplan plan.length cplan] w fun e w' => ∃ r : Bool, K r ∧ e = .returned (.bool r) ∧ Below w.heap.size w w' := by
  refine enter (args := [.agg #[.int .i64 t.facts, .slice at_ t.init.length ct, .slice at_2 t.goal.length ct2, .slice at_3 t.ops.length ct3], .slice aplan plan.length cplan]) Try.func8 rfl Try.ntmps8 rfl hs ?_
  refine .seq ?_
  refine .region ?_
  refine bx (vs := [.int .i64 t.facts, .slice at_ t.init.length ct, .slice at_2 t.goal.length ct2, .slice at_3 t.ops.length ct3]) rfl rfl rfl (fun pt => ?_)
  refine .v (asg rfl) rfl rfl rfl ?_
  refine .nil ?_
  refine .seqN ?_
  refine .seq ?_
  refine .region ?_
  refine .v (ldA (cs := [.int .i64 t.facts, .slice at_ t.init.length ct, .slice at_2 t.goal.length ct2, .slice at_3 t.ops.length ct3]) rfl tA25 rfl (cellsB (off := 0) (k := 0) rfl (m := 4) rfl)) rfl rfl rfl ?_
  refine .v (mv rfl) rfl rfl rfl ?_
  obtain ⟨r2, q9⟩ : ∃ y_ : List Occ × Fault, y_ = sp_line t plan := ⟨_, rfl⟩
  replace hF := hF r2 q9
  refine clR (α := Option Addr × Nat) (Φ := fun h1 z => RSl h1 z.1 r2.1 ∧ r2.1.length ≤ z.2) (V := fun z => .tuple #[.slice z.1 r2.1.length z.2, .agg #[.int .i64 r2.2.code, .int .i64 r2.2.index]]) Try.call15 rfl rfl (fun w S => (by rw [q9]; exact c_line S.sub t at_ ct _q1 _q2 at_2 ct2 _q3 _q4 at_3 ct3 _q5 _q6 plan aplan cplan _q7 _q8 )) rfl (fun z h1 le1 hz => ?_)
  obtain ⟨a, c⟩ := z
  obtain ⟨q10, q11⟩ := hz
  refine .v (mv rfl) rfl rfl rfl ?_
  refine .v (ext rfl rfl) rfl rfl rfl ?_
  refine .v (ext rfl rfl) rfl rfl rfl ?_
  refine al tZ28 rfl (fun pf => ?_)
  refine .v (asg rfl) rfl rfl rfl ?_
  refine st (p := pf) (off := 0) (k := 0) (vs := [.int .i64 r2.2.code, .int .i64 r2.2.index]) rfl rfl rfl (fun w => (tA28 w).2) rfl rfl rfl rfl ?_
  refine .cast (A' := [Box pf [.int .i64 r2.2.code, .int .i64 r2.2.index], Box pt [.int .i64 t.facts, .slice at_ t.init.length ct, .slice at_2 t.goal.length ct2, .slice at_3 t.ops.length ct3]]) rfl ?_
  refine .nil ?_
  refine .seqN ?_
  refine .seq ?_
  refine .region ?_
  refine .v (ldA (cs := [.int .i64 t.facts, .slice at_ t.init.length ct, .slice at_2 t.goal.length ct2, .slice at_3 t.ops.length ct3]) rfl tA25 rfl (cellsB (off := 0) (k := 1) rfl (m := 4) rfl)) rfl rfl rfl ?_
  obtain ⟨r3, q12⟩ : ∃ y_ : Task × Fault, y_ = sp_sequence t := ⟨_, rfl⟩
  replace hF := hF r3 q12
  refine clR (α := Option Addr × Nat × Option Addr × Nat × Option Addr × Nat) (Φ := fun h1 z => RSl h1 z.1 r3.1.init ∧ r3.1.init.length ≤ z.2.1 ∧ RSl h1 z.2.2.1 r3.1.goal ∧ r3.1.goal.length ≤ z.2.2.2.1 ∧ RSl h1 z.2.2.2.2.1 r3.1.ops ∧ r3.1.ops.length ≤ z.2.2.2.2.2) (V := fun z => .tuple #[.agg #[.int .i64 r3.1.facts, .slice z.1 r3.1.init.length z.2.1, .slice z.2.2.1 r3.1.goal.length z.2.2.2.1, .slice z.2.2.2.2.1 r3.1.ops.length z.2.2.2.2.2], .agg #[.int .i64 r3.2.code, .int .i64 r3.2.index]]) Try.call19 rfl rfl (fun w S => (by rw [q12]; exact c_sequence S.sub t at_ ct (_q1.mono (le1)) _q2 at_2 ct2 (_q3.mono (le1)) _q4 at_3 ct3 (_q5.mono (le1)) _q6 )) rfl (fun z h2 le2 hz => ?_)
  obtain ⟨a2, c2, a3, c3, a4, c4⟩ := z
  obtain ⟨q13, q14, q15, q16, q17, q18⟩ := hz
  refine .v (mv rfl) rfl rfl rfl ?_
  refine .v (ext rfl rfl) rfl rfl rfl ?_
  refine .v (ext rfl rfl) rfl rfl rfl ?_
  refine al tZ50 rfl (fun pu => ?_)
  refine al tZ28 rfl (fun pg => ?_)
  refine st (p := pu) (off := 0) (k := 1) (vs := [.int .i64 r3.1.facts, .slice a2 r3.1.init.length c2, .slice a3 r3.1.goal.length c3, .slice a4 r3.1.ops.length c4]) rfl rfl rfl (fun w => (tA50 w).2) rfl rfl rfl rfl ?_
  refine .cast (A' := [Box pg [.int .i64 0, .int .i64 0], Box pu [.int .i64 r3.1.facts, .slice a2 r3.1.init.length c2, .slice a3 r3.1.goal.length c3, .slice a4 r3.1.ops.length c4], Box pf [.int .i64 r2.2.code, .int .i64 r2.2.index], Box pt [.int .i64 t.facts, .slice at_ t.init.length ct, .slice at_2 t.goal.length ct2, .slice at_3 t.ops.length ct3]]) rfl ?_
  refine st (p := pg) (off := 0) (k := 0) (vs := [.int .i64 r3.2.code, .int .i64 r3.2.index]) rfl rfl rfl (fun w => (tA28 w).2) rfl rfl rfl rfl ?_
  refine .cast (A' := [Box pg [.int .i64 r3.2.code, .int .i64 r3.2.index], Box pu [.int .i64 r3.1.facts, .slice a2 r3.1.init.length c2, .slice a3 r3.1.goal.length c3, .slice a4 r3.1.ops.length c4], Box pf [.int .i64 r2.2.code, .int .i64 r2.2.index], Box pt [.int .i64 t.facts, .slice at_ t.init.length ct, .slice at_2 t.goal.length ct2, .slice at_3 t.ops.length ct3]]) rfl ?_
  refine .nil ?_
  refine .seqN ?_
  refine .seq ?_
  refine .share (σ := Bool) (fun z => F_lawSequential_J1 t plan K r2 r3 z) (fun z => [(1, .slice aplan plan.length cplan), (2, .pointer (some pt)), (5, .slice a r2.1.length c), (7, .pointer (some pu)), (34, .bool z)]) (fun _ => [Box pt [.int .i64 t.facts, .slice at_ t.init.length ct, .slice at_2 t.goal.length ct2, .slice at_3 t.ops.length ct3], Box pu [.int .i64 r3.1.facts, .slice a2 r3.1.init.length c2, .slice a3 r3.1.goal.length c3, .slice a4 r3.1.ops.length c4]]) (fun _ => h2) ?_ (fun q20 => ?_)
  · rintro t34 hF
    show J _ _ _ _ _ [(1, .slice aplan plan.length cplan), (2, .pointer (some pt)), (5, .slice a r2.1.length c), (7, .pointer (some pu)), (34, .bool t34)] [Box pt [.int .i64 t.facts, .slice at_ t.init.length ct, .slice at_2 t.goal.length ct2, .slice at_3 t.ops.length ct3], Box pu [.int .i64 r3.1.facts, .slice a2 r3.1.init.length c2, .slice a3 r3.1.goal.length c3, .slice a4 r3.1.ops.length c4]] h2
    refine .cond rfl (fun q23 => ?_) (fun q23 => ?_)
    · replace hF := hF.1 q23
      refine .seq ?_
      refine .region ?_
      obtain ⟨r4, q24⟩ : ∃ y_ : Bool, y_ = sp_lasted := ⟨_, rfl⟩
      replace hF := hF r4 q24
      refine .c (cl (v := .bool r4) Try.call13 rfl rfl (fun w S => (by rw [q24]; exact c_lasted S.sub  ))) rfl rfl rfl ?_
      refine .v (asg rfl) rfl rfl rfl ?_
      refine .nil ?_
      refine .seqN ?_
      refine .ret ?_
      refine .seqR ?_
      refine .res1 rfl (rvT rfl) (fun w' S => ⟨r4, hF, rfl, S.below⟩)
    replace hF := hF.2 q23
    refine .skip ?_
    refine .seqN ?_
    refine .seq ?_
    refine .region ?_
    refine .v (ldA (cs := [.int .i64 r3.1.facts, .slice a2 r3.1.init.length c2, .slice a3 r3.1.goal.length c3, .slice a4 r3.1.ops.length c4]) rfl tA50 rfl (cellsB (off := 0) (k := 1) rfl (m := 4) rfl)) rfl rfl rfl ?_
    refine .v (mv rfl) rfl rfl rfl ?_
    obtain ⟨r5, q25⟩ : ∃ y_ : Bool × Fault, y_ = sp_solves r3.1 plan := ⟨_, rfl⟩
    replace hF := hF r5 q25
    refine .c (cl (v := .tuple #[.bool r5.1, .agg #[.int .i64 r5.2.code, .int .i64 r5.2.index]]) Try.call23 rfl rfl (fun w S => (by rw [q25]; exact c_solves S.sub r3.1 a2 c2 q13 q14 a3 c3 q15 q16 a4 c4 q17 q18 plan aplan cplan (_q7.mono (FH.le_trans (le1) (le2))) _q8 ))) rfl rfl rfl ?_
    refine .v (mv rfl) rfl rfl rfl ?_
    refine .v (ext rfl rfl) rfl rfl rfl ?_
    refine .v (ext rfl rfl) rfl rfl rfl ?_
    refine al tZ28 rfl (fun ph => ?_)
    refine .v (asg rfl) rfl rfl rfl ?_
    refine st (p := ph) (off := 0) (k := 0) (vs := [.int .i64 r5.2.code, .int .i64 r5.2.index]) rfl rfl rfl (fun w => (tA28 w).2) rfl rfl rfl rfl ?_
    refine .cast (A' := [Box ph [.int .i64 r5.2.code, .int .i64 r5.2.index], Box pt [.int .i64 t.facts, .slice at_ t.init.length ct, .slice at_2 t.goal.length ct2, .slice at_3 t.ops.length ct3], Box pu [.int .i64 r3.1.facts, .slice a2 r3.1.init.length c2, .slice a3 r3.1.goal.length c3, .slice a4 r3.1.ops.length c4]]) rfl ?_
    refine .nil ?_
    refine .seqN ?_
    refine .seq ?_
    refine .region ?_
    refine .v (ldA (cs := [.int .i64 t.facts, .slice at_ t.init.length ct, .slice at_2 t.goal.length ct2, .slice at_3 t.ops.length ct3]) rfl tA25 rfl (cellsB (off := 0) (k := 1) rfl (m := 4) rfl)) rfl rfl rfl ?_
    refine .v (mv rfl) rfl rfl rfl ?_
    obtain ⟨r6, q26⟩ : ∃ y_ : Int × Bool × Fault, y_ = sp_tcheck t r2.1 := ⟨_, rfl⟩
    replace hF := hF r6 q26
    refine .c (cl (v := .tuple #[.int .i64 r6.1, .bool r6.2.1, .agg #[.int .i64 r6.2.2.code, .int .i64 r6.2.2.index]]) Try.call9 rfl rfl (fun w S => (by rw [q26]; exact c_tcheck S.sub t at_ ct (_q1.mono (FH.le_trans (le1) (le2))) _q2 at_2 ct2 (_q3.mono (FH.le_trans (le1) (le2))) _q4 at_3 ct3 (_q5.mono (FH.le_trans (le1) (le2))) _q6 r2.1 a c (q10.mono (le2)) q11 ))) rfl rfl rfl ?_
    refine .v (mv rfl) rfl rfl rfl ?_
    refine .v (ext rfl rfl) rfl rfl rfl ?_
    refine .v (ext rfl rfl) rfl rfl rfl ?_
    refine .v (ext rfl rfl) rfl rfl rfl ?_
    refine al tZ28 rfl (fun pi => ?_)
    refine .v (asg rfl) rfl rfl rfl ?_
    refine .v (asg rfl) rfl rfl rfl ?_
    refine st (p := pi) (off := 0) (k := 0) (vs := [.int .i64 r6.2.2.code, .int .i64 r6.2.2.index]) rfl rfl rfl (fun w => (tA28 w).2) rfl rfl rfl rfl ?_
    refine .cast (A' := [Box pi [.int .i64 r6.2.2.code, .int .i64 r6.2.2.index], Box ph [.int .i64 r5.2.code, .int .i64 r5.2.index], Box pt [.int .i64 t.facts, .slice at_ t.init.length ct, .slice at_2 t.goal.length ct2, .slice at_3 t.ops.length ct3], Box pu [.int .i64 r3.1.facts, .slice a2 r3.1.init.length c2, .slice a3 r3.1.goal.length c3, .slice a4 r3.1.ops.length c4]]) rfl ?_
    refine .nil ?_
    refine .seqN ?_
    refine .seq ?_
    refine .share (σ := Bool) (fun z => F_lawSequential_J2 t plan K r5 r6 z) (fun z => [(1, .slice aplan plan.length cplan), (2, .pointer (some pt)), (9, .bool r5.1), (11, .int .i64 r6.1), (61, .bool z)]) (fun _ => [Box pt [.int .i64 t.facts, .slice at_ t.init.length ct, .slice at_2 t.goal.length ct2, .slice at_3 t.ops.length ct3]]) (fun _ => h2) ?_ (fun q29 => ?_)
    · rintro t61 hF
      show J _ _ _ _ _ [(1, .slice aplan plan.length cplan), (2, .pointer (some pt)), (9, .bool r5.1), (11, .int .i64 r6.1), (61, .bool t61)] [Box pt [.int .i64 t.facts, .slice at_ t.init.length ct, .slice at_2 t.goal.length ct2, .slice at_3 t.ops.length ct3]] h2
      refine .cond rfl (fun q31 => ?_) (fun q31 => ?_)
      · replace hF := hF.1 q31
        refine .seq ?_
        refine .region ?_
        refine .v (asg rfl) rfl rfl rfl ?_
        refine .nil ?_
        refine .seqN ?_
        refine .ret ?_
        refine .seqR ?_
        refine .res1 rfl (rvT rfl) (fun w' S => ⟨false, hF, rfl, S.below⟩)
      replace hF := hF.2 q31
      refine .skip ?_
      refine .seqN ?_
      refine .seq ?_
      refine .region ?_
      refine .v (asg rfl) rfl rfl rfl ?_
      refine .nil ?_
      refine .seqN ?_
      refine .seq ?_
      refine .seq ?_
      refine .region ?_
      refine .v (asg rfl) rfl rfl rfl ?_
      refine .nil ?_
      refine .seqN ?_
      refine .block ?_
      obtain ⟨I1, μ1, q299, q300⟩ := hF
      refine .loop' (σ := Int × Int) (fun z => I1 z.1 z.2) (fun z => μ1 z.1 z.2) (fun z => [(1, .slice aplan plan.length cplan), (2, .pointer (some pt)), (9, .bool r5.1), (11, .int .i64 r6.1), (14, .int .i64 z.1), (15, .int .i64 z.2)]) (fun _ => [Box pt [.int .i64 t.facts, .slice at_ t.init.length ct, .slice at_2 t.goal.length ct2, .slice at_3 t.ops.length ct3]]) (fun _ => h2) (0, 0) q299 (.cons rfl (.cons rfl (.cons rfl (.cons rfl (.cons rfl (.cons rfl (.nil))))))) rfl (FH.le_refl _) ?_
      rintro ⟨sum, k⟩ q299
      have hF := q300 sum k q299
      show J _ _ _ _ _ [(1, .slice aplan plan.length cplan), (2, .pointer (some pt)), (9, .bool r5.1), (11, .int .i64 r6.1), (14, .int .i64 sum), (15, .int .i64 k)] [Box pt [.int .i64 t.facts, .slice at_ t.init.length ct, .slice at_2 t.goal.length ct2, .slice at_3 t.ops.length ct3]] h2
      refine .seq ?_
      refine .seq ?_
      refine .region ?_
      refine .v (mv rfl) rfl rfl rfl ?_
      refine .v (mv rfl) rfl rfl rfl ?_
      refine .v (ln rfl tS22.is) rfl rfl rfl ?_
      refine .v (bi rfl rfl rfl) rfl rfl rfl ?_
      refine .nil ?_
      refine .seqN ?_
      refine .cond rfl (fun q302 => ?_) (fun q302 => ?_)
      · replace hF := hF.1 q302
        refine .skip ?_
        refine .seqN ?_
        refine .seq ?_
        refine .block ?_
        refine .open_ (by kernel_rfl) (by kernel_rfl) ?_
        refine .v (mv rfl) rfl rfl rfl ?_
        refine .v (fa rfl tF25_3) rfl rfl rfl ?_
        refine .v (ld1 rfl tO23 (cellB (off := 3) (k := 0) rfl rfl)) rfl rfl rfl ?_
        refine .v (mv rfl) rfl rfl rfl ?_
        refine .v (mv rfl) rfl rfl rfl ?_
        obtain ⟨q337, hF⟩ := hF
        refine .v (ix rfl rfl tS22 (_q7.ne (by decide) (inb_pos q337)) q337) rfl rfl rfl ?_
        refine .v (ld1 (v := .int .i64 (gt plan k)) rfl tO3 (cellH ((_q7.mono (FH.le_trans (le1) (le2))).elemF q337 (by decide) 0 _ rfl))) rfl rfl rfl ?_
        obtain ⟨q338, hF⟩ := hF
        refine .v (ix rfl rfl tS23 (_q5.ne (by decide) (inb_pos q338)) q338) rfl rfl rfl ?_
        refine .v (fa rfl tF41_7) rfl rfl rfl ?_
        obtain ⟨_, ⟨a5, c5, a6, c6, a7, c7, a8, c8, a9, c9, a10, c10, a11, c11, rfl, ⟨q339, q340⟩, ⟨q341, q342⟩, ⟨q343, q344⟩, ⟨q345, q346⟩, ⟨q347, q348⟩, ⟨q349, q350⟩, q351, q352⟩, q353⟩ := _q5.elem q338
        refine .v (ld1 (v := .int .i64 ((gt t.ops (gt plan k)).dur)) rfl tO3 (cellH ((fun q => (q353 q).mono (FH.le_trans (le1) (le2))) (by decide) 7 _ rfl))) rfl rfl rfl ?_
        refine .v (bi rfl rfl rfl) rfl rfl rfl ?_
        refine .v (asg rfl) rfl rfl rfl ?_
        refine .fin ?_
        refine .blkN ?_
        refine .seqN ?_
        refine .region ?_
        refine .v (mv rfl) rfl rfl rfl ?_
        refine .v (bi rfl rfl rfl) rfl rfl rfl ?_
        refine .v (asg rfl) rfl rfl rfl ?_
        refine .nil ?_
        exact .round (IntKind.i64.wrap (sum + ((gt t.ops (gt plan k)).dur)), IntKind.i64.wrap (k + 1)) hF.1 hF.2 (.cons rfl (.cons rfl (.cons rfl (.cons rfl (.cons rfl (.cons rfl (.nil))))))) rfl (FH.le_refl _)
      replace hF := hF.2 q302
      refine .exit ?_
      refine .seqX ?_
      refine .seqX ?_
      refine .blkX ?_
      refine .seqN ?_
      refine .seq ?_
      refine .region ?_
      refine .v (mv rfl) rfl rfl rfl ?_
      refine .v (nt rfl) rfl rfl rfl ?_
      refine .v (mv rfl) rfl rfl rfl ?_
      rcases Bool.eq_false_or_eq_true (!r5.1) with q358 | q358
      · replace hF := hF.1 q358
        refine .gS rfl rfl rfl q358 rfl rfl ?_
        refine .gS rfl rfl rfl q358 rfl rfl ?_
        refine .gS rfl rfl rfl q358 rfl rfl ?_
        refine .v (pkT rfl q358 rfl) rfl rfl rfl ?_
        refine .v (mv rfl) rfl rfl rfl ?_
        obtain ⟨r7, q359⟩ : ∃ y_ : Bool, y_ = sp_lasted := ⟨_, rfl⟩
        replace hF := hF r7 q359
        refine .gc (cl (v := .bool r7) Try.call13 rfl rfl (fun w S => (by rw [q359]; exact c_lasted S.sub  ))) rfl rfl rfl rfl rfl rfl ?_
        refine .v (pkT rfl rfl rfl) rfl rfl rfl ?_
        refine .v (asg rfl) rfl rfl rfl ?_
        refine .nil ?_
        refine .seqN ?_
        refine .ret ?_
        refine .res1 rfl (rvT rfl) (fun w' S => ⟨r7, hF, rfl, S.below⟩)
      replace hF := hF.2 q358
      refine .gv (mv rfl) rfl rfl rfl q358 rfl rfl ?_
      refine .gv (mv rfl) rfl rfl rfl q358 rfl rfl ?_
      refine .gv (bi rfl rfl rfl) rfl rfl rfl q358 rfl rfl ?_
      refine .v (pkF rfl q358 rfl) rfl rfl rfl ?_
      refine .v (mv rfl) rfl rfl rfl ?_
      rcases Bool.eq_false_or_eq_true (r6.1 == sum) with q360 | q360
      · replace hF := hF.1 q360
        obtain ⟨r8, q361⟩ : ∃ y_ : Bool, y_ = sp_lasted := ⟨_, rfl⟩
        replace hF := hF r8 q361
        refine .gc (cl (v := .bool r8) Try.call13 rfl rfl (fun w S => (by rw [q361]; exact c_lasted S.sub  ))) rfl rfl rfl q360 rfl rfl ?_
        refine .v (pkT rfl q360 rfl) rfl rfl rfl ?_
        refine .v (asg rfl) rfl rfl rfl ?_
        refine .nil ?_
        refine .seqN ?_
        refine .ret ?_
        refine .res1 rfl (rvT rfl) (fun w' S => ⟨r8, hF, rfl, S.below⟩)
      replace hF := hF.2 q360
      refine .gS rfl rfl rfl q360 rfl rfl ?_
      refine .v (pkF rfl q360 rfl) rfl rfl rfl ?_
      refine .v (asg rfl) rfl rfl rfl ?_
      refine .nil ?_
      refine .seqN ?_
      refine .ret ?_
      refine .res1 rfl (rvT rfl) (fun w' S => ⟨false, hF, rfl, S.below⟩)
    refine .region ?_
    refine .v (fa rfl tF28_0) rfl rfl rfl ?_
    refine .v (ld1 rfl tO3 (cellB (off := 0) (k := 1) rfl rfl)) rfl rfl rfl ?_
    refine .v (bi rfl rfl rfl) rfl rfl rfl ?_
    refine .v (mv rfl) rfl rfl rfl ?_
    rcases Bool.eq_false_or_eq_true (r5.2.code != 0) with q362 | q362
    · replace hF := hF.1 q362
      refine .gS rfl rfl rfl q362 rfl rfl ?_
      refine .gS rfl rfl rfl q362 rfl rfl ?_
      refine .gS rfl rfl rfl q362 rfl rfl ?_
      refine .v (pkT rfl q362 rfl) rfl rfl rfl ?_
      refine .v (mv rfl) rfl rfl rfl ?_
      refine .gS rfl rfl rfl rfl rfl rfl ?_
      refine .gS rfl rfl rfl rfl rfl rfl ?_
      refine .gS rfl rfl rfl rfl rfl rfl ?_
      refine .v (pkT rfl rfl rfl) rfl rfl rfl ?_
      refine .nil ?_
      refine .sel0 [2] (by decide) rfl ?_
      exact .use q29 true hF (.cons rfl (.cons rfl (.cons rfl (.cons rfl (.cons rfl (.nil)))))) rfl (FH.le_refl _)
    replace hF := hF.2 q362
    refine .gv (fa rfl tF28_0) rfl rfl rfl q362 rfl rfl ?_
    refine .gv (ld1 rfl tO3 (cellB (off := 0) (k := 0) rfl rfl)) rfl rfl rfl q362 rfl rfl ?_
    refine .gv (bi rfl rfl rfl) rfl rfl rfl q362 rfl rfl ?_
    refine .v (pkF rfl q362 rfl) rfl rfl rfl ?_
    refine .v (mv rfl) rfl rfl rfl ?_
    rcases Bool.eq_false_or_eq_true (r6.2.2.code != 0) with q363 | q363
    · replace hF := hF.1 q363
      refine .gS rfl rfl rfl q363 rfl rfl ?_
      refine .gS rfl rfl rfl q363 rfl rfl ?_
      refine .gS rfl rfl rfl q363 rfl rfl ?_
      refine .v (pkT rfl q363 rfl) rfl rfl rfl ?_
      refine .nil ?_
      refine .sel0 [2] (by decide) rfl ?_
      exact .use q29 true hF (.cons rfl (.cons rfl (.cons rfl (.cons rfl (.cons rfl (.nil)))))) rfl (FH.le_refl _)
    replace hF := hF.2 q363
    refine .gv (mv rfl) rfl rfl rfl q363 rfl rfl ?_
    refine .gv (mv rfl) rfl rfl rfl q363 rfl rfl ?_
    refine .gv (bneq Try.underlying4 rfl rfl) rfl rfl rfl q363 rfl rfl ?_
    refine .v (pkF rfl q363 rfl) rfl rfl rfl ?_
    refine .nil ?_
    refine .sel0 [2] (by decide) rfl ?_
    exact .use q29 (r5.1 != r6.2.1) hF (.cons rfl (.cons rfl (.cons rfl (.cons rfl (.cons rfl (.nil)))))) rfl (FH.le_refl _)
  refine .region ?_
  refine .v (fa rfl tF28_0) rfl rfl rfl ?_
  refine .v (ld1 rfl tO3 (cellB (off := 0) (k := 2) rfl rfl)) rfl rfl rfl ?_
  refine .v (bi rfl rfl rfl) rfl rfl rfl ?_
  refine .v (mv rfl) rfl rfl rfl ?_
  rcases Bool.eq_false_or_eq_true (r2.2.code != 0) with q364 | q364
  · replace hF := hF.1 q364
    refine .gS rfl rfl rfl q364 rfl rfl ?_
    refine .gS rfl rfl rfl q364 rfl rfl ?_
    refine .gS rfl rfl rfl q364 rfl rfl ?_
    refine .v (pkT rfl q364 rfl) rfl rfl rfl ?_
    refine .nil ?_
    refine .sel0 [3, 1] (by decide) rfl ?_
    exact .use q20 true hF (.cons rfl (.cons rfl (.cons rfl (.cons rfl (.cons rfl (.nil)))))) rfl (FH.le_refl _)
  replace hF := hF.2 q364
  refine .gv (fa rfl tF28_0) rfl rfl rfl q364 rfl rfl ?_
  refine .gv (ld1 rfl tO3 (cellB (off := 0) (k := 0) rfl rfl)) rfl rfl rfl q364 rfl rfl ?_
  refine .gv (bi rfl rfl rfl) rfl rfl rfl q364 rfl rfl ?_
  refine .v (pkF rfl q364 rfl) rfl rfl rfl ?_
  refine .nil ?_
  refine .sel0 [3, 1] (by decide) rfl ?_
  exact .use q20 (r3.2.code != 0) hF (.cons rfl (.cons rfl (.cons rfl (.cons rfl (.cons rfl (.nil)))))) rfl (FH.le_refl _)

theorem c_lawSequential {h : FH} {w : World} (hs : Sub h w) (t : TTask) (at_ : Option Addr) (ct : Nat) (_q1 : RSl h at_ t.init) (_q2 : t.init.length ≤ ct) (at_2 : Option Addr) (ct2 : Nat) (_q3 : RSl h at_2 t.goal) (_q4 : t.goal.length ≤ ct2) (at_3 : Option Addr) (ct3 : Nat) (_q5 : RSl h at_3 t.ops) (_q6 : t.ops.length ≤ ct3) (plan : List Int) (aplan : Option Addr) (cplan : Nat) (_q7 : RSl h aplan plan) (_q8 : plan.length ≤ cplan) : Calls Try.prog 8 #[.agg #[.int .i64 t.facts, .slice at_ t.init.length ct, .slice at_2 t.goal.length ct2, .slice at_3 t.ops.length ct3], .slice aplan plan.length cplan] w fun e w' => e = .returned (.bool (sp_lawSequential t plan)) ∧ Below w.heap.size w w' :=
  (w_lawSequential hs t at_ ct _q1 _q2 at_2 ct2 _q3 _q4 at_3 ct3 _q5 _q6 plan aplan cplan _q7 _q8 (fun r => r = sp_lawSequential t plan) (ok_lawSequential t plan)).mono fun _ _ ⟨_, hk, he, hb⟩ => ⟨by rw [he, hk], hb⟩

end Go.Proofs.Ytaenggfmpagjgaa.Pl
