/- The walks: from what each function asks to what it does; printed from the code. No condition. -/
import Derived.Test.YtojoehfldbimpaaGreatDoorW4
namespace Go.Proofs.YtojoehfldbimpaaGreatDoor.Pl
open Go Go.RowKit
theorem w_afterAll {h : FH} {w : World} (hs : Sub h w) (t : Task) (at_ : Option Addr) (ct : Nat) (_q1 : RSl h at_ t.init) (_q2 : t.init.length ≤ ct) (at_2 : Option Addr) (ct2 : Nat) (_q3 : RSl h at_2 t.goal) (_q4 : t.goal.length ≤ ct2) (at_3 : Option Addr) (ct3 : Nat) (_q5 : RSl h at_3 t.ops) (_q6 : t.ops.length ≤ ct3) (l : List (List Int)) (al2 : Option Addr) (cl2 : Nat) (_q7 : RSl h al2 l) (_q8 : l.length ≤ cl2) (op : Int) (K : (List (List Int)) → Prop) (hF : F_afterAll t l op K) : Calls Tryz.prog 28 #[.agg #[.int .i64 t.facts, .slice at_ t.init.length ct, .slice at_2 t.goal.length ct2, .slice at_3 t.ops.length ct3], .slice al2 l.length cl2, .int .i64 op] w fun e w' => ∃ (r : List (List Int)) (z : Option Addr × Nat) (h1 : FH), K r ∧ e = .returned (.slice z.1 r.length z.2) ∧ FH.le h h1 ∧ (RSl h1 z.1 r ∧ r.length ≤ z.2) ∧ SH (Kp.all w h) h1 w' [] := by
  refine enter (args := [.agg #[.int .i64 t.facts, .slice at_ t.init.length ct, .slice at_2 t.goal.length ct2, .slice at_3 t.ops.length ct3], .slice al2 l.length cl2, .int .i64 op]) Tryz.func28 rfl Tryz.ntmps28 rfl hs ?_
  refine .seq ?_
  refine .region ?_
  refine bx (vs := [.int .i64 t.facts, .slice at_ t.init.length ct, .slice at_2 t.goal.length ct2, .slice at_3 t.ops.length ct3]) rfl rfl rfl (fun pt => ?_)
  refine .v (asg rfl) rfl rfl rfl ?_
  refine .nil ?_
  refine .seqN ?_
  refine .seq ?_
  refine .region ?_
  refine .v (asg rfl) rfl rfl rfl ?_
  refine .nil ?_
  refine .seqN ?_
  refine .seq ?_
  refine .seq ?_
  refine .region ?_
  refine .v (asg rfl) rfl rfl rfl ?_
  refine .nil ?_
  refine .seqN ?_
  refine .block ?_
  obtain ⟨I1, μ1, q225, q226⟩ := hF
  refine .loop' (σ := List (List Int) × Int × Option Addr × Nat × FH) (fun z => I1 z.1 z.2.1 ∧ RSl z.2.2.2.2 z.2.2.1 z.1 ∧ z.1.length ≤ z.2.2.2.1 ∧ FH.le h z.2.2.2.2) (fun z => μ1 z.1 z.2.1) (fun z => [(1, .slice al2 l.length cl2), (2, .int .i64 op), (3, .pointer (some pt)), (7, .slice z.2.2.1 z.1.length z.2.2.2.1), (8, .int .i64 z.2.1)]) (fun _ => [Box pt [.int .i64 t.facts, .slice at_ t.init.length ct, .slice at_2 t.goal.length ct2, .slice at_3 t.ops.length ct3]]) (fun z => z.2.2.2.2) ([], 0, none, 0, h) ⟨q225, RSl.nil_, (Nat.le_refl 0), (FH.le_refl _)⟩ (.cons rfl (.cons rfl (.cons rfl (.cons rfl (.cons rfl (.nil)))))) rfl (FH.le_refl _) ?_
  rintro ⟨out, i, aout, cout, h31⟩ ⟨q225, q181, q182, q183⟩
  have hF := q226 out i q225
  show J _ _ _ _ _ [(1, .slice al2 l.length cl2), (2, .int .i64 op), (3, .pointer (some pt)), (7, .slice aout out.length cout), (8, .int .i64 i)] [Box pt [.int .i64 t.facts, .slice at_ t.init.length ct, .slice at_2 t.goal.length ct2, .slice at_3 t.ops.length ct3]] h31
  refine .seq ?_
  refine .seq ?_
  refine .region ?_
  refine .v (mv rfl) rfl rfl rfl ?_
  refine .v (mv rfl) rfl rfl rfl ?_
  refine .v (ln rfl tS35.is) rfl rfl rfl ?_
  refine .v (bi rfl rfl rfl) rfl rfl rfl ?_
  refine .nil ?_
  refine .seqN ?_
  refine .cond rfl (fun q228 => ?_) (fun q228 => ?_)
  · replace hF := hF.1 q228
    refine .skip ?_
    refine .seqN ?_
    refine .seq ?_
    refine .block ?_
    obtain ⟨q253, hF⟩ := hF
    obtain ⟨_, ⟨a, c, rfl, q254, q255⟩, q256⟩ := _q7.elem q253
    refine .openA (s0 := [(1, .slice al2 l.length cl2), (2, .int .i64 op), (3, .pointer (some pt)), (7, .slice aout out.length cout), (8, .int .i64 i)]) [0, 1, 2, 3, 4, 5, 6] [(0, .slice aout out.length cout), (1, .agg #[.int .i64 t.facts, .slice at_ t.init.length ct, .slice at_2 t.goal.length ct2, .slice at_3 t.ops.length ct3]), (2, .slice al2 l.length cl2), (3, .int .i64 i), (4, .pointer (some (ead al2 (i.toNat * 1)))), (5, .slice a ((gt l i).length) c), (6, .int .i64 op)] (by kernel_rfl) (.cons rfl (.cons rfl (.cons rfl (.cons rfl (.cons rfl (.nil)))))) [1, 2, 3, 7, 8] [9] rfl (by kernel_rfl) ?_
    refine .step [7] 7 rfl (by kernel_rfl) (by kernel_rfl) (.v [] rfl rfl rfl rfl rfl rfl (fun _ => mv rfl) (.v [] rfl rfl rfl rfl rfl rfl (fun _ => ldA (cs := [.int .i64 t.facts, .slice at_ t.init.length ct, .slice at_2 t.goal.length ct2, .slice at_3 t.ops.length ct3]) rfl tA25 rfl (cellsB (off := 0) (k := 0) rfl (m := 4) rfl)) (.v [] rfl rfl rfl rfl rfl rfl (fun _ => mv rfl) (.v [] rfl rfl rfl rfl rfl rfl (fun _ => mv rfl) (.v [(17, .slice al2 l.length cl2), (18, .int .i64 i)] rfl rfl rfl rfl rfl rfl (fun _ => ix rfl rfl tS35 (_q7.ne (by decide) (inb_pos q253)) q253) (.v [(19, .pointer (some (ead al2 (i.toNat * 1))))] rfl rfl rfl rfl rfl rfl (fun _ => ld1 (v := .slice a ((gt l i).length) c) rfl tO22 (cellH ((fun q => (q256 q).mono (q183)) (by decide) 0 _ rfl))) (.v [] rfl rfl rfl rfl rfl rfl (fun _ => mv rfl) (.nil)))))))) (.cons [(16, .agg #[.int .i64 t.facts, .slice at_ t.init.length ct, .slice at_2 t.goal.length ct2, .slice at_3 t.ops.length ct3]), (20, .slice a ((gt l i).length) c), (21, .int .i64 op)] rfl rfl (fun sL hL => ?_) (.nil))
    obtain ⟨q257, hF⟩ := hF
    obtain ⟨r2, q258⟩ : ∃ y_ : List Int, y_ = sp_after t (gt l i) op := ⟨_, rfl⟩
    replace hF := hF r2 q258
    refine clR (α := Option Addr × Nat) (Φ := fun h1 z => RSl h1 z.1 r2 ∧ r2.length ≤ z.2) (V := fun z => .slice z.1 r2.length z.2) Tryz.call64 rfl rfl (fun w S => (by rw [q258]; exact c_after S.sub t at_ ct (_q1.mono (q183)) _q2 at_2 ct2 (_q3.mono (q183)) _q4 at_3 ct3 (_q5.mono (q183)) _q6 (gt l i) a c (q255.mono (q183)) q254 op q257)) rfl (fun z h43 le43 hz => ?_)
    obtain ⟨a2, c2⟩ := z
    obtain ⟨q259, q260⟩ := hz
    refine .nil ?_
    refine .ja (M := [1, 5, 6, 4, 2, 3]) (C' := [0]) (pre := [(7, .slice a2 r2.length c2)]) [(1, .slice al2 l.length cl2), (2, .int .i64 op), (3, .pointer (some pt)), (7, .slice aout out.length cout), (8, .int .i64 i)] [1, 2, 3, 7, 8] hL rfl rfl rfl rfl rfl (.cons rfl (.cons rfl (.cons rfl (.cons rfl (.cons rfl (.nil)))))) rfl rfl (by kernel_rfl) ?_
    refine .step [8] 8 rfl (by kernel_rfl) (by kernel_rfl) (.v [] rfl rfl rfl rfl rfl rfl (fun _ => mv rfl) (.nil)) (.cons [(15, .slice aout out.length cout), (22, .slice a2 r2.length c2), (22, .slice a2 r2.length c2)] rfl rfl (fun sL hL => ?_) (.nil))
    obtain ⟨q261, hF⟩ := hF
    obtain ⟨r3, q262⟩ : ∃ y_ : List (List Int), y_ = sp_insert out r2 := ⟨_, rfl⟩
    replace hF := hF r3 q262
    refine clR (α := Option Addr × Nat) (Φ := fun h1 z => RSl h1 z.1 r3 ∧ r3.length ≤ z.2) (V := fun z => .slice z.1 r3.length z.2) Tryz.call57 rfl rfl (fun w S => (by rw [q262]; exact c_insert S.sub out aout cout (q181.mono (le43)) q182 r2 a2 c2 q259 q260 q261)) rfl (fun z h44 le44 hz => ?_)
    obtain ⟨a3, c3⟩ := z
    obtain ⟨q263, q264⟩ := hz
    refine .nil ?_
    refine .ja (M := [0]) (C' := []) (pre := [(8, .slice a3 r3.length c3)]) [(1, .slice al2 l.length cl2), (2, .int .i64 op), (3, .pointer (some pt)), (7, .slice aout out.length cout), (8, .int .i64 i)] [1, 2, 3, 7, 8] hL rfl rfl rfl rfl rfl (.cons rfl (.cons rfl (.cons rfl (.cons rfl (.cons rfl (.nil)))))) rfl rfl (by kernel_rfl) ?_
    refine .step [9] 9 rfl (by kernel_rfl) (by kernel_rfl) (.nil) (.cons [(23, .slice a3 r3.length c3), (23, .slice a3 r3.length c3), (15, .slice aout out.length cout), (16, .agg #[.int .i64 t.facts, .slice at_ t.init.length ct, .slice at_2 t.goal.length ct2, .slice at_3 t.ops.length ct3]), (17, .slice al2 l.length cl2), (18, .int .i64 i), (19, .pointer (some (ead al2 (i.toNat * 1)))), (20, .slice a ((gt l i).length) c), (21, .int .i64 op), (22, .slice a2 r2.length c2), (23, .slice a3 r3.length c3)] rfl rfl (fun sL hL => ?_) (.nil))
    refine .v (asg rfl) rfl rfl rfl ?_
    refine .nil ?_
    refine .ja (M := []) (C' := []) (pre := [(9, .slice a3 r3.length c3)]) [(1, .slice al2 l.length cl2), (2, .int .i64 op), (3, .pointer (some pt)), (8, .int .i64 i)] [1, 2, 3, 8] hL rfl rfl rfl rfl rfl (.cons rfl (.cons rfl (.cons rfl (.cons rfl (.nil))))) rfl rfl (by kernel_rfl) ?_
    refine .last [(15, .slice aout out.length cout), (16, .agg #[.int .i64 t.facts, .slice at_ t.init.length ct, .slice at_2 t.goal.length ct2, .slice at_3 t.ops.length ct3]), (17, .slice al2 l.length cl2), (18, .int .i64 i), (19, .pointer (some (ead al2 (i.toNat * 1)))), (20, .slice a ((gt l i).length) c), (21, .int .i64 op), (22, .slice a2 r2.length c2), (23, .slice a3 r3.length c3), (7, .slice a3 r3.length c3)] rfl (by kernel_rfl) (.nil) rfl ?_
    refine .blkN ?_
    refine .seqN ?_
    refine .region ?_
    refine .v (mv rfl) rfl rfl rfl ?_
    refine .v (bi rfl rfl rfl) rfl rfl rfl ?_
    refine .v (asg rfl) rfl rfl rfl ?_
    refine .nil ?_
    exact .round (r3, IntKind.i64.wrap (i + 1), a3, c3, h44) ⟨hF.1, q263, q264, (FH.le_trans (FH.le_trans (q183) (le43)) (le44))⟩ hF.2 (.cons rfl (.cons rfl (.cons rfl (.cons rfl (.cons rfl (.nil)))))) rfl (FH.le_refl _)
  replace hF := hF.2 q228
  refine .exit ?_
  refine .seqX ?_
  refine .seqX ?_
  refine .blkX ?_
  refine .seqN ?_
  refine .seq ?_
  refine .region ?_
  refine .v (mv rfl) rfl rfl rfl ?_
  refine .v (asg rfl) rfl rfl rfl ?_
  refine .nil ?_
  refine .seqN ?_
  refine .ret ?_
  refine .res1 rfl (rvT rfl) (fun w' S => ⟨out, (aout, cout), h31, hF, rfl, (q183), ⟨q181, q182⟩, S.none⟩)

theorem c_afterAll {h : FH} {w : World} (hs : Sub h w) (t : Task) (at_ : Option Addr) (ct : Nat) (_q1 : RSl h at_ t.init) (_q2 : t.init.length ≤ ct) (at_2 : Option Addr) (ct2 : Nat) (_q3 : RSl h at_2 t.goal) (_q4 : t.goal.length ≤ ct2) (at_3 : Option Addr) (ct3 : Nat) (_q5 : RSl h at_3 t.ops) (_q6 : t.ops.length ≤ ct3) (l : List (List Int)) (al2 : Option Addr) (cl2 : Nat) (_q7 : RSl h al2 l) (_q8 : l.length ≤ cl2) (op : Int) (hp : pre_afterAll t l op) : Calls Tryz.prog 28 #[.agg #[.int .i64 t.facts, .slice at_ t.init.length ct, .slice at_2 t.goal.length ct2, .slice at_3 t.ops.length ct3], .slice al2 l.length cl2, .int .i64 op] w fun e w' => ∃ (z : Option Addr × Nat) (h1 : FH), e = .returned (.slice z.1 (sp_afterAll t l op).length z.2) ∧ FH.le h h1 ∧ (RSl h1 z.1 (sp_afterAll t l op) ∧ (sp_afterAll t l op).length ≤ z.2) ∧ SH (Kp.all w h) h1 w' [] :=
  (w_afterAll hs t at_ ct _q1 _q2 at_2 ct2 _q3 _q4 at_3 ct3 _q5 _q6 l al2 cl2 _q7 _q8 op (fun r => r = sp_afterAll t l op) (ok_afterAll t l op hp)).mono fun _ _ ⟨r, z, h1, hk, he, hl, hf, hS⟩ => by subst hk; exact ⟨z, h1, he, hl, hf, hS⟩

theorem w_allHold {h : FH} {w : World} (hs : Sub h w) (l : List (List Int)) (al2 : Option Addr) (cl2 : Nat) (_q1 : RSl h al2 l) (_q2 : l.length ≤ cl2) (facts : List Int) (afacts : Option Addr) (cfacts : Nat) (_q3 : RSl h afacts facts) (_q4 : facts.length ≤ cfacts) (K : Bool → Prop) (hF : F_allHold l facts K) : Calls Tryz.prog 27 #[.slice al2 l.length cl2, .slice afacts facts.length cfacts] w fun e w' => ∃ r : Bool, K r ∧ e = .returned (.bool r) ∧ Below w.heap.size w w' := by
  refine enter (args := [.slice al2 l.length cl2, .slice afacts facts.length cfacts]) Tryz.func27 rfl Tryz.ntmps27 rfl hs ?_
  refine .seq ?_
  refine .region ?_
  refine .v (asg rfl) rfl rfl rfl ?_
  refine .nil ?_
  refine .seqN ?_
  refine .seq ?_
  refine .seq ?_
  refine .region ?_
  refine .v (asg rfl) rfl rfl rfl ?_
  refine .nil ?_
  refine .seqN ?_
  refine .block ?_
  obtain ⟨I1, μ1, q122, q123⟩ := hF
  refine .loop' (σ := Int) (fun z => I1 z) (fun z => μ1 z) (fun z => [(0, .slice al2 l.length cl2), (1, .slice afacts facts.length cfacts), (5, .int .i64 z)]) (fun _ => []) (fun _ => h) 0 q122 (.cons rfl (.cons rfl (.cons rfl (.nil)))) rfl (FH.le_refl _) ?_
  rintro i q122
  have hF := q123 i q122
  show J _ _ _ _ _ [(0, .slice al2 l.length cl2), (1, .slice afacts facts.length cfacts), (5, .int .i64 i)] [] h
  refine .seq ?_
  refine .seq ?_
  refine .region ?_
  refine .v (mv rfl) rfl rfl rfl ?_
  refine .v (mv rfl) rfl rfl rfl ?_
  refine .v (ln rfl tS35.is) rfl rfl rfl ?_
  refine .v (bi rfl rfl rfl) rfl rfl rfl ?_
  refine .nil ?_
  refine .seqN ?_
  refine .cond rfl (fun q125 => ?_) (fun q125 => ?_)
  · replace hF := hF.1 q125
    refine .skip ?_
    refine .seqN ?_
    refine .seq ?_
    refine .block ?_
    refine .seq ?_
    refine .region ?_
    refine .v (mv rfl) rfl rfl rfl ?_
    refine .v (mv rfl) rfl rfl rfl ?_
    refine .v (mv rfl) rfl rfl rfl ?_
    obtain ⟨q140, hF⟩ := hF
    refine .v (ix rfl rfl tS35 (_q1.ne (by decide) (inb_pos q140)) q140) rfl rfl rfl ?_
    obtain ⟨_, ⟨a, c, rfl, q141, q142⟩, q143⟩ := _q1.elem q140
    refine .v (ld1 (v := .slice a ((gt l i).length) c) rfl tO22 (cellH (q143 (by decide) 0 _ rfl))) rfl rfl rfl ?_
    obtain ⟨q144, hF⟩ := hF
    obtain ⟨r2, q145⟩ : ∃ y_ : Bool, y_ = sp_subset facts (gt l i) := ⟨_, rfl⟩
    replace hF := hF r2 q145
    refine .c (cl (v := .bool r2) Tryz.call63 rfl rfl (fun w S => (by rw [q145]; exact c_subset S.sub facts afacts cfacts _q3 _q4 (gt l i) a c q142 q141 q144))) rfl rfl rfl ?_
    refine .v (nt rfl) rfl rfl rfl ?_
    refine .nil ?_
    refine .seqN ?_
    refine .cond rfl (fun q146 => ?_) (fun q146 => ?_)
    · replace hF := hF.1 q146
      refine .seq ?_
      refine .region ?_
      refine .v (asg rfl) rfl rfl rfl ?_
      refine .nil ?_
      refine .seqN ?_
      refine .ret ?_
      refine .blkR ?_
      refine .seqR ?_
      refine .seqR ?_
      refine .blkR ?_
      refine .seqR ?_
      refine .res1 rfl (rvT rfl) (fun w' S => ⟨false, hF, rfl, S.below⟩)
    replace hF := hF.2 q146
    refine .skip ?_
    refine .blkN ?_
    refine .seqN ?_
    refine .region ?_
    refine .v (mv rfl) rfl rfl rfl ?_
    refine .v (bi rfl rfl rfl) rfl rfl rfl ?_
    refine .v (asg rfl) rfl rfl rfl ?_
    refine .nil ?_
    exact .round (IntKind.i64.wrap (i + 1)) hF.1 hF.2 (.cons rfl (.cons rfl (.cons rfl (.nil)))) rfl (FH.le_refl _)
  replace hF := hF.2 q125
  refine .exit ?_
  refine .seqX ?_
  refine .seqX ?_
  refine .blkX ?_
  refine .seqN ?_
  refine .seq ?_
  refine .region ?_
  refine .v (asg rfl) rfl rfl rfl ?_
  refine .nil ?_
  refine .seqN ?_
  refine .ret ?_
  refine .res1 rfl (rvT rfl) (fun w' S => ⟨true, hF, rfl, S.below⟩)

theorem c_allHold {h : FH} {w : World} (hs : Sub h w) (l : List (List Int)) (al2 : Option Addr) (cl2 : Nat) (_q1 : RSl h al2 l) (_q2 : l.length ≤ cl2) (facts : List Int) (afacts : Option Addr) (cfacts : Nat) (_q3 : RSl h afacts facts) (_q4 : facts.length ≤ cfacts) (hp : pre_allHold l facts) : Calls Tryz.prog 27 #[.slice al2 l.length cl2, .slice afacts facts.length cfacts] w fun e w' => e = .returned (.bool (sp_allHold l facts)) ∧ Below w.heap.size w w' :=
  (w_allHold hs l al2 cl2 _q1 _q2 facts afacts cfacts _q3 _q4 (fun r => r = sp_allHold l facts) (ok_allHold l facts hp)).mono fun _ _ ⟨_, hk, he, hb⟩ => ⟨by rw [he, hk], hb⟩

set_option maxHeartbeats 8000000 in
theorem w_rWorldsFault {h : FH} {w : World} (hs : Sub h w) (t : Task) (at_ : Option Addr) (ct : Nat) (_q1 : RSl h at_ t.init) (_q2 : t.init.length ≤ ct) (at_2 : Option Addr) (ct2 : Nat) (_q3 : RSl h at_2 t.goal) (_q4 : t.goal.length ≤ ct2) (at_3 : Option Addr) (ct3 : Nat) (_q5 : RSl h at_3 t.ops) (_q6 : t.ops.length ≤ ct3) (l : List (List Int)) (al2 : Option Addr) (cl2 : Nat) (_q7 : RSl h al2 l) (_q8 : l.length ≤ cl2) (K : Fault → Prop) (hF : F_rWorldsFault t l K) : Calls Tryz.prog 24 #[.agg #[.int .i64 t.facts, .slice at_ t.init.length ct, .slice at_2 t.goal.length ct2, .slice at_3 t.ops.length ct3], .slice al2 l.length cl2] w fun e w' => ∃ r : Fault, K r ∧ e = .returned (.agg #[.int .i64 r.code, .int .i64 r.index]) ∧ Below w.heap.size w w' := by
  refine enter (args := [.agg #[.int .i64 t.facts, .slice at_ t.init.length ct, .slice at_2 t.goal.length ct2, .slice at_3 t.ops.length ct3], .slice al2 l.length cl2]) Tryz.func24 rfl Tryz.ntmps24 rfl hs ?_
  refine .seq ?_
  refine .region ?_
  refine bx (vs := [.int .i64 t.facts, .slice at_ t.init.length ct, .slice at_2 t.goal.length ct2, .slice at_3 t.ops.length ct3]) rfl rfl rfl (fun pt => ?_)
  refine al tZ27 rfl (fun pv => ?_)
  refine .nil ?_
  refine .seqN ?_
  refine .seq ?_
  refine .region ?_
  refine .v (ldA (cs := [.int .i64 t.facts, .slice at_ t.init.length ct, .slice at_2 t.goal.length ct2, .slice at_3 t.ops.length ct3]) rfl tA25 rfl (cellsB (off := 0) (k := 1) rfl (m := 4) rfl)) rfl rfl rfl ?_
  obtain ⟨r2, q9⟩ : ∃ y_ : Fault, y_ = sp_validate t := ⟨_, rfl⟩
  replace hF := hF r2 q9
  refine .c (cl (v := .agg #[.int .i64 r2.code, .int .i64 r2.index]) Tryz.call53 rfl rfl (fun w S => (by rw [q9]; exact c_taskFault S.sub t at_ ct _q1 _q2 at_2 ct2 _q3 _q4 at_3 ct3 _q5 _q6 ))) rfl rfl rfl ?_
  refine al tZ27 rfl (fun pf => ?_)
  refine st (p := pf) (off := 0) (k := 0) (vs := [.int .i64 r2.code, .int .i64 r2.index]) rfl rfl rfl (fun w => (tA27 w).2) rfl rfl rfl rfl ?_
  refine .cast (A' := [Box pf [.int .i64 r2.code, .int .i64 r2.index], Box pv [.int .i64 0, .int .i64 0], Box pt [.int .i64 t.facts, .slice at_ t.init.length ct, .slice at_2 t.goal.length ct2, .slice at_3 t.ops.length ct3]]) rfl ?_
  refine .nil ?_
  refine .seqN ?_
  refine .seq ?_
  refine .share (σ := Bool) (fun z => F_rWorldsFault_J1 t l K r2 z) (fun z => [(1, .slice al2 l.length cl2), (2, .pointer (some pt)), (4, .pointer (some pv)), (5, .pointer (some pf)), (17, .bool z)]) (fun _ => [Box pt [.int .i64 t.facts, .slice at_ t.init.length ct, .slice at_2 t.goal.length ct2, .slice at_3 t.ops.length ct3], Box pv [.int .i64 0, .int .i64 0], Box pf [.int .i64 r2.code, .int .i64 r2.index]]) (fun _ => h) ?_ (fun q12 => ?_)
  · rintro t17 hF
    show J _ _ _ _ _ [(1, .slice al2 l.length cl2), (2, .pointer (some pt)), (4, .pointer (some pv)), (5, .pointer (some pf)), (17, .bool t17)] [Box pt [.int .i64 t.facts, .slice at_ t.init.length ct, .slice at_2 t.goal.length ct2, .slice at_3 t.ops.length ct3], Box pv [.int .i64 0, .int .i64 0], Box pf [.int .i64 r2.code, .int .i64 r2.index]] h
    refine .shareT (σ := Int × Int) (fun z => F_rWorldsFault_J2 t l K z.1 z.2) (fun _ => [(1, .slice al2 l.length cl2), (2, .pointer (some pt)), (4, .pointer (some pv)), (5, .pointer (some pf))]) (fun z => [Box pt [.int .i64 t.facts, .slice at_ t.init.length ct, .slice at_2 t.goal.length ct2, .slice at_3 t.ops.length ct3], Box pv [.int .i64 0, .int .i64 0], Box pf [.int .i64 z.1, .int .i64 z.2]]) (fun _ => h) ?_ (fun q15 => ?_)
    · rintro ⟨x, x2⟩ hF
      show J _ _ _ _ _ [(1, .slice al2 l.length cl2), (2, .pointer (some pt)), (4, .pointer (some pv)), (5, .pointer (some pf))] [Box pt [.int .i64 t.facts, .slice at_ t.init.length ct, .slice at_2 t.goal.length ct2, .slice at_3 t.ops.length ct3], Box pv [.int .i64 0, .int .i64 0], Box pf [.int .i64 x, .int .i64 x2]] h
      refine .seq ?_
      refine .seq ?_
      refine .region ?_
      refine .v (asg rfl) rfl rfl rfl ?_
      refine .nil ?_
      refine .seqN ?_
      refine .block ?_
      obtain ⟨I1, μ1, q358, q359⟩ := hF
      refine .loop' (σ := Int × Int × Int) (fun z => I1 z.1 z.2.1 z.2.2) (fun z => μ1 z.1 z.2.1 z.2.2) (fun z => [(1, .slice al2 l.length cl2), (2, .pointer (some pt)), (4, .pointer (some pv)), (5, .pointer (some pf)), (6, .int .i64 z.1)]) (fun z => [Box pt [.int .i64 t.facts, .slice at_ t.init.length ct, .slice at_2 t.goal.length ct2, .slice at_3 t.ops.length ct3], Box pv [.int .i64 0, .int .i64 0], Box pf [.int .i64 z.2.1, .int .i64 z.2.2]]) (fun _ => h) (0, x, x2) q358 (.cons rfl (.cons rfl (.cons rfl (.cons rfl (.cons rfl (.nil)))))) rfl (FH.le_refl _) ?_
      rintro ⟨i, x3, x4⟩ q358
      have hF := q359 i x3 x4 q358
      show J _ _ _ _ _ [(1, .slice al2 l.length cl2), (2, .pointer (some pt)), (4, .pointer (some pv)), (5, .pointer (some pf)), (6, .int .i64 i)] [Box pt [.int .i64 t.facts, .slice at_ t.init.length ct, .slice at_2 t.goal.length ct2, .slice at_3 t.ops.length ct3], Box pv [.int .i64 0, .int .i64 0], Box pf [.int .i64 x3, .int .i64 x4]] h
      refine .seq ?_
      refine .share (σ := Bool) (fun z => F_rWorldsFault_J3 t l K z x3 x4 i I1 μ1) (fun z => [(1, .slice al2 l.length cl2), (2, .pointer (some pt)), (4, .pointer (some pv)), (5, .pointer (some pf)), (6, .int .i64 i), (27, .bool z)]) (fun _ => [Box pt [.int .i64 t.facts, .slice at_ t.init.length ct, .slice at_2 t.goal.length ct2, .slice at_3 t.ops.length ct3], Box pv [.int .i64 0, .int .i64 0], Box pf [.int .i64 x3, .int .i64 x4]]) (fun _ => h) ?_ (fun q361 => ?_)
      · rintro t27 hF
        show J _ _ _ _ _ [(1, .slice al2 l.length cl2), (2, .pointer (some pt)), (4, .pointer (some pv)), (5, .pointer (some pf)), (6, .int .i64 i), (27, .bool t27)] [Box pt [.int .i64 t.facts, .slice at_ t.init.length ct, .slice at_2 t.goal.length ct2, .slice at_3 t.ops.length ct3], Box pv [.int .i64 0, .int .i64 0], Box pf [.int .i64 x3, .int .i64 x4]] h
        refine .cond rfl (fun q363 => ?_) (fun q363 => ?_)
        · replace hF := hF.1 q363
          refine .skip ?_
          refine .seqN ?_
          refine .share (σ := Int × Int) (fun z => F_rWorldsFault_J4 x3 x4 i I1 μ1 z.1 z.2) (fun _ => [(1, .slice al2 l.length cl2), (2, .pointer (some pt)), (4, .pointer (some pv)), (5, .pointer (some pf)), (6, .int .i64 i)]) (fun z => [Box pt [.int .i64 t.facts, .slice at_ t.init.length ct, .slice at_2 t.goal.length ct2, .slice at_3 t.ops.length ct3], Box pv [.int .i64 0, .int .i64 0], Box pf [.int .i64 z.1, .int .i64 z.2]]) (fun _ => h) ?_ (fun q395 => ?_)
          · rintro ⟨x7, x8⟩ hF
            show J _ _ _ _ _ [(1, .slice al2 l.length cl2), (2, .pointer (some pt)), (4, .pointer (some pv)), (5, .pointer (some pf)), (6, .int .i64 i)] [Box pt [.int .i64 t.facts, .slice at_ t.init.length ct, .slice at_2 t.goal.length ct2, .slice at_3 t.ops.length ct3], Box pv [.int .i64 0, .int .i64 0], Box pf [.int .i64 x7, .int .i64 x8]] h
            refine .region ?_
            refine .v (mv rfl) rfl rfl rfl ?_
            refine .v (bi rfl rfl rfl) rfl rfl rfl ?_
            refine .v (asg rfl) rfl rfl rfl ?_
            refine .nil ?_
            exact .round (IntKind.i64.wrap (i + 1), x7, x8) hF.1 hF.2 (.cons rfl (.cons rfl (.cons rfl (.cons rfl (.cons rfl (.nil)))))) rfl (FH.le_refl _)
          refine .block ?_
          refine .share (σ := Bool) (fun z => F_rWorldsFault_J5 z x3 x4 i I1 μ1) (fun z => [(1, .slice al2 l.length cl2), (2, .pointer (some pt)), (4, .pointer (some pv)), (5, .pointer (some pf)), (6, .int .i64 i), (54, .bool z)]) (fun _ => [Box pt [.int .i64 t.facts, .slice at_ t.init.length ct, .slice at_2 t.goal.length ct2, .slice at_3 t.ops.length ct3], Box pv [.int .i64 0, .int .i64 0], Box pf [.int .i64 x3, .int .i64 x4]]) (fun _ => h) ?_ (fun q410 => ?_)
          · rintro t54 hF
            show J _ _ _ _ _ [(1, .slice al2 l.length cl2), (2, .pointer (some pt)), (4, .pointer (some pv)), (5, .pointer (some pf)), (6, .int .i64 i), (54, .bool t54)] [Box pt [.int .i64 t.facts, .slice at_ t.init.length ct, .slice at_2 t.goal.length ct2, .slice at_3 t.ops.length ct3], Box pv [.int .i64 0, .int .i64 0], Box pf [.int .i64 x3, .int .i64 x4]] h
            refine .cond rfl (fun q411 => ?_) (fun q411 => ?_)
            · replace hF := hF.1 q411
              refine .region ?_
              refine .v (mv rfl) rfl rfl rfl ?_
              refine .v (bi rfl rfl rfl) rfl rfl rfl ?_
              obtain ⟨r3, q412⟩ : ∃ y_ : Fault, y_ = sp_at_ 5 (IntKind.i64.wrap ((-10) - i)) := ⟨_, rfl⟩
              replace hF := hF r3 q412
              refine .c (cl (v := .agg #[.int .i64 r3.code, .int .i64 r3.index]) Tryz.call18 rfl rfl (fun w S => (by rw [q412]; exact c_at_ S.sub 5 (IntKind.i64.wrap ((-10) - i)) ))) rfl rfl rfl ?_
              refine st (p := pf) (off := 0) (k := 2) (vs := [.int .i64 r3.code, .int .i64 r3.index]) rfl rfl rfl (fun w => (tA27 w).2) rfl rfl rfl rfl ?_
              refine .cast (A' := [Box pt [.int .i64 t.facts, .slice at_ t.init.length ct, .slice at_2 t.goal.length ct2, .slice at_3 t.ops.length ct3], Box pv [.int .i64 0, .int .i64 0], Box pf [.int .i64 r3.code, .int .i64 r3.index]]) rfl ?_
              refine .nil ?_
              refine .blkN ?_
              exact .use q395 (r3.code, r3.index) hF (.cons rfl (.cons rfl (.cons rfl (.cons rfl (.cons rfl (.nil)))))) rfl (FH.le_refl _)
            replace hF := hF.2 q411
            refine .skip ?_
            refine .blkN ?_
            exact .use q395 (x3, x4) hF (.cons rfl (.cons rfl (.cons rfl (.cons rfl (.cons rfl (.nil)))))) rfl (FH.le_refl _)
          refine .open_ (by kernel_rfl) (by kernel_rfl) ?_
          refine .v (mv rfl) rfl rfl rfl ?_
          refine .v (mv rfl) rfl rfl rfl ?_
          obtain ⟨q413, hF⟩ := hF
          refine .v (ix rfl rfl tS35 (_q7.ne (by decide) (inb_pos q413)) q413) rfl rfl rfl ?_
          obtain ⟨_, ⟨a, c, rfl, q414, q415⟩, q416⟩ := _q7.elem q413
          refine .v (ld1 (v := .slice a ((gt l i).length) c) rfl tO22 (cellH (q416 (by decide) 0 _ rfl))) rfl rfl rfl ?_
          refine .v (fa rfl tF25_0) rfl rfl rfl ?_
          refine .v (ld1 rfl tO3 (cellB (off := 0) (k := 0) rfl rfl)) rfl rfl rfl ?_
          obtain ⟨q417, hF⟩ := hF
          obtain ⟨r4, q418⟩ : ∃ y_ : Bool, y_ = sp_isSet (gt l i) t.facts := ⟨_, rfl⟩
          replace hF := hF r4 q418
          refine .c (cl (v := .bool r4) Tryz.call26 rfl rfl (fun w S => (by rw [q418]; exact c_rIsSet S.sub (gt l i) a c q415 q414 t.facts q417))) rfl rfl rfl ?_
          refine .v (nt rfl) rfl rfl rfl ?_
          refine .v (mv rfl) rfl rfl rfl ?_
          rcases Bool.eq_false_or_eq_true (!r4) with q419 | q419
          · replace hF := hF.1 q419
            refine .gS rfl rfl rfl q419 rfl rfl ?_
            refine .gS rfl rfl rfl q419 rfl rfl ?_
            refine .gS rfl rfl rfl q419 rfl rfl ?_
            refine .gU rfl rfl rfl rfl rfl ?_
            refine .gU rfl rfl rfl rfl rfl ?_
            refine .gU rfl rfl rfl rfl rfl ?_
            refine .gU rfl rfl rfl rfl rfl ?_
            refine .gU rfl rfl rfl rfl rfl ?_
            refine .gU rfl rfl rfl rfl rfl ?_
            refine .gU rfl rfl rfl rfl rfl ?_
            refine .gU rfl rfl rfl rfl rfl ?_
            refine .gU rfl rfl rfl rfl rfl ?_
            refine .gU rfl rfl rfl rfl rfl ?_
            refine .gU rfl rfl rfl rfl rfl ?_
            refine .gS rfl rfl rfl q419 rfl rfl ?_
            refine .v (pkT rfl q419 rfl) rfl rfl rfl ?_
            refine .fin ?_
            exact .use q410 true hF (.cons rfl (.cons rfl (.cons rfl (.cons rfl (.cons rfl (.cons rfl (.nil))))))) rfl (FH.le_refl _)
          replace hF := hF.2 q419
          refine .gv (mv rfl) rfl rfl rfl q419 rfl rfl ?_
          refine .gv (bi rfl rfl rfl) rfl rfl rfl q419 rfl rfl ?_
          refine .gv (mv rfl) rfl rfl rfl q419 rfl rfl ?_
          rcases Bool.eq_false_or_eq_true (decide (0 < i)) with q420 | q420
          · replace hF := hF.1 q420
            refine .gv (mv rfl) rfl rfl rfl q420 rfl rfl ?_
            refine .gv (mv rfl) rfl rfl rfl q420 rfl rfl ?_
            refine .gv (bi rfl rfl rfl) rfl rfl rfl q420 rfl rfl ?_
            obtain ⟨q421, hF⟩ := hF
            refine .gv (ix rfl rfl tS35 (_q7.ne (by decide) (inb_pos q421)) q421) rfl rfl rfl q420 rfl rfl ?_
            obtain ⟨_, ⟨a2, c2, rfl, q422, q423⟩, q424⟩ := _q7.elem q421
            refine .gv (ld1 (v := .slice a2 ((gt l (IntKind.i64.wrap (i - 1))).length) c2) rfl tO22 (cellH (q424 (by decide) 0 _ rfl))) rfl rfl rfl q420 rfl rfl ?_
            refine .gv (mv rfl) rfl rfl rfl q420 rfl rfl ?_
            refine .gv (mv rfl) rfl rfl rfl q420 rfl rfl ?_
            refine .gv (ix rfl rfl tS35 (_q7.ne (by decide) (inb_pos q413)) q413) rfl rfl rfl q420 rfl rfl ?_
            refine .gv (ld1 (v := .slice a ((gt l i).length) c) rfl tO22 (cellH (q416 (by decide) 0 _ rfl))) rfl rfl rfl q420 rfl rfl ?_
            obtain ⟨q425, hF⟩ := hF
            obtain ⟨r5, q426⟩ : ∃ y_ : Bool, y_ = sp_before (gt l (IntKind.i64.wrap (i - 1))) (gt l i) := ⟨_, rfl⟩
            replace hF := hF r5 q426
            refine .gc (cl (v := .bool r5) Tryz.call62 rfl rfl (fun w S => (by rw [q426]; exact c_before S.sub (gt l (IntKind.i64.wrap (i - 1))) a2 c2 q423 q422 (gt l i) a c q415 q414 q425))) rfl rfl rfl q420 rfl rfl ?_
            refine .gv (nt rfl) rfl rfl rfl q420 rfl rfl ?_
            refine .gv (pkT rfl q420 rfl) rfl rfl rfl q419 rfl rfl ?_
            refine .v (pkF rfl q419 rfl) rfl rfl rfl ?_
            refine .fin ?_
            exact .use q410 (!r5) hF (.cons rfl (.cons rfl (.cons rfl (.cons rfl (.cons rfl (.cons rfl (.nil))))))) rfl (FH.le_refl _)
          replace hF := hF.2 q420
          refine .gS rfl rfl rfl q420 rfl rfl ?_
          refine .gS rfl rfl rfl q420 rfl rfl ?_
          refine .gS rfl rfl rfl q420 rfl rfl ?_
          refine .gS rfl rfl rfl q420 rfl rfl ?_
          refine .gS rfl rfl rfl q420 rfl rfl ?_
          refine .gS rfl rfl rfl q420 rfl rfl ?_
          refine .gS rfl rfl rfl q420 rfl rfl ?_
          refine .gS rfl rfl rfl q420 rfl rfl ?_
          refine .gS rfl rfl rfl q420 rfl rfl ?_
          refine .gS rfl rfl rfl q420 rfl rfl ?_
          refine .gS rfl rfl rfl q420 rfl rfl ?_
          refine .gv (pkF rfl q420 rfl) rfl rfl rfl q419 rfl rfl ?_
          refine .v (pkF rfl q419 rfl) rfl rfl rfl ?_
          refine .fin ?_
          exact .use q410 false hF (.cons rfl (.cons rfl (.cons rfl (.cons rfl (.cons rfl (.cons rfl (.nil))))))) rfl (FH.le_refl _)
        replace hF := hF.2 q363
        refine .exit ?_
        refine .seqX ?_
        refine .seqX ?_
        refine .blkX ?_
        refine .seqN ?_
        refine .seq ?_
        refine .region ?_
        refine .v (ldA (cs := [.int .i64 x3, .int .i64 x4]) rfl tA27 rfl (cellsB (off := 0) (k := 2) rfl (m := 2) rfl)) rfl rfl rfl ?_
        refine st (p := pv) (off := 0) (k := 1) (vs := [.int .i64 x3, .int .i64 x4]) rfl rfl rfl (fun w => (tA27 w).2) rfl rfl rfl rfl ?_
        refine .cast (A' := [Box pt [.int .i64 t.facts, .slice at_ t.init.length ct, .slice at_2 t.goal.length ct2, .slice at_3 t.ops.length ct3], Box pv [.int .i64 x3, .int .i64 x4], Box pf [.int .i64 x3, .int .i64 x4]]) rfl ?_
        refine .nil ?_
        refine .seqN ?_
        refine .ret ?_
        refine .res1 rfl (rvC rfl tA27 (k := 1) rfl rfl) (fun w' S => ⟨(⟨x3, x4⟩ : Fault), hF, rfl, S.below⟩)
      refine .region ?_
      refine .v (mv rfl) rfl rfl rfl ?_
      refine .v (mv rfl) rfl rfl rfl ?_
      refine .v (ln rfl tS35.is) rfl rfl rfl ?_
      refine .v (bi rfl rfl rfl) rfl rfl rfl ?_
      refine .v (mv rfl) rfl rfl rfl ?_
      rcases Bool.eq_false_or_eq_true (decide (i < ((l.length : Nat) : Int))) with q427 | q427
      · replace hF := hF.1 q427
        refine .gv (fa rfl tF27_0) rfl rfl rfl q427 rfl rfl ?_
        refine .gv (ld1 rfl tO3 (cellB (off := 0) (k := 2) rfl rfl)) rfl rfl rfl q427 rfl rfl ?_
        refine .gv (bi rfl rfl rfl) rfl rfl rfl q427 rfl rfl ?_
        refine .v (pkT rfl q427 rfl) rfl rfl rfl ?_
        refine .nil ?_
        exact .use q361 (x3 == 0) hF (.cons rfl (.cons rfl (.cons rfl (.cons rfl (.cons rfl (.cons rfl (.nil))))))) rfl (FH.le_refl _)
      replace hF := hF.2 q427
      refine .gS rfl rfl rfl q427 rfl rfl ?_
      refine .gS rfl rfl rfl q427 rfl rfl ?_
      refine .gS rfl rfl rfl q427 rfl rfl ?_
      refine .v (pkF rfl q427 rfl) rfl rfl rfl ?_
      refine .nil ?_
      exact .use q361 false hF (.cons rfl (.cons rfl (.cons rfl (.cons rfl (.cons rfl (.cons rfl (.nil))))))) rfl (FH.le_refl _)
    refine .cond rfl (fun q428 => ?_) (fun q428 => ?_)
    · replace hF := hF.1 q428
      refine .region ?_
      obtain ⟨r6, q429⟩ : ∃ y_ : Fault, y_ = sp_at_ 9 (-9) := ⟨_, rfl⟩
      replace hF := hF r6 q429
      refine .c (cl (v := .agg #[.int .i64 r6.code, .int .i64 r6.index]) Tryz.call18 rfl rfl (fun w S => (by rw [q429]; exact c_at_ S.sub 9 (-9) ))) rfl rfl rfl ?_
      refine st (p := pf) (off := 0) (k := 2) (vs := [.int .i64 r6.code, .int .i64 r6.index]) rfl rfl rfl (fun w => (tA27 w).2) rfl rfl rfl rfl ?_
      refine .cast (A' := [Box pt [.int .i64 t.facts, .slice at_ t.init.length ct, .slice at_2 t.goal.length ct2, .slice at_3 t.ops.length ct3], Box pv [.int .i64 0, .int .i64 0], Box pf [.int .i64 r6.code, .int .i64 r6.index]]) rfl ?_
      refine .nil ?_
      exact .use q15 (r6.code, r6.index) hF (.cons rfl (.cons rfl (.cons rfl (.cons rfl (.nil))))) rfl (FH.le_refl _)
    replace hF := hF.2 q428
    refine .skip ?_
    exact .use q15 (r2.code, r2.index) hF (.cons rfl (.cons rfl (.cons rfl (.cons rfl (.nil))))) rfl (FH.le_refl _)
  refine .region ?_
  refine .v (fa rfl tF27_0) rfl rfl rfl ?_
  refine .v (ld1 rfl tO3 (cellB (off := 0) (k := 0) rfl rfl)) rfl rfl rfl ?_
  refine .v (bi rfl rfl rfl) rfl rfl rfl ?_
  refine .v (mv rfl) rfl rfl rfl ?_
  rcases Bool.eq_false_or_eq_true (r2.code == 0) with q430 | q430
  · replace hF := hF.1 q430
    refine .gv (mv rfl) rfl rfl rfl q430 rfl rfl ?_
    refine .gv (ln rfl tS35.is) rfl rfl rfl q430 rfl rfl ?_
    obtain ⟨r7, q431⟩ : ∃ y_ : Bool, y_ = sp_in_ ((l.length : Nat) : Int) 1 16 := ⟨_, rfl⟩
    replace hF := hF r7 q431
    refine .gc (cl (v := .bool r7) Tryz.call25 rfl rfl (fun w S => (by rw [q431]; exact c_in_ S.sub ((l.length : Nat) : Int) 1 16 ))) rfl rfl rfl q430 rfl rfl ?_
    refine .gv (nt rfl) rfl rfl rfl q430 rfl rfl ?_
    refine .v (pkT rfl q430 rfl) rfl rfl rfl ?_
    refine .nil ?_
    refine .sel0 [2, 1, 0] (by decide) rfl ?_
    exact .use q12 (!r7) hF (.cons rfl (.cons rfl (.cons rfl (.cons rfl (.cons rfl (.nil)))))) rfl (FH.le_refl _)
  replace hF := hF.2 q430
  refine .gS rfl rfl rfl q430 rfl rfl ?_
  refine .gS rfl rfl rfl q430 rfl rfl ?_
  refine .gS rfl rfl rfl q430 rfl rfl ?_
  refine .gS rfl rfl rfl q430 rfl rfl ?_
  refine .v (pkF rfl q430 rfl) rfl rfl rfl ?_
  refine .nil ?_
  refine .sel0 [2, 1, 0] (by decide) rfl ?_
  exact .use q12 false hF (.cons rfl (.cons rfl (.cons rfl (.cons rfl (.cons rfl (.nil)))))) rfl (FH.le_refl _)

theorem c_rWorldsFault {h : FH} {w : World} (hs : Sub h w) (t : Task) (at_ : Option Addr) (ct : Nat) (_q1 : RSl h at_ t.init) (_q2 : t.init.length ≤ ct) (at_2 : Option Addr) (ct2 : Nat) (_q3 : RSl h at_2 t.goal) (_q4 : t.goal.length ≤ ct2) (at_3 : Option Addr) (ct3 : Nat) (_q5 : RSl h at_3 t.ops) (_q6 : t.ops.length ≤ ct3) (l : List (List Int)) (al2 : Option Addr) (cl2 : Nat) (_q7 : RSl h al2 l) (_q8 : l.length ≤ cl2) : Calls Tryz.prog 24 #[.agg #[.int .i64 t.facts, .slice at_ t.init.length ct, .slice at_2 t.goal.length ct2, .slice at_3 t.ops.length ct3], .slice al2 l.length cl2] w fun e w' => e = .returned (.agg #[.int .i64 (sp_worldsFault t l).code, .int .i64 (sp_worldsFault t l).index]) ∧ Below w.heap.size w w' :=
  (w_rWorldsFault hs t at_ ct _q1 _q2 at_2 ct2 _q3 _q4 at_3 ct3 _q5 _q6 l al2 cl2 _q7 _q8 (fun r => r = sp_worldsFault t l) (ok_rWorldsFault t l)).mono fun _ _ ⟨_, hk, he, hb⟩ => ⟨by rw [he, hk], hb⟩

end Go.Proofs.YtojoehfldbimpaaGreatDoor.Pl

