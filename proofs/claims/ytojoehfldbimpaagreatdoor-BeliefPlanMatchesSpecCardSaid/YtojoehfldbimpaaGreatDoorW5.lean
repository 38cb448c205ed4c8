/- The walks: from what each function asks to what it does; printed from the code. No condition. -/
import Derived.Test.YtojoehfldbimpaaGreatDoorW4
namespace Go.Proofs.YtojoehfldbimpaaGreatDoor.Pl
open Go Go.RowKit
theorem w_afterAll {h : FH} {w : World} (hs : Sub h w) (t : Task) (at_ : Option Addr) (ct : Nat) (_q1 : RSl h at_ t.init) (_q2 : t.init.length ≤ ct) (at_2 : Option Addr) (ct2 : Nat) (_q3 : RSl h at_2 t.goal) (_q4 : t.goal.length ≤ ct2) (at_3 : Option Addr) (ct3 : Nat) (_q5 : RSl h at_3 t.ops) (_q6 : t.ops.length ≤ ct3) (l : List (List Int)) (al2 : Option Addr) (cl2 : Nat) (_q7 : RSl h al2 l) (_q8 : l.length ≤ cl2) (op : Int) (K : (List (List Int)) → Prop) (hF : F_afterAll t l op K) : Calls Tryz.prog 28 #[.agg #[.int .i64 t.facts, .slice at_ t.init.length ct, .slice at_2 t.goal.length ct2, .slice at_3 t.ops.length ct3], .slice al2 l.length cl2, .int .i64 op] w fun e w' => ∃ (r : List (List Int)) (z : Option Addr × Nat) (h1 : FH), K r ∧ e = .returned (.slice z.1 r.length z.2) ∧ FH.le h h1 ∧ (RSl h1 z.1 r ∧ r.length ≤ z.2) ∧ SH (Kp.all w h) h1 w' [] := by
  refine enter (args := [.agg #[.int .i64 t.facts, .slice at_ t.init.length ct, .slice at_2 t.goal.length ct2, .slice at_3 t.ops.length ct3], .slice al2 l.length cl2, .int .i64 op]) Tryz.func28 rfl Tryz.ntmps28 rfl hs ?_
  refine .seq ?_
  refine .region ?_
  refine bx (vs := [.int .i64 t.facts, .slice at_ t.init.length ct, .slice at_2 t.goal.length ct2, .slice at_3 t.ops.length ct3]) rfl rfl rfl (fun pt => ?_)
  refine .v (asg rfl) rfl rfl rfl ?_
  refine .nil ?_
  refine .seqN ?_
  refine .seq ?_
  refine .region ?_
  refine .v (asg rfl) rfl rfl rfl ?_
  refine .nil ?_
  refine .seqN ?_
  refine .seq ?_
  refine .seq ?_
  refine .region ?_
  refine .v (asg rfl) rfl rfl rfl ?_
  refine .nil ?_
  refine .seqN ?_
  refine .block ?_
  obtain ⟨I1, μ1, q225, q226⟩ := hF
  refine .loop' (σ := List (List Int) × Int × Option Addr × Nat × FH) (fun z => I1 z.1 z.2.1 ∧ RSl z.2.2.2.2 z.2.2.1 z.1 ∧ z.1.length ≤ z.2.2.2.1 ∧ FH.le h z.2.2.2.2) (fun z => μ1 z.1 z.2.1) (fun z => [(1, .slice al2 l.length cl2), (2, .int .i64 op), (3, .pointer (some pt)), (7, .slice z.2.2.1 z.1.length z.2.2.2.1), (8, .int .i64 z.2.1)]) (fun _ => [Box pt [.int .i64 t.facts, .slice at_ t.init.length ct, .slice at_2 t.goal.length ct2, .slice at_3 t.ops.length ct3]]) (fun z => z.2.2.2.2) ([], 0, none, 0, h) ⟨q225, RSl.nil_, (Nat.le_refl 0), (FH.le_refl _)⟩ (.cons rfl (.cons rfl (.cons rfl (.cons rfl (.cons rfl (.nil)))))) rfl (FH.le_refl _) ?_
  rintro ⟨out, i, aout, cout, h31⟩ ⟨q225, q181, q182, q183⟩
  have hF := q226 out i q225
  show J _ _ _ _ _ [(1, .slice al2 l.length cl2), (2, .int .i64 op), (3, .pointer (some pt)), (7, .slice aout out.length cout), (8, .int .i64 i)] [Box pt [.int .i64 t.facts, .slice at_ t.init.length ct, .slice at_2 t.goal.length ct2, .slice at_3 t.ops.length ct3]] h31
  refine .seq ?_
  refine .seq ?_
  refine .region ?_
  refine .v (mv rfl) rfl rfl rfl ?_
  refine .v (mv rfl) rfl rfl rfl ?_
  refine .v (ln rfl tS35.is) rfl rfl rfl ?_
  refine .v (bi rfl rfl rfl) rfl rfl rfl ?_
  refine .nil ?_
  refine .seqN ?_
  refine .cond rfl (fun q228 => ?_) (fun q228 => ?_)
  · replace hF := hF.1 q228
    refine .skip ?_
    refine .seqN ?_
    refine .seq ?_
    refine .block ?_
    obtain ⟨q253, hF⟩ := hF
    obtain ⟨_, ⟨a, c, rfl, q254, q255⟩, q256⟩ := _q7.elem q253
    refine .openA (s0 := [(1, .slice al2 l.length cl2), (2, .int .i64 op), (3, .pointer (some pt)), (7, .slice aout out.length cout), (8, .int .i64 i)]) [0, 1, 2, 3, 4, 5, 6] [(0, .slice aout out.length cout), (1, .agg #[.int .i64 t.facts, .slice at_ t.init.length ct, .slice at_2 t.goal.length ct2, .slice at_3 t.ops.length ct3]), (2, .slice al2 l.length cl2), (3, .int .i64 i), (4, .pointer (some (ead al2 (i.toNat * 1)))), (5, .slice a ((gt l i).length) c), (6, .int .i64 op)] (by kernel_rfl) (.cons rfl (.cons rfl (.cons rfl (.cons rfl (.cons rfl (.nil)))))) [1, 2, 3, 7, 8] [9] rfl (by kernel_rfl) ?_
    refine .step [7] 7 rfl (by kernel_rfl) (by kernel_rfl) (.v [] rfl rfl rfl rfl rfl rfl (fun _ => mv rfl) (.v [] rfl rfl rfl rfl rfl rfl (fun _ => ldA (cs := [.int .i64 t.facts, .slice at_ t.init.length ct, .slice at_2 t.goal.length ct2, .slice at_3 t.ops.length ct3]) rfl tA25 rfl (cellsB (off := 0) (k := 0) rfl (m := 4) rfl)) (.v [] rfl rfl rfl rfl rfl rfl (fun _ => mv rfl) (.v [] rfl rfl rfl rfl rfl rfl (fun _ => mv rfl) (.v [(17, .slice al2 l.length cl2), (18, .int .i64 i)] rfl rfl rfl rfl rfl rfl (fun _ => ix rfl rfl tS35 (_q7.ne (by decide) (inb_pos q253)) q253) (.v [(19, .pointer (some (ead al2 (i.toNat * 1))))] rfl rfl rfl rfl rfl rfl (fun _ => ld1 (v := .slice a ((gt l i).length) c) rfl tO22 (cellH ((fun q => (q256 q).mono (q183)) (by decide) 0 _ rfl))) (.v [] rfl rfl rfl rfl rfl rfl (fun _ => mv rfl) (.nil)))))))) (.cons [(16, .agg #[.int .i64 t.facts, .slice at_ t.init.length ct, .slice at_2 t.goal.length ct2, .slice at_3 t.ops.length ct3]), (20, .slice a ((gt l i).length) c), (21, .int .i64 op)] rfl rfl (fun sL hL => ?_) (.nil))
    obtain ⟨q257, hF⟩ := hF
    obtain ⟨r2, q258⟩ : ∃ y_ : List Int, y_ = sp_after t (gt l i) op := ⟨_, rfl⟩
    replace hF := hF r2 q258
    refine clR (α := Option Addr × Nat) (Φ := fun h1 z => RSl h1 z.1 r2 ∧ r2.length ≤ z.2) (V := fun z => .slice z.1 r2.length z.2) Tryz.call64 rfl rfl (fun w S => (by rw [q258]; exact c_after S.sub t at_ ct (_q1.mono (q183)) _q2 at_2 ct2 (_q3.mono (q183)) _q4 at_3 ct3 (_q5.mono (q183)) _q6 (gt l i) a c (q255.mono (q183)) q254 op q257)) rfl (fun z h43 le43 hz => ?_)
    obtain ⟨a2, c2⟩ := z
    obtain ⟨q259, q260⟩ := hz
    refine .nil ?_
    refine .ja (M := [1, 5, 6, 4, 2, 3]) (C' := [0]) (pre := [(7, .slice a2 r2.length c2)]) [(1, .slice al2 l.length cl2), (2, .int .i64 op), (3, .pointer (some pt)), (7, .slice aout out.length cout), (8, .int .i64 i)] [1, 2, 3, 7, 8] hL rfl rfl rfl rfl rfl (.cons rfl (.cons rfl (.cons rfl (.cons rfl (.cons rfl (.nil)))))) rfl rfl (by kernel_rfl) ?_
    refine .step [8] 8 rfl (by kernel_rfl) (by kernel_rfl) (.v [] rfl rfl rfl rfl rfl rfl (fun _ => mv rfl) (.nil)) (.cons [(15, .slice aout out.length cout), (22, .slice a2 r2.length c2), (22, .slice a2 r2.length c2)] rfl rfl (fun sL hL => ?_) (.nil))
    obtain ⟨q261, hF⟩ := hF
    obtain ⟨r3, q262⟩ : ∃ y_ : List (List Int), y_ = sp_insert out r2 := ⟨_, rfl⟩
    replace hF := hF r3 q262
    refine clR (α := Option Addr × Nat) (Φ := fun h1 z => RSl h1 z.1 r3 ∧ r3.length ≤ z.2) (V := fun z => .slice z.1 r3.length z.2) Tryz.call57 rfl rfl (fun w S => (by rw [q262]; exact c_insert S.sub out aout cout (q181.mono (le43)) q182 r2 a2 c2 q259 q260 q261)) rfl (fun z h44 le44 hz => ?_)
    obtain ⟨a3, c3⟩ := z
    obtain ⟨q263, q264⟩ := hz
    refine .nil ?_
    refine .ja (M := [0]) (C' := []) (pre := [(8, .slice a3 r3.length c3)]) [(1, .slice al2 l.length cl2), (2, .int .i64 op), (3, .pointer (some pt)), (7, .slice aout out.length cout), (8, .int .i64 i)] [1, 2, 3, 7, 8] hL rfl rfl rfl rfl rfl (.cons rfl (.cons rfl (.cons rfl (.cons rfl (.cons rfl (.nil)))))) rfl rfl (by kernel_rfl) ?_
    refine .step [9] 9 rfl (by kernel_rfl) (by kernel_rfl) (.nil) (.cons [(23, .slice a3 r3.length c3), (23, .slice a3 r3.length c3), (15, .slice aout out.length cout), (16, .agg #[.int .i64 t.facts, .slice at_ t.init.length ct, .slice at_2 t.goal.length ct2, .slice at_3 t.ops.length ct3]), (17, .slice al2 l.length cl2), (18, .int .i64 i), (19, .pointer (some (ead al2 (i.toNat * 1)))), (20, .slice a ((gt l i).length) c), (21, .int .i64 op), (22, .slice a2 r2.length c2), (23, .slice a3 r3.length c3)] rfl rfl (fun sL hL => ?_) (.nil))
    refine .v (asg rfl) rfl rfl rfl ?_
    refine .nil ?_
    refine .ja (M := []) (C' := []) (pre := [(9, .slice a3 r3.length c3)]) [(1, .slice al2 l.length cl2), (2, .int .i64 op), (3, .pointer (some pt)), (8, .int .i64 i)] [1, 2, 3, 8] hL rfl rfl rfl rfl rfl (.cons rfl (.cons rfl (.cons rfl (.cons rfl (.nil))))) rfl rfl (by kernel_rfl) ?_
    refine .last [(15, .slice aout out.length cout), (16, .agg #[.int .i64 t.facts, .slice at_ t.init.length ct, .slice at_2 t.goal.length ct2, .slice at_3 t.ops.length ct3]), (17, .slice al2 l.length cl2), (18, .int .i64 i), (19, .pointer (some (ead al2 (i.toNat * 1)))), (20, .slice a ((gt l i).length) c), (21, .int .i64 op), (22, .slice a2 r2.length c2), (23, .slice a3 r3.length c3), (7, .slice a3 r3.length c3)] rfl (by kernel_rfl) (.nil) rfl ?_
    refine .blkN ?_
    refine .seqN ?_
    refine .region ?_
    refine .v (mv rfl) rfl rfl rfl ?_
    refine .v (bi rfl rfl rfl) rfl rfl rfl ?_
    refine .v (asg rfl) rfl rfl rfl ?_
    refine .nil ?_
    exact .round (r3, IntKind.i64.wrap (i + 1), a3, c3, h44) ⟨hF.1, q263, q264, (FH.le_trans (FH.le_trans (q183) (le43)) (le44))⟩ hF.2 (.cons rfl (.cons rfl (.cons rfl (.cons rfl (.cons rfl (.nil)))))) rfl (FH.le_refl _)
  replace hF := hF.2 q228
  refine .exit ?_
  refine .seqX ?_
  refine .seqX ?_
  refine .blkX ?_
  refine .seqN ?_
  refine .seq ?_
  refine .region ?_
  refine .v (mv rfl) rfl rfl rfl ?_
  refine .v (asg rfl) rfl rfl rfl ?_
  refine .nil ?_
  refine .seqN ?_
  refine .ret ?_
  refine .res1 rfl (rvT rfl) (fun w' S => ⟨out, (aout, cout), h31, hF, rfl, (q183), ⟨q181, q182⟩, S.none⟩)

theorem c_afterAll {h : FH} {w : World} (hs : Sub h w) (t : Task) (at_ : Option Addr) (ct : Nat) (_q1 : RSl h at_ t.init) (_q2 : t.init.length ≤ ct) (at_2 : Option Addr) (ct2 : Nat) (_q3 : RSl h at_2 t.goal) (_q4 : t.goal.length ≤ ct2) (at_3 : Option Addr) (ct3 : Nat) (_q5 : RSl h at_3 t.ops) (_q6 : t.ops.length ≤ ct3) (l : List (List Int)) (al2 : Option Addr) (cl2 : Nat) (_q7 : RSl h al2 l) (_q8 : l.length ≤ cl2) (op : Int) (hp : pre_afterAll t l op) : Calls Tryz.prog 28 #[.agg #[.int .i64 t.facts, .slice at_ t.init.length ct, .slice at_2 t.goal.length ct2, .slice at_3 t.ops.length ct3], .slice al2 l.length cl2, .int .i64 op] w fun e w' => ∃ (z : Option Addr × Nat) (h1 : FH), e = .returned (.slice z.1 (sp_afterAll t l op).length z.2) ∧ FH.le h h1 ∧ (RSl h1 z.1 (sp_afterAll t l op) ∧ (sp_afterAll t l op).length ≤ z.2) ∧ SH (Kp.all w h) h1 w' [] :=
  (w_afterAll hs t at_ ct _q1 _q2 at_2 ct2 _q3 _q4 at_3 ct3 _q5 _q6 l al2 cl2 _q7 _q8 op (fun r => r = sp_afterAll t l op) (ok_afterAll t l op hp)).mono fun _ _ ⟨r, z, h1, hk, he, hl, hf, hS⟩ => by subst hk; exact ⟨z, h1, he, hl, hf, hS⟩

theorem w_allHold {h : FH} {w : World} (hs : Sub h w) (l : List (List Int)) (al2 : Option Addr) (cl2 : Nat) (_q1 : RSl h al2 l) (_q2 : l.length ≤ cl2) (facts : List Int) (afacts : Option Addr) (cfacts : Nat) (_q3 : RSl h afacts facts) (_q4 : facts.length ≤ cfacts) (K : Bool → Prop) (hF : F_allHold l facts K) : Calls Tryz.prog 27 #[.slice al2 l.length cl2, .slice afacts facts.length cfacts] w fun e w' => ∃ r : Bool, K r ∧ e = .returned (.bool r) ∧ Below w.heap.size w w' := by
  refine enter (args := [.slice al2 l.length cl2, .slice afacts facts.length cfacts]) Tryz.func27 rfl Tryz.ntmps27 rfl hs ?_
  refine .seq ?_
  refine .region ?_
  refine .v (asg rfl) rfl rfl rfl ?_
  refine .nil ?_
  refine .seqN ?_
  refine .seq ?_
  refine .seq ?_
  refine .region ?_
  refine .v (asg rfl) rfl rfl rfl ?_
  refine .nil ?_
  refine .seqN ?_
  refine .block ?_
  obtain ⟨I1, μ1, q122, q123⟩ := hF
  refine .loop' (σ := Int) (fun z => I1 z) (fun z => μ1 z) (fun z => [(0, .slice al2 l.length cl2), (1, .slice afacts facts.length cfacts), (5, .int .i64 z)]) (fun _ => []) (fun _ => h) 0 q122 (.cons rfl (.cons rfl (.cons rfl (.nil)))) rfl (FH.le_refl _) ?_
  rintro i q122
  have hF := q123 i q122
  show J _ _ _ _ _ [(0, .slice al2 l.length cl2), (1, .slice afacts facts.length cfacts), (5, .int .i64 i)] [] h
  refine .seq ?_
  refine .seq ?_
  refine .region ?_
  refine .v (mv rfl) rfl rfl rfl ?_
  refine .v (mv rfl) rfl rfl rfl ?_
  refine .v (ln rfl tS35.is) rfl rfl rfl ?_
  refine .v (bi rfl rfl rfl) rfl rfl rfl ?_
  refine .nil ?_
  refine .seqN ?_
  refine .cond rfl (fun q125 => ?_) (fun q125 => ?_)
  · replace hF := hF.1 q125
    refine .skip ?_
    refine .seqN ?_
    refine .seq ?_
    refine .block ?_
    refine .seq ?_
    refine .region ?_
    refine .v (mv rfl) rfl rfl rfl ?_
    refine .v (mv rfl) rfl rfl rfl ?_
    refine .v (mv rfl) rfl rfl rfl ?_
    obtain ⟨q140, hF⟩ := hF
    refine .v (ix rfl rfl tS35 (_q1.ne (by decide) (inb_pos q140)) q140) rfl rfl rfl ?_
    obtain ⟨_, ⟨a, c, rfl, q141, q142⟩, q143⟩ := _q1.elem q140
    refine .v (ld1 (v := .slice a ((gt l i).length) c) rfl tO22 (cellH (q143 (by decide) 0 _ rfl))) rfl rfl rfl ?_
    obtain ⟨q144, hF⟩ := hF
    obtain ⟨r2, q145⟩ : ∃ y_ : Bool, y_ = sp_subset facts (gt l i) := ⟨_, rfl⟩
    replace hF := hF r2 q145
    refine .c (cl (v := .bool r2) Tryz.call63 rfl rfl (fun w S => (by rw [q145]; exact c_subset S.sub facts afacts cfacts _q3 _q4 (gt l i) a c q142 q141 q144))) rfl rfl rfl ?_
    refine .v (nt rfl) rfl rfl rfl ?_
    refine .nil ?_
    refine .seqN ?_
    refine .cond rfl (fun q146 => ?_) (fun q146 => ?_)
    · replace hF := hF.1 q146
      refine .seq ?_
      refine .region ?_
      refine .v (asg rfl) rfl rfl rfl ?_
      refine .nil ?_
      refine .seqN ?_
      refine .ret ?_
      refine .blkR ?_
      refine .seqR ?_
      refine .seqR ?_
      refine .blkR ?_
      refine .seqR ?_
      refine .res1 rfl (rvT rfl) (fun w' S => ⟨false, hF, rfl, S.below⟩)
    replace hF := hF.2 q146
    refine .skip ?_
    refine .blkN ?_
    refine .seqN ?_
    refine .region ?_
    refine .v (mv rfl) rfl rfl rfl ?_
    refine .v (bi rfl rfl rfl) rfl rfl rfl ?_
    refine .v (asg rfl) rfl rfl rfl ?_
    refine .nil ?_
    exact .round (IntKind.i64.wrap (i + 1)) hF.1 hF.2 (.cons rfl (.cons rfl (.cons rfl (.nil)))) rfl (FH.le_refl _)
  replace hF := hF.2 q125
  refine .exit ?_
  refine .seqX ?_
  refine .seqX ?_
  refine .blkX ?_
  refine .seqN ?_
  refine .seq ?_
  refine .region ?_
  refine .v (asg rfl) rfl rfl rfl ?_
  refine .nil ?_
  refine .seqN ?_
  refine .ret ?_
  refine .res1 rfl (rvT rfl) (fun w' S => ⟨true, hF, rfl, S.below⟩)

theorem c_allHold {h : FH} {w : World} (hs : Sub h w) (l : List (List Int)) (al2 : Option Addr) (cl2 : Nat) (_q1 : RSl h al2 l) (_q2 : l.length ≤ cl2) (facts : List Int) (afacts : Option Addr) (cfacts : Nat) (_q3 : RSl h afacts facts) (_q4 : facts.length ≤ cfacts) (hp : pre_allHold l facts) : Calls Tryz.prog 27 #[.slice al2 l.length cl2, .slice afacts facts.length cfacts] w fun e w' => e = .returned (.bool (sp_allHold l facts)) ∧ Below w.heap.size w w' :=
  (w_allHold hs l al2 cl2 _q1 _q2 facts afacts cfacts _q3 _q4 (fun r => r = sp_allHold l facts) (ok_allHold l facts hp)).mono fun _ _ ⟨_, hk, he, hb⟩ => ⟨by rw [he, hk], hb⟩

theorem w_same {h : FH} {w : World} (hs : Sub h w) (a : List (List Int)) (aa : Option Addr) (ca : Nat) (_q1 : RSl h aa a) (_q2 : a.length ≤ ca) (b : List (List Int)) (ab : Option Addr) (cb : Nat) (_q3 : RSl h ab b) (_q4 : b.length ≤ cb) (K : Bool → Prop) (hF : F_same a b K) : Calls Tryz.prog 90 #[.slice aa a.length ca, .slice ab b.length cb] w fun e w' => ∃ r : Bool, K r ∧ e = .returned (.bool r) ∧ Below w.heap.size w w' := by
  refine enter (args := [.slice aa a.length ca, .slice ab b.length cb]) Tryz.func90 rfl Tryz.ntmps90 rfl hs ?_
  refine .seq ?_
  refine .region ?_
  refine .v (asg rfl) rfl rfl rfl ?_
  refine .nil ?_
  refine .seqN ?_
  refine .seq ?_
  refine .seq ?_
  refine .region ?_
  refine .v (mv rfl) rfl rfl rfl ?_
  refine .v (ln rfl tS35.is) rfl rfl rfl ?_
  refine .v (mv rfl) rfl rfl rfl ?_
  refine .v (ln rfl tS35.is) rfl rfl rfl ?_
  refine .v (bi rfl rfl rfl) rfl rfl rfl ?_
  refine .nil ?_
  refine .seqN ?_
  refine .cond rfl (fun q6 => ?_) (fun q6 => ?_)
  · replace hF := hF.1 q6
    refine .seq ?_
    refine .region ?_
    refine .v (asg rfl) rfl rfl rfl ?_
    refine .nil ?_
    refine .seqN ?_
    refine .ret ?_
    refine .seqR ?_
    refine .res1 rfl (rvT rfl) (fun w' S => ⟨false, hF, rfl, S.below⟩)
  replace hF := hF.2 q6
  refine .skip ?_
  refine .seqN ?_
  refine .seq ?_
  refine .seq ?_
  refine .region ?_
  refine .v (asg rfl) rfl rfl rfl ?_
  refine .nil ?_
  refine .seqN ?_
  refine .block ?_
  obtain ⟨I1, μ1, q184, q185⟩ := hF
  refine .loop' (σ := Int) (fun z => I1 z) (fun z => μ1 z) (fun z => [(0, .slice aa a.length ca), (1, .slice ab b.length cb), (5, .int .i64 z)]) (fun _ => []) (fun _ => h) 0 q184 (.cons rfl (.cons rfl (.cons rfl (.nil)))) rfl (FH.le_refl _) ?_
  rintro i q184
  have hF := q185 i q184
  show J _ _ _ _ _ [(0, .slice aa a.length ca), (1, .slice ab b.length cb), (5, .int .i64 i)] [] h
  refine .seq ?_
  refine .seq ?_
  refine .region ?_
  refine .v (mv rfl) rfl rfl rfl ?_
  refine .v (mv rfl) rfl rfl rfl ?_
  refine .v (ln rfl tS35.is) rfl rfl rfl ?_
  refine .v (bi rfl rfl rfl) rfl rfl rfl ?_
  refine .nil ?_
  refine .seqN ?_
  refine .cond rfl (fun q187 => ?_) (fun q187 => ?_)
  · replace hF := hF.1 q187
    refine .skip ?_
    refine .seqN ?_
    refine .seq ?_
    refine .block ?_
    refine .seq ?_
    refine .open_ (by kernel_rfl) (by kernel_rfl) ?_
    refine .v (mv rfl) rfl rfl rfl ?_
    refine .v (mv rfl) rfl rfl rfl ?_
    obtain ⟨q210, hF⟩ := hF
    refine .v (ix rfl rfl tS35 (_q1.ne (by decide) (inb_pos q210)) q210) rfl rfl rfl ?_
    obtain ⟨_, ⟨a2, c, rfl, q211, q212⟩, q213⟩ := _q1.elem q210
    refine .v (ld1 (v := .slice a2 ((gt a i).length) c) rfl tO22 (cellH (q213 (by decide) 0 _ rfl))) rfl rfl rfl ?_
    refine .v (mv rfl) rfl rfl rfl ?_
    refine .v (mv rfl) rfl rfl rfl ?_
    obtain ⟨q214, hF⟩ := hF
    refine .v (ix rfl rfl tS35 (_q3.ne (by decide) (inb_pos q214)) q214) rfl rfl rfl ?_
    obtain ⟨_, ⟨a3, c2, rfl, q215, q216⟩, q217⟩ := _q3.elem q214
    refine .v (ld1 (v := .slice a3 ((gt b i).length) c2) rfl tO22 (cellH (q217 (by decide) 0 _ rfl))) rfl rfl rfl ?_
    obtain ⟨q218, hF⟩ := hF
    obtain ⟨r2, q219⟩ : ∃ y_ : Bool, y_ = sp_ints (gt a i) (gt b i) := ⟨_, rfl⟩
    replace hF := hF r2 q219
    refine .c (cl (v := .bool r2) Tryz.call91 rfl rfl (fun w S => (by rw [q219]; exact c_ints S.sub (gt a i) a2 c q212 q211 (gt b i) a3 c2 q216 q215 q218))) rfl rfl rfl ?_
    refine .v (nt rfl) rfl rfl rfl ?_
    refine .fin ?_
    refine .seqN ?_
    refine .cond rfl (fun q220 => ?_) (fun q220 => ?_)
    · replace hF := hF.1 q220
      refine .seq ?_
      refine .region ?_
      refine .v (asg rfl) rfl rfl rfl ?_
      refine .nil ?_
      refine .seqN ?_
      refine .ret ?_
      refine .blkR ?_
      refine .seqR ?_
      refine .seqR ?_
      refine .blkR ?_
      refine .seqR ?_
      refine .res1 rfl (rvT rfl) (fun w' S => ⟨false, hF, rfl, S.below⟩)
    replace hF := hF.2 q220
    refine .skip ?_
    refine .blkN ?_
    refine .seqN ?_
    refine .region ?_
    refine .v (mv rfl) rfl rfl rfl ?_
    refine .v (bi rfl rfl rfl) rfl rfl rfl ?_
    refine .v (asg rfl) rfl rfl rfl ?_
    refine .nil ?_
    exact .round (IntKind.i64.wrap (i + 1)) hF.1 hF.2 (.cons rfl (.cons rfl (.cons rfl (.nil)))) rfl (FH.le_refl _)
  replace hF := hF.2 q187
  refine .exit ?_
  refine .seqX ?_
  refine .seqX ?_
  refine .blkX ?_
  refine .seqN ?_
  refine .seq ?_
  refine .region ?_
  refine .v (asg rfl) rfl rfl rfl ?_
  refine .nil ?_
  refine .seqN ?_
  refine .ret ?_
  refine .res1 rfl (rvT rfl) (fun w' S => ⟨true, hF, rfl, S.below⟩)

theorem c_same {h : FH} {w : World} (hs : Sub h w) (a : List (List Int)) (aa : Option Addr) (ca : Nat) (_q1 : RSl h aa a) (_q2 : a.length ≤ ca) (b : List (List Int)) (ab : Option Addr) (cb : Nat) (_q3 : RSl h ab b) (_q4 : b.length ≤ cb) (hp : pre_same a b) : Calls Tryz.prog 90 #[.slice aa a.length ca, .slice ab b.length cb] w fun e w' => e = .returned (.bool (sp_same a b)) ∧ Below w.heap.size w w' :=
  (w_same hs a aa ca _q1 _q2 b ab cb _q3 _q4 (fun r => r = sp_same a b) (ok_same a b hp)).mono fun _ _ ⟨_, hk, he, hb⟩ => ⟨by rw [he, hk], hb⟩

theorem w_placeOf {h : FH} {w : World} (hs : Sub h w) (all : List (List (List Int))) (aall : Option Addr) (call : Nat) (_q1 : RSl h aall all) (_q2 : all.length ≤ call) (l : List (List Int)) (al2 : Option Addr) (cl2 : Nat) (_q3 : RSl h al2 l) (_q4 : l.length ≤ cl2) (K : Int → Prop) (hF : F_placeOf all l K) : Calls Tryz.prog 56 #[.slice aall all.length call, .slice al2 l.length cl2] w fun e w' => ∃ r : Int, K r ∧ e = .returned (.int .i64 r) ∧ Below w.heap.size w w' := by
  refine enter (args := [.slice aall all.length call, .slice al2 l.length cl2]) Tryz.func56 rfl Tryz.ntmps56 rfl hs ?_
  refine .seq ?_
  refine .region ?_
  refine .v (asg rfl) rfl rfl rfl ?_
  refine .nil ?_
  refine .seqN ?_
  refine .seq ?_
  refine .seq ?_
  refine .region ?_
  refine .v (asg rfl) rfl rfl rfl ?_
  refine .nil ?_
  refine .seqN ?_
  refine .block ?_
  obtain ⟨I1, μ1, q122, q123⟩ := hF
  refine .loop' (σ := Int) (fun z => I1 z) (fun z => μ1 z) (fun z => [(0, .slice aall all.length call), (1, .slice al2 l.length cl2), (5, .int .i64 z)]) (fun _ => []) (fun _ => h) 0 q122 (.cons rfl (.cons rfl (.cons rfl (.nil)))) rfl (FH.le_refl _) ?_
  rintro i q122
  have hF := q123 i q122
  show J _ _ _ _ _ [(0, .slice aall all.length call), (1, .slice al2 l.length cl2), (5, .int .i64 i)] [] h
  refine .seq ?_
  refine .seq ?_
  refine .region ?_
  refine .v (mv rfl) rfl rfl rfl ?_
  refine .v (mv rfl) rfl rfl rfl ?_
  refine .v (ln rfl tS32.is) rfl rfl rfl ?_
  refine .v (bi rfl rfl rfl) rfl rfl rfl ?_
  refine .nil ?_
  refine .seqN ?_
  refine .cond rfl (fun q125 => ?_) (fun q125 => ?_)
  · replace hF := hF.1 q125
    refine .skip ?_
    refine .seqN ?_
    refine .seq ?_
    refine .block ?_
    refine .seq ?_
    refine .region ?_
    refine .v (mv rfl) rfl rfl rfl ?_
    refine .v (mv rfl) rfl rfl rfl ?_
    obtain ⟨q140, hF⟩ := hF
    refine .v (ix rfl rfl tS32 (_q1.ne (by decide) (inb_pos q140)) q140) rfl rfl rfl ?_
    obtain ⟨_, ⟨a, c, rfl, q141, q142⟩, q143⟩ := _q1.elem q140
    refine .v (ld1 (v := .slice a ((gt all i).length) c) rfl tO35 (cellH (q143 (by decide) 0 _ rfl))) rfl rfl rfl ?_
    refine .v (mv rfl) rfl rfl rfl ?_
    obtain ⟨q144, hF⟩ := hF
    obtain ⟨r2, q145⟩ : ∃ y_ : Bool, y_ = sp_same (gt all i) l := ⟨_, rfl⟩
    replace hF := hF r2 q145
    refine .c (cl (v := .bool r2) Tryz.call90 rfl rfl (fun w S => (by rw [q145]; exact c_same S.sub (gt all i) a c q142 q141 l al2 cl2 _q3 _q4 q144))) rfl rfl rfl ?_
    refine .nil ?_
    refine .seqN ?_
    refine .cond rfl (fun q146 => ?_) (fun q146 => ?_)
    · replace hF := hF.1 q146
      refine .seq ?_
      refine .region ?_
      refine .v (mv rfl) rfl rfl rfl ?_
      refine .v (asg rfl) rfl rfl rfl ?_
      refine .nil ?_
      refine .seqN ?_
      refine .ret ?_
      refine .blkR ?_
      refine .seqR ?_
      refine .seqR ?_
      refine .blkR ?_
      refine .seqR ?_
      refine .res1 rfl (rvT rfl) (fun w' S => ⟨i, hF, rfl, S.below⟩)
    replace hF := hF.2 q146
    refine .skip ?_
    refine .blkN ?_
    refine .seqN ?_
    refine .region ?_
    refine .v (mv rfl) rfl rfl rfl ?_
    refine .v (bi rfl rfl rfl) rfl rfl rfl ?_
    refine .v (asg rfl) rfl rfl rfl ?_
    refine .nil ?_
    exact .round (IntKind.i64.wrap (i + 1)) hF.1 hF.2 (.cons rfl (.cons rfl (.cons rfl (.nil)))) rfl (FH.le_refl _)
  replace hF := hF.2 q125
  refine .exit ?_
  refine .seqX ?_
  refine .seqX ?_
  refine .blkX ?_
  refine .seqN ?_
  refine .seq ?_
  refine .region ?_
  refine .v (asg rfl) rfl rfl rfl ?_
  refine .nil ?_
  refine .seqN ?_
  refine .ret ?_
  refine .res1 rfl (rvT rfl) (fun w' S => ⟨(-1), hF, rfl, S.below⟩)

theorem c_placeOf {h : FH} {w : World} (hs : Sub h w) (all : List (List (List Int))) (aall : Option Addr) (call : Nat) (_q1 : RSl h aall all) (_q2 : all.length ≤ call) (l : List (List Int)) (al2 : Option Addr) (cl2 : Nat) (_q3 : RSl h al2 l) (_q4 : l.length ≤ cl2) (hp : pre_placeOf all l) : Calls Tryz.prog 56 #[.slice aall all.length call, .slice al2 l.length cl2] w fun e w' => e = .returned (.int .i64 (sp_placeOf all l)) ∧ Below w.heap.size w w' :=
  (w_placeOf hs all aall call _q1 _q2 l al2 cl2 _q3 _q4 (fun r => r = sp_placeOf all l) (ok_placeOf all l hp)).mono fun _ _ ⟨_, hk, he, hb⟩ => ⟨by rw [he, hk], hb⟩

theorem w_observed {h : FH} {w : World} (hs : Sub h w) (l : List (List Int)) (al2 : Option Addr) (cl2 : Nat) (_q1 : RSl h al2 l) (_q2 : l.length ≤ cl2) (fact : Int) (K : (List (List Int) × List (List Int)) → Prop) (hF : F_observed l fact K) : Calls Tryz.prog 55 #[.slice al2 l.length cl2, .int .i64 fact] w fun e w' => ∃ (r : List (List Int) × List (List Int)) (z : Option Addr × Nat × Option Addr × Nat) (h1 : FH), K r ∧ e = .returned (.tuple #[.slice z.1 r.1.length z.2.1, .slice z.2.2.1 r.2.length z.2.2.2]) ∧ FH.le h h1 ∧ (RSl h1 z.1 r.1 ∧ r.1.length ≤ z.2.1 ∧ RSl h1 z.2.2.1 r.2 ∧ r.2.length ≤ z.2.2.2) ∧ SH (Kp.all w h) h1 w' [] := by
  refine enter (args := [.slice al2 l.length cl2, .int .i64 fact]) Tryz.func55 rfl Tryz.ntmps55 rfl hs ?_
  refine .seq ?_
  refine .region ?_
  refine .v (asg rfl) rfl rfl rfl ?_
  refine .v (asg rfl) rfl rfl rfl ?_
  refine .nil ?_
  refine .seqN ?_
  refine .seq ?_
  refine .region ?_
  refine .v (asg rfl) rfl rfl rfl ?_
  refine .nil ?_
  refine .seqN ?_
  refine .seq ?_
  refine .region ?_
  refine .v (asg rfl) rfl rfl rfl ?_
  refine .nil ?_
  refine .seqN ?_
  refine .seq ?_
  refine .seq ?_
  refine .region ?_
  refine .v (asg rfl) rfl rfl rfl ?_
  refine .nil ?_
  refine .seqN ?_
  refine .block ?_
  refine .nilSl 22 1 ?_
  refine .cast (A' := [OwnSl 22 1 none (([] : List (List Int)).length) 0 []]) rfl ?_
  refine .nilSl 22 1 ?_
  refine .cast (A' := [OwnSl 22 1 none (([] : List (List Int)).length) 0 [], OwnSl 22 1 none (([] : List (List Int)).length) 0 []]) rfl ?_
  refine .sel0 [1, 0] (by decide) rfl ?_
  obtain ⟨I1, μ1, q196, q197⟩ := hF
  refine .loop' (σ := Int × List (List Int) × List (List Int) × Option Addr × Nat × List Value × Option Addr × Nat × List Value) (fun z => I1 z.1 z.2.1 z.2.2.1 ∧ RepL h z.2.1 z.2.2.2.2.2.1 ∧ RepL h z.2.2.1 z.2.2.2.2.2.2.2.2) (fun z => μ1 z.1 z.2.1 z.2.2.1) (fun z => [(0, .slice al2 l.length cl2), (1, .int .i64 fact), (6, .slice z.2.2.2.1 z.2.1.length z.2.2.2.2.1), (7, .slice z.2.2.2.2.2.2.1 z.2.2.1.length z.2.2.2.2.2.2.2.1), (8, .int .i64 z.1)]) (fun z => [OwnSl 22 1 z.2.2.2.1 z.2.1.length z.2.2.2.2.1 z.2.2.2.2.2.1, OwnSl 22 1 z.2.2.2.2.2.2.1 z.2.2.1.length z.2.2.2.2.2.2.2.1 z.2.2.2.2.2.2.2.2]) (fun _ => h) (0, ([] : List (List Int)), ([] : List (List Int)), none, 0, [], none, 0, []) ⟨q196, (show RepL h ([] : List (List Int)) [] from rfl), (show RepL h ([] : List (List Int)) [] from rfl)⟩ (.cons rfl (.cons rfl (.cons rfl (.cons rfl (.cons rfl (.nil)))))) rfl (FH.le_refl _) ?_
  rintro ⟨i, yes, no, ayes, cyes, csyes, ano, cno, csno⟩ ⟨q196, q157, q158⟩
  have hF := q197 i yes no q196
  show J _ _ _ _ _ [(0, .slice al2 l.length cl2), (1, .int .i64 fact), (6, .slice ayes yes.length cyes), (7, .slice ano no.length cno), (8, .int .i64 i)] [OwnSl 22 1 ayes yes.length cyes csyes, OwnSl 22 1 ano no.length cno csno] h
  refine .seq ?_
  refine .seq ?_
  refine .region ?_
  refine .v (mv rfl) rfl rfl rfl ?_
  refine .v (mv rfl) rfl rfl rfl ?_
  refine .v (ln rfl tS35.is) rfl rfl rfl ?_
  refine .v (bi rfl rfl rfl) rfl rfl rfl ?_
  refine .nil ?_
  refine .seqN ?_
  refine .cond rfl (fun q199 => ?_) (fun q199 => ?_)
  · replace hF := hF.1 q199
    refine .skip ?_
    refine .seqN ?_
    refine .share (σ := List (List Int) × List (List Int) × Option Addr × Nat × List Value × Option Addr × Nat × List Value) (fun z => F_observed_J1 yes no i I1 μ1 z.1 z.2.1 ∧ RepL h z.1 z.2.2.2.2.1 ∧ RepL h z.2.1 z.2.2.2.2.2.2.2) (fun z => [(0, .slice al2 l.length cl2), (1, .int .i64 fact), (6, .slice z.2.2.1 z.1.length z.2.2.2.1), (7, .slice z.2.2.2.2.2.1 z.2.1.length z.2.2.2.2.2.2.1), (8, .int .i64 i)]) (fun z => [OwnSl 22 1 z.2.2.1 z.1.length z.2.2.2.1 z.2.2.2.2.1, OwnSl 22 1 z.2.2.2.2.2.1 z.2.1.length z.2.2.2.2.2.2.1 z.2.2.2.2.2.2.2]) (fun _ => h) ?_ (fun q217 => ?_)
    · rintro ⟨yes3, no3, ayes3, cyes3, csyes3, ano3, cno3, csno3⟩ ⟨hF, q215, q216⟩
      show J _ _ _ _ _ [(0, .slice al2 l.length cl2), (1, .int .i64 fact), (6, .slice ayes3 yes3.length cyes3), (7, .slice ano3 no3.length cno3), (8, .int .i64 i)] [OwnSl 22 1 ayes3 yes3.length cyes3 csyes3, OwnSl 22 1 ano3 no3.length cno3 csno3] h
      refine .region ?_
      refine .v (mv rfl) rfl rfl rfl ?_
      refine .v (bi rfl rfl rfl) rfl rfl rfl ?_
      refine .v (asg rfl) rfl rfl rfl ?_
      refine .nil ?_
      exact .round (IntKind.i64.wrap (i + 1), yes3, no3, ayes3, cyes3, csyes3, ano3, cno3, csno3) ⟨hF.1, q215, q216⟩ hF.2 (.cons rfl (.cons rfl (.cons rfl (.cons rfl (.cons rfl (.nil)))))) rfl (FH.le_refl _)
    refine .block ?_
    refine .seq ?_
    refine .region ?_
    refine .v (mv rfl) rfl rfl rfl ?_
    refine .v (mv rfl) rfl rfl rfl ?_
    obtain ⟨q218, hF⟩ := hF
    refine .v (ix rfl rfl tS35 (_q1.ne (by decide) (inb_pos q218)) q218) rfl rfl rfl ?_
    obtain ⟨_, ⟨a, c, rfl, q219, q220⟩, q221⟩ := _q1.elem q218
    refine .v (ld1 (v := .slice a ((gt l i).length) c) rfl tO22 (cellH (q221 (by decide) 0 _ rfl))) rfl rfl rfl ?_
    refine .v (mv rfl) rfl rfl rfl ?_
    obtain ⟨q222, hF⟩ := hF
    obtain ⟨r2, q223⟩ : ∃ y_ : Bool, y_ = sp_has (gt l i) fact := ⟨_, rfl⟩
    replace hF := hF r2 q223
    refine .c (cl (v := .bool r2) Tryz.call76 rfl rfl (fun w S => (by rw [q223]; exact c_has S.sub (gt l i) a c q220 q219 fact q222))) rfl rfl rfl ?_
    refine .nil ?_
    refine .seqN ?_
    refine .cond rfl (fun q224 => ?_) (fun q224 => ?_)
    · replace hF := hF.1 q224
      refine .region ?_
      refine .v (mv rfl) rfl rfl rfl ?_
      refine .v (mv rfl) rfl rfl rfl ?_
      refine .v (mv rfl) rfl rfl rfl ?_
      refine .v (ix rfl rfl tS35 (_q1.ne (by decide) (inb_pos q218)) q218) rfl rfl rfl ?_
      refine .v (ld1 (v := .slice a ((gt l i).length) c) rfl tO22 (cellH (q221 (by decide) 0 _ rfl))) rfl rfl rfl ?_
      refine bs2 (cs := #[.slice a ((gt l i).length) c]) (pv := [(0, .slice a ((gt l i).length) c)]) tS35 rfl rfl (by decide) (by decide) rfl rfl rfl (fun a2 _ => ?_)
      refine .cast (A' := [OwnSl 22 1 a2 (([(gt l i)] : List (List Int)).length) 1 [.slice a ((gt l i).length) c], OwnSl 22 1 ayes yes.length cyes csyes, OwnSl 22 1 ano no.length cno csno]) rfl ?_
      obtain ⟨q226, hF⟩ := hF
      have q227 : yes.length + ([(gt l i)] : List (List Int)).length = ((yes ++ ([(gt l i)] : List (List Int)))).length := len_app rfl rfl
      have q228 := RepL.append q157 (show RepL h ([(gt l i)] : List (List Int)) [.slice a ((gt l i).length) c] from ⟨[.slice a ((gt l i).length) c], _, rfl, ⟨a, c, rfl, q219, q220⟩, rfl⟩)
      refine app (k := 1) (news := [.slice a ((gt l i).length) c]) (cs' := (csyes ++ [.slice a ((gt l i).length) c])) (nm := ((yes ++ ([(gt l i)] : List (List Int)))).length) tS35 rfl (by decide) rfl rfl rfl (RepL.len (show RepL h ([(gt l i)] : List (List Int)) [.slice a ((gt l i).length) c] from ⟨[.slice a ((gt l i).length) c], _, rfl, ⟨a, c, rfl, q219, q220⟩, rfl⟩)) (srcS (k := 0) rfl) (RepL.one (show RepL h ([(gt l i)] : List (List Int)) [.slice a ((gt l i).length) c] from ⟨[.slice a ((gt l i).length) c], _, rfl, ⟨a, c, rfl, q219, q220⟩, rfl⟩)) (room_of q227 q226).1 (room_of q227 q226).2 q227 rfl rfl (fun a3 c2 => ?_)
      refine .cast (A' := [OwnSl 22 1 a2 (([(gt l i)] : List (List Int)).length) 1 [.slice a ((gt l i).length) c], OwnSl 22 1 a3 ((yes ++ ([(gt l i)] : List (List Int))).length) c2 (csyes ++ [.slice a ((gt l i).length) c]), OwnSl 22 1 ano no.length cno csno]) rfl ?_
      refine .v (asg rfl) rfl rfl rfl ?_
      refine .nil ?_
      refine .blkN ?_
      refine .sel0 [1, 2] (by decide) rfl ?_
      exact .use q217 ((yes ++ ([(gt l i)] : List (List Int))), no, a3, c2, (csyes ++ [.slice a ((gt l i).length) c]), ano, cno, csno) ⟨hF, q228, q158⟩ (.cons rfl (.cons rfl (.cons rfl (.cons rfl (.cons rfl (.nil)))))) rfl (FH.le_refl _)
    replace hF := hF.2 q224
    refine .region ?_
    refine .v (mv rfl) rfl rfl rfl ?_
    refine .v (mv rfl) rfl rfl rfl ?_
    refine .v (mv rfl) rfl rfl rfl ?_
    refine .v (ix rfl rfl tS35 (_q1.ne (by decide) (inb_pos q218)) q218) rfl rfl rfl ?_
    refine .v (ld1 (v := .slice a ((gt l i).length) c) rfl tO22 (cellH (q221 (by decide) 0 _ rfl))) rfl rfl rfl ?_
    refine bs2 (cs := #[.slice a ((gt l i).length) c]) (pv := [(0, .slice a ((gt l i).length) c)]) tS35 rfl rfl (by decide) (by decide) rfl rfl rfl (fun a4 _ => ?_)
    refine .cast (A' := [OwnSl 22 1 a4 (([(gt l i)] : List (List Int)).length) 1 [.slice a ((gt l i).length) c], OwnSl 22 1 ayes yes.length cyes csyes, OwnSl 22 1 ano no.length cno csno]) rfl ?_
    obtain ⟨q230, hF⟩ := hF
    have q231 : no.length + ([(gt l i)] : List (List Int)).length = ((no ++ ([(gt l i)] : List (List Int)))).length := len_app rfl rfl
    have q232 := RepL.append q158 (show RepL h ([(gt l i)] : List (List Int)) [.slice a ((gt l i).length) c] from ⟨[.slice a ((gt l i).length) c], _, rfl, ⟨a, c, rfl, q219, q220⟩, rfl⟩)
    refine app (k := 2) (news := [.slice a ((gt l i).length) c]) (cs' := (csno ++ [.slice a ((gt l i).length) c])) (nm := ((no ++ ([(gt l i)] : List (List Int)))).length) tS35 rfl (by decide) rfl rfl rfl (RepL.len (show RepL h ([(gt l i)] : List (List Int)) [.slice a ((gt l i).length) c] from ⟨[.slice a ((gt l i).length) c], _, rfl, ⟨a, c, rfl, q219, q220⟩, rfl⟩)) (srcS (k := 0) rfl) (RepL.one (show RepL h ([(gt l i)] : List (List Int)) [.slice a ((gt l i).length) c] from ⟨[.slice a ((gt l i).length) c], _, rfl, ⟨a, c, rfl, q219, q220⟩, rfl⟩)) (room_of q231 q230).1 (room_of q231 q230).2 q231 rfl rfl (fun a5 c3 => ?_)
    refine .cast (A' := [OwnSl 22 1 a4 (([(gt l i)] : List (List Int)).length) 1 [.slice a ((gt l i).length) c], OwnSl 22 1 ayes yes.length cyes csyes, OwnSl 22 1 a5 ((no ++ ([(gt l i)] : List (List Int))).length) c3 (csno ++ [.slice a ((gt l i).length) c])]) rfl ?_
    refine .v (asg rfl) rfl rfl rfl ?_
    refine .nil ?_
    refine .blkN ?_
    refine .sel0 [1, 2] (by decide) rfl ?_
    exact .use q217 (yes, (no ++ ([(gt l i)] : List (List Int))), ayes, cyes, csyes, a5, c3, (csno ++ [.slice a ((gt l i).length) c])) ⟨hF, q157, q232⟩ (.cons rfl (.cons rfl (.cons rfl (.cons rfl (.cons rfl (.nil)))))) rfl (FH.le_refl _)
  replace hF := hF.2 q199
  refine .exit ?_
  refine .seqX ?_
  refine .seqX ?_
  refine .blkX ?_
  refine .seqN ?_
  refine .seq ?_
  refine .region ?_
  refine .v (mv rfl) rfl rfl rfl ?_
  refine .v (mv rfl) rfl rfl rfl ?_
  refine .v (asg rfl) rfl rfl rfl ?_
  refine .v (asg rfl) rfl rfl rfl ?_
  refine .nil ?_
  refine .seqN ?_
  refine .freezeL (k := 1) rfl (fun h1 le1 q234 q233 => ?_)
  refine .cast (A' := [OwnSl 22 1 ayes yes.length cyes csyes, tru]) rfl ?_
  refine .freezeL (k := 0) rfl (fun h2 le2 q236 q235 => ?_)
  refine .cast (A' := [tru, tru]) rfl ?_
  refine .ret ?_
  refine .res2 rfl (rvT rfl) (rvT rfl) (fun w' S => ⟨(yes, no), (ayes, cyes, ano, cno), h2, hF, rfl, (FH.le_trans (le1) (le2)), ⟨(show RSl h2 ayes yes from ⟨_, q157.mono (FH.le_trans (le1) (le2)), q235⟩), (q236), ((show RSl h1 ano no from ⟨_, q158.mono (le1), q233⟩).mono (le2)), (q234)⟩, S.none⟩)

theorem c_observed {h : FH} {w : World} (hs : Sub h w) (l : List (List Int)) (al2 : Option Addr) (cl2 : Nat) (_q1 : RSl h al2 l) (_q2 : l.length ≤ cl2) (fact : Int) (hp : pre_observed l fact) : Calls Tryz.prog 55 #[.slice al2 l.length cl2, .int .i64 fact] w fun e w' => ∃ (z : Option Addr × Nat × Option Addr × Nat) (h1 : FH), e = .returned (.tuple #[.slice z.1 (sp_observed l fact).1.length z.2.1, .slice z.2.2.1 (sp_observed l fact).2.length z.2.2.2]) ∧ FH.le h h1 ∧ (RSl h1 z.1 (sp_observed l fact).1 ∧ (sp_observed l fact).1.length ≤ z.2.1 ∧ RSl h1 z.2.2.1 (sp_observed l fact).2 ∧ (sp_observed l fact).2.length ≤ z.2.2.2) ∧ SH (Kp.all w h) h1 w' [] :=
  (w_observed hs l al2 cl2 _q1 _q2 fact (fun r => r = sp_observed l fact) (ok_observed l fact hp)).mono fun _ _ ⟨r, z, h1, hk, he, hl, hf, hS⟩ => by subst hk; exact ⟨z, h1, he, hl, hf, hS⟩

set_option maxHeartbeats 8000000 in
theorem w_beliefs {h : FH} {w : World} (hs : Sub h w) (t : Task) (at_ : Option Addr) (ct : Nat) (_q1 : RSl h at_ t.init) (_q2 : t.init.length ≤ ct) (at_2 : Option Addr) (ct2 : Nat) (_q3 : RSl h at_2 t.goal) (_q4 : t.goal.length ≤ ct2) (at_3 : Option Addr) (ct3 : Nat) (_q5 : RSl h at_3 t.ops) (_q6 : t.ops.length ≤ ct3) (start2 : List (List Int)) (astart2 : Option Addr) (cstart2 : Nat) (_q7 : RSl h astart2 start2) (_q8 : start2.length ≤ cstart2) (sensors : List Int) (asensors : Option Addr) (csensors : Nat) (_q9 : RSl h asensors sensors) (_q10 : sensors.length ≤ csensors) (most : Int) (K : (List (List (List Int)) × Bool) → Prop) (hF : F_beliefs t start2 sensors most K) : Calls Tryz.prog 15 #[.agg #[.int .i64 t.facts, .slice at_ t.init.length ct, .slice at_2 t.goal.length ct2, .slice at_3 t.ops.length ct3], .slice astart2 start2.length cstart2, .slice asensors sensors.length csensors, .int .i64 most] w fun e w' => ∃ (r : List (List (List Int)) × Bool) (z : Option Addr × Nat) (h1 : FH), K r ∧ e = .returned (.tuple #[.slice z.1 r.1.length z.2, .bool r.2]) ∧ FH.le h h1 ∧ (RSl h1 z.1 r.1 ∧ r.1.length ≤ z.2) ∧ SH (Kp.all w h) h1 w' [] := by
  refine enter (args := [.agg #[.int .i64 t.facts, .slice at_ t.init.length ct, .slice at_2 t.goal.length ct2, .slice at_3 t.ops.length ct3], .slice astart2 start2.length cstart2, .slice asensors sensors.length csensors, .int .i64 most]) Tryz.func15 rfl Tryz.ntmps15 rfl hs ?_
  refine .seq ?_
  refine .region ?_
  refine bx (vs := [.int .i64 t.facts, .slice at_ t.init.length ct, .slice at_2 t.goal.length ct2, .slice at_3 t.ops.length ct3]) rfl rfl rfl (fun pt => ?_)
  refine .v (asg rfl) rfl rfl rfl ?_
  refine .v (asg rfl) rfl rfl rfl ?_
  refine .nil ?_
  refine .seqN ?_
  refine .seq ?_
  refine .region ?_
  refine .v (mv rfl) rfl rfl rfl ?_
  refine bs2 (cs := #[.slice astart2 start2.length cstart2]) (pv := [(0, .slice astart2 start2.length cstart2)]) tS32 rfl rfl (by decide) (by decide) rfl rfl rfl (fun a _ => ?_)
  refine .cast (A' := [OwnSl 35 1 a (([start2] : List (List (List Int))).length) 1 [.slice astart2 start2.length cstart2], Box pt [.int .i64 t.facts, .slice at_ t.init.length ct, .slice at_2 t.goal.length ct2, .slice at_3 t.ops.length ct3]]) rfl ?_
  refine .v (asg rfl) rfl rfl rfl ?_
  refine .nil ?_
  refine .seqN ?_
  refine .seq ?_
  refine .seq ?_
  refine .region ?_
  refine .v (asg rfl) rfl rfl rfl ?_
  refine .nil ?_
  refine .seqN ?_
  refine .block ?_
  refine .sel0 [1, 0] (by decide) rfl ?_
  obtain ⟨I1, μ1, q10554, q10555⟩ := hF
  refine .loop' (σ := Int × List (List (List Int)) × Option Addr × Nat × List Value × FH) (fun z => I1 z.1 z.2.1 ∧ RepL z.2.2.2.2.2 z.2.1 z.2.2.2.2.1 ∧ FH.le h z.2.2.2.2.2) (fun z => μ1 z.1 z.2.1) (fun z => [(2, .slice asensors sensors.length csensors), (3, .int .i64 most), (4, .pointer (some pt)), (10, .slice z.2.2.1 z.2.1.length z.2.2.2.1), (11, .int .i64 z.1)]) (fun z => [Box pt [.int .i64 t.facts, .slice at_ t.init.length ct, .slice at_2 t.goal.length ct2, .slice at_3 t.ops.length ct3], OwnSl 35 1 z.2.2.1 z.2.1.length z.2.2.2.1 z.2.2.2.2.1]) (fun z => z.2.2.2.2.2) (0, ([start2] : List (List (List Int))), a, 1, [.slice astart2 start2.length cstart2], h) ⟨q10554, (show RepL h ([start2] : List (List (List Int))) [.slice astart2 start2.length cstart2] from ⟨[.slice astart2 start2.length cstart2], _, rfl, ⟨astart2, cstart2, rfl, _q8, _q7⟩, rfl⟩), (FH.le_refl _)⟩ (.cons rfl (.cons rfl (.cons rfl (.cons rfl (.cons rfl (.nil)))))) rfl (FH.le_refl _) ?_
  rintro ⟨i, all, aall, call, csall, h631⟩ ⟨q10554, q8448, q8449⟩
  have hF := q10555 i all q10554
  show J _ _ _ _ _ [(2, .slice asensors sensors.length csensors), (3, .int .i64 most), (4, .pointer (some pt)), (10, .slice aall all.length call), (11, .int .i64 i)] [Box pt [.int .i64 t.facts, .slice at_ t.init.length ct, .slice at_2 t.goal.length ct2, .slice at_3 t.ops.length ct3], OwnSl 35 1 aall all.length call csall] h631
  refine .seq ?_
  refine .seq ?_
  refine .region ?_
  refine .v (mv rfl) rfl rfl rfl ?_
  refine .v (mv rfl) rfl rfl rfl ?_
  refine .v (ln rfl tS32.is) rfl rfl rfl ?_
  refine .v (bi rfl rfl rfl) rfl rfl rfl ?_
  refine .nil ?_
  refine .seqN ?_
  refine .cond rfl (fun q10557 => ?_) (fun q10557 => ?_)
  · replace hF := hF.1 q10557
    refine .skip ?_
    refine .seqN ?_
    refine .seq ?_
    refine .block ?_
    refine .seq ?_
    refine .region ?_
    refine .v (asg rfl) rfl rfl rfl ?_
    refine .nil ?_
    refine .seqN ?_
    refine .seq ?_
    refine .seq ?_
    refine .region ?_
    refine .v (asg rfl) rfl rfl rfl ?_
    refine .nil ?_
    refine .seqN ?_
    refine .block ?_
    refine .nilSl 35 1 ?_
    refine .cast (A' := [OwnSl 35 1 none (([] : List (List (List Int))).length) 0 [], Box pt [.int .i64 t.facts, .slice at_ t.init.length ct, .slice at_2 t.goal.length ct2, .slice at_3 t.ops.length ct3], OwnSl 35 1 aall all.length call csall]) rfl ?_
    refine .sel0 [1, 2, 0] (by decide) rfl ?_
    obtain ⟨I2, μ2, q12231, q12232⟩ := hF
    refine .loop' (σ := Int × List (List (List Int)) × Option Addr × Nat × List Value × FH) (fun z => I2 z.1 z.2.1 ∧ RepL z.2.2.2.2.2 z.2.1 z.2.2.2.2.1 ∧ FH.le h631 z.2.2.2.2.2) (fun z => μ2 z.1 z.2.1) (fun z => [(2, .slice asensors sensors.length csensors), (3, .int .i64 most), (4, .pointer (some pt)), (10, .slice aall all.length call), (11, .int .i64 i), (12, .slice z.2.2.1 z.2.1.length z.2.2.2.1), (13, .int .i64 z.1)]) (fun z => [Box pt [.int .i64 t.facts, .slice at_ t.init.length ct, .slice at_2 t.goal.length ct2, .slice at_3 t.ops.length ct3], OwnSl 35 1 aall all.length call csall, OwnSl 35 1 z.2.2.1 z.2.1.length z.2.2.2.1 z.2.2.2.2.1]) (fun z => z.2.2.2.2.2) (0, ([] : List (List (List Int))), none, 0, [], h631) ⟨q12231, (show RepL h631 ([] : List (List (List Int))) [] from rfl), (FH.le_refl _)⟩ (.cons rfl (.cons rfl (.cons rfl (.cons rfl (.cons rfl (.cons rfl (.cons rfl (.nil)))))))) rfl (FH.le_refl _) ?_
    rintro ⟨op, next, anext, cnext, csnext, h911⟩ ⟨q12231, q12176, q12177⟩
    have hF := q12232 op next q12231
    show J _ _ _ _ _ [(2, .slice asensors sensors.length csensors), (3, .int .i64 most), (4, .pointer (some pt)), (10, .slice aall all.length call), (11, .int .i64 i), (12, .slice anext next.length cnext), (13, .int .i64 op)] [Box pt [.int .i64 t.facts, .slice at_ t.init.length ct, .slice at_2 t.goal.length ct2, .slice at_3 t.ops.length ct3], OwnSl 35 1 aall all.length call csall, OwnSl 35 1 anext next.length cnext csnext] h911
    refine .seq ?_
    refine .seq ?_
    refine .region ?_
    refine .v (mv rfl) rfl rfl rfl ?_
    refine .v (fa rfl tF25_3) rfl rfl rfl ?_
    refine .v (ld1 rfl tO23 (cellB (off := 3) (k := 0) rfl rfl)) rfl rfl rfl ?_
    refine .v (ln rfl tS23.is) rfl rfl rfl ?_
    refine .v (bi rfl rfl rfl) rfl rfl rfl ?_
    refine .nil ?_
    refine .seqN ?_
    refine .cond rfl (fun q12234 => ?_) (fun q12234 => ?_)
    · replace hF := hF.1 q12234
      refine .skip ?_
      refine .seqN ?_
      refine .share (σ := List (List (List Int)) × Option Addr × Nat × List Value × FH) (fun z => F_beliefs_J1 next op I2 μ2 z.1 ∧ RepL z.2.2.2.2 z.1 z.2.2.2.1 ∧ FH.le h911 z.2.2.2.2) (fun z => [(2, .slice asensors sensors.length csensors), (3, .int .i64 most), (4, .pointer (some pt)), (10, .slice aall all.length call), (11, .int .i64 i), (12, .slice z.2.1 z.1.length z.2.2.1), (13, .int .i64 op)]) (fun z => [Box pt [.int .i64 t.facts, .slice at_ t.init.length ct, .slice at_2 t.goal.length ct2, .slice at_3 t.ops.length ct3], OwnSl 35 1 aall all.length call csall, OwnSl 35 1 z.2.1 z.1.length z.2.2.1 z.2.2.2.1]) (fun z => z.2.2.2.2) ?_ (fun q12260 => ?_)
      · rintro ⟨next3, anext3, cnext3, csnext3, h917⟩ ⟨hF, q12258, q12259⟩
        show J _ _ _ _ _ [(2, .slice asensors sensors.length csensors), (3, .int .i64 most), (4, .pointer (some pt)), (10, .slice aall all.length call), (11, .int .i64 i), (12, .slice anext3 next3.length cnext3), (13, .int .i64 op)] [Box pt [.int .i64 t.facts, .slice at_ t.init.length ct, .slice at_2 t.goal.length ct2, .slice at_3 t.ops.length ct3], OwnSl 35 1 aall all.length call csall, OwnSl 35 1 anext3 next3.length cnext3 csnext3] h917
        refine .region ?_
        refine .v (mv rfl) rfl rfl rfl ?_
        refine .v (bi rfl rfl rfl) rfl rfl rfl ?_
        refine .v (asg rfl) rfl rfl rfl ?_
        refine .nil ?_
        exact .round (IntKind.i64.wrap (op + 1), next3, anext3, cnext3, csnext3, h917) ⟨hF.1, q12258, (FH.le_trans (q12177) (q12259))⟩ hF.2 (.cons rfl (.cons rfl (.cons rfl (.cons rfl (.cons rfl (.cons rfl (.cons rfl (.nil)))))))) rfl (FH.le_refl _)
      refine .block ?_
      refine .seq ?_
      refine .open_ (by kernel_rfl) (by kernel_rfl) ?_
      refine .v (mv rfl) rfl rfl rfl ?_
      refine .v (mv rfl) rfl rfl rfl ?_
      obtain ⟨q12261, hF⟩ := hF
      refine .v (ixS rfl rfl tS32 (k := 1) rfl q12261) rfl rfl rfl ?_
      obtain ⟨_, ⟨a2, c, rfl, q12262, q12263⟩, q12264⟩ := RepL.get q8448 (gt_get q12261)
      refine .v (ld1 (v := .slice a2 ((gt all i).length) c) rfl tO35 (cellS (k := 1) rfl (q12264 0 _ rfl))) rfl rfl rfl ?_
      refine .v (fa rfl tF25_3) rfl rfl rfl ?_
      refine .v (ld1 rfl tO23 (cellB (off := 3) (k := 0) rfl rfl)) rfl rfl rfl ?_
      refine .v (mv rfl) rfl rfl rfl ?_
      obtain ⟨q12265, hF⟩ := hF
      refine .v (ix rfl rfl tS23 (_q5.ne (by decide) (inb_pos q12265)) q12265) rfl rfl rfl ?_
      refine .v (fa rfl tF54_0) rfl rfl rfl ?_
      obtain ⟨_, ⟨a3, c2, a4, c3, a5, c4, rfl, ⟨q12266, q12267⟩, ⟨q12268, q12269⟩, q12270, q12271⟩, q12272⟩ := _q5.elem q12265
      refine .v (ld1 (v := .slice a3 ((gt t.ops op).pre.length) c2) rfl tO22 (cellH ((fun q => (q12272 q).mono (FH.le_trans (q8449) (q12177))) (by decide) 0 _ rfl))) rfl rfl rfl ?_
      obtain ⟨q12273, hF⟩ := hF
      obtain ⟨r2, q12274⟩ : ∃ y_ : Bool, y_ = sp_allHold (gt all i) ((gt t.ops op).pre) := ⟨_, rfl⟩
      replace hF := hF r2 q12274
      refine .c (cl (v := .bool r2) Tryz.call27 rfl rfl (fun w S => (by rw [q12274]; exact c_allHold S.sub (gt all i) a2 c (q12263.mono (q12177)) q12262 ((gt t.ops op).pre) a3 c2 (q12267.mono (FH.le_trans (q8449) (q12177))) q12266 q12273))) rfl rfl rfl ?_
      refine .fin ?_
      refine .seqN ?_
      refine .cond rfl (fun q12275 => ?_) (fun q12275 => ?_)
      · replace hF := hF.1 q12275
        refine .openA (s0 := [(2, .slice asensors sensors.length csensors), (3, .int .i64 most), (4, .pointer (some pt)), (10, .slice aall all.length call), (11, .int .i64 i), (12, .slice anext next.length cnext), (13, .int .i64 op)]) [0, 1, 2, 3, 4, 5, 6] [(0, .slice anext next.length cnext), (1, .agg #[.int .i64 t.facts, .slice at_ t.init.length ct, .slice at_2 t.goal.length ct2, .slice at_3 t.ops.length ct3]), (2, .slice aall all.length call), (3, .int .i64 i), (4, .pointer (some (ead aall (i.toNat * 1)))), (5, .slice a2 ((gt all i).length) c), (6, .int .i64 op)] (by kernel_rfl) (.cons rfl (.cons rfl (.cons rfl (.cons rfl (.cons rfl (.cons rfl (.cons rfl (.nil)))))))) [2, 3, 4, 10, 11, 12, 13] [10] rfl (by kernel_rfl) ?_
        refine .step [7] 7 rfl (by kernel_rfl) (by kernel_rfl) (.v [] rfl rfl rfl rfl rfl rfl (fun _ => mv rfl) (.v [] rfl rfl rfl rfl rfl rfl (fun _ => ldA (cs := [.int .i64 t.facts, .slice at_ t.init.length ct, .slice at_2 t.goal.length ct2, .slice at_3 t.ops.length ct3]) rfl tA25 rfl (cellsB (off := 0) (k := 0) rfl (m := 4) rfl)) (.v [] rfl rfl rfl rfl rfl rfl (fun _ => mv rfl) (.v [] rfl rfl rfl rfl rfl rfl (fun _ => mv rfl) (.v [(46, .slice aall all.length call), (47, .int .i64 i)] rfl rfl rfl rfl rfl rfl (fun _ => ixS rfl rfl tS32 (k := 1) rfl q12261) (.v [(48, .pointer (some (ead aall (i.toNat * 1))))] rfl rfl rfl rfl rfl rfl (fun _ => ld1 (v := .slice a2 ((gt all i).length) c) rfl tO35 (cellS (k := 1) rfl (q12264 0 _ rfl))) (.v [] rfl rfl rfl rfl rfl rfl (fun _ => mv rfl) (.nil)))))))) (.cons [(45, .agg #[.int .i64 t.facts, .slice at_ t.init.length ct, .slice at_2 t.goal.length ct2, .slice at_3 t.ops.length ct3]), (49, .slice a2 ((gt all i).length) c), (50, .int .i64 op)] rfl rfl (fun sL hL => ?_) (.nil))
        obtain ⟨q12276, hF⟩ := hF
        obtain ⟨r3, q12277⟩ : ∃ y_ : List (List Int), y_ = sp_afterAll t (gt all i) op := ⟨_, rfl⟩
        replace hF := hF r3 q12277
        refine clR (α := Option Addr × Nat) (Φ := fun h1 z => RSl h1 z.1 r3 ∧ r3.length ≤ z.2) (V := fun z => .slice z.1 r3.length z.2) Tryz.call28 rfl rfl (fun w S => (by rw [q12277]; exact c_afterAll S.sub t at_ ct (_q1.mono (FH.le_trans (q8449) (q12177))) _q2 at_2 ct2 (_q3.mono (FH.le_trans (q8449) (q12177))) _q4 at_3 ct3 (_q5.mono (FH.le_trans (q8449) (q12177))) _q6 (gt all i) a2 c (q12263.mono (q12177)) q12262 op q12276)) rfl (fun z h918 le918 hz => ?_)
        obtain ⟨a6, c5⟩ := z
        obtain ⟨q12278, q12279⟩ := hz
        refine .nil ?_
        refine .ja (M := [1, 5, 6, 4, 2, 3]) (C' := [0]) (pre := [(7, .slice a6 r3.length c5)]) [(2, .slice asensors sensors.length csensors), (3, .int .i64 most), (4, .pointer (some pt)), (10, .slice aall all.length call), (11, .int .i64 i), (12, .slice anext next.length cnext), (13, .int .i64 op)] [2, 3, 4, 10, 11, 12, 13] hL rfl rfl rfl rfl rfl (.cons rfl (.cons rfl (.cons rfl (.cons rfl (.cons rfl (.cons rfl (.cons rfl (.nil)))))))) rfl rfl (by kernel_rfl) ?_
        refine .step [8] 8 rfl (by kernel_rfl) (by kernel_rfl) (.v [] rfl rfl rfl rfl rfl rfl (fun _ => mv rfl) (.nil)) (.cons [(51, .slice a6 r3.length c5)] rfl rfl (fun sL hL => ?_) (.nil))
        refine bs2 (cs := #[.slice a6 r3.length c5]) (pv := [(0, .slice a6 r3.length c5)]) tS32 rfl rfl (by decide) (by decide) rfl rfl rfl (fun a7 _ => ?_)
        refine .cast (A' := [OwnSl 35 1 a7 (([r3] : List (List (List Int))).length) 1 [.slice a6 r3.length c5], Box pt [.int .i64 t.facts, .slice at_ t.init.length ct, .slice at_2 t.goal.length ct2, .slice at_3 t.ops.length ct3], OwnSl 35 1 aall all.length call csall, OwnSl 35 1 anext next.length cnext csnext]) rfl ?_
        refine .nil ?_
        refine .ja (M := []) (C' := [0]) (pre := [(8, .slice a7 (([r3] : List (List (List Int))).length) 1)]) [(2, .slice asensors sensors.length csensors), (3, .int .i64 most), (4, .pointer (some pt)), (10, .slice aall all.length call), (11, .int .i64 i), (12, .slice anext next.length cnext), (13, .int .i64 op)] [2, 3, 4, 10, 11, 12, 13] hL rfl rfl rfl rfl rfl (.cons rfl (.cons rfl (.cons rfl (.cons rfl (.cons rfl (.cons rfl (.cons rfl (.nil)))))))) rfl rfl (by kernel_rfl) ?_
        refine .step [9] 9 rfl (by kernel_rfl) (by kernel_rfl) (.v [] rfl rfl rfl rfl rfl rfl (fun _ => mv rfl) (.nil)) (.cons [(44, .slice anext next.length cnext), (52, .slice a7 (([r3] : List (List (List Int))).length) 1), (51, .slice a6 r3.length c5)] rfl rfl (fun sL hL => ?_) (.nil))
        obtain ⟨q12281, hF⟩ := hF
        have q12282 : next.length + ([r3] : List (List (List Int))).length = ((next ++ ([r3] : List (List (List Int))))).length := len_app rfl rfl
        have q12283 := RepL.append (RepL.mono (le918) q12176) (show RepL h918 ([r3] : List (List (List Int))) [.slice a6 r3.length c5] from ⟨[.slice a6 r3.length c5], _, rfl, ⟨a6, c5, rfl, q12279, q12278⟩, rfl⟩)
        refine app (k := 3) (news := [.slice a6 r3.length c5]) (cs' := (csnext ++ [.slice a6 r3.length c5])) (nm := ((next ++ ([r3] : List (List (List Int))))).length) tS32 rfl (by decide) rfl rfl rfl (RepL.len (show RepL h918 ([r3] : List (List (List Int))) [.slice a6 r3.length c5] from ⟨[.slice a6 r3.length c5], _, rfl, ⟨a6, c5, rfl, q12279, q12278⟩, rfl⟩)) (srcS (k := 0) rfl) (RepL.one (show RepL h918 ([r3] : List (List (List Int))) [.slice a6 r3.length c5] from ⟨[.slice a6 r3.length c5], _, rfl, ⟨a6, c5, rfl, q12279, q12278⟩, rfl⟩)) (room_of q12282 q12281).1 (room_of q12282 q12281).2 q12282 rfl rfl (fun a8 c6 => ?_)
        refine .cast (A' := [OwnSl 35 1 a7 (([r3] : List (List (List Int))).length) 1 [.slice a6 r3.length c5], Box pt [.int .i64 t.facts, .slice at_ t.init.length ct, .slice at_2 t.goal.length ct2, .slice at_3 t.ops.length ct3], OwnSl 35 1 aall all.length call csall, OwnSl 35 1 a8 ((next ++ ([r3] : List (List (List Int)))).length) c6 (csnext ++ [.slice a6 r3.length c5])]) rfl ?_
        refine .nil ?_
        refine .ja (M := [0]) (C' := []) (pre := [(9, .slice a8 ((next ++ ([r3] : List (List (List Int)))).length) c6)]) [(2, .slice asensors sensors.length csensors), (3, .int .i64 most), (4, .pointer (some pt)), (10, .slice aall all.length call), (11, .int .i64 i), (12, .slice anext next.length cnext), (13, .int .i64 op)] [2, 3, 4, 10, 11, 12, 13] hL rfl rfl rfl rfl rfl (.cons rfl (.cons rfl (.cons rfl (.cons rfl (.cons rfl (.cons rfl (.cons rfl (.nil)))))))) rfl rfl (by kernel_rfl) ?_
        refine .step [10] 10 rfl (by kernel_rfl) (by kernel_rfl) (.nil) (.cons [(53, .slice a8 ((next ++ ([r3] : List (List (List Int)))).length) c6), (53, .slice a8 ((next ++ ([r3] : List (List (List Int)))).length) c6), (44, .slice anext next.length cnext), (45, .agg #[.int .i64 t.facts, .slice at_ t.init.length ct, .slice at_2 t.goal.length ct2, .slice at_3 t.ops.length ct3]), (46, .slice aall all.length call), (47, .int .i64 i), (48, .pointer (some (ead aall (i.toNat * 1)))), (49, .slice a2 ((gt all i).length) c), (50, .int .i64 op), (51, .slice a6 r3.length c5), (52, .slice a7 (([r3] : List (List (List Int))).length) 1), (53, .slice a8 ((next ++ ([r3] : List (List (List Int)))).length) c6)] rfl rfl (fun sL hL => ?_) (.nil))
        refine .v (asg rfl) rfl rfl rfl ?_
        refine .nil ?_
        refine .ja (M := []) (C' := []) (pre := [(10, .slice a8 ((next ++ ([r3] : List (List (List Int)))).length) c6)]) [(2, .slice asensors sensors.length csensors), (3, .int .i64 most), (4, .pointer (some pt)), (10, .slice aall all.length call), (11, .int .i64 i), (13, .int .i64 op)] [2, 3, 4, 10, 11, 13] hL rfl rfl rfl rfl rfl (.cons rfl (.cons rfl (.cons rfl (.cons rfl (.cons rfl (.cons rfl (.nil))))))) rfl rfl (by kernel_rfl) ?_
        refine .last [(44, .slice anext next.length cnext), (45, .agg #[.int .i64 t.facts, .slice at_ t.init.length ct, .slice at_2 t.goal.length ct2, .slice at_3 t.ops.length ct3]), (46, .slice aall all.length call), (47, .int .i64 i), (48, .pointer (some (ead aall (i.toNat * 1)))), (49, .slice a2 ((gt all i).length) c), (50, .int .i64 op), (51, .slice a6 r3.length c5), (52, .slice a7 (([r3] : List (List (List Int))).length) 1), (53, .slice a8 ((next ++ ([r3] : List (List (List Int)))).length) c6), (12, .slice a8 ((next ++ ([r3] : List (List (List Int)))).length) c6)] rfl (by kernel_rfl) (.nil) rfl ?_
        refine .blkN ?_
        refine .sel0 [1, 2, 3] (by decide) rfl ?_
        exact .use q12260 ((next ++ ([r3] : List (List (List Int)))), a8, c6, (csnext ++ [.slice a6 r3.length c5]), h918) ⟨hF, q12283, (le918)⟩ (.cons rfl (.cons rfl (.cons rfl (.cons rfl (.cons rfl (.cons rfl (.cons rfl (.nil)))))))) rfl (FH.le_refl _)
      replace hF := hF.2 q12275
      refine .skip ?_
      refine .blkN ?_
      exact .use q12260 (next, anext, cnext, csnext, h911) ⟨hF, q12176, (FH.le_refl _)⟩ (.cons rfl (.cons rfl (.cons rfl (.cons rfl (.cons rfl (.cons rfl (.cons rfl (.nil)))))))) rfl (FH.le_refl _)
    replace hF := hF.2 q12234
    refine .exit ?_
    refine .seqX ?_
    refine .seqX ?_
    refine .blkX ?_
    refine .seqN ?_
    refine .seq ?_
    refine .seq ?_
    refine .region ?_
    refine .v (asg rfl) rfl rfl rfl ?_
    refine .nil ?_
    refine .seqN ?_
    refine .block ?_
    obtain ⟨I3, μ3, q12517, q12518⟩ := hF
    refine .loop' (σ := Int × List (List (List Int)) × Option Addr × Nat × List Value × FH) (fun z => I3 z.1 z.2.1 ∧ RepL z.2.2.2.2.2 z.2.1 z.2.2.2.2.1 ∧ FH.le h911 z.2.2.2.2.2) (fun z => μ3 z.1 z.2.1) (fun z => [(2, .slice asensors sensors.length csensors), (3, .int .i64 most), (4, .pointer (some pt)), (10, .slice aall all.length call), (11, .int .i64 i), (12, .slice z.2.2.1 z.2.1.length z.2.2.2.1), (14, .int .i64 z.1)]) (fun z => [Box pt [.int .i64 t.facts, .slice at_ t.init.length ct, .slice at_2 t.goal.length ct2, .slice at_3 t.ops.length ct3], OwnSl 35 1 aall all.length call csall, OwnSl 35 1 z.2.2.1 z.2.1.length z.2.2.2.1 z.2.2.2.2.1]) (fun z => z.2.2.2.2.2) (0, next, anext, cnext, csnext, h911) ⟨q12517, q12176, (FH.le_refl _)⟩ (.cons rfl (.cons rfl (.cons rfl (.cons rfl (.cons rfl (.cons rfl (.cons rfl (.nil)))))))) rfl (FH.le_refl _) ?_
    rintro ⟨k, next4, anext4, cnext4, csnext4, h937⟩ ⟨q12517, q12470, q12471⟩
    have hF := q12518 k next4 q12517
    show J _ _ _ _ _ [(2, .slice asensors sensors.length csensors), (3, .int .i64 most), (4, .pointer (some pt)), (10, .slice aall all.length call), (11, .int .i64 i), (12, .slice anext4 next4.length cnext4), (14, .int .i64 k)] [Box pt [.int .i64 t.facts, .slice at_ t.init.length ct, .slice at_2 t.goal.length ct2, .slice at_3 t.ops.length ct3], OwnSl 35 1 aall all.length call csall, OwnSl 35 1 anext4 next4.length cnext4 csnext4] h937
    refine .seq ?_
    refine .seq ?_
    refine .region ?_
    refine .v (mv rfl) rfl rfl rfl ?_
    refine .v (mv rfl) rfl rfl rfl ?_
    refine .v (ln rfl tS22.is) rfl rfl rfl ?_
    refine .v (bi rfl rfl rfl) rfl rfl rfl ?_
    refine .nil ?_
    refine .seqN ?_
    refine .cond rfl (fun q12520 => ?_) (fun q12520 => ?_)
    · replace hF := hF.1 q12520
      refine .skip ?_
      refine .seqN ?_
      refine .share (σ := List (List (List Int)) × Option Addr × Nat × List Value × FH) (fun z => F_beliefs_J2 next4 k I3 μ3 z.1 ∧ RepL z.2.2.2.2 z.1 z.2.2.2.1 ∧ FH.le h937 z.2.2.2.2) (fun z => [(2, .slice asensors sensors.length csensors), (3, .int .i64 most), (4, .pointer (some pt)), (10, .slice aall all.length call), (11, .int .i64 i), (12, .slice z.2.1 z.1.length z.2.2.1), (14, .int .i64 k)]) (fun z => [Box pt [.int .i64 t.facts, .slice at_ t.init.length ct, .slice at_2 t.goal.length ct2, .slice at_3 t.ops.length ct3], OwnSl 35 1 aall all.length call csall, OwnSl 35 1 z.2.1 z.1.length z.2.2.1 z.2.2.2.1]) (fun z => z.2.2.2.2) ?_ (fun q12542 => ?_)
      · rintro ⟨next6, anext6, cnext6, csnext6, h943⟩ ⟨hF, q12540, q12541⟩
        show J _ _ _ _ _ [(2, .slice asensors sensors.length csensors), (3, .int .i64 most), (4, .pointer (some pt)), (10, .slice aall all.length call), (11, .int .i64 i), (12, .slice anext6 next6.length cnext6), (14, .int .i64 k)] [Box pt [.int .i64 t.facts, .slice at_ t.init.length ct, .slice at_2 t.goal.length ct2, .slice at_3 t.ops.length ct3], OwnSl 35 1 aall all.length call csall, OwnSl 35 1 anext6 next6.length cnext6 csnext6] h943
        refine .region ?_
        refine .v (mv rfl) rfl rfl rfl ?_
        refine .v (bi rfl rfl rfl) rfl rfl rfl ?_
        refine .v (asg rfl) rfl rfl rfl ?_
        refine .nil ?_
        exact .round (IntKind.i64.wrap (k + 1), next6, anext6, cnext6, csnext6, h943) ⟨hF.1, q12540, (FH.le_trans (q12471) (q12541))⟩ hF.2 (.cons rfl (.cons rfl (.cons rfl (.cons rfl (.cons rfl (.cons rfl (.cons rfl (.nil)))))))) rfl (FH.le_refl _)
      refine .block ?_
      refine .seq ?_
      obtain ⟨q12543, hF⟩ := hF
      obtain ⟨_, ⟨a9, c7, rfl, q12544, q12545⟩, q12546⟩ := RepL.get q8448 (gt_get q12543)
      obtain ⟨q12547, hF⟩ := hF
      refine .openA (s0 := [(2, .slice asensors sensors.length csensors), (3, .int .i64 most), (4, .pointer (some pt)), (10, .slice aall all.length call), (11, .int .i64 i), (12, .slice anext4 next4.length cnext4), (14, .int .i64 k)]) [0, 1, 2, 3, 4, 5, 6, 7] [(0, .slice aall all.length call), (1, .int .i64 i), (2, .pointer (some (ead aall (i.toNat * 1)))), (3, .slice a9 ((gt all i).length) c7), (4, .slice asensors sensors.length csensors), (5, .int .i64 k), (6, .pointer (some (ead asensors (k.toNat * 1)))), (7, .int .i64 (gt sensors k))] (by kernel_rfl) (.cons rfl (.cons rfl (.cons rfl (.cons rfl (.cons rfl (.cons rfl (.cons rfl (.nil)))))))) [2, 3, 4, 10, 11, 12, 14] [] rfl (by kernel_rfl) ?_
      refine .step [8] 8 rfl (by kernel_rfl) (by kernel_rfl) (.v [] rfl rfl rfl rfl rfl rfl (fun _ => mv rfl) (.v [] rfl rfl rfl rfl rfl rfl (fun _ => mv rfl) (.v [(61, .slice aall all.length call), (62, .int .i64 i)] rfl rfl rfl rfl rfl rfl (fun _ => ixS rfl rfl tS32 (k := 1) rfl q12543) (.v [(63, .pointer (some (ead aall (i.toNat * 1))))] rfl rfl rfl rfl rfl rfl (fun _ => ld1 (v := .slice a9 ((gt all i).length) c7) rfl tO35 (cellS (k := 1) rfl (q12546 0 _ rfl))) (.v [] rfl rfl rfl rfl rfl rfl (fun _ => mv rfl) (.v [] rfl rfl rfl rfl rfl rfl (fun _ => mv rfl) (.v [(65, .slice asensors sensors.length csensors), (66, .int .i64 k)] rfl rfl rfl rfl rfl rfl (fun _ => ix rfl rfl tS22 (_q9.ne (by decide) (inb_pos q12547)) q12547) (.v [(67, .pointer (some (ead asensors (k.toNat * 1))))] rfl rfl rfl rfl rfl rfl (fun _ => ld1 (v := .int .i64 (gt sensors k)) rfl tO3 (cellH ((_q9.mono (FH.le_trans (FH.le_trans (q8449) (q12177)) (q12471))).elemF q12547 (by decide) 0 _ rfl))) (.nil))))))))) (.cons [(64, .slice a9 ((gt all i).length) c7), (68, .int .i64 (gt sensors k))] rfl rfl (fun sL hL => ?_) (.nil))
      obtain ⟨q12548, hF⟩ := hF
      obtain ⟨r4, q12549⟩ : ∃ y_ : List (List Int) × List (List Int), y_ = sp_observed (gt all i) (gt sensors k) := ⟨_, rfl⟩
      replace hF := hF r4 q12549
      refine clR (α := Option Addr × Nat × Option Addr × Nat) (Φ := fun h1 z => RSl h1 z.1 r4.1 ∧ r4.1.length ≤ z.2.1 ∧ RSl h1 z.2.2.1 r4.2 ∧ r4.2.length ≤ z.2.2.2) (V := fun z => .tuple #[.slice z.1 r4.1.length z.2.1, .slice z.2.2.1 r4.2.length z.2.2.2]) Tryz.call55 rfl rfl (fun w S => (by rw [q12549]; exact c_observed S.sub (gt all i) a9 c7 (q12545.mono (FH.le_trans (q12177) (q12471))) q12544 (gt sensors k) q12548)) rfl (fun z h944 le944 hz => ?_)
      obtain ⟨a10, c8, a11, c9⟩ := z
      obtain ⟨q12550, q12551, q12552, q12553⟩ := hz
      refine .nil ?_
      refine .ja (M := [3, 7, 2, 6, 0, 1, 4, 5]) (C' := [9, 10, 11, 12, 13]) (pre := [(8, .tuple #[.slice a10 r4.1.length c8, .slice a11 r4.2.length c9]), (9, .tuple #[.slice a10 r4.1.length c8, .slice a11 r4.2.length c9]), (10, .slice a10 r4.1.length c8), (11, .slice a11 r4.2.length c9), (12, .slice a10 r4.1.length c8), (13, .slice a11 r4.2.length c9)]) [(2, .slice asensors sensors.length csensors), (3, .int .i64 most), (4, .pointer (some pt)), (10, .slice aall all.length call), (11, .int .i64 i), (12, .slice anext4 next4.length cnext4), (14, .int .i64 k)] [2, 3, 4, 10, 11, 12, 14] hL rfl rfl rfl rfl rfl (.cons rfl (.cons rfl (.cons rfl (.cons rfl (.cons rfl (.cons rfl (.cons rfl (.nil)))))))) rfl rfl (by kernel_rfl) ?_
      refine .last [(61, .slice aall all.length call), (62, .int .i64 i), (63, .pointer (some (ead aall (i.toNat * 1)))), (64, .slice a9 ((gt all i).length) c7), (65, .slice asensors sensors.length csensors), (66, .int .i64 k), (67, .pointer (some (ead asensors (k.toNat * 1)))), (68, .int .i64 (gt sensors k)), (69, .tuple #[.slice a10 r4.1.length c8, .slice a11 r4.2.length c9]), (60, .tuple #[.slice a10 r4.1.length c8, .slice a11 r4.2.length c9]), (70, .slice a10 r4.1.length c8), (71, .slice a11 r4.2.length c9), (15, .slice a10 r4.1.length c8), (16, .slice a11 r4.2.length c9)] rfl (by kernel_rfl) (.v [(69, .tuple #[.slice a10 r4.1.length c8, .slice a11 r4.2.length c9])] rfl rfl rfl rfl rfl rfl (fun _ => mv rfl) (.v [(60, .tuple #[.slice a10 r4.1.length c8, .slice a11 r4.2.length c9])] rfl rfl rfl rfl rfl rfl (fun _ => ext rfl rfl) (.v [(60, .tuple #[.slice a10 r4.1.length c8, .slice a11 r4.2.length c9])] rfl rfl rfl rfl rfl rfl (fun _ => ext rfl rfl) (.v [(70, .slice a10 r4.1.length c8), (69, .tuple #[.slice a10 r4.1.length c8, .slice a11 r4.2.length c9]), (61, .slice aall all.length call), (62, .int .i64 i), (63, .pointer (some (ead aall (i.toNat * 1)))), (64, .slice a9 ((gt all i).length) c7), (65, .slice asensors sensors.length csensors), (66, .int .i64 k), (67, .pointer (some (ead asensors (k.toNat * 1)))), (68, .int .i64 (gt sensors k)), (69, .tuple #[.slice a10 r4.1.length c8, .slice a11 r4.2.length c9]), (60, .tuple #[.slice a10 r4.1.length c8, .slice a11 r4.2.length c9]), (70, .slice a10 r4.1.length c8)] rfl rfl rfl rfl rfl rfl (fun _ => asg rfl) (.v [(71, .slice a11 r4.2.length c9), (15, .slice a10 r4.1.length c8), (61, .slice aall all.length call), (62, .int .i64 i), (63, .pointer (some (ead aall (i.toNat * 1)))), (64, .slice a9 ((gt all i).length) c7), (65, .slice asensors sensors.length csensors), (66, .int .i64 k), (67, .pointer (some (ead asensors (k.toNat * 1)))), (68, .int .i64 (gt sensors k)), (69, .tuple #[.slice a10 r4.1.length c8, .slice a11 r4.2.length c9]), (60, .tuple #[.slice a10 r4.1.length c8, .slice a11 r4.2.length c9]), (70, .slice a10 r4.1.length c8), (71, .slice a11 r4.2.length c9), (15, .slice a10 r4.1.length c8)] rfl rfl rfl rfl rfl rfl (fun _ => asg rfl) (.nil)))))) rfl ?_
      refine .seqN ?_
      refine .share (σ := Bool) (fun z => F_beliefs_J3 r4 z next4 k I3 μ3) (fun z => [(2, .slice asensors sensors.length csensors), (3, .int .i64 most), (4, .pointer (some pt)), (10, .slice aall all.length call), (11, .int .i64 i), (12, .slice anext4 next4.length cnext4), (14, .int .i64 k), (15, .slice a10 r4.1.length c8), (16, .slice a11 r4.2.length c9), (79, .bool z)]) (fun _ => [Box pt [.int .i64 t.facts, .slice at_ t.init.length ct, .slice at_2 t.goal.length ct2, .slice at_3 t.ops.length ct3], OwnSl 35 1 aall all.length call csall, OwnSl 35 1 anext4 next4.length cnext4 csnext4]) (fun _ => h944) ?_ (fun q12555 => ?_)
      · rintro t79 hF
        show J _ _ _ _ _ [(2, .slice asensors sensors.length csensors), (3, .int .i64 most), (4, .pointer (some pt)), (10, .slice aall all.length call), (11, .int .i64 i), (12, .slice anext4 next4.length cnext4), (14, .int .i64 k), (15, .slice a10 r4.1.length c8), (16, .slice a11 r4.2.length c9), (79, .bool t79)] [Box pt [.int .i64 t.facts, .slice at_ t.init.length ct, .slice at_2 t.goal.length ct2, .slice at_3 t.ops.length ct3], OwnSl 35 1 aall all.length call csall, OwnSl 35 1 anext4 next4.length cnext4 csnext4] h944
        refine .cond rfl (fun q12556 => ?_) (fun q12556 => ?_)
        · replace hF := hF.1 q12556
          refine .region ?_
          refine .v (mv rfl) rfl rfl rfl ?_
          refine .v (mv rfl) rfl rfl rfl ?_
          refine .v (mv rfl) rfl rfl rfl ?_
          refine bs2 (cs := #[.slice a10 r4.1.length c8, .slice a11 r4.2.length c9]) (pv := [(0, .slice a10 r4.1.length c8), (1, .slice a11 r4.2.length c9)]) tS32 rfl rfl (by decide) (by decide) rfl rfl rfl (fun a12 _ => ?_)
          refine .cast (A' := [OwnSl 35 1 a12 (([r4.1, r4.2] : List (List (List Int))).length) 2 [.slice a10 r4.1.length c8, .slice a11 r4.2.length c9], Box pt [.int .i64 t.facts, .slice at_ t.init.length ct, .slice at_2 t.goal.length ct2, .slice at_3 t.ops.length ct3], OwnSl 35 1 aall all.length call csall, OwnSl 35 1 anext4 next4.length cnext4 csnext4]) rfl ?_
          obtain ⟨q12558, hF⟩ := hF
          have q12559 : next4.length + ([r4.1, r4.2] : List (List (List Int))).length = ((next4 ++ ([r4.1, r4.2] : List (List (List Int))))).length := len_app rfl rfl
          have q12560 := RepL.append (RepL.mono (le944) q12470) (show RepL h944 ([r4.1, r4.2] : List (List (List Int))) [.slice a10 r4.1.length c8, .slice a11 r4.2.length c9] from ⟨[.slice a10 r4.1.length c8], _, rfl, ⟨a10, c8, rfl, q12551, q12550⟩, ⟨[.slice a11 r4.2.length c9], _, rfl, ⟨a11, c9, rfl, q12553, q12552⟩, rfl⟩⟩)
          refine app (k := 3) (news := [.slice a10 r4.1.length c8, .slice a11 r4.2.length c9]) (cs' := (csnext4 ++ [.slice a10 r4.1.length c8, .slice a11 r4.2.length c9])) (nm := ((next4 ++ ([r4.1, r4.2] : List (List (List Int))))).length) tS32 rfl (by decide) rfl rfl rfl (RepL.len (show RepL h944 ([r4.1, r4.2] : List (List (List Int))) [.slice a10 r4.1.length c8, .slice a11 r4.2.length c9] from ⟨[.slice a10 r4.1.length c8], _, rfl, ⟨a10, c8, rfl, q12551, q12550⟩, ⟨[.slice a11 r4.2.length c9], _, rfl, ⟨a11, c9, rfl, q12553, q12552⟩, rfl⟩⟩)) (srcS (k := 0) rfl) (RepL.one (show RepL h944 ([r4.1, r4.2] : List (List (List Int))) [.slice a10 r4.1.length c8, .slice a11 r4.2.length c9] from ⟨[.slice a10 r4.1.length c8], _, rfl, ⟨a10, c8, rfl, q12551, q12550⟩, ⟨[.slice a11 r4.2.length c9], _, rfl, ⟨a11, c9, rfl, q12553, q12552⟩, rfl⟩⟩)) (room_of q12559 q12558).1 (room_of q12559 q12558).2 q12559 rfl rfl (fun a13 c10 => ?_)
          refine .cast (A' := [OwnSl 35 1 a12 (([r4.1, r4.2] : List (List (List Int))).length) 2 [.slice a10 r4.1.length c8, .slice a11 r4.2.length c9], Box pt [.int .i64 t.facts, .slice at_ t.init.length ct, .slice at_2 t.goal.length ct2, .slice at_3 t.ops.length ct3], OwnSl 35 1 aall all.length call csall, OwnSl 35 1 a13 ((next4 ++ ([r4.1, r4.2] : List (List (List Int)))).length) c10 (csnext4 ++ [.slice a10 r4.1.length c8, .slice a11 r4.2.length c9])]) rfl ?_
          refine .v (asg rfl) rfl rfl rfl ?_
          refine .nil ?_
          refine .blkN ?_
          refine .sel0 [1, 2, 3] (by decide) rfl ?_
          exact .use q12542 ((next4 ++ ([r4.1, r4.2] : List (List (List Int)))), a13, c10, (csnext4 ++ [.slice a10 r4.1.length c8, .slice a11 r4.2.length c9]), h944) ⟨hF, q12560, (le944)⟩ (.cons rfl (.cons rfl (.cons rfl (.cons rfl (.cons rfl (.cons rfl (.cons rfl (.nil)))))))) rfl (FH.le_refl _)
        replace hF := hF.2 q12556
        refine .skip ?_
        refine .blkN ?_
        exact .use q12542 (next4, anext4, cnext4, csnext4, h944) ⟨hF, (RepL.mono (le944) q12470), (le944)⟩ (.cons rfl (.cons rfl (.cons rfl (.cons rfl (.cons rfl (.cons rfl (.cons rfl (.nil)))))))) rfl (FH.le_refl _)
      refine .region ?_
      refine .v (mv rfl) rfl rfl rfl ?_
      refine .v (ln rfl tS35.is) rfl rfl rfl ?_
      refine .v (bi rfl rfl rfl) rfl rfl rfl ?_
      refine .v (mv rfl) rfl rfl rfl ?_
      rcases Bool.eq_false_or_eq_true (decide (0 < ((r4.1.length : Nat) : Int))) with q12561 | q12561
      · replace hF := hF.1 q12561
        refine .gv (mv rfl) rfl rfl rfl q12561 rfl rfl ?_
        refine .gv (ln rfl tS35.is) rfl rfl rfl q12561 rfl rfl ?_
        refine .gv (bi rfl rfl rfl) rfl rfl rfl q12561 rfl rfl ?_
        refine .v (pkT rfl q12561 rfl) rfl rfl rfl ?_
        refine .nil ?_
        exact .use q12555 (decide (0 < ((r4.2.length : Nat) : Int))) hF (.cons rfl (.cons rfl (.cons rfl (.cons rfl (.cons rfl (.cons rfl (.cons rfl (.cons rfl (.cons rfl (.cons rfl (.nil))))))))))) rfl (FH.le_refl _)
      replace hF := hF.2 q12561
      refine .gS rfl rfl rfl q12561 rfl rfl ?_
      refine .gS rfl rfl rfl q12561 rfl rfl ?_
      refine .gS rfl rfl rfl q12561 rfl rfl ?_
      refine .v (pkF rfl q12561 rfl) rfl rfl rfl ?_
      refine .nil ?_
      exact .use q12555 false hF (.cons rfl (.cons rfl (.cons rfl (.cons rfl (.cons rfl (.cons rfl (.cons rfl (.cons rfl (.cons rfl (.cons rfl (.nil))))))))))) rfl (FH.le_refl _)
    replace hF := hF.2 q12520
    refine .exit ?_
    refine .seqX ?_
    refine .seqX ?_
    refine .blkX ?_
    refine .seqN ?_
    refine .seq ?_
    refine .region ?_
    refine .v (asg rfl) rfl rfl rfl ?_
    refine .nil ?_
    refine .seqN ?_
    refine .block ?_
    obtain ⟨I4, μ4, q12626, q12627⟩ := hF
    refine .loop' (σ := Int × List (List (List Int)) × Option Addr × Nat × List Value) (fun z => I4 z.1 z.2.1 ∧ RepL h937 z.2.1 z.2.2.2.2) (fun z => μ4 z.1 z.2.1) (fun z => [(2, .slice asensors sensors.length csensors), (3, .int .i64 most), (4, .pointer (some pt)), (10, .slice z.2.2.1 z.2.1.length z.2.2.2.1), (11, .int .i64 i), (12, .slice anext4 next4.length cnext4), (17, .int .i64 z.1)]) (fun z => [Box pt [.int .i64 t.facts, .slice at_ t.init.length ct, .slice at_2 t.goal.length ct2, .slice at_3 t.ops.length ct3], OwnSl 35 1 z.2.2.1 z.2.1.length z.2.2.2.1 z.2.2.2.2, OwnSl 35 1 anext4 next4.length cnext4 csnext4]) (fun _ => h937) (0, all, aall, call, csall) ⟨q12626, (RepL.mono (FH.le_trans (q12177) (q12471)) q8448)⟩ (.cons rfl (.cons rfl (.cons rfl (.cons rfl (.cons rfl (.cons rfl (.cons rfl (.nil)))))))) rfl (FH.le_refl _) ?_
    rintro ⟨k3, all3, aall3, call3, csall3⟩ ⟨q12626, q12594⟩
    have hF := q12627 k3 all3 q12626
    show J _ _ _ _ _ [(2, .slice asensors sensors.length csensors), (3, .int .i64 most), (4, .pointer (some pt)), (10, .slice aall3 all3.length call3), (11, .int .i64 i), (12, .slice anext4 next4.length cnext4), (17, .int .i64 k3)] [Box pt [.int .i64 t.facts, .slice at_ t.init.length ct, .slice at_2 t.goal.length ct2, .slice at_3 t.ops.length ct3], OwnSl 35 1 aall3 all3.length call3 csall3, OwnSl 35 1 anext4 next4.length cnext4 csnext4] h937
    refine .seq ?_
    refine .seq ?_
    refine .region ?_
    refine .v (mv rfl) rfl rfl rfl ?_
    refine .v (mv rfl) rfl rfl rfl ?_
    refine .v (ln rfl tS32.is) rfl rfl rfl ?_
    refine .v (bi rfl rfl rfl) rfl rfl rfl ?_
    refine .nil ?_
    refine .seqN ?_
    refine .cond rfl (fun q12629 => ?_) (fun q12629 => ?_)
    · replace hF := hF.1 q12629
      refine .skip ?_
      refine .seqN ?_
      refine .share (σ := List (List (List Int)) × Option Addr × Nat × List Value) (fun z => F_beliefs_J4 k3 I4 μ4 all3 z.1 ∧ RepL h937 z.1 z.2.2.2) (fun z => [(2, .slice asensors sensors.length csensors), (3, .int .i64 most), (4, .pointer (some pt)), (10, .slice z.2.1 z.1.length z.2.2.1), (11, .int .i64 i), (12, .slice anext4 next4.length cnext4), (17, .int .i64 k3)]) (fun z => [Box pt [.int .i64 t.facts, .slice at_ t.init.length ct, .slice at_2 t.goal.length ct2, .slice at_3 t.ops.length ct3], OwnSl 35 1 z.2.1 z.1.length z.2.2.1 z.2.2.2, OwnSl 35 1 anext4 next4.length cnext4 csnext4]) (fun _ => h937) ?_ (fun q12644 => ?_)
      · rintro ⟨all5, aall5, call5, csall5⟩ ⟨hF, q12643⟩
        show J _ _ _ _ _ [(2, .slice asensors sensors.length csensors), (3, .int .i64 most), (4, .pointer (some pt)), (10, .slice aall5 all5.length call5), (11, .int .i64 i), (12, .slice anext4 next4.length cnext4), (17, .int .i64 k3)] [Box pt [.int .i64 t.facts, .slice at_ t.init.length ct, .slice at_2 t.goal.length ct2, .slice at_3 t.ops.length ct3], OwnSl 35 1 aall5 all5.length call5 csall5, OwnSl 35 1 anext4 next4.length cnext4 csnext4] h937
        refine .region ?_
        refine .v (mv rfl) rfl rfl rfl ?_
        refine .v (bi rfl rfl rfl) rfl rfl rfl ?_
        refine .v (asg rfl) rfl rfl rfl ?_
        refine .nil ?_
        exact .round (IntKind.i64.wrap (k3 + 1), all5, aall5, call5, csall5) ⟨hF.1, q12643⟩ hF.2 (.cons rfl (.cons rfl (.cons rfl (.cons rfl (.cons rfl (.cons rfl (.cons rfl (.nil)))))))) rfl (FH.le_refl _)
      refine .block ?_
      refine .seq ?_
      refine .region ?_
      refine .v (mv rfl) rfl rfl rfl ?_
      refine .v (mv rfl) rfl rfl rfl ?_
      refine .v (mv rfl) rfl rfl rfl ?_
      obtain ⟨q12645, hF⟩ := hF
      refine .v (ixS rfl rfl tS32 (k := 2) rfl q12645) rfl rfl rfl ?_
      obtain ⟨_, ⟨a14, c11, rfl, q12646, q12647⟩, q12648⟩ := RepL.get q12470 (gt_get q12645)
      refine .v (ld1 (v := .slice a14 ((gt next4 k3).length) c11) rfl tO35 (cellS (k := 2) rfl (q12648 0 _ rfl))) rfl rfl rfl ?_
      obtain ⟨q12649, hF⟩ := hF
      obtain ⟨r5, q12650⟩ : ∃ y_ : Int, y_ = sp_placeOf all3 (gt next4 k3) := ⟨_, rfl⟩
      replace hF := hF r5 q12650
      refine .c (cl (v := .int .i64 r5) Tryz.call56 rfl rfl (fun w S => (by rw [q12650]; obtain ⟨h_, hl_, hs_, hne_, hr_⟩ := look S (k := 1) rfl; exact c_placeOf hs_ all3 aall3 call3 ⟨_, RepL.mono (FH.le_trans (FH.le_refl _) hl_) q12594, hr_⟩ (look_len S (k := 1) rfl) (gt next4 k3) a14 c11 (RSl.mono hl_ q12647) q12646 q12649))) rfl rfl rfl ?_
      refine .v (bi rfl rfl rfl) rfl rfl rfl ?_
      refine .nil ?_
      refine .seqN ?_
      refine .cond rfl (fun q12651 => ?_) (fun q12651 => ?_)
      · replace hF := hF.1 q12651
        refine .seq ?_
        refine .seq ?_
        refine .region ?_
        refine .v (mv rfl) rfl rfl rfl ?_
        refine .v (ln rfl tS32.is) rfl rfl rfl ?_
        refine .v (mv rfl) rfl rfl rfl ?_
        refine .v (bi rfl rfl rfl) rfl rfl rfl ?_
        refine .nil ?_
        refine .seqN ?_
        refine .cond rfl (fun q12653 => ?_) (fun q12653 => ?_)
        · replace hF := hF.1 q12653
          refine .seq ?_
          refine .region ?_
          refine .v (asg rfl) rfl rfl rfl ?_
          refine .v (asg rfl) rfl rfl rfl ?_
          refine .nil ?_
          refine .seqN ?_
          refine .ret ?_
          refine .seqR ?_
          refine .blkR ?_
          refine .seqR ?_
          refine .seqR ?_
          refine .blkR ?_
          refine .blkR ?_
          refine .seqR ?_
          refine .seqR ?_
          refine .blkR ?_
          refine .seqR ?_
          refine .res2 rfl (rvT rfl) (rvT rfl) (fun w' S => ⟨(([] : List (List (List Int))), false), (none, 0), h937, hF, rfl, (FH.le_trans (FH.le_trans (q8449) (q12177)) (q12471)), ⟨RSl.nil_, (Nat.le_refl 0)⟩, S.none⟩)
        replace hF := hF.2 q12653
        refine .skip ?_
        refine .seqN ?_
        refine .region ?_
        refine .v (mv rfl) rfl rfl rfl ?_
        refine .v (mv rfl) rfl rfl rfl ?_
        refine .v (mv rfl) rfl rfl rfl ?_
        refine .v (ixS rfl rfl tS32 (k := 2) rfl q12645) rfl rfl rfl ?_
        refine .v (ld1 (v := .slice a14 ((gt next4 k3).length) c11) rfl tO35 (cellS (k := 2) rfl (q12648 0 _ rfl))) rfl rfl rfl ?_
        refine bs2 (cs := #[.slice a14 ((gt next4 k3).length) c11]) (pv := [(0, .slice a14 ((gt next4 k3).length) c11)]) tS32 rfl rfl (by decide) (by decide) rfl rfl rfl (fun a15 _ => ?_)
        refine .cast (A' := [OwnSl 35 1 a15 (([(gt next4 k3)] : List (List (List Int))).length) 1 [.slice a14 ((gt next4 k3).length) c11], Box pt [.int .i64 t.facts, .slice at_ t.init.length ct, .slice at_2 t.goal.length ct2, .slice at_3 t.ops.length ct3], OwnSl 35 1 aall3 all3.length call3 csall3, OwnSl 35 1 anext4 next4.length cnext4 csnext4]) rfl ?_
        obtain ⟨q12655, hF⟩ := hF
        have q12656 : all3.length + ([(gt next4 k3)] : List (List (List Int))).length = ((all3 ++ ([(gt next4 k3)] : List (List (List Int))))).length := len_app rfl rfl
        have q12657 := RepL.append q12594 (show RepL h937 ([(gt next4 k3)] : List (List (List Int))) [.slice a14 ((gt next4 k3).length) c11] from ⟨[.slice a14 ((gt next4 k3).length) c11], _, rfl, ⟨a14, c11, rfl, q12646, q12647⟩, rfl⟩)
        refine app (k := 2) (news := [.slice a14 ((gt next4 k3).length) c11]) (cs' := (csall3 ++ [.slice a14 ((gt next4 k3).length) c11])) (nm := ((all3 ++ ([(gt next4 k3)] : List (List (List Int))))).length) tS32 rfl (by decide) rfl rfl rfl (RepL.len (show RepL h937 ([(gt next4 k3)] : List (List (List Int))) [.slice a14 ((gt next4 k3).length) c11] from ⟨[.slice a14 ((gt next4 k3).length) c11], _, rfl, ⟨a14, c11, rfl, q12646, q12647⟩, rfl⟩)) (srcS (k := 0) rfl) (RepL.one (show RepL h937 ([(gt next4 k3)] : List (List (List Int))) [.slice a14 ((gt next4 k3).length) c11] from ⟨[.slice a14 ((gt next4 k3).length) c11], _, rfl, ⟨a14, c11, rfl, q12646, q12647⟩, rfl⟩)) (room_of q12656 q12655).1 (room_of q12656 q12655).2 q12656 rfl rfl (fun a16 c12 => ?_)
        refine .cast (A' := [OwnSl 35 1 a15 (([(gt next4 k3)] : List (List (List Int))).length) 1 [.slice a14 ((gt next4 k3).length) c11], Box pt [.int .i64 t.facts, .slice at_ t.init.length ct, .slice at_2 t.goal.length ct2, .slice at_3 t.ops.length ct3], OwnSl 35 1 a16 ((all3 ++ ([(gt next4 k3)] : List (List (List Int)))).length) c12 (csall3 ++ [.slice a14 ((gt next4 k3).length) c11]), OwnSl 35 1 anext4 next4.length cnext4 csnext4]) rfl ?_
        refine .v (asg rfl) rfl rfl rfl ?_
        refine .nil ?_
        refine .blkN ?_
        refine .sel0 [1, 2, 3] (by decide) rfl ?_
        exact .use q12644 ((all3 ++ ([(gt next4 k3)] : List (List (List Int)))), a16, c12, (csall3 ++ [.slice a14 ((gt next4 k3).length) c11])) ⟨hF, q12657⟩ (.cons rfl (.cons rfl (.cons rfl (.cons rfl (.cons rfl (.cons rfl (.cons rfl (.nil)))))))) rfl (FH.le_refl _)
      replace hF := hF.2 q12651
      refine .skip ?_
      refine .blkN ?_
      exact .use q12644 (all3, aall3, call3, csall3) ⟨hF, q12594⟩ (.cons rfl (.cons rfl (.cons rfl (.cons rfl (.cons rfl (.cons rfl (.cons rfl (.nil)))))))) rfl (FH.le_refl _)
    replace hF := hF.2 q12629
    refine .exit ?_
    refine .seqX ?_
    refine .seqX ?_
    refine .blkX ?_
    refine .blkN ?_
    refine .seqN ?_
    refine .region ?_
    refine .v (mv rfl) rfl rfl rfl ?_
    refine .v (bi rfl rfl rfl) rfl rfl rfl ?_
    refine .v (asg rfl) rfl rfl rfl ?_
    refine .nil ?_
    refine .sel0 [0, 1] (by decide) rfl ?_
    exact .round (IntKind.i64.wrap (i + 1), all3, aall3, call3, csall3, h937) ⟨hF.1, q12594, (FH.le_trans (FH.le_trans (q8449) (q12177)) (q12471))⟩ hF.2 (.cons rfl (.cons rfl (.cons rfl (.cons rfl (.cons rfl (.nil)))))) rfl (FH.le_refl _)
  replace hF := hF.2 q10557
  refine .exit ?_
  refine .seqX ?_
  refine .seqX ?_
  refine .blkX ?_
  refine .seqN ?_
  refine .seq ?_
  refine .region ?_
  refine .v (mv rfl) rfl rfl rfl ?_
  refine .v (asg rfl) rfl rfl rfl ?_
  refine .v (asg rfl) rfl rfl rfl ?_
  refine .nil ?_
  refine .seqN ?_
  refine .freezeL (k := 1) rfl (fun h945 le945 q12659 q12658 => ?_)
  refine .cast (A' := [Box pt [.int .i64 t.facts, .slice at_ t.init.length ct, .slice at_2 t.goal.length ct2, .slice at_3 t.ops.length ct3], tru]) rfl ?_
  refine .ret ?_
  refine .res2 rfl (rvT rfl) (rvT rfl) (fun w' S => ⟨(all, true), (aall, call), h945, hF, rfl, (FH.le_trans (q8449) (le945)), ⟨(show RSl h945 aall all from ⟨_, q8448.mono (le945), q12658⟩), (q12659)⟩, S.none⟩)

theorem c_beliefs {h : FH} {w : World} (hs : Sub h w) (t : Task) (at_ : Option Addr) (ct : Nat) (_q1 : RSl h at_ t.init) (_q2 : t.init.length ≤ ct) (at_2 : Option Addr) (ct2 : Nat) (_q3 : RSl h at_2 t.goal) (_q4 : t.goal.length ≤ ct2) (at_3 : Option Addr) (ct3 : Nat) (_q5 : RSl h at_3 t.ops) (_q6 : t.ops.length ≤ ct3) (start2 : List (List Int)) (astart2 : Option Addr) (cstart2 : Nat) (_q7 : RSl h astart2 start2) (_q8 : start2.length ≤ cstart2) (sensors : List Int) (asensors : Option Addr) (csensors : Nat) (_q9 : RSl h asensors sensors) (_q10 : sensors.length ≤ csensors) (most : Int) (hp : pre_beliefs t start2 sensors most) : Calls Tryz.prog 15 #[.agg #[.int .i64 t.facts, .slice at_ t.init.length ct, .slice at_2 t.goal.length ct2, .slice at_3 t.ops.length ct3], .slice astart2 start2.length cstart2, .slice asensors sensors.length csensors, .int .i64 most] w fun e w' => ∃ (z : Option Addr × Nat) (h1 : FH), e = .returned (.tuple #[.slice z.1 (sp_beliefs t start2 sensors most).1.length z.2, .bool (sp_beliefs t start2 sensors most).2]) ∧ FH.le h h1 ∧ (RSl h1 z.1 (sp_beliefs t start2 sensors most).1 ∧ (sp_beliefs t start2 sensors most).1.length ≤ z.2) ∧ SH (Kp.all w h) h1 w' [] :=
  (w_beliefs hs t at_ ct _q1 _q2 at_2 ct2 _q3 _q4 at_3 ct3 _q5 _q6 start2 astart2 cstart2 _q7 _q8 sensors asensors csensors _q9 _q10 most (fun r => r = sp_beliefs t start2 sensors most) (ok_beliefs t start2 sensors most hp)).mono fun _ _ ⟨r, z, h1, hk, he, hl, hf, hS⟩ => by subst hk; exact ⟨z, h1, he, hl, hf, hS⟩

set_option maxHeartbeats 8000000 in
theorem w_conformant {h : FH} {w : World} (hs : Sub h w) (t : Task) (at_ : Option Addr) (ct : Nat) (_q1 : RSl h at_ t.init) (_q2 : t.init.length ≤ ct) (at_2 : Option Addr) (ct2 : Nat) (_q3 : RSl h at_2 t.goal) (_q4 : t.goal.length ≤ ct2) (at_3 : Option Addr) (ct3 : Nat) (_q5 : RSl h at_3 t.ops) (_q6 : t.ops.length ≤ ct3) (all : List (List (List Int))) (aall : Option Addr) (call : Nat) (_q7 : RSl h aall all) (_q8 : all.length ≤ call) (K : (List Int × Bool) → Prop) (hF : F_conformant t all K) : Calls Tryz.prog 17 #[.agg #[.int .i64 t.facts, .slice at_ t.init.length ct, .slice at_2 t.goal.length ct2, .slice at_3 t.ops.length ct3], .slice aall all.length call] w fun e w' => ∃ (r : List Int × Bool) (z : Option Addr × Nat) (h1 : FH), K r ∧ e = .returned (.tuple #[.slice z.1 r.1.length z.2, .bool r.2]) ∧ FH.le h h1 ∧ (RSl h1 z.1 r.1 ∧ r.1.length ≤ z.2) ∧ SH (Kp.all w h) h1 w' [] := by
  refine enter (args := [.agg #[.int .i64 t.facts, .slice at_ t.init.length ct, .slice at_2 t.goal.length ct2, .slice at_3 t.ops.length ct3], .slice aall all.length call]) Tryz.func17 rfl Tryz.ntmps17 rfl hs ?_
  refine .seq ?_
  refine .region ?_
  refine bx (vs := [.int .i64 t.facts, .slice at_ t.init.length ct, .slice at_2 t.goal.length ct2, .slice at_3 t.ops.length ct3]) rfl rfl rfl (fun pt => ?_)
  refine .v (asg rfl) rfl rfl rfl ?_
  refine .v (asg rfl) rfl rfl rfl ?_
  refine .nil ?_
  refine .seqN ?_
  refine .seq ?_
  refine .region ?_
  refine .v (mv rfl) rfl rfl rfl ?_
  refine .v (ln rfl tS32.is) rfl rfl rfl ?_
  obtain ⟨q9, hF⟩ := hF
  refine mk (m := (((all.length : Nat) : Int)).toNat) (cs' := flL (List.replicate (((all.length : Nat) : Int)).toNat (0 : Int))) tS22 rfl rfl (Int.toNat_of_nonneg q9.1).symm q9.2.1 q9.2.2 (flL_rep1 rfl _) rfl (fun a c => ?_)
  have q10 : (List.replicate (((all.length : Nat) : Int)).toNat (0 : Int)).length = (((all.length : Nat) : Int)).toNat := List.length_replicate
  refine .cast (A' := [OwnSl 3 1 a ((((all.length : Nat) : Int)).toNat) c (flL (List.replicate (((all.length : Nat) : Int)).toNat (0 : Int))), Box pt [.int .i64 t.facts, .slice at_ t.init.length ct, .slice at_2 t.goal.length ct2, .slice at_3 t.ops.length ct3]]) rfl ?_
  refine .v (asg rfl) rfl rfl rfl ?_
  refine .nil ?_
  refine .seqN ?_
  refine .seq ?_
  refine .seq ?_
  refine .region ?_
  refine .v (asg rfl) rfl rfl rfl ?_
  refine .nil ?_
  refine .seqN ?_
  refine .block ?_
  refine .sel0 [1, 0] (by decide) rfl ?_
  obtain ⟨I1, μ1, q171, q172⟩ := hF
  refine .loop' (σ := Int × List Int) (fun z => I1 z.1 z.2 ∧ z.2.length = (((all.length : Nat) : Int)).toNat) (fun z => μ1 z.1 z.2) (fun z => [(1, .slice aall all.length call), (2, .pointer (some pt)), (6, .slice a ((((all.length : Nat) : Int)).toNat) c), (7, .int .i64 z.1)]) (fun z => [Box pt [.int .i64 t.facts, .slice at_ t.init.length ct, .slice at_2 t.goal.length ct2, .slice at_3 t.ops.length ct3], OwnSl 3 1 a ((((all.length : Nat) : Int)).toNat) c (flL z.2)]) (fun _ => h) (0, (List.replicate (((all.length : Nat) : Int)).toNat (0 : Int))) ⟨q171, q10⟩ (.cons rfl (.cons rfl (.cons rfl (.cons rfl (.nil))))) rfl (FH.le_refl _) ?_
  rintro ⟨i, d⟩ ⟨q171, q139⟩
  have hF := q172 i d q171
  show J _ _ _ _ _ [(1, .slice aall all.length call), (2, .pointer (some pt)), (6, .slice a ((((all.length : Nat) : Int)).toNat) c), (7, .int .i64 i)] [Box pt [.int .i64 t.facts, .slice at_ t.init.length ct, .slice at_2 t.goal.length ct2, .slice at_3 t.ops.length ct3], OwnSl 3 1 a ((((all.length : Nat) : Int)).toNat) c (flL d)] h
  refine .seq ?_
  refine .seq ?_
  refine .region ?_
  refine .v (mv rfl) rfl rfl rfl ?_
  refine .v (mv rfl) rfl rfl rfl ?_
  refine .v (ln rfl tS32.is) rfl rfl rfl ?_
  refine .v (bi rfl rfl rfl) rfl rfl rfl ?_
  refine .nil ?_
  refine .seqN ?_
  refine .cond rfl (fun q174 => ?_) (fun q174 => ?_)
  · replace hF := hF.1 q174
    refine .skip ?_
    refine .seqN ?_
    refine .share (σ := List Int) (fun z => F_conformant_J1 d z i I1 μ1 ∧ z.length = (((all.length : Nat) : Int)).toNat) (fun _ => [(1, .slice aall all.length call), (2, .pointer (some pt)), (6, .slice a ((((all.length : Nat) : Int)).toNat) c), (7, .int .i64 i)]) (fun z => [Box pt [.int .i64 t.facts, .slice at_ t.init.length ct, .slice at_2 t.goal.length ct2, .slice at_3 t.ops.length ct3], OwnSl 3 1 a ((((all.length : Nat) : Int)).toNat) c (flL z)]) (fun _ => h) ?_ (fun q189 => ?_)
    · rintro d3 ⟨hF, q188⟩
      show J _ _ _ _ _ [(1, .slice aall all.length call), (2, .pointer (some pt)), (6, .slice a ((((all.length : Nat) : Int)).toNat) c), (7, .int .i64 i)] [Box pt [.int .i64 t.facts, .slice at_ t.init.length ct, .slice at_2 t.goal.length ct2, .slice at_3 t.ops.length ct3], OwnSl 3 1 a ((((all.length : Nat) : Int)).toNat) c (flL d3)] h
      refine .region ?_
      refine .v (mv rfl) rfl rfl rfl ?_
      refine .v (bi rfl rfl rfl) rfl rfl rfl ?_
      refine .v (asg rfl) rfl rfl rfl ?_
      refine .nil ?_
      exact .round (IntKind.i64.wrap (i + 1), d3) ⟨hF.1, q188⟩ hF.2 (.cons rfl (.cons rfl (.cons rfl (.cons rfl (.nil))))) rfl (FH.le_refl _)
    refine .block ?_
    refine .seq ?_
    refine .region ?_
    refine .v (mv rfl) rfl rfl rfl ?_
    refine .v (mv rfl) rfl rfl rfl ?_
    obtain ⟨q190, hF⟩ := hF
    refine .v (ixS rfl rfl tS22 (k := 1) rfl (inb_n q190 q139)) rfl rfl rfl ?_
    obtain ⟨d4, q191⟩ : ∃ y_ : List Int, y_ = (d.set (i).toNat 1000000000) := ⟨_, rfl⟩
    replace hF := hF d4 q191
    refine stS (k := 1) (cs' := flL d4) rfl (fun _ => rfl) rfl rfl (fun w => (tO3 w).2) rfl rfl rfl (by rw [← q139]; exact inb_pos q190) (fl_room q190) (by rw [q191]; exact flL_set q190 1000000000) ?_
    have q192 : d4.length = (((all.length : Nat) : Int)).toNat := by rw [q191]; exact List.length_set.trans q139
    refine .cast (A' := [Box pt [.int .i64 t.facts, .slice at_ t.init.length ct, .slice at_2 t.goal.length ct2, .slice at_3 t.ops.length ct3], OwnSl 3 1 a ((((all.length : Nat) : Int)).toNat) c (flL d4)]) rfl ?_
    refine .nil ?_
    refine .seqN ?_
    refine .seq ?_
    refine .open_ (by kernel_rfl) (by kernel_rfl) ?_
    refine .v (mv rfl) rfl rfl rfl ?_
    refine .v (mv rfl) rfl rfl rfl ?_
    obtain ⟨q193, hF⟩ := hF
    refine .v (ix rfl rfl tS32 (_q7.ne (by decide) (inb_pos q193)) q193) rfl rfl rfl ?_
    obtain ⟨_, ⟨a2, c2, rfl, q194, q195⟩, q196⟩ := _q7.elem q193
    refine .v (ld1 (v := .slice a2 ((gt all i).length) c2) rfl tO35 (cellH (q196 (by decide) 0 _ rfl))) rfl rfl rfl ?_
    refine .v (fa rfl tF25_2) rfl rfl rfl ?_
    refine .v (ld1 rfl tO22 (cellB (off := 2) (k := 0) rfl rfl)) rfl rfl rfl ?_
    obtain ⟨q197, hF⟩ := hF
    obtain ⟨r2, q198⟩ : ∃ y_ : Bool, y_ = sp_allHold (gt all i) t.goal := ⟨_, rfl⟩
    replace hF := hF r2 q198
    refine .c (cl (v := .bool r2) Tryz.call27 rfl rfl (fun w S => (by rw [q198]; exact c_allHold S.sub (gt all i) a2 c2 q195 q194 t.goal at_2 ct2 _q3 _q4 q197))) rfl rfl rfl ?_
    refine .fin ?_
    refine .seqN ?_
    refine .cond rfl (fun q199 => ?_) (fun q199 => ?_)
    · replace hF := hF.1 q199
      refine .region ?_
      refine .v (mv rfl) rfl rfl rfl ?_
      refine .v (mv rfl) rfl rfl rfl ?_
      obtain ⟨q200, hF⟩ := hF
      refine .v (ixS rfl rfl tS22 (k := 1) rfl (inb_n q200 q192)) rfl rfl rfl ?_
      obtain ⟨d5, q201⟩ : ∃ y_ : List Int, y_ = (d4.set (i).toNat 0) := ⟨_, rfl⟩
      replace hF := hF d5 q201
      refine stS (k := 1) (cs' := flL d5) rfl (fun _ => rfl) rfl rfl (fun w => (tO3 w).2) rfl rfl rfl (by rw [← q192]; exact inb_pos q200) (fl_room q200) (by rw [q201]; exact flL_set q200 0) ?_
      have q202 : d5.length = (((all.length : Nat) : Int)).toNat := by rw [q201]; exact List.length_set.trans q192
      refine .cast (A' := [Box pt [.int .i64 t.facts, .slice at_ t.init.length ct, .slice at_2 t.goal.length ct2, .slice at_3 t.ops.length ct3], OwnSl 3 1 a ((((all.length : Nat) : Int)).toNat) c (flL d5)]) rfl ?_
      refine .nil ?_
      refine .blkN ?_
      exact .use q189 d5 ⟨hF, q202⟩ (.cons rfl (.cons rfl (.cons rfl (.cons rfl (.nil))))) rfl (FH.le_refl _)
    replace hF := hF.2 q199
    refine .skip ?_
    refine .blkN ?_
    exact .use q189 d4 ⟨hF, q192⟩ (.cons rfl (.cons rfl (.cons rfl (.cons rfl (.nil))))) rfl (FH.le_refl _)
  replace hF := hF.2 q174
  refine .exit ?_
  refine .seqX ?_
  refine .seqX ?_
  refine .blkX ?_
  refine .seqN ?_
  refine .seq ?_
  refine .seq ?_
  refine .region ?_
  refine .v (asg rfl) rfl rfl rfl ?_
  refine .nil ?_
  refine .seqN ?_
  refine .block ?_
  obtain ⟨I2, μ2, q8379, q8380⟩ := hF
  refine .loop' (σ := Bool × List Int) (fun z => I2 z.1 z.2 ∧ z.2.length = (((all.length : Nat) : Int)).toNat) (fun z => μ2 z.1 z.2) (fun z => [(1, .slice aall all.length call), (2, .pointer (some pt)), (6, .slice a ((((all.length : Nat) : Int)).toNat) c), (8, .bool z.1)]) (fun z => [Box pt [.int .i64 t.facts, .slice at_ t.init.length ct, .slice at_2 t.goal.length ct2, .slice at_3 t.ops.length ct3], OwnSl 3 1 a ((((all.length : Nat) : Int)).toNat) c (flL z.2)]) (fun _ => h) (true, d) ⟨q8379, q139⟩ (.cons rfl (.cons rfl (.cons rfl (.cons rfl (.nil))))) rfl (FH.le_refl _) ?_
  rintro ⟨again, d6⟩ ⟨q8379, q6743⟩
  have hF := q8380 again d6 q8379
  show J _ _ _ _ _ [(1, .slice aall all.length call), (2, .pointer (some pt)), (6, .slice a ((((all.length : Nat) : Int)).toNat) c), (8, .bool again)] [Box pt [.int .i64 t.facts, .slice at_ t.init.length ct, .slice at_2 t.goal.length ct2, .slice at_3 t.ops.length ct3], OwnSl 3 1 a ((((all.length : Nat) : Int)).toNat) c (flL d6)] h
  refine .seq ?_
  refine .seq ?_
  refine .region ?_
  refine .v (mv rfl) rfl rfl rfl ?_
  refine .nil ?_
  refine .seqN ?_
  refine .cond rfl (fun q8382 => ?_) (fun q8382 => ?_)
  · replace hF := hF.1 q8382
    refine .skip ?_
    refine .seqN ?_
    refine .block ?_
    refine .seq ?_
    refine .region ?_
    refine .v (asg rfl) rfl rfl rfl ?_
    refine .nil ?_
    refine .seqN ?_
    refine .seq ?_
    refine .region ?_
    refine .v (asg rfl) rfl rfl rfl ?_
    refine .nil ?_
    refine .seqN ?_
    refine .block ?_
    obtain ⟨I3, μ3, q9471, q9472⟩ := hF
    refine .loop' (σ := Bool × Int × List Int) (fun z => I3 z.1 z.2.1 z.2.2 ∧ z.2.2.length = (((all.length : Nat) : Int)).toNat) (fun z => μ3 z.1 z.2.1 z.2.2) (fun z => [(1, .slice aall all.length call), (2, .pointer (some pt)), (6, .slice a ((((all.length : Nat) : Int)).toNat) c), (8, .bool z.1), (9, .int .i64 z.2.1)]) (fun z => [Box pt [.int .i64 t.facts, .slice at_ t.init.length ct, .slice at_2 t.goal.length ct2, .slice at_3 t.ops.length ct3], OwnSl 3 1 a ((((all.length : Nat) : Int)).toNat) c (flL z.2.2)]) (fun _ => h) (false, 0, d6) ⟨q9471, q6743⟩ (.cons rfl (.cons rfl (.cons rfl (.cons rfl (.cons rfl (.nil)))))) rfl (FH.le_refl _) ?_
    rintro ⟨again3, i3, d8⟩ ⟨q9471, q8927⟩
    have hF := q9472 again3 i3 d8 q9471
    show J _ _ _ _ _ [(1, .slice aall all.length call), (2, .pointer (some pt)), (6, .slice a ((((all.length : Nat) : Int)).toNat) c), (8, .bool again3), (9, .int .i64 i3)] [Box pt [.int .i64 t.facts, .slice at_ t.init.length ct, .slice at_2 t.goal.length ct2, .slice at_3 t.ops.length ct3], OwnSl 3 1 a ((((all.length : Nat) : Int)).toNat) c (flL d8)] h
    refine .seq ?_
    refine .seq ?_
    refine .region ?_
    refine .v (mv rfl) rfl rfl rfl ?_
    refine .v (mv rfl) rfl rfl rfl ?_
    refine .v (ln rfl tS32.is) rfl rfl rfl ?_
    refine .v (bi rfl rfl rfl) rfl rfl rfl ?_
    refine .nil ?_
    refine .seqN ?_
    refine .cond rfl (fun q9474 => ?_) (fun q9474 => ?_)
    · replace hF := hF.1 q9474
      refine .skip ?_
      refine .seqN ?_
      refine .seq ?_
      refine .block ?_
      refine .seq ?_
      refine .region ?_
      refine .v (asg rfl) rfl rfl rfl ?_
      refine .nil ?_
      refine .seqN ?_
      refine .block ?_
      obtain ⟨I4, μ4, q9955, q9956⟩ := hF
      refine .loop' (σ := Bool × Int × List Int) (fun z => I4 z.1 z.2.1 z.2.2 ∧ z.2.2.length = (((all.length : Nat) : Int)).toNat) (fun z => μ4 z.1 z.2.1 z.2.2) (fun z => [(1, .slice aall all.length call), (2, .pointer (some pt)), (6, .slice a ((((all.length : Nat) : Int)).toNat) c), (8, .bool z.1), (9, .int .i64 i3), (10, .int .i64 z.2.1)]) (fun z => [Box pt [.int .i64 t.facts, .slice at_ t.init.length ct, .slice at_2 t.goal.length ct2, .slice at_3 t.ops.length ct3], OwnSl 3 1 a ((((all.length : Nat) : Int)).toNat) c (flL z.2.2)]) (fun _ => h) (again3, 0, d8) ⟨q9955, q8927⟩ (.cons rfl (.cons rfl (.cons rfl (.cons rfl (.cons rfl (.cons rfl (.nil))))))) rfl (FH.le_refl _) ?_
      rintro ⟨again5, op, d10⟩ ⟨q9955, q9895⟩
      have hF := q9956 again5 op d10 q9955
      show J _ _ _ _ _ [(1, .slice aall all.length call), (2, .pointer (some pt)), (6, .slice a ((((all.length : Nat) : Int)).toNat) c), (8, .bool again5), (9, .int .i64 i3), (10, .int .i64 op)] [Box pt [.int .i64 t.facts, .slice at_ t.init.length ct, .slice at_2 t.goal.length ct2, .slice at_3 t.ops.length ct3], OwnSl 3 1 a ((((all.length : Nat) : Int)).toNat) c (flL d10)] h
      refine .seq ?_
      refine .seq ?_
      refine .region ?_
      refine .v (mv rfl) rfl rfl rfl ?_
      refine .v (fa rfl tF25_3) rfl rfl rfl ?_
      refine .v (ld1 rfl tO23 (cellB (off := 3) (k := 0) rfl rfl)) rfl rfl rfl ?_
      refine .v (ln rfl tS23.is) rfl rfl rfl ?_
      refine .v (bi rfl rfl rfl) rfl rfl rfl ?_
      refine .nil ?_
      refine .seqN ?_
      refine .cond rfl (fun q9958 => ?_) (fun q9958 => ?_)
      · replace hF := hF.1 q9958
        refine .skip ?_
        refine .seqN ?_
        refine .share (σ := Bool × List Int) (fun z => F_conformant_J2 op I4 μ4 d10 again5 z.2 z.1 ∧ z.2.length = (((all.length : Nat) : Int)).toNat) (fun z => [(1, .slice aall all.length call), (2, .pointer (some pt)), (6, .slice a ((((all.length : Nat) : Int)).toNat) c), (8, .bool z.1), (9, .int .i64 i3), (10, .int .i64 op)]) (fun z => [Box pt [.int .i64 t.facts, .slice at_ t.init.length ct, .slice at_2 t.goal.length ct2, .slice at_3 t.ops.length ct3], OwnSl 3 1 a ((((all.length : Nat) : Int)).toNat) c (flL z.2)]) (fun _ => h) ?_ (fun q9987 => ?_)
        · rintro ⟨again7, d12⟩ ⟨hF, q9986⟩
          show J _ _ _ _ _ [(1, .slice aall all.length call), (2, .pointer (some pt)), (6, .slice a ((((all.length : Nat) : Int)).toNat) c), (8, .bool again7), (9, .int .i64 i3), (10, .int .i64 op)] [Box pt [.int .i64 t.facts, .slice at_ t.init.length ct, .slice at_2 t.goal.length ct2, .slice at_3 t.ops.length ct3], OwnSl 3 1 a ((((all.length : Nat) : Int)).toNat) c (flL d12)] h
          refine .region ?_
          refine .v (mv rfl) rfl rfl rfl ?_
          refine .v (bi rfl rfl rfl) rfl rfl rfl ?_
          refine .v (asg rfl) rfl rfl rfl ?_
          refine .nil ?_
          exact .round (again7, IntKind.i64.wrap (op + 1), d12) ⟨hF.1, q9986⟩ hF.2 (.cons rfl (.cons rfl (.cons rfl (.cons rfl (.cons rfl (.cons rfl (.nil))))))) rfl (FH.le_refl _)
        refine .block ?_
        refine .seq ?_
        refine .seq ?_
        refine .open_ (by kernel_rfl) (by kernel_rfl) ?_
        refine .v (mv rfl) rfl rfl rfl ?_
        refine .v (mv rfl) rfl rfl rfl ?_
        obtain ⟨q9988, hF⟩ := hF
        refine .v (ix rfl rfl tS32 (_q7.ne (by decide) (inb_pos q9988)) q9988) rfl rfl rfl ?_
        obtain ⟨_, ⟨a3, c3, rfl, q9989, q9990⟩, q9991⟩ := _q7.elem q9988
        refine .v (ld1 (v := .slice a3 ((gt all i3).length) c3) rfl tO35 (cellH (q9991 (by decide) 0 _ rfl))) rfl rfl rfl ?_
        refine .v (fa rfl tF25_3) rfl rfl rfl ?_
        refine .v (ld1 rfl tO23 (cellB (off := 3) (k := 0) rfl rfl)) rfl rfl rfl ?_
        refine .v (mv rfl) rfl rfl rfl ?_
        obtain ⟨q9992, hF⟩ := hF
        refine .v (ix rfl rfl tS23 (_q5.ne (by decide) (inb_pos q9992)) q9992) rfl rfl rfl ?_
        refine .v (fa rfl tF54_0) rfl rfl rfl ?_
        obtain ⟨_, ⟨a4, c4, a5, c5, a6, c6, rfl, ⟨q9993, q9994⟩, ⟨q9995, q9996⟩, q9997, q9998⟩, q9999⟩ := _q5.elem q9992
        refine .v (ld1 (v := .slice a4 ((gt t.ops op).pre.length) c4) rfl tO22 (cellH (q9999 (by decide) 0 _ rfl))) rfl rfl rfl ?_
        obtain ⟨q10000, hF⟩ := hF
        obtain ⟨r3, q10001⟩ : ∃ y_ : Bool, y_ = sp_allHold (gt all i3) ((gt t.ops op).pre) := ⟨_, rfl⟩
        replace hF := hF r3 q10001
        refine .c (cl (v := .bool r3) Tryz.call27 rfl rfl (fun w S => (by rw [q10001]; exact c_allHold S.sub (gt all i3) a3 c3 q9990 q9989 ((gt t.ops op).pre) a4 c4 q9994 q9993 q10000))) rfl rfl rfl ?_
        refine .v (nt rfl) rfl rfl rfl ?_
        refine .fin ?_
        refine .seqN ?_
        refine .cond rfl (fun q10003 => ?_) (fun q10003 => ?_)
        · replace hF := hF.1 q10003
          refine .exit ?_
          refine .seqX ?_
          refine .blkX ?_
          exact .use q9987 (again5, d10) ⟨hF, q9895⟩ (.cons rfl (.cons rfl (.cons rfl (.cons rfl (.cons rfl (.cons rfl (.nil))))))) rfl (FH.le_refl _)
        replace hF := hF.2 q10003
        refine .skip ?_
        refine .seqN ?_
        refine .seq ?_
        refine .openA (s0 := [(1, .slice aall all.length call), (2, .pointer (some pt)), (6, .slice a ((((all.length : Nat) : Int)).toNat) c), (8, .bool again5), (9, .int .i64 i3), (10, .int .i64 op)]) [0, 1, 2, 3, 4, 5, 6] [(0, .slice aall all.length call), (1, .agg #[.int .i64 t.facts, .slice at_ t.init.length ct, .slice at_2 t.goal.length ct2, .slice at_3 t.ops.length ct3]), (2, .slice aall all.length call), (3, .int .i64 i3), (4, .pointer (some (ead aall (i3.toNat * 1)))), (5, .slice a3 ((gt all i3).length) c3), (6, .int .i64 op)] (by kernel_rfl) (.cons rfl (.cons rfl (.cons rfl (.cons rfl (.cons rfl (.cons rfl (.nil))))))) [1, 2, 6, 8, 9, 10] [] rfl (by kernel_rfl) ?_
        refine .step [7] 7 rfl (by kernel_rfl) (by kernel_rfl) (.v [] rfl rfl rfl rfl rfl rfl (fun _ => mv rfl) (.v [] rfl rfl rfl rfl rfl rfl (fun _ => ldA (cs := [.int .i64 t.facts, .slice at_ t.init.length ct, .slice at_2 t.goal.length ct2, .slice at_3 t.ops.length ct3]) rfl tA25 rfl (cellsB (off := 0) (k := 0) rfl (m := 4) rfl)) (.v [] rfl rfl rfl rfl rfl rfl (fun _ => mv rfl) (.v [] rfl rfl rfl rfl rfl rfl (fun _ => mv rfl) (.v [(67, .slice aall all.length call), (68, .int .i64 i3)] rfl rfl rfl rfl rfl rfl (fun _ => ix rfl rfl tS32 (_q7.ne (by decide) (inb_pos q9988)) q9988) (.v [(69, .pointer (some (ead aall (i3.toNat * 1))))] rfl rfl rfl rfl rfl rfl (fun _ => ld1 (v := .slice a3 ((gt all i3).length) c3) rfl tO35 (cellH (q9991 (by decide) 0 _ rfl))) (.v [] rfl rfl rfl rfl rfl rfl (fun _ => mv rfl) (.nil)))))))) (.cons [(66, .agg #[.int .i64 t.facts, .slice at_ t.init.length ct, .slice at_2 t.goal.length ct2, .slice at_3 t.ops.length ct3]), (70, .slice a3 ((gt all i3).length) c3), (71, .int .i64 op)] rfl rfl (fun sL hL => ?_) (.nil))
        obtain ⟨q10004, hF⟩ := hF
        obtain ⟨r4, q10005⟩ : ∃ y_ : List (List Int), y_ = sp_afterAll t (gt all i3) op := ⟨_, rfl⟩
        replace hF := hF r4 q10005
        refine clR (α := Option Addr × Nat) (Φ := fun h1 z => RSl h1 z.1 r4 ∧ r4.length ≤ z.2) (V := fun z => .slice z.1 r4.length z.2) Tryz.call28 rfl rfl (fun w S => (by rw [q10005]; exact c_afterAll S.sub t at_ ct _q1 _q2 at_2 ct2 _q3 _q4 at_3 ct3 _q5 _q6 (gt all i3) a3 c3 q9990 q9989 op q10004)) rfl (fun z h324 le324 hz => ?_)
        obtain ⟨a7, c7⟩ := z
        obtain ⟨q10006, q10007⟩ := hz
        refine .nil ?_
        obtain ⟨q10008, hF⟩ := hF
        obtain ⟨r5, q10009⟩ : ∃ y_ : Int, y_ = sp_placeOf all r4 := ⟨_, rfl⟩
        replace hF := hF r5 q10009
        refine .ja (M := [1, 5, 6, 4, 2, 3]) (C' := [0, 8, 9]) (pre := [(7, .slice a7 r4.length c7), (8, .int .i64 r5), (9, .int .i64 r5)]) [(1, .slice aall all.length call), (2, .pointer (some pt)), (6, .slice a ((((all.length : Nat) : Int)).toNat) c), (8, .bool again5), (9, .int .i64 i3), (10, .int .i64 op)] [1, 2, 6, 8, 9, 10] hL rfl rfl rfl rfl rfl (.cons rfl (.cons rfl (.cons rfl (.cons rfl (.cons rfl (.cons rfl (.nil))))))) rfl rfl (by kernel_rfl) ?_
        refine .last [(65, .slice aall all.length call), (66, .agg #[.int .i64 t.facts, .slice at_ t.init.length ct, .slice at_2 t.goal.length ct2, .slice at_3 t.ops.length ct3]), (67, .slice aall all.length call), (68, .int .i64 i3), (69, .pointer (some (ead aall (i3.toNat * 1)))), (70, .slice a3 ((gt all i3).length) c3), (71, .int .i64 op), (72, .slice a7 r4.length c7), (73, .int .i64 r5), (11, .int .i64 r5)] rfl (by kernel_rfl) (.v [] rfl rfl rfl rfl rfl rfl (fun _ => mv rfl) (.c [(65, .slice aall all.length call), (72, .slice a7 r4.length c7), (72, .slice a7 r4.length c7)] rfl rfl rfl rfl rfl rfl (fun _ => cl (v := .int .i64 r5) Tryz.call56 rfl rfl (fun w S => (by rw [q10009]; exact c_placeOf S.sub all aall call (_q7.mono (le324)) _q8 r4 a7 c7 q10006 q10007 q10008))) (.v [(73, .int .i64 r5), (73, .int .i64 r5), (65, .slice aall all.length call), (66, .agg #[.int .i64 t.facts, .slice at_ t.init.length ct, .slice at_2 t.goal.length ct2, .slice at_3 t.ops.length ct3]), (67, .slice aall all.length call), (68, .int .i64 i3), (69, .pointer (some (ead aall (i3.toNat * 1)))), (70, .slice a3 ((gt all i3).length) c3), (71, .int .i64 op), (72, .slice a7 r4.length c7), (73, .int .i64 r5)] rfl rfl rfl rfl rfl rfl (fun _ => asg rfl) (.nil)))) rfl ?_
        refine .seqN ?_
        refine .seq ?_
        refine .open_ (by kernel_rfl) (by kernel_rfl) ?_
        refine .v (mv rfl) rfl rfl rfl ?_
        refine .v (mv rfl) rfl rfl rfl ?_
        obtain ⟨q10010, hF⟩ := hF
        refine .v (ixS rfl rfl tS22 (k := 1) rfl (inb_n q10010 q9895)) rfl rfl rfl ?_
        refine .v (ld1 (v := .int .i64 (gt d10 r5)) rfl tO3 (cellS (k := 1) rfl (flL_get q10010 (j := 0) rfl))) rfl rfl rfl ?_
        refine .v (bi rfl rfl rfl) rfl rfl rfl ?_
        refine .v (mv rfl) rfl rfl rfl ?_
        refine .v (mv rfl) rfl rfl rfl ?_
        obtain ⟨q10011, hF⟩ := hF
        refine .v (ixS rfl rfl tS22 (k := 1) rfl (inb_n q10011 q9895)) rfl rfl rfl ?_
        refine .v (ld1 (v := .int .i64 (gt d10 i3)) rfl tO3 (cellS (k := 1) rfl (flL_get q10011 (j := 0) rfl))) rfl rfl rfl ?_
        refine .v (bi rfl rfl rfl) rfl rfl rfl ?_
        refine .fin ?_
        refine .seqN ?_
        refine .cond rfl (fun q10012 => ?_) (fun q10012 => ?_)
        · replace hF := hF.1 q10012
          refine .seq ?_
          refine .region ?_
          refine .v (mv rfl) rfl rfl rfl ?_
          refine .v (mv rfl) rfl rfl rfl ?_
          refine .v (mv rfl) rfl rfl rfl ?_
          refine .v (mv rfl) rfl rfl rfl ?_
          refine .v (ixS rfl rfl tS22 (k := 1) rfl (inb_n q10010 q9895)) rfl rfl rfl ?_
          refine .v (ld1 (v := .int .i64 (gt d10 r5)) rfl tO3 (cellS (k := 1) rfl (flL_get q10010 (j := 0) rfl))) rfl rfl rfl ?_
          refine .v (bi rfl rfl rfl) rfl rfl rfl ?_
          refine .v (ixS rfl rfl tS22 (k := 1) rfl (inb_n q10011 q9895)) rfl rfl rfl ?_
          obtain ⟨d13, q10013⟩ : ∃ y_ : List Int, y_ = (d10.set (i3).toNat (IntKind.i64.wrap ((gt d10 r5) + 1))) := ⟨_, rfl⟩
          replace hF := hF d13 q10013
          refine stS (k := 1) (cs' := flL d13) rfl (fun _ => rfl) rfl rfl (fun w => (tO3 w).2) rfl rfl rfl (by rw [← q9895]; exact inb_pos q10011) (fl_room q10011) (by rw [q10013]; exact flL_set q10011 (IntKind.i64.wrap ((gt d10 r5) + 1))) ?_
          have q10014 : d13.length = (((all.length : Nat) : Int)).toNat := by rw [q10013]; exact List.length_set.trans q9895
          refine .cast (A' := [Box pt [.int .i64 t.facts, .slice at_ t.init.length ct, .slice at_2 t.goal.length ct2, .slice at_3 t.ops.length ct3], OwnSl 3 1 a ((((all.length : Nat) : Int)).toNat) c (flL d13)]) rfl ?_
          refine .nil ?_
          refine .seqN ?_
          refine .region ?_
          refine .v (asg rfl) rfl rfl rfl ?_
          refine .nil ?_
          refine .blkN ?_
          exact .use q9987 (true, d13) ⟨hF, q10014⟩ (.cons rfl (.cons rfl (.cons rfl (.cons rfl (.cons rfl (.cons rfl (.nil))))))) rfl (le324)
        replace hF := hF.2 q10012
        refine .skip ?_
        refine .blkN ?_
        exact .use q9987 (again5, d10) ⟨hF, q9895⟩ (.cons rfl (.cons rfl (.cons rfl (.cons rfl (.cons rfl (.cons rfl (.nil))))))) rfl (le324)
      replace hF := hF.2 q9958
      refine .exit ?_
      refine .seqX ?_
      refine .seqX ?_
      refine .blkX ?_
      refine .blkN ?_
      refine .seqN ?_
      refine .region ?_
      refine .v (mv rfl) rfl rfl rfl ?_
      refine .v (bi rfl rfl rfl) rfl rfl rfl ?_
      refine .v (asg rfl) rfl rfl rfl ?_
      refine .nil ?_
      exact .round (again5, IntKind.i64.wrap (i3 + 1), d10) ⟨hF.1, q9895⟩ hF.2 (.cons rfl (.cons rfl (.cons rfl (.cons rfl (.cons rfl (.nil)))))) rfl (FH.le_refl _)
    replace hF := hF.2 q9474
    refine .exit ?_
    refine .seqX ?_
    refine .seqX ?_
    refine .blkX ?_
    refine .blkN ?_
    exact .round (again3, d8) ⟨hF.1, q8927⟩ hF.2 (.cons rfl (.cons rfl (.cons rfl (.cons rfl (.nil))))) rfl (FH.le_refl _)
  replace hF := hF.2 q8382
  refine .exit ?_
  refine .seqX ?_
  refine .seqX ?_
  refine .blkX ?_
  refine .seqN ?_
  refine .seq ?_
  refine .seq ?_
  refine .region ?_
  refine .v (mv rfl) rfl rfl rfl ?_
  obtain ⟨q10015, hF⟩ := hF
  refine .v (ixS rfl rfl tS22 (k := 1) rfl (inb_n q10015 q6743)) rfl rfl rfl ?_
  refine .v (ld1 (v := .int .i64 (gt d6 (0 : Int))) rfl tO3 (cellS (k := 1) rfl (flL_get q10015 (j := 0) rfl))) rfl rfl rfl ?_
  refine .v (bi rfl rfl rfl) rfl rfl rfl ?_
  refine .nil ?_
  refine .seqN ?_
  refine .cond rfl (fun q10017 => ?_) (fun q10017 => ?_)
  · replace hF := hF.1 q10017
    refine .seq ?_
    refine .region ?_
    refine .v (asg rfl) rfl rfl rfl ?_
    refine .v (asg rfl) rfl rfl rfl ?_
    refine .nil ?_
    refine .seqN ?_
    refine .ret ?_
    refine .seqR ?_
    refine .res2 rfl (rvT rfl) (rvT rfl) (fun w' S => ⟨(([] : List Int), false), (none, 0), h, hF, rfl, (FH.le_refl _), ⟨RSl.nil_, (Nat.le_refl 0)⟩, S.none⟩)
  replace hF := hF.2 q10017
  refine .skip ?_
  refine .seqN ?_
  refine .seq ?_
  refine .region ?_
  refine .v (asg rfl) rfl rfl rfl ?_
  refine .nil ?_
  refine .seqN ?_
  refine .seq ?_
  refine .seq ?_
  refine .region ?_
  refine .v (asg rfl) rfl rfl rfl ?_
  refine .nil ?_
  refine .seqN ?_
  refine .block ?_
  refine .nilSl 3 1 ?_
  refine .cast (A' := [OwnSl 3 1 none (([] : List Int).length) 0 (flL ([] : List Int)), Box pt [.int .i64 t.facts, .slice at_ t.init.length ct, .slice at_2 t.goal.length ct2, .slice at_3 t.ops.length ct3], OwnSl 3 1 a ((((all.length : Nat) : Int)).toNat) c (flL d6)]) rfl ?_
  refine .sel0 [1, 2, 0] (by decide) rfl ?_
  obtain ⟨I5, μ5, q11853, q11854⟩ := hF
  refine .loop' (σ := Int × List Int × Option Addr × Nat) (fun z => I5 z.1 z.2.1) (fun z => μ5 z.1 z.2.1) (fun z => [(1, .slice aall all.length call), (2, .pointer (some pt)), (6, .slice a ((((all.length : Nat) : Int)).toNat) c), (12, .slice z.2.2.1 z.2.1.length z.2.2.2), (13, .int .i64 z.1)]) (fun z => [Box pt [.int .i64 t.facts, .slice at_ t.init.length ct, .slice at_2 t.goal.length ct2, .slice at_3 t.ops.length ct3], OwnSl 3 1 a ((((all.length : Nat) : Int)).toNat) c (flL d6), OwnSl 3 1 z.2.2.1 z.2.1.length z.2.2.2 (flL z.2.1)]) (fun _ => h) (0, ([] : List Int), none, 0) q11853 (.cons rfl (.cons rfl (.cons rfl (.cons rfl (.cons rfl (.nil)))))) rfl (FH.le_refl _) ?_
  rintro ⟨i5, plan, aplan, cplan⟩ q11853
  have hF := q11854 i5 plan q11853
  show J _ _ _ _ _ [(1, .slice aall all.length call), (2, .pointer (some pt)), (6, .slice a ((((all.length : Nat) : Int)).toNat) c), (12, .slice aplan plan.length cplan), (13, .int .i64 i5)] [Box pt [.int .i64 t.facts, .slice at_ t.init.length ct, .slice at_2 t.goal.length ct2, .slice at_3 t.ops.length ct3], OwnSl 3 1 a ((((all.length : Nat) : Int)).toNat) c (flL d6), OwnSl 3 1 aplan plan.length cplan (flL plan)] h
  refine .seq ?_
  refine .seq ?_
  refine .region ?_
  refine .v (mv rfl) rfl rfl rfl ?_
  refine .v (mv rfl) rfl rfl rfl ?_
  obtain ⟨q11855, hF⟩ := hF
  refine .v (ixS rfl rfl tS22 (k := 1) rfl (inb_n q11855 q6743)) rfl rfl rfl ?_
  refine .v (ld1 (v := .int .i64 (gt d6 i5)) rfl tO3 (cellS (k := 1) rfl (flL_get q11855 (j := 0) rfl))) rfl rfl rfl ?_
  refine .v (bi rfl rfl rfl) rfl rfl rfl ?_
  refine .nil ?_
  refine .seqN ?_
  refine .cond rfl (fun q11857 => ?_) (fun q11857 => ?_)
  · replace hF := hF.1 q11857
    refine .skip ?_
    refine .seqN ?_
    refine .block ?_
    refine .seq ?_
    refine .region ?_
    refine .v (asg rfl) rfl rfl rfl ?_
    refine .nil ?_
    refine .seqN ?_
    refine .seq ?_
    refine .seq ?_
    refine .region ?_
    refine .v (asg rfl) rfl rfl rfl ?_
    refine .nil ?_
    refine .seqN ?_
    refine .block ?_
    obtain ⟨I6, μ6, q12160, q12161⟩ := hF
    refine .loop' (σ := Int × Int × List Int × Option Addr × Nat) (fun z => I6 z.1 z.2.1 z.2.2.1) (fun z => μ6 z.1 z.2.1 z.2.2.1) (fun z => [(1, .slice aall all.length call), (2, .pointer (some pt)), (6, .slice a ((((all.length : Nat) : Int)).toNat) c), (12, .slice z.2.2.2.1 z.2.2.1.length z.2.2.2.2), (13, .int .i64 i5), (14, .int .i64 z.1), (15, .int .i64 z.2.1)]) (fun z => [Box pt [.int .i64 t.facts, .slice at_ t.init.length ct, .slice at_2 t.goal.length ct2, .slice at_3 t.ops.length ct3], OwnSl 3 1 a ((((all.length : Nat) : Int)).toNat) c (flL d6), OwnSl 3 1 z.2.2.2.1 z.2.2.1.length z.2.2.2.2 (flL z.2.2.1)]) (fun _ => h) ((-1), 0, plan, aplan, cplan) q12160 (.cons rfl (.cons rfl (.cons rfl (.cons rfl (.cons rfl (.cons rfl (.cons rfl (.nil)))))))) rfl (FH.le_refl _) ?_
    rintro ⟨next, op3, plan3, aplan3, cplan3⟩ q12160
    have hF := q12161 next op3 plan3 q12160
    show J _ _ _ _ _ [(1, .slice aall all.length call), (2, .pointer (some pt)), (6, .slice a ((((all.length : Nat) : Int)).toNat) c), (12, .slice aplan3 plan3.length cplan3), (13, .int .i64 i5), (14, .int .i64 next), (15, .int .i64 op3)] [Box pt [.int .i64 t.facts, .slice at_ t.init.length ct, .slice at_2 t.goal.length ct2, .slice at_3 t.ops.length ct3], OwnSl 3 1 a ((((all.length : Nat) : Int)).toNat) c (flL d6), OwnSl 3 1 aplan3 plan3.length cplan3 (flL plan3)] h
    refine .seq ?_
    refine .share (σ := Bool) (fun z => F_conformant_J3 t all d6 z next plan op3 I6 μ6 plan3 i5 I5 μ5) (fun z => [(1, .slice aall all.length call), (2, .pointer (some pt)), (6, .slice a ((((all.length : Nat) : Int)).toNat) c), (12, .slice aplan3 plan3.length cplan3), (13, .int .i64 i5), (14, .int .i64 next), (15, .int .i64 op3), (109, .bool z)]) (fun _ => [Box pt [.int .i64 t.facts, .slice at_ t.init.length ct, .slice at_2 t.goal.length ct2, .slice at_3 t.ops.length ct3], OwnSl 3 1 a ((((all.length : Nat) : Int)).toNat) c (flL d6), OwnSl 3 1 aplan3 plan3.length cplan3 (flL plan3)]) (fun _ => h) ?_ (fun q12163 => ?_)
    · rintro t109 hF
      show J _ _ _ _ _ [(1, .slice aall all.length call), (2, .pointer (some pt)), (6, .slice a ((((all.length : Nat) : Int)).toNat) c), (12, .slice aplan3 plan3.length cplan3), (13, .int .i64 i5), (14, .int .i64 next), (15, .int .i64 op3), (109, .bool t109)] [Box pt [.int .i64 t.facts, .slice at_ t.init.length ct, .slice at_2 t.goal.length ct2, .slice at_3 t.ops.length ct3], OwnSl 3 1 a ((((all.length : Nat) : Int)).toNat) c (flL d6), OwnSl 3 1 aplan3 plan3.length cplan3 (flL plan3)] h
      refine .cond rfl (fun q12165 => ?_) (fun q12165 => ?_)
      · replace hF := hF.1 q12165
        refine .skip ?_
        refine .seqN ?_
        refine .share (σ := Int × List Int × Option Addr × Nat) (fun z => F_conformant_J4 next op3 I6 μ6 z.1 plan3 z.2.1) (fun z => [(1, .slice aall all.length call), (2, .pointer (some pt)), (6, .slice a ((((all.length : Nat) : Int)).toNat) c), (12, .slice z.2.2.1 z.2.1.length z.2.2.2), (13, .int .i64 i5), (14, .int .i64 z.1), (15, .int .i64 op3)]) (fun z => [Box pt [.int .i64 t.facts, .slice at_ t.init.length ct, .slice at_2 t.goal.length ct2, .slice at_3 t.ops.length ct3], OwnSl 3 1 a ((((all.length : Nat) : Int)).toNat) c (flL d6), OwnSl 3 1 z.2.2.1 z.2.1.length z.2.2.2 (flL z.2.1)]) (fun _ => h) ?_ (fun q12193 => ?_)
        · rintro ⟨next3, plan5, aplan5, cplan5⟩ hF
          show J _ _ _ _ _ [(1, .slice aall all.length call), (2, .pointer (some pt)), (6, .slice a ((((all.length : Nat) : Int)).toNat) c), (12, .slice aplan5 plan5.length cplan5), (13, .int .i64 i5), (14, .int .i64 next3), (15, .int .i64 op3)] [Box pt [.int .i64 t.facts, .slice at_ t.init.length ct, .slice at_2 t.goal.length ct2, .slice at_3 t.ops.length ct3], OwnSl 3 1 a ((((all.length : Nat) : Int)).toNat) c (flL d6), OwnSl 3 1 aplan5 plan5.length cplan5 (flL plan5)] h
          refine .region ?_
          refine .v (mv rfl) rfl rfl rfl ?_
          refine .v (bi rfl rfl rfl) rfl rfl rfl ?_
          refine .v (asg rfl) rfl rfl rfl ?_
          refine .nil ?_
          exact .round (next3, IntKind.i64.wrap (op3 + 1), plan5, aplan5, cplan5) hF.1 hF.2 (.cons rfl (.cons rfl (.cons rfl (.cons rfl (.cons rfl (.cons rfl (.cons rfl (.nil)))))))) rfl (FH.le_refl _)
        refine .block ?_
        refine .seq ?_
        refine .seq ?_
        refine .open_ (by kernel_rfl) (by kernel_rfl) ?_
        refine .v (mv rfl) rfl rfl rfl ?_
        refine .v (mv rfl) rfl rfl rfl ?_
        obtain ⟨q12194, hF⟩ := hF
        refine .v (ix rfl rfl tS32 (_q7.ne (by decide) (inb_pos q12194)) q12194) rfl rfl rfl ?_
        obtain ⟨_, ⟨a8, c8, rfl, q12195, q12196⟩, q12197⟩ := _q7.elem q12194
        refine .v (ld1 (v := .slice a8 ((gt all i5).length) c8) rfl tO35 (cellH (q12197 (by decide) 0 _ rfl))) rfl rfl rfl ?_
        refine .v (fa rfl tF25_3) rfl rfl rfl ?_
        refine .v (ld1 rfl tO23 (cellB (off := 3) (k := 0) rfl rfl)) rfl rfl rfl ?_
        refine .v (mv rfl) rfl rfl rfl ?_
        obtain ⟨q12198, hF⟩ := hF
        refine .v (ix rfl rfl tS23 (_q5.ne (by decide) (inb_pos q12198)) q12198) rfl rfl rfl ?_
        refine .v (fa rfl tF54_0) rfl rfl rfl ?_
        obtain ⟨_, ⟨a9, c9, a10, c10, a11, c11, rfl, ⟨q12199, q12200⟩, ⟨q12201, q12202⟩, q12203, q12204⟩, q12205⟩ := _q5.elem q12198
        refine .v (ld1 (v := .slice a9 ((gt t.ops op3).pre.length) c9) rfl tO22 (cellH (q12205 (by decide) 0 _ rfl))) rfl rfl rfl ?_
        obtain ⟨q12206, hF⟩ := hF
        obtain ⟨r6, q12207⟩ : ∃ y_ : Bool, y_ = sp_allHold (gt all i5) ((gt t.ops op3).pre) := ⟨_, rfl⟩
        replace hF := hF r6 q12207
        refine .c (cl (v := .bool r6) Tryz.call27 rfl rfl (fun w S => (by rw [q12207]; exact c_allHold S.sub (gt all i5) a8 c8 q12196 q12195 ((gt t.ops op3).pre) a9 c9 q12200 q12199 q12206))) rfl rfl rfl ?_
        refine .v (nt rfl) rfl rfl rfl ?_
        refine .fin ?_
        refine .seqN ?_
        refine .cond rfl (fun q12209 => ?_) (fun q12209 => ?_)
        · replace hF := hF.1 q12209
          refine .exit ?_
          refine .seqX ?_
          refine .blkX ?_
          exact .use q12193 (next, plan3, aplan3, cplan3) hF (.cons rfl (.cons rfl (.cons rfl (.cons rfl (.cons rfl (.cons rfl (.cons rfl (.nil)))))))) rfl (FH.le_refl _)
        replace hF := hF.2 q12209
        refine .skip ?_
        refine .seqN ?_
        refine .seq ?_
        refine .openA (s0 := [(1, .slice aall all.length call), (2, .pointer (some pt)), (6, .slice a ((((all.length : Nat) : Int)).toNat) c), (12, .slice aplan3 plan3.length cplan3), (13, .int .i64 i5), (14, .int .i64 next), (15, .int .i64 op3)]) [0, 1, 2, 3, 4, 5, 6] [(0, .slice aall all.length call), (1, .agg #[.int .i64 t.facts, .slice at_ t.init.length ct, .slice at_2 t.goal.length ct2, .slice at_3 t.ops.length ct3]), (2, .slice aall all.length call), (3, .int .i64 i5), (4, .pointer (some (ead aall (i5.toNat * 1)))), (5, .slice a8 ((gt all i5).length) c8), (6, .int .i64 op3)] (by kernel_rfl) (.cons rfl (.cons rfl (.cons rfl (.cons rfl (.cons rfl (.cons rfl (.cons rfl (.nil)))))))) [1, 2, 6, 12, 13, 14, 15] [] rfl (by kernel_rfl) ?_
        refine .step [7] 7 rfl (by kernel_rfl) (by kernel_rfl) (.v [] rfl rfl rfl rfl rfl rfl (fun _ => mv rfl) (.v [] rfl rfl rfl rfl rfl rfl (fun _ => ldA (cs := [.int .i64 t.facts, .slice at_ t.init.length ct, .slice at_2 t.goal.length ct2, .slice at_3 t.ops.length ct3]) rfl tA25 rfl (cellsB (off := 0) (k := 0) rfl (m := 4) rfl)) (.v [] rfl rfl rfl rfl rfl rfl (fun _ => mv rfl) (.v [] rfl rfl rfl rfl rfl rfl (fun _ => mv rfl) (.v [(126, .slice aall all.length call), (127, .int .i64 i5)] rfl rfl rfl rfl rfl rfl (fun _ => ix rfl rfl tS32 (_q7.ne (by decide) (inb_pos q12194)) q12194) (.v [(128, .pointer (some (ead aall (i5.toNat * 1))))] rfl rfl rfl rfl rfl rfl (fun _ => ld1 (v := .slice a8 ((gt all i5).length) c8) rfl tO35 (cellH (q12197 (by decide) 0 _ rfl))) (.v [] rfl rfl rfl rfl rfl rfl (fun _ => mv rfl) (.nil)))))))) (.cons [(125, .agg #[.int .i64 t.facts, .slice at_ t.init.length ct, .slice at_2 t.goal.length ct2, .slice at_3 t.ops.length ct3]), (129, .slice a8 ((gt all i5).length) c8), (130, .int .i64 op3)] rfl rfl (fun sL hL => ?_) (.nil))
        obtain ⟨q12210, hF⟩ := hF
        obtain ⟨r7, q12211⟩ : ∃ y_ : List (List Int), y_ = sp_afterAll t (gt all i5) op3 := ⟨_, rfl⟩
        replace hF := hF r7 q12211
        refine clR (α := Option Addr × Nat) (Φ := fun h1 z => RSl h1 z.1 r7 ∧ r7.length ≤ z.2) (V := fun z => .slice z.1 r7.length z.2) Tryz.call28 rfl rfl (fun w S => (by rw [q12211]; exact c_afterAll S.sub t at_ ct _q1 _q2 at_2 ct2 _q3 _q4 at_3 ct3 _q5 _q6 (gt all i5) a8 c8 q12196 q12195 op3 q12210)) rfl (fun z h396 le396 hz => ?_)
        obtain ⟨a12, c12⟩ := z
        obtain ⟨q12212, q12213⟩ := hz
        refine .nil ?_
        obtain ⟨q12214, hF⟩ := hF
        obtain ⟨r8, q12215⟩ : ∃ y_ : Int, y_ = sp_placeOf all r7 := ⟨_, rfl⟩
        replace hF := hF r8 q12215
        refine .ja (M := [1, 5, 6, 4, 2, 3]) (C' := [0, 8, 9]) (pre := [(7, .slice a12 r7.length c12), (8, .int .i64 r8), (9, .int .i64 r8)]) [(1, .slice aall all.length call), (2, .pointer (some pt)), (6, .slice a ((((all.length : Nat) : Int)).toNat) c), (12, .slice aplan3 plan3.length cplan3), (13, .int .i64 i5), (14, .int .i64 next), (15, .int .i64 op3)] [1, 2, 6, 12, 13, 14, 15] hL rfl rfl rfl rfl rfl (.cons rfl (.cons rfl (.cons rfl (.cons rfl (.cons rfl (.cons rfl (.cons rfl (.nil)))))))) rfl rfl (by kernel_rfl) ?_
        refine .last [(124, .slice aall all.length call), (125, .agg #[.int .i64 t.facts, .slice at_ t.init.length ct, .slice at_2 t.goal.length ct2, .slice at_3 t.ops.length ct3]), (126, .slice aall all.length call), (127, .int .i64 i5), (128, .pointer (some (ead aall (i5.toNat * 1)))), (129, .slice a8 ((gt all i5).length) c8), (130, .int .i64 op3), (131, .slice a12 r7.length c12), (132, .int .i64 r8), (16, .int .i64 r8)] rfl (by kernel_rfl) (.v [] rfl rfl rfl rfl rfl rfl (fun _ => mv rfl) (.c [(124, .slice aall all.length call), (131, .slice a12 r7.length c12), (131, .slice a12 r7.length c12)] rfl rfl rfl rfl rfl rfl (fun _ => cl (v := .int .i64 r8) Tryz.call56 rfl rfl (fun w S => (by rw [q12215]; exact c_placeOf S.sub all aall call (_q7.mono (le396)) _q8 r7 a12 c12 q12212 q12213 q12214))) (.v [(132, .int .i64 r8), (132, .int .i64 r8), (124, .slice aall all.length call), (125, .agg #[.int .i64 t.facts, .slice at_ t.init.length ct, .slice at_2 t.goal.length ct2, .slice at_3 t.ops.length ct3]), (126, .slice aall all.length call), (127, .int .i64 i5), (128, .pointer (some (ead aall (i5.toNat * 1)))), (129, .slice a8 ((gt all i5).length) c8), (130, .int .i64 op3), (131, .slice a12 r7.length c12), (132, .int .i64 r8)] rfl rfl rfl rfl rfl rfl (fun _ => asg rfl) (.nil)))) rfl ?_
        refine .seqN ?_
        refine .seq ?_
        refine .open_ (by kernel_rfl) (by kernel_rfl) ?_
        refine .v (mv rfl) rfl rfl rfl ?_
        refine .v (mv rfl) rfl rfl rfl ?_
        obtain ⟨q12216, hF⟩ := hF
        refine .v (ixS rfl rfl tS22 (k := 1) rfl (inb_n q12216 q6743)) rfl rfl rfl ?_
        refine .v (ld1 (v := .int .i64 (gt d6 r8)) rfl tO3 (cellS (k := 1) rfl (flL_get q12216 (j := 0) rfl))) rfl rfl rfl ?_
        refine .v (mv rfl) rfl rfl rfl ?_
        refine .v (mv rfl) rfl rfl rfl ?_
        refine .v (ixS rfl rfl tS22 (k := 1) rfl (inb_n q11855 q6743)) rfl rfl rfl ?_
        refine .v (ld1 (v := .int .i64 (gt d6 i5)) rfl tO3 (cellS (k := 1) rfl (flL_get q11855 (j := 0) rfl))) rfl rfl rfl ?_
        refine .v (bi rfl rfl rfl) rfl rfl rfl ?_
        refine .v (bi rfl rfl rfl) rfl rfl rfl ?_
        refine .fin ?_
        refine .seqN ?_
        refine .cond rfl (fun q12217 => ?_) (fun q12217 => ?_)
        · replace hF := hF.1 q12217
          refine .seq ?_
          refine .region ?_
          refine .v (mv rfl) rfl rfl rfl ?_
          refine .v (asg rfl) rfl rfl rfl ?_
          refine .nil ?_
          refine .seqN ?_
          refine .region ?_
          refine .v (mv rfl) rfl rfl rfl ?_
          refine .v (mv rfl) rfl rfl rfl ?_
          refine bs2 (cs := #[.int .i64 op3]) (pv := [(0, .int .i64 op3)]) tS22 rfl rfl (by decide) (by decide) rfl rfl rfl (fun a13 _ => ?_)
          refine .cast (A' := [OwnSl 3 1 a13 (([op3] : List Int).length) 1 (flL ([op3] : List Int)), Box pt [.int .i64 t.facts, .slice at_ t.init.length ct, .slice at_2 t.goal.length ct2, .slice at_3 t.ops.length ct3], OwnSl 3 1 a ((((all.length : Nat) : Int)).toNat) c (flL d6), OwnSl 3 1 aplan3 plan3.length cplan3 (flL plan3)]) rfl ?_
          obtain ⟨q12219, hF⟩ := hF
          have q12220 : plan3.length + ([op3] : List Int).length = ((plan3 ++ ([op3] : List Int))).length := len_app rfl rfl
          refine app (k := 3) (news := flL ([op3] : List Int)) (cs' := flL (plan3 ++ ([op3] : List Int))) (nm := ((plan3 ++ ([op3] : List Int))).length) tS22 rfl (by decide) rfl rfl rfl (by rw [flL_len]; rfl) (srcS (k := 0) rfl) (flL_one _) (room_of q12220 q12219).1 (room_of q12220 q12219).2 q12220 (flL_append _ _).symm rfl (fun a14 c13 => ?_)
          refine .cast (A' := [OwnSl 3 1 a13 (([op3] : List Int).length) 1 (flL ([op3] : List Int)), Box pt [.int .i64 t.facts, .slice at_ t.init.length ct, .slice at_2 t.goal.length ct2, .slice at_3 t.ops.length ct3], OwnSl 3 1 a ((((all.length : Nat) : Int)).toNat) c (flL d6), OwnSl 3 1 a14 ((plan3 ++ ([op3] : List Int)).length) c13 (flL (plan3 ++ ([op3] : List Int)))]) rfl ?_
          refine .v (asg rfl) rfl rfl rfl ?_
          refine .nil ?_
          refine .blkN ?_
          refine .sel0 [1, 2, 3] (by decide) rfl ?_
          exact .use q12193 (r8, (plan3 ++ ([op3] : List Int)), a14, c13) hF (.cons rfl (.cons rfl (.cons rfl (.cons rfl (.cons rfl (.cons rfl (.cons rfl (.nil)))))))) rfl (le396)
        replace hF := hF.2 q12217
        refine .skip ?_
        refine .blkN ?_
        exact .use q12193 (next, plan3, aplan3, cplan3) hF (.cons rfl (.cons rfl (.cons rfl (.cons rfl (.cons rfl (.cons rfl (.cons rfl (.nil)))))))) rfl (le396)
      replace hF := hF.2 q12165
      refine .exit ?_
      refine .seqX ?_
      refine .seqX ?_
      refine .blkX ?_
      refine .seqN ?_
      refine .region ?_
      refine .v (mv rfl) rfl rfl rfl ?_
      refine .v (asg rfl) rfl rfl rfl ?_
      refine .nil ?_
      refine .blkN ?_
      exact .round (next, plan3, aplan3, cplan3) hF.1 hF.2 (.cons rfl (.cons rfl (.cons rfl (.cons rfl (.cons rfl (.nil)))))) rfl (FH.le_refl _)
    refine .region ?_
    refine .v (mv rfl) rfl rfl rfl ?_
    refine .v (fa rfl tF25_3) rfl rfl rfl ?_
    refine .v (ld1 rfl tO23 (cellB (off := 3) (k := 0) rfl rfl)) rfl rfl rfl ?_
    refine .v (ln rfl tS23.is) rfl rfl rfl ?_
    refine .v (bi rfl rfl rfl) rfl rfl rfl ?_
    refine .v (mv rfl) rfl rfl rfl ?_
    rcases Bool.eq_false_or_eq_true (decide (op3 < ((t.ops.length : Nat) : Int))) with q12221 | q12221
    · replace hF := hF.1 q12221
      refine .gv (mv rfl) rfl rfl rfl q12221 rfl rfl ?_
      refine .gv (bi rfl rfl rfl) rfl rfl rfl q12221 rfl rfl ?_
      refine .v (pkT rfl q12221 rfl) rfl rfl rfl ?_
      refine .nil ?_
      exact .use q12163 (decide (next < 0)) hF (.cons rfl (.cons rfl (.cons rfl (.cons rfl (.cons rfl (.cons rfl (.cons rfl (.cons rfl (.nil))))))))) rfl (FH.le_refl _)
    replace hF := hF.2 q12221
    refine .gS rfl rfl rfl q12221 rfl rfl ?_
    refine .gS rfl rfl rfl q12221 rfl rfl ?_
    refine .v (pkF rfl q12221 rfl) rfl rfl rfl ?_
    refine .nil ?_
    exact .use q12163 false hF (.cons rfl (.cons rfl (.cons rfl (.cons rfl (.cons rfl (.cons rfl (.cons rfl (.cons rfl (.nil))))))))) rfl (FH.le_refl _)
  replace hF := hF.2 q11857
  refine .exit ?_
  refine .seqX ?_
  refine .seqX ?_
  refine .blkX ?_
  refine .seqN ?_
  refine .seq ?_
  refine .region ?_
  refine .v (mv rfl) rfl rfl rfl ?_
  refine .v (asg rfl) rfl rfl rfl ?_
  refine .v (asg rfl) rfl rfl rfl ?_
  refine .nil ?_
  refine .seqN ?_
  refine .freezeL (k := 2) rfl (fun h397 le397 q12223 q12222 => ?_)
  refine .cast (A' := [Box pt [.int .i64 t.facts, .slice at_ t.init.length ct, .slice at_2 t.goal.length ct2, .slice at_3 t.ops.length ct3], OwnSl 3 1 a ((((all.length : Nat) : Int)).toNat) c (flL d6), tru]) rfl ?_
  refine .ret ?_
  refine .res2 rfl (rvT rfl) (rvT rfl) (fun w' S => ⟨(plan, true), (aplan, cplan), h397, hF, rfl, (le397), ⟨(RSl.of q12222), (q12223)⟩, S.none⟩)

theorem c_conformant {h : FH} {w : World} (hs : Sub h w) (t : Task) (at_ : Option Addr) (ct : Nat) (_q1 : RSl h at_ t.init) (_q2 : t.init.length ≤ ct) (at_2 : Option Addr) (ct2 : Nat) (_q3 : RSl h at_2 t.goal) (_q4 : t.goal.length ≤ ct2) (at_3 : Option Addr) (ct3 : Nat) (_q5 : RSl h at_3 t.ops) (_q6 : t.ops.length ≤ ct3) (all : List (List (List Int))) (aall : Option Addr) (call : Nat) (_q7 : RSl h aall all) (_q8 : all.length ≤ call) (hp : pre_conformant t all) : Calls Tryz.prog 17 #[.agg #[.int .i64 t.facts, .slice at_ t.init.length ct, .slice at_2 t.goal.length ct2, .slice at_3 t.ops.length ct3], .slice aall all.length call] w fun e w' => ∃ (z : Option Addr × Nat) (h1 : FH), e = .returned (.tuple #[.slice z.1 (sp_conformant t all).1.length z.2, .bool (sp_conformant t all).2]) ∧ FH.le h h1 ∧ (RSl h1 z.1 (sp_conformant t all).1 ∧ (sp_conformant t all).1.length ≤ z.2) ∧ SH (Kp.all w h) h1 w' [] :=
  (w_conformant hs t at_ ct _q1 _q2 at_2 ct2 _q3 _q4 at_3 ct3 _q5 _q6 all aall call _q7 _q8 (fun r => r = sp_conformant t all) (ok_conformant t all hp)).mono fun _ _ ⟨r, z, h1, hk, he, hl, hf, hS⟩ => by subst hk; exact ⟨z, h1, he, hl, hf, hS⟩

end Go.Proofs.YtojoehfldbimpaaGreatDoor.Pl

