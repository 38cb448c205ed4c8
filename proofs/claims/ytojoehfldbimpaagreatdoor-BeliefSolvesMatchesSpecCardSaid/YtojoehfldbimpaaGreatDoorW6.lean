/- The walks: from what each function asks to what it does; printed from the code. No condition. -/
import Derived.Test.YtojoehfldbimpaaGreatDoorW5
namespace Go.Proofs.YtojoehfldbimpaaGreatDoor.Pl
open Go Go.RowKit
theorem w_sets {h : FH} {w : World} (hs : Sub h w) (a : List (List Int)) (aa : Option Addr) (ca : Nat) (_q1 : RSl h aa a) (_q2 : a.length ≤ ca) (b : List (List Int)) (ab : Option Addr) (cb : Nat) (_q3 : RSl h ab b) (_q4 : b.length ≤ cb) (K : Bool → Prop) (hF : F_sets a b K) : Calls Tryz.prog 23 #[.slice aa a.length ca, .slice ab b.length cb] w fun e w' => ∃ r : Bool, K r ∧ e = .returned (.bool r) ∧ Below w.heap.size w w' := by
  refine enter (args := [.slice aa a.length ca, .slice ab b.length cb]) Tryz.func23 rfl Tryz.ntmps23 rfl hs ?_
  refine .seq ?_
  refine .region ?_
  refine .v (asg rfl) rfl rfl rfl ?_
  refine .nil ?_
  refine .seqN ?_
  refine .seq ?_
  refine .seq ?_
  refine .region ?_
  refine .v (mv rfl) rfl rfl rfl ?_
  refine .v (ln rfl tS35.is) rfl rfl rfl ?_
  refine .v (mv rfl) rfl rfl rfl ?_
  refine .v (ln rfl tS35.is) rfl rfl rfl ?_
  refine .v (bi rfl rfl rfl) rfl rfl rfl ?_
  refine .nil ?_
  refine .seqN ?_
  refine .cond rfl (fun q6 => ?_) (fun q6 => ?_)
  · replace hF := hF.1 q6
    refine .seq ?_
    refine .region ?_
    refine .v (asg rfl) rfl rfl rfl ?_
    refine .nil ?_
    refine .seqN ?_
    refine .ret ?_
    refine .seqR ?_
    refine .res1 rfl (rvT rfl) (fun w' S => ⟨false, hF, rfl, S.below⟩)
  replace hF := hF.2 q6
  refine .skip ?_
  refine .seqN ?_
  refine .seq ?_
  refine .seq ?_
  refine .region ?_
  refine .v (asg rfl) rfl rfl rfl ?_
  refine .nil ?_
  refine .seqN ?_
  refine .block ?_
  obtain ⟨I1, μ1, q184, q185⟩ := hF
  refine .loop' (σ := Int) (fun z => I1 z) (fun z => μ1 z) (fun z => [(0, .slice aa a.length ca), (1, .slice ab b.length cb), (5, .int .i64 z)]) (fun _ => []) (fun _ => h) 0 q184 (.cons rfl (.cons rfl (.cons rfl (.nil)))) rfl (FH.le_refl _) ?_
  rintro i q184
  have hF := q185 i q184
  show J _ _ _ _ _ [(0, .slice aa a.length ca), (1, .slice ab b.length cb), (5, .int .i64 i)] [] h
  refine .seq ?_
  refine .seq ?_
  refine .region ?_
  refine .v (mv rfl) rfl rfl rfl ?_
  refine .v (mv rfl) rfl rfl rfl ?_
  refine .v (ln rfl tS35.is) rfl rfl rfl ?_
  refine .v (bi rfl rfl rfl) rfl rfl rfl ?_
  refine .nil ?_
  refine .seqN ?_
  refine .cond rfl (fun q187 => ?_) (fun q187 => ?_)
  · replace hF := hF.1 q187
    refine .skip ?_
    refine .seqN ?_
    refine .seq ?_
    refine .block ?_
    refine .seq ?_
    refine .open_ (by kernel_rfl) (by kernel_rfl) ?_
    refine .v (mv rfl) rfl rfl rfl ?_
    refine .v (mv rfl) rfl rfl rfl ?_
    obtain ⟨q210, hF⟩ := hF
    refine .v (ix rfl rfl tS35 (_q1.ne (by decide) (inb_pos q210)) q210) rfl rfl rfl ?_
    obtain ⟨_, ⟨a2, c, rfl, q211, q212⟩, q213⟩ := _q1.elem q210
    refine .v (ld1 (v := .slice a2 ((gt a i).length) c) rfl tO22 (cellH (q213 (by decide) 0 _ rfl))) rfl rfl rfl ?_
    refine .v (mv rfl) rfl rfl rfl ?_
    refine .v (mv rfl) rfl rfl rfl ?_
    obtain ⟨q214, hF⟩ := hF
    refine .v (ix rfl rfl tS35 (_q3.ne (by decide) (inb_pos q214)) q214) rfl rfl rfl ?_
    obtain ⟨_, ⟨a3, c2, rfl, q215, q216⟩, q217⟩ := _q3.elem q214
    refine .v (ld1 (v := .slice a3 ((gt b i).length) c2) rfl tO22 (cellH (q217 (by decide) 0 _ rfl))) rfl rfl rfl ?_
    obtain ⟨q218, hF⟩ := hF
    obtain ⟨r2, q219⟩ : ∃ y_ : Bool, y_ = sp_numbers (gt a i) (gt b i) := ⟨_, rfl⟩
    replace hF := hF r2 q219
    refine .c (cl (v := .bool r2) Tryz.call19 rfl rfl (fun w S => (by rw [q219]; exact c_numbers S.sub (gt a i) a2 c q212 q211 (gt b i) a3 c2 q216 q215 q218))) rfl rfl rfl ?_
    refine .v (nt rfl) rfl rfl rfl ?_
    refine .fin ?_
    refine .seqN ?_
    refine .cond rfl (fun q220 => ?_) (fun q220 => ?_)
    · replace hF := hF.1 q220
      refine .seq ?_
      refine .region ?_
      refine .v (asg rfl) rfl rfl rfl ?_
      refine .nil ?_
      refine .seqN ?_
      refine .ret ?_
      refine .blkR ?_
      refine .seqR ?_
      refine .seqR ?_
      refine .blkR ?_
      refine .seqR ?_
      refine .res1 rfl (rvT rfl) (fun w' S => ⟨false, hF, rfl, S.below⟩)
    replace hF := hF.2 q220
    refine .skip ?_
    refine .blkN ?_
    refine .seqN ?_
    refine .region ?_
    refine .v (mv rfl) rfl rfl rfl ?_
    refine .v (bi rfl rfl rfl) rfl rfl rfl ?_
    refine .v (asg rfl) rfl rfl rfl ?_
    refine .nil ?_
    exact .round (IntKind.i64.wrap (i + 1)) hF.1 hF.2 (.cons rfl (.cons rfl (.cons rfl (.nil)))) rfl (FH.le_refl _)
  replace hF := hF.2 q187
  refine .exit ?_
  refine .seqX ?_
  refine .seqX ?_
  refine .blkX ?_
  refine .seqN ?_
  refine .seq ?_
  refine .region ?_
  refine .v (asg rfl) rfl rfl rfl ?_
  refine .nil ?_
  refine .seqN ?_
  refine .ret ?_
  refine .res1 rfl (rvT rfl) (fun w' S => ⟨true, hF, rfl, S.below⟩)

theorem c_sets {h : FH} {w : World} (hs : Sub h w) (a : List (List Int)) (aa : Option Addr) (ca : Nat) (_q1 : RSl h aa a) (_q2 : a.length ≤ ca) (b : List (List Int)) (ab : Option Addr) (cb : Nat) (_q3 : RSl h ab b) (_q4 : b.length ≤ cb) (hp : pre_sets a b) : Calls Tryz.prog 23 #[.slice aa a.length ca, .slice ab b.length cb] w fun e w' => e = .returned (.bool (sp_sets a b)) ∧ Below w.heap.size w w' :=
  (w_sets hs a aa ca _q1 _q2 b ab cb _q3 _q4 (fun r => r = sp_sets a b) (ok_sets a b hp)).mono fun _ _ ⟨_, hk, he, hb⟩ => ⟨by rw [he, hk], hb⟩

theorem w_able {h : FH} {w : World} (hs : Sub h w) (K : Task → Prop) (hF : F_able  K) : Calls Tryz.prog 54 #[] w fun e w' => ∃ (r : Task) (z : Option Addr × Nat × Option Addr × Nat × Option Addr × Nat) (h1 : FH), K r ∧ e = .returned (.agg #[.int .i64 r.facts, .slice z.1 r.init.length z.2.1, .slice z.2.2.1 r.goal.length z.2.2.2.1, .slice z.2.2.2.2.1 r.ops.length z.2.2.2.2.2]) ∧ FH.le h h1 ∧ (RSl h1 z.1 r.init ∧ r.init.length ≤ z.2.1 ∧ RSl h1 z.2.2.1 r.goal ∧ r.goal.length ≤ z.2.2.2.1 ∧ RSl h1 z.2.2.2.2.1 r.ops ∧ r.ops.length ≤ z.2.2.2.2.2) ∧ SH (Kp.all w h) h1 w' [] := by
  refine enter (args := []) Tryz.func54 rfl Tryz.ntmps54 rfl hs ?_
  refine .seq ?_
  refine .region ?_
  refine al tZ25 rfl (fun pv => ?_)
  refine .nil ?_
  refine .seqN ?_
  refine .seq ?_
  refine .region ?_
  refine bs2 (cs := #[.int .i64 0]) (pv := [(0, .int .i64 0)]) tS22 rfl rfl (by decide) (by decide) rfl rfl rfl (fun a _ => ?_)
  refine .cast (A' := [OwnSl 3 1 a (([0] : List Int).length) 1 (flL ([0] : List Int)), Box pv [.int .i64 0, .slice none 0 0, .slice none 0 0, .slice none 0 0]]) rfl ?_
  refine bs2 (cs := #[.int .i64 0]) (pv := [(0, .int .i64 0)]) tS22 rfl rfl (by decide) (by decide) rfl rfl rfl (fun a2 _ => ?_)
  refine .cast (A' := [OwnSl 3 1 a2 (([0] : List Int).length) 1 (flL ([0] : List Int)), OwnSl 3 1 a (([0] : List Int).length) 1 (flL ([0] : List Int)), Box pv [.int .i64 0, .slice none 0 0, .slice none 0 0, .slice none 0 0]]) rfl ?_
  refine .v (bld (cs := #[.slice none 0 0, .slice a2 (([0] : List Int).length) 1, .slice none 0 0, .int .i64 1]) (pv := [(1, .slice a2 (([0] : List Int).length) 1), (3, .int .i64 1)]) tB54 rfl rfl) rfl rfl rfl ?_
  refine .freezeL (k := 0) rfl (fun h1 le1 q4 q3 => ?_)
  refine .cast (A' := [tru, OwnSl 3 1 a (([0] : List Int).length) 1 (flL ([0] : List Int)), Box pv [.int .i64 0, .slice none 0 0, .slice none 0 0, .slice none 0 0]]) rfl ?_
  refine bs2 (cs := #[.slice none 0 0, .slice a2 (([0] : List Int).length) 1, .slice none 0 0, .int .i64 1]) (pv := [(0, .agg #[.slice none 0 0, .slice a2 (([0] : List Int).length) 1, .slice none 0 0, .int .i64 1])]) tS23 rfl rfl (by decide) (by decide) rfl rfl rfl (fun a3 _ => ?_)
  refine .cast (A' := [OwnSl 54 4 a3 (([(⟨[], ([0] : List Int), [], 1⟩ : Operator)] : List Operator).length) 1 [.slice none 0 0, .slice a2 (([0] : List Int).length) 1, .slice none 0 0, .int .i64 1], tru, OwnSl 3 1 a (([0] : List Int).length) 1 (flL ([0] : List Int)), Box pv [.int .i64 0, .slice none 0 0, .slice none 0 0, .slice none 0 0]]) rfl ?_
  refine .v (bld (cs := #[.int .i64 1, .slice none 0 0, .slice a (([0] : List Int).length) 1, .slice a3 (([(⟨[], ([0] : List Int), [], 1⟩ : Operator)] : List Operator).length) 1]) (pv := [(0, .int .i64 1), (2, .slice a (([0] : List Int).length) 1), (3, .slice a3 (([(⟨[], ([0] : List Int), [], 1⟩ : Operator)] : List Operator).length) 1)]) tB25 rfl rfl) rfl rfl rfl ?_
  refine st (p := pv) (off := 0) (k := 3) (vs := [.int .i64 1, .slice none 0 0, .slice a (([0] : List Int).length) 1, .slice a3 (([(⟨[], ([0] : List Int), [], 1⟩ : Operator)] : List Operator).length) 1]) rfl rfl rfl (fun w => (tA25 w).2) rfl rfl rfl rfl ?_
  refine .cast (A' := [OwnSl 54 4 a3 (([(⟨[], ([0] : List Int), [], 1⟩ : Operator)] : List Operator).length) 1 [.slice none 0 0, .slice a2 (([0] : List Int).length) 1, .slice none 0 0, .int .i64 1], tru, OwnSl 3 1 a (([0] : List Int).length) 1 (flL ([0] : List Int)), Box pv [.int .i64 1, .slice none 0 0, .slice a (([0] : List Int).length) 1, .slice a3 (([(⟨[], ([0] : List Int), [], 1⟩ : Operator)] : List Operator).length) 1]]) rfl ?_
  refine .nil ?_
  refine .seqN ?_
  refine .freezeL (k := 0) rfl (fun h2 le2 q7 q6 => ?_)
  refine .cast (A' := [tru, tru, OwnSl 3 1 a (([0] : List Int).length) 1 (flL ([0] : List Int)), Box pv [.int .i64 1, .slice none 0 0, .slice a (([0] : List Int).length) 1, .slice a3 (([(⟨[], ([0] : List Int), [], 1⟩ : Operator)] : List Operator).length) 1]]) rfl ?_
  refine .freezeL (k := 2) rfl (fun h3 le3 q9 q8 => ?_)
  refine .cast (A' := [tru, tru, tru, Box pv [.int .i64 1, .slice none 0 0, .slice a (([0] : List Int).length) 1, .slice a3 (([(⟨[], ([0] : List Int), [], 1⟩ : Operator)] : List Operator).length) 1]]) rfl ?_
  refine .ret ?_
  refine .res1 rfl (rvC rfl tA25 (k := 3) rfl rfl) (fun w' S => ⟨(⟨1, [], ([0] : List Int), ([(⟨[], ([0] : List Int), [], 1⟩ : Operator)] : List Operator)⟩ : Task), (none, 0, a, 1, a3, 1), h3, hF, rfl, (FH.le_trans (FH.le_trans (le1) (le2)) (le3)), ⟨RSl.nil_, (Nat.le_refl 0), (RSl.of q8), (q9), ((show RSl h2 a3 ([(⟨[], ([0] : List Int), [], 1⟩ : Operator)] : List Operator) from ⟨_, (show RepL h1 ([(⟨[], ([0] : List Int), [], 1⟩ : Operator)] : List Operator) [.slice none 0 0, .slice a2 (([0] : List Int).length) 1, .slice none 0 0, .int .i64 1] from ⟨[.slice none 0 0, .slice a2 (([0] : List Int).length) 1, .slice none 0 0, .int .i64 1], _, rfl, ⟨none, 0, a2, 1, none, 0, rfl, ⟨Nat.le_refl 0, RSl.nil_⟩, ⟨(q4), (RSl.of q3)⟩, ⟨Nat.le_refl 0, RSl.nil_⟩⟩, rfl⟩).mono (le2), q6⟩).mono (le3)), (q7)⟩, S.none⟩)

theorem c_able {h : FH} {w : World} (hs : Sub h w) : Calls Tryz.prog 54 #[] w fun e w' => ∃ (z : Option Addr × Nat × Option Addr × Nat × Option Addr × Nat) (h1 : FH), e = .returned (.agg #[.int .i64 (sp_able).facts, .slice z.1 (sp_able).init.length z.2.1, .slice z.2.2.1 (sp_able).goal.length z.2.2.2.1, .slice z.2.2.2.2.1 (sp_able).ops.length z.2.2.2.2.2]) ∧ FH.le h h1 ∧ (RSl h1 z.1 (sp_able).init ∧ (sp_able).init.length ≤ z.2.1 ∧ RSl h1 z.2.2.1 (sp_able).goal ∧ (sp_able).goal.length ≤ z.2.2.2.1 ∧ RSl h1 z.2.2.2.2.1 (sp_able).ops ∧ (sp_able).ops.length ≤ z.2.2.2.2.2) ∧ SH (Kp.all w h) h1 w' [] :=
  (w_able hs  (fun r => r = sp_able) (ok_able )).mono fun _ _ ⟨r, z, h1, hk, he, hl, hf, hS⟩ => by subst hk; exact ⟨z, h1, he, hl, hf, hS⟩

theorem w_succ {h : FH} {w : World} (hs : Sub h w) (t : Task) (at_ : Option Addr) (ct : Nat) (_q1 : RSl h at_ t.init) (_q2 : t.init.length ≤ ct) (at_2 : Option Addr) (ct2 : Nat) (_q3 : RSl h at_2 t.goal) (_q4 : t.goal.length ≤ ct2) (at_3 : Option Addr) (ct3 : Nat) (_q5 : RSl h at_3 t.ops) (_q6 : t.ops.length ≤ ct3) (worlds : List (List Int)) (aworlds : Option Addr) (cworlds : Nat) (_q7 : RSl h aworlds worlds) (_q8 : worlds.length ≤ cworlds) (K : Unit → Prop) (hF : F_succ t worlds K) : Calls Tryz.prog 81 #[.agg #[.int .i64 t.facts, .slice at_ t.init.length ct, .slice at_2 t.goal.length ct2, .slice at_3 t.ops.length ct3], .slice aworlds worlds.length cworlds] w fun e w' => ∃ (r : Unit) (z : Addr × Addr) (h1 : FH), K r ∧ e = .returned (.func (.func 103) #[] #[.pointer (some z.1), .pointer (some z.2)]) ∧ FH.le h h1 ∧ (CellsAt h1 z.1 [.int .i64 t.facts, .slice at_ t.init.length ct, .slice at_2 t.goal.length ct2, .slice at_3 t.ops.length ct3] ∧ CellsAt h1 z.2 [.slice aworlds worlds.length cworlds]) ∧ SH (Kp.all w h) h1 w' [] := by
  refine enter (args := [.agg #[.int .i64 t.facts, .slice at_ t.init.length ct, .slice at_2 t.goal.length ct2, .slice at_3 t.ops.length ct3], .slice aworlds worlds.length cworlds]) Tryz.func81 rfl Tryz.ntmps81 rfl hs ?_
  refine .seq ?_
  refine .region ?_
  refine bx (vs := [.int .i64 t.facts, .slice at_ t.init.length ct, .slice at_2 t.goal.length ct2, .slice at_3 t.ops.length ct3]) rfl rfl rfl (fun pt => ?_)
  refine bx (vs := [.slice aworlds worlds.length cworlds]) rfl rfl rfl (fun pworlds => ?_)
  refine .v (asg rfl) rfl rfl rfl ?_
  refine .nil ?_
  refine .seqN ?_
  refine .seq ?_
  refine .region ?_
  refine .v (mkf (vf := []) (vc := [.pointer (some pt), .pointer (some pworlds)]) rfl rfl) rfl rfl rfl ?_
  refine .v (asg rfl) rfl rfl rfl ?_
  refine .nil ?_
  refine .seqN ?_
  refine .freezeBx (k := 1) rfl (fun h1 le1 q9 => ?_)
  refine .cast (A' := [Box pworlds [.slice aworlds worlds.length cworlds], tru]) rfl ?_
  refine .freezeBx (k := 0) rfl (fun h2 le2 q10 => ?_)
  refine .cast (A' := [tru, tru]) rfl ?_
  refine .ret ?_
  refine .res1 rfl (rvT rfl) (fun w' S => ⟨(), (pt, pworlds), h2, hF, rfl, (FH.le_trans (le1) (le2)), ⟨(CellsAt.mono (le2) q9), (CellsAt.mono (FH.le_refl _) q10)⟩, S.none⟩)

theorem c_succ {h : FH} {w : World} (hs : Sub h w) (t : Task) (at_ : Option Addr) (ct : Nat) (_q1 : RSl h at_ t.init) (_q2 : t.init.length ≤ ct) (at_2 : Option Addr) (ct2 : Nat) (_q3 : RSl h at_2 t.goal) (_q4 : t.goal.length ≤ ct2) (at_3 : Option Addr) (ct3 : Nat) (_q5 : RSl h at_3 t.ops) (_q6 : t.ops.length ≤ ct3) (worlds : List (List Int)) (aworlds : Option Addr) (cworlds : Nat) (_q7 : RSl h aworlds worlds) (_q8 : worlds.length ≤ cworlds) : Calls Tryz.prog 81 #[.agg #[.int .i64 t.facts, .slice at_ t.init.length ct, .slice at_2 t.goal.length ct2, .slice at_3 t.ops.length ct3], .slice aworlds worlds.length cworlds] w fun e w' => ∃ (z : Addr × Addr) (h1 : FH), e = .returned (.func (.func 103) #[] #[.pointer (some z.1), .pointer (some z.2)]) ∧ FH.le h h1 ∧ (CellsAt h1 z.1 [.int .i64 t.facts, .slice at_ t.init.length ct, .slice at_2 t.goal.length ct2, .slice at_3 t.ops.length ct3] ∧ CellsAt h1 z.2 [.slice aworlds worlds.length cworlds]) ∧ SH (Kp.all w h) h1 w' [] :=
  (w_succ hs t at_ ct _q1 _q2 at_2 ct2 _q3 _q4 at_3 ct3 _q5 _q6 worlds aworlds cworlds _q7 _q8 (fun r => r = sp_succ t worlds) (ok_succ t worlds)).mono fun _ _ ⟨r, z, h1, hk, he, hl, hf, hS⟩ => by subst hk; exact ⟨z, h1, he, hl, hf, hS⟩

theorem w_bnext {h : FH} {w : World} (hs : Sub h w) (t : Task) (at_ : Option Addr) (ct : Nat) (_q1 : RSl h at_ t.init) (_q2 : t.init.length ≤ ct) (at_2 : Option Addr) (ct2 : Nat) (_q3 : RSl h at_2 t.goal) (_q4 : t.goal.length ≤ ct2) (at_3 : Option Addr) (ct3 : Nat) (_q5 : RSl h at_3 t.ops) (_q6 : t.ops.length ≤ ct3) (K : Unit → Prop) (hF : F_bnext t K) : Calls Tryz.prog 46 #[.agg #[.int .i64 t.facts, .slice at_ t.init.length ct, .slice at_2 t.goal.length ct2, .slice at_3 t.ops.length ct3]] w fun e w' => ∃ (r : Unit) (z : Addr) (h1 : FH), K r ∧ e = .returned (.func (.func 80) #[] #[.pointer (some z)]) ∧ FH.le h h1 ∧ (CellsAt h1 z [.int .i64 t.facts, .slice at_ t.init.length ct, .slice at_2 t.goal.length ct2, .slice at_3 t.ops.length ct3]) ∧ SH (Kp.all w h) h1 w' [] := by
  refine enter (args := [.agg #[.int .i64 t.facts, .slice at_ t.init.length ct, .slice at_2 t.goal.length ct2, .slice at_3 t.ops.length ct3]]) Tryz.func46 rfl Tryz.ntmps46 rfl hs ?_
  refine .seq ?_
  refine .region ?_
  refine bx (vs := [.int .i64 t.facts, .slice at_ t.init.length ct, .slice at_2 t.goal.length ct2, .slice at_3 t.ops.length ct3]) rfl rfl rfl (fun pt => ?_)
  refine .v (asg rfl) rfl rfl rfl ?_
  refine .nil ?_
  refine .seqN ?_
  refine .seq ?_
  refine .region ?_
  refine .v (mkf (vf := []) (vc := [.pointer (some pt)]) rfl rfl) rfl rfl rfl ?_
  refine .v (asg rfl) rfl rfl rfl ?_
  refine .nil ?_
  refine .seqN ?_
  refine .freezeBx (k := 0) rfl (fun h1 le1 q7 => ?_)
  refine .cast (A' := [tru]) rfl ?_
  refine .ret ?_
  refine .res1 rfl (rvT rfl) (fun w' S => ⟨(), pt, h1, hF, rfl, (le1), (CellsAt.mono (FH.le_refl _) q7), S.none⟩)

theorem c_bnext {h : FH} {w : World} (hs : Sub h w) (t : Task) (at_ : Option Addr) (ct : Nat) (_q1 : RSl h at_ t.init) (_q2 : t.init.length ≤ ct) (at_2 : Option Addr) (ct2 : Nat) (_q3 : RSl h at_2 t.goal) (_q4 : t.goal.length ≤ ct2) (at_3 : Option Addr) (ct3 : Nat) (_q5 : RSl h at_3 t.ops) (_q6 : t.ops.length ≤ ct3) : Calls Tryz.prog 46 #[.agg #[.int .i64 t.facts, .slice at_ t.init.length ct, .slice at_2 t.goal.length ct2, .slice at_3 t.ops.length ct3]] w fun e w' => ∃ (z : Addr) (h1 : FH), e = .returned (.func (.func 80) #[] #[.pointer (some z)]) ∧ FH.le h h1 ∧ (CellsAt h1 z [.int .i64 t.facts, .slice at_ t.init.length ct, .slice at_2 t.goal.length ct2, .slice at_3 t.ops.length ct3]) ∧ SH (Kp.all w h) h1 w' [] :=
  (w_bnext hs t at_ ct _q1 _q2 at_2 ct2 _q3 _q4 at_3 ct3 _q5 _q6 (fun r => r = sp_bnext t) (ok_bnext t)).mono fun _ _ ⟨r, z, h1, hk, he, hl, hf, hS⟩ => by subst hk; exact ⟨z, h1, he, hl, hf, hS⟩

theorem w_bnext1 {h : FH} {w : World} (hs : Sub h w) (worlds : List (List Int)) (aworlds : Option Addr) (cworlds : Nat) (_q1 : RSl h aworlds worlds) (_q2 : worlds.length ≤ cworlds) (x : Task) (ax : Option Addr) (cx : Nat) (_q3 : RSl h ax x.init) (_q4 : x.init.length ≤ cx) (ax2 : Option Addr) (cx2 : Nat) (_q5 : RSl h ax2 x.goal) (_q6 : x.goal.length ≤ cx2) (ax3 : Option Addr) (cx3 : Nat) (_q7 : RSl h ax3 x.ops) (_q8 : x.ops.length ≤ cx3) (px : Addr) (_q9 : CellsAt h px [.int .i64 x.facts, .slice ax x.init.length cx, .slice ax2 x.goal.length cx2, .slice ax3 x.ops.length cx3]) (K : Unit → Prop) (hF : F_bnext1 worlds x K) : Calls Tryz.prog 80 #[.slice aworlds worlds.length cworlds, .pointer (some px)] w fun e w' => ∃ (r : Unit) (z : Addr × Addr) (h1 : FH), K r ∧ e = .returned (.func (.func 103) #[] #[.pointer (some z.1), .pointer (some z.2)]) ∧ FH.le h h1 ∧ (CellsAt h1 z.1 [.int .i64 x.facts, .slice ax x.init.length cx, .slice ax2 x.goal.length cx2, .slice ax3 x.ops.length cx3] ∧ CellsAt h1 z.2 [.slice aworlds worlds.length cworlds]) ∧ SH (Kp.all w h) h1 w' [] := by
  refine enter (args := [.slice aworlds worlds.length cworlds, .pointer (some px)]) Tryz.func80 rfl Tryz.ntmps80 rfl hs ?_
  refine .seq ?_
  refine .region ?_
  refine .v (asg rfl) rfl rfl rfl ?_
  refine .nil ?_
  refine .seqN ?_
  refine .seq ?_
  refine .region ?_
  refine .v (ldA (cs := [.int .i64 x.facts, .slice ax x.init.length cx, .slice ax2 x.goal.length cx2, .slice ax3 x.ops.length cx3]) rfl tA25 rfl (cellsH (_q9.mono (FH.le_refl _)))) rfl rfl rfl ?_
  refine .v (mv rfl) rfl rfl rfl ?_
  obtain ⟨r2, q10⟩ : ∃ y_ : Unit, y_ = sp_succ x worlds := ⟨_, rfl⟩
  replace hF := hF r2 q10
  refine clR (α := Addr × Addr) (Φ := fun h1 z => CellsAt h1 z.1 [.int .i64 x.facts, .slice ax x.init.length cx, .slice ax2 x.goal.length cx2, .slice ax3 x.ops.length cx3] ∧ CellsAt h1 z.2 [.slice aworlds worlds.length cworlds]) (V := fun z => .func (.func 103) #[] #[.pointer (some z.1), .pointer (some z.2)]) Tryz.call81 rfl rfl (fun w S => (by exact c_succ S.sub x ax cx _q3 _q4 ax2 cx2 _q5 _q6 ax3 cx3 _q7 _q8 worlds aworlds cworlds _q1 _q2 )) rfl (fun z h1 le1 hz => ?_)
  obtain ⟨p, p2⟩ := z
  obtain ⟨q11, q12⟩ := hz
  refine .v (asg rfl) rfl rfl rfl ?_
  refine .nil ?_
  refine .seqN ?_
  refine .ret ?_
  refine .res1 rfl (rvT rfl) (fun w' S => ⟨(), (p, p2), h1, hF, rfl, (le1), ⟨(CellsAt.mono (FH.le_refl _) q11), (CellsAt.mono (FH.le_refl _) q12)⟩, S.none⟩)

theorem c_bnext1 {h : FH} {w : World} (hs : Sub h w) (worlds : List (List Int)) (aworlds : Option Addr) (cworlds : Nat) (_q1 : RSl h aworlds worlds) (_q2 : worlds.length ≤ cworlds) (x : Task) (ax : Option Addr) (cx : Nat) (_q3 : RSl h ax x.init) (_q4 : x.init.length ≤ cx) (ax2 : Option Addr) (cx2 : Nat) (_q5 : RSl h ax2 x.goal) (_q6 : x.goal.length ≤ cx2) (ax3 : Option Addr) (cx3 : Nat) (_q7 : RSl h ax3 x.ops) (_q8 : x.ops.length ≤ cx3) (px : Addr) (_q9 : CellsAt h px [.int .i64 x.facts, .slice ax x.init.length cx, .slice ax2 x.goal.length cx2, .slice ax3 x.ops.length cx3]) : Calls Tryz.prog 80 #[.slice aworlds worlds.length cworlds, .pointer (some px)] w fun e w' => ∃ (z : Addr × Addr) (h1 : FH), e = .returned (.func (.func 103) #[] #[.pointer (some z.1), .pointer (some z.2)]) ∧ FH.le h h1 ∧ (CellsAt h1 z.1 [.int .i64 x.facts, .slice ax x.init.length cx, .slice ax2 x.goal.length cx2, .slice ax3 x.ops.length cx3] ∧ CellsAt h1 z.2 [.slice aworlds worlds.length cworlds]) ∧ SH (Kp.all w h) h1 w' [] :=
  (w_bnext1 hs worlds aworlds cworlds _q1 _q2 x ax cx _q3 _q4 ax2 cx2 _q5 _q6 ax3 cx3 _q7 _q8 px _q9 (fun r => r = sp_bnext1 worlds x) (ok_bnext1 worlds x)).mono fun _ _ ⟨r, z, h1, hk, he, hl, hf, hS⟩ => by subst hk; exact ⟨z, h1, he, hl, hf, hS⟩

theorem w_small1 {h : FH} {w : World} (hs : Sub h w) (x : List (List Int)) (ax : Option Addr) (cx : Nat) (_q1 : RSl h ax x) (_q2 : x.length ≤ cx) (K : Bool → Prop) (hF : F_small1 x K) : Calls Tryz.prog 82 #[.slice ax x.length cx] w fun e w' => ∃ r : Bool, K r ∧ e = .returned (.bool r) ∧ Below w.heap.size w w' := by
  refine enter (args := [.slice ax x.length cx]) Tryz.func82 rfl Tryz.ntmps82 rfl hs ?_
  refine .seq ?_
  refine .region ?_
  refine .v (asg rfl) rfl rfl rfl ?_
  refine .nil ?_
  refine .seqN ?_
  refine .seq ?_
  refine .region ?_
  refine .v (asg rfl) rfl rfl rfl ?_
  refine .nil ?_
  refine .seqN ?_
  refine .ret ?_
  refine .res1 rfl (rvT rfl) (fun w' S => ⟨false, hF, rfl, S.below⟩)

theorem c_small1 {h : FH} {w : World} (hs : Sub h w) (x : List (List Int)) (ax : Option Addr) (cx : Nat) (_q1 : RSl h ax x) (_q2 : x.length ≤ cx) : Calls Tryz.prog 82 #[.slice ax x.length cx] w fun e w' => e = .returned (.bool (sp_small1 x)) ∧ Below w.heap.size w w' :=
  (w_small1 hs x ax cx _q1 _q2 (fun r => r = sp_small1 x) (ok_small1 x)).mono fun _ _ ⟨_, hk, he, hb⟩ => ⟨by rw [he, hk], hb⟩

theorem w_plan1 {h : FH} {w : World} (hs : Sub h w) (w_ : List (List Int)) (aw_ : Option Addr) (cw_ : Nat) (_q1 : RSl h aw_ w_) (_q2 : w_.length ≤ cw_) (x : Task) (ax : Option Addr) (cx : Nat) (_q3 : RSl h ax x.init) (_q4 : x.init.length ≤ cx) (ax2 : Option Addr) (cx2 : Nat) (_q5 : RSl h ax2 x.goal) (_q6 : x.goal.length ≤ cx2) (ax3 : Option Addr) (cx3 : Nat) (_q7 : RSl h ax3 x.ops) (_q8 : x.ops.length ≤ cx3) (px : Addr) (_q9 : CellsAt h px [.int .i64 x.facts, .slice ax x.init.length cx, .slice ax2 x.goal.length cx2, .slice ax3 x.ops.length cx3]) (K : Bool → Prop) (hF : F_plan1 w_ x K) : Calls Tryz.prog 51 #[.slice aw_ w_.length cw_, .pointer (some px)] w fun e w' => ∃ r : Bool, K r ∧ e = .returned (.bool r) ∧ Below w.heap.size w w' := by
  refine enter (args := [.slice aw_ w_.length cw_, .pointer (some px)]) Tryz.func51 rfl Tryz.ntmps51 rfl hs ?_
  refine .seq ?_
  refine .region ?_
  refine .v (asg rfl) rfl rfl rfl ?_
  refine .nil ?_
  refine .seqN ?_
  refine .seq ?_
  refine .region ?_
  refine .v (mv rfl) rfl rfl rfl ?_
  refine .v (fa rfl tF25_2) rfl rfl rfl ?_
  refine .v (ld1 (v := .slice ax2 x.goal.length cx2) rfl tO22 (cellH (CellsAt.mono (FH.le_refl _) _q9 2 _ rfl))) rfl rfl rfl ?_
  obtain ⟨q10, hF⟩ := hF
  obtain ⟨r2, q11⟩ : ∃ y_ : Bool, y_ = sp_sure w_ x.goal := ⟨_, rfl⟩
  replace hF := hF r2 q11
  refine .c (cl (v := .bool r2) Tryz.call52 rfl rfl (fun w S => (by rw [q11]; exact c_sure S.sub w_ aw_ cw_ _q1 _q2 x.goal ax2 cx2 _q5 _q6 q10))) rfl rfl rfl ?_
  refine .v (asg rfl) rfl rfl rfl ?_
  refine .nil ?_
  refine .seqN ?_
  refine .ret ?_
  refine .res1 rfl (rvT rfl) (fun w' S => ⟨r2, hF, rfl, S.below⟩)

theorem c_plan1 {h : FH} {w : World} (hs : Sub h w) (w_ : List (List Int)) (aw_ : Option Addr) (cw_ : Nat) (_q1 : RSl h aw_ w_) (_q2 : w_.length ≤ cw_) (x : Task) (ax : Option Addr) (cx : Nat) (_q3 : RSl h ax x.init) (_q4 : x.init.length ≤ cx) (ax2 : Option Addr) (cx2 : Nat) (_q5 : RSl h ax2 x.goal) (_q6 : x.goal.length ≤ cx2) (ax3 : Option Addr) (cx3 : Nat) (_q7 : RSl h ax3 x.ops) (_q8 : x.ops.length ≤ cx3) (px : Addr) (_q9 : CellsAt h px [.int .i64 x.facts, .slice ax x.init.length cx, .slice ax2 x.goal.length cx2, .slice ax3 x.ops.length cx3]) (hp : pre_plan1 w_ x) : Calls Tryz.prog 51 #[.slice aw_ w_.length cw_, .pointer (some px)] w fun e w' => e = .returned (.bool (sp_plan1 w_ x)) ∧ Below w.heap.size w w' :=
  (w_plan1 hs w_ aw_ cw_ _q1 _q2 x ax cx _q3 _q4 ax2 cx2 _q5 _q6 ax3 cx3 _q7 _q8 px _q9 (fun r => r = sp_plan1 w_ x) (ok_plan1 w_ x hp)).mono fun _ _ ⟨_, hk, he, hb⟩ => ⟨by rw [he, hk], hb⟩

set_option maxHeartbeats 8000000 in
theorem w_breadthS {h : FH} {w : World} (hs : Sub h w) (ht : TabH Tryz.prog h) (start2 : List (List Int)) (astart2 : Option Addr) (cstart2 : Nat) (_q1 : RSl h astart2 start2) (_q2 : start2.length ≤ cstart2) (x : Task) (ax : Option Addr) (cx : Nat) (_q3 : RSl h ax x.init) (_q4 : x.init.length ≤ cx) (ax2 : Option Addr) (cx2 : Nat) (_q5 : RSl h ax2 x.goal) (_q6 : x.goal.length ≤ cx2) (ax3 : Option Addr) (cx3 : Nat) (_q7 : RSl h ax3 x.ops) (_q8 : x.ops.length ≤ cx3) (px : Addr) (_q9 : CellsAt h px [.int .i64 x.facts, .slice ax x.init.length cx, .slice ax2 x.goal.length cx2, .slice ax3 x.ops.length cx3]) (K : (List Int × Bool × Bool) → Prop) (hF : F_breadthS start2 x K) : Calls Tryz.prog 50 #[.slice astart2 start2.length cstart2, .func (.func 49) #[] #[], .func (.func 80) #[] #[.pointer (some px)], .func (.func 82) #[] #[]] w fun e w' => ∃ (r : List Int × Bool × Bool) (z : Option Addr × Nat) (h1 : FH), K r ∧ e = .returned (.tuple #[.slice z.1 r.1.length z.2, .bool r.2.1, .bool r.2.2]) ∧ FH.le h h1 ∧ (RSl h1 z.1 r.1 ∧ r.1.length ≤ z.2) ∧ SH (Kp.all w h) h1 w' [] := by
  refine enterM (args := [.slice astart2 start2.length cstart2, .func (.func 49) #[] #[], .func (.func 80) #[] #[.pointer (some px)], .func (.func 82) #[] #[]]) Tryz.func50 rfl Tryz.ntmps50 rfl hs ?_
  refine .seq ?_
  refine .region ?_
  refine bx (vs := [.func (.func 49) #[] #[]]) rfl rfl rfl (fun pkey => ?_)
  refine al tZ22 rfl (fun pv => ?_)
  refine al tZ4 rfl (fun pv2 => ?_)
  refine al tZ4 rfl (fun pv3 => ?_)
  refine .nil ?_
  refine .seqN ?_
  refine .seq ?_
  refine .region ?_
  refine .v (mv rfl) rfl rfl rfl ?_
  refine .v (bld (cs := #[.slice astart2 start2.length cstart2, .int .i64 (-1), .int .i64 0]) (pv := [(0, .slice astart2 start2.length cstart2), (1, .int .i64 (-1))]) tB113 rfl rfl) rfl rfl rfl ?_
  refine bs2 (cs := #[.slice astart2 start2.length cstart2, .int .i64 (-1), .int .i64 0]) (pv := [(0, .agg #[.slice astart2 start2.length cstart2, .int .i64 (-1), .int .i64 0])]) tS114 rfl rfl (by decide) (by decide) rfl rfl rfl (fun a _ => ?_)
  refine .cast (A' := [OwnSl 113 3 a (([(⟨start2, (-1), 0⟩ : Entry)] : List Entry).length) 1 [.slice astart2 start2.length cstart2, .int .i64 (-1), .int .i64 0], Box pv3 [.bool false], Box pv2 [.bool false], Box pv [.slice none 0 0], Box pkey [.func (.func 49) #[] #[]], MkA []]) rfl ?_
  refine al tZ114 rfl (fun pqueue => ?_)
  refine st (p := pqueue) (off := 0) (k := 0) (vs := [.slice a (([(⟨start2, (-1), 0⟩ : Entry)] : List Entry).length) 1]) rfl rfl rfl (fun w => (tO114 w).2) rfl rfl rfl rfl ?_
  refine .cast (A' := [Box pqueue [.slice a (([(⟨start2, (-1), 0⟩ : Entry)] : List Entry).length) 1], OwnSl 113 3 a (([(⟨start2, (-1), 0⟩ : Entry)] : List Entry).length) 1 [.slice astart2 start2.length cstart2, .int .i64 (-1), .int .i64 0], Box pv3 [.bool false], Box pv2 [.bool false], Box pv [.slice none 0 0], Box pkey [.func (.func 49) #[] #[]], MkA []]) rfl ?_
  refine .nil ?_
  refine .seqN ?_
  refine .seq ?_
  refine .region ?_
  refine mm rfl (fun bv => ?_)
  refine .v (ld1 rfl tO80 (cellB (off := 0) (k := 6) rfl rfl)) rfl rfl rfl ?_
  refine .v (mv rfl) rfl rfl rfl ?_
  obtain ⟨q11, hF⟩ := hF
  obtain ⟨r2, q12⟩ : ∃ y_ : List UInt8, y_ = sp_key start2 := ⟨_, rfl⟩
  replace hF := hF r2 q12
  refine .c (cl (v := strV r2) Tryz.call49 rfl rfl (fun w S => (by rw [q12]; exact c_key S.sub (ht.mono (FH.le_refl _)) start2 astart2 cstart2 _q1 _q2 q11))) rfl rfl rfl ?_
  refine mi tM97 rfl rfl rfl (kk := 0) rfl ?_
  refine .cast (A' := [OwnMap bv (upd (fun _ => 0) r2 1), Box pqueue [.slice a (([(⟨start2, (-1), 0⟩ : Entry)] : List Entry).length) 1], OwnSl 113 3 a (([(⟨start2, (-1), 0⟩ : Entry)] : List Entry).length) 1 [.slice astart2 start2.length cstart2, .int .i64 (-1), .int .i64 0], Box pv3 [.bool false], Box pv2 [.bool false], Box pv [.slice none 0 0], Box pkey [.func (.func 49) #[] #[]], MkA []]) rfl ?_
  refine .v (mv rfl) rfl rfl rfl ?_
  refine al tZ97 rfl (fun pseen => ?_)
  refine st (p := pseen) (off := 0) (k := 0) (vs := [.map (some bv)]) rfl rfl rfl (fun w => (tO97 w).2) rfl rfl rfl rfl ?_
  refine .cast (A' := [Box pseen [.map (some bv)], OwnMap bv (upd (fun _ => 0) r2 1), Box pqueue [.slice a (([(⟨start2, (-1), 0⟩ : Entry)] : List Entry).length) 1], OwnSl 113 3 a (([(⟨start2, (-1), 0⟩ : Entry)] : List Entry).length) 1 [.slice astart2 start2.length cstart2, .int .i64 (-1), .int .i64 0], Box pv3 [.bool false], Box pv2 [.bool false], Box pv [.slice none 0 0], Box pkey [.func (.func 49) #[] #[]], MkA []]) rfl ?_
  refine .nil ?_
  refine .seqN ?_
  refine .seq ?_
  refine .seq ?_
  refine .region ?_
  refine al tZ3 rfl (fun pat => ?_)
  refine st (p := pat) (off := 0) (k := 0) (vs := [.int .i64 0]) rfl rfl rfl (fun w => (tO3 w).2) rfl rfl rfl rfl ?_
  refine .cast (A' := [Box pat [.int .i64 0], Box pseen [.map (some bv)], OwnMap bv (upd (fun _ => 0) r2 1), Box pqueue [.slice a (([(⟨start2, (-1), 0⟩ : Entry)] : List Entry).length) 1], OwnSl 113 3 a (([(⟨start2, (-1), 0⟩ : Entry)] : List Entry).length) 1 [.slice astart2 start2.length cstart2, .int .i64 (-1), .int .i64 0], Box pv3 [.bool false], Box pv2 [.bool false], Box pv [.slice none 0 0], Box pkey [.func (.func 49) #[] #[]], MkA []]) rfl ?_
  refine .nil ?_
  refine .seqN ?_
  refine .block ?_
  refine .sel0 [8, 7, 6, 5, 3, 1, 0, 9, 4, 2] (by decide) rfl ?_
  obtain ⟨I1, μ1, q5797, q5798⟩ := hF
  refine .loopN' (σ := Int × List Entry × (List UInt8 → Int) × Addr × List Nat × Option Addr × Nat × List Value × FH) (fun z => I1 z.1 z.2.1 z.2.2.1 ∧ RepL z.2.2.2.2.2.2.2.2 z.2.1 z.2.2.2.2.2.2.2.1 ∧ FH.le h z.2.2.2.2.2.2.2.2) (fun z => μ1 z.1 z.2.1 z.2.2.1) (fun z => ⟨92, none, z.2.2.2.2.1⟩) (fun z => [(2, .func (.func 80) #[] #[.pointer (some px)]), (3, .func (.func 82) #[] #[]), (5, .pointer (some pkey)), (8, .pointer (some pv)), (9, .pointer (some pv2)), (10, .pointer (some pv3)), (11, .pointer (some pqueue)), (12, .pointer (some pseen)), (13, .pointer (some z.2.2.2.1))]) (fun z => [Box pkey [.func (.func 49) #[] #[]], Box pv [.slice none 0 0], Box pv2 [.bool false], Box pv3 [.bool false], Box pqueue [.slice z.2.2.2.2.2.1 z.2.1.length z.2.2.2.2.2.2.1], Box pseen [.map (some bv)], Box z.2.2.2.1 [.int .i64 z.1], MkA z.2.2.2.2.1, OwnSl 113 3 z.2.2.2.2.2.1 z.2.1.length z.2.2.2.2.2.2.1 z.2.2.2.2.2.2.2.1, OwnMap bv z.2.2.1]) (fun z => z.2.2.2.2.2.2.2.2) (0, ([(⟨start2, (-1), 0⟩ : Entry)] : List Entry), (upd (fun _ => 0) r2 1), pat, [], a, 1, [.slice astart2 start2.length cstart2, .int .i64 (-1), .int .i64 0], h) ⟨q5797, (show RepL h ([(⟨start2, (-1), 0⟩ : Entry)] : List Entry) [.slice astart2 start2.length cstart2, .int .i64 (-1), .int .i64 0] from ⟨[.slice astart2 start2.length cstart2, .int .i64 (-1), .int .i64 0], _, rfl, ⟨astart2, cstart2, rfl, ⟨_q2, _q1⟩⟩, rfl⟩), (FH.le_refl _)⟩ (fun _ => rfl) rfl (.cons rfl (.cons rfl (.cons rfl (.cons rfl (.cons rfl (.cons rfl (.cons rfl (.cons rfl (.cons rfl (.nil)))))))))) rfl (FH.le_refl _) ?_
  rintro ⟨x2, l, m, p, dl, al2, cl2, csl, h199⟩ ⟨q5797, q4657, q4658⟩
  have hF := q5798 x2 l m q5797
  show J _ _ ⟨92, none, dl⟩ _ _ [(2, .func (.func 80) #[] #[.pointer (some px)]), (3, .func (.func 82) #[] #[]), (5, .pointer (some pkey)), (8, .pointer (some pv)), (9, .pointer (some pv2)), (10, .pointer (some pv3)), (11, .pointer (some pqueue)), (12, .pointer (some pseen)), (13, .pointer (some p))] [Box pkey [.func (.func 49) #[] #[]], Box pv [.slice none 0 0], Box pv2 [.bool false], Box pv3 [.bool false], Box pqueue [.slice al2 l.length cl2], Box pseen [.map (some bv)], Box p [.int .i64 x2], MkA dl, OwnSl 113 3 al2 l.length cl2 csl, OwnMap bv m] h199
  refine .seq ?_
  refine .seq ?_
  refine .region ?_
  refine .v (ld1 rfl tO3 (cellB (off := 0) (k := 6) rfl rfl)) rfl rfl rfl ?_
  refine .v (ld1 rfl tO114 (cellB (off := 0) (k := 4) rfl rfl)) rfl rfl rfl ?_
  refine .v (ln rfl tS114.is) rfl rfl rfl ?_
  refine .v (bi rfl rfl rfl) rfl rfl rfl ?_
  refine .nil ?_
  refine .seqN ?_
  refine .cond rfl (fun q5800 => ?_) (fun q5800 => ?_)
  · replace hF := hF.1 q5800
    refine .skip ?_
    refine .seqN ?_
    refine .seq ?_
    refine .block ?_
    refine .seq ?_
    refine .seq ?_
    refine .region ?_
    refine .v (mv rfl) rfl rfl rfl ?_
    refine .v (ld1 rfl tO114 (cellB (off := 0) (k := 4) rfl rfl)) rfl rfl rfl ?_
    refine .v (ld1 rfl tO3 (cellB (off := 0) (k := 6) rfl rfl)) rfl rfl rfl ?_
    obtain ⟨q6557, hF⟩ := hF
    refine .v (ixS rfl rfl tS114 (k := 8) rfl q6557) rfl rfl rfl ?_
    refine .v (fa rfl tF113_0) rfl rfl rfl ?_
    obtain ⟨_, ⟨a2, c, rfl, q6558, q6559⟩, q6560⟩ := RepL.get q4657 (gt_get q6557)
    refine .v (ld1 (v := .slice a2 ((gt l x2).node.length) c) rfl tO35 (cellF (k := 8) rfl (q6560 0 _ rfl))) rfl rfl rfl ?_
    obtain ⟨r3, q6561⟩ : ∃ y_ : Bool, y_ = sp_small1 ((gt l x2).node) := ⟨_, rfl⟩
    replace hF := hF r3 q6561
    refine .c (cl (v := .bool r3) Tryz.call82 rfl rfl (fun w S => (by rw [q6561]; exact c_small1 S.sub ((gt l x2).node) a2 c q6559 q6558 ))) rfl rfl rfl ?_
    refine .nil ?_
    refine .seqN ?_
    refine .cond rfl (fun q6654 => ?_) (fun q6654 => ?_)
    · replace hF := hF.1 q6654
      refine .seq ?_
      refine .region ?_
      refine .v (asg rfl) rfl rfl rfl ?_
      refine .nil ?_
      refine .seqN ?_
      refine .seq ?_
      refine .seq ?_
      refine .region ?_
      refine .v (ld1 rfl tO3 (cellB (off := 0) (k := 6) rfl rfl)) rfl rfl rfl ?_
      refine .v (asg rfl) rfl rfl rfl ?_
      refine .nil ?_
      refine .seqN ?_
      refine .block ?_
      refine .nilSl 3 1 ?_
      refine .cast (A' := [OwnSl 3 1 none (([] : List Int).length) 0 (flL ([] : List Int)), Box pkey [.func (.func 49) #[] #[]], Box pv [.slice none 0 0], Box pv2 [.bool false], Box pv3 [.bool false], Box pqueue [.slice al2 l.length cl2], Box pseen [.map (some bv)], Box p [.int .i64 x2], MkA dl, OwnSl 113 3 al2 l.length cl2 csl, OwnMap bv m]) rfl ?_
      refine .sel0 [2, 3, 4, 5, 0, 8, 9] (by decide) rfl ?_
      obtain ⟨I2, μ2, q6724, q6725⟩ := hF
      refine .loop' (σ := Int × List Int × Option Addr × Nat) (fun z => I2 z.1 z.2.1) (fun z => μ2 z.1 z.2.1) (fun z => [(8, .pointer (some pv)), (9, .pointer (some pv2)), (10, .pointer (some pv3)), (11, .pointer (some pqueue)), (14, .slice z.2.2.1 z.2.1.length z.2.2.2), (15, .int .i64 z.1)]) (fun z => [Box pv [.slice none 0 0], Box pv2 [.bool false], Box pv3 [.bool false], Box pqueue [.slice al2 l.length cl2], OwnSl 3 1 z.2.2.1 z.2.1.length z.2.2.2 (flL z.2.1), MkA dl, OwnSl 113 3 al2 l.length cl2 csl]) (fun _ => h199) (x2, ([] : List Int), none, 0) q6724 (.cons rfl (.cons rfl (.cons rfl (.cons rfl (.cons rfl (.cons rfl (.nil))))))) rfl (FH.le_refl _) ?_
      rintro ⟨i, out, aout, cout⟩ q6724
      have hF := q6725 i out q6724
      show J _ _ _ _ _ [(8, .pointer (some pv)), (9, .pointer (some pv2)), (10, .pointer (some pv3)), (11, .pointer (some pqueue)), (14, .slice aout out.length cout), (15, .int .i64 i)] [Box pv [.slice none 0 0], Box pv2 [.bool false], Box pv3 [.bool false], Box pqueue [.slice al2 l.length cl2], OwnSl 3 1 aout out.length cout (flL out), MkA dl, OwnSl 113 3 al2 l.length cl2 csl] h199
      refine .seq ?_
      refine .seq ?_
      refine .region ?_
      refine .v (ld1 rfl tO114 (cellB (off := 0) (k := 3) rfl rfl)) rfl rfl rfl ?_
      refine .v (mv rfl) rfl rfl rfl ?_
      obtain ⟨q6726, hF⟩ := hF
      refine .v (ixS rfl rfl tS114 (k := 6) rfl q6726) rfl rfl rfl ?_
      refine .v (fa rfl tF113_1) rfl rfl rfl ?_
      obtain ⟨_, ⟨a3, c2, rfl, q6727, q6728⟩, q6729⟩ := RepL.get q4657 (gt_get q6726)
      refine .v (ld1 (v := .int .i64 ((gt l i).from_)) rfl tO3 (cellF (k := 6) rfl (q6729 1 _ rfl))) rfl rfl rfl ?_
      refine .v (bi rfl rfl rfl) rfl rfl rfl ?_
      refine .nil ?_
      refine .seqN ?_
      refine .cond rfl (fun q6731 => ?_) (fun q6731 => ?_)
      · replace hF := hF.1 q6731
        refine .skip ?_
        refine .seqN ?_
        refine .seq ?_
        refine .block ?_
        refine .region ?_
        refine .v (mv rfl) rfl rfl rfl ?_
        refine .v (ld1 rfl tO114 (cellB (off := 0) (k := 3) rfl rfl)) rfl rfl rfl ?_
        refine .v (mv rfl) rfl rfl rfl ?_
        refine .v (ixS rfl rfl tS114 (k := 6) rfl q6726) rfl rfl rfl ?_
        refine .v (fa rfl tF113_2) rfl rfl rfl ?_
        refine .v (ld1 (v := .int .i64 ((gt l i).step)) rfl tO3 (cellF (k := 6) rfl (q6729 2 _ rfl))) rfl rfl rfl ?_
        refine bs2 (cs := #[.int .i64 ((gt l i).step)]) (pv := [(0, .int .i64 ((gt l i).step))]) tS22 rfl rfl (by decide) (by decide) rfl rfl rfl (fun a4 _ => ?_)
        refine .cast (A' := [OwnSl 3 1 a4 (([(gt l i).step] : List Int).length) 1 (flL ([(gt l i).step] : List Int)), Box pv [.slice none 0 0], Box pv2 [.bool false], Box pv3 [.bool false], Box pqueue [.slice al2 l.length cl2], OwnSl 3 1 aout out.length cout (flL out), MkA dl, OwnSl 113 3 al2 l.length cl2 csl]) rfl ?_
        obtain ⟨q6739, hF⟩ := hF
        have q6740 : out.length + ([(gt l i).step] : List Int).length = ((out ++ ([(gt l i).step] : List Int))).length := len_app rfl rfl
        refine app (k := 5) (news := flL ([(gt l i).step] : List Int)) (cs' := flL (out ++ ([(gt l i).step] : List Int))) (nm := ((out ++ ([(gt l i).step] : List Int))).length) tS22 rfl (by decide) rfl rfl rfl (by rw [flL_len]; rfl) (srcS (k := 0) rfl) (flL_one _) (room_of q6740 q6739).1 (room_of q6740 q6739).2 q6740 (flL_append _ _).symm rfl (fun a5 c3 => ?_)
        refine .cast (A' := [OwnSl 3 1 a4 (([(gt l i).step] : List Int).length) 1 (flL ([(gt l i).step] : List Int)), Box pv [.slice none 0 0], Box pv2 [.bool false], Box pv3 [.bool false], Box pqueue [.slice al2 l.length cl2], OwnSl 3 1 a5 ((out ++ ([(gt l i).step] : List Int)).length) c3 (flL (out ++ ([(gt l i).step] : List Int))), MkA dl, OwnSl 113 3 al2 l.length cl2 csl]) rfl ?_
        refine .v (asg rfl) rfl rfl rfl ?_
        refine .nil ?_
        refine .blkN ?_
        refine .seqN ?_
        refine .region ?_
        refine .v (ld1 rfl tO114 (cellB (off := 0) (k := 4) rfl rfl)) rfl rfl rfl ?_
        refine .v (mv rfl) rfl rfl rfl ?_
        refine .v (ixS rfl rfl tS114 (k := 7) rfl q6726) rfl rfl rfl ?_
        refine .v (fa rfl tF113_1) rfl rfl rfl ?_
        refine .v (ld1 (v := .int .i64 ((gt l i).from_)) rfl tO3 (cellF (k := 7) rfl (q6729 1 _ rfl))) rfl rfl rfl ?_
        refine .v (asg rfl) rfl rfl rfl ?_
        refine .nil ?_
        refine .sel0 [1, 2, 3, 4, 5, 6, 7] (by decide) rfl ?_
        exact .round ((gt l i).from_, (out ++ ([(gt l i).step] : List Int)), a5, c3) hF.1 hF.2 (.cons rfl (.cons rfl (.cons rfl (.cons rfl (.cons rfl (.cons rfl (.nil))))))) rfl (FH.le_refl _)
      replace hF := hF.2 q6731
      refine .exit ?_
      refine .seqX ?_
      refine .seqX ?_
      refine .blkX ?_
      refine .seqN ?_
      refine .seq ?_
      refine .region ?_
      refine .v (mv rfl) rfl rfl rfl ?_
      obtain ⟨q6741, hF⟩ := hF
      obtain ⟨r4, q6742⟩ : ∃ y_ : List Int, y_ = sp_reverse out := ⟨_, rfl⟩
      replace hF := hF r4 q6742
      refine callX (k := 4) (v := .tuple #[]) (X' := OwnSl 3 1 aout out.length cout (flL r4)) rfl Tryz.call86 rfl rfl (fun w g hx sg hd hs' => ?_) rfl ?_
      · rw [q6742]; exact c_reverse hs' out aout cout hx sg hd q6741
      have q6743 : r4.length = out.length := by rw [q6742]; exact (sp_reverse_len out).trans rfl
      refine .cast (A' := [Box pv [.slice none 0 0], Box pv2 [.bool false], Box pv3 [.bool false], Box pqueue [.slice al2 l.length cl2], OwnSl 3 1 aout out.length cout (flL r4), MkA dl, OwnSl 113 3 al2 l.length cl2 csl]) rfl ?_
      refine .nil ?_
      refine .seqN ?_
      refine .seq ?_
      refine .region ?_
      refine .v (mv rfl) rfl rfl rfl ?_
      refine st (p := pv) (off := 0) (k := 0) (vs := [.slice aout out.length cout]) rfl rfl rfl (fun w => (tO22 w).2) rfl rfl rfl rfl ?_
      refine .cast (A' := [Box pv [.slice aout out.length cout], Box pv2 [.bool false], Box pv3 [.bool false], Box pqueue [.slice al2 l.length cl2], OwnSl 3 1 aout out.length cout (flL r4), MkA dl, OwnSl 113 3 al2 l.length cl2 csl]) rfl ?_
      refine st (p := pv2) (off := 0) (k := 1) (vs := [.bool true]) rfl rfl rfl (fun w => (tO4 w).2) rfl rfl rfl rfl ?_
      refine .cast (A' := [Box pv [.slice aout out.length cout], Box pv2 [.bool true], Box pv3 [.bool false], Box pqueue [.slice al2 l.length cl2], OwnSl 3 1 aout out.length cout (flL r4), MkA dl, OwnSl 113 3 al2 l.length cl2 csl]) rfl ?_
      refine st (p := pv3) (off := 0) (k := 2) (vs := [.bool true]) rfl rfl rfl (fun w => (tO4 w).2) rfl rfl rfl rfl ?_
      refine .cast (A' := [Box pv [.slice aout out.length cout], Box pv2 [.bool true], Box pv3 [.bool true], Box pqueue [.slice al2 l.length cl2], OwnSl 3 1 aout out.length cout (flL r4), MkA dl, OwnSl 113 3 al2 l.length cl2 csl]) rfl ?_
      refine .nil ?_
      refine .seqN ?_
      refine .freezeL (k := 4) rfl (fun h282 le282 q6745 q6744 => ?_)
      refine .cast (A' := [Box pv [.slice aout out.length cout], Box pv2 [.bool true], Box pv3 [.bool true], Box pqueue [.slice al2 l.length cl2], tru, MkA dl, OwnSl 113 3 al2 l.length cl2 csl]) rfl ?_
      refine .ret ?_
      refine .seqR ?_
      refine .blkR ?_
      refine .seqR ?_
      refine .seqR ?_
      refine .blkR ?_
      refine .seqR ?_
      refine .resM (k := 5) rfl ?_
      refine .res3 rfl (rvC1 rfl tO22 (k := 0) rfl) (rvC1 rfl tO4 (k := 1) rfl) (rvC1 rfl tO4 (k := 2) rfl) (fun w' S => ⟨(r4, true, true), (aout, cout), h282, hF, (by simp only [q6743]), (FH.le_trans (q4658) (le282)), ⟨(RSl.of q6744), (by rw [q6743]; exact q6745)⟩, S.none⟩)
    replace hF := hF.2 q6654
    refine .skip ?_
    refine .seqN ?_
    refine .seq ?_
    refine .region ?_
    refine .v (mv rfl) rfl rfl rfl ?_
    refine .v (ld1 rfl tO114 (cellB (off := 0) (k := 4) rfl rfl)) rfl rfl rfl ?_
    refine .v (ld1 rfl tO3 (cellB (off := 0) (k := 6) rfl rfl)) rfl rfl rfl ?_
    refine .v (ixS rfl rfl tS114 (k := 8) rfl q6557) rfl rfl rfl ?_
    refine .v (fa rfl tF113_0) rfl rfl rfl ?_
    refine .v (ld1 (v := .slice a2 ((gt l x2).node.length) c) rfl tO35 (cellF (k := 8) rfl (q6560 0 _ rfl))) rfl rfl rfl ?_
    obtain ⟨r5, q6746⟩ : ∃ y_ : Unit, y_ = sp_bnext1 ((gt l x2).node) x := ⟨_, rfl⟩
    replace hF := hF r5 q6746
    refine clR (α := Addr × Addr) (Φ := fun h1 z => CellsAt h1 z.1 [.int .i64 x.facts, .slice ax x.init.length cx, .slice ax2 x.goal.length cx2, .slice ax3 x.ops.length cx3] ∧ CellsAt h1 z.2 [.slice a2 ((gt l x2).node.length) c]) (V := fun z => .func (.func 103) #[] #[.pointer (some z.1), .pointer (some z.2)]) Tryz.call80 rfl rfl (fun w S => (by exact c_bnext1 S.sub ((gt l x2).node) a2 c q6559 q6558 x ax cx (_q3.mono (q4658)) _q4 ax2 cx2 (_q5.mono (q4658)) _q6 ax3 cx3 (_q7.mono (q4658)) _q8 px (CellsAt.mono (q4658) _q9) )) rfl (fun z h283 le283 hz => ?_)
    obtain ⟨p3, p4⟩ := z
    obtain ⟨q6747, q6748⟩ := hz
    refine .nil ?_
    refine .seqN ?_
    refine .block ?_
    refine .sub (s' := [(2, .func (.func 80) #[] #[.pointer (some px)]), (3, .func (.func 82) #[] #[]), (5, .pointer (some pkey)), (8, .pointer (some pv)), (9, .pointer (some pv2)), (10, .pointer (some pv3)), (11, .pointer (some pqueue)), (12, .pointer (some pseen)), (13, .pointer (some p)), (69, .func (.func 103) #[] #[.pointer (some p3), .pointer (some p4)])]) (.cons rfl (.cons rfl (.cons rfl (.cons rfl (.cons rfl (.cons rfl (.cons rfl (.cons rfl (.cons rfl (.cons rfl (.nil))))))))))) ?_
    refine .rangeF (k := 7) (caps := [.pointer (some p3), .pointer (some p4)]) rfl rfl Tryz.func103 rfl Tryz.ntmps103 rfl Tryz.call103 (fun l3 D LA a6 q6749 q6750 => ?_)
    refine .cast (A' := [LA .ready none, Box pkey [.func (.func 49) #[] #[]], Box pv [.slice none 0 0], Box pv2 [.bool false], Box pv3 [.bool false], Box pqueue [.slice al2 l.length cl2], Box pseen [.map (some bv)], Box p [.int .i64 x2], MkA (D :: dl), OwnSl 113 3 al2 l.length cl2 csl, OwnMap bv m]) rfl ?_
    refine .seq ?_
    refine .region ?_
    refine .v (fa rfl tF25_3) rfl rfl rfl ?_
    refine .v (ld1 (v := .slice ax3 x.ops.length cx3) rfl tO23 (cellH (CellsAt.mono (FH.le_refl _) q6747 3 _ rfl))) rfl rfl rfl ?_
    refine .v (ln rfl tS23.is) rfl rfl rfl ?_
    refine .v (mv rfl) rfl rfl rfl ?_
    refine .nil ?_
    refine .seqN ?_
    refine .block ?_
    obtain ⟨I3, μ3, q6875, q6876⟩ := hF
    refine .loop' (σ := Int × List Entry × (List UInt8 → Int) × Option Addr × Nat × List Value × FH) (fun z => I3 z.1 z.2.1 z.2.2.1 ∧ RepL z.2.2.2.2.2.2 z.2.1 z.2.2.2.2.2.1 ∧ FH.le h283 z.2.2.2.2.2.2) (fun z => μ3 z.1 z.2.1 z.2.2.1) (fun z => [(0, .func (.yield l3) #[] #[]), (1, .pointer (some p3)), (2, .pointer (some p4)), (7, .slice ax3 x.ops.length cx3), (8, .int .i64 ((x.ops.length : Nat) : Int)), (9, .int .i64 z.1)]) (fun z => [LA .ready none, Box pkey [.func (.func 49) #[] #[]], Box pv [.slice none 0 0], Box pv2 [.bool false], Box pv3 [.bool false], Box pqueue [.slice z.2.2.2.1 z.2.1.length z.2.2.2.2.1], Box pseen [.map (some bv)], Box p [.int .i64 x2], MkA (D :: dl), OwnSl 113 3 z.2.2.2.1 z.2.1.length z.2.2.2.2.1 z.2.2.2.2.2.1, OwnMap bv z.2.2.1]) (fun z => z.2.2.2.2.2.2) (0, l, m, al2, cl2, csl, h283) ⟨q6875, (RepL.mono (le283) q4657), (FH.le_refl _)⟩ (.cons rfl (.cons rfl (.cons rfl (.cons rfl (.cons rfl (.cons rfl (.nil))))))) rfl (FH.le_refl _) ?_
    rintro ⟨t9, l4, m3, al4, cl4, csl3, h289⟩ ⟨q6875, q6813, q6814⟩
    have hF := q6876 t9 l4 m3 q6875
    show J _ _ _ _ _ [(0, .func (.yield l3) #[] #[]), (1, .pointer (some p3)), (2, .pointer (some p4)), (7, .slice ax3 x.ops.length cx3), (8, .int .i64 ((x.ops.length : Nat) : Int)), (9, .int .i64 t9)] [LA .ready none, Box pkey [.func (.func 49) #[] #[]], Box pv [.slice none 0 0], Box pv2 [.bool false], Box pv3 [.bool false], Box pqueue [.slice al4 l4.length cl4], Box pseen [.map (some bv)], Box p [.int .i64 x2], MkA (D :: dl), OwnSl 113 3 al4 l4.length cl4 csl3, OwnMap bv m3] h289
    refine .seq ?_
    refine .region ?_
    refine .v (bi rfl rfl rfl) rfl rfl rfl ?_
    refine .nil ?_
    refine .seqN ?_
    refine .seq ?_
    refine .cond rfl (fun q6879 => ?_) (fun q6879 => ?_)
    · replace hF := hF.1 q6879
      refine .skip ?_
      refine .seqN ?_
      refine .share (σ := List Entry × (List UInt8 → Int) × Option Addr × Nat × List Value × FH) (fun z => F_breadthS_J1 t9 I3 μ3 l4 m3 z.1 z.2.1 ∧ RepL z.2.2.2.2.2 z.1 z.2.2.2.2.1 ∧ FH.le h289 z.2.2.2.2.2) (fun _ => [(0, .func (.yield l3) #[] #[]), (1, .pointer (some p3)), (2, .pointer (some p4)), (7, .slice ax3 x.ops.length cx3), (8, .int .i64 ((x.ops.length : Nat) : Int)), (9, .int .i64 t9)]) (fun z => [LA .ready none, Box pkey [.func (.func 49) #[] #[]], Box pv [.slice none 0 0], Box pv2 [.bool false], Box pv3 [.bool false], Box pqueue [.slice z.2.2.1 z.1.length z.2.2.2.1], Box pseen [.map (some bv)], Box p [.int .i64 x2], MkA (D :: dl), OwnSl 113 3 z.2.2.1 z.1.length z.2.2.2.1 z.2.2.2.2.1, OwnMap bv z.2.1]) (fun z => z.2.2.2.2.2) ?_ (fun q6908 => ?_)
      · rintro ⟨l6, m5, al6, cl6, csl5, h295⟩ ⟨hF, q6906, q6907⟩
        show J _ _ _ _ _ [(0, .func (.yield l3) #[] #[]), (1, .pointer (some p3)), (2, .pointer (some p4)), (7, .slice ax3 x.ops.length cx3), (8, .int .i64 ((x.ops.length : Nat) : Int)), (9, .int .i64 t9)] [LA .ready none, Box pkey [.func (.func 49) #[] #[]], Box pv [.slice none 0 0], Box pv2 [.bool false], Box pv3 [.bool false], Box pqueue [.slice al6 l6.length cl6], Box pseen [.map (some bv)], Box p [.int .i64 x2], MkA (D :: dl), OwnSl 113 3 al6 l6.length cl6 csl5, OwnMap bv m5] h295
        refine .region ?_
        refine .v (bi rfl rfl rfl) rfl rfl rfl ?_
        refine .v (mv rfl) rfl rfl rfl ?_
        refine .nil ?_
        exact .round (IntKind.i64.wrap (t9 + 1), l6, m5, al6, cl6, csl5, h295) ⟨hF.1, q6906, (FH.le_trans (q6814) (q6907))⟩ hF.2 (.cons rfl (.cons rfl (.cons rfl (.cons rfl (.cons rfl (.cons rfl (.nil))))))) rfl (FH.le_refl _)
      refine .block ?_
      refine .seq ?_
      refine .region ?_
      refine .v (mv rfl) rfl rfl rfl ?_
      obtain ⟨q6909, hF⟩ := hF
      refine .v (ix rfl rfl tS23 (_q7.ne (by decide) (inb_pos q6909)) q6909) rfl rfl rfl ?_
      obtain ⟨_, ⟨a7, c4, a8, c5, a9, c6, rfl, ⟨q6910, q6911⟩, ⟨q6912, q6913⟩, q6914, q6915⟩, q6916⟩ := _q7.elem q6909
      refine .v (ldA (cs := [.slice a7 ((gt x.ops t9).pre.length) c4, .slice a8 ((gt x.ops t9).add.length) c5, .slice a9 ((gt x.ops t9).del.length) c6, .int .i64 ((gt x.ops t9).cost)]) rfl tA54 rfl (cellsH ((fun q => (q6916 q).mono (FH.le_trans (FH.le_trans (q4658) (le283)) (q6814))) (by decide)))) rfl rfl rfl ?_
      refine al tZ54 rfl (fun pkey2 => ?_)
      refine .v (asg rfl) rfl rfl rfl ?_
      refine st (p := pkey2) (off := 0) (k := 0) (vs := [.slice a7 ((gt x.ops t9).pre.length) c4, .slice a8 ((gt x.ops t9).add.length) c5, .slice a9 ((gt x.ops t9).del.length) c6, .int .i64 ((gt x.ops t9).cost)]) rfl rfl rfl (fun w => (tA54 w).2) rfl rfl rfl rfl ?_
      refine .cast (A' := [Box pkey2 [.slice a7 ((gt x.ops t9).pre.length) c4, .slice a8 ((gt x.ops t9).add.length) c5, .slice a9 ((gt x.ops t9).del.length) c6, .int .i64 ((gt x.ops t9).cost)], LA .ready none, Box pkey [.func (.func 49) #[] #[]], Box pv [.slice none 0 0], Box pv2 [.bool false], Box pv3 [.bool false], Box pqueue [.slice al4 l4.length cl4], Box pseen [.map (some bv)], Box p [.int .i64 x2], MkA (D :: dl), OwnSl 113 3 al4 l4.length cl4 csl3, OwnMap bv m3]) rfl ?_
      refine .nil ?_
      refine .seqN ?_
      refine .seq ?_
      refine .region ?_
      refine .v (ld1 (v := .slice a2 ((gt l x2).node.length) c) rfl tO35 (cellH (CellsAt.mono (q6814) q6748 0 _ rfl))) rfl rfl rfl ?_
      refine .v (fa rfl tF54_0) rfl rfl rfl ?_
      refine .v (ld1 rfl tO22 (cellB (off := 0) (k := 0) rfl rfl)) rfl rfl rfl ?_
      obtain ⟨q6917, hF⟩ := hF
      obtain ⟨r6, q6918⟩ : ∃ y_ : Bool, y_ = sp_sure ((gt l x2).node) ((gt x.ops t9).pre) := ⟨_, rfl⟩
      replace hF := hF r6 q6918
      refine .c (cl (v := .bool r6) Tryz.call52 rfl rfl (fun w S => (by rw [q6918]; exact c_sure S.sub ((gt l x2).node) a2 c (q6559.mono (FH.le_trans (le283) (q6814))) q6558 ((gt x.ops t9).pre) a7 c4 (q6911.mono (FH.le_trans (FH.le_trans (q4658) (le283)) (q6814))) q6910 q6917))) rfl rfl rfl ?_
      refine .v (mv rfl) rfl rfl rfl ?_
      rcases Bool.eq_false_or_eq_true (r6) with q6919 | q6919
      · replace hF := hF.1 q6919
        refine .gv (mv rfl) rfl rfl rfl q6919 rfl rfl ?_
        refine .gv (mv rfl) rfl rfl rfl q6919 rfl rfl ?_
        refine .gv (ldA (cs := [.int .i64 x.facts, .slice ax x.init.length cx, .slice ax2 x.goal.length cx2, .slice ax3 x.ops.length cx3]) rfl tA25 rfl (cellsH (q6747.mono (q6814)))) rfl rfl rfl q6919 rfl rfl ?_
        refine .gv (ld1 (v := .slice a2 ((gt l x2).node.length) c) rfl tO35 (cellH (CellsAt.mono (q6814) q6748 0 _ rfl))) rfl rfl rfl q6919 rfl rfl ?_
        refine .gv (mv rfl) rfl rfl rfl q6919 rfl rfl ?_
        obtain ⟨q6920, hF⟩ := hF
        obtain ⟨r7, q6921⟩ : ∃ y_ : List (List Int), y_ = sp_bafter x ((gt l x2).node) t9 := ⟨_, rfl⟩
        replace hF := hF r7 q6921
        refine .gR rfl rfl rfl q6919 ?_
        refine clR (α := Option Addr × Nat) (Φ := fun h1 z => RSl h1 z.1 r7 ∧ r7.length ≤ z.2) (V := fun z => .slice z.1 r7.length z.2) Tryz.call60 rfl rfl (fun w S => (by rw [q6921]; exact c_bafter S.sub x ax cx (_q3.mono (FH.le_trans (FH.le_trans (q4658) (le283)) (q6814))) _q4 ax2 cx2 (_q5.mono (FH.le_trans (FH.le_trans (q4658) (le283)) (q6814))) _q6 ax3 cx3 (_q7.mono (FH.le_trans (FH.le_trans (q4658) (le283)) (q6814))) _q8 ((gt l x2).node) a2 c (q6559.mono (FH.le_trans (le283) (q6814))) q6558 t9 q6920)) rfl (fun z h296 le296 hz => ?_)
        obtain ⟨a10, c7⟩ := z
        obtain ⟨q6922, q6923⟩ := hz
        refine .gR rfl rfl rfl q6919 ?_
        refine .yld (k := 1) (vs := [.int .i64 t9, .slice a10 r7.length c7]) q6749 rfl rfl rfl rfl rfl (fun aG q6924 => ?_)
        refine .sub (s' := [(5, .pointer (some pkey)), (8, .pointer (some pv)), (9, .pointer (some pv2)), (10, .pointer (some pv3)), (11, .pointer (some pqueue)), (12, .pointer (some pseen)), (13, .pointer (some p)), (70, .int .i64 t9), (71, .slice a10 r7.length c7)]) (.cons rfl (.cons rfl (.cons rfl (.cons rfl (.cons rfl (.cons rfl (.cons rfl (.cons rfl (.cons rfl (.nil)))))))))) ?_
        refine .seq ?_
        refine .region ?_
        refine .v (asg rfl) rfl rfl rfl ?_
        refine .nil ?_
        refine .seqN ?_
        refine .region ?_
        refine .v (asg rfl) rfl rfl rfl ?_
        refine .nil ?_
        refine .begin_ (k := 1) q6749 rfl ?_
        refine .cast (A' := [Box pkey2 [.slice a7 ((gt x.ops t9).pre.length) c4, .slice a8 ((gt x.ops t9).add.length) c5, .slice a9 ((gt x.ops t9).del.length) c6, .int .i64 ((gt x.ops t9).cost)], LA .busy none, Box pkey [.func (.func 49) #[] #[]], Box pv [.slice none 0 0], Box pv2 [.bool false], Box pv3 [.bool false], Box pqueue [.slice al4 l4.length cl4], Box pseen [.map (some bv)], Box p [.int .i64 x2], MkA (D :: dl), OwnSl 113 3 al4 l4.length cl4 csl3, OwnMap bv m3]) rfl ?_
        refine .block ?_
        refine .seq ?_
        refine .region ?_
        refine .v (ld1 rfl tO80 (cellB (off := 0) (k := 2) rfl rfl)) rfl rfl rfl ?_
        refine .v (mv rfl) rfl rfl rfl ?_
        obtain ⟨q6925, hF⟩ := hF
        obtain ⟨r8, q6926⟩ : ∃ y_ : List UInt8, y_ = sp_key r7 := ⟨_, rfl⟩
        replace hF := hF r8 q6926
        refine .c (cl (v := strV r8) Tryz.call49 rfl rfl (fun w S => (by rw [q6926]; exact c_key S.sub (ht.mono (FH.le_trans (FH.le_trans (FH.le_trans (q4658) (le283)) (q6814)) (le296))) r7 a10 c7 q6922 q6923 q6925))) rfl rfl rfl ?_
        refine .v (asg rfl) rfl rfl rfl ?_
        refine .nil ?_
        refine .seqN ?_
        refine .seq ?_
        refine .seq ?_
        refine .region ?_
        refine .v (ld1 rfl tO97 (cellB (off := 0) (k := 7) rfl rfl)) rfl rfl rfl ?_
        refine .v (mv rfl) rfl rfl rfl ?_
        refine .v (lk tM97 rfl rfl (kk := 11) rfl) rfl rfl rfl ?_
        refine .v (bi rfl rfl rfl) rfl rfl rfl ?_
        refine .nil ?_
        refine .seqN ?_
        refine .cond rfl (fun q6928 => ?_) (fun q6928 => ?_)
        · replace hF := hF.1 q6928
          refine .exit ?_
          refine .seqX ?_
          refine .blkX ?_
          refine .rdN (k := 1) q6749 rfl q6924 rfl ?_
          refine .cast (A' := [Box pkey2 [.slice a7 ((gt x.ops t9).pre.length) c4, .slice a8 ((gt x.ops t9).add.length) c5, .slice a9 ((gt x.ops t9).del.length) c6, .int .i64 ((gt x.ops t9).cost)], LA .ready none, Box pkey [.func (.func 49) #[] #[]], Box pv [.slice none 0 0], Box pv2 [.bool false], Box pv3 [.bool false], Box pqueue [.slice al4 l4.length cl4], Box pseen [.map (some bv)], Box p [.int .i64 x2], MkA (D :: dl), OwnSl 113 3 al4 l4.length cl4 csl3, OwnMap bv m3]) rfl ?_
          refine .gv (nt rfl) rfl rfl rfl q6919 rfl rfl ?_
          refine .v (pkT rfl q6919 rfl) rfl rfl rfl ?_
          refine .nil ?_
          refine .seqN ?_
          refine .cond rfl (fun e => absurd (e.symm.trans rfl) (by decide)) (fun _ => ?_)
          refine .skip ?_
          refine .blkN ?_
          refine .sel0 [1, 2, 3, 4, 5, 6, 7, 8, 9, 10, 11] (by decide) rfl ?_
          exact .use q6908 (l4, m3, al4, cl4, csl3, h296) ⟨hF, (RepL.mono (le296) q6813), (le296)⟩ (.cons rfl (.cons rfl (.cons rfl (.cons rfl (.cons rfl (.cons rfl (.nil))))))) rfl (FH.le_refl _)
        replace hF := hF.2 q6928
        refine .skip ?_
        refine .seqN ?_
        refine .seq ?_
        refine .seq ?_
        refine .region ?_
        refine .v (ld1 rfl tO114 (cellB (off := 0) (k := 6) rfl rfl)) rfl rfl rfl ?_
        refine .v (ln rfl tS114.is) rfl rfl rfl ?_
        refine .v (bi rfl rfl rfl) rfl rfl rfl ?_
        refine .nil ?_
        refine .seqN ?_
        refine .cond rfl (fun q6930 => ?_) (fun q6930 => ?_)
        · replace hF := hF.1 q6930
          refine .seq ?_
          refine .region ?_
          refine st (p := pv) (off := 0) (k := 3) (vs := [.slice none 0 0]) rfl rfl rfl (fun w => (tO22 w).2) rfl rfl rfl rfl ?_
          refine .cast (A' := [Box pkey2 [.slice a7 ((gt x.ops t9).pre.length) c4, .slice a8 ((gt x.ops t9).add.length) c5, .slice a9 ((gt x.ops t9).del.length) c6, .int .i64 ((gt x.ops t9).cost)], LA .busy none, Box pkey [.func (.func 49) #[] #[]], Box pv [.slice none 0 0], Box pv2 [.bool false], Box pv3 [.bool false], Box pqueue [.slice al4 l4.length cl4], Box pseen [.map (some bv)], Box p [.int .i64 x2], MkA (D :: dl), OwnSl 113 3 al4 l4.length cl4 csl3, OwnMap bv m3]) rfl ?_
          refine st (p := pv2) (off := 0) (k := 4) (vs := [.bool false]) rfl rfl rfl (fun w => (tO4 w).2) rfl rfl rfl rfl ?_
          refine .cast (A' := [Box pkey2 [.slice a7 ((gt x.ops t9).pre.length) c4, .slice a8 ((gt x.ops t9).add.length) c5, .slice a9 ((gt x.ops t9).del.length) c6, .int .i64 ((gt x.ops t9).cost)], LA .busy none, Box pkey [.func (.func 49) #[] #[]], Box pv [.slice none 0 0], Box pv2 [.bool false], Box pv3 [.bool false], Box pqueue [.slice al4 l4.length cl4], Box pseen [.map (some bv)], Box p [.int .i64 x2], MkA (D :: dl), OwnSl 113 3 al4 l4.length cl4 csl3, OwnMap bv m3]) rfl ?_
          refine st (p := pv3) (off := 0) (k := 5) (vs := [.bool false]) rfl rfl rfl (fun w => (tO4 w).2) rfl rfl rfl rfl ?_
          refine .cast (A' := [Box pkey2 [.slice a7 ((gt x.ops t9).pre.length) c4, .slice a8 ((gt x.ops t9).add.length) c5, .slice a9 ((gt x.ops t9).del.length) c6, .int .i64 ((gt x.ops t9).cost)], LA .busy none, Box pkey [.func (.func 49) #[] #[]], Box pv [.slice none 0 0], Box pv2 [.bool false], Box pv3 [.bool false], Box pqueue [.slice al4 l4.length cl4], Box pseen [.map (some bv)], Box p [.int .i64 x2], MkA (D :: dl), OwnSl 113 3 al4 l4.length cl4 csl3, OwnMap bv m3]) rfl ?_
          refine .nil ?_
          refine .seqN ?_
          refine .ret ?_
          refine .seqR ?_
          refine .blkR ?_
          refine .rdR (k := 1) q6749 rfl q6924 rfl ?_
          refine .cast (A' := [Box pkey2 [.slice a7 ((gt x.ops t9).pre.length) c4, .slice a8 ((gt x.ops t9).add.length) c5, .slice a9 ((gt x.ops t9).del.length) c6, .int .i64 ((gt x.ops t9).cost)], LA .done (some .ret), Box pkey [.func (.func 49) #[] #[]], Box pv [.slice none 0 0], Box pv2 [.bool false], Box pv3 [.bool false], Box pqueue [.slice al4 l4.length cl4], Box pseen [.map (some bv)], Box p [.int .i64 x2], MkA (D :: dl), OwnSl 113 3 al4 l4.length cl4 csl3, OwnMap bv m3]) rfl ?_
          refine .gv (nt rfl) rfl rfl rfl q6919 rfl rfl ?_
          refine .v (pkT rfl q6919 rfl) rfl rfl rfl ?_
          refine .nil ?_
          refine .seqN ?_
          refine .cond rfl (fun _ => ?_) (fun e => absurd (e.symm.trans rfl) (by decide))
          refine .ret ?_
          refine .blkR ?_
          refine .seqR ?_
          refine .seqR ?_
          refine .blkR ?_
          refine .res0 (.inl rfl) rfl (range_jump (k := 1) q6749 rfl q6750 ?_)
          refine .cast (A' := [Box pkey2 [.slice a7 ((gt x.ops t9).pre.length) c4, .slice a8 ((gt x.ops t9).add.length) c5, .slice a9 ((gt x.ops t9).del.length) c6, .int .i64 ((gt x.ops t9).cost)], tru, Box pkey [.func (.func 49) #[] #[]], Box pv [.slice none 0 0], Box pv2 [.bool false], Box pv3 [.bool false], Box pqueue [.slice al4 l4.length cl4], Box pseen [.map (some bv)], Box p [.int .i64 x2], MkA (D :: dl), OwnSl 113 3 al4 l4.length cl4 csl3, OwnMap bv m3]) rfl ?_
          refine .ret ?_
          refine .blkR ?_
          refine .blkR ?_
          refine .seqR ?_
          refine .seqR ?_
          refine .blkR ?_
          refine .seqR ?_
          refine .resM (k := 9) rfl ?_
          refine .res3 rfl (rvC1 rfl tO22 (k := 3) rfl) (rvC1 rfl tO4 (k := 4) rfl) (rvC1 rfl tO4 (k := 5) rfl) (fun w' S => ⟨(([] : List Int), false, false), (none, 0), h296, hF, rfl, (FH.le_trans (FH.le_trans (FH.le_trans (q4658) (le283)) (q6814)) (le296)), ⟨RSl.nil_, (Nat.le_refl 0)⟩, S.none⟩)
        replace hF := hF.2 q6930
        refine .skip ?_
        refine .seqN ?_
        refine .seq ?_
        refine .region ?_
        refine .v (ld1 rfl tO97 (cellB (off := 0) (k := 7) rfl rfl)) rfl rfl rfl ?_
        refine .v (mv rfl) rfl rfl rfl ?_
        refine mu tM97 rfl rfl rfl (kk := 11) rfl ?_
        refine .cast (A' := [Box pkey2 [.slice a7 ((gt x.ops t9).pre.length) c4, .slice a8 ((gt x.ops t9).add.length) c5, .slice a9 ((gt x.ops t9).del.length) c6, .int .i64 ((gt x.ops t9).cost)], LA .busy none, Box pkey [.func (.func 49) #[] #[]], Box pv [.slice none 0 0], Box pv2 [.bool false], Box pv3 [.bool false], Box pqueue [.slice al4 l4.length cl4], Box pseen [.map (some bv)], Box p [.int .i64 x2], MkA (D :: dl), OwnSl 113 3 al4 l4.length cl4 csl3, OwnMap bv (upd m3 r8 1)]) rfl ?_
        refine .nil ?_
        refine .seqN ?_
        refine .region ?_
        refine .v (ld1 rfl tO114 (cellB (off := 0) (k := 6) rfl rfl)) rfl rfl rfl ?_
        refine .v (mv rfl) rfl rfl rfl ?_
        refine .v (ld1 rfl tO3 (cellB (off := 0) (k := 8) rfl rfl)) rfl rfl rfl ?_
        refine .v (mv rfl) rfl rfl rfl ?_
        refine .v (bld (cs := #[.slice a10 r7.length c7, .int .i64 x2, .int .i64 t9]) (pv := [(0, .slice a10 r7.length c7), (1, .int .i64 x2), (2, .int .i64 t9)]) tB113 rfl rfl) rfl rfl rfl ?_
        refine bs2 (cs := #[.slice a10 r7.length c7, .int .i64 x2, .int .i64 t9]) (pv := [(0, .agg #[.slice a10 r7.length c7, .int .i64 x2, .int .i64 t9])]) tS114 rfl rfl (by decide) (by decide) rfl rfl rfl (fun a11 _ => ?_)
        refine .cast (A' := [OwnSl 113 3 a11 (([(⟨r7, x2, t9⟩ : Entry)] : List Entry).length) 1 [.slice a10 r7.length c7, .int .i64 x2, .int .i64 t9], Box pkey2 [.slice a7 ((gt x.ops t9).pre.length) c4, .slice a8 ((gt x.ops t9).add.length) c5, .slice a9 ((gt x.ops t9).del.length) c6, .int .i64 ((gt x.ops t9).cost)], LA .busy none, Box pkey [.func (.func 49) #[] #[]], Box pv [.slice none 0 0], Box pv2 [.bool false], Box pv3 [.bool false], Box pqueue [.slice al4 l4.length cl4], Box pseen [.map (some bv)], Box p [.int .i64 x2], MkA (D :: dl), OwnSl 113 3 al4 l4.length cl4 csl3, OwnMap bv (upd m3 r8 1)]) rfl ?_
        obtain ⟨q6932, hF⟩ := hF
        have q6933 : l4.length + ([(⟨r7, x2, t9⟩ : Entry)] : List Entry).length = ((l4 ++ ([(⟨r7, x2, t9⟩ : Entry)] : List Entry))).length := len_app rfl rfl
        have q6934 := RepL.append (RepL.mono (le296) q6813) (show RepL h296 ([(⟨r7, x2, t9⟩ : Entry)] : List Entry) [.slice a10 r7.length c7, .int .i64 x2, .int .i64 t9] from ⟨[.slice a10 r7.length c7, .int .i64 x2, .int .i64 t9], _, rfl, ⟨a10, c7, rfl, ⟨q6923, q6922⟩⟩, rfl⟩)
        refine app (k := 11) (news := [.slice a10 r7.length c7, .int .i64 x2, .int .i64 t9]) (cs' := (csl3 ++ [.slice a10 r7.length c7, .int .i64 x2, .int .i64 t9])) (nm := ((l4 ++ ([(⟨r7, x2, t9⟩ : Entry)] : List Entry))).length) tS114 rfl (by decide) rfl rfl rfl (RepL.len (show RepL h296 ([(⟨r7, x2, t9⟩ : Entry)] : List Entry) [.slice a10 r7.length c7, .int .i64 x2, .int .i64 t9] from ⟨[.slice a10 r7.length c7, .int .i64 x2, .int .i64 t9], _, rfl, ⟨a10, c7, rfl, ⟨q6923, q6922⟩⟩, rfl⟩)) (srcS (k := 0) rfl) (RepL.one (show RepL h296 ([(⟨r7, x2, t9⟩ : Entry)] : List Entry) [.slice a10 r7.length c7, .int .i64 x2, .int .i64 t9] from ⟨[.slice a10 r7.length c7, .int .i64 x2, .int .i64 t9], _, rfl, ⟨a10, c7, rfl, ⟨q6923, q6922⟩⟩, rfl⟩)) (room_of q6933 q6932).1 (room_of q6933 q6932).2 q6933 rfl rfl (fun a12 c8 => ?_)
        refine .cast (A' := [OwnSl 113 3 a11 (([(⟨r7, x2, t9⟩ : Entry)] : List Entry).length) 1 [.slice a10 r7.length c7, .int .i64 x2, .int .i64 t9], Box pkey2 [.slice a7 ((gt x.ops t9).pre.length) c4, .slice a8 ((gt x.ops t9).add.length) c5, .slice a9 ((gt x.ops t9).del.length) c6, .int .i64 ((gt x.ops t9).cost)], LA .busy none, Box pkey [.func (.func 49) #[] #[]], Box pv [.slice none 0 0], Box pv2 [.bool false], Box pv3 [.bool false], Box pqueue [.slice al4 l4.length cl4], Box pseen [.map (some bv)], Box p [.int .i64 x2], MkA (D :: dl), OwnSl 113 3 a12 ((l4 ++ ([(⟨r7, x2, t9⟩ : Entry)] : List Entry)).length) c8 (csl3 ++ [.slice a10 r7.length c7, .int .i64 x2, .int .i64 t9]), OwnMap bv (upd m3 r8 1)]) rfl ?_
        refine st (p := pqueue) (off := 0) (k := 7) (vs := [.slice a12 ((l4 ++ ([(⟨r7, x2, t9⟩ : Entry)] : List Entry)).length) c8]) rfl rfl rfl (fun w => (tO114 w).2) rfl rfl rfl rfl ?_
        refine .cast (A' := [OwnSl 113 3 a11 (([(⟨r7, x2, t9⟩ : Entry)] : List Entry).length) 1 [.slice a10 r7.length c7, .int .i64 x2, .int .i64 t9], Box pkey2 [.slice a7 ((gt x.ops t9).pre.length) c4, .slice a8 ((gt x.ops t9).add.length) c5, .slice a9 ((gt x.ops t9).del.length) c6, .int .i64 ((gt x.ops t9).cost)], LA .busy none, Box pkey [.func (.func 49) #[] #[]], Box pv [.slice none 0 0], Box pv2 [.bool false], Box pv3 [.bool false], Box pqueue [.slice a12 ((l4 ++ ([(⟨r7, x2, t9⟩ : Entry)] : List Entry)).length) c8], Box pseen [.map (some bv)], Box p [.int .i64 x2], MkA (D :: dl), OwnSl 113 3 a12 ((l4 ++ ([(⟨r7, x2, t9⟩ : Entry)] : List Entry)).length) c8 (csl3 ++ [.slice a10 r7.length c7, .int .i64 x2, .int .i64 t9]), OwnMap bv (upd m3 r8 1)]) rfl ?_
        refine .nil ?_
        refine .blkN ?_
        refine .rdN (k := 2) q6749 rfl q6924 rfl ?_
        refine .cast (A' := [OwnSl 113 3 a11 (([(⟨r7, x2, t9⟩ : Entry)] : List Entry).length) 1 [.slice a10 r7.length c7, .int .i64 x2, .int .i64 t9], Box pkey2 [.slice a7 ((gt x.ops t9).pre.length) c4, .slice a8 ((gt x.ops t9).add.length) c5, .slice a9 ((gt x.ops t9).del.length) c6, .int .i64 ((gt x.ops t9).cost)], LA .ready none, Box pkey [.func (.func 49) #[] #[]], Box pv [.slice none 0 0], Box pv2 [.bool false], Box pv3 [.bool false], Box pqueue [.slice a12 ((l4 ++ ([(⟨r7, x2, t9⟩ : Entry)] : List Entry)).length) c8], Box pseen [.map (some bv)], Box p [.int .i64 x2], MkA (D :: dl), OwnSl 113 3 a12 ((l4 ++ ([(⟨r7, x2, t9⟩ : Entry)] : List Entry)).length) c8 (csl3 ++ [.slice a10 r7.length c7, .int .i64 x2, .int .i64 t9]), OwnMap bv (upd m3 r8 1)]) rfl ?_
        refine .gv (nt rfl) rfl rfl rfl q6919 rfl rfl ?_
        refine .v (pkT rfl q6919 rfl) rfl rfl rfl ?_
        refine .nil ?_
        refine .seqN ?_
        refine .cond rfl (fun e => absurd (e.symm.trans rfl) (by decide)) (fun _ => ?_)
        refine .skip ?_
        refine .blkN ?_
        refine .sel0 [2, 3, 4, 5, 6, 7, 8, 9, 10, 11, 12] (by decide) rfl ?_
        exact .use q6908 ((l4 ++ ([(⟨r7, x2, t9⟩ : Entry)] : List Entry)), (upd m3 r8 1), a12, c8, (csl3 ++ [.slice a10 r7.length c7, .int .i64 x2, .int .i64 t9]), h296) ⟨hF, q6934, (le296)⟩ (.cons rfl (.cons rfl (.cons rfl (.cons rfl (.cons rfl (.cons rfl (.nil))))))) rfl (FH.le_refl _)
      replace hF := hF.2 q6919
      refine .gS rfl rfl rfl q6919 rfl rfl ?_
      refine .gS rfl rfl rfl q6919 rfl rfl ?_
      refine .gS rfl rfl rfl q6919 rfl rfl ?_
      refine .gS rfl rfl rfl q6919 rfl rfl ?_
      refine .gS rfl rfl rfl q6919 rfl rfl ?_
      refine .gS rfl rfl rfl q6919 rfl rfl ?_
      refine .gS rfl rfl rfl q6919 rfl rfl ?_
      refine .gS rfl rfl rfl q6919 rfl rfl ?_
      refine .v (pkF rfl q6919 rfl) rfl rfl rfl ?_
      refine .nil ?_
      refine .seqN ?_
      refine .cond rfl (fun e => absurd (e.symm.trans rfl) (by decide)) (fun _ => ?_)
      refine .skip ?_
      refine .blkN ?_
      refine .sel0 [1, 2, 3, 4, 5, 6, 7, 8, 9, 10, 11] (by decide) rfl ?_
      exact .use q6908 (l4, m3, al4, cl4, csl3, h289) ⟨hF, q6813, (FH.le_refl _)⟩ (.cons rfl (.cons rfl (.cons rfl (.cons rfl (.cons rfl (.cons rfl (.nil))))))) rfl (FH.le_refl _)
    replace hF := hF.2 q6879
    refine .exit ?_
    refine .seqX ?_
    refine .seqX ?_
    refine .blkX ?_
    refine .res0 (.inr rfl) rfl (range_done (k := 0) q6749 rfl q6750 ?_)
    refine .cast (A' := [tru, Box pkey [.func (.func 49) #[] #[]], Box pv [.slice none 0 0], Box pv2 [.bool false], Box pv3 [.bool false], Box pqueue [.slice al4 l4.length cl4], Box pseen [.map (some bv)], Box p [.int .i64 x2], MkA (D :: dl), OwnSl 113 3 al4 l4.length cl4 csl3, OwnMap bv m3]) rfl ?_
    refine .blkN ?_
    refine .blkN ?_
    refine .seqN ?_
    refine .seq ?_
    refine .seq ?_
    refine .region ?_
    refine .v (ld1 rfl tO3 (cellB (off := 0) (k := 7) rfl rfl)) rfl rfl rfl ?_
    refine .nil ?_
    refine .seqN ?_
    refine .region ?_
    refine al tZ3 rfl (fun pat2 => ?_)
    refine st (p := pat2) (off := 0) (k := 0) (vs := [.int .i64 x2]) rfl rfl rfl (fun w => (tO3 w).2) rfl rfl rfl rfl ?_
    refine .cast (A' := [Box pat2 [.int .i64 x2], tru, Box pkey [.func (.func 49) #[] #[]], Box pv [.slice none 0 0], Box pv2 [.bool false], Box pv3 [.bool false], Box pqueue [.slice al4 l4.length cl4], Box pseen [.map (some bv)], Box p [.int .i64 x2], MkA (D :: dl), OwnSl 113 3 al4 l4.length cl4 csl3, OwnMap bv m3]) rfl ?_
    refine .nil ?_
    refine .seqN ?_
    refine .region ?_
    refine .v (ld1 rfl tO3 (cellB (off := 0) (k := 0) rfl rfl)) rfl rfl rfl ?_
    refine .v (bi rfl rfl rfl) rfl rfl rfl ?_
    refine st (p := pat2) (off := 0) (k := 0) (vs := [.int .i64 (IntKind.i64.wrap (x2 + 1))]) rfl rfl rfl (fun w => (tO3 w).2) rfl rfl rfl rfl ?_
    refine .cast (A' := [Box pat2 [.int .i64 (IntKind.i64.wrap (x2 + 1))], tru, Box pkey [.func (.func 49) #[] #[]], Box pv [.slice none 0 0], Box pv2 [.bool false], Box pv3 [.bool false], Box pqueue [.slice al4 l4.length cl4], Box pseen [.map (some bv)], Box p [.int .i64 x2], MkA (D :: dl), OwnSl 113 3 al4 l4.length cl4 csl3, OwnMap bv m3]) rfl ?_
    refine .nil ?_
    refine .sel0 [2, 3, 4, 5, 6, 7, 0, 9, 10, 11] (by decide) rfl ?_
    exact .roundN (IntKind.i64.wrap (x2 + 1), l4, m3, pat2, D :: dl, al4, cl4, csl3, h289) ⟨hF.1, q6813, (FH.le_trans (FH.le_trans (q4658) (le283)) (q6814))⟩ hF.2 rfl (.cons rfl (.cons rfl (.cons rfl (.cons rfl (.cons rfl (.cons rfl (.cons rfl (.cons rfl (.cons rfl (.nil)))))))))) rfl (FH.le_refl _)
  replace hF := hF.2 q5800
  refine .exit ?_
  refine .seqX ?_
  refine .seqX ?_
  refine .blkX ?_
  refine .seqN ?_
  refine .seq ?_
  refine .region ?_
  refine st (p := pv) (off := 0) (k := 1) (vs := [.slice none 0 0]) rfl rfl rfl (fun w => (tO22 w).2) rfl rfl rfl rfl ?_
  refine .cast (A' := [Box pkey [.func (.func 49) #[] #[]], Box pv [.slice none 0 0], Box pv2 [.bool false], Box pv3 [.bool false], Box pqueue [.slice al2 l.length cl2], Box pseen [.map (some bv)], Box p [.int .i64 x2], MkA dl, OwnSl 113 3 al2 l.length cl2 csl, OwnMap bv m]) rfl ?_
  refine st (p := pv2) (off := 0) (k := 2) (vs := [.bool false]) rfl rfl rfl (fun w => (tO4 w).2) rfl rfl rfl rfl ?_
  refine .cast (A' := [Box pkey [.func (.func 49) #[] #[]], Box pv [.slice none 0 0], Box pv2 [.bool false], Box pv3 [.bool false], Box pqueue [.slice al2 l.length cl2], Box pseen [.map (some bv)], Box p [.int .i64 x2], MkA dl, OwnSl 113 3 al2 l.length cl2 csl, OwnMap bv m]) rfl ?_
  refine st (p := pv3) (off := 0) (k := 3) (vs := [.bool true]) rfl rfl rfl (fun w => (tO4 w).2) rfl rfl rfl rfl ?_
  refine .cast (A' := [Box pkey [.func (.func 49) #[] #[]], Box pv [.slice none 0 0], Box pv2 [.bool false], Box pv3 [.bool true], Box pqueue [.slice al2 l.length cl2], Box pseen [.map (some bv)], Box p [.int .i64 x2], MkA dl, OwnSl 113 3 al2 l.length cl2 csl, OwnMap bv m]) rfl ?_
  refine .nil ?_
  refine .seqN ?_
  refine .ret ?_
  refine .resM (k := 7) rfl ?_
  refine .res3 rfl (rvC1 rfl tO22 (k := 1) rfl) (rvC1 rfl tO4 (k := 2) rfl) (rvC1 rfl tO4 (k := 3) rfl) (fun w' S => ⟨(([] : List Int), false, true), (none, 0), h199, hF, rfl, (q4658), ⟨RSl.nil_, (Nat.le_refl 0)⟩, S.none⟩)

theorem c_breadthS {h : FH} {w : World} (hs : Sub h w) (ht : TabH Tryz.prog h) (start2 : List (List Int)) (astart2 : Option Addr) (cstart2 : Nat) (_q1 : RSl h astart2 start2) (_q2 : start2.length ≤ cstart2) (x : Task) (ax : Option Addr) (cx : Nat) (_q3 : RSl h ax x.init) (_q4 : x.init.length ≤ cx) (ax2 : Option Addr) (cx2 : Nat) (_q5 : RSl h ax2 x.goal) (_q6 : x.goal.length ≤ cx2) (ax3 : Option Addr) (cx3 : Nat) (_q7 : RSl h ax3 x.ops) (_q8 : x.ops.length ≤ cx3) (px : Addr) (_q9 : CellsAt h px [.int .i64 x.facts, .slice ax x.init.length cx, .slice ax2 x.goal.length cx2, .slice ax3 x.ops.length cx3]) (hp : pre_breadthS start2 x) : Calls Tryz.prog 50 #[.slice astart2 start2.length cstart2, .func (.func 49) #[] #[], .func (.func 80) #[] #[.pointer (some px)], .func (.func 82) #[] #[]] w fun e w' => ∃ (z : Option Addr × Nat) (h1 : FH), e = .returned (.tuple #[.slice z.1 (sp_breadthS start2 x).1.length z.2, .bool (sp_breadthS start2 x).2.1, .bool (sp_breadthS start2 x).2.2]) ∧ FH.le h h1 ∧ (RSl h1 z.1 (sp_breadthS start2 x).1 ∧ (sp_breadthS start2 x).1.length ≤ z.2) ∧ SH (Kp.all w h) h1 w' [] :=
  (w_breadthS hs ht start2 astart2 cstart2 _q1 _q2  x ax cx _q3 _q4 ax2 cx2 _q5 _q6 ax3 cx3 _q7 _q8 px _q9  (fun r => r = sp_breadthS start2 x) (ok_breadthS start2 x hp)).mono fun _ _ ⟨r, z, h1, hk, he, hl, hf, hS⟩ => by subst hk; exact ⟨z, h1, he, hl, hf, hS⟩

set_option maxHeartbeats 8000000 in
theorem w_breadthP {h : FH} {w : World} (hs : Sub h w) (ht : TabH Tryz.prog h) (start2 : List (List Int)) (astart2 : Option Addr) (cstart2 : Nat) (_q1 : RSl h astart2 start2) (_q2 : start2.length ≤ cstart2) (x : Task) (ax : Option Addr) (cx : Nat) (_q3 : RSl h ax x.init) (_q4 : x.init.length ≤ cx) (ax2 : Option Addr) (cx2 : Nat) (_q5 : RSl h ax2 x.goal) (_q6 : x.goal.length ≤ cx2) (ax3 : Option Addr) (cx3 : Nat) (_q7 : RSl h ax3 x.ops) (_q8 : x.ops.length ≤ cx3) (px : Addr) (_q9 : CellsAt h px [.int .i64 x.facts, .slice ax x.init.length cx, .slice ax2 x.goal.length cx2, .slice ax3 x.ops.length cx3]) (x2 : Task) (ax22 : Option Addr) (cx22 : Nat) (_q10 : RSl h ax22 x2.init) (_q11 : x2.init.length ≤ cx22) (ax23 : Option Addr) (cx23 : Nat) (_q12 : RSl h ax23 x2.goal) (_q13 : x2.goal.length ≤ cx23) (ax24 : Option Addr) (cx24 : Nat) (_q14 : RSl h ax24 x2.ops) (_q15 : x2.ops.length ≤ cx24) (px2 : Addr) (_q16 : CellsAt h px2 [.int .i64 x2.facts, .slice ax22 x2.init.length cx22, .slice ax23 x2.goal.length cx23, .slice ax24 x2.ops.length cx24]) (K : (List Int × Bool × Bool) → Prop) (hF : F_breadthP start2 x x2 K) : Calls Tryz.prog 50 #[.slice astart2 start2.length cstart2, .func (.func 49) #[] #[], .func (.func 80) #[] #[.pointer (some px)], .func (.func 51) #[] #[.pointer (some px2)]] w fun e w' => ∃ (r : List Int × Bool × Bool) (z : Option Addr × Nat) (h1 : FH), K r ∧ e = .returned (.tuple #[.slice z.1 r.1.length z.2, .bool r.2.1, .bool r.2.2]) ∧ FH.le h h1 ∧ (RSl h1 z.1 r.1 ∧ r.1.length ≤ z.2) ∧ SH (Kp.all w h) h1 w' [] := by
  refine enterM (args := [.slice astart2 start2.length cstart2, .func (.func 49) #[] #[], .func (.func 80) #[] #[.pointer (some px)], .func (.func 51) #[] #[.pointer (some px2)]]) Tryz.func50 rfl Tryz.ntmps50 rfl hs ?_
  refine .seq ?_
  refine .region ?_
  refine bx (vs := [.func (.func 49) #[] #[]]) rfl rfl rfl (fun pkey => ?_)
  refine al tZ22 rfl (fun pv => ?_)
  refine al tZ4 rfl (fun pv2 => ?_)
  refine al tZ4 rfl (fun pv3 => ?_)
  refine .nil ?_
  refine .seqN ?_
  refine .seq ?_
  refine .region ?_
  refine .v (mv rfl) rfl rfl rfl ?_
  refine .v (bld (cs := #[.slice astart2 start2.length cstart2, .int .i64 (-1), .int .i64 0]) (pv := [(0, .slice astart2 start2.length cstart2), (1, .int .i64 (-1))]) tB113 rfl rfl) rfl rfl rfl ?_
  refine bs2 (cs := #[.slice astart2 start2.length cstart2, .int .i64 (-1), .int .i64 0]) (pv := [(0, .agg #[.slice astart2 start2.length cstart2, .int .i64 (-1), .int .i64 0])]) tS114 rfl rfl (by decide) (by decide) rfl rfl rfl (fun a _ => ?_)
  refine .cast (A' := [OwnSl 113 3 a (([(⟨start2, (-1), 0⟩ : Entry)] : List Entry).length) 1 [.slice astart2 start2.length cstart2, .int .i64 (-1), .int .i64 0], Box pv3 [.bool false], Box pv2 [.bool false], Box pv [.slice none 0 0], Box pkey [.func (.func 49) #[] #[]], MkA []]) rfl ?_
  refine al tZ114 rfl (fun pqueue => ?_)
  refine st (p := pqueue) (off := 0) (k := 0) (vs := [.slice a (([(⟨start2, (-1), 0⟩ : Entry)] : List Entry).length) 1]) rfl rfl rfl (fun w => (tO114 w).2) rfl rfl rfl rfl ?_
  refine .cast (A' := [Box pqueue [.slice a (([(⟨start2, (-1), 0⟩ : Entry)] : List Entry).length) 1], OwnSl 113 3 a (([(⟨start2, (-1), 0⟩ : Entry)] : List Entry).length) 1 [.slice astart2 start2.length cstart2, .int .i64 (-1), .int .i64 0], Box pv3 [.bool false], Box pv2 [.bool false], Box pv [.slice none 0 0], Box pkey [.func (.func 49) #[] #[]], MkA []]) rfl ?_
  refine .nil ?_
  refine .seqN ?_
  refine .seq ?_
  refine .region ?_
  refine mm rfl (fun bv => ?_)
  refine .v (ld1 rfl tO80 (cellB (off := 0) (k := 6) rfl rfl)) rfl rfl rfl ?_
  refine .v (mv rfl) rfl rfl rfl ?_
  obtain ⟨q18, hF⟩ := hF
  obtain ⟨r2, q19⟩ : ∃ y_ : List UInt8, y_ = sp_key start2 := ⟨_, rfl⟩
  replace hF := hF r2 q19
  refine .c (cl (v := strV r2) Tryz.call49 rfl rfl (fun w S => (by rw [q19]; exact c_key S.sub (ht.mono (FH.le_refl _)) start2 astart2 cstart2 _q1 _q2 q18))) rfl rfl rfl ?_
  refine mi tM97 rfl rfl rfl (kk := 0) rfl ?_
  refine .cast (A' := [OwnMap bv (upd (fun _ => 0) r2 1), Box pqueue [.slice a (([(⟨start2, (-1), 0⟩ : Entry)] : List Entry).length) 1], OwnSl 113 3 a (([(⟨start2, (-1), 0⟩ : Entry)] : List Entry).length) 1 [.slice astart2 start2.length cstart2, .int .i64 (-1), .int .i64 0], Box pv3 [.bool false], Box pv2 [.bool false], Box pv [.slice none 0 0], Box pkey [.func (.func 49) #[] #[]], MkA []]) rfl ?_
  refine .v (mv rfl) rfl rfl rfl ?_
  refine al tZ97 rfl (fun pseen => ?_)
  refine st (p := pseen) (off := 0) (k := 0) (vs := [.map (some bv)]) rfl rfl rfl (fun w => (tO97 w).2) rfl rfl rfl rfl ?_
  refine .cast (A' := [Box pseen [.map (some bv)], OwnMap bv (upd (fun _ => 0) r2 1), Box pqueue [.slice a (([(⟨start2, (-1), 0⟩ : Entry)] : List Entry).length) 1], OwnSl 113 3 a (([(⟨start2, (-1), 0⟩ : Entry)] : List Entry).length) 1 [.slice astart2 start2.length cstart2, .int .i64 (-1), .int .i64 0], Box pv3 [.bool false], Box pv2 [.bool false], Box pv [.slice none 0 0], Box pkey [.func (.func 49) #[] #[]], MkA []]) rfl ?_
  refine .nil ?_
  refine .seqN ?_
  refine .seq ?_
  refine .seq ?_
  refine .region ?_
  refine al tZ3 rfl (fun pat => ?_)
  refine st (p := pat) (off := 0) (k := 0) (vs := [.int .i64 0]) rfl rfl rfl (fun w => (tO3 w).2) rfl rfl rfl rfl ?_
  refine .cast (A' := [Box pat [.int .i64 0], Box pseen [.map (some bv)], OwnMap bv (upd (fun _ => 0) r2 1), Box pqueue [.slice a (([(⟨start2, (-1), 0⟩ : Entry)] : List Entry).length) 1], OwnSl 113 3 a (([(⟨start2, (-1), 0⟩ : Entry)] : List Entry).length) 1 [.slice astart2 start2.length cstart2, .int .i64 (-1), .int .i64 0], Box pv3 [.bool false], Box pv2 [.bool false], Box pv [.slice none 0 0], Box pkey [.func (.func 49) #[] #[]], MkA []]) rfl ?_
  refine .nil ?_
  refine .seqN ?_
  refine .block ?_
  refine .sel0 [8, 7, 6, 5, 3, 1, 0, 9, 4, 2] (by decide) rfl ?_
  obtain ⟨I1, μ1, q5819, q5820⟩ := hF
  refine .loopN' (σ := Int × List Entry × (List UInt8 → Int) × Addr × List Nat × Option Addr × Nat × List Value × FH) (fun z => I1 z.1 z.2.1 z.2.2.1 ∧ RepL z.2.2.2.2.2.2.2.2 z.2.1 z.2.2.2.2.2.2.2.1 ∧ FH.le h z.2.2.2.2.2.2.2.2) (fun z => μ1 z.1 z.2.1 z.2.2.1) (fun z => ⟨92, none, z.2.2.2.2.1⟩) (fun z => [(2, .func (.func 80) #[] #[.pointer (some px)]), (3, .func (.func 51) #[] #[.pointer (some px2)]), (5, .pointer (some pkey)), (8, .pointer (some pv)), (9, .pointer (some pv2)), (10, .pointer (some pv3)), (11, .pointer (some pqueue)), (12, .pointer (some pseen)), (13, .pointer (some z.2.2.2.1))]) (fun z => [Box pkey [.func (.func 49) #[] #[]], Box pv [.slice none 0 0], Box pv2 [.bool false], Box pv3 [.bool false], Box pqueue [.slice z.2.2.2.2.2.1 z.2.1.length z.2.2.2.2.2.2.1], Box pseen [.map (some bv)], Box z.2.2.2.1 [.int .i64 z.1], MkA z.2.2.2.2.1, OwnSl 113 3 z.2.2.2.2.2.1 z.2.1.length z.2.2.2.2.2.2.1 z.2.2.2.2.2.2.2.1, OwnMap bv z.2.2.1]) (fun z => z.2.2.2.2.2.2.2.2) (0, ([(⟨start2, (-1), 0⟩ : Entry)] : List Entry), (upd (fun _ => 0) r2 1), pat, [], a, 1, [.slice astart2 start2.length cstart2, .int .i64 (-1), .int .i64 0], h) ⟨q5819, (show RepL h ([(⟨start2, (-1), 0⟩ : Entry)] : List Entry) [.slice astart2 start2.length cstart2, .int .i64 (-1), .int .i64 0] from ⟨[.slice astart2 start2.length cstart2, .int .i64 (-1), .int .i64 0], _, rfl, ⟨astart2, cstart2, rfl, ⟨_q2, _q1⟩⟩, rfl⟩), (FH.le_refl _)⟩ (fun _ => rfl) rfl (.cons rfl (.cons rfl (.cons rfl (.cons rfl (.cons rfl (.cons rfl (.cons rfl (.cons rfl (.cons rfl (.nil)))))))))) rfl (FH.le_refl _) ?_
  rintro ⟨x3, l, m, p, dl, al2, cl2, csl, h199⟩ ⟨q5819, q4676, q4677⟩
  have hF := q5820 x3 l m q5819
  show J _ _ ⟨92, none, dl⟩ _ _ [(2, .func (.func 80) #[] #[.pointer (some px)]), (3, .func (.func 51) #[] #[.pointer (some px2)]), (5, .pointer (some pkey)), (8, .pointer (some pv)), (9, .pointer (some pv2)), (10, .pointer (some pv3)), (11, .pointer (some pqueue)), (12, .pointer (some pseen)), (13, .pointer (some p))] [Box pkey [.func (.func 49) #[] #[]], Box pv [.slice none 0 0], Box pv2 [.bool false], Box pv3 [.bool false], Box pqueue [.slice al2 l.length cl2], Box pseen [.map (some bv)], Box p [.int .i64 x3], MkA dl, OwnSl 113 3 al2 l.length cl2 csl, OwnMap bv m] h199
  refine .seq ?_
  refine .seq ?_
  refine .region ?_
  refine .v (ld1 rfl tO3 (cellB (off := 0) (k := 6) rfl rfl)) rfl rfl rfl ?_
  refine .v (ld1 rfl tO114 (cellB (off := 0) (k := 4) rfl rfl)) rfl rfl rfl ?_
  refine .v (ln rfl tS114.is) rfl rfl rfl ?_
  refine .v (bi rfl rfl rfl) rfl rfl rfl ?_
  refine .nil ?_
  refine .seqN ?_
  refine .cond rfl (fun q5822 => ?_) (fun q5822 => ?_)
  · replace hF := hF.1 q5822
    refine .skip ?_
    refine .seqN ?_
    refine .seq ?_
    refine .block ?_
    refine .seq ?_
    refine .seq ?_
    refine .region ?_
    refine .v (mv rfl) rfl rfl rfl ?_
    refine .v (ld1 rfl tO114 (cellB (off := 0) (k := 4) rfl rfl)) rfl rfl rfl ?_
    refine .v (ld1 rfl tO3 (cellB (off := 0) (k := 6) rfl rfl)) rfl rfl rfl ?_
    obtain ⟨q6581, hF⟩ := hF
    refine .v (ixS rfl rfl tS114 (k := 8) rfl q6581) rfl rfl rfl ?_
    refine .v (fa rfl tF113_0) rfl rfl rfl ?_
    obtain ⟨_, ⟨a2, c, rfl, q6582, q6583⟩, q6584⟩ := RepL.get q4676 (gt_get q6581)
    refine .v (ld1 (v := .slice a2 ((gt l x3).node.length) c) rfl tO35 (cellF (k := 8) rfl (q6584 0 _ rfl))) rfl rfl rfl ?_
    obtain ⟨q6585, hF⟩ := hF
    obtain ⟨r3, q6586⟩ : ∃ y_ : Bool, y_ = sp_plan1 ((gt l x3).node) x2 := ⟨_, rfl⟩
    replace hF := hF r3 q6586
    refine .c (cl (v := .bool r3) Tryz.call51 rfl rfl (fun w S => (by rw [q6586]; exact c_plan1 S.sub ((gt l x3).node) a2 c q6583 q6582 x2 ax22 cx22 (_q10.mono (q4677)) _q11 ax23 cx23 (_q12.mono (q4677)) _q13 ax24 cx24 (_q14.mono (q4677)) _q15 px2 (CellsAt.mono (q4677) _q16) q6585))) rfl rfl rfl ?_
    refine .nil ?_
    refine .seqN ?_
    refine .cond rfl (fun q6679 => ?_) (fun q6679 => ?_)
    · replace hF := hF.1 q6679
      refine .seq ?_
      refine .region ?_
      refine .v (asg rfl) rfl rfl rfl ?_
      refine .nil ?_
      refine .seqN ?_
      refine .seq ?_
      refine .seq ?_
      refine .region ?_
      refine .v (ld1 rfl tO3 (cellB (off := 0) (k := 6) rfl rfl)) rfl rfl rfl ?_
      refine .v (asg rfl) rfl rfl rfl ?_
      refine .nil ?_
      refine .seqN ?_
      refine .block ?_
      refine .nilSl 3 1 ?_
      refine .cast (A' := [OwnSl 3 1 none (([] : List Int).length) 0 (flL ([] : List Int)), Box pkey [.func (.func 49) #[] #[]], Box pv [.slice none 0 0], Box pv2 [.bool false], Box pv3 [.bool false], Box pqueue [.slice al2 l.length cl2], Box pseen [.map (some bv)], Box p [.int .i64 x3], MkA dl, OwnSl 113 3 al2 l.length cl2 csl, OwnMap bv m]) rfl ?_
      refine .sel0 [2, 3, 4, 5, 0, 8, 9] (by decide) rfl ?_
      obtain ⟨I2, μ2, q6749, q6750⟩ := hF
      refine .loop' (σ := Int × List Int × Option Addr × Nat) (fun z => I2 z.1 z.2.1) (fun z => μ2 z.1 z.2.1) (fun z => [(8, .pointer (some pv)), (9, .pointer (some pv2)), (10, .pointer (some pv3)), (11, .pointer (some pqueue)), (14, .slice z.2.2.1 z.2.1.length z.2.2.2), (15, .int .i64 z.1)]) (fun z => [Box pv [.slice none 0 0], Box pv2 [.bool false], Box pv3 [.bool false], Box pqueue [.slice al2 l.length cl2], OwnSl 3 1 z.2.2.1 z.2.1.length z.2.2.2 (flL z.2.1), MkA dl, OwnSl 113 3 al2 l.length cl2 csl]) (fun _ => h199) (x3, ([] : List Int), none, 0) q6749 (.cons rfl (.cons rfl (.cons rfl (.cons rfl (.cons rfl (.cons rfl (.nil))))))) rfl (FH.le_refl _) ?_
      rintro ⟨i, out, aout, cout⟩ q6749
      have hF := q6750 i out q6749
      show J _ _ _ _ _ [(8, .pointer (some pv)), (9, .pointer (some pv2)), (10, .pointer (some pv3)), (11, .pointer (some pqueue)), (14, .slice aout out.length cout), (15, .int .i64 i)] [Box pv [.slice none 0 0], Box pv2 [.bool false], Box pv3 [.bool false], Box pqueue [.slice al2 l.length cl2], OwnSl 3 1 aout out.length cout (flL out), MkA dl, OwnSl 113 3 al2 l.length cl2 csl] h199
      refine .seq ?_
      refine .seq ?_
      refine .region ?_
      refine .v (ld1 rfl tO114 (cellB (off := 0) (k := 3) rfl rfl)) rfl rfl rfl ?_
      refine .v (mv rfl) rfl rfl rfl ?_
      obtain ⟨q6751, hF⟩ := hF
      refine .v (ixS rfl rfl tS114 (k := 6) rfl q6751) rfl rfl rfl ?_
      refine .v (fa rfl tF113_1) rfl rfl rfl ?_
      obtain ⟨_, ⟨a3, c2, rfl, q6752, q6753⟩, q6754⟩ := RepL.get q4676 (gt_get q6751)
      refine .v (ld1 (v := .int .i64 ((gt l i).from_)) rfl tO3 (cellF (k := 6) rfl (q6754 1 _ rfl))) rfl rfl rfl ?_
      refine .v (bi rfl rfl rfl) rfl rfl rfl ?_
      refine .nil ?_
      refine .seqN ?_
      refine .cond rfl (fun q6756 => ?_) (fun q6756 => ?_)
      · replace hF := hF.1 q6756
        refine .skip ?_
        refine .seqN ?_
        refine .seq ?_
        refine .block ?_
        refine .region ?_
        refine .v (mv rfl) rfl rfl rfl ?_
        refine .v (ld1 rfl tO114 (cellB (off := 0) (k := 3) rfl rfl)) rfl rfl rfl ?_
        refine .v (mv rfl) rfl rfl rfl ?_
        refine .v (ixS rfl rfl tS114 (k := 6) rfl q6751) rfl rfl rfl ?_
        refine .v (fa rfl tF113_2) rfl rfl rfl ?_
        refine .v (ld1 (v := .int .i64 ((gt l i).step)) rfl tO3 (cellF (k := 6) rfl (q6754 2 _ rfl))) rfl rfl rfl ?_
        refine bs2 (cs := #[.int .i64 ((gt l i).step)]) (pv := [(0, .int .i64 ((gt l i).step))]) tS22 rfl rfl (by decide) (by decide) rfl rfl rfl (fun a4 _ => ?_)
        refine .cast (A' := [OwnSl 3 1 a4 (([(gt l i).step] : List Int).length) 1 (flL ([(gt l i).step] : List Int)), Box pv [.slice none 0 0], Box pv2 [.bool false], Box pv3 [.bool false], Box pqueue [.slice al2 l.length cl2], OwnSl 3 1 aout out.length cout (flL out), MkA dl, OwnSl 113 3 al2 l.length cl2 csl]) rfl ?_
        obtain ⟨q6764, hF⟩ := hF
        have q6765 : out.length + ([(gt l i).step] : List Int).length = ((out ++ ([(gt l i).step] : List Int))).length := len_app rfl rfl
        refine app (k := 5) (news := flL ([(gt l i).step] : List Int)) (cs' := flL (out ++ ([(gt l i).step] : List Int))) (nm := ((out ++ ([(gt l i).step] : List Int))).length) tS22 rfl (by decide) rfl rfl rfl (by rw [flL_len]; rfl) (srcS (k := 0) rfl) (flL_one _) (room_of q6765 q6764).1 (room_of q6765 q6764).2 q6765 (flL_append _ _).symm rfl (fun a5 c3 => ?_)
        refine .cast (A' := [OwnSl 3 1 a4 (([(gt l i).step] : List Int).length) 1 (flL ([(gt l i).step] : List Int)), Box pv [.slice none 0 0], Box pv2 [.bool false], Box pv3 [.bool false], Box pqueue [.slice al2 l.length cl2], OwnSl 3 1 a5 ((out ++ ([(gt l i).step] : List Int)).length) c3 (flL (out ++ ([(gt l i).step] : List Int))), MkA dl, OwnSl 113 3 al2 l.length cl2 csl]) rfl ?_
        refine .v (asg rfl) rfl rfl rfl ?_
        refine .nil ?_
        refine .blkN ?_
        refine .seqN ?_
        refine .region ?_
        refine .v (ld1 rfl tO114 (cellB (off := 0) (k := 4) rfl rfl)) rfl rfl rfl ?_
        refine .v (mv rfl) rfl rfl rfl ?_
        refine .v (ixS rfl rfl tS114 (k := 7) rfl q6751) rfl rfl rfl ?_
        refine .v (fa rfl tF113_1) rfl rfl rfl ?_
        refine .v (ld1 (v := .int .i64 ((gt l i).from_)) rfl tO3 (cellF (k := 7) rfl (q6754 1 _ rfl))) rfl rfl rfl ?_
        refine .v (asg rfl) rfl rfl rfl ?_
        refine .nil ?_
        refine .sel0 [1, 2, 3, 4, 5, 6, 7] (by decide) rfl ?_
        exact .round ((gt l i).from_, (out ++ ([(gt l i).step] : List Int)), a5, c3) hF.1 hF.2 (.cons rfl (.cons rfl (.cons rfl (.cons rfl (.cons rfl (.cons rfl (.nil))))))) rfl (FH.le_refl _)
      replace hF := hF.2 q6756
      refine .exit ?_
      refine .seqX ?_
      refine .seqX ?_
      refine .blkX ?_
      refine .seqN ?_
      refine .seq ?_
      refine .region ?_
      refine .v (mv rfl) rfl rfl rfl ?_
      obtain ⟨q6766, hF⟩ := hF
      obtain ⟨r4, q6767⟩ : ∃ y_ : List Int, y_ = sp_reverse out := ⟨_, rfl⟩
      replace hF := hF r4 q6767
      refine callX (k := 4) (v := .tuple #[]) (X' := OwnSl 3 1 aout out.length cout (flL r4)) rfl Tryz.call86 rfl rfl (fun w g hx sg hd hs' => ?_) rfl ?_
      · rw [q6767]; exact c_reverse hs' out aout cout hx sg hd q6766
      have q6768 : r4.length = out.length := by rw [q6767]; exact (sp_reverse_len out).trans rfl
      refine .cast (A' := [Box pv [.slice none 0 0], Box pv2 [.bool false], Box pv3 [.bool false], Box pqueue [.slice al2 l.length cl2], OwnSl 3 1 aout out.length cout (flL r4), MkA dl, OwnSl 113 3 al2 l.length cl2 csl]) rfl ?_
      refine .nil ?_
      refine .seqN ?_
      refine .seq ?_
      refine .region ?_
      refine .v (mv rfl) rfl rfl rfl ?_
      refine st (p := pv) (off := 0) (k := 0) (vs := [.slice aout out.length cout]) rfl rfl rfl (fun w => (tO22 w).2) rfl rfl rfl rfl ?_
      refine .cast (A' := [Box pv [.slice aout out.length cout], Box pv2 [.bool false], Box pv3 [.bool false], Box pqueue [.slice al2 l.length cl2], OwnSl 3 1 aout out.length cout (flL r4), MkA dl, OwnSl 113 3 al2 l.length cl2 csl]) rfl ?_
      refine st (p := pv2) (off := 0) (k := 1) (vs := [.bool true]) rfl rfl rfl (fun w => (tO4 w).2) rfl rfl rfl rfl ?_
      refine .cast (A' := [Box pv [.slice aout out.length cout], Box pv2 [.bool true], Box pv3 [.bool false], Box pqueue [.slice al2 l.length cl2], OwnSl 3 1 aout out.length cout (flL r4), MkA dl, OwnSl 113 3 al2 l.length cl2 csl]) rfl ?_
      refine st (p := pv3) (off := 0) (k := 2) (vs := [.bool true]) rfl rfl rfl (fun w => (tO4 w).2) rfl rfl rfl rfl ?_
      refine .cast (A' := [Box pv [.slice aout out.length cout], Box pv2 [.bool true], Box pv3 [.bool true], Box pqueue [.slice al2 l.length cl2], OwnSl 3 1 aout out.length cout (flL r4), MkA dl, OwnSl 113 3 al2 l.length cl2 csl]) rfl ?_
      refine .nil ?_
      refine .seqN ?_
      refine .freezeL (k := 4) rfl (fun h282 le282 q6770 q6769 => ?_)
      refine .cast (A' := [Box pv [.slice aout out.length cout], Box pv2 [.bool true], Box pv3 [.bool true], Box pqueue [.slice al2 l.length cl2], tru, MkA dl, OwnSl 113 3 al2 l.length cl2 csl]) rfl ?_
      refine .ret ?_
      refine .seqR ?_
      refine .blkR ?_
      refine .seqR ?_
      refine .seqR ?_
      refine .blkR ?_
      refine .seqR ?_
      refine .resM (k := 5) rfl ?_
      refine .res3 rfl (rvC1 rfl tO22 (k := 0) rfl) (rvC1 rfl tO4 (k := 1) rfl) (rvC1 rfl tO4 (k := 2) rfl) (fun w' S => ⟨(r4, true, true), (aout, cout), h282, hF, (by simp only [q6768]), (FH.le_trans (q4677) (le282)), ⟨(RSl.of q6769), (by rw [q6768]; exact q6770)⟩, S.none⟩)
    replace hF := hF.2 q6679
    refine .skip ?_
    refine .seqN ?_
    refine .seq ?_
    refine .region ?_
    refine .v (mv rfl) rfl rfl rfl ?_
    refine .v (ld1 rfl tO114 (cellB (off := 0) (k := 4) rfl rfl)) rfl rfl rfl ?_
    refine .v (ld1 rfl tO3 (cellB (off := 0) (k := 6) rfl rfl)) rfl rfl rfl ?_
    refine .v (ixS rfl rfl tS114 (k := 8) rfl q6581) rfl rfl rfl ?_
    refine .v (fa rfl tF113_0) rfl rfl rfl ?_
    refine .v (ld1 (v := .slice a2 ((gt l x3).node.length) c) rfl tO35 (cellF (k := 8) rfl (q6584 0 _ rfl))) rfl rfl rfl ?_
    obtain ⟨r5, q6771⟩ : ∃ y_ : Unit, y_ = sp_bnext1 ((gt l x3).node) x := ⟨_, rfl⟩
    replace hF := hF r5 q6771
    refine clR (α := Addr × Addr) (Φ := fun h1 z => CellsAt h1 z.1 [.int .i64 x.facts, .slice ax x.init.length cx, .slice ax2 x.goal.length cx2, .slice ax3 x.ops.length cx3] ∧ CellsAt h1 z.2 [.slice a2 ((gt l x3).node.length) c]) (V := fun z => .func (.func 103) #[] #[.pointer (some z.1), .pointer (some z.2)]) Tryz.call80 rfl rfl (fun w S => (by exact c_bnext1 S.sub ((gt l x3).node) a2 c q6583 q6582 x ax cx (_q3.mono (q4677)) _q4 ax2 cx2 (_q5.mono (q4677)) _q6 ax3 cx3 (_q7.mono (q4677)) _q8 px (CellsAt.mono (q4677) _q9) )) rfl (fun z h283 le283 hz => ?_)
    obtain ⟨p3, p4⟩ := z
    obtain ⟨q6772, q6773⟩ := hz
    refine .nil ?_
    refine .seqN ?_
    refine .block ?_
    refine .sub (s' := [(2, .func (.func 80) #[] #[.pointer (some px)]), (3, .func (.func 51) #[] #[.pointer (some px2)]), (5, .pointer (some pkey)), (8, .pointer (some pv)), (9, .pointer (some pv2)), (10, .pointer (some pv3)), (11, .pointer (some pqueue)), (12, .pointer (some pseen)), (13, .pointer (some p)), (69, .func (.func 103) #[] #[.pointer (some p3), .pointer (some p4)])]) (.cons rfl (.cons rfl (.cons rfl (.cons rfl (.cons rfl (.cons rfl (.cons rfl (.cons rfl (.cons rfl (.cons rfl (.nil))))))))))) ?_
    refine .rangeF (k := 7) (caps := [.pointer (some p3), .pointer (some p4)]) rfl rfl Tryz.func103 rfl Tryz.ntmps103 rfl Tryz.call103 (fun l3 D LA a6 q6774 q6775 => ?_)
    refine .cast (A' := [LA .ready none, Box pkey [.func (.func 49) #[] #[]], Box pv [.slice none 0 0], Box pv2 [.bool false], Box pv3 [.bool false], Box pqueue [.slice al2 l.length cl2], Box pseen [.map (some bv)], Box p [.int .i64 x3], MkA (D :: dl), OwnSl 113 3 al2 l.length cl2 csl, OwnMap bv m]) rfl ?_
    refine .seq ?_
    refine .region ?_
    refine .v (fa rfl tF25_3) rfl rfl rfl ?_
    refine .v (ld1 (v := .slice ax3 x.ops.length cx3) rfl tO23 (cellH (CellsAt.mono (FH.le_refl _) q6772 3 _ rfl))) rfl rfl rfl ?_
    refine .v (ln rfl tS23.is) rfl rfl rfl ?_
    refine .v (mv rfl) rfl rfl rfl ?_
    refine .nil ?_
    refine .seqN ?_
    refine .block ?_
    obtain ⟨I3, μ3, q6900, q6901⟩ := hF
    refine .loop' (σ := Int × List Entry × (List UInt8 → Int) × Option Addr × Nat × List Value × FH) (fun z => I3 z.1 z.2.1 z.2.2.1 ∧ RepL z.2.2.2.2.2.2 z.2.1 z.2.2.2.2.2.1 ∧ FH.le h283 z.2.2.2.2.2.2) (fun z => μ3 z.1 z.2.1 z.2.2.1) (fun z => [(0, .func (.yield l3) #[] #[]), (1, .pointer (some p3)), (2, .pointer (some p4)), (7, .slice ax3 x.ops.length cx3), (8, .int .i64 ((x.ops.length : Nat) : Int)), (9, .int .i64 z.1)]) (fun z => [LA .ready none, Box pkey [.func (.func 49) #[] #[]], Box pv [.slice none 0 0], Box pv2 [.bool false], Box pv3 [.bool false], Box pqueue [.slice z.2.2.2.1 z.2.1.length z.2.2.2.2.1], Box pseen [.map (some bv)], Box p [.int .i64 x3], MkA (D :: dl), OwnSl 113 3 z.2.2.2.1 z.2.1.length z.2.2.2.2.1 z.2.2.2.2.2.1, OwnMap bv z.2.2.1]) (fun z => z.2.2.2.2.2.2) (0, l, m, al2, cl2, csl, h283) ⟨q6900, (RepL.mono (le283) q4676), (FH.le_refl _)⟩ (.cons rfl (.cons rfl (.cons rfl (.cons rfl (.cons rfl (.cons rfl (.nil))))))) rfl (FH.le_refl _) ?_
    rintro ⟨t9, l4, m3, al4, cl4, csl3, h289⟩ ⟨q6900, q6838, q6839⟩
    have hF := q6901 t9 l4 m3 q6900
    show J _ _ _ _ _ [(0, .func (.yield l3) #[] #[]), (1, .pointer (some p3)), (2, .pointer (some p4)), (7, .slice ax3 x.ops.length cx3), (8, .int .i64 ((x.ops.length : Nat) : Int)), (9, .int .i64 t9)] [LA .ready none, Box pkey [.func (.func 49) #[] #[]], Box pv [.slice none 0 0], Box pv2 [.bool false], Box pv3 [.bool false], Box pqueue [.slice al4 l4.length cl4], Box pseen [.map (some bv)], Box p [.int .i64 x3], MkA (D :: dl), OwnSl 113 3 al4 l4.length cl4 csl3, OwnMap bv m3] h289
    refine .seq ?_
    refine .region ?_
    refine .v (bi rfl rfl rfl) rfl rfl rfl ?_
    refine .nil ?_
    refine .seqN ?_
    refine .seq ?_
    refine .cond rfl (fun q6904 => ?_) (fun q6904 => ?_)
    · replace hF := hF.1 q6904
      refine .skip ?_
      refine .seqN ?_
      refine .share (σ := List Entry × (List UInt8 → Int) × Option Addr × Nat × List Value × FH) (fun z => F_breadthP_J1 t9 I3 μ3 l4 m3 z.1 z.2.1 ∧ RepL z.2.2.2.2.2 z.1 z.2.2.2.2.1 ∧ FH.le h289 z.2.2.2.2.2) (fun _ => [(0, .func (.yield l3) #[] #[]), (1, .pointer (some p3)), (2, .pointer (some p4)), (7, .slice ax3 x.ops.length cx3), (8, .int .i64 ((x.ops.length : Nat) : Int)), (9, .int .i64 t9)]) (fun z => [LA .ready none, Box pkey [.func (.func 49) #[] #[]], Box pv [.slice none 0 0], Box pv2 [.bool false], Box pv3 [.bool false], Box pqueue [.slice z.2.2.1 z.1.length z.2.2.2.1], Box pseen [.map (some bv)], Box p [.int .i64 x3], MkA (D :: dl), OwnSl 113 3 z.2.2.1 z.1.length z.2.2.2.1 z.2.2.2.2.1, OwnMap bv z.2.1]) (fun z => z.2.2.2.2.2) ?_ (fun q6933 => ?_)
      · rintro ⟨l6, m5, al6, cl6, csl5, h295⟩ ⟨hF, q6931, q6932⟩
        show J _ _ _ _ _ [(0, .func (.yield l3) #[] #[]), (1, .pointer (some p3)), (2, .pointer (some p4)), (7, .slice ax3 x.ops.length cx3), (8, .int .i64 ((x.ops.length : Nat) : Int)), (9, .int .i64 t9)] [LA .ready none, Box pkey [.func (.func 49) #[] #[]], Box pv [.slice none 0 0], Box pv2 [.bool false], Box pv3 [.bool false], Box pqueue [.slice al6 l6.length cl6], Box pseen [.map (some bv)], Box p [.int .i64 x3], MkA (D :: dl), OwnSl 113 3 al6 l6.length cl6 csl5, OwnMap bv m5] h295
        refine .region ?_
        refine .v (bi rfl rfl rfl) rfl rfl rfl ?_
        refine .v (mv rfl) rfl rfl rfl ?_
        refine .nil ?_
        exact .round (IntKind.i64.wrap (t9 + 1), l6, m5, al6, cl6, csl5, h295) ⟨hF.1, q6931, (FH.le_trans (q6839) (q6932))⟩ hF.2 (.cons rfl (.cons rfl (.cons rfl (.cons rfl (.cons rfl (.cons rfl (.nil))))))) rfl (FH.le_refl _)
      refine .block ?_
      refine .seq ?_
      refine .region ?_
      refine .v (mv rfl) rfl rfl rfl ?_
      obtain ⟨q6934, hF⟩ := hF
      refine .v (ix rfl rfl tS23 (_q7.ne (by decide) (inb_pos q6934)) q6934) rfl rfl rfl ?_
      obtain ⟨_, ⟨a7, c4, a8, c5, a9, c6, rfl, ⟨q6935, q6936⟩, ⟨q6937, q6938⟩, q6939, q6940⟩, q6941⟩ := _q7.elem q6934
      refine .v (ldA (cs := [.slice a7 ((gt x.ops t9).pre.length) c4, .slice a8 ((gt x.ops t9).add.length) c5, .slice a9 ((gt x.ops t9).del.length) c6, .int .i64 ((gt x.ops t9).cost)]) rfl tA54 rfl (cellsH ((fun q => (q6941 q).mono (FH.le_trans (FH.le_trans (q4677) (le283)) (q6839))) (by decide)))) rfl rfl rfl ?_
      refine al tZ54 rfl (fun pkey2 => ?_)
      refine .v (asg rfl) rfl rfl rfl ?_
      refine st (p := pkey2) (off := 0) (k := 0) (vs := [.slice a7 ((gt x.ops t9).pre.length) c4, .slice a8 ((gt x.ops t9).add.length) c5, .slice a9 ((gt x.ops t9).del.length) c6, .int .i64 ((gt x.ops t9).cost)]) rfl rfl rfl (fun w => (tA54 w).2) rfl rfl rfl rfl ?_
      refine .cast (A' := [Box pkey2 [.slice a7 ((gt x.ops t9).pre.length) c4, .slice a8 ((gt x.ops t9).add.length) c5, .slice a9 ((gt x.ops t9).del.length) c6, .int .i64 ((gt x.ops t9).cost)], LA .ready none, Box pkey [.func (.func 49) #[] #[]], Box pv [.slice none 0 0], Box pv2 [.bool false], Box pv3 [.bool false], Box pqueue [.slice al4 l4.length cl4], Box pseen [.map (some bv)], Box p [.int .i64 x3], MkA (D :: dl), OwnSl 113 3 al4 l4.length cl4 csl3, OwnMap bv m3]) rfl ?_
      refine .nil ?_
      refine .seqN ?_
      refine .seq ?_
      refine .region ?_
      refine .v (ld1 (v := .slice a2 ((gt l x3).node.length) c) rfl tO35 (cellH (CellsAt.mono (q6839) q6773 0 _ rfl))) rfl rfl rfl ?_
      refine .v (fa rfl tF54_0) rfl rfl rfl ?_
      refine .v (ld1 rfl tO22 (cellB (off := 0) (k := 0) rfl rfl)) rfl rfl rfl ?_
      obtain ⟨q6942, hF⟩ := hF
      obtain ⟨r6, q6943⟩ : ∃ y_ : Bool, y_ = sp_sure ((gt l x3).node) ((gt x.ops t9).pre) := ⟨_, rfl⟩
      replace hF := hF r6 q6943
      refine .c (cl (v := .bool r6) Tryz.call52 rfl rfl (fun w S => (by rw [q6943]; exact c_sure S.sub ((gt l x3).node) a2 c (q6583.mono (FH.le_trans (le283) (q6839))) q6582 ((gt x.ops t9).pre) a7 c4 (q6936.mono (FH.le_trans (FH.le_trans (q4677) (le283)) (q6839))) q6935 q6942))) rfl rfl rfl ?_
      refine .v (mv rfl) rfl rfl rfl ?_
      rcases Bool.eq_false_or_eq_true (r6) with q6944 | q6944
      · replace hF := hF.1 q6944
        refine .gv (mv rfl) rfl rfl rfl q6944 rfl rfl ?_
        refine .gv (mv rfl) rfl rfl rfl q6944 rfl rfl ?_
        refine .gv (ldA (cs := [.int .i64 x.facts, .slice ax x.init.length cx, .slice ax2 x.goal.length cx2, .slice ax3 x.ops.length cx3]) rfl tA25 rfl (cellsH (q6772.mono (q6839)))) rfl rfl rfl q6944 rfl rfl ?_
        refine .gv (ld1 (v := .slice a2 ((gt l x3).node.length) c) rfl tO35 (cellH (CellsAt.mono (q6839) q6773 0 _ rfl))) rfl rfl rfl q6944 rfl rfl ?_
        refine .gv (mv rfl) rfl rfl rfl q6944 rfl rfl ?_
        obtain ⟨q6945, hF⟩ := hF
        obtain ⟨r7, q6946⟩ : ∃ y_ : List (List Int), y_ = sp_bafter x ((gt l x3).node) t9 := ⟨_, rfl⟩
        replace hF := hF r7 q6946
        refine .gR rfl rfl rfl q6944 ?_
        refine clR (α := Option Addr × Nat) (Φ := fun h1 z => RSl h1 z.1 r7 ∧ r7.length ≤ z.2) (V := fun z => .slice z.1 r7.length z.2) Tryz.call60 rfl rfl (fun w S => (by rw [q6946]; exact c_bafter S.sub x ax cx (_q3.mono (FH.le_trans (FH.le_trans (q4677) (le283)) (q6839))) _q4 ax2 cx2 (_q5.mono (FH.le_trans (FH.le_trans (q4677) (le283)) (q6839))) _q6 ax3 cx3 (_q7.mono (FH.le_trans (FH.le_trans (q4677) (le283)) (q6839))) _q8 ((gt l x3).node) a2 c (q6583.mono (FH.le_trans (le283) (q6839))) q6582 t9 q6945)) rfl (fun z h296 le296 hz => ?_)
        obtain ⟨a10, c7⟩ := z
        obtain ⟨q6947, q6948⟩ := hz
        refine .gR rfl rfl rfl q6944 ?_
        refine .yld (k := 1) (vs := [.int .i64 t9, .slice a10 r7.length c7]) q6774 rfl rfl rfl rfl rfl (fun aG q6949 => ?_)
        refine .sub (s' := [(5, .pointer (some pkey)), (8, .pointer (some pv)), (9, .pointer (some pv2)), (10, .pointer (some pv3)), (11, .pointer (some pqueue)), (12, .pointer (some pseen)), (13, .pointer (some p)), (70, .int .i64 t9), (71, .slice a10 r7.length c7)]) (.cons rfl (.cons rfl (.cons rfl (.cons rfl (.cons rfl (.cons rfl (.cons rfl (.cons rfl (.cons rfl (.nil)))))))))) ?_
        refine .seq ?_
        refine .region ?_
        refine .v (asg rfl) rfl rfl rfl ?_
        refine .nil ?_
        refine .seqN ?_
        refine .region ?_
        refine .v (asg rfl) rfl rfl rfl ?_
        refine .nil ?_
        refine .begin_ (k := 1) q6774 rfl ?_
        refine .cast (A' := [Box pkey2 [.slice a7 ((gt x.ops t9).pre.length) c4, .slice a8 ((gt x.ops t9).add.length) c5, .slice a9 ((gt x.ops t9).del.length) c6, .int .i64 ((gt x.ops t9).cost)], LA .busy none, Box pkey [.func (.func 49) #[] #[]], Box pv [.slice none 0 0], Box pv2 [.bool false], Box pv3 [.bool false], Box pqueue [.slice al4 l4.length cl4], Box pseen [.map (some bv)], Box p [.int .i64 x3], MkA (D :: dl), OwnSl 113 3 al4 l4.length cl4 csl3, OwnMap bv m3]) rfl ?_
        refine .block ?_
        refine .seq ?_
        refine .region ?_
        refine .v (ld1 rfl tO80 (cellB (off := 0) (k := 2) rfl rfl)) rfl rfl rfl ?_
        refine .v (mv rfl) rfl rfl rfl ?_
        obtain ⟨q6950, hF⟩ := hF
        obtain ⟨r8, q6951⟩ : ∃ y_ : List UInt8, y_ = sp_key r7 := ⟨_, rfl⟩
        replace hF := hF r8 q6951
        refine .c (cl (v := strV r8) Tryz.call49 rfl rfl (fun w S => (by rw [q6951]; exact c_key S.sub (ht.mono (FH.le_trans (FH.le_trans (FH.le_trans (q4677) (le283)) (q6839)) (le296))) r7 a10 c7 q6947 q6948 q6950))) rfl rfl rfl ?_
        refine .v (asg rfl) rfl rfl rfl ?_
        refine .nil ?_
        refine .seqN ?_
        refine .seq ?_
        refine .seq ?_
        refine .region ?_
        refine .v (ld1 rfl tO97 (cellB (off := 0) (k := 7) rfl rfl)) rfl rfl rfl ?_
        refine .v (mv rfl) rfl rfl rfl ?_
        refine .v (lk tM97 rfl rfl (kk := 11) rfl) rfl rfl rfl ?_
        refine .v (bi rfl rfl rfl) rfl rfl rfl ?_
        refine .nil ?_
        refine .seqN ?_
        refine .cond rfl (fun q6953 => ?_) (fun q6953 => ?_)
        · replace hF := hF.1 q6953
          refine .exit ?_
          refine .seqX ?_
          refine .blkX ?_
          refine .rdN (k := 1) q6774 rfl q6949 rfl ?_
          refine .cast (A' := [Box pkey2 [.slice a7 ((gt x.ops t9).pre.length) c4, .slice a8 ((gt x.ops t9).add.length) c5, .slice a9 ((gt x.ops t9).del.length) c6, .int .i64 ((gt x.ops t9).cost)], LA .ready none, Box pkey [.func (.func 49) #[] #[]], Box pv [.slice none 0 0], Box pv2 [.bool false], Box pv3 [.bool false], Box pqueue [.slice al4 l4.length cl4], Box pseen [.map (some bv)], Box p [.int .i64 x3], MkA (D :: dl), OwnSl 113 3 al4 l4.length cl4 csl3, OwnMap bv m3]) rfl ?_
          refine .gv (nt rfl) rfl rfl rfl q6944 rfl rfl ?_
          refine .v (pkT rfl q6944 rfl) rfl rfl rfl ?_
          refine .nil ?_
          refine .seqN ?_
          refine .cond rfl (fun e => absurd (e.symm.trans rfl) (by decide)) (fun _ => ?_)
          refine .skip ?_
          refine .blkN ?_
          refine .sel0 [1, 2, 3, 4, 5, 6, 7, 8, 9, 10, 11] (by decide) rfl ?_
          exact .use q6933 (l4, m3, al4, cl4, csl3, h296) ⟨hF, (RepL.mono (le296) q6838), (le296)⟩ (.cons rfl (.cons rfl (.cons rfl (.cons rfl (.cons rfl (.cons rfl (.nil))))))) rfl (FH.le_refl _)
        replace hF := hF.2 q6953
        refine .skip ?_
        refine .seqN ?_
        refine .seq ?_
        refine .seq ?_
        refine .region ?_
        refine .v (ld1 rfl tO114 (cellB (off := 0) (k := 6) rfl rfl)) rfl rfl rfl ?_
        refine .v (ln rfl tS114.is) rfl rfl rfl ?_
        refine .v (bi rfl rfl rfl) rfl rfl rfl ?_
        refine .nil ?_
        refine .seqN ?_
        refine .cond rfl (fun q6955 => ?_) (fun q6955 => ?_)
        · replace hF := hF.1 q6955
          refine .seq ?_
          refine .region ?_
          refine st (p := pv) (off := 0) (k := 3) (vs := [.slice none 0 0]) rfl rfl rfl (fun w => (tO22 w).2) rfl rfl rfl rfl ?_
          refine .cast (A' := [Box pkey2 [.slice a7 ((gt x.ops t9).pre.length) c4, .slice a8 ((gt x.ops t9).add.length) c5, .slice a9 ((gt x.ops t9).del.length) c6, .int .i64 ((gt x.ops t9).cost)], LA .busy none, Box pkey [.func (.func 49) #[] #[]], Box pv [.slice none 0 0], Box pv2 [.bool false], Box pv3 [.bool false], Box pqueue [.slice al4 l4.length cl4], Box pseen [.map (some bv)], Box p [.int .i64 x3], MkA (D :: dl), OwnSl 113 3 al4 l4.length cl4 csl3, OwnMap bv m3]) rfl ?_
          refine st (p := pv2) (off := 0) (k := 4) (vs := [.bool false]) rfl rfl rfl (fun w => (tO4 w).2) rfl rfl rfl rfl ?_
          refine .cast (A' := [Box pkey2 [.slice a7 ((gt x.ops t9).pre.length) c4, .slice a8 ((gt x.ops t9).add.length) c5, .slice a9 ((gt x.ops t9).del.length) c6, .int .i64 ((gt x.ops t9).cost)], LA .busy none, Box pkey [.func (.func 49) #[] #[]], Box pv [.slice none 0 0], Box pv2 [.bool false], Box pv3 [.bool false], Box pqueue [.slice al4 l4.length cl4], Box pseen [.map (some bv)], Box p [.int .i64 x3], MkA (D :: dl), OwnSl 113 3 al4 l4.length cl4 csl3, OwnMap bv m3]) rfl ?_
          refine st (p := pv3) (off := 0) (k := 5) (vs := [.bool false]) rfl rfl rfl (fun w => (tO4 w).2) rfl rfl rfl rfl ?_
          refine .cast (A' := [Box pkey2 [.slice a7 ((gt x.ops t9).pre.length) c4, .slice a8 ((gt x.ops t9).add.length) c5, .slice a9 ((gt x.ops t9).del.length) c6, .int .i64 ((gt x.ops t9).cost)], LA .busy none, Box pkey [.func (.func 49) #[] #[]], Box pv [.slice none 0 0], Box pv2 [.bool false], Box pv3 [.bool false], Box pqueue [.slice al4 l4.length cl4], Box pseen [.map (some bv)], Box p [.int .i64 x3], MkA (D :: dl), OwnSl 113 3 al4 l4.length cl4 csl3, OwnMap bv m3]) rfl ?_
          refine .nil ?_
          refine .seqN ?_
          refine .ret ?_
          refine .seqR ?_
          refine .blkR ?_
          refine .rdR (k := 1) q6774 rfl q6949 rfl ?_
          refine .cast (A' := [Box pkey2 [.slice a7 ((gt x.ops t9).pre.length) c4, .slice a8 ((gt x.ops t9).add.length) c5, .slice a9 ((gt x.ops t9).del.length) c6, .int .i64 ((gt x.ops t9).cost)], LA .done (some .ret), Box pkey [.func (.func 49) #[] #[]], Box pv [.slice none 0 0], Box pv2 [.bool false], Box pv3 [.bool false], Box pqueue [.slice al4 l4.length cl4], Box pseen [.map (some bv)], Box p [.int .i64 x3], MkA (D :: dl), OwnSl 113 3 al4 l4.length cl4 csl3, OwnMap bv m3]) rfl ?_
          refine .gv (nt rfl) rfl rfl rfl q6944 rfl rfl ?_
          refine .v (pkT rfl q6944 rfl) rfl rfl rfl ?_
          refine .nil ?_
          refine .seqN ?_
          refine .cond rfl (fun _ => ?_) (fun e => absurd (e.symm.trans rfl) (by decide))
          refine .ret ?_
          refine .blkR ?_
          refine .seqR ?_
          refine .seqR ?_
          refine .blkR ?_
          refine .res0 (.inl rfl) rfl (range_jump (k := 1) q6774 rfl q6775 ?_)
          refine .cast (A' := [Box pkey2 [.slice a7 ((gt x.ops t9).pre.length) c4, .slice a8 ((gt x.ops t9).add.length) c5, .slice a9 ((gt x.ops t9).del.length) c6, .int .i64 ((gt x.ops t9).cost)], tru, Box pkey [.func (.func 49) #[] #[]], Box pv [.slice none 0 0], Box pv2 [.bool false], Box pv3 [.bool false], Box pqueue [.slice al4 l4.length cl4], Box pseen [.map (some bv)], Box p [.int .i64 x3], MkA (D :: dl), OwnSl 113 3 al4 l4.length cl4 csl3, OwnMap bv m3]) rfl ?_
          refine .ret ?_
          refine .blkR ?_
          refine .blkR ?_
          refine .seqR ?_
          refine .seqR ?_
          refine .blkR ?_
          refine .seqR ?_
          refine .resM (k := 9) rfl ?_
          refine .res3 rfl (rvC1 rfl tO22 (k := 3) rfl) (rvC1 rfl tO4 (k := 4) rfl) (rvC1 rfl tO4 (k := 5) rfl) (fun w' S => ⟨(([] : List Int), false, false), (none, 0), h296, hF, rfl, (FH.le_trans (FH.le_trans (FH.le_trans (q4677) (le283)) (q6839)) (le296)), ⟨RSl.nil_, (Nat.le_refl 0)⟩, S.none⟩)
        replace hF := hF.2 q6955
        refine .skip ?_
        refine .seqN ?_
        refine .seq ?_
        refine .region ?_
        refine .v (ld1 rfl tO97 (cellB (off := 0) (k := 7) rfl rfl)) rfl rfl rfl ?_
        refine .v (mv rfl) rfl rfl rfl ?_
        refine mu tM97 rfl rfl rfl (kk := 11) rfl ?_
        refine .cast (A' := [Box pkey2 [.slice a7 ((gt x.ops t9).pre.length) c4, .slice a8 ((gt x.ops t9).add.length) c5, .slice a9 ((gt x.ops t9).del.length) c6, .int .i64 ((gt x.ops t9).cost)], LA .busy none, Box pkey [.func (.func 49) #[] #[]], Box pv [.slice none 0 0], Box pv2 [.bool false], Box pv3 [.bool false], Box pqueue [.slice al4 l4.length cl4], Box pseen [.map (some bv)], Box p [.int .i64 x3], MkA (D :: dl), OwnSl 113 3 al4 l4.length cl4 csl3, OwnMap bv (upd m3 r8 1)]) rfl ?_
        refine .nil ?_
        refine .seqN ?_
        refine .region ?_
        refine .v (ld1 rfl tO114 (cellB (off := 0) (k := 6) rfl rfl)) rfl rfl rfl ?_
        refine .v (mv rfl) rfl rfl rfl ?_
        refine .v (ld1 rfl tO3 (cellB (off := 0) (k := 8) rfl rfl)) rfl rfl rfl ?_
        refine .v (mv rfl) rfl rfl rfl ?_
        refine .v (bld (cs := #[.slice a10 r7.length c7, .int .i64 x3, .int .i64 t9]) (pv := [(0, .slice a10 r7.length c7), (1, .int .i64 x3), (2, .int .i64 t9)]) tB113 rfl rfl) rfl rfl rfl ?_
        refine bs2 (cs := #[.slice a10 r7.length c7, .int .i64 x3, .int .i64 t9]) (pv := [(0, .agg #[.slice a10 r7.length c7, .int .i64 x3, .int .i64 t9])]) tS114 rfl rfl (by decide) (by decide) rfl rfl rfl (fun a11 _ => ?_)
        refine .cast (A' := [OwnSl 113 3 a11 (([(⟨r7, x3, t9⟩ : Entry)] : List Entry).length) 1 [.slice a10 r7.length c7, .int .i64 x3, .int .i64 t9], Box pkey2 [.slice a7 ((gt x.ops t9).pre.length) c4, .slice a8 ((gt x.ops t9).add.length) c5, .slice a9 ((gt x.ops t9).del.length) c6, .int .i64 ((gt x.ops t9).cost)], LA .busy none, Box pkey [.func (.func 49) #[] #[]], Box pv [.slice none 0 0], Box pv2 [.bool false], Box pv3 [.bool false], Box pqueue [.slice al4 l4.length cl4], Box pseen [.map (some bv)], Box p [.int .i64 x3], MkA (D :: dl), OwnSl 113 3 al4 l4.length cl4 csl3, OwnMap bv (upd m3 r8 1)]) rfl ?_
        obtain ⟨q6957, hF⟩ := hF
        have q6958 : l4.length + ([(⟨r7, x3, t9⟩ : Entry)] : List Entry).length = ((l4 ++ ([(⟨r7, x3, t9⟩ : Entry)] : List Entry))).length := len_app rfl rfl
        have q6959 := RepL.append (RepL.mono (le296) q6838) (show RepL h296 ([(⟨r7, x3, t9⟩ : Entry)] : List Entry) [.slice a10 r7.length c7, .int .i64 x3, .int .i64 t9] from ⟨[.slice a10 r7.length c7, .int .i64 x3, .int .i64 t9], _, rfl, ⟨a10, c7, rfl, ⟨q6948, q6947⟩⟩, rfl⟩)
        refine app (k := 11) (news := [.slice a10 r7.length c7, .int .i64 x3, .int .i64 t9]) (cs' := (csl3 ++ [.slice a10 r7.length c7, .int .i64 x3, .int .i64 t9])) (nm := ((l4 ++ ([(⟨r7, x3, t9⟩ : Entry)] : List Entry))).length) tS114 rfl (by decide) rfl rfl rfl (RepL.len (show RepL h296 ([(⟨r7, x3, t9⟩ : Entry)] : List Entry) [.slice a10 r7.length c7, .int .i64 x3, .int .i64 t9] from ⟨[.slice a10 r7.length c7, .int .i64 x3, .int .i64 t9], _, rfl, ⟨a10, c7, rfl, ⟨q6948, q6947⟩⟩, rfl⟩)) (srcS (k := 0) rfl) (RepL.one (show RepL h296 ([(⟨r7, x3, t9⟩ : Entry)] : List Entry) [.slice a10 r7.length c7, .int .i64 x3, .int .i64 t9] from ⟨[.slice a10 r7.length c7, .int .i64 x3, .int .i64 t9], _, rfl, ⟨a10, c7, rfl, ⟨q6948, q6947⟩⟩, rfl⟩)) (room_of q6958 q6957).1 (room_of q6958 q6957).2 q6958 rfl rfl (fun a12 c8 => ?_)
        refine .cast (A' := [OwnSl 113 3 a11 (([(⟨r7, x3, t9⟩ : Entry)] : List Entry).length) 1 [.slice a10 r7.length c7, .int .i64 x3, .int .i64 t9], Box pkey2 [.slice a7 ((gt x.ops t9).pre.length) c4, .slice a8 ((gt x.ops t9).add.length) c5, .slice a9 ((gt x.ops t9).del.length) c6, .int .i64 ((gt x.ops t9).cost)], LA .busy none, Box pkey [.func (.func 49) #[] #[]], Box pv [.slice none 0 0], Box pv2 [.bool false], Box pv3 [.bool false], Box pqueue [.slice al4 l4.length cl4], Box pseen [.map (some bv)], Box p [.int .i64 x3], MkA (D :: dl), OwnSl 113 3 a12 ((l4 ++ ([(⟨r7, x3, t9⟩ : Entry)] : List Entry)).length) c8 (csl3 ++ [.slice a10 r7.length c7, .int .i64 x3, .int .i64 t9]), OwnMap bv (upd m3 r8 1)]) rfl ?_
        refine st (p := pqueue) (off := 0) (k := 7) (vs := [.slice a12 ((l4 ++ ([(⟨r7, x3, t9⟩ : Entry)] : List Entry)).length) c8]) rfl rfl rfl (fun w => (tO114 w).2) rfl rfl rfl rfl ?_
        refine .cast (A' := [OwnSl 113 3 a11 (([(⟨r7, x3, t9⟩ : Entry)] : List Entry).length) 1 [.slice a10 r7.length c7, .int .i64 x3, .int .i64 t9], Box pkey2 [.slice a7 ((gt x.ops t9).pre.length) c4, .slice a8 ((gt x.ops t9).add.length) c5, .slice a9 ((gt x.ops t9).del.length) c6, .int .i64 ((gt x.ops t9).cost)], LA .busy none, Box pkey [.func (.func 49) #[] #[]], Box pv [.slice none 0 0], Box pv2 [.bool false], Box pv3 [.bool false], Box pqueue [.slice a12 ((l4 ++ ([(⟨r7, x3, t9⟩ : Entry)] : List Entry)).length) c8], Box pseen [.map (some bv)], Box p [.int .i64 x3], MkA (D :: dl), OwnSl 113 3 a12 ((l4 ++ ([(⟨r7, x3, t9⟩ : Entry)] : List Entry)).length) c8 (csl3 ++ [.slice a10 r7.length c7, .int .i64 x3, .int .i64 t9]), OwnMap bv (upd m3 r8 1)]) rfl ?_
        refine .nil ?_
        refine .blkN ?_
        refine .rdN (k := 2) q6774 rfl q6949 rfl ?_
        refine .cast (A' := [OwnSl 113 3 a11 (([(⟨r7, x3, t9⟩ : Entry)] : List Entry).length) 1 [.slice a10 r7.length c7, .int .i64 x3, .int .i64 t9], Box pkey2 [.slice a7 ((gt x.ops t9).pre.length) c4, .slice a8 ((gt x.ops t9).add.length) c5, .slice a9 ((gt x.ops t9).del.length) c6, .int .i64 ((gt x.ops t9).cost)], LA .ready none, Box pkey [.func (.func 49) #[] #[]], Box pv [.slice none 0 0], Box pv2 [.bool false], Box pv3 [.bool false], Box pqueue [.slice a12 ((l4 ++ ([(⟨r7, x3, t9⟩ : Entry)] : List Entry)).length) c8], Box pseen [.map (some bv)], Box p [.int .i64 x3], MkA (D :: dl), OwnSl 113 3 a12 ((l4 ++ ([(⟨r7, x3, t9⟩ : Entry)] : List Entry)).length) c8 (csl3 ++ [.slice a10 r7.length c7, .int .i64 x3, .int .i64 t9]), OwnMap bv (upd m3 r8 1)]) rfl ?_
        refine .gv (nt rfl) rfl rfl rfl q6944 rfl rfl ?_
        refine .v (pkT rfl q6944 rfl) rfl rfl rfl ?_
        refine .nil ?_
        refine .seqN ?_
        refine .cond rfl (fun e => absurd (e.symm.trans rfl) (by decide)) (fun _ => ?_)
        refine .skip ?_
        refine .blkN ?_
        refine .sel0 [2, 3, 4, 5, 6, 7, 8, 9, 10, 11, 12] (by decide) rfl ?_
        exact .use q6933 ((l4 ++ ([(⟨r7, x3, t9⟩ : Entry)] : List Entry)), (upd m3 r8 1), a12, c8, (csl3 ++ [.slice a10 r7.length c7, .int .i64 x3, .int .i64 t9]), h296) ⟨hF, q6959, (le296)⟩ (.cons rfl (.cons rfl (.cons rfl (.cons rfl (.cons rfl (.cons rfl (.nil))))))) rfl (FH.le_refl _)
      replace hF := hF.2 q6944
      refine .gS rfl rfl rfl q6944 rfl rfl ?_
      refine .gS rfl rfl rfl q6944 rfl rfl ?_
      refine .gS rfl rfl rfl q6944 rfl rfl ?_
      refine .gS rfl rfl rfl q6944 rfl rfl ?_
      refine .gS rfl rfl rfl q6944 rfl rfl ?_
      refine .gS rfl rfl rfl q6944 rfl rfl ?_
      refine .gS rfl rfl rfl q6944 rfl rfl ?_
      refine .gS rfl rfl rfl q6944 rfl rfl ?_
      refine .v (pkF rfl q6944 rfl) rfl rfl rfl ?_
      refine .nil ?_
      refine .seqN ?_
      refine .cond rfl (fun e => absurd (e.symm.trans rfl) (by decide)) (fun _ => ?_)
      refine .skip ?_
      refine .blkN ?_
      refine .sel0 [1, 2, 3, 4, 5, 6, 7, 8, 9, 10, 11] (by decide) rfl ?_
      exact .use q6933 (l4, m3, al4, cl4, csl3, h289) ⟨hF, q6838, (FH.le_refl _)⟩ (.cons rfl (.cons rfl (.cons rfl (.cons rfl (.cons rfl (.cons rfl (.nil))))))) rfl (FH.le_refl _)
    replace hF := hF.2 q6904
    refine .exit ?_
    refine .seqX ?_
    refine .seqX ?_
    refine .blkX ?_
    refine .res0 (.inr rfl) rfl (range_done (k := 0) q6774 rfl q6775 ?_)
    refine .cast (A' := [tru, Box pkey [.func (.func 49) #[] #[]], Box pv [.slice none 0 0], Box pv2 [.bool false], Box pv3 [.bool false], Box pqueue [.slice al4 l4.length cl4], Box pseen [.map (some bv)], Box p [.int .i64 x3], MkA (D :: dl), OwnSl 113 3 al4 l4.length cl4 csl3, OwnMap bv m3]) rfl ?_
    refine .blkN ?_
    refine .blkN ?_
    refine .seqN ?_
    refine .seq ?_
    refine .seq ?_
    refine .region ?_
    refine .v (ld1 rfl tO3 (cellB (off := 0) (k := 7) rfl rfl)) rfl rfl rfl ?_
    refine .nil ?_
    refine .seqN ?_
    refine .region ?_
    refine al tZ3 rfl (fun pat2 => ?_)
    refine st (p := pat2) (off := 0) (k := 0) (vs := [.int .i64 x3]) rfl rfl rfl (fun w => (tO3 w).2) rfl rfl rfl rfl ?_
    refine .cast (A' := [Box pat2 [.int .i64 x3], tru, Box pkey [.func (.func 49) #[] #[]], Box pv [.slice none 0 0], Box pv2 [.bool false], Box pv3 [.bool false], Box pqueue [.slice al4 l4.length cl4], Box pseen [.map (some bv)], Box p [.int .i64 x3], MkA (D :: dl), OwnSl 113 3 al4 l4.length cl4 csl3, OwnMap bv m3]) rfl ?_
    refine .nil ?_
    refine .seqN ?_
    refine .region ?_
    refine .v (ld1 rfl tO3 (cellB (off := 0) (k := 0) rfl rfl)) rfl rfl rfl ?_
    refine .v (bi rfl rfl rfl) rfl rfl rfl ?_
    refine st (p := pat2) (off := 0) (k := 0) (vs := [.int .i64 (IntKind.i64.wrap (x3 + 1))]) rfl rfl rfl (fun w => (tO3 w).2) rfl rfl rfl rfl ?_
    refine .cast (A' := [Box pat2 [.int .i64 (IntKind.i64.wrap (x3 + 1))], tru, Box pkey [.func (.func 49) #[] #[]], Box pv [.slice none 0 0], Box pv2 [.bool false], Box pv3 [.bool false], Box pqueue [.slice al4 l4.length cl4], Box pseen [.map (some bv)], Box p [.int .i64 x3], MkA (D :: dl), OwnSl 113 3 al4 l4.length cl4 csl3, OwnMap bv m3]) rfl ?_
    refine .nil ?_
    refine .sel0 [2, 3, 4, 5, 6, 7, 0, 9, 10, 11] (by decide) rfl ?_
    exact .roundN (IntKind.i64.wrap (x3 + 1), l4, m3, pat2, D :: dl, al4, cl4, csl3, h289) ⟨hF.1, q6838, (FH.le_trans (FH.le_trans (q4677) (le283)) (q6839))⟩ hF.2 rfl (.cons rfl (.cons rfl (.cons rfl (.cons rfl (.cons rfl (.cons rfl (.cons rfl (.cons rfl (.cons rfl (.nil)))))))))) rfl (FH.le_refl _)
  replace hF := hF.2 q5822
  refine .exit ?_
  refine .seqX ?_
  refine .seqX ?_
  refine .blkX ?_
  refine .seqN ?_
  refine .seq ?_
  refine .region ?_
  refine st (p := pv) (off := 0) (k := 1) (vs := [.slice none 0 0]) rfl rfl rfl (fun w => (tO22 w).2) rfl rfl rfl rfl ?_
  refine .cast (A' := [Box pkey [.func (.func 49) #[] #[]], Box pv [.slice none 0 0], Box pv2 [.bool false], Box pv3 [.bool false], Box pqueue [.slice al2 l.length cl2], Box pseen [.map (some bv)], Box p [.int .i64 x3], MkA dl, OwnSl 113 3 al2 l.length cl2 csl, OwnMap bv m]) rfl ?_
  refine st (p := pv2) (off := 0) (k := 2) (vs := [.bool false]) rfl rfl rfl (fun w => (tO4 w).2) rfl rfl rfl rfl ?_
  refine .cast (A' := [Box pkey [.func (.func 49) #[] #[]], Box pv [.slice none 0 0], Box pv2 [.bool false], Box pv3 [.bool false], Box pqueue [.slice al2 l.length cl2], Box pseen [.map (some bv)], Box p [.int .i64 x3], MkA dl, OwnSl 113 3 al2 l.length cl2 csl, OwnMap bv m]) rfl ?_
  refine st (p := pv3) (off := 0) (k := 3) (vs := [.bool true]) rfl rfl rfl (fun w => (tO4 w).2) rfl rfl rfl rfl ?_
  refine .cast (A' := [Box pkey [.func (.func 49) #[] #[]], Box pv [.slice none 0 0], Box pv2 [.bool false], Box pv3 [.bool true], Box pqueue [.slice al2 l.length cl2], Box pseen [.map (some bv)], Box p [.int .i64 x3], MkA dl, OwnSl 113 3 al2 l.length cl2 csl, OwnMap bv m]) rfl ?_
  refine .nil ?_
  refine .seqN ?_
  refine .ret ?_
  refine .resM (k := 7) rfl ?_
  refine .res3 rfl (rvC1 rfl tO22 (k := 1) rfl) (rvC1 rfl tO4 (k := 2) rfl) (rvC1 rfl tO4 (k := 3) rfl) (fun w' S => ⟨(([] : List Int), false, true), (none, 0), h199, hF, rfl, (q4677), ⟨RSl.nil_, (Nat.le_refl 0)⟩, S.none⟩)

theorem c_breadthP {h : FH} {w : World} (hs : Sub h w) (ht : TabH Tryz.prog h) (start2 : List (List Int)) (astart2 : Option Addr) (cstart2 : Nat) (_q1 : RSl h astart2 start2) (_q2 : start2.length ≤ cstart2) (x : Task) (ax : Option Addr) (cx : Nat) (_q3 : RSl h ax x.init) (_q4 : x.init.length ≤ cx) (ax2 : Option Addr) (cx2 : Nat) (_q5 : RSl h ax2 x.goal) (_q6 : x.goal.length ≤ cx2) (ax3 : Option Addr) (cx3 : Nat) (_q7 : RSl h ax3 x.ops) (_q8 : x.ops.length ≤ cx3) (px : Addr) (_q9 : CellsAt h px [.int .i64 x.facts, .slice ax x.init.length cx, .slice ax2 x.goal.length cx2, .slice ax3 x.ops.length cx3]) (x2 : Task) (ax22 : Option Addr) (cx22 : Nat) (_q10 : RSl h ax22 x2.init) (_q11 : x2.init.length ≤ cx22) (ax23 : Option Addr) (cx23 : Nat) (_q12 : RSl h ax23 x2.goal) (_q13 : x2.goal.length ≤ cx23) (ax24 : Option Addr) (cx24 : Nat) (_q14 : RSl h ax24 x2.ops) (_q15 : x2.ops.length ≤ cx24) (px2 : Addr) (_q16 : CellsAt h px2 [.int .i64 x2.facts, .slice ax22 x2.init.length cx22, .slice ax23 x2.goal.length cx23, .slice ax24 x2.ops.length cx24]) (hp : pre_breadthP start2 x x2) : Calls Tryz.prog 50 #[.slice astart2 start2.length cstart2, .func (.func 49) #[] #[], .func (.func 80) #[] #[.pointer (some px)], .func (.func 51) #[] #[.pointer (some px2)]] w fun e w' => ∃ (z : Option Addr × Nat) (h1 : FH), e = .returned (.tuple #[.slice z.1 (sp_breadthP start2 x x2).1.length z.2, .bool (sp_breadthP start2 x x2).2.1, .bool (sp_breadthP start2 x x2).2.2]) ∧ FH.le h h1 ∧ (RSl h1 z.1 (sp_breadthP start2 x x2).1 ∧ (sp_breadthP start2 x x2).1.length ≤ z.2) ∧ SH (Kp.all w h) h1 w' [] :=
  (w_breadthP hs ht start2 astart2 cstart2 _q1 _q2  x ax cx _q3 _q4 ax2 cx2 _q5 _q6 ax3 cx3 _q7 _q8 px _q9 x2 ax22 cx22 _q10 _q11 ax23 cx23 _q12 _q13 ax24 cx24 _q14 _q15 px2 _q16 (fun r => r = sp_breadthP start2 x x2) (ok_breadthP start2 x x2 hp)).mono fun _ _ ⟨r, z, h1, hk, he, hl, hf, hS⟩ => by subst hk; exact ⟨z, h1, he, hl, hf, hS⟩

theorem w_small {h : FH} {w : World} (hs : Sub h w) (ht : TabH Tryz.prog h) (start2 : List (List Int)) (astart2 : Option Addr) (cstart2 : Nat) (_q1 : RSl h astart2 start2) (_q2 : start2.length ≤ cstart2) (x : Task) (ax : Option Addr) (cx : Nat) (_q3 : RSl h ax x.init) (_q4 : x.init.length ≤ cx) (ax2 : Option Addr) (cx2 : Nat) (_q5 : RSl h ax2 x.goal) (_q6 : x.goal.length ≤ cx2) (ax3 : Option Addr) (cx3 : Nat) (_q7 : RSl h ax3 x.ops) (_q8 : x.ops.length ≤ cx3) (px : Addr) (_q9 : CellsAt h px [.int .i64 x.facts, .slice ax x.init.length cx, .slice ax2 x.goal.length cx2, .slice ax3 x.ops.length cx3]) (K : Bool → Prop) (hF : F_small start2 x K) : Calls Tryz.prog 47 #[.slice astart2 start2.length cstart2, .func (.func 49) #[] #[], .func (.func 80) #[] #[.pointer (some px)]] w fun e w' => ∃ r : Bool, K r ∧ e = .returned (.bool r) ∧ Below w.heap.size w w' := by
  refine enter (args := [.slice astart2 start2.length cstart2, .func (.func 49) #[] #[], .func (.func 80) #[] #[.pointer (some px)]]) Tryz.func47 rfl Tryz.ntmps47 rfl hs ?_
  refine .seq ?_
  refine .region ?_
  refine .v (asg rfl) rfl rfl rfl ?_
  refine .nil ?_
  refine .seqN ?_
  refine .seq ?_
  refine .region ?_
  refine .v (mv rfl) rfl rfl rfl ?_
  refine .v (mv rfl) rfl rfl rfl ?_
  refine .v (mv rfl) rfl rfl rfl ?_
  obtain ⟨q10, hF⟩ := hF
  obtain ⟨r2, q11⟩ : ∃ y_ : List Int × Bool × Bool, y_ = sp_breadthS start2 x := ⟨_, rfl⟩
  replace hF := hF r2 q11
  refine clR (α := Option Addr × Nat) (Φ := fun h1 z => RSl h1 z.1 r2.1 ∧ r2.1.length ≤ z.2) (V := fun z => .tuple #[.slice z.1 r2.1.length z.2, .bool r2.2.1, .bool r2.2.2]) Tryz.call50 rfl rfl (fun w S => (by rw [q11]; exact c_breadthS S.sub (ht.mono (FH.le_refl _)) start2 astart2 cstart2 _q1 _q2 x ax cx _q3 _q4 ax2 cx2 _q5 _q6 ax3 cx3 _q7 _q8 px (CellsAt.mono (FH.le_refl _) _q9) q10)) rfl (fun z h1 le1 hz => ?_)
  obtain ⟨a, c⟩ := z
  obtain ⟨q12, q13⟩ := hz
  refine .v (mv rfl) rfl rfl rfl ?_
  refine .v (ext rfl rfl) rfl rfl rfl ?_
  refine .v (ext rfl rfl) rfl rfl rfl ?_
  refine .v (ext rfl rfl) rfl rfl rfl ?_
  refine .v (asg rfl) rfl rfl rfl ?_
  refine .v (asg rfl) rfl rfl rfl ?_
  refine .v (asg rfl) rfl rfl rfl ?_
  refine .nil ?_
  refine .seqN ?_
  refine .seq ?_
  refine .region ?_
  refine .v (mv rfl) rfl rfl rfl ?_
  refine .v (asg rfl) rfl rfl rfl ?_
  refine .nil ?_
  refine .seqN ?_
  refine .ret ?_
  refine .res1 rfl (rvT rfl) (fun w' S => ⟨r2.2.2, hF, rfl, S.below⟩)

theorem c_small {h : FH} {w : World} (hs : Sub h w) (ht : TabH Tryz.prog h) (start2 : List (List Int)) (astart2 : Option Addr) (cstart2 : Nat) (_q1 : RSl h astart2 start2) (_q2 : start2.length ≤ cstart2) (x : Task) (ax : Option Addr) (cx : Nat) (_q3 : RSl h ax x.init) (_q4 : x.init.length ≤ cx) (ax2 : Option Addr) (cx2 : Nat) (_q5 : RSl h ax2 x.goal) (_q6 : x.goal.length ≤ cx2) (ax3 : Option Addr) (cx3 : Nat) (_q7 : RSl h ax3 x.ops) (_q8 : x.ops.length ≤ cx3) (px : Addr) (_q9 : CellsAt h px [.int .i64 x.facts, .slice ax x.init.length cx, .slice ax2 x.goal.length cx2, .slice ax3 x.ops.length cx3]) (hp : pre_small start2 x) : Calls Tryz.prog 47 #[.slice astart2 start2.length cstart2, .func (.func 49) #[] #[], .func (.func 80) #[] #[.pointer (some px)]] w fun e w' => e = .returned (.bool (sp_small start2 x)) ∧ Below w.heap.size w w' :=
  (w_small hs ht start2 astart2 cstart2 _q1 _q2  x ax cx _q3 _q4 ax2 cx2 _q5 _q6 ax3 cx3 _q7 _q8 px _q9 (fun r => r = sp_small start2 x) (ok_small start2 x hp)).mono fun _ _ ⟨_, hk, he, hb⟩ => ⟨by rw [he, hk], hb⟩

set_option maxHeartbeats 8000000 in
theorem w_bplan {h : FH} {w : World} (hs : Sub h w) (ht : TabH Tryz.prog h) (t : Task) (at_ : Option Addr) (ct : Nat) (_q1 : RSl h at_ t.init) (_q2 : t.init.length ≤ ct) (at_2 : Option Addr) (ct2 : Nat) (_q3 : RSl h at_2 t.goal) (_q4 : t.goal.length ≤ ct2) (at_3 : Option Addr) (ct3 : Nat) (_q5 : RSl h at_3 t.ops) (_q6 : t.ops.length ≤ ct3) (unknown : List Int) (aunknown : Option Addr) (cunknown : Nat) (_q7 : RSl h aunknown unknown) (_q8 : unknown.length ≤ cunknown) (K : (List Int × Bool × Fault) → Prop) (hF : F_bplan t unknown K) : Calls Tryz.prog 12 #[.agg #[.int .i64 t.facts, .slice at_ t.init.length ct, .slice at_2 t.goal.length ct2, .slice at_3 t.ops.length ct3], .slice aunknown unknown.length cunknown] w fun e w' => ∃ (r : List Int × Bool × Fault) (z : Option Addr × Nat) (h1 : FH), K r ∧ e = .returned (.tuple #[.slice z.1 r.1.length z.2, .bool r.2.1, .agg #[.int .i64 r.2.2.code, .int .i64 r.2.2.index]]) ∧ FH.le h h1 ∧ (RSl h1 z.1 r.1 ∧ r.1.length ≤ z.2) ∧ SH (Kp.all w h) h1 w' [] := by
  refine enter (args := [.agg #[.int .i64 t.facts, .slice at_ t.init.length ct, .slice at_2 t.goal.length ct2, .slice at_3 t.ops.length ct3], .slice aunknown unknown.length cunknown]) Tryz.func12 rfl Tryz.ntmps12 rfl hs ?_
  refine .seq ?_
  refine .region ?_
  refine bx (vs := [.int .i64 t.facts, .slice at_ t.init.length ct, .slice at_2 t.goal.length ct2, .slice at_3 t.ops.length ct3]) rfl rfl rfl (fun pt => ?_)
  refine .v (asg rfl) rfl rfl rfl ?_
  refine .v (asg rfl) rfl rfl rfl ?_
  refine al tZ27 rfl (fun pv => ?_)
  refine .nil ?_
  refine .seqN ?_
  refine .seq ?_
  refine .seq ?_
  refine .region ?_
  refine .v (ldA (cs := [.int .i64 t.facts, .slice at_ t.init.length ct, .slice at_2 t.goal.length ct2, .slice at_3 t.ops.length ct3]) rfl tA25 rfl (cellsB (off := 0) (k := 1) rfl (m := 4) rfl)) rfl rfl rfl ?_
  refine .v (mv rfl) rfl rfl rfl ?_
  obtain ⟨r2, q9⟩ : ∃ y_ : Fault, y_ = sp_unknownFault t unknown := ⟨_, rfl⟩
  replace hF := hF r2 q9
  refine .c (cl (v := .agg #[.int .i64 r2.code, .int .i64 r2.index]) Tryz.call45 rfl rfl (fun w S => (by rw [q9]; exact c_unknownFault S.sub t at_ ct _q1 _q2 at_2 ct2 _q3 _q4 at_3 ct3 _q5 _q6 unknown aunknown cunknown _q7 _q8 ))) rfl rfl rfl ?_
  refine al tZ27 rfl (fun pf => ?_)
  refine st (p := pf) (off := 0) (k := 0) (vs := [.int .i64 r2.code, .int .i64 r2.index]) rfl rfl rfl (fun w => (tA27 w).2) rfl rfl rfl rfl ?_
  refine .cast (A' := [Box pf [.int .i64 r2.code, .int .i64 r2.index], Box pv [.int .i64 0, .int .i64 0], Box pt [.int .i64 t.facts, .slice at_ t.init.length ct, .slice at_2 t.goal.length ct2, .slice at_3 t.ops.length ct3]]) rfl ?_
  refine .nil ?_
  refine .seqN ?_
  refine .seq ?_
  refine .region ?_
  refine .v (ldA (cs := [.int .i64 r2.code, .int .i64 r2.index]) rfl tA27 rfl (cellsB (off := 0) (k := 0) rfl (m := 2) rfl)) rfl rfl rfl ?_
  refine .v (bld (cs := #[.int .i64 0, .int .i64 0]) (pv := []) tB27 rfl rfl) rfl rfl rfl ?_
  refine .v (ne2 tE27 rfl rfl) rfl rfl rfl ?_
  refine .nil ?_
  refine .seqN ?_
  refine .cond rfl (fun q11 => ?_) (fun q11 => ?_)
  · replace hF := hF.1 q11
    refine .seq ?_
    refine .openL (by kernel_rfl) rfl (by kernel_rfl) (by kernel_rfl) ?_
    refine .v (ldA (cs := [.int .i64 r2.code, .int .i64 r2.index]) rfl tA27 rfl (cellsB (off := 0) (k := 0) rfl (m := 2) rfl)) rfl rfl rfl ?_
    refine .v (asg rfl) rfl rfl rfl ?_
    refine .v (asg rfl) rfl rfl rfl ?_
    refine .tail ?_
    refine st (p := pv) (off := 0) (k := 1) (vs := [.int .i64 r2.code, .int .i64 r2.index]) rfl rfl rfl (fun w => (tA27 w).2) rfl rfl rfl rfl ?_
    refine .cast (A' := [Box pf [.int .i64 r2.code, .int .i64 r2.index], Box pv [.int .i64 r2.code, .int .i64 r2.index], Box pt [.int .i64 t.facts, .slice at_ t.init.length ct, .slice at_2 t.goal.length ct2, .slice at_3 t.ops.length ct3]]) rfl ?_
    refine .nil ?_
    refine .seqN ?_
    refine .ret ?_
    refine .seqR ?_
    refine .res3 rfl (rvT rfl) (rvT rfl) (rvC rfl tA27 (k := 1) rfl rfl) (fun w' S => ⟨(([] : List Int), false, r2), (none, 0), h, hF, rfl, (FH.le_refl _), ⟨RSl.nil_, (Nat.le_refl 0)⟩, S.none⟩)
  replace hF := hF.2 q11
  refine .skip ?_
  refine .seqN ?_
  refine .seq ?_
  refine .region ?_
  refine .v (ldA (cs := [.int .i64 t.facts, .slice at_ t.init.length ct, .slice at_2 t.goal.length ct2, .slice at_3 t.ops.length ct3]) rfl tA25 rfl (cellsB (off := 0) (k := 2) rfl (m := 4) rfl)) rfl rfl rfl ?_
  obtain ⟨r3, q12⟩ : ∃ y_ : Unit, y_ = sp_bnext t := ⟨_, rfl⟩
  replace hF := hF r3 q12
  refine clR (α := Addr) (Φ := fun h1 z => CellsAt h1 z [.int .i64 t.facts, .slice at_ t.init.length ct, .slice at_2 t.goal.length ct2, .slice at_3 t.ops.length ct3]) (V := fun z => .func (.func 80) #[] #[.pointer (some z)]) Tryz.call46 rfl rfl (fun w S => (by exact c_bnext S.sub t at_ ct _q1 _q2 at_2 ct2 _q3 _q4 at_3 ct3 _q5 _q6 )) rfl (fun z h1 le1 hz => ?_)
  obtain ⟨p, rfl⟩ : ∃ y_, y_ = z := ⟨_, rfl⟩
  have q13 := hz
  refine .v (asg rfl) rfl rfl rfl ?_
  refine .nil ?_
  refine .seqN ?_
  refine .seq ?_
  refine .seq ?_
  refine .region ?_
  refine .v (ldA (cs := [.int .i64 t.facts, .slice at_ t.init.length ct, .slice at_2 t.goal.length ct2, .slice at_3 t.ops.length ct3]) rfl tA25 rfl (cellsB (off := 0) (k := 2) rfl (m := 4) rfl)) rfl rfl rfl ?_
  refine .v (mv rfl) rfl rfl rfl ?_
  obtain ⟨q14, hF⟩ := hF
  obtain ⟨r4, q15⟩ : ∃ y_ : List (List Int), y_ = sp_worlds t unknown := ⟨_, rfl⟩
  replace hF := hF r4 q15
  refine clR (α := Option Addr × Nat) (Φ := fun h1 z => RSl h1 z.1 r4 ∧ r4.length ≤ z.2) (V := fun z => .slice z.1 r4.length z.2) Tryz.call48 rfl rfl (fun w S => (by rw [q15]; exact c_worlds S.sub t at_ ct (_q1.mono (le1)) _q2 at_2 ct2 (_q3.mono (le1)) _q4 at_3 ct3 (_q5.mono (le1)) _q6 unknown aunknown cunknown (_q7.mono (le1)) _q8 q14)) rfl (fun z h2 le2 hz => ?_)
  obtain ⟨a, c⟩ := z
  obtain ⟨q16, q17⟩ := hz
  refine .v (mv rfl) rfl rfl rfl ?_
  obtain ⟨q18, hF⟩ := hF
  obtain ⟨r5, q19⟩ : ∃ y_ : Bool, y_ = sp_small r4 t := ⟨_, rfl⟩
  replace hF := hF r5 q19
  refine .c (cl (v := .bool r5) Tryz.call47 rfl rfl (fun w S => (by rw [q19]; exact c_small S.sub (ht.mono (FH.le_trans (le1) (le2))) r4 a c q16 q17 t at_ ct (_q1.mono (FH.le_trans (le1) (le2))) _q2 at_2 ct2 (_q3.mono (FH.le_trans (le1) (le2))) _q4 at_3 ct3 (_q5.mono (FH.le_trans (le1) (le2))) _q6 p (CellsAt.mono (le2) q13) q18))) rfl rfl rfl ?_
  refine .v (nt rfl) rfl rfl rfl ?_
  refine .nil ?_
  refine .seqN ?_
  refine .cond rfl (fun q21 => ?_) (fun q21 => ?_)
  · replace hF := hF.1 q21
    refine .seq ?_
    refine .region ?_
    refine .v (bld (cs := #[.int .i64 10, .int .i64 (-7)]) (pv := [(0, .int .i64 10), (1, .int .i64 (-7))]) tB27 rfl rfl) rfl rfl rfl ?_
    refine .v (asg rfl) rfl rfl rfl ?_
    refine .v (asg rfl) rfl rfl rfl ?_
    refine st (p := pv) (off := 0) (k := 1) (vs := [.int .i64 10, .int .i64 (-7)]) rfl rfl rfl (fun w => (tA27 w).2) rfl rfl rfl rfl ?_
    refine .cast (A' := [Box pf [.int .i64 r2.code, .int .i64 r2.index], Box pv [.int .i64 10, .int .i64 (-7)], Box pt [.int .i64 t.facts, .slice at_ t.init.length ct, .slice at_2 t.goal.length ct2, .slice at_3 t.ops.length ct3]]) rfl ?_
    refine .nil ?_
    refine .seqN ?_
    refine .ret ?_
    refine .seqR ?_
    refine .res3 rfl (rvT rfl) (rvT rfl) (rvC rfl tA27 (k := 1) rfl rfl) (fun w' S => ⟨(([] : List Int), false, (⟨10, (-7)⟩ : Fault)), (none, 0), h2, hF, rfl, (FH.le_trans (le1) (le2)), ⟨RSl.nil_, (Nat.le_refl 0)⟩, S.none⟩)
  replace hF := hF.2 q21
  refine .skip ?_
  refine .seqN ?_
  refine .seq ?_
  refine .region ?_
  refine .v (ldA (cs := [.int .i64 t.facts, .slice at_ t.init.length ct, .slice at_2 t.goal.length ct2, .slice at_3 t.ops.length ct3]) rfl tA25 rfl (cellsB (off := 0) (k := 2) rfl (m := 4) rfl)) rfl rfl rfl ?_
  refine .v (mv rfl) rfl rfl rfl ?_
  obtain ⟨r6, q22⟩ : ∃ y_ : List (List Int), y_ = sp_worlds t unknown := ⟨_, rfl⟩
  replace hF := hF r6 q22
  refine clR (α := Option Addr × Nat) (Φ := fun h1 z => RSl h1 z.1 r6 ∧ r6.length ≤ z.2) (V := fun z => .slice z.1 r6.length z.2) Tryz.call48 rfl rfl (fun w S => (by rw [q22]; exact c_worlds S.sub t at_ ct (_q1.mono (FH.le_trans (le1) (le2))) _q2 at_2 ct2 (_q3.mono (FH.le_trans (le1) (le2))) _q4 at_3 ct3 (_q5.mono (FH.le_trans (le1) (le2))) _q6 unknown aunknown cunknown (_q7.mono (FH.le_trans (le1) (le2))) _q8 q14)) rfl (fun z h3 le3 hz => ?_)
  obtain ⟨a2, c2⟩ := z
  obtain ⟨q23, q24⟩ := hz
  refine .v (mv rfl) rfl rfl rfl ?_
  refine .v (mkf (vf := []) (vc := [.pointer (some pt)]) rfl rfl) rfl rfl rfl ?_
  refine .freezeBx (k := 2) rfl (fun h4 le4 q25 => ?_)
  refine .cast (A' := [Box pf [.int .i64 r2.code, .int .i64 r2.index], Box pv [.int .i64 0, .int .i64 0], tru]) rfl ?_
  obtain ⟨q26, hF⟩ := hF
  obtain ⟨r7, q27⟩ : ∃ y_ : List Int × Bool × Bool, y_ = sp_breadthP r6 t t := ⟨_, rfl⟩
  replace hF := hF r7 q27
  refine clR (α := Option Addr × Nat) (Φ := fun h1 z => RSl h1 z.1 r7.1 ∧ r7.1.length ≤ z.2) (V := fun z => .tuple #[.slice z.1 r7.1.length z.2, .bool r7.2.1, .bool r7.2.2]) Tryz.call50 rfl rfl (fun w S => (by rw [q27]; exact c_breadthP S.sub (ht.mono (FH.le_trans (FH.le_trans (FH.le_trans (le1) (le2)) (le3)) (le4))) r6 a2 c2 (q23.mono (le4)) q24 t at_ ct (_q1.mono (FH.le_trans (FH.le_trans (FH.le_trans (le1) (le2)) (le3)) (le4))) _q2 at_2 ct2 (_q3.mono (FH.le_trans (FH.le_trans (FH.le_trans (le1) (le2)) (le3)) (le4))) _q4 at_3 ct3 (_q5.mono (FH.le_trans (FH.le_trans (FH.le_trans (le1) (le2)) (le3)) (le4))) _q6 p (CellsAt.mono (FH.le_trans (FH.le_trans (le2) (le3)) (le4)) q13) t at_ ct (_q1.mono (FH.le_trans (FH.le_trans (FH.le_trans (le1) (le2)) (le3)) (le4))) _q2 at_2 ct2 (_q3.mono (FH.le_trans (FH.le_trans (FH.le_trans (le1) (le2)) (le3)) (le4))) _q4 at_3 ct3 (_q5.mono (FH.le_trans (FH.le_trans (FH.le_trans (le1) (le2)) (le3)) (le4))) _q6 pt (CellsAt.mono (FH.le_refl _) q25) q26)) rfl (fun z h5 le5 hz => ?_)
  obtain ⟨a3, c3⟩ := z
  obtain ⟨q28, q29⟩ := hz
  refine .v (mv rfl) rfl rfl rfl ?_
  refine .v (ext rfl rfl) rfl rfl rfl ?_
  refine .v (ext rfl rfl) rfl rfl rfl ?_
  refine .v (ext rfl rfl) rfl rfl rfl ?_
  refine .v (asg rfl) rfl rfl rfl ?_
  refine .v (asg rfl) rfl rfl rfl ?_
  refine .v (asg rfl) rfl rfl rfl ?_
  refine .nil ?_
  refine .seqN ?_
  refine .seq ?_
  refine .seq ?_
  refine .region ?_
  refine .v (mv rfl) rfl rfl rfl ?_
  refine .v (ln rfl tS22.is) rfl rfl rfl ?_
  refine .v (bi rfl rfl rfl) rfl rfl rfl ?_
  refine .nil ?_
  refine .seqN ?_
  refine .cond rfl (fun q31 => ?_) (fun q31 => ?_)
  · replace hF := hF.1 q31
    refine .seq ?_
    refine .region ?_
    refine .v (bld (cs := #[.int .i64 10, .int .i64 (-5)]) (pv := [(0, .int .i64 10), (1, .int .i64 (-5))]) tB27 rfl rfl) rfl rfl rfl ?_
    refine .v (asg rfl) rfl rfl rfl ?_
    refine .v (asg rfl) rfl rfl rfl ?_
    refine st (p := pv) (off := 0) (k := 1) (vs := [.int .i64 10, .int .i64 (-5)]) rfl rfl rfl (fun w => (tA27 w).2) rfl rfl rfl rfl ?_
    refine .cast (A' := [Box pf [.int .i64 r2.code, .int .i64 r2.index], Box pv [.int .i64 10, .int .i64 (-5)], tru]) rfl ?_
    refine .nil ?_
    refine .seqN ?_
    refine .ret ?_
    refine .seqR ?_
    refine .res3 rfl (rvT rfl) (rvT rfl) (rvC rfl tA27 (k := 1) rfl rfl) (fun w' S => ⟨(([] : List Int), false, (⟨10, (-5)⟩ : Fault)), (none, 0), h5, hF, rfl, (FH.le_trans (FH.le_trans (FH.le_trans (FH.le_trans (le1) (le2)) (le3)) (le4)) (le5)), ⟨RSl.nil_, (Nat.le_refl 0)⟩, S.none⟩)
  replace hF := hF.2 q31
  refine .skip ?_
  refine .seqN ?_
  refine .seq ?_
  refine .region ?_
  refine .v (mv rfl) rfl rfl rfl ?_
  refine .v (mv rfl) rfl rfl rfl ?_
  refine .v (bld (cs := #[.int .i64 0, .int .i64 0]) (pv := []) tB27 rfl rfl) rfl rfl rfl ?_
  refine .v (asg rfl) rfl rfl rfl ?_
  refine .v (asg rfl) rfl rfl rfl ?_
  refine st (p := pv) (off := 0) (k := 1) (vs := [.int .i64 0, .int .i64 0]) rfl rfl rfl (fun w => (tA27 w).2) rfl rfl rfl rfl ?_
  refine .cast (A' := [Box pf [.int .i64 r2.code, .int .i64 r2.index], Box pv [.int .i64 0, .int .i64 0], tru]) rfl ?_
  refine .nil ?_
  refine .seqN ?_
  refine .ret ?_
  refine .res3 rfl (rvT rfl) (rvT rfl) (rvC rfl tA27 (k := 1) rfl rfl) (fun w' S => ⟨(r7.1, r7.2.1, (⟨0, 0⟩ : Fault)), (a3, c3), h5, hF, rfl, (FH.le_trans (FH.le_trans (FH.le_trans (FH.le_trans (le1) (le2)) (le3)) (le4)) (le5)), ⟨q28, q29⟩, S.none⟩)

theorem c_bplan {h : FH} {w : World} (hs : Sub h w) (ht : TabH Tryz.prog h) (t : Task) (at_ : Option Addr) (ct : Nat) (_q1 : RSl h at_ t.init) (_q2 : t.init.length ≤ ct) (at_2 : Option Addr) (ct2 : Nat) (_q3 : RSl h at_2 t.goal) (_q4 : t.goal.length ≤ ct2) (at_3 : Option Addr) (ct3 : Nat) (_q5 : RSl h at_3 t.ops) (_q6 : t.ops.length ≤ ct3) (unknown : List Int) (aunknown : Option Addr) (cunknown : Nat) (_q7 : RSl h aunknown unknown) (_q8 : unknown.length ≤ cunknown) : Calls Tryz.prog 12 #[.agg #[.int .i64 t.facts, .slice at_ t.init.length ct, .slice at_2 t.goal.length ct2, .slice at_3 t.ops.length ct3], .slice aunknown unknown.length cunknown] w fun e w' => ∃ (z : Option Addr × Nat) (h1 : FH), e = .returned (.tuple #[.slice z.1 (sp_bplan t unknown).1.length z.2, .bool (sp_bplan t unknown).2.1, .agg #[.int .i64 (sp_bplan t unknown).2.2.code, .int .i64 (sp_bplan t unknown).2.2.index]]) ∧ FH.le h h1 ∧ (RSl h1 z.1 (sp_bplan t unknown).1 ∧ (sp_bplan t unknown).1.length ≤ z.2) ∧ SH (Kp.all w h) h1 w' [] :=
  (w_bplan hs ht t at_ ct _q1 _q2 at_2 ct2 _q3 _q4 at_3 ct3 _q5 _q6 unknown aunknown cunknown _q7 _q8 (fun r => r = sp_bplan t unknown) (ok_bplan t unknown)).mono fun _ _ ⟨r, z, h1, hk, he, hl, hf, hS⟩ => by subst hk; exact ⟨z, h1, he, hl, hf, hS⟩

end Go.Proofs.YtojoehfldbimpaaGreatDoor.Pl

