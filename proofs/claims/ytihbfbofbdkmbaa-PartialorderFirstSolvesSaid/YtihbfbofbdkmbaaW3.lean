/- The walks: from what each function asks to what it does; printed from the code. No condition. -/
import Derived.Test.YtihbfbofbdkmbaaW2
namespace Go.Proofs.Ytihbfbofbdkmbaa.Pl
open Go Go.RowKit
theorem w_adds {h : FH} {w : World} (hs : Sub h w) (p : PPlan) (ap : Option Addr) (cp : Nat) (_q1 : RSl h ap p.t.init) (_q2 : p.t.init.length ≤ cp) (ap2 : Option Addr) (cp2 : Nat) (_q3 : RSl h ap2 p.t.goal) (_q4 : p.t.goal.length ≤ cp2) (ap3 : Option Addr) (cp3 : Nat) (_q5 : RSl h ap3 p.t.ops) (_q6 : p.t.ops.length ≤ cp3) (ap4 : Option Addr) (cp4 : Nat) (_q7 : RSl h ap4 p.steps) (_q8 : p.steps.length ≤ cp4) (ap5 : Option Addr) (cp5 : Nat) (_q9 : RSl h ap5 p.order) (_q10 : p.order.length ≤ cp5) (i : Int) (fact : Int) (K : Bool → Prop) (hF : F_adds p i fact K) : Calls Try.prog 80 #[.agg #[.int .i64 p.t.facts, .slice ap p.t.init.length cp, .slice ap2 p.t.goal.length cp2, .slice ap3 p.t.ops.length cp3, .slice ap4 p.steps.length cp4, .slice ap5 p.order.length cp5], .int .i64 i, .int .i64 fact] w fun e w' => ∃ r : Bool, K r ∧ e = .returned (.bool r) ∧ Below w.heap.size w w' := by
  refine enter (args := [.agg #[.int .i64 p.t.facts, .slice ap p.t.init.length cp, .slice ap2 p.t.goal.length cp2, .slice ap3 p.t.ops.length cp3, .slice ap4 p.steps.length cp4, .slice ap5 p.order.length cp5], .int .i64 i, .int .i64 fact]) Try.func80 rfl Try.ntmps80 rfl hs ?_
  refine .seq ?_
  refine .region ?_
  refine bx (vs := [.int .i64 p.t.facts, .slice ap p.t.init.length cp, .slice ap2 p.t.goal.length cp2, .slice ap3 p.t.ops.length cp3, .slice ap4 p.steps.length cp4, .slice ap5 p.order.length cp5]) rfl rfl rfl (fun pp => ?_)
  refine .v (asg rfl) rfl rfl rfl ?_
  refine .nil ?_
  refine .seqN ?_
  refine .seq ?_
  refine .open_ (by kernel_rfl) (by kernel_rfl) ?_
  refine .v (fa rfl tF87_0) rfl rfl rfl ?_
  refine .v (faa (p := pp) (o1 := 0) rfl tF25_3 rfl) rfl rfl rfl ?_
  refine .v (ld1 rfl tO23 (cellB (off := 3) (k := 0) rfl rfl)) rfl rfl rfl ?_
  refine .v (fa rfl tF87_1) rfl rfl rfl ?_
  refine .v (ld1 rfl tO22 (cellB (off := 4) (k := 0) rfl rfl)) rfl rfl rfl ?_
  refine .v (mv rfl) rfl rfl rfl ?_
  obtain ⟨q11, hF⟩ := hF
  refine .v (ix rfl rfl tS22 (_q7.ne (by decide) (inb_pos q11)) q11) rfl rfl rfl ?_
  refine .v (ld1 (v := .int .i64 (gt p.steps i)) rfl tO3 (cellH (_q7.elemF q11 (by decide) 0 _ rfl))) rfl rfl rfl ?_
  obtain ⟨q12, hF⟩ := hF
  refine .v (ix rfl rfl tS23 (_q5.ne (by decide) (inb_pos q12)) q12) rfl rfl rfl ?_
  refine .v (fa rfl tF89_1) rfl rfl rfl ?_
  obtain ⟨_, ⟨a, c, a2, c2, a3, c3, rfl, ⟨q13, q14⟩, ⟨q15, q16⟩, q17, q18⟩, q19⟩ := _q5.elem q12
  refine .v (ld1 (v := .slice a2 ((gt p.t.ops (gt p.steps i)).add.length) c2) rfl tO22 (cellH (q19 (by decide) 1 _ rfl))) rfl rfl rfl ?_
  refine .v (mv rfl) rfl rfl rfl ?_
  obtain ⟨q20, hF⟩ := hF
  obtain ⟨r2, q21⟩ : ∃ y_ : Bool, y_ = sp_contains ((gt p.t.ops (gt p.steps i)).add) fact := ⟨_, rfl⟩
  replace hF := hF r2 q21
  refine .c (cl (v := .bool r2) Try.call47 rfl rfl (fun w S => (by rw [q21]; exact c_contains S.sub ((gt p.t.ops (gt p.steps i)).add) a2 c2 q16 q15 fact q20))) rfl rfl rfl ?_
  refine .v (asg rfl) rfl rfl rfl ?_
  refine .fin ?_
  refine .seqN ?_
  refine .ret ?_
  refine .res1 rfl (rvT rfl) (fun w' S => ⟨r2, hF, rfl, S.below⟩)

theorem c_adds {h : FH} {w : World} (hs : Sub h w) (p : PPlan) (ap : Option Addr) (cp : Nat) (_q1 : RSl h ap p.t.init) (_q2 : p.t.init.length ≤ cp) (ap2 : Option Addr) (cp2 : Nat) (_q3 : RSl h ap2 p.t.goal) (_q4 : p.t.goal.length ≤ cp2) (ap3 : Option Addr) (cp3 : Nat) (_q5 : RSl h ap3 p.t.ops) (_q6 : p.t.ops.length ≤ cp3) (ap4 : Option Addr) (cp4 : Nat) (_q7 : RSl h ap4 p.steps) (_q8 : p.steps.length ≤ cp4) (ap5 : Option Addr) (cp5 : Nat) (_q9 : RSl h ap5 p.order) (_q10 : p.order.length ≤ cp5) (i : Int) (fact : Int) (hp : pre_adds p i fact) : Calls Try.prog 80 #[.agg #[.int .i64 p.t.facts, .slice ap p.t.init.length cp, .slice ap2 p.t.goal.length cp2, .slice ap3 p.t.ops.length cp3, .slice ap4 p.steps.length cp4, .slice ap5 p.order.length cp5], .int .i64 i, .int .i64 fact] w fun e w' => e = .returned (.bool (sp_adds p i fact)) ∧ Below w.heap.size w w' :=
  (w_adds hs p ap cp _q1 _q2 ap2 cp2 _q3 _q4 ap3 cp3 _q5 _q6 ap4 cp4 _q7 _q8 ap5 cp5 _q9 _q10 i fact (fun r => r = sp_adds p i fact) (ok_adds p i fact hp)).mono fun _ _ ⟨_, hk, he, hb⟩ => ⟨by rw [he, hk], hb⟩

theorem w_deletes {h : FH} {w : World} (hs : Sub h w) (p : PPlan) (ap : Option Addr) (cp : Nat) (_q1 : RSl h ap p.t.init) (_q2 : p.t.init.length ≤ cp) (ap2 : Option Addr) (cp2 : Nat) (_q3 : RSl h ap2 p.t.goal) (_q4 : p.t.goal.length ≤ cp2) (ap3 : Option Addr) (cp3 : Nat) (_q5 : RSl h ap3 p.t.ops) (_q6 : p.t.ops.length ≤ cp3) (ap4 : Option Addr) (cp4 : Nat) (_q7 : RSl h ap4 p.steps) (_q8 : p.steps.length ≤ cp4) (ap5 : Option Addr) (cp5 : Nat) (_q9 : RSl h ap5 p.order) (_q10 : p.order.length ≤ cp5) (i : Int) (fact : Int) (K : Bool → Prop) (hF : F_deletes p i fact K) : Calls Try.prog 81 #[.agg #[.int .i64 p.t.facts, .slice ap p.t.init.length cp, .slice ap2 p.t.goal.length cp2, .slice ap3 p.t.ops.length cp3, .slice ap4 p.steps.length cp4, .slice ap5 p.order.length cp5], .int .i64 i, .int .i64 fact] w fun e w' => ∃ r : Bool, K r ∧ e = .returned (.bool r) ∧ Below w.heap.size w w' := by
  refine enter (args := [.agg #[.int .i64 p.t.facts, .slice ap p.t.init.length cp, .slice ap2 p.t.goal.length cp2, .slice ap3 p.t.ops.length cp3, .slice ap4 p.steps.length cp4, .slice ap5 p.order.length cp5], .int .i64 i, .int .i64 fact]) Try.func81 rfl Try.ntmps81 rfl hs ?_
  refine .seq ?_
  refine .region ?_
  refine bx (vs := [.int .i64 p.t.facts, .slice ap p.t.init.length cp, .slice ap2 p.t.goal.length cp2, .slice ap3 p.t.ops.length cp3, .slice ap4 p.steps.length cp4, .slice ap5 p.order.length cp5]) rfl rfl rfl (fun pp => ?_)
  refine .v (asg rfl) rfl rfl rfl ?_
  refine .nil ?_
  refine .seqN ?_
  refine .seq ?_
  refine .open_ (by kernel_rfl) (by kernel_rfl) ?_
  refine .v (fa rfl tF87_0) rfl rfl rfl ?_
  refine .v (faa (p := pp) (o1 := 0) rfl tF25_3 rfl) rfl rfl rfl ?_
  refine .v (ld1 rfl tO23 (cellB (off := 3) (k := 0) rfl rfl)) rfl rfl rfl ?_
  refine .v (fa rfl tF87_1) rfl rfl rfl ?_
  refine .v (ld1 rfl tO22 (cellB (off := 4) (k := 0) rfl rfl)) rfl rfl rfl ?_
  refine .v (mv rfl) rfl rfl rfl ?_
  obtain ⟨q11, hF⟩ := hF
  refine .v (ix rfl rfl tS22 (_q7.ne (by decide) (inb_pos q11)) q11) rfl rfl rfl ?_
  refine .v (ld1 (v := .int .i64 (gt p.steps i)) rfl tO3 (cellH (_q7.elemF q11 (by decide) 0 _ rfl))) rfl rfl rfl ?_
  obtain ⟨q12, hF⟩ := hF
  refine .v (ix rfl rfl tS23 (_q5.ne (by decide) (inb_pos q12)) q12) rfl rfl rfl ?_
  refine .v (fa rfl tF89_2) rfl rfl rfl ?_
  obtain ⟨_, ⟨a, c, a2, c2, a3, c3, rfl, ⟨q13, q14⟩, ⟨q15, q16⟩, q17, q18⟩, q19⟩ := _q5.elem q12
  refine .v (ld1 (v := .slice a3 ((gt p.t.ops (gt p.steps i)).del.length) c3) rfl tO22 (cellH (q19 (by decide) 2 _ rfl))) rfl rfl rfl ?_
  refine .v (mv rfl) rfl rfl rfl ?_
  obtain ⟨q20, hF⟩ := hF
  obtain ⟨r2, q21⟩ : ∃ y_ : Bool, y_ = sp_contains ((gt p.t.ops (gt p.steps i)).del) fact := ⟨_, rfl⟩
  replace hF := hF r2 q21
  refine .c (cl (v := .bool r2) Try.call47 rfl rfl (fun w S => (by rw [q21]; exact c_contains S.sub ((gt p.t.ops (gt p.steps i)).del) a3 c3 q18 q17 fact q20))) rfl rfl rfl ?_
  refine .v (asg rfl) rfl rfl rfl ?_
  refine .fin ?_
  refine .seqN ?_
  refine .ret ?_
  refine .res1 rfl (rvT rfl) (fun w' S => ⟨r2, hF, rfl, S.below⟩)

theorem c_deletes {h : FH} {w : World} (hs : Sub h w) (p : PPlan) (ap : Option Addr) (cp : Nat) (_q1 : RSl h ap p.t.init) (_q2 : p.t.init.length ≤ cp) (ap2 : Option Addr) (cp2 : Nat) (_q3 : RSl h ap2 p.t.goal) (_q4 : p.t.goal.length ≤ cp2) (ap3 : Option Addr) (cp3 : Nat) (_q5 : RSl h ap3 p.t.ops) (_q6 : p.t.ops.length ≤ cp3) (ap4 : Option Addr) (cp4 : Nat) (_q7 : RSl h ap4 p.steps) (_q8 : p.steps.length ≤ cp4) (ap5 : Option Addr) (cp5 : Nat) (_q9 : RSl h ap5 p.order) (_q10 : p.order.length ≤ cp5) (i : Int) (fact : Int) (hp : pre_adds p i fact) : Calls Try.prog 81 #[.agg #[.int .i64 p.t.facts, .slice ap p.t.init.length cp, .slice ap2 p.t.goal.length cp2, .slice ap3 p.t.ops.length cp3, .slice ap4 p.steps.length cp4, .slice ap5 p.order.length cp5], .int .i64 i, .int .i64 fact] w fun e w' => e = .returned (.bool (sp_deletes p i fact)) ∧ Below w.heap.size w w' :=
  (w_deletes hs p ap cp _q1 _q2 ap2 cp2 _q3 _q4 ap3 cp3 _q5 _q6 ap4 cp4 _q7 _q8 ap5 cp5 _q9 _q10 i fact (fun r => r = sp_deletes p i fact) (ok_deletes p i fact hp)).mono fun _ _ ⟨_, hk, he, hb⟩ => ⟨by rw [he, hk], hb⟩

set_option maxHeartbeats 8000000 in
theorem w_certain {h : FH} {w : World} (hs : Sub h w) (p : PPlan) (ap : Option Addr) (cp : Nat) (_q1 : RSl h ap p.t.init) (_q2 : p.t.init.length ≤ cp) (ap2 : Option Addr) (cp2 : Nat) (_q3 : RSl h ap2 p.t.goal) (_q4 : p.t.goal.length ≤ cp2) (ap3 : Option Addr) (cp3 : Nat) (_q5 : RSl h ap3 p.t.ops) (_q6 : p.t.ops.length ≤ cp3) (ap4 : Option Addr) (cp4 : Nat) (_q7 : RSl h ap4 p.steps) (_q8 : p.steps.length ≤ cp4) (ap5 : Option Addr) (cp5 : Nat) (_q9 : RSl h ap5 p.order) (_q10 : p.order.length ≤ cp5) (fact : Int) (j : Int) (K : Bool → Prop) (hF : F_certain p fact j K) : Calls Try.prog 52 #[.agg #[.int .i64 p.t.facts, .slice ap p.t.init.length cp, .slice ap2 p.t.goal.length cp2, .slice ap3 p.t.ops.length cp3, .slice ap4 p.steps.length cp4, .slice ap5 p.order.length cp5], .int .i64 fact, .int .i64 j] w fun e w' => ∃ r : Bool, K r ∧ e = .returned (.bool r) ∧ Below w.heap.size w w' := by
  refine enter (args := [.agg #[.int .i64 p.t.facts, .slice ap p.t.init.length cp, .slice ap2 p.t.goal.length cp2, .slice ap3 p.t.ops.length cp3, .slice ap4 p.steps.length cp4, .slice ap5 p.order.length cp5], .int .i64 fact, .int .i64 j]) Try.func52 rfl Try.ntmps52 rfl hs ?_
  refine .seq ?_
  refine .region ?_
  refine bx (vs := [.int .i64 p.t.facts, .slice ap p.t.init.length cp, .slice ap2 p.t.goal.length cp2, .slice ap3 p.t.ops.length cp3, .slice ap4 p.steps.length cp4, .slice ap5 p.order.length cp5]) rfl rfl rfl (fun pp => ?_)
  refine .v (asg rfl) rfl rfl rfl ?_
  refine .nil ?_
  refine .seqN ?_
  refine .seq ?_
  refine .region ?_
  refine .v (fa rfl tF87_0) rfl rfl rfl ?_
  refine .v (faa (p := pp) (o1 := 0) rfl tF25_1 rfl) rfl rfl rfl ?_
  refine .v (ld1 rfl tO22 (cellB (off := 1) (k := 0) rfl rfl)) rfl rfl rfl ?_
  refine .v (mv rfl) rfl rfl rfl ?_
  obtain ⟨q11, hF⟩ := hF
  obtain ⟨r2, q12⟩ : ∃ y_ : Bool, y_ = sp_contains p.t.init fact := ⟨_, rfl⟩
  replace hF := hF r2 q12
  refine .c (cl (v := .bool r2) Try.call47 rfl rfl (fun w S => (by rw [q12]; exact c_contains S.sub p.t.init ap cp _q1 _q2 fact q11))) rfl rfl rfl ?_
  refine .v (asg rfl) rfl rfl rfl ?_
  refine .nil ?_
  refine .seqN ?_
  refine .seq ?_
  refine .seq ?_
  refine .region ?_
  refine .v (fa rfl tF87_1) rfl rfl rfl ?_
  refine .v (ld1 rfl tO22 (cellB (off := 4) (k := 0) rfl rfl)) rfl rfl rfl ?_
  refine .v (ln rfl tS22.is) rfl rfl rfl ?_
  refine .v (mv rfl) rfl rfl rfl ?_
  refine .nil ?_
  refine .seqN ?_
  refine .block ?_
  obtain ⟨I1, μ1, q105, q106⟩ := hF
  refine .loop' (σ := Bool × Int) (fun z => I1 z.1 z.2) (fun z => μ1 z.1 z.2) (fun z => [(1, .int .i64 fact), (2, .int .i64 j), (3, .pointer (some pp)), (7, .bool z.1), (19, .int .i64 ((p.steps.length : Nat) : Int)), (20, .int .i64 z.2)]) (fun _ => [Box pp [.int .i64 p.t.facts, .slice ap p.t.init.length cp, .slice ap2 p.t.goal.length cp2, .slice ap3 p.t.ops.length cp3, .slice ap4 p.steps.length cp4, .slice ap5 p.order.length cp5]]) (fun _ => h) (r2, 0) q105 (.cons rfl (.cons rfl (.cons rfl (.cons rfl (.cons rfl (.cons rfl (.nil))))))) rfl (FH.le_refl _) ?_
  rintro ⟨made, t20⟩ q105
  have hF := q106 made t20 q105
  show J _ _ _ _ _ [(1, .int .i64 fact), (2, .int .i64 j), (3, .pointer (some pp)), (7, .bool made), (19, .int .i64 ((p.steps.length : Nat) : Int)), (20, .int .i64 t20)] [Box pp [.int .i64 p.t.facts, .slice ap p.t.init.length cp, .slice ap2 p.t.goal.length cp2, .slice ap3 p.t.ops.length cp3, .slice ap4 p.steps.length cp4, .slice ap5 p.order.length cp5]] h
  refine .seq ?_
  refine .region ?_
  refine .v (bi rfl rfl rfl) rfl rfl rfl ?_
  refine .nil ?_
  refine .seqN ?_
  refine .seq ?_
  refine .cond rfl (fun q109 => ?_) (fun q109 => ?_)
  · replace hF := hF.1 q109
    refine .skip ?_
    refine .seqN ?_
    refine .share (σ := Bool) (fun z => F_certain_J1 made t20 I1 μ1 z) (fun z => [(1, .int .i64 fact), (2, .int .i64 j), (3, .pointer (some pp)), (7, .bool z), (19, .int .i64 ((p.steps.length : Nat) : Int)), (20, .int .i64 t20)]) (fun _ => [Box pp [.int .i64 p.t.facts, .slice ap p.t.init.length cp, .slice ap2 p.t.goal.length cp2, .slice ap3 p.t.ops.length cp3, .slice ap4 p.steps.length cp4, .slice ap5 p.order.length cp5]]) (fun _ => h) ?_ (fun q117 => ?_)
    · rintro made3 hF
      show J _ _ _ _ _ [(1, .int .i64 fact), (2, .int .i64 j), (3, .pointer (some pp)), (7, .bool made3), (19, .int .i64 ((p.steps.length : Nat) : Int)), (20, .int .i64 t20)] [Box pp [.int .i64 p.t.facts, .slice ap p.t.init.length cp, .slice ap2 p.t.goal.length cp2, .slice ap3 p.t.ops.length cp3, .slice ap4 p.steps.length cp4, .slice ap5 p.order.length cp5]] h
      refine .region ?_
      refine .v (bi rfl rfl rfl) rfl rfl rfl ?_
      refine .v (mv rfl) rfl rfl rfl ?_
      refine .nil ?_
      exact .round (made3, IntKind.i64.wrap (t20 + 1)) hF.1 hF.2 (.cons rfl (.cons rfl (.cons rfl (.cons rfl (.cons rfl (.cons rfl (.nil))))))) rfl (FH.le_refl _)
    refine .block ?_
    refine .seq ?_
    refine .region ?_
    refine .v (mv rfl) rfl rfl rfl ?_
    refine .v (asg rfl) rfl rfl rfl ?_
    refine .nil ?_
    refine .seqN ?_
    refine .region ?_
    refine .v (mv rfl) rfl rfl rfl ?_
    refine .v (mv rfl) rfl rfl rfl ?_
    rcases Bool.eq_false_or_eq_true (made) with q118 | q118
    · replace hF := hF.1 q118
      refine .gS rfl rfl rfl q118 rfl rfl ?_
      refine .gS rfl rfl rfl q118 rfl rfl ?_
      refine .gS rfl rfl rfl q118 rfl rfl ?_
      refine .gS rfl rfl rfl q118 rfl rfl ?_
      refine .gU rfl rfl rfl rfl rfl ?_
      refine .gU rfl rfl rfl rfl rfl ?_
      refine .gU rfl rfl rfl rfl rfl ?_
      refine .gU rfl rfl rfl rfl rfl ?_
      refine .gS rfl rfl rfl q118 rfl rfl ?_
      refine .gS rfl rfl rfl q118 rfl rfl ?_
      refine .gU rfl rfl rfl rfl rfl ?_
      refine .gU rfl rfl rfl rfl rfl ?_
      refine .gU rfl rfl rfl rfl rfl ?_
      refine .gU rfl rfl rfl rfl rfl ?_
      refine .gS rfl rfl rfl q118 rfl rfl ?_
      refine .v (pkT rfl q118 rfl) rfl rfl rfl ?_
      refine .v (asg rfl) rfl rfl rfl ?_
      refine .nil ?_
      refine .blkN ?_
      exact .use q117 true hF (.cons rfl (.cons rfl (.cons rfl (.cons rfl (.cons rfl (.cons rfl (.nil))))))) rfl (FH.le_refl _)
    replace hF := hF.2 q118
    refine .gv (mv rfl) rfl rfl rfl q118 rfl rfl ?_
    refine .gv (mv rfl) rfl rfl rfl q118 rfl rfl ?_
    refine .gv (bi rfl rfl rfl) rfl rfl rfl q118 rfl rfl ?_
    refine .gv (mv rfl) rfl rfl rfl q118 rfl rfl ?_
    rcases Bool.eq_false_or_eq_true (t20 != j) with q119 | q119
    · replace hF := hF.1 q119
      refine .gv (ldA (cs := [.int .i64 p.t.facts, .slice ap p.t.init.length cp, .slice ap2 p.t.goal.length cp2, .slice ap3 p.t.ops.length cp3, .slice ap4 p.steps.length cp4, .slice ap5 p.order.length cp5]) rfl tA87 rfl (cellsB (off := 0) (k := 0) rfl (m := 6) rfl)) rfl rfl rfl q119 rfl rfl ?_
      refine .gv (mv rfl) rfl rfl rfl q119 rfl rfl ?_
      refine .gv (mv rfl) rfl rfl rfl q119 rfl rfl ?_
      obtain ⟨q120, hF⟩ := hF
      obtain ⟨r3, q121⟩ : ∃ y_ : Bool, y_ = sp_earlier p t20 j := ⟨_, rfl⟩
      replace hF := hF r3 q121
      refine .gc (cl (v := .bool r3) Try.call79 rfl rfl (fun w S => (by rw [q121]; exact c_earlier S.sub p ap cp _q1 _q2 ap2 cp2 _q3 _q4 ap3 cp3 _q5 _q6 ap4 cp4 _q7 _q8 ap5 cp5 _q9 _q10 t20 j q120))) rfl rfl rfl q119 rfl rfl ?_
      refine .gv (pkT rfl q119 rfl) rfl rfl rfl q118 rfl rfl ?_
      refine .gv (mv rfl) rfl rfl rfl q118 rfl rfl ?_
      rcases Bool.eq_false_or_eq_true (r3) with q122 | q122
      · replace hF := hF.1 q122
        refine .gv (ldA (cs := [.int .i64 p.t.facts, .slice ap p.t.init.length cp, .slice ap2 p.t.goal.length cp2, .slice ap3 p.t.ops.length cp3, .slice ap4 p.steps.length cp4, .slice ap5 p.order.length cp5]) rfl tA87 rfl (cellsB (off := 0) (k := 0) rfl (m := 6) rfl)) rfl rfl rfl q122 rfl rfl ?_
        refine .gv (mv rfl) rfl rfl rfl q122 rfl rfl ?_
        refine .gv (mv rfl) rfl rfl rfl q122 rfl rfl ?_
        obtain ⟨q123, hF⟩ := hF
        obtain ⟨r4, q124⟩ : ∃ y_ : Bool, y_ = sp_adds p t20 fact := ⟨_, rfl⟩
        replace hF := hF r4 q124
        refine .gc (cl (v := .bool r4) Try.call80 rfl rfl (fun w S => (by rw [q124]; exact c_adds S.sub p ap cp _q1 _q2 ap2 cp2 _q3 _q4 ap3 cp3 _q5 _q6 ap4 cp4 _q7 _q8 ap5 cp5 _q9 _q10 t20 fact q123))) rfl rfl rfl q122 rfl rfl ?_
        refine .gv (pkT rfl q122 rfl) rfl rfl rfl q118 rfl rfl ?_
        refine .v (pkF rfl q118 rfl) rfl rfl rfl ?_
        refine .v (asg rfl) rfl rfl rfl ?_
        refine .nil ?_
        refine .blkN ?_
        exact .use q117 r4 hF (.cons rfl (.cons rfl (.cons rfl (.cons rfl (.cons rfl (.cons rfl (.nil))))))) rfl (FH.le_refl _)
      replace hF := hF.2 q122
      refine .gS rfl rfl rfl q122 rfl rfl ?_
      refine .gS rfl rfl rfl q122 rfl rfl ?_
      refine .gS rfl rfl rfl q122 rfl rfl ?_
      refine .gS rfl rfl rfl q122 rfl rfl ?_
      refine .gv (pkF rfl q122 rfl) rfl rfl rfl q118 rfl rfl ?_
      refine .v (pkF rfl q118 rfl) rfl rfl rfl ?_
      refine .v (asg rfl) rfl rfl rfl ?_
      refine .nil ?_
      refine .blkN ?_
      exact .use q117 false hF (.cons rfl (.cons rfl (.cons rfl (.cons rfl (.cons rfl (.cons rfl (.nil))))))) rfl (FH.le_refl _)
    replace hF := hF.2 q119
    refine .gS rfl rfl rfl q119 rfl rfl ?_
    refine .gS rfl rfl rfl q119 rfl rfl ?_
    refine .gS rfl rfl rfl q119 rfl rfl ?_
    refine .gS rfl rfl rfl q119 rfl rfl ?_
    refine .gv (pkF rfl q119 rfl) rfl rfl rfl q118 rfl rfl ?_
    refine .gv (mv rfl) rfl rfl rfl q118 rfl rfl ?_
    refine .gS rfl rfl rfl rfl rfl rfl ?_
    refine .gS rfl rfl rfl rfl rfl rfl ?_
    refine .gS rfl rfl rfl rfl rfl rfl ?_
    refine .gS rfl rfl rfl rfl rfl rfl ?_
    refine .gv (pkF rfl rfl rfl) rfl rfl rfl q118 rfl rfl ?_
    refine .v (pkF rfl q118 rfl) rfl rfl rfl ?_
    refine .v (asg rfl) rfl rfl rfl ?_
    refine .nil ?_
    refine .blkN ?_
    exact .use q117 false hF (.cons rfl (.cons rfl (.cons rfl (.cons rfl (.cons rfl (.cons rfl (.nil))))))) rfl (FH.le_refl _)
  replace hF := hF.2 q109
  refine .exit ?_
  refine .seqX ?_
  refine .seqX ?_
  refine .blkX ?_
  refine .seqN ?_
  refine .seq ?_
  refine .seq ?_
  refine .region ?_
  refine .v (mv rfl) rfl rfl rfl ?_
  refine .v (nt rfl) rfl rfl rfl ?_
  refine .nil ?_
  refine .seqN ?_
  refine .cond rfl (fun q126 => ?_) (fun q126 => ?_)
  · replace hF := hF.1 q126
    refine .seq ?_
    refine .region ?_
    refine .v (asg rfl) rfl rfl rfl ?_
    refine .nil ?_
    refine .seqN ?_
    refine .ret ?_
    refine .seqR ?_
    refine .res1 rfl (rvT rfl) (fun w' S => ⟨false, hF, rfl, S.below⟩)
  replace hF := hF.2 q126
  refine .skip ?_
  refine .seqN ?_
  refine .seq ?_
  refine .seq ?_
  refine .region ?_
  refine .v (fa rfl tF87_1) rfl rfl rfl ?_
  refine .v (ld1 rfl tO22 (cellB (off := 4) (k := 0) rfl rfl)) rfl rfl rfl ?_
  refine .v (ln rfl tS22.is) rfl rfl rfl ?_
  refine .v (mv rfl) rfl rfl rfl ?_
  refine .nil ?_
  refine .seqN ?_
  refine .block ?_
  obtain ⟨I2, μ2, q2065, q2066⟩ := hF
  refine .loop' (σ := Int) (fun z => I2 z) (fun z => μ2 z) (fun z => [(1, .int .i64 fact), (2, .int .i64 j), (3, .pointer (some pp)), (46, .int .i64 ((p.steps.length : Nat) : Int)), (47, .int .i64 z)]) (fun _ => [Box pp [.int .i64 p.t.facts, .slice ap p.t.init.length cp, .slice ap2 p.t.goal.length cp2, .slice ap3 p.t.ops.length cp3, .slice ap4 p.steps.length cp4, .slice ap5 p.order.length cp5]]) (fun _ => h) 0 q2065 (.cons rfl (.cons rfl (.cons rfl (.cons rfl (.cons rfl (.nil)))))) rfl (FH.le_refl _) ?_
  rintro t47 q2065
  have hF := q2066 t47 q2065
  show J _ _ _ _ _ [(1, .int .i64 fact), (2, .int .i64 j), (3, .pointer (some pp)), (46, .int .i64 ((p.steps.length : Nat) : Int)), (47, .int .i64 t47)] [Box pp [.int .i64 p.t.facts, .slice ap p.t.init.length cp, .slice ap2 p.t.goal.length cp2, .slice ap3 p.t.ops.length cp3, .slice ap4 p.steps.length cp4, .slice ap5 p.order.length cp5]] h
  refine .seq ?_
  refine .region ?_
  refine .v (bi rfl rfl rfl) rfl rfl rfl ?_
  refine .nil ?_
  refine .seqN ?_
  refine .seq ?_
  refine .cond rfl (fun q2069 => ?_) (fun q2069 => ?_)
  · replace hF := hF.1 q2069
    refine .skip ?_
    refine .seqN ?_
    refine .share (σ := Unit) (fun _ => F_certain_J2 t47 I2 μ2) (fun _ => [(1, .int .i64 fact), (2, .int .i64 j), (3, .pointer (some pp)), (46, .int .i64 ((p.steps.length : Nat) : Int)), (47, .int .i64 t47)]) (fun _ => [Box pp [.int .i64 p.t.facts, .slice ap p.t.init.length cp, .slice ap2 p.t.goal.length cp2, .slice ap3 p.t.ops.length cp3, .slice ap4 p.steps.length cp4, .slice ap5 p.order.length cp5]]) (fun _ => h) ?_ (fun q2264 => ?_)
    · rintro ⟨⟩ hF
      show J _ _ _ _ _ [(1, .int .i64 fact), (2, .int .i64 j), (3, .pointer (some pp)), (46, .int .i64 ((p.steps.length : Nat) : Int)), (47, .int .i64 t47)] [Box pp [.int .i64 p.t.facts, .slice ap p.t.init.length cp, .slice ap2 p.t.goal.length cp2, .slice ap3 p.t.ops.length cp3, .slice ap4 p.steps.length cp4, .slice ap5 p.order.length cp5]] h
      refine .region ?_
      refine .v (bi rfl rfl rfl) rfl rfl rfl ?_
      refine .v (mv rfl) rfl rfl rfl ?_
      refine .nil ?_
      exact .round (IntKind.i64.wrap (t47 + 1)) hF.1 hF.2 (.cons rfl (.cons rfl (.cons rfl (.cons rfl (.cons rfl (.nil)))))) rfl (FH.le_refl _)
    refine .block ?_
    refine .seq ?_
    refine .region ?_
    refine .v (mv rfl) rfl rfl rfl ?_
    refine .v (asg rfl) rfl rfl rfl ?_
    refine .nil ?_
    refine .seqN ?_
    refine .seq ?_
    refine .share (σ := Bool) (fun z => F_certain_J3 p fact j K z t47 I2 μ2) (fun z => [(1, .int .i64 fact), (2, .int .i64 j), (3, .pointer (some pp)), (9, .int .i64 t47), (46, .int .i64 ((p.steps.length : Nat) : Int)), (47, .int .i64 t47), (60, .bool z)]) (fun _ => [Box pp [.int .i64 p.t.facts, .slice ap p.t.init.length cp, .slice ap2 p.t.goal.length cp2, .slice ap3 p.t.ops.length cp3, .slice ap4 p.steps.length cp4, .slice ap5 p.order.length cp5]]) (fun _ => h) ?_ (fun q2270 => ?_)
    · rintro t60 hF
      show J _ _ _ _ _ [(1, .int .i64 fact), (2, .int .i64 j), (3, .pointer (some pp)), (9, .int .i64 t47), (46, .int .i64 ((p.steps.length : Nat) : Int)), (47, .int .i64 t47), (60, .bool t60)] [Box pp [.int .i64 p.t.facts, .slice ap p.t.init.length cp, .slice ap2 p.t.goal.length cp2, .slice ap3 p.t.ops.length cp3, .slice ap4 p.steps.length cp4, .slice ap5 p.order.length cp5]] h
      refine .cond rfl (fun q2272 => ?_) (fun q2272 => ?_)
      · replace hF := hF.1 q2272
        refine .exit ?_
        refine .seqX ?_
        refine .blkX ?_
        exact .use q2264 () hF (.cons rfl (.cons rfl (.cons rfl (.cons rfl (.cons rfl (.nil)))))) rfl (FH.le_refl _)
      replace hF := hF.2 q2272
      refine .skip ?_
      refine .seqN ?_
      refine .seq ?_
      refine .region ?_
      refine .v (asg rfl) rfl rfl rfl ?_
      refine .nil ?_
      refine .seqN ?_
      refine .seq ?_
      refine .seq ?_
      refine .region ?_
      refine .v (fa rfl tF87_1) rfl rfl rfl ?_
      refine .v (ld1 rfl tO22 (cellB (off := 4) (k := 0) rfl rfl)) rfl rfl rfl ?_
      refine .v (ln rfl tS22.is) rfl rfl rfl ?_
      refine .v (mv rfl) rfl rfl rfl ?_
      refine .nil ?_
      refine .seqN ?_
      refine .block ?_
      obtain ⟨I3, μ3, q2421, q2422⟩ := hF
      refine .loop' (σ := Bool × Int) (fun z => I3 z.1 z.2) (fun z => μ3 z.1 z.2) (fun z => [(1, .int .i64 fact), (2, .int .i64 j), (3, .pointer (some pp)), (9, .int .i64 t47), (10, .bool z.1), (46, .int .i64 ((p.steps.length : Nat) : Int)), (47, .int .i64 t47), (63, .int .i64 ((p.steps.length : Nat) : Int)), (64, .int .i64 z.2)]) (fun _ => [Box pp [.int .i64 p.t.facts, .slice ap p.t.init.length cp, .slice ap2 p.t.goal.length cp2, .slice ap3 p.t.ops.length cp3, .slice ap4 p.steps.length cp4, .slice ap5 p.order.length cp5]]) (fun _ => h) (false, 0) q2421 (.cons rfl (.cons rfl (.cons rfl (.cons rfl (.cons rfl (.cons rfl (.cons rfl (.cons rfl (.cons rfl (.nil)))))))))) rfl (FH.le_refl _) ?_
      rintro ⟨repaired, t64⟩ q2421
      have hF := q2422 repaired t64 q2421
      show J _ _ _ _ _ [(1, .int .i64 fact), (2, .int .i64 j), (3, .pointer (some pp)), (9, .int .i64 t47), (10, .bool repaired), (46, .int .i64 ((p.steps.length : Nat) : Int)), (47, .int .i64 t47), (63, .int .i64 ((p.steps.length : Nat) : Int)), (64, .int .i64 t64)] [Box pp [.int .i64 p.t.facts, .slice ap p.t.init.length cp, .slice ap2 p.t.goal.length cp2, .slice ap3 p.t.ops.length cp3, .slice ap4 p.steps.length cp4, .slice ap5 p.order.length cp5]] h
      refine .seq ?_
      refine .region ?_
      refine .v (bi rfl rfl rfl) rfl rfl rfl ?_
      refine .nil ?_
      refine .seqN ?_
      refine .seq ?_
      refine .cond rfl (fun q2425 => ?_) (fun q2425 => ?_)
      · replace hF := hF.1 q2425
        refine .skip ?_
        refine .seqN ?_
        refine .share (σ := Bool) (fun z => F_certain_J4 repaired t64 I3 μ3 z) (fun z => [(1, .int .i64 fact), (2, .int .i64 j), (3, .pointer (some pp)), (9, .int .i64 t47), (10, .bool z), (46, .int .i64 ((p.steps.length : Nat) : Int)), (47, .int .i64 t47), (63, .int .i64 ((p.steps.length : Nat) : Int)), (64, .int .i64 t64)]) (fun _ => [Box pp [.int .i64 p.t.facts, .slice ap p.t.init.length cp, .slice ap2 p.t.goal.length cp2, .slice ap3 p.t.ops.length cp3, .slice ap4 p.steps.length cp4, .slice ap5 p.order.length cp5]]) (fun _ => h) ?_ (fun q2439 => ?_)
        · rintro repaired3 hF
          show J _ _ _ _ _ [(1, .int .i64 fact), (2, .int .i64 j), (3, .pointer (some pp)), (9, .int .i64 t47), (10, .bool repaired3), (46, .int .i64 ((p.steps.length : Nat) : Int)), (47, .int .i64 t47), (63, .int .i64 ((p.steps.length : Nat) : Int)), (64, .int .i64 t64)] [Box pp [.int .i64 p.t.facts, .slice ap p.t.init.length cp, .slice ap2 p.t.goal.length cp2, .slice ap3 p.t.ops.length cp3, .slice ap4 p.steps.length cp4, .slice ap5 p.order.length cp5]] h
          refine .region ?_
          refine .v (bi rfl rfl rfl) rfl rfl rfl ?_
          refine .v (mv rfl) rfl rfl rfl ?_
          refine .nil ?_
          exact .round (repaired3, IntKind.i64.wrap (t64 + 1)) hF.1 hF.2 (.cons rfl (.cons rfl (.cons rfl (.cons rfl (.cons rfl (.cons rfl (.cons rfl (.cons rfl (.cons rfl (.nil)))))))))) rfl (FH.le_refl _)
        refine .block ?_
        refine .seq ?_
        refine .region ?_
        refine .v (mv rfl) rfl rfl rfl ?_
        refine .v (asg rfl) rfl rfl rfl ?_
        refine .nil ?_
        refine .seqN ?_
        refine .region ?_
        refine .v (mv rfl) rfl rfl rfl ?_
        refine .v (mv rfl) rfl rfl rfl ?_
        rcases Bool.eq_false_or_eq_true (repaired) with q2440 | q2440
        · replace hF := hF.1 q2440
          refine .gS rfl rfl rfl q2440 rfl rfl ?_
          refine .gS rfl rfl rfl q2440 rfl rfl ?_
          refine .gS rfl rfl rfl q2440 rfl rfl ?_
          refine .gS rfl rfl rfl q2440 rfl rfl ?_
          refine .gU rfl rfl rfl rfl rfl ?_
          refine .gU rfl rfl rfl rfl rfl ?_
          refine .gU rfl rfl rfl rfl rfl ?_
          refine .gU rfl rfl rfl rfl rfl ?_
          refine .gS rfl rfl rfl q2440 rfl rfl ?_
          refine .gS rfl rfl rfl q2440 rfl rfl ?_
          refine .gU rfl rfl rfl rfl rfl ?_
          refine .gU rfl rfl rfl rfl rfl ?_
          refine .gU rfl rfl rfl rfl rfl ?_
          refine .gU rfl rfl rfl rfl rfl ?_
          refine .gU rfl rfl rfl rfl rfl ?_
          refine .gU rfl rfl rfl rfl rfl ?_
          refine .gU rfl rfl rfl rfl rfl ?_
          refine .gU rfl rfl rfl rfl rfl ?_
          refine .gS rfl rfl rfl q2440 rfl rfl ?_
          refine .gS rfl rfl rfl q2440 rfl rfl ?_
          refine .gU rfl rfl rfl rfl rfl ?_
          refine .gU rfl rfl rfl rfl rfl ?_
          refine .gU rfl rfl rfl rfl rfl ?_
          refine .gU rfl rfl rfl rfl rfl ?_
          refine .gS rfl rfl rfl q2440 rfl rfl ?_
          refine .v (pkT rfl q2440 rfl) rfl rfl rfl ?_
          refine .v (asg rfl) rfl rfl rfl ?_
          refine .nil ?_
          refine .blkN ?_
          exact .use q2439 true hF (.cons rfl (.cons rfl (.cons rfl (.cons rfl (.cons rfl (.cons rfl (.cons rfl (.cons rfl (.cons rfl (.nil)))))))))) rfl (FH.le_refl _)
        replace hF := hF.2 q2440
        refine .gv (mv rfl) rfl rfl rfl q2440 rfl rfl ?_
        refine .gv (mv rfl) rfl rfl rfl q2440 rfl rfl ?_
        refine .gv (bi rfl rfl rfl) rfl rfl rfl q2440 rfl rfl ?_
        refine .gv (mv rfl) rfl rfl rfl q2440 rfl rfl ?_
        rcases Bool.eq_false_or_eq_true (t64 != j) with q2441 | q2441
        · replace hF := hF.1 q2441
          refine .gv (ldA (cs := [.int .i64 p.t.facts, .slice ap p.t.init.length cp, .slice ap2 p.t.goal.length cp2, .slice ap3 p.t.ops.length cp3, .slice ap4 p.steps.length cp4, .slice ap5 p.order.length cp5]) rfl tA87 rfl (cellsB (off := 0) (k := 0) rfl (m := 6) rfl)) rfl rfl rfl q2441 rfl rfl ?_
          refine .gv (mv rfl) rfl rfl rfl q2441 rfl rfl ?_
          refine .gv (mv rfl) rfl rfl rfl q2441 rfl rfl ?_
          obtain ⟨q2442, hF⟩ := hF
          obtain ⟨r5, q2443⟩ : ∃ y_ : Bool, y_ = sp_adds p t64 fact := ⟨_, rfl⟩
          replace hF := hF r5 q2443
          refine .gc (cl (v := .bool r5) Try.call80 rfl rfl (fun w S => (by rw [q2443]; exact c_adds S.sub p ap cp _q1 _q2 ap2 cp2 _q3 _q4 ap3 cp3 _q5 _q6 ap4 cp4 _q7 _q8 ap5 cp5 _q9 _q10 t64 fact q2442))) rfl rfl rfl q2441 rfl rfl ?_
          refine .gv (pkT rfl q2441 rfl) rfl rfl rfl q2440 rfl rfl ?_
          refine .gv (mv rfl) rfl rfl rfl q2440 rfl rfl ?_
          rcases Bool.eq_false_or_eq_true (r5) with q2444 | q2444
          · replace hF := hF.1 q2444
            refine .gv (fa rfl tF87_2) rfl rfl rfl q2444 rfl rfl ?_
            refine .gv (ld1 rfl tO80 (cellB (off := 5) (k := 0) rfl rfl)) rfl rfl rfl q2444 rfl rfl ?_
            refine .gv (mv rfl) rfl rfl rfl q2444 rfl rfl ?_
            obtain ⟨q2445, hF⟩ := hF
            refine .gv (ix rfl rfl tS80 (_q9.ne (by decide) (inb_pos q2445)) q2445) rfl rfl rfl q2444 rfl rfl ?_
            obtain ⟨_, ⟨a, c, rfl, q2446, q2447⟩, q2448⟩ := _q9.elem q2445
            refine .gv (ld1 (v := .slice a ((gt p.order t47).length) c) rfl tO84 (cellH (q2448 (by decide) 0 _ rfl))) rfl rfl rfl q2444 rfl rfl ?_
            refine .gv (mv rfl) rfl rfl rfl q2444 rfl rfl ?_
            obtain ⟨q2449, hF⟩ := hF
            refine .gv (ix rfl rfl tS84 (q2447.ne (by decide) (inb_pos q2449)) q2449) rfl rfl rfl q2444 rfl rfl ?_
            refine .gv (ld1 (v := .bool (gt (gt p.order t47) t64)) rfl tO4 (cellH (q2447.elemF q2449 (by decide) 0 _ rfl))) rfl rfl rfl q2444 rfl rfl ?_
            refine .gv (pkT rfl q2444 rfl) rfl rfl rfl q2440 rfl rfl ?_
            refine .gv (mv rfl) rfl rfl rfl q2440 rfl rfl ?_
            rcases Bool.eq_false_or_eq_true ((gt (gt p.order t47) t64)) with q2450 | q2450
            · replace hF := hF.1 q2450
              refine .gv (ldA (cs := [.int .i64 p.t.facts, .slice ap p.t.init.length cp, .slice ap2 p.t.goal.length cp2, .slice ap3 p.t.ops.length cp3, .slice ap4 p.steps.length cp4, .slice ap5 p.order.length cp5]) rfl tA87 rfl (cellsB (off := 0) (k := 0) rfl (m := 6) rfl)) rfl rfl rfl q2450 rfl rfl ?_
              refine .gv (mv rfl) rfl rfl rfl q2450 rfl rfl ?_
              refine .gv (mv rfl) rfl rfl rfl q2450 rfl rfl ?_
              obtain ⟨q2451, hF⟩ := hF
              obtain ⟨r6, q2452⟩ : ∃ y_ : Bool, y_ = sp_earlier p t64 j := ⟨_, rfl⟩
              replace hF := hF r6 q2452
              refine .gc (cl (v := .bool r6) Try.call79 rfl rfl (fun w S => (by rw [q2452]; exact c_earlier S.sub p ap cp _q1 _q2 ap2 cp2 _q3 _q4 ap3 cp3 _q5 _q6 ap4 cp4 _q7 _q8 ap5 cp5 _q9 _q10 t64 j q2451))) rfl rfl rfl q2450 rfl rfl ?_
              refine .gv (pkT rfl q2450 rfl) rfl rfl rfl q2440 rfl rfl ?_
              refine .v (pkF rfl q2440 rfl) rfl rfl rfl ?_
              refine .v (asg rfl) rfl rfl rfl ?_
              refine .nil ?_
              refine .blkN ?_
              exact .use q2439 r6 hF (.cons rfl (.cons rfl (.cons rfl (.cons rfl (.cons rfl (.cons rfl (.cons rfl (.cons rfl (.cons rfl (.nil)))))))))) rfl (FH.le_refl _)
            replace hF := hF.2 q2450
            refine .gS rfl rfl rfl q2450 rfl rfl ?_
            refine .gS rfl rfl rfl q2450 rfl rfl ?_
            refine .gS rfl rfl rfl q2450 rfl rfl ?_
            refine .gS rfl rfl rfl q2450 rfl rfl ?_
            refine .gv (pkF rfl q2450 rfl) rfl rfl rfl q2440 rfl rfl ?_
            refine .v (pkF rfl q2440 rfl) rfl rfl rfl ?_
            refine .v (asg rfl) rfl rfl rfl ?_
            refine .nil ?_
            refine .blkN ?_
            exact .use q2439 false hF (.cons rfl (.cons rfl (.cons rfl (.cons rfl (.cons rfl (.cons rfl (.cons rfl (.cons rfl (.cons rfl (.nil)))))))))) rfl (FH.le_refl _)
          replace hF := hF.2 q2444
          refine .gS rfl rfl rfl q2444 rfl rfl ?_
          refine .gS rfl rfl rfl q2444 rfl rfl ?_
          refine .gS rfl rfl rfl q2444 rfl rfl ?_
          refine .gS rfl rfl rfl q2444 rfl rfl ?_
          refine .gS rfl rfl rfl q2444 rfl rfl ?_
          refine .gS rfl rfl rfl q2444 rfl rfl ?_
          refine .gS rfl rfl rfl q2444 rfl rfl ?_
          refine .gS rfl rfl rfl q2444 rfl rfl ?_
          refine .gv (pkF rfl q2444 rfl) rfl rfl rfl q2440 rfl rfl ?_
          refine .gv (mv rfl) rfl rfl rfl q2440 rfl rfl ?_
          refine .gS rfl rfl rfl rfl rfl rfl ?_
          refine .gS rfl rfl rfl rfl rfl rfl ?_
          refine .gS rfl rfl rfl rfl rfl rfl ?_
          refine .gS rfl rfl rfl rfl rfl rfl ?_
          refine .gv (pkF rfl rfl rfl) rfl rfl rfl q2440 rfl rfl ?_
          refine .v (pkF rfl q2440 rfl) rfl rfl rfl ?_
          refine .v (asg rfl) rfl rfl rfl ?_
          refine .nil ?_
          refine .blkN ?_
          exact .use q2439 false hF (.cons rfl (.cons rfl (.cons rfl (.cons rfl (.cons rfl (.cons rfl (.cons rfl (.cons rfl (.cons rfl (.nil)))))))))) rfl (FH.le_refl _)
        replace hF := hF.2 q2441
        refine .gS rfl rfl rfl q2441 rfl rfl ?_
        refine .gS rfl rfl rfl q2441 rfl rfl ?_
        refine .gS rfl rfl rfl q2441 rfl rfl ?_
        refine .gS rfl rfl rfl q2441 rfl rfl ?_
        refine .gv (pkF rfl q2441 rfl) rfl rfl rfl q2440 rfl rfl ?_
        refine .gv (mv rfl) rfl rfl rfl q2440 rfl rfl ?_
        refine .gS rfl rfl rfl rfl rfl rfl ?_
        refine .gS rfl rfl rfl rfl rfl rfl ?_
        refine .gS rfl rfl rfl rfl rfl rfl ?_
        refine .gS rfl rfl rfl rfl rfl rfl ?_
        refine .gS rfl rfl rfl rfl rfl rfl ?_
        refine .gS rfl rfl rfl rfl rfl rfl ?_
        refine .gS rfl rfl rfl rfl rfl rfl ?_
        refine .gS rfl rfl rfl rfl rfl rfl ?_
        refine .gv (pkF rfl rfl rfl) rfl rfl rfl q2440 rfl rfl ?_
        refine .gv (mv rfl) rfl rfl rfl q2440 rfl rfl ?_
        refine .gS rfl rfl rfl rfl rfl rfl ?_
        refine .gS rfl rfl rfl rfl rfl rfl ?_
        refine .gS rfl rfl rfl rfl rfl rfl ?_
        refine .gS rfl rfl rfl rfl rfl rfl ?_
        refine .gv (pkF rfl rfl rfl) rfl rfl rfl q2440 rfl rfl ?_
        refine .v (pkF rfl q2440 rfl) rfl rfl rfl ?_
        refine .v (asg rfl) rfl rfl rfl ?_
        refine .nil ?_
        refine .blkN ?_
        exact .use q2439 false hF (.cons rfl (.cons rfl (.cons rfl (.cons rfl (.cons rfl (.cons rfl (.cons rfl (.cons rfl (.cons rfl (.nil)))))))))) rfl (FH.le_refl _)
      replace hF := hF.2 q2425
      refine .exit ?_
      refine .seqX ?_
      refine .seqX ?_
      refine .blkX ?_
      refine .seqN ?_
      refine .seq ?_
      refine .region ?_
      refine .v (mv rfl) rfl rfl rfl ?_
      refine .v (nt rfl) rfl rfl rfl ?_
      refine .nil ?_
      refine .seqN ?_
      refine .cond rfl (fun q2453 => ?_) (fun q2453 => ?_)
      · replace hF := hF.1 q2453
        refine .seq ?_
        refine .region ?_
        refine .v (asg rfl) rfl rfl rfl ?_
        refine .nil ?_
        refine .seqN ?_
        refine .ret ?_
        refine .blkR ?_
        refine .seqR ?_
        refine .seqR ?_
        refine .blkR ?_
        refine .seqR ?_
        refine .res1 rfl (rvT rfl) (fun w' S => ⟨false, hF, rfl, S.below⟩)
      replace hF := hF.2 q2453
      refine .skip ?_
      refine .blkN ?_
      exact .use q2264 () hF (.cons rfl (.cons rfl (.cons rfl (.cons rfl (.cons rfl (.nil)))))) rfl (FH.le_refl _)
    refine .region ?_
    refine .v (ldA (cs := [.int .i64 p.t.facts, .slice ap p.t.init.length cp, .slice ap2 p.t.goal.length cp2, .slice ap3 p.t.ops.length cp3, .slice ap4 p.steps.length cp4, .slice ap5 p.order.length cp5]) rfl tA87 rfl (cellsB (off := 0) (k := 0) rfl (m := 6) rfl)) rfl rfl rfl ?_
    refine .v (mv rfl) rfl rfl rfl ?_
    refine .v (mv rfl) rfl rfl rfl ?_
    obtain ⟨q2454, hF⟩ := hF
    obtain ⟨r7, q2455⟩ : ∃ y_ : Bool, y_ = sp_deletes p t47 fact := ⟨_, rfl⟩
    replace hF := hF r7 q2455
    refine .c (cl (v := .bool r7) Try.call81 rfl rfl (fun w S => (by rw [q2455]; exact c_deletes S.sub p ap cp _q1 _q2 ap2 cp2 _q3 _q4 ap3 cp3 _q5 _q6 ap4 cp4 _q7 _q8 ap5 cp5 _q9 _q10 t47 fact q2454))) rfl rfl rfl ?_
    refine .v (nt rfl) rfl rfl rfl ?_
    refine .v (mv rfl) rfl rfl rfl ?_
    rcases Bool.eq_false_or_eq_true (!r7) with q2456 | q2456
    · replace hF := hF.1 q2456
      refine .gS rfl rfl rfl q2456 rfl rfl ?_
      refine .gS rfl rfl rfl q2456 rfl rfl ?_
      refine .gS rfl rfl rfl q2456 rfl rfl ?_
      refine .gS rfl rfl rfl q2456 rfl rfl ?_
      refine .v (pkT rfl q2456 rfl) rfl rfl rfl ?_
      refine .nil ?_
      exact .use q2270 true hF (.cons rfl (.cons rfl (.cons rfl (.cons rfl (.cons rfl (.cons rfl (.cons rfl (.nil)))))))) rfl (FH.le_refl _)
    replace hF := hF.2 q2456
    refine .gv (ldA (cs := [.int .i64 p.t.facts, .slice ap p.t.init.length cp, .slice ap2 p.t.goal.length cp2, .slice ap3 p.t.ops.length cp3, .slice ap4 p.steps.length cp4, .slice ap5 p.order.length cp5]) rfl tA87 rfl (cellsB (off := 0) (k := 0) rfl (m := 6) rfl)) rfl rfl rfl q2456 rfl rfl ?_
    refine .gv (mv rfl) rfl rfl rfl q2456 rfl rfl ?_
    refine .gv (mv rfl) rfl rfl rfl q2456 rfl rfl ?_
    obtain ⟨q2457, hF⟩ := hF
    obtain ⟨r8, q2458⟩ : ∃ y_ : Bool, y_ = sp_later p t47 j := ⟨_, rfl⟩
    replace hF := hF r8 q2458
    refine .gc (cl (v := .bool r8) Try.call82 rfl rfl (fun w S => (by rw [q2458]; exact c_later S.sub p ap cp _q1 _q2 ap2 cp2 _q3 _q4 ap3 cp3 _q5 _q6 ap4 cp4 _q7 _q8 ap5 cp5 _q9 _q10 t47 j q2457))) rfl rfl rfl q2456 rfl rfl ?_
    refine .v (pkF rfl q2456 rfl) rfl rfl rfl ?_
    refine .nil ?_
    exact .use q2270 r8 hF (.cons rfl (.cons rfl (.cons rfl (.cons rfl (.cons rfl (.cons rfl (.cons rfl (.nil)))))))) rfl (FH.le_refl _)
  replace hF := hF.2 q2069
  refine .exit ?_
  refine .seqX ?_
  refine .seqX ?_
  refine .blkX ?_
  refine .seqN ?_
  refine .seq ?_
  refine .region ?_
  refine .v (asg rfl) rfl rfl rfl ?_
  refine .nil ?_
  refine .seqN ?_
  refine .ret ?_
  refine .res1 rfl (rvT rfl) (fun w' S => ⟨true, hF, rfl, S.below⟩)

theorem c_certain {h : FH} {w : World} (hs : Sub h w) (p : PPlan) (ap : Option Addr) (cp : Nat) (_q1 : RSl h ap p.t.init) (_q2 : p.t.init.length ≤ cp) (ap2 : Option Addr) (cp2 : Nat) (_q3 : RSl h ap2 p.t.goal) (_q4 : p.t.goal.length ≤ cp2) (ap3 : Option Addr) (cp3 : Nat) (_q5 : RSl h ap3 p.t.ops) (_q6 : p.t.ops.length ≤ cp3) (ap4 : Option Addr) (cp4 : Nat) (_q7 : RSl h ap4 p.steps) (_q8 : p.steps.length ≤ cp4) (ap5 : Option Addr) (cp5 : Nat) (_q9 : RSl h ap5 p.order) (_q10 : p.order.length ≤ cp5) (fact : Int) (j : Int) (hp : pre_certain p fact j) : Calls Try.prog 52 #[.agg #[.int .i64 p.t.facts, .slice ap p.t.init.length cp, .slice ap2 p.t.goal.length cp2, .slice ap3 p.t.ops.length cp3, .slice ap4 p.steps.length cp4, .slice ap5 p.order.length cp5], .int .i64 fact, .int .i64 j] w fun e w' => e = .returned (.bool (sp_certain p fact j)) ∧ Below w.heap.size w w' :=
  (w_certain hs p ap cp _q1 _q2 ap2 cp2 _q3 _q4 ap3 cp3 _q5 _q6 ap4 cp4 _q7 _q8 ap5 cp5 _q9 _q10 fact j (fun r => r = sp_certain p fact j) (ok_certain p fact j hp)).mono fun _ _ ⟨_, hk, he, hb⟩ => ⟨by rw [he, hk], hb⟩

theorem w_pcheck1 {h : FH} {w : World} (hs : Sub h w) (fact : Int) (x : PPlan) (ax : Option Addr) (cx : Nat) (_q1 : RSl h ax x.t.init) (_q2 : x.t.init.length ≤ cx) (ax2 : Option Addr) (cx2 : Nat) (_q3 : RSl h ax2 x.t.goal) (_q4 : x.t.goal.length ≤ cx2) (ax3 : Option Addr) (cx3 : Nat) (_q5 : RSl h ax3 x.t.ops) (_q6 : x.t.ops.length ≤ cx3) (ax4 : Option Addr) (cx4 : Nat) (_q7 : RSl h ax4 x.steps) (_q8 : x.steps.length ≤ cx4) (ax5 : Option Addr) (cx5 : Nat) (_q9 : RSl h ax5 x.order) (_q10 : x.order.length ≤ cx5) (px : Addr) (_q11 : CellsAt h px [.int .i64 x.t.facts, .slice ax x.t.init.length cx, .slice ax2 x.t.goal.length cx2, .slice ax3 x.t.ops.length cx3, .slice ax4 x.steps.length cx4, .slice ax5 x.order.length cx5]) (x2 : Int) (px2 : Addr) (_q12 : CellsAt h px2 [.int .i64 x2]) (K : Bool → Prop) (hF : F_pcheck1 fact x x2 K) : Calls Try.prog 51 #[.int .i64 fact, .pointer (some px), .pointer (some px2)] w fun e w' => ∃ r : Bool, K r ∧ e = .returned (.bool r) ∧ Below w.heap.size w w' := by
  refine enter (args := [.int .i64 fact, .pointer (some px), .pointer (some px2)]) Try.func51 rfl Try.ntmps51 rfl hs ?_
  refine .seq ?_
  refine .region ?_
  refine .v (asg rfl) rfl rfl rfl ?_
  refine .nil ?_
  refine .seqN ?_
  refine .seq ?_
  refine .region ?_
  refine .v (ldA (cs := [.int .i64 x.t.facts, .slice ax x.t.init.length cx, .slice ax2 x.t.goal.length cx2, .slice ax3 x.t.ops.length cx3, .slice ax4 x.steps.length cx4, .slice ax5 x.order.length cx5]) rfl tA87 rfl (cellsH (_q11.mono (FH.le_refl _)))) rfl rfl rfl ?_
  refine .v (mv rfl) rfl rfl rfl ?_
  refine .v (ld1 (v := .int .i64 x2) rfl tO3 (cellH (CellsAt.mono (FH.le_refl _) _q12 0 _ rfl))) rfl rfl rfl ?_
  obtain ⟨q13, hF⟩ := hF
  obtain ⟨r2, q14⟩ : ∃ y_ : Bool, y_ = sp_certain x fact x2 := ⟨_, rfl⟩
  replace hF := hF r2 q14
  refine .c (cl (v := .bool r2) Try.call52 rfl rfl (fun w S => (by rw [q14]; exact c_certain S.sub x ax cx _q1 _q2 ax2 cx2 _q3 _q4 ax3 cx3 _q5 _q6 ax4 cx4 _q7 _q8 ax5 cx5 _q9 _q10 fact x2 q13))) rfl rfl rfl ?_
  refine .v (nt rfl) rfl rfl rfl ?_
  refine .v (asg rfl) rfl rfl rfl ?_
  refine .nil ?_
  refine .seqN ?_
  refine .ret ?_
  refine .res1 rfl (rvT rfl) (fun w' S => ⟨!r2, hF, rfl, S.below⟩)

theorem c_pcheck1 {h : FH} {w : World} (hs : Sub h w) (fact : Int) (x : PPlan) (ax : Option Addr) (cx : Nat) (_q1 : RSl h ax x.t.init) (_q2 : x.t.init.length ≤ cx) (ax2 : Option Addr) (cx2 : Nat) (_q3 : RSl h ax2 x.t.goal) (_q4 : x.t.goal.length ≤ cx2) (ax3 : Option Addr) (cx3 : Nat) (_q5 : RSl h ax3 x.t.ops) (_q6 : x.t.ops.length ≤ cx3) (ax4 : Option Addr) (cx4 : Nat) (_q7 : RSl h ax4 x.steps) (_q8 : x.steps.length ≤ cx4) (ax5 : Option Addr) (cx5 : Nat) (_q9 : RSl h ax5 x.order) (_q10 : x.order.length ≤ cx5) (px : Addr) (_q11 : CellsAt h px [.int .i64 x.t.facts, .slice ax x.t.init.length cx, .slice ax2 x.t.goal.length cx2, .slice ax3 x.t.ops.length cx3, .slice ax4 x.steps.length cx4, .slice ax5 x.order.length cx5]) (x2 : Int) (px2 : Addr) (_q12 : CellsAt h px2 [.int .i64 x2]) (hp : pre_pcheck1 fact x x2) : Calls Try.prog 51 #[.int .i64 fact, .pointer (some px), .pointer (some px2)] w fun e w' => e = .returned (.bool (sp_pcheck1 fact x x2)) ∧ Below w.heap.size w w' :=
  (w_pcheck1 hs fact x ax cx _q1 _q2 ax2 cx2 _q3 _q4 ax3 cx3 _q5 _q6 ax4 cx4 _q7 _q8 ax5 cx5 _q9 _q10 px _q11 x2 px2 _q12 (fun r => r = sp_pcheck1 fact x x2) (ok_pcheck1 fact x x2 hp)).mono fun _ _ ⟨_, hk, he, hb⟩ => ⟨by rw [he, hk], hb⟩

set_option maxHeartbeats 8000000 in
theorem w_pcheck {h : FH} {w : World} (hs : Sub h w) (t : Task) (at_ : Option Addr) (ct : Nat) (_q1 : RSl h at_ t.init) (_q2 : t.init.length ≤ ct) (at_2 : Option Addr) (ct2 : Nat) (_q3 : RSl h at_2 t.goal) (_q4 : t.goal.length ≤ ct2) (at_3 : Option Addr) (ct3 : Nat) (_q5 : RSl h at_3 t.ops) (_q6 : t.ops.length ≤ ct3) (steps : List Int) (asteps : Option Addr) (csteps : Nat) (_q7 : RSl h asteps steps) (_q8 : steps.length ≤ csteps) (before : List (Int × Int)) (abefore : Option Addr) (cbefore : Nat) (_q9 : RSl h abefore before) (_q10 : before.length ≤ cbefore) (K : (Bool × Fault) → Prop) (hF : F_pcheck t steps before K) : Calls Try.prog 23 #[.agg #[.int .i64 t.facts, .slice at_ t.init.length ct, .slice at_2 t.goal.length ct2, .slice at_3 t.ops.length ct3], .slice asteps steps.length csteps, .slice abefore before.length cbefore] w fun e w' => ∃ r : Bool × Fault, K r ∧ e = .returned (.tuple #[.bool r.1, .agg #[.int .i64 r.2.code, .int .i64 r.2.index]]) ∧ Below w.heap.size w w' := by
  refine enter (args := [.agg #[.int .i64 t.facts, .slice at_ t.init.length ct, .slice at_2 t.goal.length ct2, .slice at_3 t.ops.length ct3], .slice asteps steps.length csteps, .slice abefore before.length cbefore]) Try.func23 rfl Try.ntmps23 rfl hs ?_
  refine .seq ?_
  refine .region ?_
  refine bx (vs := [.int .i64 t.facts, .slice at_ t.init.length ct, .slice at_2 t.goal.length ct2, .slice at_3 t.ops.length ct3]) rfl rfl rfl (fun pt => ?_)
  refine .v (asg rfl) rfl rfl rfl ?_
  refine al tZ28 rfl (fun pv => ?_)
  refine .nil ?_
  refine .seqN ?_
  refine .seq ?_
  refine .seq ?_
  refine .region ?_
  refine .v (ldA (cs := [.int .i64 t.facts, .slice at_ t.init.length ct, .slice at_2 t.goal.length ct2, .slice at_3 t.ops.length ct3]) rfl tA25 rfl (cellsB (off := 0) (k := 1) rfl (m := 4) rfl)) rfl rfl rfl ?_
  refine .v (mv rfl) rfl rfl rfl ?_
  refine .v (mv rfl) rfl rfl rfl ?_
  obtain ⟨r2, q11⟩ : ∃ y_ : Fault, y_ = sp_pvalidate t steps before := ⟨_, rfl⟩
  replace hF := hF r2 q11
  refine .c (cl (v := .agg #[.int .i64 r2.code, .int .i64 r2.index]) Try.call18 rfl rfl (fun w S => (by rw [q11]; exact c_pvalidate S.sub t at_ ct _q1 _q2 at_2 ct2 _q3 _q4 at_3 ct3 _q5 _q6 steps asteps csteps _q7 _q8 before abefore cbefore _q9 _q10 ))) rfl rfl rfl ?_
  refine al tZ28 rfl (fun pf => ?_)
  refine st (p := pf) (off := 0) (k := 0) (vs := [.int .i64 r2.code, .int .i64 r2.index]) rfl rfl rfl (fun w => (tA28 w).2) rfl rfl rfl rfl ?_
  refine .cast (A' := [Box pf [.int .i64 r2.code, .int .i64 r2.index], Box pv [.int .i64 0, .int .i64 0], Box pt [.int .i64 t.facts, .slice at_ t.init.length ct, .slice at_2 t.goal.length ct2, .slice at_3 t.ops.length ct3]]) rfl ?_
  refine .nil ?_
  refine .seqN ?_
  refine .seq ?_
  refine .region ?_
  refine .v (ldA (cs := [.int .i64 r2.code, .int .i64 r2.index]) rfl tA28 rfl (cellsB (off := 0) (k := 0) rfl (m := 2) rfl)) rfl rfl rfl ?_
  refine .v (bld (cs := #[.int .i64 0, .int .i64 0]) (pv := []) tB28 rfl rfl) rfl rfl rfl ?_
  refine .v (ne2 tE28 rfl rfl) rfl rfl rfl ?_
  refine .nil ?_
  refine .seqN ?_
  refine .cond rfl (fun q13 => ?_) (fun q13 => ?_)
  · replace hF := hF.1 q13
    refine .seq ?_
    refine .openL (by kernel_rfl) rfl (by kernel_rfl) (by kernel_rfl) ?_
    refine .v (ldA (cs := [.int .i64 r2.code, .int .i64 r2.index]) rfl tA28 rfl (cellsB (off := 0) (k := 0) rfl (m := 2) rfl)) rfl rfl rfl ?_
    refine .v (asg rfl) rfl rfl rfl ?_
    refine .tail ?_
    refine st (p := pv) (off := 0) (k := 1) (vs := [.int .i64 r2.code, .int .i64 r2.index]) rfl rfl rfl (fun w => (tA28 w).2) rfl rfl rfl rfl ?_
    refine .cast (A' := [Box pf [.int .i64 r2.code, .int .i64 r2.index], Box pv [.int .i64 r2.code, .int .i64 r2.index], Box pt [.int .i64 t.facts, .slice at_ t.init.length ct, .slice at_2 t.goal.length ct2, .slice at_3 t.ops.length ct3]]) rfl ?_
    refine .nil ?_
    refine .seqN ?_
    refine .ret ?_
    refine .seqR ?_
    refine .res2 rfl (rvT rfl) (rvC rfl tA28 (k := 1) rfl rfl) (fun w' S => ⟨(false, r2), hF, rfl, S.below⟩)
  replace hF := hF.2 q13
  refine .skip ?_
  refine .seqN ?_
  refine .seq ?_
  refine .region ?_
  refine .v (mv rfl) rfl rfl rfl ?_
  refine .v (ln rfl tS22.is) rfl rfl rfl ?_
  refine .v (mv rfl) rfl rfl rfl ?_
  obtain ⟨q14, hF⟩ := hF
  obtain ⟨r3, q15⟩ : ∃ y_ : List (List Bool) × Bool, y_ = sp_closure ((steps.length : Nat) : Int) before := ⟨_, rfl⟩
  replace hF := hF r3 q15
  refine clR (α := Option Addr × Nat) (Φ := fun h1 z => RSl h1 z.1 r3.1 ∧ r3.1.length ≤ z.2) (V := fun z => .tuple #[.slice z.1 r3.1.length z.2, .bool r3.2]) Try.call46 rfl rfl (fun w S => (by rw [q15]; exact c_closure S.sub ((steps.length : Nat) : Int) before abefore cbefore _q9 _q10 q14)) rfl (fun z h1 le1 hz => ?_)
  obtain ⟨a, c⟩ := z
  obtain ⟨q16, q17⟩ := hz
  refine .v (mv rfl) rfl rfl rfl ?_
  refine .v (ext rfl rfl) rfl rfl rfl ?_
  refine .v (ext rfl rfl) rfl rfl rfl ?_
  refine .v (asg rfl) rfl rfl rfl ?_
  refine .v (asg rfl) rfl rfl rfl ?_
  refine .nil ?_
  refine .seqN ?_
  refine .seq ?_
  refine .region ?_
  refine .v (ldA (cs := [.int .i64 t.facts, .slice at_ t.init.length ct, .slice at_2 t.goal.length ct2, .slice at_3 t.ops.length ct3]) rfl tA25 rfl (cellsB (off := 0) (k := 2) rfl (m := 4) rfl)) rfl rfl rfl ?_
  refine .v (mv rfl) rfl rfl rfl ?_
  refine .v (mv rfl) rfl rfl rfl ?_
  refine .v (bld (cs := #[.int .i64 t.facts, .slice at_ t.init.length ct, .slice at_2 t.goal.length ct2, .slice at_3 t.ops.length ct3, .slice asteps steps.length csteps, .slice a r3.1.length c]) (pv := [(0, .agg #[.int .i64 t.facts, .slice at_ t.init.length ct, .slice at_2 t.goal.length ct2, .slice at_3 t.ops.length ct3]), (1, .slice asteps steps.length csteps), (2, .slice a r3.1.length c)]) tB87 rfl rfl) rfl rfl rfl ?_
  refine al tZ87 rfl (fun pp => ?_)
  refine st (p := pp) (off := 0) (k := 0) (vs := [.int .i64 t.facts, .slice at_ t.init.length ct, .slice at_2 t.goal.length ct2, .slice at_3 t.ops.length ct3, .slice asteps steps.length csteps, .slice a r3.1.length c]) rfl rfl rfl (fun w => (tA87 w).2) rfl rfl rfl rfl ?_
  refine .cast (A' := [Box pp [.int .i64 t.facts, .slice at_ t.init.length ct, .slice at_2 t.goal.length ct2, .slice at_3 t.ops.length ct3, .slice asteps steps.length csteps, .slice a r3.1.length c], Box pf [.int .i64 r2.code, .int .i64 r2.index], Box pv [.int .i64 0, .int .i64 0], Box pt [.int .i64 t.facts, .slice at_ t.init.length ct, .slice at_2 t.goal.length ct2, .slice at_3 t.ops.length ct3]]) rfl ?_
  refine .nil ?_
  refine .seqN ?_
  refine .seq ?_
  refine .seq ?_
  refine .region ?_
  refine .v (mv rfl) rfl rfl rfl ?_
  refine .v (ln rfl tS22.is) rfl rfl rfl ?_
  refine .v (bi rfl rfl rfl) rfl rfl rfl ?_
  refine .v (mv rfl) rfl rfl rfl ?_
  refine .nil ?_
  refine .seqN ?_
  refine .block ?_
  refine .sel0 [3, 2, 0] (by decide) rfl ?_
  obtain ⟨I1, μ1, q430, q431⟩ := hF
  refine .loop' (σ := Int) (fun z => I1 z) (fun z => μ1 z) (fun z => [(1, .slice asteps steps.length csteps), (3, .pointer (some pt)), (7, .pointer (some pv)), (11, .pointer (some pp)), (35, .int .i64 (IntKind.i64.wrap (((steps.length : Nat) : Int) + 1))), (36, .int .i64 z)]) (fun _ => [Box pt [.int .i64 t.facts, .slice at_ t.init.length ct, .slice at_2 t.goal.length ct2, .slice at_3 t.ops.length ct3], Box pv [.int .i64 0, .int .i64 0], Box pp [.int .i64 t.facts, .slice at_ t.init.length ct, .slice at_2 t.goal.length ct2, .slice at_3 t.ops.length ct3, .slice asteps steps.length csteps, .slice a r3.1.length c]]) (fun _ => h1) 0 q430 (.cons rfl (.cons rfl (.cons rfl (.cons rfl (.cons rfl (.cons rfl (.nil))))))) rfl (FH.le_refl _) ?_
  rintro t36 q430
  have hF := q431 t36 q430
  show J _ _ _ _ _ [(1, .slice asteps steps.length csteps), (3, .pointer (some pt)), (7, .pointer (some pv)), (11, .pointer (some pp)), (35, .int .i64 (IntKind.i64.wrap (((steps.length : Nat) : Int) + 1))), (36, .int .i64 t36)] [Box pt [.int .i64 t.facts, .slice at_ t.init.length ct, .slice at_2 t.goal.length ct2, .slice at_3 t.ops.length ct3], Box pv [.int .i64 0, .int .i64 0], Box pp [.int .i64 t.facts, .slice at_ t.init.length ct, .slice at_2 t.goal.length ct2, .slice at_3 t.ops.length ct3, .slice asteps steps.length csteps, .slice a r3.1.length c]] h1
  refine .seq ?_
  refine .region ?_
  obtain ⟨x, q432⟩ : ∃ y_ : Bool, y_ = (decide (t36 < (IntKind.i64.wrap (((steps.length : Nat) : Int) + 1)))) := ⟨_, rfl⟩
  replace hF := hF x q432
  refine .v (v := .bool x) (by rw [q432]; exact bi rfl rfl rfl) rfl rfl rfl ?_
  refine .nil ?_
  refine .seqN ?_
  refine .seq ?_
  refine .cond rfl (fun q435 => ?_) (fun q435 => ?_)
  · replace hF := hF.1 q435
    refine .skip ?_
    refine .seqN ?_
    refine .seq ?_
    refine .block ?_
    refine .seq ?_
    refine .region ?_
    refine .v (mv rfl) rfl rfl rfl ?_
    refine al tZ3 rfl (fun pj => ?_)
    refine st (p := pj) (off := 0) (k := 0) (vs := [.int .i64 t36]) rfl rfl rfl (fun w => (tO3 w).2) rfl rfl rfl rfl ?_
    refine .cast (A' := [Box pj [.int .i64 t36], Box pt [.int .i64 t.facts, .slice at_ t.init.length ct, .slice at_2 t.goal.length ct2, .slice at_3 t.ops.length ct3], Box pv [.int .i64 0, .int .i64 0], Box pp [.int .i64 t.facts, .slice at_ t.init.length ct, .slice at_2 t.goal.length ct2, .slice at_3 t.ops.length ct3, .slice asteps steps.length csteps, .slice a r3.1.length c]]) rfl ?_
    refine .nil ?_
    refine .seqN ?_
    refine .seq ?_
    refine .region ?_
    refine .v (fa rfl tF25_2) rfl rfl rfl ?_
    refine .v (ld1 rfl tO22 (cellB (off := 2) (k := 1) rfl rfl)) rfl rfl rfl ?_
    refine .v (asg rfl) rfl rfl rfl ?_
    refine .nil ?_
    refine .seqN ?_
    refine .seq ?_
    refine .seq ?_
    refine .region ?_
    refine .v (ld1 rfl tO3 (cellB (off := 0) (k := 0) rfl rfl)) rfl rfl rfl ?_
    refine .v (mv rfl) rfl rfl rfl ?_
    refine .v (ln rfl tS22.is) rfl rfl rfl ?_
    refine .v (bi rfl rfl rfl) rfl rfl rfl ?_
    refine .nil ?_
    refine .seqN ?_
    refine .shareT (σ := List Int × Option Addr × Nat) (fun z => F_pcheck_J1 t steps K r3 z.1 t36 I1 μ1 ∧ RSl h1 z.2.1 z.1 ∧ z.1.length ≤ z.2.2) (fun z => [(1, .slice asteps steps.length csteps), (3, .pointer (some pt)), (7, .pointer (some pv)), (11, .pointer (some pp)), (12, .pointer (some pj)), (13, .slice z.2.1 z.1.length z.2.2), (35, .int .i64 (IntKind.i64.wrap (((steps.length : Nat) : Int) + 1))), (36, .int .i64 t36)]) (fun _ => [Box pt [.int .i64 t.facts, .slice at_ t.init.length ct, .slice at_2 t.goal.length ct2, .slice at_3 t.ops.length ct3], Box pv [.int .i64 0, .int .i64 0], Box pp [.int .i64 t.facts, .slice at_ t.init.length ct, .slice at_2 t.goal.length ct2, .slice at_3 t.ops.length ct3, .slice asteps steps.length csteps, .slice a r3.1.length c], Box pj [.int .i64 t36]]) (fun _ => h1) ?_ (fun q500 => ?_)
    · rintro ⟨need, aneed, cneed⟩ ⟨hF, q498, q499⟩
      show J _ _ _ _ _ [(1, .slice asteps steps.length csteps), (3, .pointer (some pt)), (7, .pointer (some pv)), (11, .pointer (some pp)), (12, .pointer (some pj)), (13, .slice aneed need.length cneed), (35, .int .i64 (IntKind.i64.wrap (((steps.length : Nat) : Int) + 1))), (36, .int .i64 t36)] [Box pt [.int .i64 t.facts, .slice at_ t.init.length ct, .slice at_2 t.goal.length ct2, .slice at_3 t.ops.length ct3], Box pv [.int .i64 0, .int .i64 0], Box pp [.int .i64 t.facts, .slice at_ t.init.length ct, .slice at_2 t.goal.length ct2, .slice at_3 t.ops.length ct3, .slice asteps steps.length csteps, .slice a r3.1.length c], Box pj [.int .i64 t36]] h1
      refine .seq ?_
      refine .region ?_
      refine .v (mv rfl) rfl rfl rfl ?_
      refine .v (mkf (vf := []) (vc := [.pointer (some pp), .pointer (some pj)]) rfl rfl) rfl rfl rfl ?_
      obtain ⟨q501, hF⟩ := hF
      obtain ⟨r4, q502⟩ : ∃ y_ : Bool, y_ = sp_any need (fun y_ : Int => sp_pcheck1 y_ (⟨t, steps, r3.1⟩ : PPlan) t36) (fun y_ : Int => pre_pcheck1 y_ (⟨t, steps, r3.1⟩ : PPlan) t36) := ⟨_, rfl⟩
      replace hF := hF r4 q502
      refine .c (cl (v := .bool r4) Try.call50 rfl rfl (fun w S => (by rw [q502]; obtain ⟨h0_, l0_, S0_, b0_⟩ := freezeB S (k := 2) rfl; obtain ⟨h_, l1_, hs_, b1_⟩ := lookB S0_ (k := 3) rfl; have hl_ := (FH.le_trans l0_ l1_); exact c_containsF hs_ need aneed cneed (RSl.mono hl_ q498) q499 (fun y_ : Int => sp_pcheck1 y_ (⟨t, steps, r3.1⟩ : PPlan) t36) (fun y_ : Int => pre_pcheck1 y_ (⟨t, steps, r3.1⟩ : PPlan) t36) 51 #[] #[.pointer (some pp), .pointer (some pj)] Try.call51 (fun x w' hD hs' => c_pcheck1 hs' x (⟨t, steps, r3.1⟩ : PPlan) at_ ct (RSl.mono hl_ (_q1.mono (le1))) _q2 at_2 ct2 (RSl.mono hl_ (_q3.mono (le1))) _q4 at_3 ct3 (RSl.mono hl_ (_q5.mono (le1))) _q6 asteps csteps (RSl.mono hl_ (_q7.mono (le1))) _q8 a c (RSl.mono hl_ q16) q17 pp (b0_.mono l1_) t36 pj b1_ hD) q501))) rfl rfl rfl ?_
      refine .nil ?_
      refine .seqN ?_
      refine .cond rfl (fun q503 => ?_) (fun q503 => ?_)
      · replace hF := hF.1 q503
        refine .seq ?_
        refine .region ?_
        refine .v (bld (cs := #[.int .i64 0, .int .i64 0]) (pv := []) tB28 rfl rfl) rfl rfl rfl ?_
        refine .v (asg rfl) rfl rfl rfl ?_
        refine st (p := pv) (off := 0) (k := 1) (vs := [.int .i64 0, .int .i64 0]) rfl rfl rfl (fun w => (tA28 w).2) rfl rfl rfl rfl ?_
        refine .cast (A' := [Box pt [.int .i64 t.facts, .slice at_ t.init.length ct, .slice at_2 t.goal.length ct2, .slice at_3 t.ops.length ct3], Box pv [.int .i64 0, .int .i64 0], Box pp [.int .i64 t.facts, .slice at_ t.init.length ct, .slice at_2 t.goal.length ct2, .slice at_3 t.ops.length ct3, .slice asteps steps.length csteps, .slice a r3.1.length c], Box pj [.int .i64 t36]]) rfl ?_
        refine .nil ?_
        refine .seqN ?_
        refine .ret ?_
        refine .blkR ?_
        refine .seqR ?_
        refine .seqR ?_
        refine .blkR ?_
        refine .seqR ?_
        refine .res2 rfl (rvT rfl) (rvC rfl tA28 (k := 1) rfl rfl) (fun w' S => ⟨(false, (⟨0, 0⟩ : Fault)), hF, rfl, S.below⟩)
      replace hF := hF.2 q503
      refine .skip ?_
      refine .blkN ?_
      refine .seqN ?_
      refine .region ?_
      refine .v (bi rfl rfl rfl) rfl rfl rfl ?_
      refine .v (mv rfl) rfl rfl rfl ?_
      refine .nil ?_
      refine .sel0 [0, 1, 2] (by decide) rfl ?_
      exact .round (IntKind.i64.wrap (t36 + 1)) hF.1 hF.2 (.cons rfl (.cons rfl (.cons rfl (.cons rfl (.cons rfl (.cons rfl (.nil))))))) rfl (FH.le_refl _)
    refine .cond rfl (fun q504 => ?_) (fun q504 => ?_)
    · replace hF := hF.1 q504
      refine .open_ (by kernel_rfl) (by kernel_rfl) ?_
      refine .v (fa rfl tF25_3) rfl rfl rfl ?_
      refine .v (ld1 rfl tO23 (cellB (off := 3) (k := 1) rfl rfl)) rfl rfl rfl ?_
      refine .v (mv rfl) rfl rfl rfl ?_
      refine .v (ld1 rfl tO3 (cellB (off := 0) (k := 0) rfl rfl)) rfl rfl rfl ?_
      obtain ⟨q505, hF⟩ := hF
      refine .v (ix rfl rfl tS22 (_q7.ne (by decide) (inb_pos q505)) q505) rfl rfl rfl ?_
      refine .v (ld1 (v := .int .i64 (gt steps t36)) rfl tO3 (cellH ((_q7.mono (le1)).elemF q505 (by decide) 0 _ rfl))) rfl rfl rfl ?_
      obtain ⟨q506, hF⟩ := hF
      refine .v (ix rfl rfl tS23 (_q5.ne (by decide) (inb_pos q506)) q506) rfl rfl rfl ?_
      refine .v (fa rfl tF89_0) rfl rfl rfl ?_
      obtain ⟨_, ⟨a2, c2, a3, c3, a4, c4, rfl, ⟨q507, q508⟩, ⟨q509, q510⟩, q511, q512⟩, q513⟩ := _q5.elem q506
      refine .v (ld1 (v := .slice a2 ((gt t.ops (gt steps t36)).pre.length) c2) rfl tO22 (cellH ((fun q => (q513 q).mono (le1)) (by decide) 0 _ rfl))) rfl rfl rfl ?_
      refine .v (asg rfl) rfl rfl rfl ?_
      refine .fin ?_
      refine .sel0 [1, 2, 3, 0] (by decide) rfl ?_
      exact .use q500 ((gt t.ops (gt steps t36)).pre, a2, c2) ⟨hF, (q508.mono (le1)), q507⟩ (.cons rfl (.cons rfl (.cons rfl (.cons rfl (.cons rfl (.cons rfl (.cons rfl (.cons rfl (.nil))))))))) rfl (FH.le_refl _)
    replace hF := hF.2 q504
    refine .skip ?_
    refine .sel0 [1, 2, 3, 0] (by decide) rfl ?_
    exact .use q500 (t.goal, at_2, ct2) ⟨hF, (_q3.mono (le1)), _q4⟩ (.cons rfl (.cons rfl (.cons rfl (.cons rfl (.cons rfl (.cons rfl (.cons rfl (.cons rfl (.nil))))))))) rfl (FH.le_refl _)
  replace hF := hF.2 q435
  refine .exit ?_
  refine .seqX ?_
  refine .seqX ?_
  refine .blkX ?_
  refine .seqN ?_
  refine .seq ?_
  refine .region ?_
  refine .v (bld (cs := #[.int .i64 0, .int .i64 0]) (pv := []) tB28 rfl rfl) rfl rfl rfl ?_
  refine .v (asg rfl) rfl rfl rfl ?_
  refine st (p := pv) (off := 0) (k := 1) (vs := [.int .i64 0, .int .i64 0]) rfl rfl rfl (fun w => (tA28 w).2) rfl rfl rfl rfl ?_
  refine .cast (A' := [Box pt [.int .i64 t.facts, .slice at_ t.init.length ct, .slice at_2 t.goal.length ct2, .slice at_3 t.ops.length ct3], Box pv [.int .i64 0, .int .i64 0], Box pp [.int .i64 t.facts, .slice at_ t.init.length ct, .slice at_2 t.goal.length ct2, .slice at_3 t.ops.length ct3, .slice asteps steps.length csteps, .slice a r3.1.length c]]) rfl ?_
  refine .nil ?_
  refine .seqN ?_
  refine .ret ?_
  refine .res2 rfl (rvT rfl) (rvC rfl tA28 (k := 1) rfl rfl) (fun w' S => ⟨(true, (⟨0, 0⟩ : Fault)), hF, rfl, S.below⟩)

theorem c_pcheck {h : FH} {w : World} (hs : Sub h w) (t : Task) (at_ : Option Addr) (ct : Nat) (_q1 : RSl h at_ t.init) (_q2 : t.init.length ≤ ct) (at_2 : Option Addr) (ct2 : Nat) (_q3 : RSl h at_2 t.goal) (_q4 : t.goal.length ≤ ct2) (at_3 : Option Addr) (ct3 : Nat) (_q5 : RSl h at_3 t.ops) (_q6 : t.ops.length ≤ ct3) (steps : List Int) (asteps : Option Addr) (csteps : Nat) (_q7 : RSl h asteps steps) (_q8 : steps.length ≤ csteps) (before : List (Int × Int)) (abefore : Option Addr) (cbefore : Nat) (_q9 : RSl h abefore before) (_q10 : before.length ≤ cbefore) : Calls Try.prog 23 #[.agg #[.int .i64 t.facts, .slice at_ t.init.length ct, .slice at_2 t.goal.length ct2, .slice at_3 t.ops.length ct3], .slice asteps steps.length csteps, .slice abefore before.length cbefore] w fun e w' => e = .returned (.tuple #[.bool (sp_pcheck t steps before).1, .agg #[.int .i64 (sp_pcheck t steps before).2.code, .int .i64 (sp_pcheck t steps before).2.index]]) ∧ Below w.heap.size w w' :=
  (w_pcheck hs t at_ ct _q1 _q2 at_2 ct2 _q3 _q4 at_3 ct3 _q5 _q6 steps asteps csteps _q7 _q8 before abefore cbefore _q9 _q10 (fun r => r = sp_pcheck t steps before) (ok_pcheck t steps before)).mono fun _ _ ⟨_, hk, he, hb⟩ => ⟨by rw [he, hk], hb⟩

theorem w_subset {h : FH} {w : World} (hs : Sub h w) (part : List Int) (apart : Option Addr) (cpart : Nat) (_q1 : RSl h apart part) (_q2 : part.length ≤ cpart) (l : List Int) (al2 : Option Addr) (cl2 : Nat) (_q3 : RSl h al2 l) (_q4 : l.length ≤ cl2) (K : Bool → Prop) (hF : F_subset part l K) : Calls Try.prog 68 #[.slice apart part.length cpart, .slice al2 l.length cl2] w fun e w' => ∃ r : Bool, K r ∧ e = .returned (.bool r) ∧ Below w.heap.size w w' := by
  refine enter (args := [.slice apart part.length cpart, .slice al2 l.length cl2]) Try.func68 rfl Try.ntmps68 rfl hs ?_
  refine .seq ?_
  refine .region ?_
  refine .v (asg rfl) rfl rfl rfl ?_
  refine .nil ?_
  refine .seqN ?_
  refine .seq ?_
  refine .seq ?_
  refine .region ?_
  refine .v (asg rfl) rfl rfl rfl ?_
  refine .nil ?_
  refine .seqN ?_
  refine .block ?_
  obtain ⟨I1, μ1, q77, q78⟩ := hF
  refine .loop' (σ := Int) (fun z => I1 z) (fun z => μ1 z) (fun z => [(0, .slice apart part.length cpart), (1, .slice al2 l.length cl2), (5, .int .i64 z)]) (fun _ => []) (fun _ => h) 0 q77 (.cons rfl (.cons rfl (.cons rfl (.nil)))) rfl (FH.le_refl _) ?_
  rintro i q77
  have hF := q78 i q77
  show J _ _ _ _ _ [(0, .slice apart part.length cpart), (1, .slice al2 l.length cl2), (5, .int .i64 i)] [] h
  refine .seq ?_
  refine .seq ?_
  refine .region ?_
  refine .v (mv rfl) rfl rfl rfl ?_
  refine .v (mv rfl) rfl rfl rfl ?_
  refine .v (ln rfl tS22.is) rfl rfl rfl ?_
  refine .v (bi rfl rfl rfl) rfl rfl rfl ?_
  refine .nil ?_
  refine .seqN ?_
  refine .cond rfl (fun q80 => ?_) (fun q80 => ?_)
  · replace hF := hF.1 q80
    refine .skip ?_
    refine .seqN ?_
    refine .seq ?_
    refine .block ?_
    refine .seq ?_
    refine .region ?_
    refine .v (mv rfl) rfl rfl rfl ?_
    refine .v (mv rfl) rfl rfl rfl ?_
    refine .v (mv rfl) rfl rfl rfl ?_
    obtain ⟨q89, hF⟩ := hF
    refine .v (ix rfl rfl tS22 (_q1.ne (by decide) (inb_pos q89)) q89) rfl rfl rfl ?_
    refine .v (ld1 (v := .int .i64 (gt part i)) rfl tO3 (cellH (_q1.elemF q89 (by decide) 0 _ rfl))) rfl rfl rfl ?_
    obtain ⟨q90, hF⟩ := hF
    obtain ⟨r2, q91⟩ : ∃ y_ : Bool, y_ = sp_has l (gt part i) := ⟨_, rfl⟩
    replace hF := hF r2 q91
    refine .c (cl (v := .bool r2) Try.call74 rfl rfl (fun w S => (by rw [q91]; exact c_has S.sub l al2 cl2 _q3 _q4 (gt part i) q90))) rfl rfl rfl ?_
    refine .v (nt rfl) rfl rfl rfl ?_
    refine .nil ?_
    refine .seqN ?_
    refine .cond rfl (fun q92 => ?_) (fun q92 => ?_)
    · replace hF := hF.1 q92
      refine .seq ?_
      refine .region ?_
      refine .v (asg rfl) rfl rfl rfl ?_
      refine .nil ?_
      refine .seqN ?_
      refine .ret ?_
      refine .blkR ?_
      refine .seqR ?_
      refine .seqR ?_
      refine .blkR ?_
      refine .seqR ?_
      refine .res1 rfl (rvT rfl) (fun w' S => ⟨false, hF, rfl, S.below⟩)
    replace hF := hF.2 q92
    refine .skip ?_
    refine .blkN ?_
    refine .seqN ?_
    refine .region ?_
    refine .v (mv rfl) rfl rfl rfl ?_
    refine .v (bi rfl rfl rfl) rfl rfl rfl ?_
    refine .v (asg rfl) rfl rfl rfl ?_
    refine .nil ?_
    exact .round (IntKind.i64.wrap (i + 1)) hF.1 hF.2 (.cons rfl (.cons rfl (.cons rfl (.nil)))) rfl (FH.le_refl _)
  replace hF := hF.2 q80
  refine .exit ?_
  refine .seqX ?_
  refine .seqX ?_
  refine .blkX ?_
  refine .seqN ?_
  refine .seq ?_
  refine .region ?_
  refine .v (asg rfl) rfl rfl rfl ?_
  refine .nil ?_
  refine .seqN ?_
  refine .ret ?_
  refine .res1 rfl (rvT rfl) (fun w' S => ⟨true, hF, rfl, S.below⟩)

theorem c_subset {h : FH} {w : World} (hs : Sub h w) (part : List Int) (apart : Option Addr) (cpart : Nat) (_q1 : RSl h apart part) (_q2 : part.length ≤ cpart) (l : List Int) (al2 : Option Addr) (cl2 : Nat) (_q3 : RSl h al2 l) (_q4 : l.length ≤ cl2) (hp : pre_subset part l) : Calls Try.prog 68 #[.slice apart part.length cpart, .slice al2 l.length cl2] w fun e w' => e = .returned (.bool (sp_subset part l)) ∧ Below w.heap.size w w' :=
  (w_subset hs part apart cpart _q1 _q2 l al2 cl2 _q3 _q4 (fun r => r = sp_subset part l) (ok_subset part l hp)).mono fun _ _ ⟨_, hk, he, hb⟩ => ⟨by rw [he, hk], hb⟩

theorem w_applies {h : FH} {w : World} (hs : Sub h w) (t : Task) (at_ : Option Addr) (ct : Nat) (_q1 : RSl h at_ t.init) (_q2 : t.init.length ≤ ct) (at_2 : Option Addr) (ct2 : Nat) (_q3 : RSl h at_2 t.goal) (_q4 : t.goal.length ≤ ct2) (at_3 : Option Addr) (ct3 : Nat) (_q5 : RSl h at_3 t.ops) (_q6 : t.ops.length ≤ ct3) (s_ : List Int) (as_ : Option Addr) (cs_ : Nat) (_q7 : RSl h as_ s_) (_q8 : s_.length ≤ cs_) (op : Int) (K : Bool → Prop) (hF : F_applies t s_ op K) : Calls Try.prog 96 #[.agg #[.int .i64 t.facts, .slice at_ t.init.length ct, .slice at_2 t.goal.length ct2, .slice at_3 t.ops.length ct3], .slice as_ s_.length cs_, .int .i64 op] w fun e w' => ∃ r : Bool, K r ∧ e = .returned (.bool r) ∧ Below w.heap.size w w' := by
  refine enter (args := [.agg #[.int .i64 t.facts, .slice at_ t.init.length ct, .slice at_2 t.goal.length ct2, .slice at_3 t.ops.length ct3], .slice as_ s_.length cs_, .int .i64 op]) Try.func96 rfl Try.ntmps96 rfl hs ?_
  refine .seq ?_
  refine .region ?_
  refine bx (vs := [.int .i64 t.facts, .slice at_ t.init.length ct, .slice at_2 t.goal.length ct2, .slice at_3 t.ops.length ct3]) rfl rfl rfl (fun pt => ?_)
  refine .v (asg rfl) rfl rfl rfl ?_
  refine .nil ?_
  refine .seqN ?_
  refine .seq ?_
  refine .region ?_
  refine .v (fa rfl tF25_3) rfl rfl rfl ?_
  refine .v (ld1 rfl tO23 (cellB (off := 3) (k := 0) rfl rfl)) rfl rfl rfl ?_
  refine .v (mv rfl) rfl rfl rfl ?_
  obtain ⟨q9, hF⟩ := hF
  refine .v (ix rfl rfl tS23 (_q5.ne (by decide) (inb_pos q9)) q9) rfl rfl rfl ?_
  refine .v (fa rfl tF89_0) rfl rfl rfl ?_
  obtain ⟨_, ⟨a, c, a2, c2, a3, c3, rfl, ⟨q10, q11⟩, ⟨q12, q13⟩, q14, q15⟩, q16⟩ := _q5.elem q9
  refine .v (ld1 (v := .slice a ((gt t.ops op).pre.length) c) rfl tO22 (cellH (q16 (by decide) 0 _ rfl))) rfl rfl rfl ?_
  refine .v (mv rfl) rfl rfl rfl ?_
  obtain ⟨q17, hF⟩ := hF
  obtain ⟨r2, q18⟩ : ∃ y_ : Bool, y_ = sp_subset ((gt t.ops op).pre) s_ := ⟨_, rfl⟩
  replace hF := hF r2 q18
  refine .c (cl (v := .bool r2) Try.call68 rfl rfl (fun w S => (by rw [q18]; exact c_subset S.sub ((gt t.ops op).pre) a c q11 q10 s_ as_ cs_ _q7 _q8 q17))) rfl rfl rfl ?_
  refine .v (asg rfl) rfl rfl rfl ?_
  refine .nil ?_
  refine .seqN ?_
  refine .ret ?_
  refine .res1 rfl (rvT rfl) (fun w' S => ⟨r2, hF, rfl, S.below⟩)

theorem c_applies {h : FH} {w : World} (hs : Sub h w) (t : Task) (at_ : Option Addr) (ct : Nat) (_q1 : RSl h at_ t.init) (_q2 : t.init.length ≤ ct) (at_2 : Option Addr) (ct2 : Nat) (_q3 : RSl h at_2 t.goal) (_q4 : t.goal.length ≤ ct2) (at_3 : Option Addr) (ct3 : Nat) (_q5 : RSl h at_3 t.ops) (_q6 : t.ops.length ≤ ct3) (s_ : List Int) (as_ : Option Addr) (cs_ : Nat) (_q7 : RSl h as_ s_) (_q8 : s_.length ≤ cs_) (op : Int) (hp : pre_applies t s_ op) : Calls Try.prog 96 #[.agg #[.int .i64 t.facts, .slice at_ t.init.length ct, .slice at_2 t.goal.length ct2, .slice at_3 t.ops.length ct3], .slice as_ s_.length cs_, .int .i64 op] w fun e w' => e = .returned (.bool (sp_applies t s_ op)) ∧ Below w.heap.size w w' :=
  (w_applies hs t at_ ct _q1 _q2 at_2 ct2 _q3 _q4 at_3 ct3 _q5 _q6 s_ as_ cs_ _q7 _q8 op (fun r => r = sp_applies t s_ op) (ok_applies t s_ op hp)).mono fun _ _ ⟨_, hk, he, hb⟩ => ⟨by rw [he, hk], hb⟩

set_option maxHeartbeats 8000000 in
theorem w_after {h : FH} {w : World} (hs : Sub h w) (t : Task) (at_ : Option Addr) (ct : Nat) (_q1 : RSl h at_ t.init) (_q2 : t.init.length ≤ ct) (at_2 : Option Addr) (ct2 : Nat) (_q3 : RSl h at_2 t.goal) (_q4 : t.goal.length ≤ ct2) (at_3 : Option Addr) (ct3 : Nat) (_q5 : RSl h at_3 t.ops) (_q6 : t.ops.length ≤ ct3) (s_ : List Int) (as_ : Option Addr) (cs_ : Nat) (_q7 : RSl h as_ s_) (_q8 : s_.length ≤ cs_) (op : Int) (K : (List Int) → Prop) (hF : F_after t s_ op K) : Calls Try.prog 97 #[.agg #[.int .i64 t.facts, .slice at_ t.init.length ct, .slice at_2 t.goal.length ct2, .slice at_3 t.ops.length ct3], .slice as_ s_.length cs_, .int .i64 op] w fun e w' => ∃ (r : List Int) (z : Option Addr × Nat) (h1 : FH), K r ∧ e = .returned (.slice z.1 r.length z.2) ∧ FH.le h h1 ∧ (RSl h1 z.1 r ∧ r.length ≤ z.2) ∧ SH (Kp.all w h) h1 w' [] := by
  refine enter (args := [.agg #[.int .i64 t.facts, .slice at_ t.init.length ct, .slice at_2 t.goal.length ct2, .slice at_3 t.ops.length ct3], .slice as_ s_.length cs_, .int .i64 op]) Try.func97 rfl Try.ntmps97 rfl hs ?_
  refine .seq ?_
  refine .region ?_
  refine bx (vs := [.int .i64 t.facts, .slice at_ t.init.length ct, .slice at_2 t.goal.length ct2, .slice at_3 t.ops.length ct3]) rfl rfl rfl (fun pt => ?_)
  refine .v (asg rfl) rfl rfl rfl ?_
  refine .nil ?_
  refine .seqN ?_
  refine .seq ?_
  refine .region ?_
  refine .v (asg rfl) rfl rfl rfl ?_
  refine .nil ?_
  refine .seqN ?_
  refine .seq ?_
  refine .seq ?_
  refine .region ?_
  refine .v (asg rfl) rfl rfl rfl ?_
  refine .nil ?_
  refine .seqN ?_
  refine .block ?_
  refine .nilSl 3 1 ?_
  refine .cast (A' := [OwnSl 3 1 none (([] : List Int).length) 0 (flL ([] : List Int)), Box pt [.int .i64 t.facts, .slice at_ t.init.length ct, .slice at_2 t.goal.length ct2, .slice at_3 t.ops.length ct3]]) rfl ?_
  refine .sel0 [1, 0] (by decide) rfl ?_
  obtain ⟨I1, μ1, q396, q397⟩ := hF
  refine .loop' (σ := Int × List Int × Option Addr × Nat) (fun z => I1 z.1 z.2.1) (fun z => μ1 z.1 z.2.1) (fun z => [(1, .slice as_ s_.length cs_), (2, .int .i64 op), (3, .pointer (some pt)), (7, .slice z.2.2.1 z.2.1.length z.2.2.2), (8, .int .i64 z.1)]) (fun z => [Box pt [.int .i64 t.facts, .slice at_ t.init.length ct, .slice at_2 t.goal.length ct2, .slice at_3 t.ops.length ct3], OwnSl 3 1 z.2.2.1 z.2.1.length z.2.2.2 (flL z.2.1)]) (fun _ => h) (0, ([] : List Int), none, 0) q396 (.cons rfl (.cons rfl (.cons rfl (.cons rfl (.cons rfl (.nil)))))) rfl (FH.le_refl _) ?_
  rintro ⟨p, out, aout, cout⟩ q396
  have hF := q397 p out q396
  show J _ _ _ _ _ [(1, .slice as_ s_.length cs_), (2, .int .i64 op), (3, .pointer (some pt)), (7, .slice aout out.length cout), (8, .int .i64 p)] [Box pt [.int .i64 t.facts, .slice at_ t.init.length ct, .slice at_2 t.goal.length ct2, .slice at_3 t.ops.length ct3], OwnSl 3 1 aout out.length cout (flL out)] h
  refine .seq ?_
  refine .seq ?_
  refine .region ?_
  refine .v (mv rfl) rfl rfl rfl ?_
  refine .v (fa rfl tF25_0) rfl rfl rfl ?_
  refine .v (ld1 rfl tO3 (cellB (off := 0) (k := 0) rfl rfl)) rfl rfl rfl ?_
  refine .v (bi rfl rfl rfl) rfl rfl rfl ?_
  refine .nil ?_
  refine .seqN ?_
  refine .cond rfl (fun q399 => ?_) (fun q399 => ?_)
  · replace hF := hF.1 q399
    refine .skip ?_
    refine .seqN ?_
    refine .share (σ := List Int × Option Addr × Nat) (fun z => F_after_J1 out p I1 μ1 z.1) (fun z => [(1, .slice as_ s_.length cs_), (2, .int .i64 op), (3, .pointer (some pt)), (7, .slice z.2.1 z.1.length z.2.2), (8, .int .i64 p)]) (fun z => [Box pt [.int .i64 t.facts, .slice at_ t.init.length ct, .slice at_2 t.goal.length ct2, .slice at_3 t.ops.length ct3], OwnSl 3 1 z.2.1 z.1.length z.2.2 (flL z.1)]) (fun _ => h) ?_ (fun q437 => ?_)
    · rintro ⟨out3, aout3, cout3⟩ hF
      show J _ _ _ _ _ [(1, .slice as_ s_.length cs_), (2, .int .i64 op), (3, .pointer (some pt)), (7, .slice aout3 out3.length cout3), (8, .int .i64 p)] [Box pt [.int .i64 t.facts, .slice at_ t.init.length ct, .slice at_2 t.goal.length ct2, .slice at_3 t.ops.length ct3], OwnSl 3 1 aout3 out3.length cout3 (flL out3)] h
      refine .region ?_
      refine .v (mv rfl) rfl rfl rfl ?_
      refine .v (bi rfl rfl rfl) rfl rfl rfl ?_
      refine .v (asg rfl) rfl rfl rfl ?_
      refine .nil ?_
      exact .round (IntKind.i64.wrap (p + 1), out3, aout3, cout3) hF.1 hF.2 (.cons rfl (.cons rfl (.cons rfl (.cons rfl (.cons rfl (.nil)))))) rfl (FH.le_refl _)
    refine .block ?_
    refine .share (σ := Bool) (fun z => F_after_J2 z out p I1 μ1) (fun z => [(1, .slice as_ s_.length cs_), (2, .int .i64 op), (3, .pointer (some pt)), (7, .slice aout out.length cout), (8, .int .i64 p), (38, .bool z)]) (fun _ => [Box pt [.int .i64 t.facts, .slice at_ t.init.length ct, .slice at_2 t.goal.length ct2, .slice at_3 t.ops.length ct3], OwnSl 3 1 aout out.length cout (flL out)]) (fun _ => h) ?_ (fun q454 => ?_)
    · rintro t38 hF
      show J _ _ _ _ _ [(1, .slice as_ s_.length cs_), (2, .int .i64 op), (3, .pointer (some pt)), (7, .slice aout out.length cout), (8, .int .i64 p), (38, .bool t38)] [Box pt [.int .i64 t.facts, .slice at_ t.init.length ct, .slice at_2 t.goal.length ct2, .slice at_3 t.ops.length ct3], OwnSl 3 1 aout out.length cout (flL out)] h
      refine .cond rfl (fun q455 => ?_) (fun q455 => ?_)
      · replace hF := hF.1 q455
        refine .region ?_
        refine .v (mv rfl) rfl rfl rfl ?_
        refine .v (mv rfl) rfl rfl rfl ?_
        refine bs2 (cs := #[.int .i64 p]) (pv := [(0, .int .i64 p)]) tS22 rfl rfl (by decide) (by decide) rfl rfl rfl (fun a _ => ?_)
        refine .cast (A' := [OwnSl 3 1 a (([p] : List Int).length) 1 (flL ([p] : List Int)), Box pt [.int .i64 t.facts, .slice at_ t.init.length ct, .slice at_2 t.goal.length ct2, .slice at_3 t.ops.length ct3], OwnSl 3 1 aout out.length cout (flL out)]) rfl ?_
        obtain ⟨q457, hF⟩ := hF
        have q458 : out.length + ([p] : List Int).length = ((out ++ ([p] : List Int))).length := len_app rfl rfl
        refine app (k := 2) (news := flL ([p] : List Int)) (cs' := flL (out ++ ([p] : List Int))) (nm := ((out ++ ([p] : List Int))).length) tS22 rfl (by decide) rfl rfl rfl (by rw [flL_len]; rfl) (srcS (k := 0) rfl) (flL_one _) (room_of q458 q457).1 (room_of q458 q457).2 q458 (flL_append _ _).symm rfl (fun a2 c => ?_)
        refine .cast (A' := [OwnSl 3 1 a (([p] : List Int).length) 1 (flL ([p] : List Int)), Box pt [.int .i64 t.facts, .slice at_ t.init.length ct, .slice at_2 t.goal.length ct2, .slice at_3 t.ops.length ct3], OwnSl 3 1 a2 ((out ++ ([p] : List Int)).length) c (flL (out ++ ([p] : List Int)))]) rfl ?_
        refine .v (asg rfl) rfl rfl rfl ?_
        refine .nil ?_
        refine .blkN ?_
        refine .sel0 [1, 2] (by decide) rfl ?_
        exact .use q437 ((out ++ ([p] : List Int)), a2, c) hF (.cons rfl (.cons rfl (.cons rfl (.cons rfl (.cons rfl (.nil)))))) rfl (FH.le_refl _)
      replace hF := hF.2 q455
      refine .skip ?_
      refine .blkN ?_
      exact .use q437 (out, aout, cout) hF (.cons rfl (.cons rfl (.cons rfl (.cons rfl (.cons rfl (.nil)))))) rfl (FH.le_refl _)
    refine .region ?_
    refine .v (fa rfl tF25_3) rfl rfl rfl ?_
    refine .v (ld1 rfl tO23 (cellB (off := 3) (k := 0) rfl rfl)) rfl rfl rfl ?_
    refine .v (mv rfl) rfl rfl rfl ?_
    obtain ⟨q459, hF⟩ := hF
    refine .v (ix rfl rfl tS23 (_q5.ne (by decide) (inb_pos q459)) q459) rfl rfl rfl ?_
    refine .v (fa rfl tF89_1) rfl rfl rfl ?_
    obtain ⟨_, ⟨a3, c2, a4, c3, a5, c4, rfl, ⟨q460, q461⟩, ⟨q462, q463⟩, q464, q465⟩, q466⟩ := _q5.elem q459
    refine .v (ld1 (v := .slice a4 ((gt t.ops op).add.length) c3) rfl tO22 (cellH (q466 (by decide) 1 _ rfl))) rfl rfl rfl ?_
    refine .v (mv rfl) rfl rfl rfl ?_
    obtain ⟨q467, hF⟩ := hF
    obtain ⟨r2, q468⟩ : ∃ y_ : Bool, y_ = sp_has ((gt t.ops op).add) p := ⟨_, rfl⟩
    replace hF := hF r2 q468
    refine .c (cl (v := .bool r2) Try.call74 rfl rfl (fun w S => (by rw [q468]; exact c_has S.sub ((gt t.ops op).add) a4 c3 q463 q462 p q467))) rfl rfl rfl ?_
    refine .v (mv rfl) rfl rfl rfl ?_
    rcases Bool.eq_false_or_eq_true (r2) with q469 | q469
    · replace hF := hF.1 q469
      refine .gS rfl rfl rfl q469 rfl rfl ?_
      refine .gS rfl rfl rfl q469 rfl rfl ?_
      refine .gS rfl rfl rfl q469 rfl rfl ?_
      refine .gS rfl rfl rfl q469 rfl rfl ?_
      refine .gU rfl rfl rfl rfl rfl ?_
      refine .gU rfl rfl rfl rfl rfl ?_
      refine .gU rfl rfl rfl rfl rfl ?_
      refine .gU rfl rfl rfl rfl rfl ?_
      refine .gU rfl rfl rfl rfl rfl ?_
      refine .gU rfl rfl rfl rfl rfl ?_
      refine .gU rfl rfl rfl rfl rfl ?_
      refine .gU rfl rfl rfl rfl rfl ?_
      refine .gU rfl rfl rfl rfl rfl ?_
      refine .gS rfl rfl rfl q469 rfl rfl ?_
      refine .v (pkT rfl q469 rfl) rfl rfl rfl ?_
      refine .nil ?_
      exact .use q454 true hF (.cons rfl (.cons rfl (.cons rfl (.cons rfl (.cons rfl (.cons rfl (.nil))))))) rfl (FH.le_refl _)
    replace hF := hF.2 q469
    refine .gv (mv rfl) rfl rfl rfl q469 rfl rfl ?_
    refine .gv (mv rfl) rfl rfl rfl q469 rfl rfl ?_
    obtain ⟨q470, hF⟩ := hF
    obtain ⟨r3, q471⟩ : ∃ y_ : Bool, y_ = sp_has s_ p := ⟨_, rfl⟩
    replace hF := hF r3 q471
    refine .gc (cl (v := .bool r3) Try.call74 rfl rfl (fun w S => (by rw [q471]; exact c_has S.sub s_ as_ cs_ _q7 _q8 p q470))) rfl rfl rfl q469 rfl rfl ?_
    refine .gv (mv rfl) rfl rfl rfl q469 rfl rfl ?_
    rcases Bool.eq_false_or_eq_true (r3) with q472 | q472
    · replace hF := hF.1 q472
      refine .gv (fa rfl tF25_3) rfl rfl rfl q472 rfl rfl ?_
      refine .gv (ld1 rfl tO23 (cellB (off := 3) (k := 0) rfl rfl)) rfl rfl rfl q472 rfl rfl ?_
      refine .gv (mv rfl) rfl rfl rfl q472 rfl rfl ?_
      refine .gv (ix rfl rfl tS23 (_q5.ne (by decide) (inb_pos q459)) q459) rfl rfl rfl q472 rfl rfl ?_
      refine .gv (fa rfl tF89_2) rfl rfl rfl q472 rfl rfl ?_
      refine .gv (ld1 (v := .slice a5 ((gt t.ops op).del.length) c4) rfl tO22 (cellH (q466 (by decide) 2 _ rfl))) rfl rfl rfl q472 rfl rfl ?_
      refine .gv (mv rfl) rfl rfl rfl q472 rfl rfl ?_
      obtain ⟨q473, hF⟩ := hF
      obtain ⟨r4, q474⟩ : ∃ y_ : Bool, y_ = sp_has ((gt t.ops op).del) p := ⟨_, rfl⟩
      replace hF := hF r4 q474
      refine .gc (cl (v := .bool r4) Try.call74 rfl rfl (fun w S => (by rw [q474]; exact c_has S.sub ((gt t.ops op).del) a5 c4 q465 q464 p q473))) rfl rfl rfl q472 rfl rfl ?_
      refine .gv (nt rfl) rfl rfl rfl q472 rfl rfl ?_
      refine .gv (pkT rfl q472 rfl) rfl rfl rfl q469 rfl rfl ?_
      refine .v (pkF rfl q469 rfl) rfl rfl rfl ?_
      refine .nil ?_
      exact .use q454 (!r4) hF (.cons rfl (.cons rfl (.cons rfl (.cons rfl (.cons rfl (.cons rfl (.nil))))))) rfl (FH.le_refl _)
    replace hF := hF.2 q472
    refine .gS rfl rfl rfl q472 rfl rfl ?_
    refine .gS rfl rfl rfl q472 rfl rfl ?_
    refine .gS rfl rfl rfl q472 rfl rfl ?_
    refine .gS rfl rfl rfl q472 rfl rfl ?_
    refine .gS rfl rfl rfl q472 rfl rfl ?_
    refine .gS rfl rfl rfl q472 rfl rfl ?_
    refine .gS rfl rfl rfl q472 rfl rfl ?_
    refine .gS rfl rfl rfl q472 rfl rfl ?_
    refine .gS rfl rfl rfl q472 rfl rfl ?_
    refine .gv (pkF rfl q472 rfl) rfl rfl rfl q469 rfl rfl ?_
    refine .v (pkF rfl q469 rfl) rfl rfl rfl ?_
    refine .nil ?_
    exact .use q454 false hF (.cons rfl (.cons rfl (.cons rfl (.cons rfl (.cons rfl (.cons rfl (.nil))))))) rfl (FH.le_refl _)
  replace hF := hF.2 q399
  refine .exit ?_
  refine .seqX ?_
  refine .seqX ?_
  refine .blkX ?_
  refine .seqN ?_
  refine .seq ?_
  refine .region ?_
  refine .v (mv rfl) rfl rfl rfl ?_
  refine .v (asg rfl) rfl rfl rfl ?_
  refine .nil ?_
  refine .seqN ?_
  refine .freezeL (k := 1) rfl (fun h1 le1 q476 q475 => ?_)
  refine .cast (A' := [Box pt [.int .i64 t.facts, .slice at_ t.init.length ct, .slice at_2 t.goal.length ct2, .slice at_3 t.ops.length ct3], tru]) rfl ?_
  refine .ret ?_
  refine .res1 rfl (rvT rfl) (fun w' S => ⟨out, (aout, cout), h1, hF, rfl, (le1), ⟨(RSl.of q475), (q476)⟩, S.none⟩)

theorem c_after {h : FH} {w : World} (hs : Sub h w) (t : Task) (at_ : Option Addr) (ct : Nat) (_q1 : RSl h at_ t.init) (_q2 : t.init.length ≤ ct) (at_2 : Option Addr) (ct2 : Nat) (_q3 : RSl h at_2 t.goal) (_q4 : t.goal.length ≤ ct2) (at_3 : Option Addr) (ct3 : Nat) (_q5 : RSl h at_3 t.ops) (_q6 : t.ops.length ≤ ct3) (s_ : List Int) (as_ : Option Addr) (cs_ : Nat) (_q7 : RSl h as_ s_) (_q8 : s_.length ≤ cs_) (op : Int) (hp : pre_after t s_ op) : Calls Try.prog 97 #[.agg #[.int .i64 t.facts, .slice at_ t.init.length ct, .slice at_2 t.goal.length ct2, .slice at_3 t.ops.length ct3], .slice as_ s_.length cs_, .int .i64 op] w fun e w' => ∃ (z : Option Addr × Nat) (h1 : FH), e = .returned (.slice z.1 (sp_after t s_ op).length z.2) ∧ FH.le h h1 ∧ (RSl h1 z.1 (sp_after t s_ op) ∧ (sp_after t s_ op).length ≤ z.2) ∧ SH (Kp.all w h) h1 w' [] :=
  (w_after hs t at_ ct _q1 _q2 at_2 ct2 _q3 _q4 at_3 ct3 _q5 _q6 s_ as_ cs_ _q7 _q8 op (fun r => r = sp_after t s_ op) (ok_after t s_ op hp)).mono fun _ _ ⟨r, z, h1, hk, he, hl, hf, hS⟩ => by subst hk; exact ⟨z, h1, he, hl, hf, hS⟩

theorem w_ends {h : FH} {w : World} (hs : Sub h w) (t : Task) (at_ : Option Addr) (ct : Nat) (_q1 : RSl h at_ t.init) (_q2 : t.init.length ≤ ct) (at_2 : Option Addr) (ct2 : Nat) (_q3 : RSl h at_2 t.goal) (_q4 : t.goal.length ≤ ct2) (at_3 : Option Addr) (ct3 : Nat) (_q5 : RSl h at_3 t.ops) (_q6 : t.ops.length ≤ ct3) (s_ : List Int) (as_ : Option Addr) (cs_ : Nat) (_q7 : RSl h as_ s_) (_q8 : s_.length ≤ cs_) (plan : List Int) (aplan : Option Addr) (cplan : Nat) (_q9 : RSl h aplan plan) (_q10 : plan.length ≤ cplan) (K : (List Int × Bool) → Prop) (hF : F_ends t s_ plan K) : Calls Try.prog 84 #[.agg #[.int .i64 t.facts, .slice at_ t.init.length ct, .slice at_2 t.goal.length ct2, .slice at_3 t.ops.length ct3], .slice as_ s_.length cs_, .slice aplan plan.length cplan] w fun e w' => ∃ (r : List Int × Bool) (z : Option Addr × Nat) (h1 : FH), K r ∧ e = .returned (.tuple #[.slice z.1 r.1.length z.2, .bool r.2]) ∧ FH.le h h1 ∧ (RSl h1 z.1 r.1 ∧ r.1.length ≤ z.2) ∧ SH (Kp.all w h) h1 w' [] := by
  refine enter (args := [.agg #[.int .i64 t.facts, .slice at_ t.init.length ct, .slice at_2 t.goal.length ct2, .slice at_3 t.ops.length ct3], .slice as_ s_.length cs_, .slice aplan plan.length cplan]) Try.func84 rfl Try.ntmps84 rfl hs ?_
  refine .seq ?_
  refine .region ?_
  refine bx (vs := [.int .i64 t.facts, .slice at_ t.init.length ct, .slice at_2 t.goal.length ct2, .slice at_3 t.ops.length ct3]) rfl rfl rfl (fun pt => ?_)
  refine .v (asg rfl) rfl rfl rfl ?_
  refine .v (asg rfl) rfl rfl rfl ?_
  refine .nil ?_
  refine .seqN ?_
  refine .seq ?_
  refine .seq ?_
  refine .region ?_
  refine .v (asg rfl) rfl rfl rfl ?_
  refine .nil ?_
  refine .seqN ?_
  refine .block ?_
  obtain ⟨I1, μ1, q182, q183⟩ := hF
  refine .loop' (σ := List Int × Int × Option Addr × Nat × FH) (fun z => I1 z.1 z.2.1 ∧ RSl z.2.2.2.2 z.2.2.1 z.1 ∧ z.1.length ≤ z.2.2.2.1 ∧ FH.le h z.2.2.2.2) (fun z => μ1 z.1 z.2.1) (fun z => [(1, .slice z.2.2.1 z.1.length z.2.2.2.1), (2, .slice aplan plan.length cplan), (3, .pointer (some pt)), (8, .int .i64 z.2.1)]) (fun _ => [Box pt [.int .i64 t.facts, .slice at_ t.init.length ct, .slice at_2 t.goal.length ct2, .slice at_3 t.ops.length ct3]]) (fun z => z.2.2.2.2) (s_, 0, as_, cs_, h) ⟨q182, _q7, _q8, (FH.le_refl _)⟩ (.cons rfl (.cons rfl (.cons rfl (.cons rfl (.nil))))) rfl (FH.le_refl _) ?_
  rintro ⟨s_2, i, as2, cs, h19⟩ ⟨q182, q147, q148, q149⟩
  have hF := q183 s_2 i q182
  show J _ _ _ _ _ [(1, .slice as2 s_2.length cs), (2, .slice aplan plan.length cplan), (3, .pointer (some pt)), (8, .int .i64 i)] [Box pt [.int .i64 t.facts, .slice at_ t.init.length ct, .slice at_2 t.goal.length ct2, .slice at_3 t.ops.length ct3]] h19
  refine .seq ?_
  refine .seq ?_
  refine .region ?_
  refine .v (mv rfl) rfl rfl rfl ?_
  refine .v (mv rfl) rfl rfl rfl ?_
  refine .v (ln rfl tS22.is) rfl rfl rfl ?_
  refine .v (bi rfl rfl rfl) rfl rfl rfl ?_
  refine .nil ?_
  refine .seqN ?_
  refine .cond rfl (fun q185 => ?_) (fun q185 => ?_)
  · replace hF := hF.1 q185
    refine .skip ?_
    refine .seqN ?_
    refine .seq ?_
    refine .block ?_
    refine .seq ?_
    refine .seq ?_
    refine .open_ (by kernel_rfl) (by kernel_rfl) ?_
    refine .v (ldA (cs := [.int .i64 t.facts, .slice at_ t.init.length ct, .slice at_2 t.goal.length ct2, .slice at_3 t.ops.length ct3]) rfl tA25 rfl (cellsB (off := 0) (k := 0) rfl (m := 4) rfl)) rfl rfl rfl ?_
    refine .v (mv rfl) rfl rfl rfl ?_
    refine .v (mv rfl) rfl rfl rfl ?_
    refine .v (mv rfl) rfl rfl rfl ?_
    obtain ⟨q204, hF⟩ := hF
    refine .v (ix rfl rfl tS22 (_q9.ne (by decide) (inb_pos q204)) q204) rfl rfl rfl ?_
    refine .v (ld1 (v := .int .i64 (gt plan i)) rfl tO3 (cellH ((_q9.mono (q149)).elemF q204 (by decide) 0 _ rfl))) rfl rfl rfl ?_
    obtain ⟨q205, hF⟩ := hF
    obtain ⟨r2, q206⟩ : ∃ y_ : Bool, y_ = sp_applies t s_2 (gt plan i) := ⟨_, rfl⟩
    replace hF := hF r2 q206
    refine .c (cl (v := .bool r2) Try.call96 rfl rfl (fun w S => (by rw [q206]; exact c_applies S.sub t at_ ct (_q1.mono (q149)) _q2 at_2 ct2 (_q3.mono (q149)) _q4 at_3 ct3 (_q5.mono (q149)) _q6 s_2 as2 cs q147 q148 (gt plan i) q205))) rfl rfl rfl ?_
    refine .v (nt rfl) rfl rfl rfl ?_
    refine .fin ?_
    refine .seqN ?_
    refine .cond rfl (fun q208 => ?_) (fun q208 => ?_)
    · replace hF := hF.1 q208
      refine .seq ?_
      refine .region ?_
      refine .v (asg rfl) rfl rfl rfl ?_
      refine .v (asg rfl) rfl rfl rfl ?_
      refine .nil ?_
      refine .seqN ?_
      refine .ret ?_
      refine .seqR ?_
      refine .blkR ?_
      refine .seqR ?_
      refine .seqR ?_
      refine .blkR ?_
      refine .seqR ?_
      refine .res2 rfl (rvT rfl) (rvT rfl) (fun w' S => ⟨(([] : List Int), false), (none, 0), h19, hF, rfl, (q149), ⟨RSl.nil_, (Nat.le_refl 0)⟩, S.none⟩)
    replace hF := hF.2 q208
    refine .skip ?_
    refine .seqN ?_
    refine .openA (s0 := [(1, .slice as2 s_2.length cs), (2, .slice aplan plan.length cplan), (3, .pointer (some pt)), (8, .int .i64 i)]) [0, 1, 2, 3, 4, 5] [(0, .agg #[.int .i64 t.facts, .slice at_ t.init.length ct, .slice at_2 t.goal.length ct2, .slice at_3 t.ops.length ct3]), (1, .slice as2 s_2.length cs), (2, .slice aplan plan.length cplan), (3, .int .i64 i), (4, .pointer (some (ead aplan (i.toNat * 1)))), (5, .int .i64 (gt plan i))] (by kernel_rfl) (.cons rfl (.cons rfl (.cons rfl (.cons rfl (.nil))))) [1, 2, 3, 8] [7] rfl (by kernel_rfl) ?_
    refine .step [6] 6 rfl (by kernel_rfl) (by kernel_rfl) (.v [] rfl rfl rfl rfl rfl rfl (fun _ => ldA (cs := [.int .i64 t.facts, .slice at_ t.init.length ct, .slice at_2 t.goal.length ct2, .slice at_3 t.ops.length ct3]) rfl tA25 rfl (cellsB (off := 0) (k := 0) rfl (m := 4) rfl)) (.v [] rfl rfl rfl rfl rfl rfl (fun _ => mv rfl) (.v [] rfl rfl rfl rfl rfl rfl (fun _ => mv rfl) (.v [] rfl rfl rfl rfl rfl rfl (fun _ => mv rfl) (.v [(25, .slice aplan plan.length cplan), (26, .int .i64 i)] rfl rfl rfl rfl rfl rfl (fun _ => ix rfl rfl tS22 (_q9.ne (by decide) (inb_pos q204)) q204) (.v [(27, .pointer (some (ead aplan (i.toNat * 1))))] rfl rfl rfl rfl rfl rfl (fun _ => ld1 (v := .int .i64 (gt plan i)) rfl tO3 (cellH ((_q9.mono (q149)).elemF q204 (by decide) 0 _ rfl))) (.nil))))))) (.cons [(23, .agg #[.int .i64 t.facts, .slice at_ t.init.length ct, .slice at_2 t.goal.length ct2, .slice at_3 t.ops.length ct3]), (24, .slice as2 s_2.length cs), (28, .int .i64 (gt plan i))] rfl rfl (fun sL hL => ?_) (.nil))
    obtain ⟨q209, hF⟩ := hF
    obtain ⟨r3, q210⟩ : ∃ y_ : List Int, y_ = sp_after t s_2 (gt plan i) := ⟨_, rfl⟩
    replace hF := hF r3 q210
    refine clR (α := Option Addr × Nat) (Φ := fun h1 z => RSl h1 z.1 r3 ∧ r3.length ≤ z.2) (V := fun z => .slice z.1 r3.length z.2) Try.call97 rfl rfl (fun w S => (by rw [q210]; exact c_after S.sub t at_ ct (_q1.mono (q149)) _q2 at_2 ct2 (_q3.mono (q149)) _q4 at_3 ct3 (_q5.mono (q149)) _q6 s_2 as2 cs q147 q148 (gt plan i) q209)) rfl (fun z h26 le26 hz => ?_)
    obtain ⟨a, c⟩ := z
    obtain ⟨q211, q212⟩ := hz
    refine .nil ?_
    refine .ja (M := [0, 1, 5, 4, 2, 3]) (C' := []) (pre := [(6, .slice a r3.length c)]) [(1, .slice as2 s_2.length cs), (2, .slice aplan plan.length cplan), (3, .pointer (some pt)), (8, .int .i64 i)] [1, 2, 3, 8] hL rfl rfl rfl rfl rfl (.cons rfl (.cons rfl (.cons rfl (.cons rfl (.nil))))) rfl rfl (by kernel_rfl) ?_
    refine .step [7] 7 rfl (by kernel_rfl) (by kernel_rfl) (.nil) (.cons [(29, .slice a r3.length c), (29, .slice a r3.length c), (23, .agg #[.int .i64 t.facts, .slice at_ t.init.length ct, .slice at_2 t.goal.length ct2, .slice at_3 t.ops.length ct3]), (24, .slice as2 s_2.length cs), (25, .slice aplan plan.length cplan), (26, .int .i64 i), (27, .pointer (some (ead aplan (i.toNat * 1)))), (28, .int .i64 (gt plan i)), (29, .slice a r3.length c)] rfl rfl (fun sL hL => ?_) (.nil))
    refine .v (asg rfl) rfl rfl rfl ?_
    refine .nil ?_
    refine .ja (M := []) (C' := []) (pre := [(7, .slice a r3.length c)]) [(2, .slice aplan plan.length cplan), (3, .pointer (some pt)), (8, .int .i64 i)] [2, 3, 8] hL rfl rfl rfl rfl rfl (.cons rfl (.cons rfl (.cons rfl (.nil)))) rfl rfl (by kernel_rfl) ?_
    refine .last [(23, .agg #[.int .i64 t.facts, .slice at_ t.init.length ct, .slice at_2 t.goal.length ct2, .slice at_3 t.ops.length ct3]), (24, .slice as2 s_2.length cs), (25, .slice aplan plan.length cplan), (26, .int .i64 i), (27, .pointer (some (ead aplan (i.toNat * 1)))), (28, .int .i64 (gt plan i)), (29, .slice a r3.length c), (1, .slice a r3.length c)] rfl (by kernel_rfl) (.nil) rfl ?_
    refine .blkN ?_
    refine .seqN ?_
    refine .region ?_
    refine .v (mv rfl) rfl rfl rfl ?_
    refine .v (bi rfl rfl rfl) rfl rfl rfl ?_
    refine .v (asg rfl) rfl rfl rfl ?_
    refine .nil ?_
    exact .round (r3, IntKind.i64.wrap (i + 1), a, c, h26) ⟨hF.1, q211, q212, (FH.le_trans (q149) (le26))⟩ hF.2 (.cons rfl (.cons rfl (.cons rfl (.cons rfl (.nil))))) rfl (FH.le_refl _)
  replace hF := hF.2 q185
  refine .exit ?_
  refine .seqX ?_
  refine .seqX ?_
  refine .blkX ?_
  refine .seqN ?_
  refine .seq ?_
  refine .region ?_
  refine .v (mv rfl) rfl rfl rfl ?_
  refine .v (asg rfl) rfl rfl rfl ?_
  refine .v (asg rfl) rfl rfl rfl ?_
  refine .nil ?_
  refine .seqN ?_
  refine .ret ?_
  refine .res2 rfl (rvT rfl) (rvT rfl) (fun w' S => ⟨(s_2, true), (as2, cs), h19, hF, rfl, (q149), ⟨q147, q148⟩, S.none⟩)

theorem c_ends {h : FH} {w : World} (hs : Sub h w) (t : Task) (at_ : Option Addr) (ct : Nat) (_q1 : RSl h at_ t.init) (_q2 : t.init.length ≤ ct) (at_2 : Option Addr) (ct2 : Nat) (_q3 : RSl h at_2 t.goal) (_q4 : t.goal.length ≤ ct2) (at_3 : Option Addr) (ct3 : Nat) (_q5 : RSl h at_3 t.ops) (_q6 : t.ops.length ≤ ct3) (s_ : List Int) (as_ : Option Addr) (cs_ : Nat) (_q7 : RSl h as_ s_) (_q8 : s_.length ≤ cs_) (plan : List Int) (aplan : Option Addr) (cplan : Nat) (_q9 : RSl h aplan plan) (_q10 : plan.length ≤ cplan) (hp : pre_ends t s_ plan) : Calls Try.prog 84 #[.agg #[.int .i64 t.facts, .slice at_ t.init.length ct, .slice at_2 t.goal.length ct2, .slice at_3 t.ops.length ct3], .slice as_ s_.length cs_, .slice aplan plan.length cplan] w fun e w' => ∃ (z : Option Addr × Nat) (h1 : FH), e = .returned (.tuple #[.slice z.1 (sp_ends t s_ plan).1.length z.2, .bool (sp_ends t s_ plan).2]) ∧ FH.le h h1 ∧ (RSl h1 z.1 (sp_ends t s_ plan).1 ∧ (sp_ends t s_ plan).1.length ≤ z.2) ∧ SH (Kp.all w h) h1 w' [] :=
  (w_ends hs t at_ ct _q1 _q2 at_2 ct2 _q3 _q4 at_3 ct3 _q5 _q6 s_ as_ cs_ _q7 _q8 plan aplan cplan _q9 _q10 (fun r => r = sp_ends t s_ plan) (ok_ends t s_ plan hp)).mono fun _ _ ⟨r, z, h1, hk, he, hl, hf, hS⟩ => by subst hk; exact ⟨z, h1, he, hl, hf, hS⟩

theorem w_rworks {h : FH} {w : World} (hs : Sub h w) (t : Task) (at_ : Option Addr) (ct : Nat) (_q1 : RSl h at_ t.init) (_q2 : t.init.length ≤ ct) (at_2 : Option Addr) (ct2 : Nat) (_q3 : RSl h at_2 t.goal) (_q4 : t.goal.length ≤ ct2) (at_3 : Option Addr) (ct3 : Nat) (_q5 : RSl h at_3 t.ops) (_q6 : t.ops.length ≤ ct3) (s_ : List Int) (as_ : Option Addr) (cs_ : Nat) (_q7 : RSl h as_ s_) (_q8 : s_.length ≤ cs_) (plan : List Int) (aplan : Option Addr) (cplan : Nat) (_q9 : RSl h aplan plan) (_q10 : plan.length ≤ cplan) (K : Bool → Prop) (hF : F_rworks t s_ plan K) : Calls Try.prog 57 #[.agg #[.int .i64 t.facts, .slice at_ t.init.length ct, .slice at_2 t.goal.length ct2, .slice at_3 t.ops.length ct3], .slice as_ s_.length cs_, .slice aplan plan.length cplan] w fun e w' => ∃ r : Bool, K r ∧ e = .returned (.bool r) ∧ Below w.heap.size w w' := by
  refine enter (args := [.agg #[.int .i64 t.facts, .slice at_ t.init.length ct, .slice at_2 t.goal.length ct2, .slice at_3 t.ops.length ct3], .slice as_ s_.length cs_, .slice aplan plan.length cplan]) Try.func57 rfl Try.ntmps57 rfl hs ?_
  refine .seq ?_
  refine .region ?_
  refine bx (vs := [.int .i64 t.facts, .slice at_ t.init.length ct, .slice at_2 t.goal.length ct2, .slice at_3 t.ops.length ct3]) rfl rfl rfl (fun pt => ?_)
  refine .v (asg rfl) rfl rfl rfl ?_
  refine .nil ?_
  refine .seqN ?_
  refine .seq ?_
  refine .region ?_
  refine .v (ldA (cs := [.int .i64 t.facts, .slice at_ t.init.length ct, .slice at_2 t.goal.length ct2, .slice at_3 t.ops.length ct3]) rfl tA25 rfl (cellsB (off := 0) (k := 0) rfl (m := 4) rfl)) rfl rfl rfl ?_
  refine .v (mv rfl) rfl rfl rfl ?_
  refine .v (mv rfl) rfl rfl rfl ?_
  obtain ⟨q11, hF⟩ := hF
  obtain ⟨r2, q12⟩ : ∃ y_ : List Int × Bool, y_ = sp_ends t s_ plan := ⟨_, rfl⟩
  replace hF := hF r2 q12
  refine clR (α := Option Addr × Nat) (Φ := fun h1 z => RSl h1 z.1 r2.1 ∧ r2.1.length ≤ z.2) (V := fun z => .tuple #[.slice z.1 r2.1.length z.2, .bool r2.2]) Try.call84 rfl rfl (fun w S => (by rw [q12]; exact c_ends S.sub t at_ ct _q1 _q2 at_2 ct2 _q3 _q4 at_3 ct3 _q5 _q6 s_ as_ cs_ _q7 _q8 plan aplan cplan _q9 _q10 q11)) rfl (fun z h1 le1 hz => ?_)
  obtain ⟨a, c⟩ := z
  obtain ⟨q13, q14⟩ := hz
  refine .v (mv rfl) rfl rfl rfl ?_
  refine .v (ext rfl rfl) rfl rfl rfl ?_
  refine .v (ext rfl rfl) rfl rfl rfl ?_
  refine .v (asg rfl) rfl rfl rfl ?_
  refine .v (asg rfl) rfl rfl rfl ?_
  refine .nil ?_
  refine .seqN ?_
  refine .seq ?_
  refine .region ?_
  refine .v (mv rfl) rfl rfl rfl ?_
  refine .v (mv rfl) rfl rfl rfl ?_
  rcases Bool.eq_false_or_eq_true (r2.2) with q18 | q18
  · replace hF := hF.1 q18
    refine .gv (fa rfl tF25_2) rfl rfl rfl q18 rfl rfl ?_
    refine .gv (ld1 rfl tO22 (cellB (off := 2) (k := 0) rfl rfl)) rfl rfl rfl q18 rfl rfl ?_
    refine .gv (mv rfl) rfl rfl rfl q18 rfl rfl ?_
    obtain ⟨q19, hF⟩ := hF
    obtain ⟨r3, q20⟩ : ∃ y_ : Bool, y_ = sp_subset t.goal r2.1 := ⟨_, rfl⟩
    replace hF := hF r3 q20
    refine .gc (cl (v := .bool r3) Try.call68 rfl rfl (fun w S => (by rw [q20]; exact c_subset S.sub t.goal at_2 ct2 (_q3.mono (le1)) _q4 r2.1 a c q13 q14 q19))) rfl rfl rfl q18 rfl rfl ?_
    refine .v (pkT rfl q18 rfl) rfl rfl rfl ?_
    refine .v (asg rfl) rfl rfl rfl ?_
    refine .nil ?_
    refine .seqN ?_
    refine .ret ?_
    refine .res1 rfl (rvT rfl) (fun w' S => ⟨r3, hF, rfl, S.below⟩)
  replace hF := hF.2 q18
  refine .gS rfl rfl rfl q18 rfl rfl ?_
  refine .gS rfl rfl rfl q18 rfl rfl ?_
  refine .gS rfl rfl rfl q18 rfl rfl ?_
  refine .gS rfl rfl rfl q18 rfl rfl ?_
  refine .v (pkF rfl q18 rfl) rfl rfl rfl ?_
  refine .v (asg rfl) rfl rfl rfl ?_
  refine .nil ?_
  refine .seqN ?_
  refine .ret ?_
  refine .res1 rfl (rvT rfl) (fun w' S => ⟨false, hF, rfl, S.below⟩)

theorem c_rworks {h : FH} {w : World} (hs : Sub h w) (t : Task) (at_ : Option Addr) (ct : Nat) (_q1 : RSl h at_ t.init) (_q2 : t.init.length ≤ ct) (at_2 : Option Addr) (ct2 : Nat) (_q3 : RSl h at_2 t.goal) (_q4 : t.goal.length ≤ ct2) (at_3 : Option Addr) (ct3 : Nat) (_q5 : RSl h at_3 t.ops) (_q6 : t.ops.length ≤ ct3) (s_ : List Int) (as_ : Option Addr) (cs_ : Nat) (_q7 : RSl h as_ s_) (_q8 : s_.length ≤ cs_) (plan : List Int) (aplan : Option Addr) (cplan : Nat) (_q9 : RSl h aplan plan) (_q10 : plan.length ≤ cplan) (hp : pre_rworks t s_ plan) : Calls Try.prog 57 #[.agg #[.int .i64 t.facts, .slice at_ t.init.length ct, .slice at_2 t.goal.length ct2, .slice at_3 t.ops.length ct3], .slice as_ s_.length cs_, .slice aplan plan.length cplan] w fun e w' => e = .returned (.bool (sp_rworks t s_ plan)) ∧ Below w.heap.size w w' :=
  (w_rworks hs t at_ ct _q1 _q2 at_2 ct2 _q3 _q4 at_3 ct3 _q5 _q6 s_ as_ cs_ _q7 _q8 plan aplan cplan _q9 _q10 (fun r => r = sp_rworks t s_ plan) (ok_rworks t s_ plan hp)).mono fun _ _ ⟨_, hk, he, hb⟩ => ⟨by rw [he, hk], hb⟩

theorem w_rsolves {h : FH} {w : World} (hs : Sub h w) (t : Task) (at_ : Option Addr) (ct : Nat) (_q1 : RSl h at_ t.init) (_q2 : t.init.length ≤ ct) (at_2 : Option Addr) (ct2 : Nat) (_q3 : RSl h at_2 t.goal) (_q4 : t.goal.length ≤ ct2) (at_3 : Option Addr) (ct3 : Nat) (_q5 : RSl h at_3 t.ops) (_q6 : t.ops.length ≤ ct3) (plan : List Int) (aplan : Option Addr) (cplan : Nat) (_q7 : RSl h aplan plan) (_q8 : plan.length ≤ cplan) (K : Bool → Prop) (hF : F_rsolves t plan K) : Calls Try.prog 28 #[.agg #[.int .i64 t.facts, .slice at_ t.init.length ct, .slice at_2 t.goal.length ct2, .slice at_3 t.ops.length ct3], .slice aplan plan.length cplan] w fun e w' => ∃ r : Bool, K r ∧ e = .returned (.bool r) ∧ Below w.heap.size w w' := by
  refine enter (args := [.agg #[.int .i64 t.facts, .slice at_ t.init.length ct, .slice at_2 t.goal.length ct2, .slice at_3 t.ops.length ct3], .slice aplan plan.length cplan]) Try.func28 rfl Try.ntmps28 rfl hs ?_
  refine .seq ?_
  refine .region ?_
  refine bx (vs := [.int .i64 t.facts, .slice at_ t.init.length ct, .slice at_2 t.goal.length ct2, .slice at_3 t.ops.length ct3]) rfl rfl rfl (fun pt => ?_)
  refine .v (asg rfl) rfl rfl rfl ?_
  refine .nil ?_
  refine .seqN ?_
  refine .seq ?_
  refine .region ?_
  refine .v (ldA (cs := [.int .i64 t.facts, .slice at_ t.init.length ct, .slice at_2 t.goal.length ct2, .slice at_3 t.ops.length ct3]) rfl tA25 rfl (cellsB (off := 0) (k := 0) rfl (m := 4) rfl)) rfl rfl rfl ?_
  refine .v (fa rfl tF25_1) rfl rfl rfl ?_
  refine .v (ld1 rfl tO22 (cellB (off := 1) (k := 0) rfl rfl)) rfl rfl rfl ?_
  refine .v (mv rfl) rfl rfl rfl ?_
  obtain ⟨q9, hF⟩ := hF
  obtain ⟨r2, q10⟩ : ∃ y_ : Bool, y_ = sp_rworks t t.init plan := ⟨_, rfl⟩
  replace hF := hF r2 q10
  refine .c (cl (v := .bool r2) Try.call57 rfl rfl (fun w S => (by rw [q10]; exact c_rworks S.sub t at_ ct _q1 _q2 at_2 ct2 _q3 _q4 at_3 ct3 _q5 _q6 t.init at_ ct _q1 _q2 plan aplan cplan _q7 _q8 q9))) rfl rfl rfl ?_
  refine .v (asg rfl) rfl rfl rfl ?_
  refine .nil ?_
  refine .seqN ?_
  refine .ret ?_
  refine .res1 rfl (rvT rfl) (fun w' S => ⟨r2, hF, rfl, S.below⟩)

theorem c_rsolves {h : FH} {w : World} (hs : Sub h w) (t : Task) (at_ : Option Addr) (ct : Nat) (_q1 : RSl h at_ t.init) (_q2 : t.init.length ≤ ct) (at_2 : Option Addr) (ct2 : Nat) (_q3 : RSl h at_2 t.goal) (_q4 : t.goal.length ≤ ct2) (at_3 : Option Addr) (ct3 : Nat) (_q5 : RSl h at_3 t.ops) (_q6 : t.ops.length ≤ ct3) (plan : List Int) (aplan : Option Addr) (cplan : Nat) (_q7 : RSl h aplan plan) (_q8 : plan.length ≤ cplan) (hp : pre_rsolves t plan) : Calls Try.prog 28 #[.agg #[.int .i64 t.facts, .slice at_ t.init.length ct, .slice at_2 t.goal.length ct2, .slice at_3 t.ops.length ct3], .slice aplan plan.length cplan] w fun e w' => e = .returned (.bool (sp_rsolves t plan)) ∧ Below w.heap.size w w' :=
  (w_rsolves hs t at_ ct _q1 _q2 at_2 ct2 _q3 _q4 at_3 ct3 _q5 _q6 plan aplan cplan _q7 _q8 (fun r => r = sp_rsolves t plan) (ok_rsolves t plan hp)).mono fun _ _ ⟨_, hk, he, hb⟩ => ⟨by rw [he, hk], hb⟩

set_option maxHeartbeats 8000000 in
theorem w_allWork {h : FH} {w : World} (hs : Sub h w) (t : Task) (at_ : Option Addr) (ct : Nat) (_q1 : RSl h at_ t.init) (_q2 : t.init.length ≤ ct) (at_2 : Option Addr) (ct2 : Nat) (_q3 : RSl h at_2 t.goal) (_q4 : t.goal.length ≤ ct2) (at_3 : Option Addr) (ct3 : Nat) (_q5 : RSl h at_3 t.ops) (_q6 : t.ops.length ≤ ct3) (steps : List Int) (asteps : Option Addr) (csteps : Nat) (_q7 : RSl h asteps steps) (_q8 : steps.length ≤ csteps) (before : List (Int × Int)) (abefore : Option Addr) (cbefore : Nat) (_q9 : RSl h abefore before) (_q10 : before.length ≤ cbefore) (K : Bool → Prop) (hF : F_allWork t steps before K) : Calls Try.prog 24 #[.agg #[.int .i64 t.facts, .slice at_ t.init.length ct, .slice at_2 t.goal.length ct2, .slice at_3 t.ops.length ct3], .slice asteps steps.length csteps, .slice abefore before.length cbefore] w fun e w' => ∃ r : Bool, K r ∧ e = .returned (.bool r) ∧ Below w.heap.size w w' := by
  refine enter (args := [.agg #[.int .i64 t.facts, .slice at_ t.init.length ct, .slice at_2 t.goal.length ct2, .slice at_3 t.ops.length ct3], .slice asteps steps.length csteps, .slice abefore before.length cbefore]) Try.func24 rfl Try.ntmps24 rfl hs ?_
  refine .seq ?_
  refine .region ?_
  refine bx (vs := [.int .i64 t.facts, .slice at_ t.init.length ct, .slice at_2 t.goal.length ct2, .slice at_3 t.ops.length ct3]) rfl rfl rfl (fun pt => ?_)
  refine .v (asg rfl) rfl rfl rfl ?_
  refine .nil ?_
  refine .seqN ?_
  refine .seq ?_
  refine .region ?_
  refine .v (mv rfl) rfl rfl rfl ?_
  refine .v (ln rfl tS22.is) rfl rfl rfl ?_
  refine .v (mv rfl) rfl rfl rfl ?_
  obtain ⟨q11, hF⟩ := hF
  obtain ⟨r2, q12⟩ : ∃ y_ : List (List Int), y_ = sp_orders ((steps.length : Nat) : Int) before [] := ⟨_, rfl⟩
  replace hF := hF r2 q12
  refine clR (α := Option Addr × Nat) (Φ := fun h1 z => RSl h1 z.1 r2 ∧ r2.length ≤ z.2) (V := fun z => .slice z.1 r2.length z.2) Try.call21 rfl rfl (fun w S => (by rw [q12]; exact c_orders S.sub ((steps.length : Nat) : Int) before abefore cbefore _q9 _q10 [] none 0 RSl.nil_ (Nat.le_refl 0) q11)) rfl (fun z h1 le1 hz => ?_)
  obtain ⟨a, c⟩ := z
  obtain ⟨q13, q14⟩ := hz
  refine .v (asg rfl) rfl rfl rfl ?_
  refine .nil ?_
  refine .seqN ?_
  refine .seq ?_
  refine .seq ?_
  refine .region ?_
  refine .v (asg rfl) rfl rfl rfl ?_
  refine .nil ?_
  refine .seqN ?_
  refine .block ?_
  obtain ⟨I1, μ1, q2742, q2743⟩ := hF
  refine .loop' (σ := Int) (fun z => I1 z) (fun z => μ1 z) (fun z => [(1, .slice asteps steps.length csteps), (3, .pointer (some pt)), (7, .slice a r2.length c), (8, .int .i64 z)]) (fun _ => [Box pt [.int .i64 t.facts, .slice at_ t.init.length ct, .slice at_2 t.goal.length ct2, .slice at_3 t.ops.length ct3]]) (fun _ => h1) 0 q2742 (.cons rfl (.cons rfl (.cons rfl (.cons rfl (.nil))))) rfl (FH.le_refl _) ?_
  rintro k q2742
  have hF := q2743 k q2742
  show J _ _ _ _ _ [(1, .slice asteps steps.length csteps), (3, .pointer (some pt)), (7, .slice a r2.length c), (8, .int .i64 k)] [Box pt [.int .i64 t.facts, .slice at_ t.init.length ct, .slice at_2 t.goal.length ct2, .slice at_3 t.ops.length ct3]] h1
  refine .seq ?_
  refine .seq ?_
  refine .region ?_
  refine .v (mv rfl) rfl rfl rfl ?_
  refine .v (mv rfl) rfl rfl rfl ?_
  refine .v (ln rfl tS36.is) rfl rfl rfl ?_
  refine .v (bi rfl rfl rfl) rfl rfl rfl ?_
  refine .nil ?_
  refine .seqN ?_
  refine .cond rfl (fun q2745 => ?_) (fun q2745 => ?_)
  · replace hF := hF.1 q2745
    refine .skip ?_
    refine .seqN ?_
    refine .seq ?_
    refine .block ?_
    refine .seq ?_
    refine .region ?_
    refine .v (asg rfl) rfl rfl rfl ?_
    refine .nil ?_
    refine .seqN ?_
    refine .seq ?_
    refine .seq ?_
    refine .region ?_
    refine .v (asg rfl) rfl rfl rfl ?_
    refine .nil ?_
    refine .seqN ?_
    refine .block ?_
    refine .nilSl 3 1 ?_
    refine .cast (A' := [OwnSl 3 1 none (([] : List Int).length) 0 (flL ([] : List Int)), Box pt [.int .i64 t.facts, .slice at_ t.init.length ct, .slice at_2 t.goal.length ct2, .slice at_3 t.ops.length ct3]]) rfl ?_
    refine .sel0 [1, 0] (by decide) rfl ?_
    obtain ⟨I2, μ2, q3255, q3256⟩ := hF
    refine .loop' (σ := Int × List Int × Option Addr × Nat) (fun z => I2 z.1 z.2.1) (fun z => μ2 z.1 z.2.1) (fun z => [(1, .slice asteps steps.length csteps), (3, .pointer (some pt)), (7, .slice a r2.length c), (8, .int .i64 k), (9, .slice z.2.2.1 z.2.1.length z.2.2.2), (10, .int .i64 z.1)]) (fun z => [Box pt [.int .i64 t.facts, .slice at_ t.init.length ct, .slice at_2 t.goal.length ct2, .slice at_3 t.ops.length ct3], OwnSl 3 1 z.2.2.1 z.2.1.length z.2.2.2 (flL z.2.1)]) (fun _ => h1) (0, ([] : List Int), none, 0) q3255 (.cons rfl (.cons rfl (.cons rfl (.cons rfl (.cons rfl (.cons rfl (.nil))))))) rfl (FH.le_refl _) ?_
    rintro ⟨i, plan, aplan, cplan⟩ q3255
    have hF := q3256 i plan q3255
    show J _ _ _ _ _ [(1, .slice asteps steps.length csteps), (3, .pointer (some pt)), (7, .slice a r2.length c), (8, .int .i64 k), (9, .slice aplan plan.length cplan), (10, .int .i64 i)] [Box pt [.int .i64 t.facts, .slice at_ t.init.length ct, .slice at_2 t.goal.length ct2, .slice at_3 t.ops.length ct3], OwnSl 3 1 aplan plan.length cplan (flL plan)] h1
    refine .seq ?_
    refine .seq ?_
    refine .region ?_
    refine .v (mv rfl) rfl rfl rfl ?_
    refine .v (mv rfl) rfl rfl rfl ?_
    refine .v (ln rfl tS22.is) rfl rfl rfl ?_
    refine .v (bi rfl rfl rfl) rfl rfl rfl ?_
    refine .nil ?_
    refine .seqN ?_
    refine .cond rfl (fun q3258 => ?_) (fun q3258 => ?_)
    · replace hF := hF.1 q3258
      refine .skip ?_
      refine .seqN ?_
      refine .seq ?_
      refine .block ?_
      refine .region ?_
      refine .v (mv rfl) rfl rfl rfl ?_
      refine .v (mv rfl) rfl rfl rfl ?_
      refine .v (mv rfl) rfl rfl rfl ?_
      refine .v (mv rfl) rfl rfl rfl ?_
      obtain ⟨q3277, hF⟩ := hF
      refine .v (ix rfl rfl tS36 (q13.ne (by decide) (inb_pos q3277)) q3277) rfl rfl rfl ?_
      obtain ⟨_, ⟨a2, c2, rfl, q3278, q3279⟩, q3280⟩ := q13.elem q3277
      refine .v (ld1 (v := .slice a2 ((gt r2 k).length) c2) rfl tO22 (cellH (q3280 (by decide) 0 _ rfl))) rfl rfl rfl ?_
      refine .v (mv rfl) rfl rfl rfl ?_
      obtain ⟨q3281, hF⟩ := hF
      refine .v (ix rfl rfl tS22 (q3279.ne (by decide) (inb_pos q3281)) q3281) rfl rfl rfl ?_
      refine .v (ld1 (v := .int .i64 (gt (gt r2 k) i)) rfl tO3 (cellH (q3279.elemF q3281 (by decide) 0 _ rfl))) rfl rfl rfl ?_
      obtain ⟨q3282, hF⟩ := hF
      refine .v (ix rfl rfl tS22 (_q7.ne (by decide) (inb_pos q3282)) q3282) rfl rfl rfl ?_
      refine .v (ld1 (v := .int .i64 (gt steps (gt (gt r2 k) i))) rfl tO3 (cellH ((_q7.mono (le1)).elemF q3282 (by decide) 0 _ rfl))) rfl rfl rfl ?_
      refine bs2 (cs := #[.int .i64 (gt steps (gt (gt r2 k) i))]) (pv := [(0, .int .i64 (gt steps (gt (gt r2 k) i)))]) tS22 rfl rfl (by decide) (by decide) rfl rfl rfl (fun a3 _ => ?_)
      refine .cast (A' := [OwnSl 3 1 a3 (([(gt steps (gt (gt r2 k) i))] : List Int).length) 1 (flL ([(gt steps (gt (gt r2 k) i))] : List Int)), Box pt [.int .i64 t.facts, .slice at_ t.init.length ct, .slice at_2 t.goal.length ct2, .slice at_3 t.ops.length ct3], OwnSl 3 1 aplan plan.length cplan (flL plan)]) rfl ?_
      obtain ⟨q3284, hF⟩ := hF
      have q3285 : plan.length + ([(gt steps (gt (gt r2 k) i))] : List Int).length = ((plan ++ ([(gt steps (gt (gt r2 k) i))] : List Int))).length := len_app rfl rfl
      refine app (k := 2) (news := flL ([(gt steps (gt (gt r2 k) i))] : List Int)) (cs' := flL (plan ++ ([(gt steps (gt (gt r2 k) i))] : List Int))) (nm := ((plan ++ ([(gt steps (gt (gt r2 k) i))] : List Int))).length) tS22 rfl (by decide) rfl rfl rfl (by rw [flL_len]; rfl) (srcS (k := 0) rfl) (flL_one _) (room_of q3285 q3284).1 (room_of q3285 q3284).2 q3285 (flL_append _ _).symm rfl (fun a4 c3 => ?_)
      refine .cast (A' := [OwnSl 3 1 a3 (([(gt steps (gt (gt r2 k) i))] : List Int).length) 1 (flL ([(gt steps (gt (gt r2 k) i))] : List Int)), Box pt [.int .i64 t.facts, .slice at_ t.init.length ct, .slice at_2 t.goal.length ct2, .slice at_3 t.ops.length ct3], OwnSl 3 1 a4 ((plan ++ ([(gt steps (gt (gt r2 k) i))] : List Int)).length) c3 (flL (plan ++ ([(gt steps (gt (gt r2 k) i))] : List Int)))]) rfl ?_
      refine .v (asg rfl) rfl rfl rfl ?_
      refine .nil ?_
      refine .blkN ?_
      refine .seqN ?_
      refine .region ?_
      refine .v (mv rfl) rfl rfl rfl ?_
      refine .v (bi rfl rfl rfl) rfl rfl rfl ?_
      refine .v (asg rfl) rfl rfl rfl ?_
      refine .nil ?_
      refine .sel0 [1, 2] (by decide) rfl ?_
      exact .round (IntKind.i64.wrap (i + 1), (plan ++ ([(gt steps (gt (gt r2 k) i))] : List Int)), a4, c3) hF.1 hF.2 (.cons rfl (.cons rfl (.cons rfl (.cons rfl (.cons rfl (.cons rfl (.nil))))))) rfl (FH.le_refl _)
    replace hF := hF.2 q3258
    refine .exit ?_
    refine .seqX ?_
    refine .seqX ?_
    refine .blkX ?_
    refine .seqN ?_
    refine .seq ?_
    refine .region ?_
    refine .v (ldA (cs := [.int .i64 t.facts, .slice at_ t.init.length ct, .slice at_2 t.goal.length ct2, .slice at_3 t.ops.length ct3]) rfl tA25 rfl (cellsB (off := 0) (k := 0) rfl (m := 4) rfl)) rfl rfl rfl ?_
    refine .v (mv rfl) rfl rfl rfl ?_
    obtain ⟨q3286, hF⟩ := hF
    obtain ⟨r3, q3287⟩ : ∃ y_ : Bool, y_ = sp_rsolves t plan := ⟨_, rfl⟩
    replace hF := hF r3 q3287
    refine .c (cl (v := .bool r3) Try.call28 rfl rfl (fun w S => (by rw [q3287]; obtain ⟨h_, hl_, hs_, hne_, hr_⟩ := look S (k := 1) rfl; exact c_rsolves hs_ t at_ ct (RSl.mono hl_ (_q1.mono (le1))) _q2 at_2 ct2 (RSl.mono hl_ (_q3.mono (le1))) _q4 at_3 ct3 (RSl.mono hl_ (_q5.mono (le1))) _q6 plan aplan cplan (RSl.of hr_) (look_len S (k := 1) rfl) q3286))) rfl rfl rfl ?_
    refine .v (nt rfl) rfl rfl rfl ?_
    refine .nil ?_
    refine .seqN ?_
    refine .cond rfl (fun q3288 => ?_) (fun q3288 => ?_)
    · replace hF := hF.1 q3288
      refine .seq ?_
      refine .region ?_
      refine .v (asg rfl) rfl rfl rfl ?_
      refine .nil ?_
      refine .seqN ?_
      refine .ret ?_
      refine .blkR ?_
      refine .seqR ?_
      refine .seqR ?_
      refine .blkR ?_
      refine .seqR ?_
      refine .res1 rfl (rvT rfl) (fun w' S => ⟨false, hF, rfl, S.below⟩)
    replace hF := hF.2 q3288
    refine .skip ?_
    refine .blkN ?_
    refine .seqN ?_
    refine .region ?_
    refine .v (mv rfl) rfl rfl rfl ?_
    refine .v (bi rfl rfl rfl) rfl rfl rfl ?_
    refine .v (asg rfl) rfl rfl rfl ?_
    refine .nil ?_
    refine .sel0 [0] (by decide) rfl ?_
    exact .round (IntKind.i64.wrap (k + 1)) hF.1 hF.2 (.cons rfl (.cons rfl (.cons rfl (.cons rfl (.nil))))) rfl (FH.le_refl _)
  replace hF := hF.2 q2745
  refine .exit ?_
  refine .seqX ?_
  refine .seqX ?_
  refine .blkX ?_
  refine .seqN ?_
  refine .seq ?_
  refine .region ?_
  refine .v (asg rfl) rfl rfl rfl ?_
  refine .nil ?_
  refine .seqN ?_
  refine .ret ?_
  refine .res1 rfl (rvT rfl) (fun w' S => ⟨true, hF, rfl, S.below⟩)

theorem c_allWork {h : FH} {w : World} (hs : Sub h w) (t : Task) (at_ : Option Addr) (ct : Nat) (_q1 : RSl h at_ t.init) (_q2 : t.init.length ≤ ct) (at_2 : Option Addr) (ct2 : Nat) (_q3 : RSl h at_2 t.goal) (_q4 : t.goal.length ≤ ct2) (at_3 : Option Addr) (ct3 : Nat) (_q5 : RSl h at_3 t.ops) (_q6 : t.ops.length ≤ ct3) (steps : List Int) (asteps : Option Addr) (csteps : Nat) (_q7 : RSl h asteps steps) (_q8 : steps.length ≤ csteps) (before : List (Int × Int)) (abefore : Option Addr) (cbefore : Nat) (_q9 : RSl h abefore before) (_q10 : before.length ≤ cbefore) (hp : pre_allWork t steps before) : Calls Try.prog 24 #[.agg #[.int .i64 t.facts, .slice at_ t.init.length ct, .slice at_2 t.goal.length ct2, .slice at_3 t.ops.length ct3], .slice asteps steps.length csteps, .slice abefore before.length cbefore] w fun e w' => e = .returned (.bool (sp_allWork t steps before)) ∧ Below w.heap.size w w' :=
  (w_allWork hs t at_ ct _q1 _q2 at_2 ct2 _q3 _q4 at_3 ct3 _q5 _q6 steps asteps csteps _q7 _q8 before abefore cbefore _q9 _q10 (fun r => r = sp_allWork t steps before) (ok_allWork t steps before hp)).mono fun _ _ ⟨_, hk, he, hb⟩ => ⟨by rw [he, hk], hb⟩

theorem w_lawCheck {h : FH} {w : World} (hs : Sub h w) (t : Task) (at_ : Option Addr) (ct : Nat) (_q1 : RSl h at_ t.init) (_q2 : t.init.length ≤ ct) (at_2 : Option Addr) (ct2 : Nat) (_q3 : RSl h at_2 t.goal) (_q4 : t.goal.length ≤ ct2) (at_3 : Option Addr) (ct3 : Nat) (_q5 : RSl h at_3 t.ops) (_q6 : t.ops.length ≤ ct3) (steps : List Int) (asteps : Option Addr) (csteps : Nat) (_q7 : RSl h asteps steps) (_q8 : steps.length ≤ csteps) (before : List (Int × Int)) (abefore : Option Addr) (cbefore : Nat) (_q9 : RSl h abefore before) (_q10 : before.length ≤ cbefore) (K : Bool → Prop) (hF : F_lawCheck t steps before K) : Calls Try.prog 4 #[.agg #[.int .i64 t.facts, .slice at_ t.init.length ct, .slice at_2 t.goal.length ct2, .slice at_3 t.ops.length ct3], .slice asteps steps.length csteps, .slice abefore before.length cbefore] w fun e w' => ∃ r : Bool, K r ∧ e = .returned (.bool r) ∧ Below w.heap.size w w' := by
  refine enter (args := [.agg #[.int .i64 t.facts, .slice at_ t.init.length ct, .slice at_2 t.goal.length ct2, .slice at_3 t.ops.length ct3], .slice asteps steps.length csteps, .slice abefore before.length cbefore]) Try.func4 rfl Try.ntmps4 rfl hs ?_
  refine .seq ?_
  refine .region ?_
  refine bx (vs := [.int .i64 t.facts, .slice at_ t.init.length ct, .slice at_2 t.goal.length ct2, .slice at_3 t.ops.length ct3]) rfl rfl rfl (fun pt => ?_)
  refine .v (asg rfl) rfl rfl rfl ?_
  refine .nil ?_
  refine .seqN ?_
  refine .seq ?_
  refine .region ?_
  refine .v (ldA (cs := [.int .i64 t.facts, .slice at_ t.init.length ct, .slice at_2 t.goal.length ct2, .slice at_3 t.ops.length ct3]) rfl tA25 rfl (cellsB (off := 0) (k := 0) rfl (m := 4) rfl)) rfl rfl rfl ?_
  refine .v (mv rfl) rfl rfl rfl ?_
  refine .v (mv rfl) rfl rfl rfl ?_
  obtain ⟨r2, q11⟩ : ∃ y_ : Bool × Fault, y_ = sp_pcheck t steps before := ⟨_, rfl⟩
  replace hF := hF r2 q11
  refine .c (cl (v := .tuple #[.bool r2.1, .agg #[.int .i64 r2.2.code, .int .i64 r2.2.index]]) Try.call23 rfl rfl (fun w S => (by rw [q11]; exact c_pcheck S.sub t at_ ct _q1 _q2 at_2 ct2 _q3 _q4 at_3 ct3 _q5 _q6 steps asteps csteps _q7 _q8 before abefore cbefore _q9 _q10 ))) rfl rfl rfl ?_
  refine .v (mv rfl) rfl rfl rfl ?_
  refine .v (ext rfl rfl) rfl rfl rfl ?_
  refine .v (ext rfl rfl) rfl rfl rfl ?_
  refine al tZ28 rfl (fun pf => ?_)
  refine .v (asg rfl) rfl rfl rfl ?_
  refine st (p := pf) (off := 0) (k := 0) (vs := [.int .i64 r2.2.code, .int .i64 r2.2.index]) rfl rfl rfl (fun w => (tA28 w).2) rfl rfl rfl rfl ?_
  refine .cast (A' := [Box pf [.int .i64 r2.2.code, .int .i64 r2.2.index], Box pt [.int .i64 t.facts, .slice at_ t.init.length ct, .slice at_2 t.goal.length ct2, .slice at_3 t.ops.length ct3]]) rfl ?_
  refine .nil ?_
  refine .seqN ?_
  refine .seq ?_
  refine .region ?_
  refine .v (ldA (cs := [.int .i64 t.facts, .slice at_ t.init.length ct, .slice at_2 t.goal.length ct2, .slice at_3 t.ops.length ct3]) rfl tA25 rfl (cellsB (off := 0) (k := 1) rfl (m := 4) rfl)) rfl rfl rfl ?_
  refine .v (mv rfl) rfl rfl rfl ?_
  refine .v (mv rfl) rfl rfl rfl ?_
  obtain ⟨r3, q12⟩ : ∃ y_ : Fault, y_ = sp_pvalidate t steps before := ⟨_, rfl⟩
  replace hF := hF r3 q12
  refine .c (cl (v := .agg #[.int .i64 r3.code, .int .i64 r3.index]) Try.call19 rfl rfl (fun w S => (by rw [q12]; exact c_partialFault S.sub t at_ ct _q1 _q2 at_2 ct2 _q3 _q4 at_3 ct3 _q5 _q6 steps asteps csteps _q7 _q8 before abefore cbefore _q9 _q10 ))) rfl rfl rfl ?_
  refine al tZ28 rfl (fun pe => ?_)
  refine st (p := pe) (off := 0) (k := 0) (vs := [.int .i64 r3.code, .int .i64 r3.index]) rfl rfl rfl (fun w => (tA28 w).2) rfl rfl rfl rfl ?_
  refine .cast (A' := [Box pe [.int .i64 r3.code, .int .i64 r3.index], Box pf [.int .i64 r2.2.code, .int .i64 r2.2.index], Box pt [.int .i64 t.facts, .slice at_ t.init.length ct, .slice at_2 t.goal.length ct2, .slice at_3 t.ops.length ct3]]) rfl ?_
  refine .nil ?_
  refine .seqN ?_
  refine .seq ?_
  refine .seq ?_
  refine .region ?_
  refine .v (fa rfl tF28_0) rfl rfl rfl ?_
  refine .v (ld1 rfl tO3 (cellB (off := 0) (k := 0) rfl rfl)) rfl rfl rfl ?_
  refine .v (bi rfl rfl rfl) rfl rfl rfl ?_
  refine .nil ?_
  refine .seqN ?_
  refine .cond rfl (fun q20 => ?_) (fun q20 => ?_)
  · replace hF := hF.1 q20
    refine .seq ?_
    refine .region ?_
    refine .v (ldA (cs := [.int .i64 r2.2.code, .int .i64 r2.2.index]) rfl tA28 rfl (cellsB (off := 0) (k := 1) rfl (m := 2) rfl)) rfl rfl rfl ?_
    refine .v (ldA (cs := [.int .i64 r3.code, .int .i64 r3.index]) rfl tA28 rfl (cellsB (off := 0) (k := 0) rfl (m := 2) rfl)) rfl rfl rfl ?_
    refine .v (eq2 tE28 rfl rfl) rfl rfl rfl ?_
    refine .v (mv rfl) rfl rfl rfl ?_
    rcases Bool.eq_false_or_eq_true ((r2.2.code == r3.code) && (r2.2.index == r3.index)) with q24 | q24
    · replace hF := hF.1 q24
      refine .gv (mv rfl) rfl rfl rfl q24 rfl rfl ?_
      refine .gv (nt rfl) rfl rfl rfl q24 rfl rfl ?_
      refine .v (pkT rfl q24 rfl) rfl rfl rfl ?_
      refine .v (mv rfl) rfl rfl rfl ?_
      rcases Bool.eq_false_or_eq_true (!r2.1) with q25 | q25
      · replace hF := hF.1 q25
        obtain ⟨r4, q26⟩ : ∃ y_ : Bool, y_ = sp_counted := ⟨_, rfl⟩
        replace hF := hF r4 q26
        refine .gc (cl (v := .bool r4) Try.call20 rfl rfl (fun w S => (by rw [q26]; exact c_counted S.sub  ))) rfl rfl rfl q25 rfl rfl ?_
        refine .v (pkT rfl q25 rfl) rfl rfl rfl ?_
        refine .v (asg rfl) rfl rfl rfl ?_
        refine .nil ?_
        refine .seqN ?_
        refine .ret ?_
        refine .seqR ?_
        refine .res1 rfl (rvT rfl) (fun w' S => ⟨r4, hF, rfl, S.below⟩)
      replace hF := hF.2 q25
      refine .gS rfl rfl rfl q25 rfl rfl ?_
      refine .v (pkF rfl q25 rfl) rfl rfl rfl ?_
      refine .v (asg rfl) rfl rfl rfl ?_
      refine .nil ?_
      refine .seqN ?_
      refine .ret ?_
      refine .seqR ?_
      refine .res1 rfl (rvT rfl) (fun w' S => ⟨false, hF, rfl, S.below⟩)
    replace hF := hF.2 q24
    refine .gS rfl rfl rfl q24 rfl rfl ?_
    refine .gS rfl rfl rfl q24 rfl rfl ?_
    refine .v (pkF rfl q24 rfl) rfl rfl rfl ?_
    refine .v (mv rfl) rfl rfl rfl ?_
    refine .gS rfl rfl rfl rfl rfl rfl ?_
    refine .v (pkF rfl rfl rfl) rfl rfl rfl ?_
    refine .v (asg rfl) rfl rfl rfl ?_
    refine .nil ?_
    refine .seqN ?_
    refine .ret ?_
    refine .seqR ?_
    refine .res1 rfl (rvT rfl) (fun w' S => ⟨false, hF, rfl, S.below⟩)
  replace hF := hF.2 q20
  refine .skip ?_
  refine .seqN ?_
  refine .seq ?_
  refine .region ?_
  refine .v (fa rfl tF28_0) rfl rfl rfl ?_
  refine .v (ld1 rfl tO3 (cellB (off := 0) (k := 1) rfl rfl)) rfl rfl rfl ?_
  refine .v (bi rfl rfl rfl) rfl rfl rfl ?_
  refine .v (mv rfl) rfl rfl rfl ?_
  rcases Bool.eq_false_or_eq_true (r2.2.code == 0) with q32 | q32
  · replace hF := hF.1 q32
    refine .gv (mv rfl) rfl rfl rfl q32 rfl rfl ?_
    refine .gv (ldA (cs := [.int .i64 t.facts, .slice at_ t.init.length ct, .slice at_2 t.goal.length ct2, .slice at_3 t.ops.length ct3]) rfl tA25 rfl (cellsB (off := 0) (k := 2) rfl (m := 4) rfl)) rfl rfl rfl q32 rfl rfl ?_
    refine .gv (mv rfl) rfl rfl rfl q32 rfl rfl ?_
    refine .gv (mv rfl) rfl rfl rfl q32 rfl rfl ?_
    obtain ⟨q33, hF⟩ := hF
    obtain ⟨r5, q34⟩ : ∃ y_ : Bool, y_ = sp_allWork t steps before := ⟨_, rfl⟩
    replace hF := hF r5 q34
    refine .gc (cl (v := .bool r5) Try.call24 rfl rfl (fun w S => (by rw [q34]; exact c_allWork S.sub t at_ ct _q1 _q2 at_2 ct2 _q3 _q4 at_3 ct3 _q5 _q6 steps asteps csteps _q7 _q8 before abefore cbefore _q9 _q10 q33))) rfl rfl rfl q32 rfl rfl ?_
    refine .gv (beql Try.underlying4 rfl rfl) rfl rfl rfl q32 rfl rfl ?_
    refine .v (pkT rfl q32 rfl) rfl rfl rfl ?_
    refine .v (mv rfl) rfl rfl rfl ?_
    rcases Bool.eq_false_or_eq_true (r2.1 == r5) with q35 | q35
    · replace hF := hF.1 q35
      obtain ⟨r6, q36⟩ : ∃ y_ : Bool, y_ = sp_counted := ⟨_, rfl⟩
      replace hF := hF r6 q36
      refine .gc (cl (v := .bool r6) Try.call20 rfl rfl (fun w S => (by rw [q36]; exact c_counted S.sub  ))) rfl rfl rfl q35 rfl rfl ?_
      refine .v (pkT rfl q35 rfl) rfl rfl rfl ?_
      refine .v (asg rfl) rfl rfl rfl ?_
      refine .nil ?_
      refine .seqN ?_
      refine .ret ?_
      refine .res1 rfl (rvT rfl) (fun w' S => ⟨r6, hF, rfl, S.below⟩)
    replace hF := hF.2 q35
    refine .gS rfl rfl rfl q35 rfl rfl ?_
    refine .v (pkF rfl q35 rfl) rfl rfl rfl ?_
    refine .v (asg rfl) rfl rfl rfl ?_
    refine .nil ?_
    refine .seqN ?_
    refine .ret ?_
    refine .res1 rfl (rvT rfl) (fun w' S => ⟨false, hF, rfl, S.below⟩)
  replace hF := hF.2 q32
  refine .gS rfl rfl rfl q32 rfl rfl ?_
  refine .gS rfl rfl rfl q32 rfl rfl ?_
  refine .gS rfl rfl rfl q32 rfl rfl ?_
  refine .gS rfl rfl rfl q32 rfl rfl ?_
  refine .gS rfl rfl rfl q32 rfl rfl ?_
  refine .gS rfl rfl rfl q32 rfl rfl ?_
  refine .v (pkF rfl q32 rfl) rfl rfl rfl ?_
  refine .v (mv rfl) rfl rfl rfl ?_
  refine .gS rfl rfl rfl rfl rfl rfl ?_
  refine .v (pkF rfl rfl rfl) rfl rfl rfl ?_
  refine .v (asg rfl) rfl rfl rfl ?_
  refine .nil ?_
  refine .seqN ?_
  refine .ret ?_
  refine .res1 rfl (rvT rfl) (fun w' S => ⟨false, hF, rfl, S.below⟩)

theorem c_lawCheck {h : FH} {w : World} (hs : Sub h w) (t : Task) (at_ : Option Addr) (ct : Nat) (_q1 : RSl h at_ t.init) (_q2 : t.init.length ≤ ct) (at_2 : Option Addr) (ct2 : Nat) (_q3 : RSl h at_2 t.goal) (_q4 : t.goal.length ≤ ct2) (at_3 : Option Addr) (ct3 : Nat) (_q5 : RSl h at_3 t.ops) (_q6 : t.ops.length ≤ ct3) (steps : List Int) (asteps : Option Addr) (csteps : Nat) (_q7 : RSl h asteps steps) (_q8 : steps.length ≤ csteps) (before : List (Int × Int)) (abefore : Option Addr) (cbefore : Nat) (_q9 : RSl h abefore before) (_q10 : before.length ≤ cbefore) : Calls Try.prog 4 #[.agg #[.int .i64 t.facts, .slice at_ t.init.length ct, .slice at_2 t.goal.length ct2, .slice at_3 t.ops.length ct3], .slice asteps steps.length csteps, .slice abefore before.length cbefore] w fun e w' => e = .returned (.bool (sp_lawCheck t steps before)) ∧ Below w.heap.size w w' :=
  (w_lawCheck hs t at_ ct _q1 _q2 at_2 ct2 _q3 _q4 at_3 ct3 _q5 _q6 steps asteps csteps _q7 _q8 before abefore cbefore _q9 _q10 (fun r => r = sp_lawCheck t steps before) (ok_lawCheck t steps before)).mono fun _ _ ⟨_, hk, he, hb⟩ => ⟨by rw [he, hk], hb⟩

set_option maxHeartbeats 8000000 in
theorem w_lawMore {h : FH} {w : World} (hs : Sub h w) (t : Task) (at_ : Option Addr) (ct : Nat) (_q1 : RSl h at_ t.init) (_q2 : t.init.length ≤ ct) (at_2 : Option Addr) (ct2 : Nat) (_q3 : RSl h at_2 t.goal) (_q4 : t.goal.length ≤ ct2) (at_3 : Option Addr) (ct3 : Nat) (_q5 : RSl h at_3 t.ops) (_q6 : t.ops.length ≤ ct3) (steps : List Int) (asteps : Option Addr) (csteps : Nat) (_q7 : RSl h asteps steps) (_q8 : steps.length ≤ csteps) (before : List (Int × Int)) (abefore : Option Addr) (cbefore : Nat) (_q9 : RSl h abefore before) (_q10 : before.length ≤ cbefore) (b : Int × Int) (K : Bool → Prop) (hF : F_lawMore t steps before b K) : Calls Try.prog 5 #[.agg #[.int .i64 t.facts, .slice at_ t.init.length ct, .slice at_2 t.goal.length ct2, .slice at_3 t.ops.length ct3], .slice asteps steps.length csteps, .slice abefore before.length cbefore, .agg #[.int .i64 b.1, .int .i64 b.2]] w fun e w' => ∃ r : Bool, K r ∧ e = .returned (.bool r) ∧ Below w.heap.size w w' := by
  refine enter (args := [.agg #[.int .i64 t.facts, .slice at_ t.init.length ct, .slice at_2 t.goal.length ct2, .slice at_3 t.ops.length ct3], .slice asteps steps.length csteps, .slice abefore before.length cbefore, .agg #[.int .i64 b.1, .int .i64 b.2]]) Try.func5 rfl Try.ntmps5 rfl hs ?_
  refine .seq ?_
  refine .region ?_
  refine bx (vs := [.int .i64 t.facts, .slice at_ t.init.length ct, .slice at_2 t.goal.length ct2, .slice at_3 t.ops.length ct3]) rfl rfl rfl (fun pt => ?_)
  refine bx (vs := [.int .i64 b.1, .int .i64 b.2]) rfl rfl rfl (fun pb => ?_)
  refine .v (asg rfl) rfl rfl rfl ?_
  refine .nil ?_
  refine .seqN ?_
  refine .share (σ := Option Addr × Nat) (fun _ => F_lawMore_J1 t steps before b K) (fun z => [(1, .slice asteps steps.length csteps), (2, .slice abefore before.length cbefore), (4, .pointer (some pt)), (9, .slice z.1 (((([] : List (Int × Int)) ++ before) ++ ([b] : List (Int × Int))).length) z.2)]) (fun z => [Box pt [.int .i64 t.facts, .slice at_ t.init.length ct, .slice at_2 t.goal.length ct2, .slice at_3 t.ops.length ct3], OwnSl 43 2 z.1 (((([] : List (Int × Int)) ++ before) ++ ([b] : List (Int × Int))).length) z.2 (flL ((([] : List (Int × Int)) ++ before) ++ ([b] : List (Int × Int))))]) (fun _ => h) ?_ (fun q28 => ?_)
  · rintro ⟨amore, cmore⟩ hF
    show J _ _ _ _ _ [(1, .slice asteps steps.length csteps), (2, .slice abefore before.length cbefore), (4, .pointer (some pt)), (9, .slice amore (((([] : List (Int × Int)) ++ before) ++ ([b] : List (Int × Int))).length) cmore)] [Box pt [.int .i64 t.facts, .slice at_ t.init.length ct, .slice at_2 t.goal.length ct2, .slice at_3 t.ops.length ct3], OwnSl 43 2 amore (((([] : List (Int × Int)) ++ before) ++ ([b] : List (Int × Int))).length) cmore (flL ((([] : List (Int × Int)) ++ before) ++ ([b] : List (Int × Int))))] h
    refine .seq ?_
    refine .region ?_
    refine .v (ldA (cs := [.int .i64 t.facts, .slice at_ t.init.length ct, .slice at_2 t.goal.length ct2, .slice at_3 t.ops.length ct3]) rfl tA25 rfl (cellsB (off := 0) (k := 0) rfl (m := 4) rfl)) rfl rfl rfl ?_
    refine .v (mv rfl) rfl rfl rfl ?_
    refine .v (mv rfl) rfl rfl rfl ?_
    obtain ⟨r2, q29⟩ : ∃ y_ : Bool × Fault, y_ = sp_pcheck t steps before := ⟨_, rfl⟩
    replace hF := hF r2 q29
    refine .c (cl (v := .tuple #[.bool r2.1, .agg #[.int .i64 r2.2.code, .int .i64 r2.2.index]]) Try.call23 rfl rfl (fun w S => (by rw [q29]; exact c_pcheck S.sub t at_ ct _q1 _q2 at_2 ct2 _q3 _q4 at_3 ct3 _q5 _q6 steps asteps csteps _q7 _q8 before abefore cbefore _q9 _q10 ))) rfl rfl rfl ?_
    refine .v (mv rfl) rfl rfl rfl ?_
    refine .v (ext rfl rfl) rfl rfl rfl ?_
    refine .v (ext rfl rfl) rfl rfl rfl ?_
    refine al tZ28 rfl (fun pf => ?_)
    refine .v (asg rfl) rfl rfl rfl ?_
    refine st (p := pf) (off := 0) (k := 0) (vs := [.int .i64 r2.2.code, .int .i64 r2.2.index]) rfl rfl rfl (fun w => (tA28 w).2) rfl rfl rfl rfl ?_
    refine .cast (A' := [Box pf [.int .i64 r2.2.code, .int .i64 r2.2.index], Box pt [.int .i64 t.facts, .slice at_ t.init.length ct, .slice at_2 t.goal.length ct2, .slice at_3 t.ops.length ct3], OwnSl 43 2 amore (((([] : List (Int × Int)) ++ before) ++ ([b] : List (Int × Int))).length) cmore (flL ((([] : List (Int × Int)) ++ before) ++ ([b] : List (Int × Int))))]) rfl ?_
    refine .nil ?_
    refine .seqN ?_
    refine .seq ?_
    refine .region ?_
    refine .v (ldA (cs := [.int .i64 t.facts, .slice at_ t.init.length ct, .slice at_2 t.goal.length ct2, .slice at_3 t.ops.length ct3]) rfl tA25 rfl (cellsB (off := 0) (k := 1) rfl (m := 4) rfl)) rfl rfl rfl ?_
    refine .v (mv rfl) rfl rfl rfl ?_
    refine .v (mv rfl) rfl rfl rfl ?_
    obtain ⟨r3, q30⟩ : ∃ y_ : Bool × Fault, y_ = sp_pcheck t steps ((([] : List (Int × Int)) ++ before) ++ ([b] : List (Int × Int))) := ⟨_, rfl⟩
    replace hF := hF r3 q30
    refine .c (cl (v := .tuple #[.bool r3.1, .agg #[.int .i64 r3.2.code, .int .i64 r3.2.index]]) Try.call23 rfl rfl (fun w S => (by rw [q30]; obtain ⟨h_, hl_, hs_, hne_, hr_⟩ := look S (k := 2) rfl; exact c_pcheck hs_ t at_ ct (RSl.mono hl_ _q1) _q2 at_2 ct2 (RSl.mono hl_ _q3) _q4 at_3 ct3 (RSl.mono hl_ _q5) _q6 steps asteps csteps (RSl.mono hl_ _q7) _q8 ((([] : List (Int × Int)) ++ before) ++ ([b] : List (Int × Int))) amore cmore (RSl.of hr_) (look_len S (k := 2) rfl) ))) rfl rfl rfl ?_
    refine .v (mv rfl) rfl rfl rfl ?_
    refine .v (ext rfl rfl) rfl rfl rfl ?_
    refine .v (ext rfl rfl) rfl rfl rfl ?_
    refine al tZ28 rfl (fun pg => ?_)
    refine .v (asg rfl) rfl rfl rfl ?_
    refine st (p := pg) (off := 0) (k := 0) (vs := [.int .i64 r3.2.code, .int .i64 r3.2.index]) rfl rfl rfl (fun w => (tA28 w).2) rfl rfl rfl rfl ?_
    refine .cast (A' := [Box pg [.int .i64 r3.2.code, .int .i64 r3.2.index], Box pf [.int .i64 r2.2.code, .int .i64 r2.2.index], Box pt [.int .i64 t.facts, .slice at_ t.init.length ct, .slice at_2 t.goal.length ct2, .slice at_3 t.ops.length ct3], OwnSl 43 2 amore (((([] : List (Int × Int)) ++ before) ++ ([b] : List (Int × Int))).length) cmore (flL ((([] : List (Int × Int)) ++ before) ++ ([b] : List (Int × Int))))]) rfl ?_
    refine .nil ?_
    refine .seqN ?_
    refine .seq ?_
    refine .region ?_
    refine .v (mv rfl) rfl rfl rfl ?_
    refine .v (ln rfl tS22.is) rfl rfl rfl ?_
    refine .v (mv rfl) rfl rfl rfl ?_
    obtain ⟨r4, q31⟩ : ∃ y_ : Int × Fault, y_ = sp_count ((steps.length : Nat) : Int) before := ⟨_, rfl⟩
    replace hF := hF r4 q31
    refine .c (cl (v := .tuple #[.int .i64 r4.1, .agg #[.int .i64 r4.2.code, .int .i64 r4.2.index]]) Try.call16 rfl rfl (fun w S => (by rw [q31]; exact c_count S.sub ((steps.length : Nat) : Int) before abefore cbefore _q9 _q10 ))) rfl rfl rfl ?_
    refine .v (mv rfl) rfl rfl rfl ?_
    refine .v (ext rfl rfl) rfl rfl rfl ?_
    refine .v (ext rfl rfl) rfl rfl rfl ?_
    refine al tZ28 rfl (fun ph => ?_)
    refine .v (asg rfl) rfl rfl rfl ?_
    refine st (p := ph) (off := 0) (k := 0) (vs := [.int .i64 r4.2.code, .int .i64 r4.2.index]) rfl rfl rfl (fun w => (tA28 w).2) rfl rfl rfl rfl ?_
    refine .cast (A' := [Box ph [.int .i64 r4.2.code, .int .i64 r4.2.index], Box pg [.int .i64 r3.2.code, .int .i64 r3.2.index], Box pf [.int .i64 r2.2.code, .int .i64 r2.2.index], Box pt [.int .i64 t.facts, .slice at_ t.init.length ct, .slice at_2 t.goal.length ct2, .slice at_3 t.ops.length ct3], OwnSl 43 2 amore (((([] : List (Int × Int)) ++ before) ++ ([b] : List (Int × Int))).length) cmore (flL ((([] : List (Int × Int)) ++ before) ++ ([b] : List (Int × Int))))]) rfl ?_
    refine .nil ?_
    refine .seqN ?_
    refine .seq ?_
    refine .region ?_
    refine .v (mv rfl) rfl rfl rfl ?_
    refine .v (ln rfl tS22.is) rfl rfl rfl ?_
    refine .v (mv rfl) rfl rfl rfl ?_
    obtain ⟨r5, q32⟩ : ∃ y_ : Int × Fault, y_ = sp_count ((steps.length : Nat) : Int) ((([] : List (Int × Int)) ++ before) ++ ([b] : List (Int × Int))) := ⟨_, rfl⟩
    replace hF := hF r5 q32
    refine .c (cl (v := .tuple #[.int .i64 r5.1, .agg #[.int .i64 r5.2.code, .int .i64 r5.2.index]]) Try.call16 rfl rfl (fun w S => (by rw [q32]; obtain ⟨h_, hl_, hs_, hne_, hr_⟩ := look S (k := 4) rfl; exact c_count hs_ ((steps.length : Nat) : Int) ((([] : List (Int × Int)) ++ before) ++ ([b] : List (Int × Int))) amore cmore (RSl.of hr_) (look_len S (k := 4) rfl) ))) rfl rfl rfl ?_
    refine .v (mv rfl) rfl rfl rfl ?_
    refine .v (ext rfl rfl) rfl rfl rfl ?_
    refine .v (ext rfl rfl) rfl rfl rfl ?_
    refine al tZ28 rfl (fun pi => ?_)
    refine .v (asg rfl) rfl rfl rfl ?_
    refine st (p := pi) (off := 0) (k := 0) (vs := [.int .i64 r5.2.code, .int .i64 r5.2.index]) rfl rfl rfl (fun w => (tA28 w).2) rfl rfl rfl rfl ?_
    refine .cast (A' := [Box pi [.int .i64 r5.2.code, .int .i64 r5.2.index], Box ph [.int .i64 r4.2.code, .int .i64 r4.2.index], Box pg [.int .i64 r3.2.code, .int .i64 r3.2.index], Box pf [.int .i64 r2.2.code, .int .i64 r2.2.index], Box pt [.int .i64 t.facts, .slice at_ t.init.length ct, .slice at_2 t.goal.length ct2, .slice at_3 t.ops.length ct3], OwnSl 43 2 amore (((([] : List (Int × Int)) ++ before) ++ ([b] : List (Int × Int))).length) cmore (flL ((([] : List (Int × Int)) ++ before) ++ ([b] : List (Int × Int))))]) rfl ?_
    refine .nil ?_
    refine .seqN ?_
    refine .seq ?_
    refine .share (σ := Bool) (fun z => F_lawMore_J2 K r2 r3 r4 r5 z) (fun z => [(10, .bool r2.1), (12, .bool r3.1), (14, .int .i64 r4.1), (15, .pointer (some ph)), (16, .int .i64 r5.1), (17, .pointer (some pi)), (59, .bool z)]) (fun _ => [Box ph [.int .i64 r4.2.code, .int .i64 r4.2.index], Box pi [.int .i64 r5.2.code, .int .i64 r5.2.index]]) (fun _ => h) ?_ (fun q34 => ?_)
    · rintro t59 hF
      show J _ _ _ _ _ [(10, .bool r2.1), (12, .bool r3.1), (14, .int .i64 r4.1), (15, .pointer (some ph)), (16, .int .i64 r5.1), (17, .pointer (some pi)), (59, .bool t59)] [Box ph [.int .i64 r4.2.code, .int .i64 r4.2.index], Box pi [.int .i64 r5.2.code, .int .i64 r5.2.index]] h
      refine .cond rfl (fun q37 => ?_) (fun q37 => ?_)
      · replace hF := hF.1 q37
        refine .seq ?_
        refine .region ?_
        obtain ⟨r6, q38⟩ : ∃ y_ : Bool, y_ = sp_counted := ⟨_, rfl⟩
        replace hF := hF r6 q38
        refine .c (cl (v := .bool r6) Try.call20 rfl rfl (fun w S => (by rw [q38]; exact c_counted S.sub  ))) rfl rfl rfl ?_
        refine .v (asg rfl) rfl rfl rfl ?_
        refine .nil ?_
        refine .seqN ?_
        refine .ret ?_
        refine .seqR ?_
        refine .res1 rfl (rvT rfl) (fun w' S => ⟨r6, hF, rfl, S.below⟩)
      replace hF := hF.2 q37
      refine .skip ?_
      refine .seqN ?_
      refine .seq ?_
      refine .region ?_
      refine .v (fa rfl tF28_0) rfl rfl rfl ?_
      refine .v (ld1 rfl tO3 (cellB (off := 0) (k := 0) rfl rfl)) rfl rfl rfl ?_
      refine .v (bi rfl rfl rfl) rfl rfl rfl ?_
      refine .v (mv rfl) rfl rfl rfl ?_
      rcases Bool.eq_false_or_eq_true (r4.2.code == 0) with q49 | q49
      · replace hF := hF.1 q49
        refine .gv (fa rfl tF28_0) rfl rfl rfl q49 rfl rfl ?_
        refine .gv (ld1 rfl tO3 (cellB (off := 0) (k := 1) rfl rfl)) rfl rfl rfl q49 rfl rfl ?_
        refine .gv (bi rfl rfl rfl) rfl rfl rfl q49 rfl rfl ?_
        refine .v (pkT rfl q49 rfl) rfl rfl rfl ?_
        refine .v (mv rfl) rfl rfl rfl ?_
        rcases Bool.eq_false_or_eq_true (r5.2.code == 0) with q50 | q50
        · replace hF := hF.1 q50
          refine .gv (mv rfl) rfl rfl rfl q50 rfl rfl ?_
          refine .gv (nt rfl) rfl rfl rfl q50 rfl rfl ?_
          refine .gv (mv rfl) rfl rfl rfl q50 rfl rfl ?_
          rcases Bool.eq_false_or_eq_true (!r2.1) with q51 | q51
          · replace hF := hF.1 q51
            refine .gS rfl rfl rfl q51 rfl rfl ?_
            refine .gv (pkT rfl q51 rfl) rfl rfl rfl q50 rfl rfl ?_
            refine .v (pkT rfl q50 rfl) rfl rfl rfl ?_
            refine .v (mv rfl) rfl rfl rfl ?_
            refine .gv (mv rfl) rfl rfl rfl rfl rfl rfl ?_
            refine .gv (mv rfl) rfl rfl rfl rfl rfl rfl ?_
            refine .gv (bi rfl rfl rfl) rfl rfl rfl rfl rfl rfl ?_
            refine .v (pkT rfl rfl rfl) rfl rfl rfl ?_
            refine .v (mv rfl) rfl rfl rfl ?_
            rcases Bool.eq_false_or_eq_true (decide (r5.1 ≤ r4.1)) with q52 | q52
            · replace hF := hF.1 q52
              refine .gv (mv rfl) rfl rfl rfl q52 rfl rfl ?_
              refine .gv (bi rfl rfl rfl) rfl rfl rfl q52 rfl rfl ?_
              refine .v (pkT rfl q52 rfl) rfl rfl rfl ?_
              refine .v (mv rfl) rfl rfl rfl ?_
              rcases Bool.eq_false_or_eq_true (decide (1 ≤ r5.1)) with q53 | q53
              · replace hF := hF.1 q53
                obtain ⟨r7, q54⟩ : ∃ y_ : Bool, y_ = sp_counted := ⟨_, rfl⟩
                replace hF := hF r7 q54
                refine .gc (cl (v := .bool r7) Try.call20 rfl rfl (fun w S => (by rw [q54]; exact c_counted S.sub  ))) rfl rfl rfl q53 rfl rfl ?_
                refine .v (pkT rfl q53 rfl) rfl rfl rfl ?_
                refine .v (asg rfl) rfl rfl rfl ?_
                refine .nil ?_
                refine .seqN ?_
                refine .ret ?_
                refine .res1 rfl (rvT rfl) (fun w' S => ⟨r7, hF, rfl, S.below⟩)
              replace hF := hF.2 q53
              refine .gS rfl rfl rfl q53 rfl rfl ?_
              refine .v (pkF rfl q53 rfl) rfl rfl rfl ?_
              refine .v (asg rfl) rfl rfl rfl ?_
              refine .nil ?_
              refine .seqN ?_
              refine .ret ?_
              refine .res1 rfl (rvT rfl) (fun w' S => ⟨false, hF, rfl, S.below⟩)
            replace hF := hF.2 q52
            refine .gS rfl rfl rfl q52 rfl rfl ?_
            refine .gS rfl rfl rfl q52 rfl rfl ?_
            refine .v (pkF rfl q52 rfl) rfl rfl rfl ?_
            refine .v (mv rfl) rfl rfl rfl ?_
            refine .gS rfl rfl rfl rfl rfl rfl ?_
            refine .v (pkF rfl rfl rfl) rfl rfl rfl ?_
            refine .v (asg rfl) rfl rfl rfl ?_
            refine .nil ?_
            refine .seqN ?_
            refine .ret ?_
            refine .res1 rfl (rvT rfl) (fun w' S => ⟨false, hF, rfl, S.below⟩)
          replace hF := hF.2 q51
          refine .gv (mv rfl) rfl rfl rfl q51 rfl rfl ?_
          refine .gv (pkF rfl q51 rfl) rfl rfl rfl q50 rfl rfl ?_
          refine .v (pkT rfl q50 rfl) rfl rfl rfl ?_
          refine .v (mv rfl) rfl rfl rfl ?_
          rcases Bool.eq_false_or_eq_true (r3.1) with q55 | q55
          · replace hF := hF.1 q55
            refine .gv (mv rfl) rfl rfl rfl q55 rfl rfl ?_
            refine .gv (mv rfl) rfl rfl rfl q55 rfl rfl ?_
            refine .gv (bi rfl rfl rfl) rfl rfl rfl q55 rfl rfl ?_
            refine .v (pkT rfl q55 rfl) rfl rfl rfl ?_
            refine .v (mv rfl) rfl rfl rfl ?_
            rcases Bool.eq_false_or_eq_true (decide (r5.1 ≤ r4.1)) with q56 | q56
            · replace hF := hF.1 q56
              refine .gv (mv rfl) rfl rfl rfl q56 rfl rfl ?_
              refine .gv (bi rfl rfl rfl) rfl rfl rfl q56 rfl rfl ?_
              refine .v (pkT rfl q56 rfl) rfl rfl rfl ?_
              refine .v (mv rfl) rfl rfl rfl ?_
              rcases Bool.eq_false_or_eq_true (decide (1 ≤ r5.1)) with q57 | q57
              · replace hF := hF.1 q57
                obtain ⟨r8, q58⟩ : ∃ y_ : Bool, y_ = sp_counted := ⟨_, rfl⟩
                replace hF := hF r8 q58
                refine .gc (cl (v := .bool r8) Try.call20 rfl rfl (fun w S => (by rw [q58]; exact c_counted S.sub  ))) rfl rfl rfl q57 rfl rfl ?_
                refine .v (pkT rfl q57 rfl) rfl rfl rfl ?_
                refine .v (asg rfl) rfl rfl rfl ?_
                refine .nil ?_
                refine .seqN ?_
                refine .ret ?_
                refine .res1 rfl (rvT rfl) (fun w' S => ⟨r8, hF, rfl, S.below⟩)
              replace hF := hF.2 q57
              refine .gS rfl rfl rfl q57 rfl rfl ?_
              refine .v (pkF rfl q57 rfl) rfl rfl rfl ?_
              refine .v (asg rfl) rfl rfl rfl ?_
              refine .nil ?_
              refine .seqN ?_
              refine .ret ?_
              refine .res1 rfl (rvT rfl) (fun w' S => ⟨false, hF, rfl, S.below⟩)
            replace hF := hF.2 q56
            refine .gS rfl rfl rfl q56 rfl rfl ?_
            refine .gS rfl rfl rfl q56 rfl rfl ?_
            refine .v (pkF rfl q56 rfl) rfl rfl rfl ?_
            refine .v (mv rfl) rfl rfl rfl ?_
            refine .gS rfl rfl rfl rfl rfl rfl ?_
            refine .v (pkF rfl rfl rfl) rfl rfl rfl ?_
            refine .v (asg rfl) rfl rfl rfl ?_
            refine .nil ?_
            refine .seqN ?_
            refine .ret ?_
            refine .res1 rfl (rvT rfl) (fun w' S => ⟨false, hF, rfl, S.below⟩)
          replace hF := hF.2 q55
          refine .gS rfl rfl rfl q55 rfl rfl ?_
          refine .gS rfl rfl rfl q55 rfl rfl ?_
          refine .gS rfl rfl rfl q55 rfl rfl ?_
          refine .v (pkF rfl q55 rfl) rfl rfl rfl ?_
          refine .v (mv rfl) rfl rfl rfl ?_
          refine .gS rfl rfl rfl rfl rfl rfl ?_
          refine .gS rfl rfl rfl rfl rfl rfl ?_
          refine .v (pkF rfl rfl rfl) rfl rfl rfl ?_
          refine .v (mv rfl) rfl rfl rfl ?_
          refine .gS rfl rfl rfl rfl rfl rfl ?_
          refine .v (pkF rfl rfl rfl) rfl rfl rfl ?_
          refine .v (asg rfl) rfl rfl rfl ?_
          refine .nil ?_
          refine .seqN ?_
          refine .ret ?_
          refine .res1 rfl (rvT rfl) (fun w' S => ⟨false, hF, rfl, S.below⟩)
        replace hF := hF.2 q50
        refine .gS rfl rfl rfl q50 rfl rfl ?_
        refine .gS rfl rfl rfl q50 rfl rfl ?_
        refine .gS rfl rfl rfl q50 rfl rfl ?_
        refine .gU rfl rfl rfl rfl rfl ?_
        refine .gS rfl rfl rfl q50 rfl rfl ?_
        refine .v (pkF rfl q50 rfl) rfl rfl rfl ?_
        refine .v (mv rfl) rfl rfl rfl ?_
        refine .gS rfl rfl rfl rfl rfl rfl ?_
        refine .gS rfl rfl rfl rfl rfl rfl ?_
        refine .gS rfl rfl rfl rfl rfl rfl ?_
        refine .v (pkF rfl rfl rfl) rfl rfl rfl ?_
        refine .v (mv rfl) rfl rfl rfl ?_
        refine .gS rfl rfl rfl rfl rfl rfl ?_
        refine .gS rfl rfl rfl rfl rfl rfl ?_
        refine .v (pkF rfl rfl rfl) rfl rfl rfl ?_
        refine .v (mv rfl) rfl rfl rfl ?_
        refine .gS rfl rfl rfl rfl rfl rfl ?_
        refine .v (pkF rfl rfl rfl) rfl rfl rfl ?_
        refine .v (asg rfl) rfl rfl rfl ?_
        refine .nil ?_
        refine .seqN ?_
        refine .ret ?_
        refine .res1 rfl (rvT rfl) (fun w' S => ⟨false, hF, rfl, S.below⟩)
      replace hF := hF.2 q49
      refine .gS rfl rfl rfl q49 rfl rfl ?_
      refine .gS rfl rfl rfl q49 rfl rfl ?_
      refine .gS rfl rfl rfl q49 rfl rfl ?_
      refine .v (pkF rfl q49 rfl) rfl rfl rfl ?_
      refine .v (mv rfl) rfl rfl rfl ?_
      refine .gS rfl rfl rfl rfl rfl rfl ?_
      refine .gS rfl rfl rfl rfl rfl rfl ?_
      refine .gS rfl rfl rfl rfl rfl rfl ?_
      refine .gU rfl rfl rfl rfl rfl ?_
      refine .gS rfl rfl rfl rfl rfl rfl ?_
      refine .v (pkF rfl rfl rfl) rfl rfl rfl ?_
      refine .v (mv rfl) rfl rfl rfl ?_
      refine .gS rfl rfl rfl rfl rfl rfl ?_
      refine .gS rfl rfl rfl rfl rfl rfl ?_
      refine .gS rfl rfl rfl rfl rfl rfl ?_
      refine .v (pkF rfl rfl rfl) rfl rfl rfl ?_
      refine .v (mv rfl) rfl rfl rfl ?_
      refine .gS rfl rfl rfl rfl rfl rfl ?_
      refine .gS rfl rfl rfl rfl rfl rfl ?_
      refine .v (pkF rfl rfl rfl) rfl rfl rfl ?_
      refine .v (mv rfl) rfl rfl rfl ?_
      refine .gS rfl rfl rfl rfl rfl rfl ?_
      refine .v (pkF rfl rfl rfl) rfl rfl rfl ?_
      refine .v (asg rfl) rfl rfl rfl ?_
      refine .nil ?_
      refine .seqN ?_
      refine .ret ?_
      refine .res1 rfl (rvT rfl) (fun w' S => ⟨false, hF, rfl, S.below⟩)
    refine .region ?_
    refine .v (fa rfl tF28_0) rfl rfl rfl ?_
    refine .v (ld1 rfl tO3 (cellB (off := 0) (k := 3) rfl rfl)) rfl rfl rfl ?_
    refine .v (bi rfl rfl rfl) rfl rfl rfl ?_
    refine .v (mv rfl) rfl rfl rfl ?_
    rcases Bool.eq_false_or_eq_true (r2.2.code != 0) with q59 | q59
    · replace hF := hF.1 q59
      refine .gS rfl rfl rfl q59 rfl rfl ?_
      refine .gS rfl rfl rfl q59 rfl rfl ?_
      refine .gS rfl rfl rfl q59 rfl rfl ?_
      refine .v (pkT rfl q59 rfl) rfl rfl rfl ?_
      refine .nil ?_
      refine .sel0 [1, 0] (by decide) rfl ?_
      exact .use q34 true hF (.cons rfl (.cons rfl (.cons rfl (.cons rfl (.cons rfl (.cons rfl (.cons rfl (.nil)))))))) rfl (FH.le_refl _)
    replace hF := hF.2 q59
    refine .gv (fa rfl tF28_0) rfl rfl rfl q59 rfl rfl ?_
    refine .gv (ld1 rfl tO3 (cellB (off := 0) (k := 2) rfl rfl)) rfl rfl rfl q59 rfl rfl ?_
    refine .gv (bi rfl rfl rfl) rfl rfl rfl q59 rfl rfl ?_
    refine .v (pkF rfl q59 rfl) rfl rfl rfl ?_
    refine .nil ?_
    refine .sel0 [1, 0] (by decide) rfl ?_
    exact .use q34 (r3.2.code != 0) hF (.cons rfl (.cons rfl (.cons rfl (.cons rfl (.cons rfl (.cons rfl (.cons rfl (.nil)))))))) rfl (FH.le_refl _)
  refine .openA (s0 := [(1, .slice asteps steps.length csteps), (2, .slice abefore before.length cbefore), (4, .pointer (some pt)), (7, .pointer (some pb))]) [1, 3] [(1, .slice abefore before.length cbefore), (3, .agg #[.int .i64 b.1, .int .i64 b.2])] (by kernel_rfl) (.cons rfl (.cons rfl (.cons rfl (.cons rfl (.nil))))) [1, 2, 4, 7] [] rfl (by kernel_rfl) ?_
  refine .step [0, 4] 0 rfl (by kernel_rfl) (by kernel_rfl) (.v [] rfl rfl rfl rfl rfl rfl (fun _ => mv rfl) (.v [] rfl rfl rfl rfl rfl rfl (fun _ => ldA (cs := [.int .i64 b.1, .int .i64 b.2]) rfl tA43 rfl (cellsB (off := 0) (k := 0) rfl (m := 2) rfl)) (.nil))) (.cons [] rfl rfl (fun sL hL => ?_) (.cons [(21, .agg #[.int .i64 b.1, .int .i64 b.2])] rfl rfl (fun sL hL => ?_) (.nil)))
  · refine bs2 (cs := #[]) (pv := []) tS26 rfl rfl (by decide) (by decide) rfl rfl rfl (fun a _ => ?_)
    refine .cast (A' := [OwnSl 43 2 a (([] : List (Int × Int)).length) 0 (flL ([] : List (Int × Int))), Box pb [.int .i64 b.1, .int .i64 b.2], Box pt [.int .i64 t.facts, .slice at_ t.init.length ct, .slice at_2 t.goal.length ct2, .slice at_3 t.ops.length ct3]]) rfl ?_
    refine .nil ?_
    refine .ja (M := []) (C' := [1, 3]) (pre := [(0, .slice a (([] : List (Int × Int)).length) 0)]) [(1, .slice asteps steps.length csteps), (2, .slice abefore before.length cbefore), (4, .pointer (some pt)), (7, .pointer (some pb))] [1, 2, 4, 7] hL rfl rfl rfl rfl rfl (.cons rfl (.cons rfl (.cons rfl (.cons rfl (.nil))))) rfl rfl (by kernel_rfl) ?_
    refine .step [2, 4] 2 rfl (by kernel_rfl) (by kernel_rfl) (.v [] rfl rfl rfl rfl rfl rfl (fun _ => mv rfl) (.v [] rfl rfl rfl rfl rfl rfl (fun _ => ldA (cs := [.int .i64 b.1, .int .i64 b.2]) rfl tA43 rfl (cellsB (off := 0) (k := 1) rfl (m := 2) rfl)) (.nil))) (.cons [(18, .slice a (([] : List (Int × Int)).length) 0), (19, .slice abefore before.length cbefore)] rfl rfl (fun sL hL => ?_) (.cons [(21, .agg #[.int .i64 b.1, .int .i64 b.2])] rfl rfl (fun sL hL => ?_) (.nil)))
    · obtain ⟨q61, hF⟩ := hF
      have q62 : ([] : List (Int × Int)).length + before.length = ((([] : List (Int × Int)) ++ before)).length := len_app rfl rfl
      refine app (k := 0) (news := flL before) (cs' := flL (([] : List (Int × Int)) ++ before)) (nm := ((([] : List (Int × Int)) ++ before)).length) tS26 rfl (by decide) rfl rfl rfl (by rw [flL_len]; rfl) (srcH (fun q => _q9.ne (by decide) q) (_q9.raw)) (flL_one _) (room_of q62 q61).1 (room_of q62 q61).2 q62 (flL_append _ _).symm rfl (fun a2 c => ?_)
      refine .cast (A' := [OwnSl 43 2 a2 ((([] : List (Int × Int)) ++ before).length) c (flL (([] : List (Int × Int)) ++ before)), Box pb [.int .i64 b.1, .int .i64 b.2], Box pt [.int .i64 t.facts, .slice at_ t.init.length ct, .slice at_2 t.goal.length ct2, .slice at_3 t.ops.length ct3]]) rfl ?_
      refine .nil ?_
      refine .ja (M := [1]) (C' := [3]) (pre := [(2, .slice a2 ((([] : List (Int × Int)) ++ before).length) c)]) [(1, .slice asteps steps.length csteps), (2, .slice abefore before.length cbefore), (4, .pointer (some pt)), (7, .pointer (some pb))] [1, 2, 4, 7] hL rfl rfl rfl rfl rfl (.cons rfl (.cons rfl (.cons rfl (.cons rfl (.nil))))) rfl rfl (by kernel_rfl) ?_
      refine .step [4] 4 rfl (by kernel_rfl) (by kernel_rfl) (.v [] rfl rfl rfl rfl rfl rfl (fun _ => ldA (cs := [.int .i64 b.1, .int .i64 b.2]) rfl tA43 rfl (cellsB (off := 0) (k := 1) rfl (m := 2) rfl)) (.nil)) (.cons [(21, .agg #[.int .i64 b.1, .int .i64 b.2])] rfl rfl (fun sL hL => ?_) (.nil))
      refine bs2 (cs := #[.int .i64 b.1, .int .i64 b.2]) (pv := [(0, .agg #[.int .i64 b.1, .int .i64 b.2])]) tS26 rfl rfl (by decide) (by decide) rfl rfl rfl (fun a3 _ => ?_)
      refine .cast (A' := [OwnSl 43 2 a3 (([b] : List (Int × Int)).length) 1 (flL ([b] : List (Int × Int))), OwnSl 43 2 a2 ((([] : List (Int × Int)) ++ before).length) c (flL (([] : List (Int × Int)) ++ before)), Box pb [.int .i64 b.1, .int .i64 b.2], Box pt [.int .i64 t.facts, .slice at_ t.init.length ct, .slice at_2 t.goal.length ct2, .slice at_3 t.ops.length ct3]]) rfl ?_
      refine .nil ?_
      refine .ja (M := [3]) (C' := []) (pre := [(4, .slice a3 (([b] : List (Int × Int)).length) 1)]) [(1, .slice asteps steps.length csteps), (2, .slice abefore before.length cbefore), (4, .pointer (some pt)), (7, .pointer (some pb))] [1, 2, 4, 7] hL rfl rfl rfl rfl rfl (.cons rfl (.cons rfl (.cons rfl (.cons rfl (.nil))))) rfl rfl (by kernel_rfl) ?_
      refine .step [5] 5 rfl (by kernel_rfl) (by kernel_rfl) (.nil) (.cons [(20, .slice a2 ((([] : List (Int × Int)) ++ before).length) c), (22, .slice a3 (([b] : List (Int × Int)).length) 1), (20, .slice a2 ((([] : List (Int × Int)) ++ before).length) c)] rfl rfl (fun sL hL => ?_) (.nil))
      obtain ⟨q64, hF⟩ := hF
      have q65 : (([] : List (Int × Int)) ++ before).length + ([b] : List (Int × Int)).length = (((([] : List (Int × Int)) ++ before) ++ ([b] : List (Int × Int)))).length := len_app rfl rfl
      refine app (k := 1) (news := flL ([b] : List (Int × Int))) (cs' := flL ((([] : List (Int × Int)) ++ before) ++ ([b] : List (Int × Int)))) (nm := (((([] : List (Int × Int)) ++ before) ++ ([b] : List (Int × Int)))).length) tS26 rfl (by decide) rfl rfl rfl (by rw [flL_len]; rfl) (srcS (k := 0) rfl) (flL_one _) (room_of q65 q64).1 (room_of q65 q64).2 q65 (flL_append _ _).symm rfl (fun a4 c2 => ?_)
      refine .cast (A' := [OwnSl 43 2 a3 (([b] : List (Int × Int)).length) 1 (flL ([b] : List (Int × Int))), OwnSl 43 2 a4 (((([] : List (Int × Int)) ++ before) ++ ([b] : List (Int × Int))).length) c2 (flL ((([] : List (Int × Int)) ++ before) ++ ([b] : List (Int × Int)))), Box pb [.int .i64 b.1, .int .i64 b.2], Box pt [.int .i64 t.facts, .slice at_ t.init.length ct, .slice at_2 t.goal.length ct2, .slice at_3 t.ops.length ct3]]) rfl ?_
      refine .nil ?_
      refine .ja (M := []) (C' := [6]) (pre := [(5, .slice a4 (((([] : List (Int × Int)) ++ before) ++ ([b] : List (Int × Int))).length) c2), (6, .slice a4 (((([] : List (Int × Int)) ++ before) ++ ([b] : List (Int × Int))).length) c2)]) [(1, .slice asteps steps.length csteps), (2, .slice abefore before.length cbefore), (4, .pointer (some pt)), (7, .pointer (some pb))] [1, 2, 4, 7] hL rfl rfl rfl rfl rfl (.cons rfl (.cons rfl (.cons rfl (.cons rfl (.nil))))) rfl rfl (by kernel_rfl) ?_
      refine .last [(18, .slice a (([] : List (Int × Int)).length) 0), (19, .slice abefore before.length cbefore), (20, .slice a2 ((([] : List (Int × Int)) ++ before).length) c), (21, .agg #[.int .i64 b.1, .int .i64 b.2]), (22, .slice a3 (([b] : List (Int × Int)).length) 1), (23, .slice a4 (((([] : List (Int × Int)) ++ before) ++ ([b] : List (Int × Int))).length) c2), (9, .slice a4 (((([] : List (Int × Int)) ++ before) ++ ([b] : List (Int × Int))).length) c2)] rfl (by kernel_rfl) (.v [(23, .slice a4 (((([] : List (Int × Int)) ++ before) ++ ([b] : List (Int × Int))).length) c2), (23, .slice a4 (((([] : List (Int × Int)) ++ before) ++ ([b] : List (Int × Int))).length) c2), (18, .slice a (([] : List (Int × Int)).length) 0), (19, .slice abefore before.length cbefore), (20, .slice a2 ((([] : List (Int × Int)) ++ before).length) c), (21, .agg #[.int .i64 b.1, .int .i64 b.2]), (22, .slice a3 (([b] : List (Int × Int)).length) 1), (23, .slice a4 (((([] : List (Int × Int)) ++ before) ++ ([b] : List (Int × Int))).length) c2)] rfl rfl rfl rfl rfl rfl (fun _ => asg rfl) (.nil)) rfl ?_
      refine .sel0 [3, 1] (by decide) rfl ?_
      exact .use q28 (a4, c2) hF (.cons rfl (.cons rfl (.cons rfl (.cons rfl (.nil))))) rfl (FH.le_refl _)
    · refine bs2 (cs := #[.int .i64 b.1, .int .i64 b.2]) (pv := [(0, .agg #[.int .i64 b.1, .int .i64 b.2])]) tS26 rfl rfl (by decide) (by decide) rfl rfl rfl (fun a2 _ => ?_)
      refine .cast (A' := [OwnSl 43 2 a2 (([b] : List (Int × Int)).length) 1 (flL ([b] : List (Int × Int))), OwnSl 43 2 a (([] : List (Int × Int)).length) 0 (flL ([] : List (Int × Int))), Box pb [.int .i64 b.1, .int .i64 b.2], Box pt [.int .i64 t.facts, .slice at_ t.init.length ct, .slice at_2 t.goal.length ct2, .slice at_3 t.ops.length ct3]]) rfl ?_
      refine .nil ?_
      refine .ja (M := [3]) (C' := [1]) (pre := [(4, .slice a2 (([b] : List (Int × Int)).length) 1)]) [(1, .slice asteps steps.length csteps), (2, .slice abefore before.length cbefore), (4, .pointer (some pt)), (7, .pointer (some pb))] [1, 2, 4, 7] hL rfl rfl rfl rfl rfl (.cons rfl (.cons rfl (.cons rfl (.cons rfl (.nil))))) rfl rfl (by kernel_rfl) ?_
      refine .step [2] 2 rfl (by kernel_rfl) (by kernel_rfl) (.v [] rfl rfl rfl rfl rfl rfl (fun _ => mv rfl) (.nil)) (.cons [(18, .slice a (([] : List (Int × Int)).length) 0), (19, .slice abefore before.length cbefore)] rfl rfl (fun sL hL => ?_) (.nil))
      obtain ⟨q67, hF⟩ := hF
      have q68 : ([] : List (Int × Int)).length + before.length = ((([] : List (Int × Int)) ++ before)).length := len_app rfl rfl
      refine app (k := 1) (news := flL before) (cs' := flL (([] : List (Int × Int)) ++ before)) (nm := ((([] : List (Int × Int)) ++ before)).length) tS26 rfl (by decide) rfl rfl rfl (by rw [flL_len]; rfl) (srcH (fun q => _q9.ne (by decide) q) (_q9.raw)) (flL_one _) (room_of q68 q67).1 (room_of q68 q67).2 q68 (flL_append _ _).symm rfl (fun a3 c => ?_)
      refine .cast (A' := [OwnSl 43 2 a2 (([b] : List (Int × Int)).length) 1 (flL ([b] : List (Int × Int))), OwnSl 43 2 a3 ((([] : List (Int × Int)) ++ before).length) c (flL (([] : List (Int × Int)) ++ before)), Box pb [.int .i64 b.1, .int .i64 b.2], Box pt [.int .i64 t.facts, .slice at_ t.init.length ct, .slice at_2 t.goal.length ct2, .slice at_3 t.ops.length ct3]]) rfl ?_
      refine .nil ?_
      refine .ja (M := [1]) (C' := []) (pre := [(2, .slice a3 ((([] : List (Int × Int)) ++ before).length) c)]) [(1, .slice asteps steps.length csteps), (2, .slice abefore before.length cbefore), (4, .pointer (some pt)), (7, .pointer (some pb))] [1, 2, 4, 7] hL rfl rfl rfl rfl rfl (.cons rfl (.cons rfl (.cons rfl (.cons rfl (.nil))))) rfl rfl (by kernel_rfl) ?_
      refine .step [5] 5 rfl (by kernel_rfl) (by kernel_rfl) (.nil) (.cons [(20, .slice a3 ((([] : List (Int × Int)) ++ before).length) c), (22, .slice a2 (([b] : List (Int × Int)).length) 1), (20, .slice a3 ((([] : List (Int × Int)) ++ before).length) c)] rfl rfl (fun sL hL => ?_) (.nil))
      obtain ⟨q69, hF⟩ := hF
      have q70 : (([] : List (Int × Int)) ++ before).length + ([b] : List (Int × Int)).length = (((([] : List (Int × Int)) ++ before) ++ ([b] : List (Int × Int)))).length := len_app rfl rfl
      refine app (k := 1) (news := flL ([b] : List (Int × Int))) (cs' := flL ((([] : List (Int × Int)) ++ before) ++ ([b] : List (Int × Int)))) (nm := (((([] : List (Int × Int)) ++ before) ++ ([b] : List (Int × Int)))).length) tS26 rfl (by decide) rfl rfl rfl (by rw [flL_len]; rfl) (srcS (k := 0) rfl) (flL_one _) (room_of q70 q69).1 (room_of q70 q69).2 q70 (flL_append _ _).symm rfl (fun a4 c2 => ?_)
      refine .cast (A' := [OwnSl 43 2 a2 (([b] : List (Int × Int)).length) 1 (flL ([b] : List (Int × Int))), OwnSl 43 2 a4 (((([] : List (Int × Int)) ++ before) ++ ([b] : List (Int × Int))).length) c2 (flL ((([] : List (Int × Int)) ++ before) ++ ([b] : List (Int × Int)))), Box pb [.int .i64 b.1, .int .i64 b.2], Box pt [.int .i64 t.facts, .slice at_ t.init.length ct, .slice at_2 t.goal.length ct2, .slice at_3 t.ops.length ct3]]) rfl ?_
      refine .nil ?_
      refine .ja (M := []) (C' := [6]) (pre := [(5, .slice a4 (((([] : List (Int × Int)) ++ before) ++ ([b] : List (Int × Int))).length) c2), (6, .slice a4 (((([] : List (Int × Int)) ++ before) ++ ([b] : List (Int × Int))).length) c2)]) [(1, .slice asteps steps.length csteps), (2, .slice abefore before.length cbefore), (4, .pointer (some pt)), (7, .pointer (some pb))] [1, 2, 4, 7] hL rfl rfl rfl rfl rfl (.cons rfl (.cons rfl (.cons rfl (.cons rfl (.nil))))) rfl rfl (by kernel_rfl) ?_
      refine .last [(18, .slice a (([] : List (Int × Int)).length) 0), (19, .slice abefore before.length cbefore), (20, .slice a3 ((([] : List (Int × Int)) ++ before).length) c), (21, .agg #[.int .i64 b.1, .int .i64 b.2]), (22, .slice a2 (([b] : List (Int × Int)).length) 1), (23, .slice a4 (((([] : List (Int × Int)) ++ before) ++ ([b] : List (Int × Int))).length) c2), (9, .slice a4 (((([] : List (Int × Int)) ++ before) ++ ([b] : List (Int × Int))).length) c2)] rfl (by kernel_rfl) (.v [(23, .slice a4 (((([] : List (Int × Int)) ++ before) ++ ([b] : List (Int × Int))).length) c2), (23, .slice a4 (((([] : List (Int × Int)) ++ before) ++ ([b] : List (Int × Int))).length) c2), (18, .slice a (([] : List (Int × Int)).length) 0), (19, .slice abefore before.length cbefore), (20, .slice a3 ((([] : List (Int × Int)) ++ before).length) c), (21, .agg #[.int .i64 b.1, .int .i64 b.2]), (22, .slice a2 (([b] : List (Int × Int)).length) 1), (23, .slice a4 (((([] : List (Int × Int)) ++ before) ++ ([b] : List (Int × Int))).length) c2)] rfl rfl rfl rfl rfl rfl (fun _ => asg rfl) (.nil)) rfl ?_
      refine .sel0 [3, 1] (by decide) rfl ?_
      exact .use q28 (a4, c2) hF (.cons rfl (.cons rfl (.cons rfl (.cons rfl (.nil))))) rfl (FH.le_refl _)
  · refine bs2 (cs := #[.int .i64 b.1, .int .i64 b.2]) (pv := [(0, .agg #[.int .i64 b.1, .int .i64 b.2])]) tS26 rfl rfl (by decide) (by decide) rfl rfl rfl (fun a _ => ?_)
    refine .cast (A' := [OwnSl 43 2 a (([b] : List (Int × Int)).length) 1 (flL ([b] : List (Int × Int))), Box pb [.int .i64 b.1, .int .i64 b.2], Box pt [.int .i64 t.facts, .slice at_ t.init.length ct, .slice at_2 t.goal.length ct2, .slice at_3 t.ops.length ct3]]) rfl ?_
    refine .nil ?_
    refine .ja (M := [3]) (C' := [1]) (pre := [(4, .slice a (([b] : List (Int × Int)).length) 1)]) [(1, .slice asteps steps.length csteps), (2, .slice abefore before.length cbefore), (4, .pointer (some pt)), (7, .pointer (some pb))] [1, 2, 4, 7] hL rfl rfl rfl rfl rfl (.cons rfl (.cons rfl (.cons rfl (.cons rfl (.nil))))) rfl rfl (by kernel_rfl) ?_
    refine .step [0] 0 rfl (by kernel_rfl) (by kernel_rfl) (.v [] rfl rfl rfl rfl rfl rfl (fun _ => mv rfl) (.nil)) (.cons [] rfl rfl (fun sL hL => ?_) (.nil))
    refine bs2 (cs := #[]) (pv := []) tS26 rfl rfl (by decide) (by decide) rfl rfl rfl (fun a2 _ => ?_)
    refine .cast (A' := [OwnSl 43 2 a2 (([] : List (Int × Int)).length) 0 (flL ([] : List (Int × Int))), OwnSl 43 2 a (([b] : List (Int × Int)).length) 1 (flL ([b] : List (Int × Int))), Box pb [.int .i64 b.1, .int .i64 b.2], Box pt [.int .i64 t.facts, .slice at_ t.init.length ct, .slice at_2 t.goal.length ct2, .slice at_3 t.ops.length ct3]]) rfl ?_
    refine .nil ?_
    refine .ja (M := []) (C' := [1]) (pre := [(0, .slice a2 (([] : List (Int × Int)).length) 0)]) [(1, .slice asteps steps.length csteps), (2, .slice abefore before.length cbefore), (4, .pointer (some pt)), (7, .pointer (some pb))] [1, 2, 4, 7] hL rfl rfl rfl rfl rfl (.cons rfl (.cons rfl (.cons rfl (.cons rfl (.nil))))) rfl rfl (by kernel_rfl) ?_
    refine .step [2] 2 rfl (by kernel_rfl) (by kernel_rfl) (.v [] rfl rfl rfl rfl rfl rfl (fun _ => mv rfl) (.nil)) (.cons [(18, .slice a2 (([] : List (Int × Int)).length) 0), (19, .slice abefore before.length cbefore)] rfl rfl (fun sL hL => ?_) (.nil))
    obtain ⟨q73, hF⟩ := hF
    have q74 : ([] : List (Int × Int)).length + before.length = ((([] : List (Int × Int)) ++ before)).length := len_app rfl rfl
    refine app (k := 0) (news := flL before) (cs' := flL (([] : List (Int × Int)) ++ before)) (nm := ((([] : List (Int × Int)) ++ before)).length) tS26 rfl (by decide) rfl rfl rfl (by rw [flL_len]; rfl) (srcH (fun q => _q9.ne (by decide) q) (_q9.raw)) (flL_one _) (room_of q74 q73).1 (room_of q74 q73).2 q74 (flL_append _ _).symm rfl (fun a3 c => ?_)
    refine .cast (A' := [OwnSl 43 2 a3 ((([] : List (Int × Int)) ++ before).length) c (flL (([] : List (Int × Int)) ++ before)), OwnSl 43 2 a (([b] : List (Int × Int)).length) 1 (flL ([b] : List (Int × Int))), Box pb [.int .i64 b.1, .int .i64 b.2], Box pt [.int .i64 t.facts, .slice at_ t.init.length ct, .slice at_2 t.goal.length ct2, .slice at_3 t.ops.length ct3]]) rfl ?_
    refine .nil ?_
    refine .ja (M := [1]) (C' := []) (pre := [(2, .slice a3 ((([] : List (Int × Int)) ++ before).length) c)]) [(1, .slice asteps steps.length csteps), (2, .slice abefore before.length cbefore), (4, .pointer (some pt)), (7, .pointer (some pb))] [1, 2, 4, 7] hL rfl rfl rfl rfl rfl (.cons rfl (.cons rfl (.cons rfl (.cons rfl (.nil))))) rfl rfl (by kernel_rfl) ?_
    refine .step [5] 5 rfl (by kernel_rfl) (by kernel_rfl) (.nil) (.cons [(20, .slice a3 ((([] : List (Int × Int)) ++ before).length) c), (22, .slice a (([b] : List (Int × Int)).length) 1), (20, .slice a3 ((([] : List (Int × Int)) ++ before).length) c)] rfl rfl (fun sL hL => ?_) (.nil))
    obtain ⟨q75, hF⟩ := hF
    have q76 : (([] : List (Int × Int)) ++ before).length + ([b] : List (Int × Int)).length = (((([] : List (Int × Int)) ++ before) ++ ([b] : List (Int × Int)))).length := len_app rfl rfl
    refine app (k := 0) (news := flL ([b] : List (Int × Int))) (cs' := flL ((([] : List (Int × Int)) ++ before) ++ ([b] : List (Int × Int)))) (nm := (((([] : List (Int × Int)) ++ before) ++ ([b] : List (Int × Int)))).length) tS26 rfl (by decide) rfl rfl rfl (by rw [flL_len]; rfl) (srcS (k := 1) rfl) (flL_one _) (room_of q76 q75).1 (room_of q76 q75).2 q76 (flL_append _ _).symm rfl (fun a4 c2 => ?_)
    refine .cast (A' := [OwnSl 43 2 a4 (((([] : List (Int × Int)) ++ before) ++ ([b] : List (Int × Int))).length) c2 (flL ((([] : List (Int × Int)) ++ before) ++ ([b] : List (Int × Int)))), OwnSl 43 2 a (([b] : List (Int × Int)).length) 1 (flL ([b] : List (Int × Int))), Box pb [.int .i64 b.1, .int .i64 b.2], Box pt [.int .i64 t.facts, .slice at_ t.init.length ct, .slice at_2 t.goal.length ct2, .slice at_3 t.ops.length ct3]]) rfl ?_
    refine .nil ?_
    refine .ja (M := []) (C' := [6]) (pre := [(5, .slice a4 (((([] : List (Int × Int)) ++ before) ++ ([b] : List (Int × Int))).length) c2), (6, .slice a4 (((([] : List (Int × Int)) ++ before) ++ ([b] : List (Int × Int))).length) c2)]) [(1, .slice asteps steps.length csteps), (2, .slice abefore before.length cbefore), (4, .pointer (some pt)), (7, .pointer (some pb))] [1, 2, 4, 7] hL rfl rfl rfl rfl rfl (.cons rfl (.cons rfl (.cons rfl (.cons rfl (.nil))))) rfl rfl (by kernel_rfl) ?_
    refine .last [(18, .slice a2 (([] : List (Int × Int)).length) 0), (19, .slice abefore before.length cbefore), (20, .slice a3 ((([] : List (Int × Int)) ++ before).length) c), (21, .agg #[.int .i64 b.1, .int .i64 b.2]), (22, .slice a (([b] : List (Int × Int)).length) 1), (23, .slice a4 (((([] : List (Int × Int)) ++ before) ++ ([b] : List (Int × Int))).length) c2), (9, .slice a4 (((([] : List (Int × Int)) ++ before) ++ ([b] : List (Int × Int))).length) c2)] rfl (by kernel_rfl) (.v [(23, .slice a4 (((([] : List (Int × Int)) ++ before) ++ ([b] : List (Int × Int))).length) c2), (23, .slice a4 (((([] : List (Int × Int)) ++ before) ++ ([b] : List (Int × Int))).length) c2), (18, .slice a2 (([] : List (Int × Int)).length) 0), (19, .slice abefore before.length cbefore), (20, .slice a3 ((([] : List (Int × Int)) ++ before).length) c), (21, .agg #[.int .i64 b.1, .int .i64 b.2]), (22, .slice a (([b] : List (Int × Int)).length) 1), (23, .slice a4 (((([] : List (Int × Int)) ++ before) ++ ([b] : List (Int × Int))).length) c2)] rfl rfl rfl rfl rfl rfl (fun _ => asg rfl) (.nil)) rfl ?_
    refine .sel0 [3, 0] (by decide) rfl ?_
    exact .use q28 (a4, c2) hF (.cons rfl (.cons rfl (.cons rfl (.cons rfl (.nil))))) rfl (FH.le_refl _)

theorem c_lawMore {h : FH} {w : World} (hs : Sub h w) (t : Task) (at_ : Option Addr) (ct : Nat) (_q1 : RSl h at_ t.init) (_q2 : t.init.length ≤ ct) (at_2 : Option Addr) (ct2 : Nat) (_q3 : RSl h at_2 t.goal) (_q4 : t.goal.length ≤ ct2) (at_3 : Option Addr) (ct3 : Nat) (_q5 : RSl h at_3 t.ops) (_q6 : t.ops.length ≤ ct3) (steps : List Int) (asteps : Option Addr) (csteps : Nat) (_q7 : RSl h asteps steps) (_q8 : steps.length ≤ csteps) (before : List (Int × Int)) (abefore : Option Addr) (cbefore : Nat) (_q9 : RSl h abefore before) (_q10 : before.length ≤ cbefore) (b : Int × Int) (hp : pre_lawMore t steps before b) : Calls Try.prog 5 #[.agg #[.int .i64 t.facts, .slice at_ t.init.length ct, .slice at_2 t.goal.length ct2, .slice at_3 t.ops.length ct3], .slice asteps steps.length csteps, .slice abefore before.length cbefore, .agg #[.int .i64 b.1, .int .i64 b.2]] w fun e w' => e = .returned (.bool (sp_lawMore t steps before b)) ∧ Below w.heap.size w w' :=
  (w_lawMore hs t at_ ct _q1 _q2 at_2 ct2 _q3 _q4 at_3 ct3 _q5 _q6 steps asteps csteps _q7 _q8 before abefore cbefore _q9 _q10 b (fun r => r = sp_lawMore t steps before b) (ok_lawMore t steps before b hp)).mono fun _ _ ⟨_, hk, he, hb⟩ => ⟨by rw [he, hk], hb⟩

end Go.Proofs.Ytihbfbofbdkmbaa.Pl
