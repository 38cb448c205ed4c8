/- The walks: from what each function asks to what it does; printed from the code. No condition. -/
import Derived.Test.YtojoehfldbimpaaGreatDoorW6
namespace Go.Proofs.YtojoehfldbimpaaGreatDoor.Pl
open Go Go.RowKit
set_option maxHeartbeats 8000000 in
theorem w_settled {h : FH} {w : World} (hs : Sub h w) (ht : TabH Tryz.prog h) (K : Bool → Prop) (hF : F_settled  K) : Calls Tryz.prog 14 #[] w fun e w' => ∃ r : Bool, K r ∧ e = .returned (.bool r) ∧ Below w.heap.size w w' := by
  refine enter (args := []) Tryz.func14 rfl Tryz.ntmps14 rfl hs ?_
  refine .seq ?_
  refine .region ?_
  refine .v (asg rfl) rfl rfl rfl ?_
  refine .nil ?_
  refine .seqN ?_
  refine .seq ?_
  refine .region ?_
  obtain ⟨r2, q1⟩ : ∃ y_ : Task, y_ = sp_able := ⟨_, rfl⟩
  replace hF := hF r2 q1
  refine clR (α := Option Addr × Nat × Option Addr × Nat × Option Addr × Nat) (Φ := fun h1 z => RSl h1 z.1 r2.init ∧ r2.init.length ≤ z.2.1 ∧ RSl h1 z.2.2.1 r2.goal ∧ r2.goal.length ≤ z.2.2.2.1 ∧ RSl h1 z.2.2.2.2.1 r2.ops ∧ r2.ops.length ≤ z.2.2.2.2.2) (V := fun z => .agg #[.int .i64 r2.facts, .slice z.1 r2.init.length z.2.1, .slice z.2.2.1 r2.goal.length z.2.2.2.1, .slice z.2.2.2.2.1 r2.ops.length z.2.2.2.2.2]) Tryz.call54 rfl rfl (fun w S => (by rw [q1]; exact c_able S.sub  )) rfl (fun z h1 le1 hz => ?_)
  obtain ⟨a, c, a2, c2, a3, c3⟩ := z
  obtain ⟨q2, q3, q4, q5, q6, q7⟩ := hz
  refine bs2 (cs := #[.int .i64 0]) (pv := [(0, .int .i64 0)]) tS22 rfl rfl (by decide) (by decide) rfl rfl rfl (fun a4 _ => ?_)
  refine .cast (A' := [OwnSl 3 1 a4 (([0] : List Int).length) 1 (flL ([0] : List Int))]) rfl ?_
  refine .freezeL (k := 0) rfl (fun h2 le2 q10 q9 => ?_)
  refine .cast (A' := [tru]) rfl ?_
  obtain ⟨r3, q11⟩ : ∃ y_ : List Int × Bool × Fault, y_ = sp_bplan r2 ([0] : List Int) := ⟨_, rfl⟩
  replace hF := hF r3 q11
  refine clR (α := Option Addr × Nat) (Φ := fun h1 z => RSl h1 z.1 r3.1 ∧ r3.1.length ≤ z.2) (V := fun z => .tuple #[.slice z.1 r3.1.length z.2, .bool r3.2.1, .agg #[.int .i64 r3.2.2.code, .int .i64 r3.2.2.index]]) Tryz.call12 rfl rfl (fun w S => (by rw [q11]; exact c_bplan S.sub (ht.mono (FH.le_trans (le1) (le2))) r2 a c (q2.mono (le2)) q3 a2 c2 (q4.mono (le2)) q5 a3 c3 (q6.mono (le2)) q7 ([0] : List Int) a4 1 (RSl.of q9) (q10) )) rfl (fun z h3 le3 hz => ?_)
  obtain ⟨a5, c4⟩ := z
  obtain ⟨q12, q13⟩ := hz
  refine .v (mv rfl) rfl rfl rfl ?_
  refine .v (ext rfl rfl) rfl rfl rfl ?_
  refine .v (ext rfl rfl) rfl rfl rfl ?_
  refine .v (ext rfl rfl) rfl rfl rfl ?_
  refine al tZ27 rfl (fun pf => ?_)
  refine .v (asg rfl) rfl rfl rfl ?_
  refine .v (asg rfl) rfl rfl rfl ?_
  refine st (p := pf) (off := 0) (k := 0) (vs := [.int .i64 r3.2.2.code, .int .i64 r3.2.2.index]) rfl rfl rfl (fun w => (tA27 w).2) rfl rfl rfl rfl ?_
  refine .cast (A' := [Box pf [.int .i64 r3.2.2.code, .int .i64 r3.2.2.index], tru]) rfl ?_
  refine .nil ?_
  refine .seqN ?_
  refine .seq ?_
  refine .region ?_
  obtain ⟨r4, q14⟩ : ∃ y_ : Task, y_ = sp_able := ⟨_, rfl⟩
  replace hF := hF r4 q14
  refine clR (α := Option Addr × Nat × Option Addr × Nat × Option Addr × Nat) (Φ := fun h1 z => RSl h1 z.1 r4.init ∧ r4.init.length ≤ z.2.1 ∧ RSl h1 z.2.2.1 r4.goal ∧ r4.goal.length ≤ z.2.2.2.1 ∧ RSl h1 z.2.2.2.2.1 r4.ops ∧ r4.ops.length ≤ z.2.2.2.2.2) (V := fun z => .agg #[.int .i64 r4.facts, .slice z.1 r4.init.length z.2.1, .slice z.2.2.1 r4.goal.length z.2.2.2.1, .slice z.2.2.2.2.1 r4.ops.length z.2.2.2.2.2]) Tryz.call54 rfl rfl (fun w S => (by rw [q14]; exact c_able S.sub  )) rfl (fun z h4 le4 hz => ?_)
  obtain ⟨a6, c5, a7, c6, a8, c7⟩ := z
  obtain ⟨q15, q16, q17, q18, q19, q20⟩ := hz
  refine bs2 (cs := #[.int .i64 0]) (pv := [(0, .int .i64 0)]) tS22 rfl rfl (by decide) (by decide) rfl rfl rfl (fun a9 _ => ?_)
  refine .cast (A' := [OwnSl 3 1 a9 (([0] : List Int).length) 1 (flL ([0] : List Int)), Box pf [.int .i64 r3.2.2.code, .int .i64 r3.2.2.index], tru]) rfl ?_
  refine .freezeL (k := 0) rfl (fun h5 le5 q23 q22 => ?_)
  refine .cast (A' := [tru, Box pf [.int .i64 r3.2.2.code, .int .i64 r3.2.2.index], tru]) rfl ?_
  obtain ⟨r5, q24⟩ : ∃ y_ : List (List Int) × Fault, y_ = sp_initial r4 ([0] : List Int) := ⟨_, rfl⟩
  replace hF := hF r5 q24
  refine clR (α := Option Addr × Nat) (Φ := fun h1 z => RSl h1 z.1 r5.1 ∧ r5.1.length ≤ z.2) (V := fun z => .tuple #[.slice z.1 r5.1.length z.2, .agg #[.int .i64 r5.2.code, .int .i64 r5.2.index]]) Tryz.call20 rfl rfl (fun w S => (by rw [q24]; exact c_initial S.sub r4 a6 c5 (q15.mono (le5)) q16 a7 c6 (q17.mono (le5)) q18 a8 c7 (q19.mono (le5)) q20 ([0] : List Int) a9 1 (RSl.of q22) (q23) )) rfl (fun z h6 le6 hz => ?_)
  obtain ⟨a10, c8⟩ := z
  obtain ⟨q25, q26⟩ := hz
  refine .v (mv rfl) rfl rfl rfl ?_
  refine .v (ext rfl rfl) rfl rfl rfl ?_
  refine .v (ext rfl rfl) rfl rfl rfl ?_
  refine al tZ27 rfl (fun pg => ?_)
  refine .v (asg rfl) rfl rfl rfl ?_
  refine st (p := pg) (off := 0) (k := 0) (vs := [.int .i64 r5.2.code, .int .i64 r5.2.index]) rfl rfl rfl (fun w => (tA27 w).2) rfl rfl rfl rfl ?_
  refine .cast (A' := [Box pg [.int .i64 r5.2.code, .int .i64 r5.2.index], tru, Box pf [.int .i64 r3.2.2.code, .int .i64 r3.2.2.index], tru]) rfl ?_
  refine .nil ?_
  refine .seqN ?_
  refine .seq ?_
  refine .region ?_
  refine .v (fa rfl tF27_0) rfl rfl rfl ?_
  refine .v (ld1 rfl tO3 (cellB (off := 0) (k := 2) rfl rfl)) rfl rfl rfl ?_
  refine .v (bi rfl rfl rfl) rfl rfl rfl ?_
  refine .v (mv rfl) rfl rfl rfl ?_
  rcases Bool.eq_false_or_eq_true (r3.2.2.code == 0) with q40 | q40
  · replace hF := hF.1 q40
    refine .gv (fa rfl tF27_0) rfl rfl rfl q40 rfl rfl ?_
    refine .gv (ld1 rfl tO3 (cellB (off := 0) (k := 0) rfl rfl)) rfl rfl rfl q40 rfl rfl ?_
    refine .gv (bi rfl rfl rfl) rfl rfl rfl q40 rfl rfl ?_
    refine .v (pkT rfl q40 rfl) rfl rfl rfl ?_
    refine .v (mv rfl) rfl rfl rfl ?_
    rcases Bool.eq_false_or_eq_true (r5.2.code == 0) with q41 | q41
    · replace hF := hF.1 q41
      refine .gv (mv rfl) rfl rfl rfl q41 rfl rfl ?_
      refine .v (pkT rfl q41 rfl) rfl rfl rfl ?_
      refine .v (mv rfl) rfl rfl rfl ?_
      rcases Bool.eq_false_or_eq_true (r3.2.1) with q42 | q42
      · replace hF := hF.1 q42
        refine .gv (mv rfl) rfl rfl rfl q42 rfl rfl ?_
        refine .gR rfl rfl rfl q42 ?_
        refine bs2 (cs := #[.int .i64 0]) (pv := [(0, .int .i64 0)]) tS22 rfl rfl (by decide) (by decide) rfl rfl rfl (fun a11 _ => ?_)
        refine .cast (A' := [OwnSl 3 1 a11 (([0] : List Int).length) 1 (flL ([0] : List Int)), Box pg [.int .i64 r5.2.code, .int .i64 r5.2.index], tru, Box pf [.int .i64 r3.2.2.code, .int .i64 r3.2.2.index], tru]) rfl ?_
        obtain ⟨q44, hF⟩ := hF
        obtain ⟨r6, q45⟩ : ∃ y_ : Bool, y_ = sp_numbers r3.1 ([0] : List Int) := ⟨_, rfl⟩
        replace hF := hF r6 q45
        refine .gc (cl (v := .bool r6) Tryz.call19 rfl rfl (fun w S => (by rw [q45]; obtain ⟨h_, hl_, hs_, hne_, hr_⟩ := look S (k := 0) rfl; exact c_numbers hs_ r3.1 a5 c4 (RSl.mono hl_ (q12.mono (FH.le_trans (FH.le_trans (le4) (le5)) (le6)))) q13 ([0] : List Int) a11 1 (RSl.of hr_) (look_len S (k := 0) rfl) q44))) rfl rfl rfl q42 rfl rfl ?_
        refine .v (pkT rfl q42 rfl) rfl rfl rfl ?_
        refine .v (mv rfl) rfl rfl rfl ?_
        rcases Bool.eq_false_or_eq_true (r6) with q46 | q46
        · replace hF := hF.1 q46
          refine .gv (mv rfl) rfl rfl rfl q46 rfl rfl ?_
          refine .gR rfl rfl rfl q46 ?_
          refine bs2 (cs := #[.int .i64 0]) (pv := [(0, .int .i64 0)]) tS22 rfl rfl (by decide) (by decide) rfl rfl rfl (fun a12 _ => ?_)
          refine .cast (A' := [OwnSl 3 1 a12 (([0] : List Int).length) 1 (flL ([0] : List Int)), OwnSl 3 1 a11 (([0] : List Int).length) 1 (flL ([0] : List Int)), Box pg [.int .i64 r5.2.code, .int .i64 r5.2.index], tru, Box pf [.int .i64 r3.2.2.code, .int .i64 r3.2.2.index], tru]) rfl ?_
          refine .gR rfl rfl rfl q46 ?_
          refine .freezeL (k := 0) rfl (fun h8 le8 q49 q48 => ?_)
          refine .cast (A' := [tru, OwnSl 3 1 a11 (([0] : List Int).length) 1 (flL ([0] : List Int)), Box pg [.int .i64 r5.2.code, .int .i64 r5.2.index], tru, Box pf [.int .i64 r3.2.2.code, .int .i64 r3.2.2.index], tru]) rfl ?_
          refine bs2 (cs := #[.slice none 0 0, .slice a12 (([0] : List Int).length) 1]) (pv := [(0, .slice none 0 0), (1, .slice a12 (([0] : List Int).length) 1)]) tS35 rfl rfl (by decide) (by decide) rfl rfl rfl (fun a13 _ => ?_)
          refine .cast (A' := [OwnSl 22 1 a13 (([[], ([0] : List Int)] : List (List Int)).length) 2 [.slice none 0 0, .slice a12 (([0] : List Int).length) 1], tru, OwnSl 3 1 a11 (([0] : List Int).length) 1 (flL ([0] : List Int)), Box pg [.int .i64 r5.2.code, .int .i64 r5.2.index], tru, Box pf [.int .i64 r3.2.2.code, .int .i64 r3.2.2.index], tru]) rfl ?_
          obtain ⟨q51, hF⟩ := hF
          obtain ⟨r7, q52⟩ : ∃ y_ : Bool, y_ = sp_sets r5.1 ([[], ([0] : List Int)] : List (List Int)) := ⟨_, rfl⟩
          replace hF := hF r7 q52
          refine .gc (cl (v := .bool r7) Tryz.call23 rfl rfl (fun w S => (by rw [q52]; obtain ⟨h_, hl_, hs_, hne_, hr_⟩ := look S (k := 0) rfl; exact c_sets hs_ r5.1 a10 c8 (RSl.mono hl_ (q25.mono (le8))) q26 ([[], ([0] : List Int)] : List (List Int)) a13 2 ⟨_, RepL.mono (FH.le_trans (FH.le_refl _) hl_) (show RepL h8 ([[], ([0] : List Int)] : List (List Int)) [.slice none 0 0, .slice a12 (([0] : List Int).length) 1] from ⟨[.slice none 0 0], _, rfl, ⟨none, 0, rfl, Nat.le_refl 0, RSl.nil_⟩, ⟨[.slice a12 (([0] : List Int).length) 1], _, rfl, ⟨a12, 1, rfl, (q49), (RSl.of q48)⟩, rfl⟩⟩), hr_⟩ (look_len S (k := 0) rfl) q51))) rfl rfl rfl q46 rfl rfl ?_
          refine .v (pkT rfl q46 rfl) rfl rfl rfl ?_
          refine .v (asg rfl) rfl rfl rfl ?_
          refine .nil ?_
          refine .seqN ?_
          refine .ret ?_
          refine .res1 rfl (rvT rfl) (fun w' S => ⟨r7, hF, rfl, S.below⟩)
        replace hF := hF.2 q46
        refine .gS rfl rfl rfl q46 rfl rfl ?_
        refine .gS rfl rfl rfl q46 rfl rfl ?_
        refine .gS rfl rfl rfl q46 rfl rfl ?_
        refine .gS rfl rfl rfl q46 rfl rfl ?_
        refine .v (pkF rfl q46 rfl) rfl rfl rfl ?_
        refine .v (asg rfl) rfl rfl rfl ?_
        refine .nil ?_
        refine .seqN ?_
        refine .ret ?_
        refine .res1 rfl (rvT rfl) (fun w' S => ⟨false, hF, rfl, S.below⟩)
      replace hF := hF.2 q42
      refine .gS rfl rfl rfl q42 rfl rfl ?_
      refine .gS rfl rfl rfl q42 rfl rfl ?_
      refine .gS rfl rfl rfl q42 rfl rfl ?_
      refine .v (pkF rfl q42 rfl) rfl rfl rfl ?_
      refine .v (mv rfl) rfl rfl rfl ?_
      refine .gS rfl rfl rfl rfl rfl rfl ?_
      refine .gS rfl rfl rfl rfl rfl rfl ?_
      refine .gS rfl rfl rfl rfl rfl rfl ?_
      refine .gS rfl rfl rfl rfl rfl rfl ?_
      refine .v (pkF rfl rfl rfl) rfl rfl rfl ?_
      refine .v (asg rfl) rfl rfl rfl ?_
      refine .nil ?_
      refine .seqN ?_
      refine .ret ?_
      refine .res1 rfl (rvT rfl) (fun w' S => ⟨false, hF, rfl, S.below⟩)
    replace hF := hF.2 q41
    refine .gS rfl rfl rfl q41 rfl rfl ?_
    refine .v (pkF rfl q41 rfl) rfl rfl rfl ?_
    refine .v (mv rfl) rfl rfl rfl ?_
    refine .gS rfl rfl rfl rfl rfl rfl ?_
    refine .gS rfl rfl rfl rfl rfl rfl ?_
    refine .gS rfl rfl rfl rfl rfl rfl ?_
    refine .v (pkF rfl rfl rfl) rfl rfl rfl ?_
    refine .v (mv rfl) rfl rfl rfl ?_
    refine .gS rfl rfl rfl rfl rfl rfl ?_
    refine .gS rfl rfl rfl rfl rfl rfl ?_
    refine .gS rfl rfl rfl rfl rfl rfl ?_
    refine .gS rfl rfl rfl rfl rfl rfl ?_
    refine .v (pkF rfl rfl rfl) rfl rfl rfl ?_
    refine .v (asg rfl) rfl rfl rfl ?_
    refine .nil ?_
    refine .seqN ?_
    refine .ret ?_
    refine .res1 rfl (rvT rfl) (fun w' S => ⟨false, hF, rfl, S.below⟩)
  replace hF := hF.2 q40
  refine .gS rfl rfl rfl q40 rfl rfl ?_
  refine .gS rfl rfl rfl q40 rfl rfl ?_
  refine .gS rfl rfl rfl q40 rfl rfl ?_
  refine .v (pkF rfl q40 rfl) rfl rfl rfl ?_
  refine .v (mv rfl) rfl rfl rfl ?_
  refine .gS rfl rfl rfl rfl rfl rfl ?_
  refine .v (pkF rfl rfl rfl) rfl rfl rfl ?_
  refine .v (mv rfl) rfl rfl rfl ?_
  refine .gS rfl rfl rfl rfl rfl rfl ?_
  refine .gS rfl rfl rfl rfl rfl rfl ?_
  refine .gS rfl rfl rfl rfl rfl rfl ?_
  refine .v (pkF rfl rfl rfl) rfl rfl rfl ?_
  refine .v (mv rfl) rfl rfl rfl ?_
  refine .gS rfl rfl rfl rfl rfl rfl ?_
  refine .gS rfl rfl rfl rfl rfl rfl ?_
  refine .gS rfl rfl rfl rfl rfl rfl ?_
  refine .gS rfl rfl rfl rfl rfl rfl ?_
  refine .v (pkF rfl rfl rfl) rfl rfl rfl ?_
  refine .v (asg rfl) rfl rfl rfl ?_
  refine .nil ?_
  refine .seqN ?_
  refine .ret ?_
  refine .res1 rfl (rvT rfl) (fun w' S => ⟨false, hF, rfl, S.below⟩)

theorem c_settled {h : FH} {w : World} (hs : Sub h w) (ht : TabH Tryz.prog h) : Calls Tryz.prog 14 #[] w fun e w' => e = .returned (.bool (sp_settled)) ∧ Below w.heap.size w w' :=
  (w_settled hs ht  (fun r => r = sp_settled) (ok_settled )).mono fun _ _ ⟨_, hk, he, hb⟩ => ⟨by rw [he, hk], hb⟩

set_option maxHeartbeats 8000000 in
theorem w_lawBeliefSolves {h : FH} {w : World} (hs : Sub h w) (ht : TabH Tryz.prog h) (t : Task) (at_ : Option Addr) (ct : Nat) (_q1 : RSl h at_ t.init) (_q2 : t.init.length ≤ ct) (at_2 : Option Addr) (ct2 : Nat) (_q3 : RSl h at_2 t.goal) (_q4 : t.goal.length ≤ ct2) (at_3 : Option Addr) (ct3 : Nat) (_q5 : RSl h at_3 t.ops) (_q6 : t.ops.length ≤ ct3) (unknown : List Int) (aunknown : Option Addr) (cunknown : Nat) (_q7 : RSl h aunknown unknown) (_q8 : unknown.length ≤ cunknown) (plan : List Int) (aplan : Option Addr) (cplan : Nat) (_q9 : RSl h aplan plan) (_q10 : plan.length ≤ cplan) (K : Bool → Prop) (hF : F_lawBeliefSolves t unknown plan K) : Calls Tryz.prog 5 #[.agg #[.int .i64 t.facts, .slice at_ t.init.length ct, .slice at_2 t.goal.length ct2, .slice at_3 t.ops.length ct3], .slice aunknown unknown.length cunknown, .slice aplan plan.length cplan] w fun e w' => ∃ r : Bool, K r ∧ e = .returned (.bool r) ∧ Below w.heap.size w w' := by
  refine enter (args := [.agg #[.int .i64 t.facts, .slice at_ t.init.length ct, .slice at_2 t.goal.length ct2, .slice at_3 t.ops.length ct3], .slice aunknown unknown.length cunknown, .slice aplan plan.length cplan]) Tryz.func5 rfl Tryz.ntmps5 rfl hs ?_
  refine .seq ?_
  refine .region ?_
  refine bx (vs := [.int .i64 t.facts, .slice at_ t.init.length ct, .slice at_2 t.goal.length ct2, .slice at_3 t.ops.length ct3]) rfl rfl rfl (fun pt => ?_)
  refine .v (asg rfl) rfl rfl rfl ?_
  refine .nil ?_
  refine .seqN ?_
  refine .seq ?_
  refine .region ?_
  refine .v (ldA (cs := [.int .i64 t.facts, .slice at_ t.init.length ct, .slice at_2 t.goal.length ct2, .slice at_3 t.ops.length ct3]) rfl tA25 rfl (cellsB (off := 0) (k := 0) rfl (m := 4) rfl)) rfl rfl rfl ?_
  refine .v (mv rfl) rfl rfl rfl ?_
  refine .v (mv rfl) rfl rfl rfl ?_
  obtain ⟨r2, q11⟩ : ∃ y_ : Bool × Fault, y_ = sp_bsolves t unknown plan := ⟨_, rfl⟩
  replace hF := hF r2 q11
  refine .c (cl (v := .tuple #[.bool r2.1, .agg #[.int .i64 r2.2.code, .int .i64 r2.2.index]]) Tryz.call29 rfl rfl (fun w S => (by rw [q11]; exact c_bsolves S.sub t at_ ct _q1 _q2 at_2 ct2 _q3 _q4 at_3 ct3 _q5 _q6 unknown aunknown cunknown _q7 _q8 plan aplan cplan _q9 _q10 ))) rfl rfl rfl ?_
  refine .v (mv rfl) rfl rfl rfl ?_
  refine .v (ext rfl rfl) rfl rfl rfl ?_
  refine .v (ext rfl rfl) rfl rfl rfl ?_
  refine al tZ27 rfl (fun pf => ?_)
  refine .v (asg rfl) rfl rfl rfl ?_
  refine st (p := pf) (off := 0) (k := 0) (vs := [.int .i64 r2.2.code, .int .i64 r2.2.index]) rfl rfl rfl (fun w => (tA27 w).2) rfl rfl rfl rfl ?_
  refine .cast (A' := [Box pf [.int .i64 r2.2.code, .int .i64 r2.2.index], Box pt [.int .i64 t.facts, .slice at_ t.init.length ct, .slice at_2 t.goal.length ct2, .slice at_3 t.ops.length ct3]]) rfl ?_
  refine .nil ?_
  refine .seqN ?_
  refine .seq ?_
  refine .region ?_
  refine .v (ldA (cs := [.int .i64 t.facts, .slice at_ t.init.length ct, .slice at_2 t.goal.length ct2, .slice at_3 t.ops.length ct3]) rfl tA25 rfl (cellsB (off := 0) (k := 1) rfl (m := 4) rfl)) rfl rfl rfl ?_
  refine .v (mv rfl) rfl rfl rfl ?_
  obtain ⟨r3, q12⟩ : ∃ y_ : Fault, y_ = sp_unknownFault t unknown := ⟨_, rfl⟩
  replace hF := hF r3 q12
  refine .c (cl (v := .agg #[.int .i64 r3.code, .int .i64 r3.index]) Tryz.call13 rfl rfl (fun w S => (by rw [q12]; exact c_rUnknownFault S.sub t at_ ct _q1 _q2 at_2 ct2 _q3 _q4 at_3 ct3 _q5 _q6 unknown aunknown cunknown _q7 _q8 ))) rfl rfl rfl ?_
  refine al tZ27 rfl (fun pe => ?_)
  refine st (p := pe) (off := 0) (k := 0) (vs := [.int .i64 r3.code, .int .i64 r3.index]) rfl rfl rfl (fun w => (tA27 w).2) rfl rfl rfl rfl ?_
  refine .cast (A' := [Box pe [.int .i64 r3.code, .int .i64 r3.index], Box pf [.int .i64 r2.2.code, .int .i64 r2.2.index], Box pt [.int .i64 t.facts, .slice at_ t.init.length ct, .slice at_2 t.goal.length ct2, .slice at_3 t.ops.length ct3]]) rfl ?_
  refine .nil ?_
  refine .seqN ?_
  refine .seq ?_
  refine .seq ?_
  refine .region ?_
  refine .v (fa rfl tF27_0) rfl rfl rfl ?_
  refine .v (ld1 rfl tO3 (cellB (off := 0) (k := 0) rfl rfl)) rfl rfl rfl ?_
  refine .v (bi rfl rfl rfl) rfl rfl rfl ?_
  refine .nil ?_
  refine .seqN ?_
  refine .shareT (σ := Int × Int) (fun z => F_lawBeliefSolves_J1 t unknown plan K r2 z.1 z.2) (fun _ => [(1, .slice aunknown unknown.length cunknown), (2, .slice aplan plan.length cplan), (3, .pointer (some pt)), (7, .bool r2.1), (8, .pointer (some pf)), (9, .pointer (some pe))]) (fun z => [Box pt [.int .i64 t.facts, .slice at_ t.init.length ct, .slice at_2 t.goal.length ct2, .slice at_3 t.ops.length ct3], Box pf [.int .i64 r2.2.code, .int .i64 r2.2.index], Box pe [.int .i64 z.1, .int .i64 z.2]]) (fun _ => h) ?_ (fun q16 => ?_)
  · rintro ⟨x, x2⟩ hF
    show J _ _ _ _ _ [(1, .slice aunknown unknown.length cunknown), (2, .slice aplan plan.length cplan), (3, .pointer (some pt)), (7, .bool r2.1), (8, .pointer (some pf)), (9, .pointer (some pe))] [Box pt [.int .i64 t.facts, .slice at_ t.init.length ct, .slice at_2 t.goal.length ct2, .slice at_3 t.ops.length ct3], Box pf [.int .i64 r2.2.code, .int .i64 r2.2.index], Box pe [.int .i64 x, .int .i64 x2]] h
    refine .seq ?_
    refine .seq ?_
    refine .region ?_
    refine .v (fa rfl tF27_0) rfl rfl rfl ?_
    refine .v (ld1 rfl tO3 (cellB (off := 0) (k := 2) rfl rfl)) rfl rfl rfl ?_
    refine .v (bi rfl rfl rfl) rfl rfl rfl ?_
    refine .nil ?_
    refine .seqN ?_
    refine .cond rfl (fun q24 => ?_) (fun q24 => ?_)
    · replace hF := hF.1 q24
      refine .seq ?_
      refine .region ?_
      refine .v (ldA (cs := [.int .i64 r2.2.code, .int .i64 r2.2.index]) rfl tA27 rfl (cellsB (off := 0) (k := 1) rfl (m := 2) rfl)) rfl rfl rfl ?_
      refine .v (ldA (cs := [.int .i64 x, .int .i64 x2]) rfl tA27 rfl (cellsB (off := 0) (k := 2) rfl (m := 2) rfl)) rfl rfl rfl ?_
      refine .v (eq2 tE27 rfl rfl) rfl rfl rfl ?_
      refine .v (mv rfl) rfl rfl rfl ?_
      rcases Bool.eq_false_or_eq_true ((r2.2.code == x) && (r2.2.index == x2)) with q28 | q28
      · replace hF := hF.1 q28
        refine .gv (mv rfl) rfl rfl rfl q28 rfl rfl ?_
        refine .gv (nt rfl) rfl rfl rfl q28 rfl rfl ?_
        refine .v (pkT rfl q28 rfl) rfl rfl rfl ?_
        refine .v (mv rfl) rfl rfl rfl ?_
        rcases Bool.eq_false_or_eq_true (!r2.1) with q29 | q29
        · replace hF := hF.1 q29
          obtain ⟨r4, q30⟩ : ∃ y_ : Bool, y_ = sp_settled := ⟨_, rfl⟩
          replace hF := hF r4 q30
          refine .gc (cl (v := .bool r4) Tryz.call14 rfl rfl (fun w S => (by rw [q30]; exact c_settled S.sub (ht.mono (FH.le_refl _)) ))) rfl rfl rfl q29 rfl rfl ?_
          refine .v (pkT rfl q29 rfl) rfl rfl rfl ?_
          refine .v (asg rfl) rfl rfl rfl ?_
          refine .nil ?_
          refine .seqN ?_
          refine .ret ?_
          refine .seqR ?_
          refine .res1 rfl (rvT rfl) (fun w' S => ⟨r4, hF, rfl, S.below⟩)
        replace hF := hF.2 q29
        refine .gS rfl rfl rfl q29 rfl rfl ?_
        refine .v (pkF rfl q29 rfl) rfl rfl rfl ?_
        refine .v (asg rfl) rfl rfl rfl ?_
        refine .nil ?_
        refine .seqN ?_
        refine .ret ?_
        refine .seqR ?_
        refine .res1 rfl (rvT rfl) (fun w' S => ⟨false, hF, rfl, S.below⟩)
      replace hF := hF.2 q28
      refine .gS rfl rfl rfl q28 rfl rfl ?_
      refine .gS rfl rfl rfl q28 rfl rfl ?_
      refine .v (pkF rfl q28 rfl) rfl rfl rfl ?_
      refine .v (mv rfl) rfl rfl rfl ?_
      refine .gS rfl rfl rfl rfl rfl rfl ?_
      refine .v (pkF rfl rfl rfl) rfl rfl rfl ?_
      refine .v (asg rfl) rfl rfl rfl ?_
      refine .nil ?_
      refine .seqN ?_
      refine .ret ?_
      refine .seqR ?_
      refine .res1 rfl (rvT rfl) (fun w' S => ⟨false, hF, rfl, S.below⟩)
    replace hF := hF.2 q24
    refine .skip ?_
    refine .seqN ?_
    refine .seq ?_
    refine .region ?_
    refine .v (ldA (cs := [.int .i64 t.facts, .slice at_ t.init.length ct, .slice at_2 t.goal.length ct2, .slice at_3 t.ops.length ct3]) rfl tA25 rfl (cellsB (off := 0) (k := 0) rfl (m := 4) rfl)) rfl rfl rfl ?_
    refine .v (mv rfl) rfl rfl rfl ?_
    obtain ⟨q31, hF⟩ := hF
    obtain ⟨r5, q32⟩ : ∃ y_ : List (List Int), y_ = sp_possible t unknown := ⟨_, rfl⟩
    replace hF := hF r5 q32
    refine clR (α := Option Addr × Nat) (Φ := fun h1 z => RSl h1 z.1 r5 ∧ r5.length ≤ z.2) (V := fun z => .slice z.1 r5.length z.2) Tryz.call16 rfl rfl (fun w S => (by rw [q32]; exact c_possible S.sub t at_ ct _q1 _q2 at_2 ct2 _q3 _q4 at_3 ct3 _q5 _q6 unknown aunknown cunknown _q7 _q8 q31)) rfl (fun z h1 le1 hz => ?_)
    obtain ⟨a, c⟩ := z
    obtain ⟨q33, q34⟩ := hz
    refine .v (asg rfl) rfl rfl rfl ?_
    refine .nil ?_
    refine .seqN ?_
    refine .seq ?_
    refine .region ?_
    refine .v (asg rfl) rfl rfl rfl ?_
    refine .nil ?_
    refine .seqN ?_
    refine .seq ?_
    refine .seq ?_
    refine .region ?_
    refine .v (asg rfl) rfl rfl rfl ?_
    refine .nil ?_
    refine .seqN ?_
    refine .block ?_
    refine .sel0 [0, 1] (by decide) rfl ?_
    obtain ⟨I1, μ1, q128, q129⟩ := hF
    refine .loop' (σ := Bool × Int) (fun z => I1 z.1 z.2) (fun z => μ1 z.1 z.2) (fun z => [(2, .slice aplan plan.length cplan), (3, .pointer (some pt)), (7, .bool r2.1), (8, .pointer (some pf)), (10, .slice a r5.length c), (11, .bool z.1), (12, .int .i64 z.2)]) (fun _ => [Box pt [.int .i64 t.facts, .slice at_ t.init.length ct, .slice at_2 t.goal.length ct2, .slice at_3 t.ops.length ct3], Box pf [.int .i64 r2.2.code, .int .i64 r2.2.index]]) (fun _ => h1) (true, 0) q128 (.cons rfl (.cons rfl (.cons rfl (.cons rfl (.cons rfl (.cons rfl (.cons rfl (.nil)))))))) rfl (FH.le_refl _) ?_
    rintro ⟨all, i⟩ q128
    have hF := q129 all i q128
    show J _ _ _ _ _ [(2, .slice aplan plan.length cplan), (3, .pointer (some pt)), (7, .bool r2.1), (8, .pointer (some pf)), (10, .slice a r5.length c), (11, .bool all), (12, .int .i64 i)] [Box pt [.int .i64 t.facts, .slice at_ t.init.length ct, .slice at_2 t.goal.length ct2, .slice at_3 t.ops.length ct3], Box pf [.int .i64 r2.2.code, .int .i64 r2.2.index]] h1
    refine .seq ?_
    refine .seq ?_
    refine .region ?_
    refine .v (mv rfl) rfl rfl rfl ?_
    refine .v (mv rfl) rfl rfl rfl ?_
    refine .v (ln rfl tS35.is) rfl rfl rfl ?_
    refine .v (bi rfl rfl rfl) rfl rfl rfl ?_
    refine .nil ?_
    refine .seqN ?_
    refine .cond rfl (fun q131 => ?_) (fun q131 => ?_)
    · replace hF := hF.1 q131
      refine .skip ?_
      refine .seqN ?_
      refine .share (σ := Bool) (fun z => F_lawBeliefSolves_J2 all i I1 μ1 z) (fun z => [(2, .slice aplan plan.length cplan), (3, .pointer (some pt)), (7, .bool r2.1), (8, .pointer (some pf)), (10, .slice a r5.length c), (11, .bool z), (12, .int .i64 i)]) (fun _ => [Box pt [.int .i64 t.facts, .slice at_ t.init.length ct, .slice at_2 t.goal.length ct2, .slice at_3 t.ops.length ct3], Box pf [.int .i64 r2.2.code, .int .i64 r2.2.index]]) (fun _ => h1) ?_ (fun q139 => ?_)
      · rintro all3 hF
        show J _ _ _ _ _ [(2, .slice aplan plan.length cplan), (3, .pointer (some pt)), (7, .bool r2.1), (8, .pointer (some pf)), (10, .slice a r5.length c), (11, .bool all3), (12, .int .i64 i)] [Box pt [.int .i64 t.facts, .slice at_ t.init.length ct, .slice at_2 t.goal.length ct2, .slice at_3 t.ops.length ct3], Box pf [.int .i64 r2.2.code, .int .i64 r2.2.index]] h1
        refine .region ?_
        refine .v (mv rfl) rfl rfl rfl ?_
        refine .v (bi rfl rfl rfl) rfl rfl rfl ?_
        refine .v (asg rfl) rfl rfl rfl ?_
        refine .nil ?_
        exact .round (all3, IntKind.i64.wrap (i + 1)) hF.1 hF.2 (.cons rfl (.cons rfl (.cons rfl (.cons rfl (.cons rfl (.cons rfl (.cons rfl (.nil)))))))) rfl (FH.le_refl _)
      refine .block ?_
      refine .open_ (by kernel_rfl) (by kernel_rfl) ?_
      refine .v (mv rfl) rfl rfl rfl ?_
      refine .v (mv rfl) rfl rfl rfl ?_
      rcases Bool.eq_false_or_eq_true (all) with q140 | q140
      · replace hF := hF.1 q140
        refine .gv (ldA (cs := [.int .i64 t.facts, .slice at_ t.init.length ct, .slice at_2 t.goal.length ct2, .slice at_3 t.ops.length ct3]) rfl tA25 rfl (cellsB (off := 0) (k := 0) rfl (m := 4) rfl)) rfl rfl rfl q140 rfl rfl ?_
        refine .gv (mv rfl) rfl rfl rfl q140 rfl rfl ?_
        refine .gv (mv rfl) rfl rfl rfl q140 rfl rfl ?_
        obtain ⟨q141, hF⟩ := hF
        refine .gv (ix rfl rfl tS35 (q33.ne (by decide) (inb_pos q141)) q141) rfl rfl rfl q140 rfl rfl ?_
        obtain ⟨_, ⟨a2, c2, rfl, q142, q143⟩, q144⟩ := q33.elem q141
        refine .gv (ld1 (v := .slice a2 ((gt r5 i).length) c2) rfl tO22 (cellH (q144 (by decide) 0 _ rfl))) rfl rfl rfl q140 rfl rfl ?_
        refine .gv (mv rfl) rfl rfl rfl q140 rfl rfl ?_
        obtain ⟨q145, hF⟩ := hF
        obtain ⟨r6, q146⟩ : ∃ y_ : Bool, y_ = sp_rworks t (gt r5 i) plan := ⟨_, rfl⟩
        replace hF := hF r6 q146
        refine .gc (cl (v := .bool r6) Tryz.call31 rfl rfl (fun w S => (by rw [q146]; exact c_rworks S.sub t at_ ct (_q1.mono (le1)) _q2 at_2 ct2 (_q3.mono (le1)) _q4 at_3 ct3 (_q5.mono (le1)) _q6 (gt r5 i) a2 c2 q143 q142 plan aplan cplan (_q9.mono (le1)) _q10 q145))) rfl rfl rfl q140 rfl rfl ?_
        refine .v (pkT rfl q140 rfl) rfl rfl rfl ?_
        refine .v (asg rfl) rfl rfl rfl ?_
        refine .fin ?_
        refine .blkN ?_
        exact .use q139 r6 hF (.cons rfl (.cons rfl (.cons rfl (.cons rfl (.cons rfl (.cons rfl (.cons rfl (.nil)))))))) rfl (FH.le_refl _)
      replace hF := hF.2 q140
      refine .gS rfl rfl rfl q140 rfl rfl ?_
      refine .gS rfl rfl rfl q140 rfl rfl ?_
      refine .gS rfl rfl rfl q140 rfl rfl ?_
      refine .gS rfl rfl rfl q140 rfl rfl ?_
      refine .gS rfl rfl rfl q140 rfl rfl ?_
      refine .gS rfl rfl rfl q140 rfl rfl ?_
      refine .gS rfl rfl rfl q140 rfl rfl ?_
      refine .v (pkF rfl q140 rfl) rfl rfl rfl ?_
      refine .v (asg rfl) rfl rfl rfl ?_
      refine .fin ?_
      refine .blkN ?_
      exact .use q139 false hF (.cons rfl (.cons rfl (.cons rfl (.cons rfl (.cons rfl (.cons rfl (.cons rfl (.nil)))))))) rfl (FH.le_refl _)
    replace hF := hF.2 q131
    refine .exit ?_
    refine .seqX ?_
    refine .seqX ?_
    refine .blkX ?_
    refine .seqN ?_
    refine .seq ?_
    refine .region ?_
    refine .v (fa rfl tF27_0) rfl rfl rfl ?_
    refine .v (ld1 rfl tO3 (cellB (off := 0) (k := 1) rfl rfl)) rfl rfl rfl ?_
    refine .v (bi rfl rfl rfl) rfl rfl rfl ?_
    refine .v (mv rfl) rfl rfl rfl ?_
    rcases Bool.eq_false_or_eq_true (r2.2.code == 0) with q150 | q150
    · replace hF := hF.1 q150
      refine .gv (mv rfl) rfl rfl rfl q150 rfl rfl ?_
      refine .gv (mv rfl) rfl rfl rfl q150 rfl rfl ?_
      refine .gv (beql Tryz.underlying4 rfl rfl) rfl rfl rfl q150 rfl rfl ?_
      refine .v (pkT rfl q150 rfl) rfl rfl rfl ?_
      refine .v (mv rfl) rfl rfl rfl ?_
      rcases Bool.eq_false_or_eq_true (r2.1 == all) with q151 | q151
      · replace hF := hF.1 q151
        obtain ⟨r7, q152⟩ : ∃ y_ : Bool, y_ = sp_settled := ⟨_, rfl⟩
        replace hF := hF r7 q152
        refine .gc (cl (v := .bool r7) Tryz.call14 rfl rfl (fun w S => (by rw [q152]; exact c_settled S.sub (ht.mono (le1)) ))) rfl rfl rfl q151 rfl rfl ?_
        refine .v (pkT rfl q151 rfl) rfl rfl rfl ?_
        refine .v (asg rfl) rfl rfl rfl ?_
        refine .nil ?_
        refine .seqN ?_
        refine .ret ?_
        refine .res1 rfl (rvT rfl) (fun w' S => ⟨r7, hF, rfl, S.below⟩)
      replace hF := hF.2 q151
      refine .gS rfl rfl rfl q151 rfl rfl ?_
      refine .v (pkF rfl q151 rfl) rfl rfl rfl ?_
      refine .v (asg rfl) rfl rfl rfl ?_
      refine .nil ?_
      refine .seqN ?_
      refine .ret ?_
      refine .res1 rfl (rvT rfl) (fun w' S => ⟨false, hF, rfl, S.below⟩)
    replace hF := hF.2 q150
    refine .gS rfl rfl rfl q150 rfl rfl ?_
    refine .gS rfl rfl rfl q150 rfl rfl ?_
    refine .gS rfl rfl rfl q150 rfl rfl ?_
    refine .v (pkF rfl q150 rfl) rfl rfl rfl ?_
    refine .v (mv rfl) rfl rfl rfl ?_
    refine .gS rfl rfl rfl rfl rfl rfl ?_
    refine .v (pkF rfl rfl rfl) rfl rfl rfl ?_
    refine .v (asg rfl) rfl rfl rfl ?_
    refine .nil ?_
    refine .seqN ?_
    refine .ret ?_
    refine .res1 rfl (rvT rfl) (fun w' S => ⟨false, hF, rfl, S.below⟩)
  refine .cond rfl (fun q153 => ?_) (fun q153 => ?_)
  · replace hF := hF.1 q153
    refine .region ?_
    refine .v (fa rfl tF25_3) rfl rfl rfl ?_
    refine .v (ld1 rfl tO23 (cellB (off := 3) (k := 2) rfl rfl)) rfl rfl rfl ?_
    refine .v (ln rfl tS23.is) rfl rfl rfl ?_
    refine .v (mv rfl) rfl rfl rfl ?_
    obtain ⟨q154, hF⟩ := hF
    obtain ⟨r8, q155⟩ : ∃ y_ : Fault, y_ = sp_steps ((t.ops.length : Nat) : Int) plan := ⟨_, rfl⟩
    replace hF := hF r8 q155
    refine .c (cl (v := .agg #[.int .i64 r8.code, .int .i64 r8.index]) Tryz.call30 rfl rfl (fun w S => (by rw [q155]; exact c_stepsFault S.sub ((t.ops.length : Nat) : Int) plan aplan cplan _q9 _q10 q154))) rfl rfl rfl ?_
    refine st (p := pe) (off := 0) (k := 0) (vs := [.int .i64 r8.code, .int .i64 r8.index]) rfl rfl rfl (fun w => (tA27 w).2) rfl rfl rfl rfl ?_
    refine .cast (A' := [Box pe [.int .i64 r8.code, .int .i64 r8.index], Box pf [.int .i64 r2.2.code, .int .i64 r2.2.index], Box pt [.int .i64 t.facts, .slice at_ t.init.length ct, .slice at_2 t.goal.length ct2, .slice at_3 t.ops.length ct3]]) rfl ?_
    refine .nil ?_
    refine .sel0 [2, 1, 0] (by decide) rfl ?_
    exact .use q16 (r8.code, r8.index) hF (.cons rfl (.cons rfl (.cons rfl (.cons rfl (.cons rfl (.cons rfl (.nil))))))) rfl (FH.le_refl _)
  replace hF := hF.2 q153
  refine .skip ?_
  refine .sel0 [2, 1, 0] (by decide) rfl ?_
  exact .use q16 (r3.code, r3.index) hF (.cons rfl (.cons rfl (.cons rfl (.cons rfl (.cons rfl (.cons rfl (.nil))))))) rfl (FH.le_refl _)

theorem c_lawBeliefSolves {h : FH} {w : World} (hs : Sub h w) (ht : TabH Tryz.prog h) (t : Task) (at_ : Option Addr) (ct : Nat) (_q1 : RSl h at_ t.init) (_q2 : t.init.length ≤ ct) (at_2 : Option Addr) (ct2 : Nat) (_q3 : RSl h at_2 t.goal) (_q4 : t.goal.length ≤ ct2) (at_3 : Option Addr) (ct3 : Nat) (_q5 : RSl h at_3 t.ops) (_q6 : t.ops.length ≤ ct3) (unknown : List Int) (aunknown : Option Addr) (cunknown : Nat) (_q7 : RSl h aunknown unknown) (_q8 : unknown.length ≤ cunknown) (plan : List Int) (aplan : Option Addr) (cplan : Nat) (_q9 : RSl h aplan plan) (_q10 : plan.length ≤ cplan) : Calls Tryz.prog 5 #[.agg #[.int .i64 t.facts, .slice at_ t.init.length ct, .slice at_2 t.goal.length ct2, .slice at_3 t.ops.length ct3], .slice aunknown unknown.length cunknown, .slice aplan plan.length cplan] w fun e w' => e = .returned (.bool (sp_lawBeliefSolves t unknown plan)) ∧ Below w.heap.size w w' :=
  (w_lawBeliefSolves hs ht t at_ ct _q1 _q2 at_2 ct2 _q3 _q4 at_3 ct3 _q5 _q6 unknown aunknown cunknown _q7 _q8 plan aplan cplan _q9 _q10 (fun r => r = sp_lawBeliefSolves t unknown plan) (ok_lawBeliefSolves t unknown plan)).mono fun _ _ ⟨_, hk, he, hb⟩ => ⟨by rw [he, hk], hb⟩

end Go.Proofs.YtojoehfldbimpaaGreatDoor.Pl

