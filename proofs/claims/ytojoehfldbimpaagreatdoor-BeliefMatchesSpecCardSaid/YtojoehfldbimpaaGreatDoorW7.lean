/- The walks: from what each function asks to what it does; printed from the code. No condition. -/
import Derived.Test.YtojoehfldbimpaaGreatDoorW6
namespace Go.Proofs.YtojoehfldbimpaaGreatDoor.Pl
open Go Go.RowKit
set_option maxHeartbeats 8000000 in
theorem w_settled {h : FH} {w : World} (hs : Sub h w) (ht : TabH Tryz.prog h) (K : Bool → Prop) (hF : F_settled  K) : Calls Tryz.prog 14 #[] w fun e w' => ∃ r : Bool, K r ∧ e = .returned (.bool r) ∧ Below w.heap.size w w' := by
  refine enter (args := []) Tryz.func14 rfl Tryz.ntmps14 rfl hs ?_
  refine .seq ?_
  refine .region ?_
  refine .v (asg rfl) rfl rfl rfl ?_
  refine .nil ?_
  refine .seqN ?_
  refine .seq ?_
  refine .region ?_
  obtain ⟨r2, q1⟩ : ∃ y_ : Task, y_ = sp_able := ⟨_, rfl⟩
  replace hF := hF r2 q1
  refine clR (α := Option Addr × Nat × Option Addr × Nat × Option Addr × Nat) (Φ := fun h1 z => RSl h1 z.1 r2.init ∧ r2.init.length ≤ z.2.1 ∧ RSl h1 z.2.2.1 r2.goal ∧ r2.goal.length ≤ z.2.2.2.1 ∧ RSl h1 z.2.2.2.2.1 r2.ops ∧ r2.ops.length ≤ z.2.2.2.2.2) (V := fun z => .agg #[.int .i64 r2.facts, .slice z.1 r2.init.length z.2.1, .slice z.2.2.1 r2.goal.length z.2.2.2.1, .slice z.2.2.2.2.1 r2.ops.length z.2.2.2.2.2]) Tryz.call54 rfl rfl (fun w S => (by rw [q1]; exact c_able S.sub  )) rfl (fun z h1 le1 hz => ?_)
  obtain ⟨a, c, a2, c2, a3, c3⟩ := z
  obtain ⟨q2, q3, q4, q5, q6, q7⟩ := hz
  refine bs2 (cs := #[.int .i64 0]) (pv := [(0, .int .i64 0)]) tS22 rfl rfl (by decide) (by decide) rfl rfl rfl (fun a4 _ => ?_)
  refine .cast (A' := [OwnSl 3 1 a4 (([0] : List Int).length) 1 (flL ([0] : List Int))]) rfl ?_
  refine .freezeL (k := 0) rfl (fun h2 le2 q10 q9 => ?_)
  refine .cast (A' := [tru]) rfl ?_
  obtain ⟨r3, q11⟩ : ∃ y_ : List Int × Bool × Fault, y_ = sp_bplan r2 ([0] : List Int) := ⟨_, rfl⟩
  replace hF := hF r3 q11
  refine clR (α := Option Addr × Nat) (Φ := fun h1 z => RSl h1 z.1 r3.1 ∧ r3.1.length ≤ z.2) (V := fun z => .tuple #[.slice z.1 r3.1.length z.2, .bool r3.2.1, .agg #[.int .i64 r3.2.2.code, .int .i64 r3.2.2.index]]) Tryz.call12 rfl rfl (fun w S => (by rw [q11]; exact c_bplan S.sub (ht.mono (FH.le_trans (le1) (le2))) r2 a c (q2.mono (le2)) q3 a2 c2 (q4.mono (le2)) q5 a3 c3 (q6.mono (le2)) q7 ([0] : List Int) a4 1 (RSl.of q9) (q10) )) rfl (fun z h3 le3 hz => ?_)
  obtain ⟨a5, c4⟩ := z
  obtain ⟨q12, q13⟩ := hz
  refine .v (mv rfl) rfl rfl rfl ?_
  refine .v (ext rfl rfl) rfl rfl rfl ?_
  refine .v (ext rfl rfl) rfl rfl rfl ?_
  refine .v (ext rfl rfl) rfl rfl rfl ?_
  refine al tZ27 rfl (fun pf => ?_)
  refine .v (asg rfl) rfl rfl rfl ?_
  refine .v (asg rfl) rfl rfl rfl ?_
  refine st (p := pf) (off := 0) (k := 0) (vs := [.int .i64 r3.2.2.code, .int .i64 r3.2.2.index]) rfl rfl rfl (fun w => (tA27 w).2) rfl rfl rfl rfl ?_
  refine .cast (A' := [Box pf [.int .i64 r3.2.2.code, .int .i64 r3.2.2.index], tru]) rfl ?_
  refine .nil ?_
  refine .seqN ?_
  refine .seq ?_
  refine .region ?_
  obtain ⟨r4, q14⟩ : ∃ y_ : Task, y_ = sp_able := ⟨_, rfl⟩
  replace hF := hF r4 q14
  refine clR (α := Option Addr × Nat × Option Addr × Nat × Option Addr × Nat) (Φ := fun h1 z => RSl h1 z.1 r4.init ∧ r4.init.length ≤ z.2.1 ∧ RSl h1 z.2.2.1 r4.goal ∧ r4.goal.length ≤ z.2.2.2.1 ∧ RSl h1 z.2.2.2.2.1 r4.ops ∧ r4.ops.length ≤ z.2.2.2.2.2) (V := fun z => .agg #[.int .i64 r4.facts, .slice z.1 r4.init.length z.2.1, .slice z.2.2.1 r4.goal.length z.2.2.2.1, .slice z.2.2.2.2.1 r4.ops.length z.2.2.2.2.2]) Tryz.call54 rfl rfl (fun w S => (by rw [q14]; exact c_able S.sub  )) rfl (fun z h4 le4 hz => ?_)
  obtain ⟨a6, c5, a7, c6, a8, c7⟩ := z
  obtain ⟨q15, q16, q17, q18, q19, q20⟩ := hz
  refine bs2 (cs := #[.int .i64 0]) (pv := [(0, .int .i64 0)]) tS22 rfl rfl (by decide) (by decide) rfl rfl rfl (fun a9 _ => ?_)
  refine .cast (A' := [OwnSl 3 1 a9 (([0] : List Int).length) 1 (flL ([0] : List Int)), Box pf [.int .i64 r3.2.2.code, .int .i64 r3.2.2.index], tru]) rfl ?_
  refine .freezeL (k := 0) rfl (fun h5 le5 q23 q22 => ?_)
  refine .cast (A' := [tru, Box pf [.int .i64 r3.2.2.code, .int .i64 r3.2.2.index], tru]) rfl ?_
  obtain ⟨r5, q24⟩ : ∃ y_ : List (List Int) × Fault, y_ = sp_initial r4 ([0] : List Int) := ⟨_, rfl⟩
  replace hF := hF r5 q24
  refine clR (α := Option Addr × Nat) (Φ := fun h1 z => RSl h1 z.1 r5.1 ∧ r5.1.length ≤ z.2) (V := fun z => .tuple #[.slice z.1 r5.1.length z.2, .agg #[.int .i64 r5.2.code, .int .i64 r5.2.index]]) Tryz.call20 rfl rfl (fun w S => (by rw [q24]; exact c_initial S.sub r4 a6 c5 (q15.mono (le5)) q16 a7 c6 (q17.mono (le5)) q18 a8 c7 (q19.mono (le5)) q20 ([0] : List Int) a9 1 (RSl.of q22) (q23) )) rfl (fun z h6 le6 hz => ?_)
  obtain ⟨a10, c8⟩ := z
  obtain ⟨q25, q26⟩ := hz
  refine .v (mv rfl) rfl rfl rfl ?_
  refine .v (ext rfl rfl) rfl rfl rfl ?_
  refine .v (ext rfl rfl) rfl rfl rfl ?_
  refine al tZ27 rfl (fun pg => ?_)
  refine .v (asg rfl) rfl rfl rfl ?_
  refine st (p := pg) (off := 0) (k := 0) (vs := [.int .i64 r5.2.code, .int .i64 r5.2.index]) rfl rfl rfl (fun w => (tA27 w).2) rfl rfl rfl rfl ?_
  refine .cast (A' := [Box pg [.int .i64 r5.2.code, .int .i64 r5.2.index], tru, Box pf [.int .i64 r3.2.2.code, .int .i64 r3.2.2.index], tru]) rfl ?_
  refine .nil ?_
  refine .seqN ?_
  refine .seq ?_
  refine .region ?_
  refine .v (fa rfl tF27_0) rfl rfl rfl ?_
  refine .v (ld1 rfl tO3 (cellB (off := 0) (k := 2) rfl rfl)) rfl rfl rfl ?_
  refine .v (bi rfl rfl rfl) rfl rfl rfl ?_
  refine .v (mv rfl) rfl rfl rfl ?_
  rcases Bool.eq_false_or_eq_true (r3.2.2.code == 0) with q40 | q40
  · replace hF := hF.1 q40
    refine .gv (fa rfl tF27_0) rfl rfl rfl q40 rfl rfl ?_
    refine .gv (ld1 rfl tO3 (cellB (off := 0) (k := 0) rfl rfl)) rfl rfl rfl q40 rfl rfl ?_
    refine .gv (bi rfl rfl rfl) rfl rfl rfl q40 rfl rfl ?_
    refine .v (pkT rfl q40 rfl) rfl rfl rfl ?_
    refine .v (mv rfl) rfl rfl rfl ?_
    rcases Bool.eq_false_or_eq_true (r5.2.code == 0) with q41 | q41
    · replace hF := hF.1 q41
      refine .gv (mv rfl) rfl rfl rfl q41 rfl rfl ?_
      refine .v (pkT rfl q41 rfl) rfl rfl rfl ?_
      refine .v (mv rfl) rfl rfl rfl ?_
      rcases Bool.eq_false_or_eq_true (r3.2.1) with q42 | q42
      · replace hF := hF.1 q42
        refine .gv (mv rfl) rfl rfl rfl q42 rfl rfl ?_
        refine .gR rfl rfl rfl q42 ?_
        refine bs2 (cs := #[.int .i64 0]) (pv := [(0, .int .i64 0)]) tS22 rfl rfl (by decide) (by decide) rfl rfl rfl (fun a11 _ => ?_)
        refine .cast (A' := [OwnSl 3 1 a11 (([0] : List Int).length) 1 (flL ([0] : List Int)), Box pg [.int .i64 r5.2.code, .int .i64 r5.2.index], tru, Box pf [.int .i64 r3.2.2.code, .int .i64 r3.2.2.index], tru]) rfl ?_
        obtain ⟨q44, hF⟩ := hF
        obtain ⟨r6, q45⟩ : ∃ y_ : Bool, y_ = sp_numbers r3.1 ([0] : List Int) := ⟨_, rfl⟩
        replace hF := hF r6 q45
        refine .gc (cl (v := .bool r6) Tryz.call19 rfl rfl (fun w S => (by rw [q45]; obtain ⟨h_, hl_, hs_, hne_, hr_⟩ := look S (k := 0) rfl; exact c_numbers hs_ r3.1 a5 c4 (RSl.mono hl_ (q12.mono (FH.le_trans (FH.le_trans (le4) (le5)) (le6)))) q13 ([0] : List Int) a11 1 (RSl.of hr_) (look_len S (k := 0) rfl) q44))) rfl rfl rfl q42 rfl rfl ?_
        refine .v (pkT rfl q42 rfl) rfl rfl rfl ?_
        refine .v (mv rfl) rfl rfl rfl ?_
        rcases Bool.eq_false_or_eq_true (r6) with q46 | q46
        · replace hF := hF.1 q46
          refine .gv (mv rfl) rfl rfl rfl q46 rfl rfl ?_
          refine .gR rfl rfl rfl q46 ?_
          refine bs2 (cs := #[.int .i64 0]) (pv := [(0, .int .i64 0)]) tS22 rfl rfl (by decide) (by decide) rfl rfl rfl (fun a12 _ => ?_)
          refine .cast (A' := [OwnSl 3 1 a12 (([0] : List Int).length) 1 (flL ([0] : List Int)), OwnSl 3 1 a11 (([0] : List Int).length) 1 (flL ([0] : List Int)), Box pg [.int .i64 r5.2.code, .int .i64 r5.2.index], tru, Box pf [.int .i64 r3.2.2.code, .int .i64 r3.2.2.index], tru]) rfl ?_
          refine .gR rfl rfl rfl q46 ?_
          refine .freezeL (k := 0) rfl (fun h8 le8 q49 q48 => ?_)
          refine .cast (A' := [tru, OwnSl 3 1 a11 (([0] : List Int).length) 1 (flL ([0] : List Int)), Box pg [.int .i64 r5.2.code, .int .i64 r5.2.index], tru, Box pf [.int .i64 r3.2.2.code, .int .i64 r3.2.2.index], tru]) rfl ?_
          refine bs2 (cs := #[.slice none 0 0, .slice a12 (([0] : List Int).length) 1]) (pv := [(0, .slice none 0 0), (1, .slice a12 (([0] : List Int).length) 1)]) tS35 rfl rfl (by decide) (by decide) rfl rfl rfl (fun a13 _ => ?_)
          refine .cast (A' := [OwnSl 22 1 a13 (([[], ([0] : List Int)] : List (List Int)).length) 2 [.slice none 0 0, .slice a12 (([0] : List Int).length) 1], tru, OwnSl 3 1 a11 (([0] : List Int).length) 1 (flL ([0] : List Int)), Box pg [.int .i64 r5.2.code, .int .i64 r5.2.index], tru, Box pf [.int .i64 r3.2.2.code, .int .i64 r3.2.2.index], tru]) rfl ?_
          obtain ⟨q51, hF⟩ := hF
          obtain ⟨r7, q52⟩ : ∃ y_ : Bool, y_ = sp_sets r5.1 ([[], ([0] : List Int)] : List (List Int)) := ⟨_, rfl⟩
          replace hF := hF r7 q52
          refine .gc (cl (v := .bool r7) Tryz.call23 rfl rfl (fun w S => (by rw [q52]; obtain ⟨h_, hl_, hs_, hne_, hr_⟩ := look S (k := 0) rfl; exact c_sets hs_ r5.1 a10 c8 (RSl.mono hl_ (q25.mono (le8))) q26 ([[], ([0] : List Int)] : List (List Int)) a13 2 ⟨_, RepL.mono (FH.le_trans (FH.le_refl _) hl_) (show RepL h8 ([[], ([0] : List Int)] : List (List Int)) [.slice none 0 0, .slice a12 (([0] : List Int).length) 1] from ⟨[.slice none 0 0], _, rfl, ⟨none, 0, rfl, Nat.le_refl 0, RSl.nil_⟩, ⟨[.slice a12 (([0] : List Int).length) 1], _, rfl, ⟨a12, 1, rfl, (q49), (RSl.of q48)⟩, rfl⟩⟩), hr_⟩ (look_len S (k := 0) rfl) q51))) rfl rfl rfl q46 rfl rfl ?_
          refine .v (pkT rfl q46 rfl) rfl rfl rfl ?_
          refine .v (asg rfl) rfl rfl rfl ?_
          refine .nil ?_
          refine .seqN ?_
          refine .ret ?_
          refine .res1 rfl (rvT rfl) (fun w' S => ⟨r7, hF, rfl, S.below⟩)
        replace hF := hF.2 q46
        refine .gS rfl rfl rfl q46 rfl rfl ?_
        refine .gS rfl rfl rfl q46 rfl rfl ?_
        refine .gS rfl rfl rfl q46 rfl rfl ?_
        refine .gS rfl rfl rfl q46 rfl rfl ?_
        refine .v (pkF rfl q46 rfl) rfl rfl rfl ?_
        refine .v (asg rfl) rfl rfl rfl ?_
        refine .nil ?_
        refine .seqN ?_
        refine .ret ?_
        refine .res1 rfl (rvT rfl) (fun w' S => ⟨false, hF, rfl, S.below⟩)
      replace hF := hF.2 q42
      refine .gS rfl rfl rfl q42 rfl rfl ?_
      refine .gS rfl rfl rfl q42 rfl rfl ?_
      refine .gS rfl rfl rfl q42 rfl rfl ?_
      refine .v (pkF rfl q42 rfl) rfl rfl rfl ?_
      refine .v (mv rfl) rfl rfl rfl ?_
      refine .gS rfl rfl rfl rfl rfl rfl ?_
      refine .gS rfl rfl rfl rfl rfl rfl ?_
      refine .gS rfl rfl rfl rfl rfl rfl ?_
      refine .gS rfl rfl rfl rfl rfl rfl ?_
      refine .v (pkF rfl rfl rfl) rfl rfl rfl ?_
      refine .v (asg rfl) rfl rfl rfl ?_
      refine .nil ?_
      refine .seqN ?_
      refine .ret ?_
      refine .res1 rfl (rvT rfl) (fun w' S => ⟨false, hF, rfl, S.below⟩)
    replace hF := hF.2 q41
    refine .gS rfl rfl rfl q41 rfl rfl ?_
    refine .v (pkF rfl q41 rfl) rfl rfl rfl ?_
    refine .v (mv rfl) rfl rfl rfl ?_
    refine .gS rfl rfl rfl rfl rfl rfl ?_
    refine .gS rfl rfl rfl rfl rfl rfl ?_
    refine .gS rfl rfl rfl rfl rfl rfl ?_
    refine .v (pkF rfl rfl rfl) rfl rfl rfl ?_
    refine .v (mv rfl) rfl rfl rfl ?_
    refine .gS rfl rfl rfl rfl rfl rfl ?_
    refine .gS rfl rfl rfl rfl rfl rfl ?_
    refine .gS rfl rfl rfl rfl rfl rfl ?_
    refine .gS rfl rfl rfl rfl rfl rfl ?_
    refine .v (pkF rfl rfl rfl) rfl rfl rfl ?_
    refine .v (asg rfl) rfl rfl rfl ?_
    refine .nil ?_
    refine .seqN ?_
    refine .ret ?_
    refine .res1 rfl (rvT rfl) (fun w' S => ⟨false, hF, rfl, S.below⟩)
  replace hF := hF.2 q40
  refine .gS rfl rfl rfl q40 rfl rfl ?_
  refine .gS rfl rfl rfl q40 rfl rfl ?_
  refine .gS rfl rfl rfl q40 rfl rfl ?_
  refine .v (pkF rfl q40 rfl) rfl rfl rfl ?_
  refine .v (mv rfl) rfl rfl rfl ?_
  refine .gS rfl rfl rfl rfl rfl rfl ?_
  refine .v (pkF rfl rfl rfl) rfl rfl rfl ?_
  refine .v (mv rfl) rfl rfl rfl ?_
  refine .gS rfl rfl rfl rfl rfl rfl ?_
  refine .gS rfl rfl rfl rfl rfl rfl ?_
  refine .gS rfl rfl rfl rfl rfl rfl ?_
  refine .v (pkF rfl rfl rfl) rfl rfl rfl ?_
  refine .v (mv rfl) rfl rfl rfl ?_
  refine .gS rfl rfl rfl rfl rfl rfl ?_
  refine .gS rfl rfl rfl rfl rfl rfl ?_
  refine .gS rfl rfl rfl rfl rfl rfl ?_
  refine .gS rfl rfl rfl rfl rfl rfl ?_
  refine .v (pkF rfl rfl rfl) rfl rfl rfl ?_
  refine .v (asg rfl) rfl rfl rfl ?_
  refine .nil ?_
  refine .seqN ?_
  refine .ret ?_
  refine .res1 rfl (rvT rfl) (fun w' S => ⟨false, hF, rfl, S.below⟩)

theorem c_settled {h : FH} {w : World} (hs : Sub h w) (ht : TabH Tryz.prog h) : Calls Tryz.prog 14 #[] w fun e w' => e = .returned (.bool (sp_settled)) ∧ Below w.heap.size w w' :=
  (w_settled hs ht  (fun r => r = sp_settled) (ok_settled )).mono fun _ _ ⟨_, hk, he, hb⟩ => ⟨by rw [he, hk], hb⟩

set_option maxHeartbeats 8000000 in
theorem w_lawBeliefMatchesSpec {h : FH} {w : World} (hs : Sub h w) (ht : TabH Tryz.prog h) (t : Task) (at_ : Option Addr) (ct : Nat) (_q1 : RSl h at_ t.init) (_q2 : t.init.length ≤ ct) (at_2 : Option Addr) (ct2 : Nat) (_q3 : RSl h at_2 t.goal) (_q4 : t.goal.length ≤ ct2) (at_3 : Option Addr) (ct3 : Nat) (_q5 : RSl h at_3 t.ops) (_q6 : t.ops.length ≤ ct3) (unknown : List Int) (aunknown : Option Addr) (cunknown : Nat) (_q7 : RSl h aunknown unknown) (_q8 : unknown.length ≤ cunknown) (worlds : List (List Int)) (aworlds : Option Addr) (cworlds : Nat) (_q9 : RSl h aworlds worlds) (_q10 : worlds.length ≤ cworlds) (op : Int) (facts : List Int) (afacts : Option Addr) (cfacts : Nat) (_q11 : RSl h afacts facts) (_q12 : facts.length ≤ cfacts) (K : Bool → Prop) (hF : F_lawBeliefMatchesSpec t unknown worlds op facts K) : Calls Tryz.prog 4 #[.agg #[.int .i64 t.facts, .slice at_ t.init.length ct, .slice at_2 t.goal.length ct2, .slice at_3 t.ops.length ct3], .slice aunknown unknown.length cunknown, .slice aworlds worlds.length cworlds, .int .i64 op, .slice afacts facts.length cfacts] w fun e w' => ∃ r : Bool, K r ∧ e = .returned (.bool r) ∧ Below w.heap.size w w' := by
  refine enter (args := [.agg #[.int .i64 t.facts, .slice at_ t.init.length ct, .slice at_2 t.goal.length ct2, .slice at_3 t.ops.length ct3], .slice aunknown unknown.length cunknown, .slice aworlds worlds.length cworlds, .int .i64 op, .slice afacts facts.length cfacts]) Tryz.func4 rfl Tryz.ntmps4 rfl hs ?_
  refine .seq ?_
  refine .region ?_
  refine bx (vs := [.int .i64 t.facts, .slice at_ t.init.length ct, .slice at_2 t.goal.length ct2, .slice at_3 t.ops.length ct3]) rfl rfl rfl (fun pt => ?_)
  refine .v (asg rfl) rfl rfl rfl ?_
  refine .nil ?_
  refine .seqN ?_
  refine .seq ?_
  refine .region ?_
  refine .v (ldA (cs := [.int .i64 t.facts, .slice at_ t.init.length ct, .slice at_2 t.goal.length ct2, .slice at_3 t.ops.length ct3]) rfl tA25 rfl (cellsB (off := 0) (k := 0) rfl (m := 4) rfl)) rfl rfl rfl ?_
  refine .v (mv rfl) rfl rfl rfl ?_
  obtain ⟨r2, q13⟩ : ∃ y_ : List (List Int) × Fault, y_ = sp_initial t unknown := ⟨_, rfl⟩
  replace hF := hF r2 q13
  refine clR (α := Option Addr × Nat) (Φ := fun h1 z => RSl h1 z.1 r2.1 ∧ r2.1.length ≤ z.2) (V := fun z => .tuple #[.slice z.1 r2.1.length z.2, .agg #[.int .i64 r2.2.code, .int .i64 r2.2.index]]) Tryz.call20 rfl rfl (fun w S => (by rw [q13]; exact c_initial S.sub t at_ ct _q1 _q2 at_2 ct2 _q3 _q4 at_3 ct3 _q5 _q6 unknown aunknown cunknown _q7 _q8 )) rfl (fun z h1 le1 hz => ?_)
  obtain ⟨a, c⟩ := z
  obtain ⟨q14, q15⟩ := hz
  refine .v (mv rfl) rfl rfl rfl ?_
  refine .v (ext rfl rfl) rfl rfl rfl ?_
  refine .v (ext rfl rfl) rfl rfl rfl ?_
  refine al tZ27 rfl (fun pf => ?_)
  refine .v (asg rfl) rfl rfl rfl ?_
  refine st (p := pf) (off := 0) (k := 0) (vs := [.int .i64 r2.2.code, .int .i64 r2.2.index]) rfl rfl rfl (fun w => (tA27 w).2) rfl rfl rfl rfl ?_
  refine .cast (A' := [Box pf [.int .i64 r2.2.code, .int .i64 r2.2.index], Box pt [.int .i64 t.facts, .slice at_ t.init.length ct, .slice at_2 t.goal.length ct2, .slice at_3 t.ops.length ct3]]) rfl ?_
  refine .nil ?_
  refine .seqN ?_
  refine .seq ?_
  refine .region ?_
  refine .v (ldA (cs := [.int .i64 t.facts, .slice at_ t.init.length ct, .slice at_2 t.goal.length ct2, .slice at_3 t.ops.length ct3]) rfl tA25 rfl (cellsB (off := 0) (k := 1) rfl (m := 4) rfl)) rfl rfl rfl ?_
  refine .v (mv rfl) rfl rfl rfl ?_
  refine .v (mv rfl) rfl rfl rfl ?_
  obtain ⟨r3, q16⟩ : ∃ y_ : List (List Int) × Bool × Fault, y_ = sp_apply t worlds op := ⟨_, rfl⟩
  replace hF := hF r3 q16
  refine clR (α := Option Addr × Nat) (Φ := fun h1 z => RSl h1 z.1 r3.1 ∧ r3.1.length ≤ z.2) (V := fun z => .tuple #[.slice z.1 r3.1.length z.2, .bool r3.2.1, .agg #[.int .i64 r3.2.2.code, .int .i64 r3.2.2.index]]) Tryz.call21 rfl rfl (fun w S => (by rw [q16]; exact c_apply S.sub t at_ ct (_q1.mono (le1)) _q2 at_2 ct2 (_q3.mono (le1)) _q4 at_3 ct3 (_q5.mono (le1)) _q6 worlds aworlds cworlds (_q9.mono (le1)) _q10 op )) rfl (fun z h2 le2 hz => ?_)
  obtain ⟨a2, c2⟩ := z
  obtain ⟨q17, q18⟩ := hz
  refine .v (mv rfl) rfl rfl rfl ?_
  refine .v (ext rfl rfl) rfl rfl rfl ?_
  refine .v (ext rfl rfl) rfl rfl rfl ?_
  refine .v (ext rfl rfl) rfl rfl rfl ?_
  refine al tZ27 rfl (fun pg => ?_)
  refine .v (asg rfl) rfl rfl rfl ?_
  refine .v (asg rfl) rfl rfl rfl ?_
  refine st (p := pg) (off := 0) (k := 0) (vs := [.int .i64 r3.2.2.code, .int .i64 r3.2.2.index]) rfl rfl rfl (fun w => (tA27 w).2) rfl rfl rfl rfl ?_
  refine .cast (A' := [Box pg [.int .i64 r3.2.2.code, .int .i64 r3.2.2.index], Box pf [.int .i64 r2.2.code, .int .i64 r2.2.index], Box pt [.int .i64 t.facts, .slice at_ t.init.length ct, .slice at_2 t.goal.length ct2, .slice at_3 t.ops.length ct3]]) rfl ?_
  refine .nil ?_
  refine .seqN ?_
  refine .seq ?_
  refine .region ?_
  refine .v (ldA (cs := [.int .i64 t.facts, .slice at_ t.init.length ct, .slice at_2 t.goal.length ct2, .slice at_3 t.ops.length ct3]) rfl tA25 rfl (cellsB (off := 0) (k := 2) rfl (m := 4) rfl)) rfl rfl rfl ?_
  refine .v (mv rfl) rfl rfl rfl ?_
  refine .v (mv rfl) rfl rfl rfl ?_
  obtain ⟨r4, q19⟩ : ∃ y_ : Bool × Fault, y_ = sp_holds t worlds facts := ⟨_, rfl⟩
  replace hF := hF r4 q19
  refine .c (cl (v := .tuple #[.bool r4.1, .agg #[.int .i64 r4.2.code, .int .i64 r4.2.index]]) Tryz.call22 rfl rfl (fun w S => (by rw [q19]; exact c_holds S.sub t at_ ct (_q1.mono (FH.le_trans (le1) (le2))) _q2 at_2 ct2 (_q3.mono (FH.le_trans (le1) (le2))) _q4 at_3 ct3 (_q5.mono (FH.le_trans (le1) (le2))) _q6 worlds aworlds cworlds (_q9.mono (FH.le_trans (le1) (le2))) _q10 facts afacts cfacts (_q11.mono (FH.le_trans (le1) (le2))) _q12 ))) rfl rfl rfl ?_
  refine .v (mv rfl) rfl rfl rfl ?_
  refine .v (ext rfl rfl) rfl rfl rfl ?_
  refine .v (ext rfl rfl) rfl rfl rfl ?_
  refine al tZ27 rfl (fun ph => ?_)
  refine .v (asg rfl) rfl rfl rfl ?_
  refine st (p := ph) (off := 0) (k := 0) (vs := [.int .i64 r4.2.code, .int .i64 r4.2.index]) rfl rfl rfl (fun w => (tA27 w).2) rfl rfl rfl rfl ?_
  refine .cast (A' := [Box ph [.int .i64 r4.2.code, .int .i64 r4.2.index], Box pg [.int .i64 r3.2.2.code, .int .i64 r3.2.2.index], Box pf [.int .i64 r2.2.code, .int .i64 r2.2.index], Box pt [.int .i64 t.facts, .slice at_ t.init.length ct, .slice at_2 t.goal.length ct2, .slice at_3 t.ops.length ct3]]) rfl ?_
  refine .nil ?_
  refine .seqN ?_
  refine .seq ?_
  refine .region ?_
  refine .v (ldA (cs := [.int .i64 t.facts, .slice at_ t.init.length ct, .slice at_2 t.goal.length ct2, .slice at_3 t.ops.length ct3]) rfl tA25 rfl (cellsB (off := 0) (k := 3) rfl (m := 4) rfl)) rfl rfl rfl ?_
  refine .v (mv rfl) rfl rfl rfl ?_
  obtain ⟨r5, q20⟩ : ∃ y_ : Fault, y_ = sp_unknownFault t unknown := ⟨_, rfl⟩
  replace hF := hF r5 q20
  refine .c (cl (v := .agg #[.int .i64 r5.code, .int .i64 r5.index]) Tryz.call13 rfl rfl (fun w S => (by rw [q20]; exact c_rUnknownFault S.sub t at_ ct (_q1.mono (FH.le_trans (le1) (le2))) _q2 at_2 ct2 (_q3.mono (FH.le_trans (le1) (le2))) _q4 at_3 ct3 (_q5.mono (FH.le_trans (le1) (le2))) _q6 unknown aunknown cunknown (_q7.mono (FH.le_trans (le1) (le2))) _q8 ))) rfl rfl rfl ?_
  refine al tZ27 rfl (fun pe => ?_)
  refine st (p := pe) (off := 0) (k := 0) (vs := [.int .i64 r5.code, .int .i64 r5.index]) rfl rfl rfl (fun w => (tA27 w).2) rfl rfl rfl rfl ?_
  refine .cast (A' := [Box pe [.int .i64 r5.code, .int .i64 r5.index], Box ph [.int .i64 r4.2.code, .int .i64 r4.2.index], Box pg [.int .i64 r3.2.2.code, .int .i64 r3.2.2.index], Box pf [.int .i64 r2.2.code, .int .i64 r2.2.index], Box pt [.int .i64 t.facts, .slice at_ t.init.length ct, .slice at_2 t.goal.length ct2, .slice at_3 t.ops.length ct3]]) rfl ?_
  refine .nil ?_
  refine .seqN ?_
  refine .seq ?_
  refine .share (σ := Bool) (fun z => F_lawBeliefMatchesSpec_J1 t worlds op facts K r3 r4 z) (fun z => [(2, .slice aworlds worlds.length cworlds), (3, .int .i64 op), (4, .slice afacts facts.length cfacts), (5, .pointer (some pt)), (13, .slice a2 r3.1.length c2), (14, .bool r3.2.1), (15, .pointer (some pg)), (16, .bool r4.1), (17, .pointer (some ph)), (18, .pointer (some pe)), (69, .bool z)]) (fun _ => [Box pt [.int .i64 t.facts, .slice at_ t.init.length ct, .slice at_2 t.goal.length ct2, .slice at_3 t.ops.length ct3], Box pg [.int .i64 r3.2.2.code, .int .i64 r3.2.2.index], Box ph [.int .i64 r4.2.code, .int .i64 r4.2.index], Box pe [.int .i64 r5.code, .int .i64 r5.index]]) (fun _ => h2) ?_ (fun q32 => ?_)
  · rintro t69 hF
    show J _ _ _ _ _ [(2, .slice aworlds worlds.length cworlds), (3, .int .i64 op), (4, .slice afacts facts.length cfacts), (5, .pointer (some pt)), (13, .slice a2 r3.1.length c2), (14, .bool r3.2.1), (15, .pointer (some pg)), (16, .bool r4.1), (17, .pointer (some ph)), (18, .pointer (some pe)), (69, .bool t69)] [Box pt [.int .i64 t.facts, .slice at_ t.init.length ct, .slice at_2 t.goal.length ct2, .slice at_3 t.ops.length ct3], Box pg [.int .i64 r3.2.2.code, .int .i64 r3.2.2.index], Box ph [.int .i64 r4.2.code, .int .i64 r4.2.index], Box pe [.int .i64 r5.code, .int .i64 r5.index]] h2
    refine .cond rfl (fun q34 => ?_) (fun q34 => ?_)
    · replace hF := hF.1 q34
      refine .seq ?_
      refine .region ?_
      refine .v (asg rfl) rfl rfl rfl ?_
      refine .nil ?_
      refine .seqN ?_
      refine .ret ?_
      refine .seqR ?_
      refine .res1 rfl (rvT rfl) (fun w' S => ⟨false, hF, rfl, S.below⟩)
    replace hF := hF.2 q34
    refine .skip ?_
    refine .seqN ?_
    refine .seq ?_
    refine .region ?_
    refine .v (ldA (cs := [.int .i64 t.facts, .slice at_ t.init.length ct, .slice at_2 t.goal.length ct2, .slice at_3 t.ops.length ct3]) rfl tA25 rfl (cellsB (off := 0) (k := 0) rfl (m := 4) rfl)) rfl rfl rfl ?_
    refine .v (mv rfl) rfl rfl rfl ?_
    obtain ⟨r6, q35⟩ : ∃ y_ : Fault, y_ = sp_worldsFault t worlds := ⟨_, rfl⟩
    replace hF := hF r6 q35
    refine .c (cl (v := .agg #[.int .i64 r6.code, .int .i64 r6.index]) Tryz.call24 rfl rfl (fun w S => (by rw [q35]; exact c_rWorldsFault S.sub t at_ ct (_q1.mono (FH.le_trans (le1) (le2))) _q2 at_2 ct2 (_q3.mono (FH.le_trans (le1) (le2))) _q4 at_3 ct3 (_q5.mono (FH.le_trans (le1) (le2))) _q6 worlds aworlds cworlds (_q9.mono (FH.le_trans (le1) (le2))) _q10 ))) rfl rfl rfl ?_
    refine st (p := pe) (off := 0) (k := 3) (vs := [.int .i64 r6.code, .int .i64 r6.index]) rfl rfl rfl (fun w => (tA27 w).2) rfl rfl rfl rfl ?_
    refine .cast (A' := [Box pt [.int .i64 t.facts, .slice at_ t.init.length ct, .slice at_2 t.goal.length ct2, .slice at_3 t.ops.length ct3], Box pg [.int .i64 r3.2.2.code, .int .i64 r3.2.2.index], Box ph [.int .i64 r4.2.code, .int .i64 r4.2.index], Box pe [.int .i64 r6.code, .int .i64 r6.index]]) rfl ?_
    refine .nil ?_
    refine .seqN ?_
    refine .seq ?_
    refine .region ?_
    refine .v (ldA (cs := [.int .i64 r6.code, .int .i64 r6.index]) rfl tA27 rfl (cellsB (off := 0) (k := 3) rfl (m := 2) rfl)) rfl rfl rfl ?_
    refine al tZ27 rfl (fun pd => ?_)
    refine st (p := pd) (off := 0) (k := 0) (vs := [.int .i64 r6.code, .int .i64 r6.index]) rfl rfl rfl (fun w => (tA27 w).2) rfl rfl rfl rfl ?_
    refine .cast (A' := [Box pd [.int .i64 r6.code, .int .i64 r6.index], Box pt [.int .i64 t.facts, .slice at_ t.init.length ct, .slice at_2 t.goal.length ct2, .slice at_3 t.ops.length ct3], Box pg [.int .i64 r3.2.2.code, .int .i64 r3.2.2.index], Box ph [.int .i64 r4.2.code, .int .i64 r4.2.index], Box pe [.int .i64 r6.code, .int .i64 r6.index]]) rfl ?_
    refine .nil ?_
    refine .seqN ?_
    refine .seq ?_
    refine .share (σ := Bool) (fun z => F_lawBeliefMatchesSpec_J2 t worlds op facts K r3 r4 r6 z) (fun z => [(2, .slice aworlds worlds.length cworlds), (3, .int .i64 op), (4, .slice afacts facts.length cfacts), (5, .pointer (some pt)), (13, .slice a2 r3.1.length c2), (14, .bool r3.2.1), (15, .pointer (some pg)), (16, .bool r4.1), (17, .pointer (some ph)), (18, .pointer (some pe)), (19, .pointer (some pd)), (85, .bool z)]) (fun _ => [Box pt [.int .i64 t.facts, .slice at_ t.init.length ct, .slice at_2 t.goal.length ct2, .slice at_3 t.ops.length ct3], Box pg [.int .i64 r3.2.2.code, .int .i64 r3.2.2.index], Box ph [.int .i64 r4.2.code, .int .i64 r4.2.index], Box pe [.int .i64 r6.code, .int .i64 r6.index], Box pd [.int .i64 r6.code, .int .i64 r6.index]]) (fun _ => h2) ?_ (fun q38 => ?_)
    · rintro t85 hF
      show J _ _ _ _ _ [(2, .slice aworlds worlds.length cworlds), (3, .int .i64 op), (4, .slice afacts facts.length cfacts), (5, .pointer (some pt)), (13, .slice a2 r3.1.length c2), (14, .bool r3.2.1), (15, .pointer (some pg)), (16, .bool r4.1), (17, .pointer (some ph)), (18, .pointer (some pe)), (19, .pointer (some pd)), (85, .bool t85)] [Box pt [.int .i64 t.facts, .slice at_ t.init.length ct, .slice at_2 t.goal.length ct2, .slice at_3 t.ops.length ct3], Box pg [.int .i64 r3.2.2.code, .int .i64 r3.2.2.index], Box ph [.int .i64 r4.2.code, .int .i64 r4.2.index], Box pe [.int .i64 r6.code, .int .i64 r6.index], Box pd [.int .i64 r6.code, .int .i64 r6.index]] h2
      refine .shareT (σ := Int × Int) (fun z => F_lawBeliefMatchesSpec_J3 t worlds op facts K r3 r4 r6 z.1 z.2) (fun _ => [(2, .slice aworlds worlds.length cworlds), (3, .int .i64 op), (4, .slice afacts facts.length cfacts), (5, .pointer (some pt)), (13, .slice a2 r3.1.length c2), (14, .bool r3.2.1), (15, .pointer (some pg)), (16, .bool r4.1), (17, .pointer (some ph)), (18, .pointer (some pe)), (19, .pointer (some pd))]) (fun z => [Box pt [.int .i64 t.facts, .slice at_ t.init.length ct, .slice at_2 t.goal.length ct2, .slice at_3 t.ops.length ct3], Box pg [.int .i64 r3.2.2.code, .int .i64 r3.2.2.index], Box ph [.int .i64 r4.2.code, .int .i64 r4.2.index], Box pe [.int .i64 z.1, .int .i64 z.2], Box pd [.int .i64 r6.code, .int .i64 r6.index]]) (fun _ => h2) ?_ (fun q41 => ?_)
      · rintro ⟨x, x2⟩ hF
        show J _ _ _ _ _ [(2, .slice aworlds worlds.length cworlds), (3, .int .i64 op), (4, .slice afacts facts.length cfacts), (5, .pointer (some pt)), (13, .slice a2 r3.1.length c2), (14, .bool r3.2.1), (15, .pointer (some pg)), (16, .bool r4.1), (17, .pointer (some ph)), (18, .pointer (some pe)), (19, .pointer (some pd))] [Box pt [.int .i64 t.facts, .slice at_ t.init.length ct, .slice at_2 t.goal.length ct2, .slice at_3 t.ops.length ct3], Box pg [.int .i64 r3.2.2.code, .int .i64 r3.2.2.index], Box ph [.int .i64 r4.2.code, .int .i64 r4.2.index], Box pe [.int .i64 x, .int .i64 x2], Box pd [.int .i64 r6.code, .int .i64 r6.index]] h2
        refine .seq ?_
        refine .share (σ := Bool) (fun z => F_lawBeliefMatchesSpec_J4 t worlds op facts K r3 r4 r6 x x2 z) (fun z => [(2, .slice aworlds worlds.length cworlds), (3, .int .i64 op), (4, .slice afacts facts.length cfacts), (5, .pointer (some pt)), (13, .slice a2 r3.1.length c2), (14, .bool r3.2.1), (15, .pointer (some pg)), (16, .bool r4.1), (17, .pointer (some ph)), (18, .pointer (some pe)), (19, .pointer (some pd)), (96, .bool z)]) (fun _ => [Box pt [.int .i64 t.facts, .slice at_ t.init.length ct, .slice at_2 t.goal.length ct2, .slice at_3 t.ops.length ct3], Box pg [.int .i64 r3.2.2.code, .int .i64 r3.2.2.index], Box ph [.int .i64 r4.2.code, .int .i64 r4.2.index], Box pe [.int .i64 x, .int .i64 x2], Box pd [.int .i64 r6.code, .int .i64 r6.index]]) (fun _ => h2) ?_ (fun q45 => ?_)
        · rintro t96 hF
          show J _ _ _ _ _ [(2, .slice aworlds worlds.length cworlds), (3, .int .i64 op), (4, .slice afacts facts.length cfacts), (5, .pointer (some pt)), (13, .slice a2 r3.1.length c2), (14, .bool r3.2.1), (15, .pointer (some pg)), (16, .bool r4.1), (17, .pointer (some ph)), (18, .pointer (some pe)), (19, .pointer (some pd)), (96, .bool t96)] [Box pt [.int .i64 t.facts, .slice at_ t.init.length ct, .slice at_2 t.goal.length ct2, .slice at_3 t.ops.length ct3], Box pg [.int .i64 r3.2.2.code, .int .i64 r3.2.2.index], Box ph [.int .i64 r4.2.code, .int .i64 r4.2.index], Box pe [.int .i64 x, .int .i64 x2], Box pd [.int .i64 r6.code, .int .i64 r6.index]] h2
          refine .shareT (σ := Int × Int) (fun z => F_lawBeliefMatchesSpec_J5 t worlds op facts K r3 r4 x x2 z.1 z.2) (fun _ => [(2, .slice aworlds worlds.length cworlds), (3, .int .i64 op), (4, .slice afacts facts.length cfacts), (5, .pointer (some pt)), (13, .slice a2 r3.1.length c2), (14, .bool r3.2.1), (15, .pointer (some pg)), (16, .bool r4.1), (17, .pointer (some ph)), (18, .pointer (some pe)), (19, .pointer (some pd))]) (fun z => [Box pt [.int .i64 t.facts, .slice at_ t.init.length ct, .slice at_2 t.goal.length ct2, .slice at_3 t.ops.length ct3], Box pg [.int .i64 r3.2.2.code, .int .i64 r3.2.2.index], Box ph [.int .i64 r4.2.code, .int .i64 r4.2.index], Box pe [.int .i64 x, .int .i64 x2], Box pd [.int .i64 z.1, .int .i64 z.2]]) (fun _ => h2) ?_ (fun q48 => ?_)
          · rintro ⟨x3, x4⟩ hF
            show J _ _ _ _ _ [(2, .slice aworlds worlds.length cworlds), (3, .int .i64 op), (4, .slice afacts facts.length cfacts), (5, .pointer (some pt)), (13, .slice a2 r3.1.length c2), (14, .bool r3.2.1), (15, .pointer (some pg)), (16, .bool r4.1), (17, .pointer (some ph)), (18, .pointer (some pe)), (19, .pointer (some pd))] [Box pt [.int .i64 t.facts, .slice at_ t.init.length ct, .slice at_2 t.goal.length ct2, .slice at_3 t.ops.length ct3], Box pg [.int .i64 r3.2.2.code, .int .i64 r3.2.2.index], Box ph [.int .i64 r4.2.code, .int .i64 r4.2.index], Box pe [.int .i64 x, .int .i64 x2], Box pd [.int .i64 x3, .int .i64 x4]] h2
            refine .seq ?_
            refine .share (σ := Bool) (fun z => F_lawBeliefMatchesSpec_J6 t worlds op K r3 x z) (fun z => [(2, .slice aworlds worlds.length cworlds), (3, .int .i64 op), (5, .pointer (some pt)), (13, .slice a2 r3.1.length c2), (14, .bool r3.2.1), (18, .pointer (some pe)), (117, .bool z)]) (fun _ => [Box pt [.int .i64 t.facts, .slice at_ t.init.length ct, .slice at_2 t.goal.length ct2, .slice at_3 t.ops.length ct3], Box pe [.int .i64 x, .int .i64 x2]]) (fun _ => h2) ?_ (fun q54 => ?_)
            · rintro t117 hF
              show J _ _ _ _ _ [(2, .slice aworlds worlds.length cworlds), (3, .int .i64 op), (5, .pointer (some pt)), (13, .slice a2 r3.1.length c2), (14, .bool r3.2.1), (18, .pointer (some pe)), (117, .bool t117)] [Box pt [.int .i64 t.facts, .slice at_ t.init.length ct, .slice at_2 t.goal.length ct2, .slice at_3 t.ops.length ct3], Box pe [.int .i64 x, .int .i64 x2]] h2
              refine .cond rfl (fun q56 => ?_) (fun q56 => ?_)
              · replace hF := hF.1 q56
                refine .seq ?_
                refine .region ?_
                refine .v (asg rfl) rfl rfl rfl ?_
                refine .nil ?_
                refine .seqN ?_
                refine .ret ?_
                refine .seqR ?_
                refine .res1 rfl (rvT rfl) (fun w' S => ⟨false, hF, rfl, S.below⟩)
              replace hF := hF.2 q56
              refine .skip ?_
              refine .seqN ?_
              refine .seq ?_
              refine .share (σ := Bool) (fun z => F_lawBeliefMatchesSpec_J7 t worlds op K r3 z) (fun z => [(2, .slice aworlds worlds.length cworlds), (3, .int .i64 op), (5, .pointer (some pt)), (13, .slice a2 r3.1.length c2), (14, .bool r3.2.1), (131, .bool z)]) (fun _ => [Box pt [.int .i64 t.facts, .slice at_ t.init.length ct, .slice at_2 t.goal.length ct2, .slice at_3 t.ops.length ct3]]) (fun _ => h2) ?_ (fun q68 => ?_)
              · rintro t131 hF
                show J _ _ _ _ _ [(2, .slice aworlds worlds.length cworlds), (3, .int .i64 op), (5, .pointer (some pt)), (13, .slice a2 r3.1.length c2), (14, .bool r3.2.1), (131, .bool t131)] [Box pt [.int .i64 t.facts, .slice at_ t.init.length ct, .slice at_2 t.goal.length ct2, .slice at_3 t.ops.length ct3]] h2
                refine .cond rfl (fun q76 => ?_) (fun q76 => ?_)
                · replace hF := hF.1 q76
                  refine .seq ?_
                  refine .region ?_
                  refine .v (mv rfl) rfl rfl rfl ?_
                  refine .v (nt rfl) rfl rfl rfl ?_
                  refine .v (mv rfl) rfl rfl rfl ?_
                  rcases Bool.eq_false_or_eq_true (!r3.2.1) with q80 | q80
                  · replace hF := hF.1 q80
                    refine .gv (mv rfl) rfl rfl rfl q80 rfl rfl ?_
                    refine .gv (ln rfl tS35.is) rfl rfl rfl q80 rfl rfl ?_
                    refine .gv (bi rfl rfl rfl) rfl rfl rfl q80 rfl rfl ?_
                    refine .v (pkT rfl q80 rfl) rfl rfl rfl ?_
                    refine .v (mv rfl) rfl rfl rfl ?_
                    rcases Bool.eq_false_or_eq_true (((r3.1.length : Nat) : Int) == 0) with q81 | q81
                    · replace hF := hF.1 q81
                      obtain ⟨r7, q82⟩ : ∃ y_ : Bool, y_ = sp_settled := ⟨_, rfl⟩
                      replace hF := hF r7 q82
                      refine .gc (cl (v := .bool r7) Tryz.call14 rfl rfl (fun w S => (by rw [q82]; exact c_settled S.sub (ht.mono (FH.le_trans (le1) (le2))) ))) rfl rfl rfl q81 rfl rfl ?_
                      refine .v (pkT rfl q81 rfl) rfl rfl rfl ?_
                      refine .v (asg rfl) rfl rfl rfl ?_
                      refine .nil ?_
                      refine .seqN ?_
                      refine .ret ?_
                      refine .seqR ?_
                      refine .res1 rfl (rvT rfl) (fun w' S => ⟨r7, hF, rfl, S.below⟩)
                    replace hF := hF.2 q81
                    refine .gS rfl rfl rfl q81 rfl rfl ?_
                    refine .v (pkF rfl q81 rfl) rfl rfl rfl ?_
                    refine .v (asg rfl) rfl rfl rfl ?_
                    refine .nil ?_
                    refine .seqN ?_
                    refine .ret ?_
                    refine .seqR ?_
                    refine .res1 rfl (rvT rfl) (fun w' S => ⟨false, hF, rfl, S.below⟩)
                  replace hF := hF.2 q80
                  refine .gS rfl rfl rfl q80 rfl rfl ?_
                  refine .gS rfl rfl rfl q80 rfl rfl ?_
                  refine .gS rfl rfl rfl q80 rfl rfl ?_
                  refine .v (pkF rfl q80 rfl) rfl rfl rfl ?_
                  refine .v (mv rfl) rfl rfl rfl ?_
                  refine .gS rfl rfl rfl rfl rfl rfl ?_
                  refine .v (pkF rfl rfl rfl) rfl rfl rfl ?_
                  refine .v (asg rfl) rfl rfl rfl ?_
                  refine .nil ?_
                  refine .seqN ?_
                  refine .ret ?_
                  refine .seqR ?_
                  refine .res1 rfl (rvT rfl) (fun w' S => ⟨false, hF, rfl, S.below⟩)
                replace hF := hF.2 q76
                refine .skip ?_
                refine .seqN ?_
                refine .seq ?_
                refine .region ?_
                refine .v (mv rfl) rfl rfl rfl ?_
                refine .v (mv rfl) rfl rfl rfl ?_
                rcases Bool.eq_false_or_eq_true (r3.2.1) with q92 | q92
                · replace hF := hF.1 q92
                  refine .gv (mv rfl) rfl rfl rfl q92 rfl rfl ?_
                  refine .gv (ldA (cs := [.int .i64 t.facts, .slice at_ t.init.length ct, .slice at_2 t.goal.length ct2, .slice at_3 t.ops.length ct3]) rfl tA25 rfl (cellsB (off := 0) (k := 0) rfl (m := 4) rfl)) rfl rfl rfl q92 rfl rfl ?_
                  refine .gv (mv rfl) rfl rfl rfl q92 rfl rfl ?_
                  refine .gv (mv rfl) rfl rfl rfl q92 rfl rfl ?_
                  obtain ⟨q93, hF⟩ := hF
                  obtain ⟨r8, q94⟩ : ∃ y_ : List (List Int), y_ = sp_afterAll t worlds op := ⟨_, rfl⟩
                  replace hF := hF r8 q94
                  refine .gR rfl rfl rfl q92 ?_
                  refine clR (α := Option Addr × Nat) (Φ := fun h1 z => RSl h1 z.1 r8 ∧ r8.length ≤ z.2) (V := fun z => .slice z.1 r8.length z.2) Tryz.call28 rfl rfl (fun w S => (by rw [q94]; exact c_afterAll S.sub t at_ ct (_q1.mono (FH.le_trans (le1) (le2))) _q2 at_2 ct2 (_q3.mono (FH.le_trans (le1) (le2))) _q4 at_3 ct3 (_q5.mono (FH.le_trans (le1) (le2))) _q6 worlds aworlds cworlds (_q9.mono (FH.le_trans (le1) (le2))) _q10 op q93)) rfl (fun z h5 le5 hz => ?_)
                  obtain ⟨a3, c3⟩ := z
                  obtain ⟨q95, q96⟩ := hz
                  obtain ⟨q97, hF⟩ := hF
                  obtain ⟨r9, q98⟩ : ∃ y_ : Bool, y_ = sp_sets r3.1 r8 := ⟨_, rfl⟩
                  replace hF := hF r9 q98
                  refine .gc (cl (v := .bool r9) Tryz.call23 rfl rfl (fun w S => (by rw [q98]; exact c_sets S.sub r3.1 a2 c2 (q17.mono (le5)) q18 r8 a3 c3 q95 q96 q97))) rfl rfl rfl q92 rfl rfl ?_
                  refine .v (pkT rfl q92 rfl) rfl rfl rfl ?_
                  refine .v (mv rfl) rfl rfl rfl ?_
                  rcases Bool.eq_false_or_eq_true (r9) with q99 | q99
                  · replace hF := hF.1 q99
                    obtain ⟨r10, q100⟩ : ∃ y_ : Bool, y_ = sp_settled := ⟨_, rfl⟩
                    replace hF := hF r10 q100
                    refine .gc (cl (v := .bool r10) Tryz.call14 rfl rfl (fun w S => (by rw [q100]; exact c_settled S.sub (ht.mono (FH.le_trans (FH.le_trans (le1) (le2)) (le5))) ))) rfl rfl rfl q99 rfl rfl ?_
                    refine .v (pkT rfl q99 rfl) rfl rfl rfl ?_
                    refine .v (asg rfl) rfl rfl rfl ?_
                    refine .nil ?_
                    refine .seqN ?_
                    refine .ret ?_
                    refine .res1 rfl (rvT rfl) (fun w' S => ⟨r10, hF, rfl, S.below⟩)
                  replace hF := hF.2 q99
                  refine .gS rfl rfl rfl q99 rfl rfl ?_
                  refine .v (pkF rfl q99 rfl) rfl rfl rfl ?_
                  refine .v (asg rfl) rfl rfl rfl ?_
                  refine .nil ?_
                  refine .seqN ?_
                  refine .ret ?_
                  refine .res1 rfl (rvT rfl) (fun w' S => ⟨false, hF, rfl, S.below⟩)
                replace hF := hF.2 q92
                refine .gS rfl rfl rfl q92 rfl rfl ?_
                refine .gS rfl rfl rfl q92 rfl rfl ?_
                refine .gS rfl rfl rfl q92 rfl rfl ?_
                refine .gS rfl rfl rfl q92 rfl rfl ?_
                refine .gS rfl rfl rfl q92 rfl rfl ?_
                refine .gS rfl rfl rfl q92 rfl rfl ?_
                refine .v (pkF rfl q92 rfl) rfl rfl rfl ?_
                refine .v (mv rfl) rfl rfl rfl ?_
                refine .gS rfl rfl rfl rfl rfl rfl ?_
                refine .v (pkF rfl rfl rfl) rfl rfl rfl ?_
                refine .v (asg rfl) rfl rfl rfl ?_
                refine .nil ?_
                refine .seqN ?_
                refine .ret ?_
                refine .res1 rfl (rvT rfl) (fun w' S => ⟨false, hF, rfl, S.below⟩)
              refine .region ?_
              refine .v (fa rfl tF27_0) rfl rfl rfl ?_
              refine .v (ld1 rfl tO3 (cellB (off := 0) (k := 1) rfl rfl)) rfl rfl rfl ?_
              refine .v (bi rfl rfl rfl) rfl rfl rfl ?_
              refine .v (mv rfl) rfl rfl rfl ?_
              rcases Bool.eq_false_or_eq_true (x != 0) with q101 | q101
              · replace hF := hF.1 q101
                refine .gS rfl rfl rfl q101 rfl rfl ?_
                refine .gS rfl rfl rfl q101 rfl rfl ?_
                refine .gS rfl rfl rfl q101 rfl rfl ?_
                refine .gS rfl rfl rfl q101 rfl rfl ?_
                refine .gS rfl rfl rfl q101 rfl rfl ?_
                refine .gS rfl rfl rfl q101 rfl rfl ?_
                refine .gS rfl rfl rfl q101 rfl rfl ?_
                refine .gS rfl rfl rfl q101 rfl rfl ?_
                refine .gS rfl rfl rfl q101 rfl rfl ?_
                refine .v (pkT rfl q101 rfl) rfl rfl rfl ?_
                refine .nil ?_
                refine .sel0 [0] (by decide) rfl ?_
                exact .use q68 true hF (.cons rfl (.cons rfl (.cons rfl (.cons rfl (.cons rfl (.cons rfl (.nil))))))) rfl (FH.le_refl _)
              replace hF := hF.2 q101
              refine .gv (mv rfl) rfl rfl rfl q101 rfl rfl ?_
              refine .gv (fa rfl tF25_3) rfl rfl rfl q101 rfl rfl ?_
              refine .gv (ld1 rfl tO23 (cellB (off := 3) (k := 0) rfl rfl)) rfl rfl rfl q101 rfl rfl ?_
              refine .gv (mv rfl) rfl rfl rfl q101 rfl rfl ?_
              obtain ⟨q102, hF⟩ := hF
              refine .gv (ix rfl rfl tS23 (_q5.ne (by decide) (inb_pos q102)) q102) rfl rfl rfl q101 rfl rfl ?_
              refine .gv (fa rfl tF54_0) rfl rfl rfl q101 rfl rfl ?_
              obtain ⟨_, ⟨a4, c4, a5, c5, a6, c6, rfl, ⟨q103, q104⟩, ⟨q105, q106⟩, q107, q108⟩, q109⟩ := _q5.elem q102
              refine .gv (ld1 (v := .slice a4 ((gt t.ops op).pre.length) c4) rfl tO22 (cellH ((fun q => (q109 q).mono (FH.le_trans (le1) (le2))) (by decide) 0 _ rfl))) rfl rfl rfl q101 rfl rfl ?_
              obtain ⟨q110, hF⟩ := hF
              obtain ⟨r11, q111⟩ : ∃ y_ : Bool, y_ = sp_allHold worlds ((gt t.ops op).pre) := ⟨_, rfl⟩
              replace hF := hF r11 q111
              refine .gc (cl (v := .bool r11) Tryz.call27 rfl rfl (fun w S => (by rw [q111]; exact c_allHold S.sub worlds aworlds cworlds (_q9.mono (FH.le_trans (le1) (le2))) _q10 ((gt t.ops op).pre) a4 c4 (q104.mono (FH.le_trans (le1) (le2))) q103 q110))) rfl rfl rfl q101 rfl rfl ?_
              refine .gv (nt rfl) rfl rfl rfl q101 rfl rfl ?_
              refine .v (pkF rfl q101 rfl) rfl rfl rfl ?_
              refine .nil ?_
              refine .sel0 [0] (by decide) rfl ?_
              exact .use q68 (!r11) hF (.cons rfl (.cons rfl (.cons rfl (.cons rfl (.cons rfl (.cons rfl (.nil))))))) rfl (FH.le_refl _)
            refine .region ?_
            refine .v (ldA (cs := [.int .i64 r3.2.2.code, .int .i64 r3.2.2.index]) rfl tA27 rfl (cellsB (off := 0) (k := 1) rfl (m := 2) rfl)) rfl rfl rfl ?_
            refine .v (ldA (cs := [.int .i64 x, .int .i64 x2]) rfl tA27 rfl (cellsB (off := 0) (k := 3) rfl (m := 2) rfl)) rfl rfl rfl ?_
            refine .v (ne2 tE27 rfl rfl) rfl rfl rfl ?_
            refine .v (mv rfl) rfl rfl rfl ?_
            rcases Bool.eq_false_or_eq_true (!((r3.2.2.code == x) && (r3.2.2.index == x2))) with q112 | q112
            · replace hF := hF.1 q112
              refine .gS rfl rfl rfl q112 rfl rfl ?_
              refine .gS rfl rfl rfl q112 rfl rfl ?_
              refine .gS rfl rfl rfl q112 rfl rfl ?_
              refine .v (pkT rfl q112 rfl) rfl rfl rfl ?_
              refine .v (mv rfl) rfl rfl rfl ?_
              refine .gS rfl rfl rfl rfl rfl rfl ?_
              refine .gS rfl rfl rfl rfl rfl rfl ?_
              refine .gS rfl rfl rfl rfl rfl rfl ?_
              refine .gS rfl rfl rfl rfl rfl rfl ?_
              refine .gS rfl rfl rfl rfl rfl rfl ?_
              refine .gU rfl rfl rfl rfl rfl ?_
              refine .gU rfl rfl rfl rfl rfl ?_
              refine .gU rfl rfl rfl rfl rfl ?_
              refine .gS rfl rfl rfl rfl rfl rfl ?_
              refine .gS rfl rfl rfl rfl rfl rfl ?_
              refine .v (pkT rfl rfl rfl) rfl rfl rfl ?_
              refine .nil ?_
              refine .sel0 [0, 3] (by decide) rfl ?_
              exact .use q54 true hF (.cons rfl (.cons rfl (.cons rfl (.cons rfl (.cons rfl (.cons rfl (.cons rfl (.nil)))))))) rfl (FH.le_refl _)
            replace hF := hF.2 q112
            refine .gv (ldA (cs := [.int .i64 r4.2.code, .int .i64 r4.2.index]) rfl tA27 rfl (cellsB (off := 0) (k := 2) rfl (m := 2) rfl)) rfl rfl rfl q112 rfl rfl ?_
            refine .gv (ldA (cs := [.int .i64 x3, .int .i64 x4]) rfl tA27 rfl (cellsB (off := 0) (k := 4) rfl (m := 2) rfl)) rfl rfl rfl q112 rfl rfl ?_
            refine .gv (ne2 tE27 rfl rfl) rfl rfl rfl q112 rfl rfl ?_
            refine .v (pkF rfl q112 rfl) rfl rfl rfl ?_
            refine .v (mv rfl) rfl rfl rfl ?_
            rcases Bool.eq_false_or_eq_true (!((r4.2.code == x3) && (r4.2.index == x4))) with q113 | q113
            · replace hF := hF.1 q113
              refine .gS rfl rfl rfl q113 rfl rfl ?_
              refine .gS rfl rfl rfl q113 rfl rfl ?_
              refine .gS rfl rfl rfl q113 rfl rfl ?_
              refine .gS rfl rfl rfl q113 rfl rfl ?_
              refine .gS rfl rfl rfl q113 rfl rfl ?_
              refine .gU rfl rfl rfl rfl rfl ?_
              refine .gU rfl rfl rfl rfl rfl ?_
              refine .gU rfl rfl rfl rfl rfl ?_
              refine .gS rfl rfl rfl q113 rfl rfl ?_
              refine .gS rfl rfl rfl q113 rfl rfl ?_
              refine .v (pkT rfl q113 rfl) rfl rfl rfl ?_
              refine .nil ?_
              refine .sel0 [0, 3] (by decide) rfl ?_
              exact .use q54 true hF (.cons rfl (.cons rfl (.cons rfl (.cons rfl (.cons rfl (.cons rfl (.cons rfl (.nil)))))))) rfl (FH.le_refl _)
            replace hF := hF.2 q113
            refine .gv (mv rfl) rfl rfl rfl q113 rfl rfl ?_
            refine .gv (fa rfl tF27_0) rfl rfl rfl q113 rfl rfl ?_
            refine .gv (ld1 rfl tO3 (cellB (off := 0) (k := 4) rfl rfl)) rfl rfl rfl q113 rfl rfl ?_
            refine .gv (bi rfl rfl rfl) rfl rfl rfl q113 rfl rfl ?_
            refine .gv (mv rfl) rfl rfl rfl q113 rfl rfl ?_
            rcases Bool.eq_false_or_eq_true (x3 == 0) with q114 | q114
            · replace hF := hF.1 q114
              refine .gv (mv rfl) rfl rfl rfl q114 rfl rfl ?_
              refine .gv (mv rfl) rfl rfl rfl q114 rfl rfl ?_
              obtain ⟨q115, hF⟩ := hF
              obtain ⟨r12, q116⟩ : ∃ y_ : Bool, y_ = sp_allHold worlds facts := ⟨_, rfl⟩
              replace hF := hF r12 q116
              refine .gc (cl (v := .bool r12) Tryz.call27 rfl rfl (fun w S => (by rw [q116]; exact c_allHold S.sub worlds aworlds cworlds (_q9.mono (FH.le_trans (le1) (le2))) _q10 facts afacts cfacts (_q11.mono (FH.le_trans (le1) (le2))) _q12 q115))) rfl rfl rfl q114 rfl rfl ?_
              refine .gv (pkT rfl q114 rfl) rfl rfl rfl q113 rfl rfl ?_
              refine .gv (bneq Tryz.underlying4 rfl rfl) rfl rfl rfl q113 rfl rfl ?_
              refine .v (pkF rfl q113 rfl) rfl rfl rfl ?_
              refine .nil ?_
              refine .sel0 [0, 3] (by decide) rfl ?_
              exact .use q54 (r4.1 != r12) hF (.cons rfl (.cons rfl (.cons rfl (.cons rfl (.cons rfl (.cons rfl (.cons rfl (.nil)))))))) rfl (FH.le_refl _)
            replace hF := hF.2 q114
            refine .gS rfl rfl rfl q114 rfl rfl ?_
            refine .gS rfl rfl rfl q114 rfl rfl ?_
            refine .gS rfl rfl rfl q114 rfl rfl ?_
            refine .gv (pkF rfl q114 rfl) rfl rfl rfl q113 rfl rfl ?_
            refine .gv (bneq Tryz.underlying4 rfl rfl) rfl rfl rfl q113 rfl rfl ?_
            refine .v (pkF rfl q113 rfl) rfl rfl rfl ?_
            refine .nil ?_
            refine .sel0 [0, 3] (by decide) rfl ?_
            exact .use q54 (r4.1 != false) hF (.cons rfl (.cons rfl (.cons rfl (.cons rfl (.cons rfl (.cons rfl (.cons rfl (.nil)))))))) rfl (FH.le_refl _)
          refine .cond rfl (fun q117 => ?_) (fun q117 => ?_)
          · replace hF := hF.1 q117
            refine .region ?_
            obtain ⟨r13, q118⟩ : ∃ y_ : Fault, y_ = sp_at_ 5 (-4) := ⟨_, rfl⟩
            replace hF := hF r13 q118
            refine .c (cl (v := .agg #[.int .i64 r13.code, .int .i64 r13.index]) Tryz.call18 rfl rfl (fun w S => (by rw [q118]; exact c_at_ S.sub 5 (-4) ))) rfl rfl rfl ?_
            refine st (p := pd) (off := 0) (k := 4) (vs := [.int .i64 r13.code, .int .i64 r13.index]) rfl rfl rfl (fun w => (tA27 w).2) rfl rfl rfl rfl ?_
            refine .cast (A' := [Box pt [.int .i64 t.facts, .slice at_ t.init.length ct, .slice at_2 t.goal.length ct2, .slice at_3 t.ops.length ct3], Box pg [.int .i64 r3.2.2.code, .int .i64 r3.2.2.index], Box ph [.int .i64 r4.2.code, .int .i64 r4.2.index], Box pe [.int .i64 x, .int .i64 x2], Box pd [.int .i64 r13.code, .int .i64 r13.index]]) rfl ?_
            refine .nil ?_
            exact .use q48 (r13.code, r13.index) hF (.cons rfl (.cons rfl (.cons rfl (.cons rfl (.cons rfl (.cons rfl (.cons rfl (.cons rfl (.cons rfl (.cons rfl (.cons rfl (.nil)))))))))))) rfl (FH.le_refl _)
          replace hF := hF.2 q117
          refine .skip ?_
          exact .use q48 (r6.code, r6.index) hF (.cons rfl (.cons rfl (.cons rfl (.cons rfl (.cons rfl (.cons rfl (.cons rfl (.cons rfl (.cons rfl (.cons rfl (.cons rfl (.nil)))))))))))) rfl (FH.le_refl _)
        refine .region ?_
        refine .v (fa rfl tF27_0) rfl rfl rfl ?_
        refine .v (ld1 rfl tO3 (cellB (off := 0) (k := 4) rfl rfl)) rfl rfl rfl ?_
        refine .v (bi rfl rfl rfl) rfl rfl rfl ?_
        refine .v (mv rfl) rfl rfl rfl ?_
        rcases Bool.eq_false_or_eq_true (r6.code == 0) with q119 | q119
        · replace hF := hF.1 q119
          refine .gv (mv rfl) rfl rfl rfl q119 rfl rfl ?_
          refine .gv (fa rfl tF25_0) rfl rfl rfl q119 rfl rfl ?_
          refine .gv (ld1 rfl tO3 (cellB (off := 0) (k := 0) rfl rfl)) rfl rfl rfl q119 rfl rfl ?_
          obtain ⟨q120, hF⟩ := hF
          obtain ⟨r14, q121⟩ : ∃ y_ : Bool, y_ = sp_isSet facts t.facts := ⟨_, rfl⟩
          replace hF := hF r14 q121
          refine .gc (cl (v := .bool r14) Tryz.call26 rfl rfl (fun w S => (by rw [q121]; exact c_rIsSet S.sub facts afacts cfacts (_q11.mono (FH.le_trans (le1) (le2))) _q12 t.facts q120))) rfl rfl rfl q119 rfl rfl ?_
          refine .gv (nt rfl) rfl rfl rfl q119 rfl rfl ?_
          refine .v (pkT rfl q119 rfl) rfl rfl rfl ?_
          refine .nil ?_
          exact .use q45 (!r14) hF (.cons rfl (.cons rfl (.cons rfl (.cons rfl (.cons rfl (.cons rfl (.cons rfl (.cons rfl (.cons rfl (.cons rfl (.cons rfl (.cons rfl (.nil))))))))))))) rfl (FH.le_refl _)
        replace hF := hF.2 q119
        refine .gS rfl rfl rfl q119 rfl rfl ?_
        refine .gS rfl rfl rfl q119 rfl rfl ?_
        refine .gS rfl rfl rfl q119 rfl rfl ?_
        refine .gS rfl rfl rfl q119 rfl rfl ?_
        refine .gS rfl rfl rfl q119 rfl rfl ?_
        refine .v (pkF rfl q119 rfl) rfl rfl rfl ?_
        refine .nil ?_
        exact .use q45 false hF (.cons rfl (.cons rfl (.cons rfl (.cons rfl (.cons rfl (.cons rfl (.cons rfl (.cons rfl (.cons rfl (.cons rfl (.cons rfl (.cons rfl (.nil))))))))))))) rfl (FH.le_refl _)
      refine .cond rfl (fun q122 => ?_) (fun q122 => ?_)
      · replace hF := hF.1 q122
        refine .region ?_
        obtain ⟨r15, q123⟩ : ∃ y_ : Fault, y_ = sp_at_ 3 (-6) := ⟨_, rfl⟩
        replace hF := hF r15 q123
        refine .c (cl (v := .agg #[.int .i64 r15.code, .int .i64 r15.index]) Tryz.call18 rfl rfl (fun w S => (by rw [q123]; exact c_at_ S.sub 3 (-6) ))) rfl rfl rfl ?_
        refine st (p := pe) (off := 0) (k := 3) (vs := [.int .i64 r15.code, .int .i64 r15.index]) rfl rfl rfl (fun w => (tA27 w).2) rfl rfl rfl rfl ?_
        refine .cast (A' := [Box pt [.int .i64 t.facts, .slice at_ t.init.length ct, .slice at_2 t.goal.length ct2, .slice at_3 t.ops.length ct3], Box pg [.int .i64 r3.2.2.code, .int .i64 r3.2.2.index], Box ph [.int .i64 r4.2.code, .int .i64 r4.2.index], Box pe [.int .i64 r15.code, .int .i64 r15.index], Box pd [.int .i64 r6.code, .int .i64 r6.index]]) rfl ?_
        refine .nil ?_
        exact .use q41 (r15.code, r15.index) hF (.cons rfl (.cons rfl (.cons rfl (.cons rfl (.cons rfl (.cons rfl (.cons rfl (.cons rfl (.cons rfl (.cons rfl (.cons rfl (.nil)))))))))))) rfl (FH.le_refl _)
      replace hF := hF.2 q122
      refine .skip ?_
      exact .use q41 (r6.code, r6.index) hF (.cons rfl (.cons rfl (.cons rfl (.cons rfl (.cons rfl (.cons rfl (.cons rfl (.cons rfl (.cons rfl (.cons rfl (.cons rfl (.nil)))))))))))) rfl (FH.le_refl _)
    refine .region ?_
    refine .v (fa rfl tF27_0) rfl rfl rfl ?_
    refine .v (ld1 rfl tO3 (cellB (off := 0) (k := 4) rfl rfl)) rfl rfl rfl ?_
    refine .v (bi rfl rfl rfl) rfl rfl rfl ?_
    refine .v (mv rfl) rfl rfl rfl ?_
    rcases Bool.eq_false_or_eq_true (r6.code == 0) with q124 | q124
    · replace hF := hF.1 q124
      refine .gv (mv rfl) rfl rfl rfl q124 rfl rfl ?_
      refine .gv (fa rfl tF25_3) rfl rfl rfl q124 rfl rfl ?_
      refine .gv (ld1 rfl tO23 (cellB (off := 3) (k := 1) rfl rfl)) rfl rfl rfl q124 rfl rfl ?_
      refine .gv (ln rfl tS23.is) rfl rfl rfl q124 rfl rfl ?_
      refine .gv (bi rfl rfl rfl) rfl rfl rfl q124 rfl rfl ?_
      obtain ⟨r16, q125⟩ : ∃ y_ : Bool, y_ = sp_in_ op 0 (IntKind.i64.wrap (((t.ops.length : Nat) : Int) - 1)) := ⟨_, rfl⟩
      replace hF := hF r16 q125
      refine .gc (cl (v := .bool r16) Tryz.call25 rfl rfl (fun w S => (by rw [q125]; exact c_in_ S.sub op 0 (IntKind.i64.wrap (((t.ops.length : Nat) : Int) - 1)) ))) rfl rfl rfl q124 rfl rfl ?_
      refine .gv (nt rfl) rfl rfl rfl q124 rfl rfl ?_
      refine .v (pkT rfl q124 rfl) rfl rfl rfl ?_
      refine .nil ?_
      refine .sel0 [1, 2, 3, 4, 0] (by decide) rfl ?_
      exact .use q38 (!r16) hF (.cons rfl (.cons rfl (.cons rfl (.cons rfl (.cons rfl (.cons rfl (.cons rfl (.cons rfl (.cons rfl (.cons rfl (.cons rfl (.cons rfl (.nil))))))))))))) rfl (FH.le_refl _)
    replace hF := hF.2 q124
    refine .gS rfl rfl rfl q124 rfl rfl ?_
    refine .gS rfl rfl rfl q124 rfl rfl ?_
    refine .gS rfl rfl rfl q124 rfl rfl ?_
    refine .gS rfl rfl rfl q124 rfl rfl ?_
    refine .gS rfl rfl rfl q124 rfl rfl ?_
    refine .gS rfl rfl rfl q124 rfl rfl ?_
    refine .gS rfl rfl rfl q124 rfl rfl ?_
    refine .v (pkF rfl q124 rfl) rfl rfl rfl ?_
    refine .nil ?_
    refine .sel0 [1, 2, 3, 4, 0] (by decide) rfl ?_
    exact .use q38 false hF (.cons rfl (.cons rfl (.cons rfl (.cons rfl (.cons rfl (.cons rfl (.cons rfl (.cons rfl (.cons rfl (.cons rfl (.cons rfl (.cons rfl (.nil))))))))))))) rfl (FH.le_refl _)
  refine .region ?_
  refine .v (ldA (cs := [.int .i64 r2.2.code, .int .i64 r2.2.index]) rfl tA27 rfl (cellsB (off := 0) (k := 3) rfl (m := 2) rfl)) rfl rfl rfl ?_
  refine .v (ldA (cs := [.int .i64 r5.code, .int .i64 r5.index]) rfl tA27 rfl (cellsB (off := 0) (k := 0) rfl (m := 2) rfl)) rfl rfl rfl ?_
  refine .v (ne2 tE27 rfl rfl) rfl rfl rfl ?_
  refine .v (mv rfl) rfl rfl rfl ?_
  rcases Bool.eq_false_or_eq_true (!((r2.2.code == r5.code) && (r2.2.index == r5.index))) with q126 | q126
  · replace hF := hF.1 q126
    refine .gS rfl rfl rfl q126 rfl rfl ?_
    refine .gS rfl rfl rfl q126 rfl rfl ?_
    refine .gS rfl rfl rfl q126 rfl rfl ?_
    refine .gS rfl rfl rfl q126 rfl rfl ?_
    refine .gU rfl rfl rfl rfl rfl ?_
    refine .gU rfl rfl rfl rfl rfl ?_
    refine .gU rfl rfl rfl rfl rfl ?_
    refine .gU rfl rfl rfl rfl rfl ?_
    refine .gU rfl rfl rfl rfl rfl ?_
    refine .gU rfl rfl rfl rfl rfl ?_
    refine .gS rfl rfl rfl q126 rfl rfl ?_
    refine .v (pkT rfl q126 rfl) rfl rfl rfl ?_
    refine .v (mv rfl) rfl rfl rfl ?_
    refine .gS rfl rfl rfl rfl rfl rfl ?_
    refine .gS rfl rfl rfl rfl rfl rfl ?_
    refine .gS rfl rfl rfl rfl rfl rfl ?_
    refine .gS rfl rfl rfl rfl rfl rfl ?_
    refine .gU rfl rfl rfl rfl rfl ?_
    refine .gU rfl rfl rfl rfl rfl ?_
    refine .gU rfl rfl rfl rfl rfl ?_
    refine .gS rfl rfl rfl rfl rfl rfl ?_
    refine .v (pkT rfl rfl rfl) rfl rfl rfl ?_
    refine .nil ?_
    refine .sel0 [4, 2, 1, 0] (by decide) rfl ?_
    exact .use q32 true hF (.cons rfl (.cons rfl (.cons rfl (.cons rfl (.cons rfl (.cons rfl (.cons rfl (.cons rfl (.cons rfl (.cons rfl (.cons rfl (.nil)))))))))))) rfl (FH.le_refl _)
  replace hF := hF.2 q126
  refine .gv (fa rfl tF27_0) rfl rfl rfl q126 rfl rfl ?_
  refine .gv (ld1 rfl tO3 (cellB (off := 0) (k := 0) rfl rfl)) rfl rfl rfl q126 rfl rfl ?_
  refine .gv (bi rfl rfl rfl) rfl rfl rfl q126 rfl rfl ?_
  refine .gv (mv rfl) rfl rfl rfl q126 rfl rfl ?_
  rcases Bool.eq_false_or_eq_true (r5.code == 0) with q127 | q127
  · replace hF := hF.1 q127
    refine .gv (mv rfl) rfl rfl rfl q127 rfl rfl ?_
    refine .gv (ldA (cs := [.int .i64 t.facts, .slice at_ t.init.length ct, .slice at_2 t.goal.length ct2, .slice at_3 t.ops.length ct3]) rfl tA25 rfl (cellsB (off := 0) (k := 4) rfl (m := 4) rfl)) rfl rfl rfl q127 rfl rfl ?_
    refine .gv (mv rfl) rfl rfl rfl q127 rfl rfl ?_
    obtain ⟨q128, hF⟩ := hF
    obtain ⟨r17, q129⟩ : ∃ y_ : List (List Int), y_ = sp_possible t unknown := ⟨_, rfl⟩
    replace hF := hF r17 q129
    refine .gR rfl rfl rfl q127 ?_
    refine clR (α := Option Addr × Nat) (Φ := fun h1 z => RSl h1 z.1 r17 ∧ r17.length ≤ z.2) (V := fun z => .slice z.1 r17.length z.2) Tryz.call16 rfl rfl (fun w S => (by rw [q129]; exact c_possible S.sub t at_ ct (_q1.mono (FH.le_trans (le1) (le2))) _q2 at_2 ct2 (_q3.mono (FH.le_trans (le1) (le2))) _q4 at_3 ct3 (_q5.mono (FH.le_trans (le1) (le2))) _q6 unknown aunknown cunknown (_q7.mono (FH.le_trans (le1) (le2))) _q8 q128)) rfl (fun z h6 le6 hz => ?_)
    obtain ⟨a7, c7⟩ := z
    obtain ⟨q130, q131⟩ := hz
    obtain ⟨q132, hF⟩ := hF
    obtain ⟨r18, q133⟩ : ∃ y_ : Bool, y_ = sp_sets r2.1 r17 := ⟨_, rfl⟩
    replace hF := hF r18 q133
    refine .gc (cl (v := .bool r18) Tryz.call23 rfl rfl (fun w S => (by rw [q133]; exact c_sets S.sub r2.1 a c (q14.mono (FH.le_trans (le2) (le6))) q15 r17 a7 c7 q130 q131 q132))) rfl rfl rfl q127 rfl rfl ?_
    refine .gv (nt rfl) rfl rfl rfl q127 rfl rfl ?_
    refine .gv (pkT rfl q127 rfl) rfl rfl rfl q126 rfl rfl ?_
    refine .v (pkF rfl q126 rfl) rfl rfl rfl ?_
    refine .v (mv rfl) rfl rfl rfl ?_
    rcases Bool.eq_false_or_eq_true (!r18) with q134 | q134
    · replace hF := hF.1 q134
      refine .gS rfl rfl rfl q134 rfl rfl ?_
      refine .gS rfl rfl rfl q134 rfl rfl ?_
      refine .gS rfl rfl rfl q134 rfl rfl ?_
      refine .gS rfl rfl rfl q134 rfl rfl ?_
      refine .gU rfl rfl rfl rfl rfl ?_
      refine .gU rfl rfl rfl rfl rfl ?_
      refine .gU rfl rfl rfl rfl rfl ?_
      refine .gS rfl rfl rfl q134 rfl rfl ?_
      refine .v (pkT rfl q134 rfl) rfl rfl rfl ?_
      refine .nil ?_
      refine .sel0 [4, 2, 1, 0] (by decide) rfl ?_
      exact .use q32 true hF (.cons rfl (.cons rfl (.cons rfl (.cons rfl (.cons rfl (.cons rfl (.cons rfl (.cons rfl (.cons rfl (.cons rfl (.cons rfl (.nil)))))))))))) rfl (le6)
    replace hF := hF.2 q134
    refine .gv (fa rfl tF27_0) rfl rfl rfl q134 rfl rfl ?_
    refine .gv (ld1 rfl tO3 (cellB (off := 0) (k := 0) rfl rfl)) rfl rfl rfl q134 rfl rfl ?_
    refine .gv (bi rfl rfl rfl) rfl rfl rfl q134 rfl rfl ?_
    refine .gv (mv rfl) rfl rfl rfl q134 rfl rfl ?_
    rcases Bool.eq_false_or_eq_true (r5.code != 0) with q135 | q135
    · replace hF := hF.1 q135
      refine .gv (mv rfl) rfl rfl rfl q135 rfl rfl ?_
      refine .gv (ln rfl tS35.is) rfl rfl rfl q135 rfl rfl ?_
      refine .gv (bi rfl rfl rfl) rfl rfl rfl q135 rfl rfl ?_
      refine .gv (pkT rfl q135 rfl) rfl rfl rfl q134 rfl rfl ?_
      refine .v (pkF rfl q134 rfl) rfl rfl rfl ?_
      refine .nil ?_
      refine .sel0 [4, 2, 1, 0] (by decide) rfl ?_
      exact .use q32 (decide (0 < ((r2.1.length : Nat) : Int))) hF (.cons rfl (.cons rfl (.cons rfl (.cons rfl (.cons rfl (.cons rfl (.cons rfl (.cons rfl (.cons rfl (.cons rfl (.cons rfl (.nil)))))))))))) rfl (le6)
    replace hF := hF.2 q135
    refine .gS rfl rfl rfl q135 rfl rfl ?_
    refine .gS rfl rfl rfl q135 rfl rfl ?_
    refine .gS rfl rfl rfl q135 rfl rfl ?_
    refine .gv (pkF rfl q135 rfl) rfl rfl rfl q134 rfl rfl ?_
    refine .v (pkF rfl q134 rfl) rfl rfl rfl ?_
    refine .nil ?_
    refine .sel0 [4, 2, 1, 0] (by decide) rfl ?_
    exact .use q32 false hF (.cons rfl (.cons rfl (.cons rfl (.cons rfl (.cons rfl (.cons rfl (.cons rfl (.cons rfl (.cons rfl (.cons rfl (.cons rfl (.nil)))))))))))) rfl (le6)
  replace hF := hF.2 q127
  refine .gS rfl rfl rfl q127 rfl rfl ?_
  refine .gS rfl rfl rfl q127 rfl rfl ?_
  refine .gS rfl rfl rfl q127 rfl rfl ?_
  refine .gS rfl rfl rfl q127 rfl rfl ?_
  refine .gS rfl rfl rfl q127 rfl rfl ?_
  refine .gS rfl rfl rfl q127 rfl rfl ?_
  refine .gv (pkF rfl q127 rfl) rfl rfl rfl q126 rfl rfl ?_
  refine .v (pkF rfl q126 rfl) rfl rfl rfl ?_
  refine .v (mv rfl) rfl rfl rfl ?_
  refine .gv (fa rfl tF27_0) rfl rfl rfl rfl rfl rfl ?_
  refine .gv (ld1 rfl tO3 (cellB (off := 0) (k := 0) rfl rfl)) rfl rfl rfl rfl rfl rfl ?_
  refine .gv (bi rfl rfl rfl) rfl rfl rfl rfl rfl rfl ?_
  refine .gv (mv rfl) rfl rfl rfl rfl rfl rfl ?_
  rcases Bool.eq_false_or_eq_true (r5.code != 0) with q136 | q136
  · replace hF := hF.1 q136
    refine .gv (mv rfl) rfl rfl rfl q136 rfl rfl ?_
    refine .gv (ln rfl tS35.is) rfl rfl rfl q136 rfl rfl ?_
    refine .gv (bi rfl rfl rfl) rfl rfl rfl q136 rfl rfl ?_
    refine .gv (pkT rfl q136 rfl) rfl rfl rfl rfl rfl rfl ?_
    refine .v (pkF rfl rfl rfl) rfl rfl rfl ?_
    refine .nil ?_
    refine .sel0 [4, 2, 1, 0] (by decide) rfl ?_
    exact .use q32 (decide (0 < ((r2.1.length : Nat) : Int))) hF (.cons rfl (.cons rfl (.cons rfl (.cons rfl (.cons rfl (.cons rfl (.cons rfl (.cons rfl (.cons rfl (.cons rfl (.cons rfl (.nil)))))))))))) rfl (FH.le_refl _)
  replace hF := hF.2 q136
  refine .gS rfl rfl rfl q136 rfl rfl ?_
  refine .gS rfl rfl rfl q136 rfl rfl ?_
  refine .gS rfl rfl rfl q136 rfl rfl ?_
  refine .gv (pkF rfl q136 rfl) rfl rfl rfl rfl rfl rfl ?_
  refine .v (pkF rfl rfl rfl) rfl rfl rfl ?_
  refine .nil ?_
  refine .sel0 [4, 2, 1, 0] (by decide) rfl ?_
  exact .use q32 false hF (.cons rfl (.cons rfl (.cons rfl (.cons rfl (.cons rfl (.cons rfl (.cons rfl (.cons rfl (.cons rfl (.cons rfl (.cons rfl (.nil)))))))))))) rfl (FH.le_refl _)

theorem c_lawBeliefMatchesSpec {h : FH} {w : World} (hs : Sub h w) (ht : TabH Tryz.prog h) (t : Task) (at_ : Option Addr) (ct : Nat) (_q1 : RSl h at_ t.init) (_q2 : t.init.length ≤ ct) (at_2 : Option Addr) (ct2 : Nat) (_q3 : RSl h at_2 t.goal) (_q4 : t.goal.length ≤ ct2) (at_3 : Option Addr) (ct3 : Nat) (_q5 : RSl h at_3 t.ops) (_q6 : t.ops.length ≤ ct3) (unknown : List Int) (aunknown : Option Addr) (cunknown : Nat) (_q7 : RSl h aunknown unknown) (_q8 : unknown.length ≤ cunknown) (worlds : List (List Int)) (aworlds : Option Addr) (cworlds : Nat) (_q9 : RSl h aworlds worlds) (_q10 : worlds.length ≤ cworlds) (op : Int) (facts : List Int) (afacts : Option Addr) (cfacts : Nat) (_q11 : RSl h afacts facts) (_q12 : facts.length ≤ cfacts) : Calls Tryz.prog 4 #[.agg #[.int .i64 t.facts, .slice at_ t.init.length ct, .slice at_2 t.goal.length ct2, .slice at_3 t.ops.length ct3], .slice aunknown unknown.length cunknown, .slice aworlds worlds.length cworlds, .int .i64 op, .slice afacts facts.length cfacts] w fun e w' => e = .returned (.bool (sp_lawBeliefMatchesSpec t unknown worlds op facts)) ∧ Below w.heap.size w w' :=
  (w_lawBeliefMatchesSpec hs ht t at_ ct _q1 _q2 at_2 ct2 _q3 _q4 at_3 ct3 _q5 _q6 unknown aunknown cunknown _q7 _q8 worlds aworlds cworlds _q9 _q10 op facts afacts cfacts _q11 _q12 (fun r => r = sp_lawBeliefMatchesSpec t unknown worlds op facts) (ok_lawBeliefMatchesSpec t unknown worlds op facts)).mono fun _ _ ⟨_, hk, he, hb⟩ => ⟨by rw [he, hk], hb⟩

end Go.Proofs.YtojoehfldbimpaaGreatDoor.Pl

