/- The walks: from what each function asks to what it does; printed from the code. No condition. -/
import Derived.Test.YtojoehfldbimpaaDoorW3
namespace Go.Proofs.YtojoehfldbimpaaDoor.Pl
open Go Go.RowKit
theorem w_small {h : FH} {w : World} (hs : Sub h w) (ht : TabH Tryd.prog h) (start2 : List (List Int)) (astart2 : Option Addr) (cstart2 : Nat) (_q1 : RSl h astart2 start2) (_q2 : start2.length ≤ cstart2) (x : Task) (ax : Option Addr) (cx : Nat) (_q3 : RSl h ax x.init) (_q4 : x.init.length ≤ cx) (ax2 : Option Addr) (cx2 : Nat) (_q5 : RSl h ax2 x.goal) (_q6 : x.goal.length ≤ cx2) (ax3 : Option Addr) (cx3 : Nat) (_q7 : RSl h ax3 x.ops) (_q8 : x.ops.length ≤ cx3) (px : Addr) (_q9 : CellsAt h px [.int .i64 x.facts, .slice ax x.init.length cx, .slice ax2 x.goal.length cx2, .slice ax3 x.ops.length cx3]) (K : Bool → Prop) (hF : F_small start2 x K) : Calls Tryd.prog 22 #[.slice astart2 start2.length cstart2, .func (.func 23) #[] #[], .func (.func 35) #[] #[.pointer (some px)]] w fun e w' => ∃ r : Bool, K r ∧ e = .returned (.bool r) ∧ Below w.heap.size w w' := by
  refine enter (args := [.slice astart2 start2.length cstart2, .func (.func 23) #[] #[], .func (.func 35) #[] #[.pointer (some px)]]) Tryd.func22 rfl Tryd.ntmps22 rfl hs ?_
  refine .seq ?_
  refine .region ?_
  refine .v (asg rfl) rfl rfl rfl ?_
  refine .nil ?_
  refine .seqN ?_
  refine .seq ?_
  refine .region ?_
  refine .v (mv rfl) rfl rfl rfl ?_
  refine .v (mv rfl) rfl rfl rfl ?_
  refine .v (mv rfl) rfl rfl rfl ?_
  obtain ⟨q10, hF⟩ := hF
  obtain ⟨r2, q11⟩ : ∃ y_ : List Int × Bool × Bool, y_ = sp_breadthS start2 x := ⟨_, rfl⟩
  replace hF := hF r2 q11
  refine clR (α := Option Addr × Nat) (Φ := fun h1 z => RSl h1 z.1 r2.1 ∧ r2.1.length ≤ z.2) (V := fun z => .tuple #[.slice z.1 r2.1.length z.2, .bool r2.2.1, .bool r2.2.2]) Tryd.call24 rfl rfl (fun w S => (by rw [q11]; exact c_breadthS S.sub (ht.mono (FH.le_refl _)) start2 astart2 cstart2 _q1 _q2 x ax cx _q3 _q4 ax2 cx2 _q5 _q6 ax3 cx3 _q7 _q8 px (CellsAt.mono (FH.le_refl _) _q9) q10)) rfl (fun z h1 le1 hz => ?_)
  obtain ⟨a, c⟩ := z
  obtain ⟨q12, q13⟩ := hz
  refine .v (mv rfl) rfl rfl rfl ?_
  refine .v (ext rfl rfl) rfl rfl rfl ?_
  refine .v (ext rfl rfl) rfl rfl rfl ?_
  refine .v (ext rfl rfl) rfl rfl rfl ?_
  refine .v (asg rfl) rfl rfl rfl ?_
  refine .v (asg rfl) rfl rfl rfl ?_
  refine .v (asg rfl) rfl rfl rfl ?_
  refine .nil ?_
  refine .seqN ?_
  refine .seq ?_
  refine .region ?_
  refine .v (mv rfl) rfl rfl rfl ?_
  refine .v (asg rfl) rfl rfl rfl ?_
  refine .nil ?_
  refine .seqN ?_
  refine .ret ?_
  refine .res1 rfl (rvT rfl) (fun w' S => ⟨r2.2.2, hF, rfl, S.below⟩)

theorem c_small {h : FH} {w : World} (hs : Sub h w) (ht : TabH Tryd.prog h) (start2 : List (List Int)) (astart2 : Option Addr) (cstart2 : Nat) (_q1 : RSl h astart2 start2) (_q2 : start2.length ≤ cstart2) (x : Task) (ax : Option Addr) (cx : Nat) (_q3 : RSl h ax x.init) (_q4 : x.init.length ≤ cx) (ax2 : Option Addr) (cx2 : Nat) (_q5 : RSl h ax2 x.goal) (_q6 : x.goal.length ≤ cx2) (ax3 : Option Addr) (cx3 : Nat) (_q7 : RSl h ax3 x.ops) (_q8 : x.ops.length ≤ cx3) (px : Addr) (_q9 : CellsAt h px [.int .i64 x.facts, .slice ax x.init.length cx, .slice ax2 x.goal.length cx2, .slice ax3 x.ops.length cx3]) (hp : pre_small start2 x) : Calls Tryd.prog 22 #[.slice astart2 start2.length cstart2, .func (.func 23) #[] #[], .func (.func 35) #[] #[.pointer (some px)]] w fun e w' => e = .returned (.bool (sp_small start2 x)) ∧ Below w.heap.size w w' :=
  (w_small hs ht start2 astart2 cstart2 _q1 _q2  x ax cx _q3 _q4 ax2 cx2 _q5 _q6 ax3 cx3 _q7 _q8 px _q9 (fun r => r = sp_small start2 x) (ok_small start2 x hp)).mono fun _ _ ⟨_, hk, he, hb⟩ => ⟨by rw [he, hk], hb⟩

set_option maxHeartbeats 8000000 in
theorem w_bplan {h : FH} {w : World} (hs : Sub h w) (ht : TabH Tryd.prog h) (t : Task) (at_ : Option Addr) (ct : Nat) (_q1 : RSl h at_ t.init) (_q2 : t.init.length ≤ ct) (at_2 : Option Addr) (ct2 : Nat) (_q3 : RSl h at_2 t.goal) (_q4 : t.goal.length ≤ ct2) (at_3 : Option Addr) (ct3 : Nat) (_q5 : RSl h at_3 t.ops) (_q6 : t.ops.length ≤ ct3) (unknown : List Int) (aunknown : Option Addr) (cunknown : Nat) (_q7 : RSl h aunknown unknown) (_q8 : unknown.length ≤ cunknown) (K : (List Int × Bool × Fault) → Prop) (hF : F_bplan t unknown K) : Calls Tryd.prog 9 #[.agg #[.int .i64 t.facts, .slice at_ t.init.length ct, .slice at_2 t.goal.length ct2, .slice at_3 t.ops.length ct3], .slice aunknown unknown.length cunknown] w fun e w' => ∃ (r : List Int × Bool × Fault) (z : Option Addr × Nat) (h1 : FH), K r ∧ e = .returned (.tuple #[.slice z.1 r.1.length z.2, .bool r.2.1, .agg #[.int .i64 r.2.2.code, .int .i64 r.2.2.index]]) ∧ FH.le h h1 ∧ (RSl h1 z.1 r.1 ∧ r.1.length ≤ z.2) ∧ SH (Kp.all w h) h1 w' [] := by
  refine enter (args := [.agg #[.int .i64 t.facts, .slice at_ t.init.length ct, .slice at_2 t.goal.length ct2, .slice at_3 t.ops.length ct3], .slice aunknown unknown.length cunknown]) Tryd.func9 rfl Tryd.ntmps9 rfl hs ?_
  refine .seq ?_
  refine .region ?_
  refine bx (vs := [.int .i64 t.facts, .slice at_ t.init.length ct, .slice at_2 t.goal.length ct2, .slice at_3 t.ops.length ct3]) rfl rfl rfl (fun pt => ?_)
  refine .v (asg rfl) rfl rfl rfl ?_
  refine .v (asg rfl) rfl rfl rfl ?_
  refine al tZ27 rfl (fun pv => ?_)
  refine .nil ?_
  refine .seqN ?_
  refine .seq ?_
  refine .seq ?_
  refine .region ?_
  refine .v (ldA (cs := [.int .i64 t.facts, .slice at_ t.init.length ct, .slice at_2 t.goal.length ct2, .slice at_3 t.ops.length ct3]) rfl tA25 rfl (cellsB (off := 0) (k := 1) rfl (m := 4) rfl)) rfl rfl rfl ?_
  refine .v (mv rfl) rfl rfl rfl ?_
  obtain ⟨r2, q9⟩ : ∃ y_ : Fault, y_ = sp_unknownFault t unknown := ⟨_, rfl⟩
  replace hF := hF r2 q9
  refine .c (cl (v := .agg #[.int .i64 r2.code, .int .i64 r2.index]) Tryd.call11 rfl rfl (fun w S => (by rw [q9]; exact c_unknownFault S.sub t at_ ct _q1 _q2 at_2 ct2 _q3 _q4 at_3 ct3 _q5 _q6 unknown aunknown cunknown _q7 _q8 ))) rfl rfl rfl ?_
  refine al tZ27 rfl (fun pf => ?_)
  refine st (p := pf) (off := 0) (k := 0) (vs := [.int .i64 r2.code, .int .i64 r2.index]) rfl rfl rfl (fun w => (tA27 w).2) rfl rfl rfl rfl ?_
  refine .cast (A' := [Box pf [.int .i64 r2.code, .int .i64 r2.index], Box pv [.int .i64 0, .int .i64 0], Box pt [.int .i64 t.facts, .slice at_ t.init.length ct, .slice at_2 t.goal.length ct2, .slice at_3 t.ops.length ct3]]) rfl ?_
  refine .nil ?_
  refine .seqN ?_
  refine .seq ?_
  refine .region ?_
  refine .v (ldA (cs := [.int .i64 r2.code, .int .i64 r2.index]) rfl tA27 rfl (cellsB (off := 0) (k := 0) rfl (m := 2) rfl)) rfl rfl rfl ?_
  refine .v (bld (cs := #[.int .i64 0, .int .i64 0]) (pv := []) tB27 rfl rfl) rfl rfl rfl ?_
  refine .v (ne2 tE27 rfl rfl) rfl rfl rfl ?_
  refine .nil ?_
  refine .seqN ?_
  refine .cond rfl (fun q11 => ?_) (fun q11 => ?_)
  · replace hF := hF.1 q11
    refine .seq ?_
    refine .openL (by kernel_rfl) rfl (by kernel_rfl) (by kernel_rfl) ?_
    refine .v (ldA (cs := [.int .i64 r2.code, .int .i64 r2.index]) rfl tA27 rfl (cellsB (off := 0) (k := 0) rfl (m := 2) rfl)) rfl rfl rfl ?_
    refine .v (asg rfl) rfl rfl rfl ?_
    refine .v (asg rfl) rfl rfl rfl ?_
    refine .tail ?_
    refine st (p := pv) (off := 0) (k := 1) (vs := [.int .i64 r2.code, .int .i64 r2.index]) rfl rfl rfl (fun w => (tA27 w).2) rfl rfl rfl rfl ?_
    refine .cast (A' := [Box pf [.int .i64 r2.code, .int .i64 r2.index], Box pv [.int .i64 r2.code, .int .i64 r2.index], Box pt [.int .i64 t.facts, .slice at_ t.init.length ct, .slice at_2 t.goal.length ct2, .slice at_3 t.ops.length ct3]]) rfl ?_
    refine .nil ?_
    refine .seqN ?_
    refine .ret ?_
    refine .seqR ?_
    refine .res3 rfl (rvT rfl) (rvT rfl) (rvC rfl tA27 (k := 1) rfl rfl) (fun w' S => ⟨(([] : List Int), false, r2), (none, 0), h, hF, rfl, (FH.le_refl _), ⟨RSl.nil_, (Nat.le_refl 0)⟩, S.none⟩)
  replace hF := hF.2 q11
  refine .skip ?_
  refine .seqN ?_
  refine .seq ?_
  refine .region ?_
  refine .v (ldA (cs := [.int .i64 t.facts, .slice at_ t.init.length ct, .slice at_2 t.goal.length ct2, .slice at_3 t.ops.length ct3]) rfl tA25 rfl (cellsB (off := 0) (k := 2) rfl (m := 4) rfl)) rfl rfl rfl ?_
  obtain ⟨r3, q12⟩ : ∃ y_ : Unit, y_ = sp_bnext t := ⟨_, rfl⟩
  replace hF := hF r3 q12
  refine clR (α := Addr) (Φ := fun h1 z => CellsAt h1 z [.int .i64 t.facts, .slice at_ t.init.length ct, .slice at_2 t.goal.length ct2, .slice at_3 t.ops.length ct3]) (V := fun z => .func (.func 35) #[] #[.pointer (some z)]) Tryd.call21 rfl rfl (fun w S => (by exact c_bnext S.sub t at_ ct _q1 _q2 at_2 ct2 _q3 _q4 at_3 ct3 _q5 _q6 )) rfl (fun z h1 le1 hz => ?_)
  obtain ⟨p, rfl⟩ : ∃ y_, y_ = z := ⟨_, rfl⟩
  have q13 := hz
  refine .v (asg rfl) rfl rfl rfl ?_
  refine .nil ?_
  refine .seqN ?_
  refine .seq ?_
  refine .seq ?_
  refine .region ?_
  refine .v (ldA (cs := [.int .i64 t.facts, .slice at_ t.init.length ct, .slice at_2 t.goal.length ct2, .slice at_3 t.ops.length ct3]) rfl tA25 rfl (cellsB (off := 0) (k := 2) rfl (m := 4) rfl)) rfl rfl rfl ?_
  refine .v (mv rfl) rfl rfl rfl ?_
  obtain ⟨q14, hF⟩ := hF
  obtain ⟨r4, q15⟩ : ∃ y_ : List (List Int), y_ = sp_worlds t unknown := ⟨_, rfl⟩
  replace hF := hF r4 q15
  refine clR (α := Option Addr × Nat) (Φ := fun h1 z => RSl h1 z.1 r4 ∧ r4.length ≤ z.2) (V := fun z => .slice z.1 r4.length z.2) Tryd.call14 rfl rfl (fun w S => (by rw [q15]; exact c_worlds S.sub t at_ ct (_q1.mono (le1)) _q2 at_2 ct2 (_q3.mono (le1)) _q4 at_3 ct3 (_q5.mono (le1)) _q6 unknown aunknown cunknown (_q7.mono (le1)) _q8 q14)) rfl (fun z h2 le2 hz => ?_)
  obtain ⟨a, c⟩ := z
  obtain ⟨q16, q17⟩ := hz
  refine .v (mv rfl) rfl rfl rfl ?_
  obtain ⟨q18, hF⟩ := hF
  obtain ⟨r5, q19⟩ : ∃ y_ : Bool, y_ = sp_small r4 t := ⟨_, rfl⟩
  replace hF := hF r5 q19
  refine .c (cl (v := .bool r5) Tryd.call22 rfl rfl (fun w S => (by rw [q19]; exact c_small S.sub (ht.mono (FH.le_trans (le1) (le2))) r4 a c q16 q17 t at_ ct (_q1.mono (FH.le_trans (le1) (le2))) _q2 at_2 ct2 (_q3.mono (FH.le_trans (le1) (le2))) _q4 at_3 ct3 (_q5.mono (FH.le_trans (le1) (le2))) _q6 p (CellsAt.mono (le2) q13) q18))) rfl rfl rfl ?_
  refine .v (nt rfl) rfl rfl rfl ?_
  refine .nil ?_
  refine .seqN ?_
  refine .cond rfl (fun q21 => ?_) (fun q21 => ?_)
  · replace hF := hF.1 q21
    refine .seq ?_
    refine .region ?_
    refine .v (bld (cs := #[.int .i64 10, .int .i64 (-7)]) (pv := [(0, .int .i64 10), (1, .int .i64 (-7))]) tB27 rfl rfl) rfl rfl rfl ?_
    refine .v (asg rfl) rfl rfl rfl ?_
    refine .v (asg rfl) rfl rfl rfl ?_
    refine st (p := pv) (off := 0) (k := 1) (vs := [.int .i64 10, .int .i64 (-7)]) rfl rfl rfl (fun w => (tA27 w).2) rfl rfl rfl rfl ?_
    refine .cast (A' := [Box pf [.int .i64 r2.code, .int .i64 r2.index], Box pv [.int .i64 10, .int .i64 (-7)], Box pt [.int .i64 t.facts, .slice at_ t.init.length ct, .slice at_2 t.goal.length ct2, .slice at_3 t.ops.length ct3]]) rfl ?_
    refine .nil ?_
    refine .seqN ?_
    refine .ret ?_
    refine .seqR ?_
    refine .res3 rfl (rvT rfl) (rvT rfl) (rvC rfl tA27 (k := 1) rfl rfl) (fun w' S => ⟨(([] : List Int), false, (⟨10, (-7)⟩ : Fault)), (none, 0), h2, hF, rfl, (FH.le_trans (le1) (le2)), ⟨RSl.nil_, (Nat.le_refl 0)⟩, S.none⟩)
  replace hF := hF.2 q21
  refine .skip ?_
  refine .seqN ?_
  refine .seq ?_
  refine .region ?_
  refine .v (ldA (cs := [.int .i64 t.facts, .slice at_ t.init.length ct, .slice at_2 t.goal.length ct2, .slice at_3 t.ops.length ct3]) rfl tA25 rfl (cellsB (off := 0) (k := 2) rfl (m := 4) rfl)) rfl rfl rfl ?_
  refine .v (mv rfl) rfl rfl rfl ?_
  obtain ⟨r6, q22⟩ : ∃ y_ : List (List Int), y_ = sp_worlds t unknown := ⟨_, rfl⟩
  replace hF := hF r6 q22
  refine clR (α := Option Addr × Nat) (Φ := fun h1 z => RSl h1 z.1 r6 ∧ r6.length ≤ z.2) (V := fun z => .slice z.1 r6.length z.2) Tryd.call14 rfl rfl (fun w S => (by rw [q22]; exact c_worlds S.sub t at_ ct (_q1.mono (FH.le_trans (le1) (le2))) _q2 at_2 ct2 (_q3.mono (FH.le_trans (le1) (le2))) _q4 at_3 ct3 (_q5.mono (FH.le_trans (le1) (le2))) _q6 unknown aunknown cunknown (_q7.mono (FH.le_trans (le1) (le2))) _q8 q14)) rfl (fun z h3 le3 hz => ?_)
  obtain ⟨a2, c2⟩ := z
  obtain ⟨q23, q24⟩ := hz
  refine .v (mv rfl) rfl rfl rfl ?_
  refine .v (mkf (vf := []) (vc := [.pointer (some pt)]) rfl rfl) rfl rfl rfl ?_
  refine .freezeBx (k := 2) rfl (fun h4 le4 q25 => ?_)
  refine .cast (A' := [Box pf [.int .i64 r2.code, .int .i64 r2.index], Box pv [.int .i64 0, .int .i64 0], tru]) rfl ?_
  obtain ⟨q26, hF⟩ := hF
  obtain ⟨r7, q27⟩ : ∃ y_ : List Int × Bool × Bool, y_ = sp_breadthP r6 t t := ⟨_, rfl⟩
  replace hF := hF r7 q27
  refine clR (α := Option Addr × Nat) (Φ := fun h1 z => RSl h1 z.1 r7.1 ∧ r7.1.length ≤ z.2) (V := fun z => .tuple #[.slice z.1 r7.1.length z.2, .bool r7.2.1, .bool r7.2.2]) Tryd.call24 rfl rfl (fun w S => (by rw [q27]; exact c_breadthP S.sub (ht.mono (FH.le_trans (FH.le_trans (FH.le_trans (le1) (le2)) (le3)) (le4))) r6 a2 c2 (q23.mono (le4)) q24 t at_ ct (_q1.mono (FH.le_trans (FH.le_trans (FH.le_trans (le1) (le2)) (le3)) (le4))) _q2 at_2 ct2 (_q3.mono (FH.le_trans (FH.le_trans (FH.le_trans (le1) (le2)) (le3)) (le4))) _q4 at_3 ct3 (_q5.mono (FH.le_trans (FH.le_trans (FH.le_trans (le1) (le2)) (le3)) (le4))) _q6 p (CellsAt.mono (FH.le_trans (FH.le_trans (le2) (le3)) (le4)) q13) t at_ ct (_q1.mono (FH.le_trans (FH.le_trans (FH.le_trans (le1) (le2)) (le3)) (le4))) _q2 at_2 ct2 (_q3.mono (FH.le_trans (FH.le_trans (FH.le_trans (le1) (le2)) (le3)) (le4))) _q4 at_3 ct3 (_q5.mono (FH.le_trans (FH.le_trans (FH.le_trans (le1) (le2)) (le3)) (le4))) _q6 pt (CellsAt.mono (FH.le_refl _) q25) q26)) rfl (fun z h5 le5 hz => ?_)
  obtain ⟨a3, c3⟩ := z
  obtain ⟨q28, q29⟩ := hz
  refine .v (mv rfl) rfl rfl rfl ?_
  refine .v (ext rfl rfl) rfl rfl rfl ?_
  refine .v (ext rfl rfl) rfl rfl rfl ?_
  refine .v (ext rfl rfl) rfl rfl rfl ?_
  refine .v (asg rfl) rfl rfl rfl ?_
  refine .v (asg rfl) rfl rfl rfl ?_
  refine .v (asg rfl) rfl rfl rfl ?_
  refine .nil ?_
  refine .seqN ?_
  refine .seq ?_
  refine .seq ?_
  refine .region ?_
  refine .v (mv rfl) rfl rfl rfl ?_
  refine .v (ln rfl tS22.is) rfl rfl rfl ?_
  refine .v (bi rfl rfl rfl) rfl rfl rfl ?_
  refine .nil ?_
  refine .seqN ?_
  refine .cond rfl (fun q31 => ?_) (fun q31 => ?_)
  · replace hF := hF.1 q31
    refine .seq ?_
    refine .region ?_
    refine .v (bld (cs := #[.int .i64 10, .int .i64 (-5)]) (pv := [(0, .int .i64 10), (1, .int .i64 (-5))]) tB27 rfl rfl) rfl rfl rfl ?_
    refine .v (asg rfl) rfl rfl rfl ?_
    refine .v (asg rfl) rfl rfl rfl ?_
    refine st (p := pv) (off := 0) (k := 1) (vs := [.int .i64 10, .int .i64 (-5)]) rfl rfl rfl (fun w => (tA27 w).2) rfl rfl rfl rfl ?_
    refine .cast (A' := [Box pf [.int .i64 r2.code, .int .i64 r2.index], Box pv [.int .i64 10, .int .i64 (-5)], tru]) rfl ?_
    refine .nil ?_
    refine .seqN ?_
    refine .ret ?_
    refine .seqR ?_
    refine .res3 rfl (rvT rfl) (rvT rfl) (rvC rfl tA27 (k := 1) rfl rfl) (fun w' S => ⟨(([] : List Int), false, (⟨10, (-5)⟩ : Fault)), (none, 0), h5, hF, rfl, (FH.le_trans (FH.le_trans (FH.le_trans (FH.le_trans (le1) (le2)) (le3)) (le4)) (le5)), ⟨RSl.nil_, (Nat.le_refl 0)⟩, S.none⟩)
  replace hF := hF.2 q31
  refine .skip ?_
  refine .seqN ?_
  refine .seq ?_
  refine .region ?_
  refine .v (mv rfl) rfl rfl rfl ?_
  refine .v (mv rfl) rfl rfl rfl ?_
  refine .v (bld (cs := #[.int .i64 0, .int .i64 0]) (pv := []) tB27 rfl rfl) rfl rfl rfl ?_
  refine .v (asg rfl) rfl rfl rfl ?_
  refine .v (asg rfl) rfl rfl rfl ?_
  refine st (p := pv) (off := 0) (k := 1) (vs := [.int .i64 0, .int .i64 0]) rfl rfl rfl (fun w => (tA27 w).2) rfl rfl rfl rfl ?_
  refine .cast (A' := [Box pf [.int .i64 r2.code, .int .i64 r2.index], Box pv [.int .i64 0, .int .i64 0], tru]) rfl ?_
  refine .nil ?_
  refine .seqN ?_
  refine .ret ?_
  refine .res3 rfl (rvT rfl) (rvT rfl) (rvC rfl tA27 (k := 1) rfl rfl) (fun w' S => ⟨(r7.1, r7.2.1, (⟨0, 0⟩ : Fault)), (a3, c3), h5, hF, rfl, (FH.le_trans (FH.le_trans (FH.le_trans (FH.le_trans (le1) (le2)) (le3)) (le4)) (le5)), ⟨q28, q29⟩, S.none⟩)

theorem c_bplan {h : FH} {w : World} (hs : Sub h w) (ht : TabH Tryd.prog h) (t : Task) (at_ : Option Addr) (ct : Nat) (_q1 : RSl h at_ t.init) (_q2 : t.init.length ≤ ct) (at_2 : Option Addr) (ct2 : Nat) (_q3 : RSl h at_2 t.goal) (_q4 : t.goal.length ≤ ct2) (at_3 : Option Addr) (ct3 : Nat) (_q5 : RSl h at_3 t.ops) (_q6 : t.ops.length ≤ ct3) (unknown : List Int) (aunknown : Option Addr) (cunknown : Nat) (_q7 : RSl h aunknown unknown) (_q8 : unknown.length ≤ cunknown) : Calls Tryd.prog 9 #[.agg #[.int .i64 t.facts, .slice at_ t.init.length ct, .slice at_2 t.goal.length ct2, .slice at_3 t.ops.length ct3], .slice aunknown unknown.length cunknown] w fun e w' => ∃ (z : Option Addr × Nat) (h1 : FH), e = .returned (.tuple #[.slice z.1 (sp_bplan t unknown).1.length z.2, .bool (sp_bplan t unknown).2.1, .agg #[.int .i64 (sp_bplan t unknown).2.2.code, .int .i64 (sp_bplan t unknown).2.2.index]]) ∧ FH.le h h1 ∧ (RSl h1 z.1 (sp_bplan t unknown).1 ∧ (sp_bplan t unknown).1.length ≤ z.2) ∧ SH (Kp.all w h) h1 w' [] :=
  (w_bplan hs ht t at_ ct _q1 _q2 at_2 ct2 _q3 _q4 at_3 ct3 _q5 _q6 unknown aunknown cunknown _q7 _q8 (fun r => r = sp_bplan t unknown) (ok_bplan t unknown)).mono fun _ _ ⟨r, z, h1, hk, he, hl, hf, hS⟩ => by subst hk; exact ⟨z, h1, he, hl, hf, hS⟩

theorem w_planFault {h : FH} {w : World} (hs : Sub h w) (t : Task) (at_ : Option Addr) (ct : Nat) (_q1 : RSl h at_ t.init) (_q2 : t.init.length ≤ ct) (at_2 : Option Addr) (ct2 : Nat) (_q3 : RSl h at_2 t.goal) (_q4 : t.goal.length ≤ ct2) (at_3 : Option Addr) (ct3 : Nat) (_q5 : RSl h at_3 t.ops) (_q6 : t.ops.length ≤ ct3) (plan : List Int) (aplan : Option Addr) (cplan : Nat) (_q7 : RSl h aplan plan) (_q8 : plan.length ≤ cplan) (K : Fault → Prop) (hF : F_planFault t plan K) : Calls Tryd.prog 27 #[.agg #[.int .i64 t.facts, .slice at_ t.init.length ct, .slice at_2 t.goal.length ct2, .slice at_3 t.ops.length ct3], .slice aplan plan.length cplan] w fun e w' => ∃ r : Fault, K r ∧ e = .returned (.agg #[.int .i64 r.code, .int .i64 r.index]) ∧ Below w.heap.size w w' := by
  refine enter (args := [.agg #[.int .i64 t.facts, .slice at_ t.init.length ct, .slice at_2 t.goal.length ct2, .slice at_3 t.ops.length ct3], .slice aplan plan.length cplan]) Tryd.func27 rfl Tryd.ntmps27 rfl hs ?_
  refine .seq ?_
  refine .region ?_
  refine bx (vs := [.int .i64 t.facts, .slice at_ t.init.length ct, .slice at_2 t.goal.length ct2, .slice at_3 t.ops.length ct3]) rfl rfl rfl (fun pt => ?_)
  refine al tZ27 rfl (fun pv => ?_)
  refine .nil ?_
  refine .seqN ?_
  refine .seq ?_
  refine .seq ?_
  refine .region ?_
  refine .v (ldA (cs := [.int .i64 t.facts, .slice at_ t.init.length ct, .slice at_2 t.goal.length ct2, .slice at_3 t.ops.length ct3]) rfl tA25 rfl (cellsB (off := 0) (k := 1) rfl (m := 4) rfl)) rfl rfl rfl ?_
  obtain ⟨r2, q9⟩ : ∃ y_ : Fault, y_ = sp_validate t := ⟨_, rfl⟩
  replace hF := hF r2 q9
  refine .c (cl (v := .agg #[.int .i64 r2.code, .int .i64 r2.index]) Tryd.call28 rfl rfl (fun w S => (by rw [q9]; exact c_validate S.sub t at_ ct _q1 _q2 at_2 ct2 _q3 _q4 at_3 ct3 _q5 _q6 ))) rfl rfl rfl ?_
  refine al tZ27 rfl (fun pf => ?_)
  refine st (p := pf) (off := 0) (k := 0) (vs := [.int .i64 r2.code, .int .i64 r2.index]) rfl rfl rfl (fun w => (tA27 w).2) rfl rfl rfl rfl ?_
  refine .cast (A' := [Box pf [.int .i64 r2.code, .int .i64 r2.index], Box pv [.int .i64 0, .int .i64 0], Box pt [.int .i64 t.facts, .slice at_ t.init.length ct, .slice at_2 t.goal.length ct2, .slice at_3 t.ops.length ct3]]) rfl ?_
  refine .nil ?_
  refine .seqN ?_
  refine .seq ?_
  refine .region ?_
  refine .v (ldA (cs := [.int .i64 r2.code, .int .i64 r2.index]) rfl tA27 rfl (cellsB (off := 0) (k := 0) rfl (m := 2) rfl)) rfl rfl rfl ?_
  refine .v (bld (cs := #[.int .i64 0, .int .i64 0]) (pv := []) tB27 rfl rfl) rfl rfl rfl ?_
  refine .v (ne2 tE27 rfl rfl) rfl rfl rfl ?_
  refine .nil ?_
  refine .seqN ?_
  refine .cond rfl (fun q11 => ?_) (fun q11 => ?_)
  · replace hF := hF.1 q11
    refine .seq ?_
    refine .region ?_
    refine .v (ldA (cs := [.int .i64 r2.code, .int .i64 r2.index]) rfl tA27 rfl (cellsB (off := 0) (k := 0) rfl (m := 2) rfl)) rfl rfl rfl ?_
    refine st (p := pv) (off := 0) (k := 1) (vs := [.int .i64 r2.code, .int .i64 r2.index]) rfl rfl rfl (fun w => (tA27 w).2) rfl rfl rfl rfl ?_
    refine .cast (A' := [Box pf [.int .i64 r2.code, .int .i64 r2.index], Box pv [.int .i64 r2.code, .int .i64 r2.index], Box pt [.int .i64 t.facts, .slice at_ t.init.length ct, .slice at_2 t.goal.length ct2, .slice at_3 t.ops.length ct3]]) rfl ?_
    refine .nil ?_
    refine .seqN ?_
    refine .ret ?_
    refine .seqR ?_
    refine .res1 rfl (rvC rfl tA27 (k := 1) rfl rfl) (fun w' S => ⟨r2, hF, rfl, S.below⟩)
  replace hF := hF.2 q11
  refine .skip ?_
  refine .seqN ?_
  refine .seq ?_
  refine .region ?_
  refine .v (fa rfl tF25_3) rfl rfl rfl ?_
  refine .v (ld1 rfl tO23 (cellB (off := 3) (k := 2) rfl rfl)) rfl rfl rfl ?_
  refine .v (ln rfl tS23.is) rfl rfl rfl ?_
  refine .v (mv rfl) rfl rfl rfl ?_
  obtain ⟨q12, hF⟩ := hF
  obtain ⟨r3, q13⟩ : ∃ y_ : Fault, y_ = sp_steps ((t.ops.length : Nat) : Int) plan := ⟨_, rfl⟩
  replace hF := hF r3 q13
  refine .c (cl (v := .agg #[.int .i64 r3.code, .int .i64 r3.index]) Tryd.call12 rfl rfl (fun w S => (by rw [q13]; exact c_steps S.sub ((t.ops.length : Nat) : Int) plan aplan cplan _q7 _q8 q12))) rfl rfl rfl ?_
  refine st (p := pv) (off := 0) (k := 1) (vs := [.int .i64 r3.code, .int .i64 r3.index]) rfl rfl rfl (fun w => (tA27 w).2) rfl rfl rfl rfl ?_
  refine .cast (A' := [Box pf [.int .i64 r2.code, .int .i64 r2.index], Box pv [.int .i64 r3.code, .int .i64 r3.index], Box pt [.int .i64 t.facts, .slice at_ t.init.length ct, .slice at_2 t.goal.length ct2, .slice at_3 t.ops.length ct3]]) rfl ?_
  refine .nil ?_
  refine .seqN ?_
  refine .ret ?_
  refine .res1 rfl (rvC rfl tA27 (k := 1) rfl rfl) (fun w' S => ⟨r3, hF, rfl, S.below⟩)

theorem c_planFault {h : FH} {w : World} (hs : Sub h w) (t : Task) (at_ : Option Addr) (ct : Nat) (_q1 : RSl h at_ t.init) (_q2 : t.init.length ≤ ct) (at_2 : Option Addr) (ct2 : Nat) (_q3 : RSl h at_2 t.goal) (_q4 : t.goal.length ≤ ct2) (at_3 : Option Addr) (ct3 : Nat) (_q5 : RSl h at_3 t.ops) (_q6 : t.ops.length ≤ ct3) (plan : List Int) (aplan : Option Addr) (cplan : Nat) (_q7 : RSl h aplan plan) (_q8 : plan.length ≤ cplan) : Calls Tryd.prog 27 #[.agg #[.int .i64 t.facts, .slice at_ t.init.length ct, .slice at_2 t.goal.length ct2, .slice at_3 t.ops.length ct3], .slice aplan plan.length cplan] w fun e w' => e = .returned (.agg #[.int .i64 (sp_planFault t plan).code, .int .i64 (sp_planFault t plan).index]) ∧ Below w.heap.size w w' :=
  (w_planFault hs t at_ ct _q1 _q2 at_2 ct2 _q3 _q4 at_3 ct3 _q5 _q6 plan aplan cplan _q7 _q8 (fun r => r = sp_planFault t plan) (ok_planFault t plan)).mono fun _ _ ⟨_, hk, he, hb⟩ => ⟨by rw [he, hk], hb⟩

theorem w_solves {h : FH} {w : World} (hs : Sub h w) (t : Task) (at_ : Option Addr) (ct : Nat) (_q1 : RSl h at_ t.init) (_q2 : t.init.length ≤ ct) (at_2 : Option Addr) (ct2 : Nat) (_q3 : RSl h at_2 t.goal) (_q4 : t.goal.length ≤ ct2) (at_3 : Option Addr) (ct3 : Nat) (_q5 : RSl h at_3 t.ops) (_q6 : t.ops.length ≤ ct3) (plan : List Int) (aplan : Option Addr) (cplan : Nat) (_q7 : RSl h aplan plan) (_q8 : plan.length ≤ cplan) (K : (Bool × Fault) → Prop) (hF : F_solves t plan K) : Calls Tryd.prog 10 #[.agg #[.int .i64 t.facts, .slice at_ t.init.length ct, .slice at_2 t.goal.length ct2, .slice at_3 t.ops.length ct3], .slice aplan plan.length cplan] w fun e w' => ∃ r : Bool × Fault, K r ∧ e = .returned (.tuple #[.bool r.1, .agg #[.int .i64 r.2.code, .int .i64 r.2.index]]) ∧ Below w.heap.size w w' := by
  refine enter (args := [.agg #[.int .i64 t.facts, .slice at_ t.init.length ct, .slice at_2 t.goal.length ct2, .slice at_3 t.ops.length ct3], .slice aplan plan.length cplan]) Tryd.func10 rfl Tryd.ntmps10 rfl hs ?_
  refine .seq ?_
  refine .region ?_
  refine bx (vs := [.int .i64 t.facts, .slice at_ t.init.length ct, .slice at_2 t.goal.length ct2, .slice at_3 t.ops.length ct3]) rfl rfl rfl (fun pt => ?_)
  refine .v (asg rfl) rfl rfl rfl ?_
  refine al tZ27 rfl (fun pv => ?_)
  refine .nil ?_
  refine .seqN ?_
  refine .seq ?_
  refine .seq ?_
  refine .region ?_
  refine .v (ldA (cs := [.int .i64 t.facts, .slice at_ t.init.length ct, .slice at_2 t.goal.length ct2, .slice at_3 t.ops.length ct3]) rfl tA25 rfl (cellsB (off := 0) (k := 1) rfl (m := 4) rfl)) rfl rfl rfl ?_
  refine .v (mv rfl) rfl rfl rfl ?_
  obtain ⟨r2, q9⟩ : ∃ y_ : Fault, y_ = sp_planFault t plan := ⟨_, rfl⟩
  replace hF := hF r2 q9
  refine .c (cl (v := .agg #[.int .i64 r2.code, .int .i64 r2.index]) Tryd.call27 rfl rfl (fun w S => (by rw [q9]; exact c_planFault S.sub t at_ ct _q1 _q2 at_2 ct2 _q3 _q4 at_3 ct3 _q5 _q6 plan aplan cplan _q7 _q8 ))) rfl rfl rfl ?_
  refine al tZ27 rfl (fun pf => ?_)
  refine st (p := pf) (off := 0) (k := 0) (vs := [.int .i64 r2.code, .int .i64 r2.index]) rfl rfl rfl (fun w => (tA27 w).2) rfl rfl rfl rfl ?_
  refine .cast (A' := [Box pf [.int .i64 r2.code, .int .i64 r2.index], Box pv [.int .i64 0, .int .i64 0], Box pt [.int .i64 t.facts, .slice at_ t.init.length ct, .slice at_2 t.goal.length ct2, .slice at_3 t.ops.length ct3]]) rfl ?_
  refine .nil ?_
  refine .seqN ?_
  refine .seq ?_
  refine .region ?_
  refine .v (ldA (cs := [.int .i64 r2.code, .int .i64 r2.index]) rfl tA27 rfl (cellsB (off := 0) (k := 0) rfl (m := 2) rfl)) rfl rfl rfl ?_
  refine .v (bld (cs := #[.int .i64 0, .int .i64 0]) (pv := []) tB27 rfl rfl) rfl rfl rfl ?_
  refine .v (ne2 tE27 rfl rfl) rfl rfl rfl ?_
  refine .nil ?_
  refine .seqN ?_
  refine .cond rfl (fun q11 => ?_) (fun q11 => ?_)
  · replace hF := hF.1 q11
    refine .seq ?_
    refine .openL (by kernel_rfl) rfl (by kernel_rfl) (by kernel_rfl) ?_
    refine .v (ldA (cs := [.int .i64 r2.code, .int .i64 r2.index]) rfl tA27 rfl (cellsB (off := 0) (k := 0) rfl (m := 2) rfl)) rfl rfl rfl ?_
    refine .v (asg rfl) rfl rfl rfl ?_
    refine .tail ?_
    refine st (p := pv) (off := 0) (k := 1) (vs := [.int .i64 r2.code, .int .i64 r2.index]) rfl rfl rfl (fun w => (tA27 w).2) rfl rfl rfl rfl ?_
    refine .cast (A' := [Box pf [.int .i64 r2.code, .int .i64 r2.index], Box pv [.int .i64 r2.code, .int .i64 r2.index], Box pt [.int .i64 t.facts, .slice at_ t.init.length ct, .slice at_2 t.goal.length ct2, .slice at_3 t.ops.length ct3]]) rfl ?_
    refine .nil ?_
    refine .seqN ?_
    refine .ret ?_
    refine .seqR ?_
    refine .res2 rfl (rvT rfl) (rvC rfl tA27 (k := 1) rfl rfl) (fun w' S => ⟨(false, r2), hF, rfl, S.below⟩)
  replace hF := hF.2 q11
  refine .skip ?_
  refine .seqN ?_
  refine .seq ?_
  refine .region ?_
  refine .v (ldA (cs := [.int .i64 t.facts, .slice at_ t.init.length ct, .slice at_2 t.goal.length ct2, .slice at_3 t.ops.length ct3]) rfl tA25 rfl (cellsB (off := 0) (k := 2) rfl (m := 4) rfl)) rfl rfl rfl ?_
  refine .v (fa rfl tF25_1) rfl rfl rfl ?_
  refine .v (ld1 rfl tO22 (cellB (off := 1) (k := 2) rfl rfl)) rfl rfl rfl ?_
  refine .v (mv rfl) rfl rfl rfl ?_
  obtain ⟨q12, hF⟩ := hF
  obtain ⟨r3, q13⟩ : ∃ y_ : Bool, y_ = sp_rworks t t.init plan := ⟨_, rfl⟩
  replace hF := hF r3 q13
  refine .c (cl (v := .bool r3) Tryd.call16 rfl rfl (fun w S => (by rw [q13]; exact c_works S.sub t at_ ct _q1 _q2 at_2 ct2 _q3 _q4 at_3 ct3 _q5 _q6 t.init at_ ct _q1 _q2 plan aplan cplan _q7 _q8 q12))) rfl rfl rfl ?_
  refine .v (bld (cs := #[.int .i64 0, .int .i64 0]) (pv := []) tB27 rfl rfl) rfl rfl rfl ?_
  refine .v (asg rfl) rfl rfl rfl ?_
  refine st (p := pv) (off := 0) (k := 1) (vs := [.int .i64 0, .int .i64 0]) rfl rfl rfl (fun w => (tA27 w).2) rfl rfl rfl rfl ?_
  refine .cast (A' := [Box pf [.int .i64 r2.code, .int .i64 r2.index], Box pv [.int .i64 0, .int .i64 0], Box pt [.int .i64 t.facts, .slice at_ t.init.length ct, .slice at_2 t.goal.length ct2, .slice at_3 t.ops.length ct3]]) rfl ?_
  refine .nil ?_
  refine .seqN ?_
  refine .ret ?_
  refine .res2 rfl (rvT rfl) (rvC rfl tA27 (k := 1) rfl rfl) (fun w' S => ⟨(r3, (⟨0, 0⟩ : Fault)), hF, rfl, S.below⟩)

theorem c_solves {h : FH} {w : World} (hs : Sub h w) (t : Task) (at_ : Option Addr) (ct : Nat) (_q1 : RSl h at_ t.init) (_q2 : t.init.length ≤ ct) (at_2 : Option Addr) (ct2 : Nat) (_q3 : RSl h at_2 t.goal) (_q4 : t.goal.length ≤ ct2) (at_3 : Option Addr) (ct3 : Nat) (_q5 : RSl h at_3 t.ops) (_q6 : t.ops.length ≤ ct3) (plan : List Int) (aplan : Option Addr) (cplan : Nat) (_q7 : RSl h aplan plan) (_q8 : plan.length ≤ cplan) : Calls Tryd.prog 10 #[.agg #[.int .i64 t.facts, .slice at_ t.init.length ct, .slice at_2 t.goal.length ct2, .slice at_3 t.ops.length ct3], .slice aplan plan.length cplan] w fun e w' => e = .returned (.tuple #[.bool (sp_solves t plan).1, .agg #[.int .i64 (sp_solves t plan).2.code, .int .i64 (sp_solves t plan).2.index]]) ∧ Below w.heap.size w w' :=
  (w_solves hs t at_ ct _q1 _q2 at_2 ct2 _q3 _q4 at_3 ct3 _q5 _q6 plan aplan cplan _q7 _q8 (fun r => r = sp_solves t plan) (ok_solves t plan)).mono fun _ _ ⟨_, hk, he, hb⟩ => ⟨by rw [he, hk], hb⟩

set_option maxHeartbeats 8000000 in
theorem w_settled {h : FH} {w : World} (hs : Sub h w) (ht : TabH Tryd.prog h) (K : Bool → Prop) (hF : F_settled  K) : Calls Tryd.prog 8 #[] w fun e w' => ∃ r : Bool, K r ∧ e = .returned (.bool r) ∧ Below w.heap.size w w' := by
  refine enter (args := []) Tryd.func8 rfl Tryd.ntmps8 rfl hs ?_
  refine .seq ?_
  refine .region ?_
  refine .v (asg rfl) rfl rfl rfl ?_
  refine .nil ?_
  refine .seqN ?_
  refine .seq ?_
  refine .region ?_
  obtain ⟨r2, q1⟩ : ∃ y_ : Task, y_ = sp_able := ⟨_, rfl⟩
  replace hF := hF r2 q1
  refine clR (α := Option Addr × Nat × Option Addr × Nat × Option Addr × Nat) (Φ := fun h1 z => RSl h1 z.1 r2.init ∧ r2.init.length ≤ z.2.1 ∧ RSl h1 z.2.2.1 r2.goal ∧ r2.goal.length ≤ z.2.2.2.1 ∧ RSl h1 z.2.2.2.2.1 r2.ops ∧ r2.ops.length ≤ z.2.2.2.2.2) (V := fun z => .agg #[.int .i64 r2.facts, .slice z.1 r2.init.length z.2.1, .slice z.2.2.1 r2.goal.length z.2.2.2.1, .slice z.2.2.2.2.1 r2.ops.length z.2.2.2.2.2]) Tryd.call17 rfl rfl (fun w S => (by rw [q1]; exact c_able S.sub  )) rfl (fun z h1 le1 hz => ?_)
  obtain ⟨a, c, a2, c2, a3, c3⟩ := z
  obtain ⟨q2, q3, q4, q5, q6, q7⟩ := hz
  refine bs2 (cs := #[.int .i64 0]) (pv := [(0, .int .i64 0)]) tS22 rfl rfl (by decide) (by decide) rfl rfl rfl (fun a4 _ => ?_)
  refine .cast (A' := [OwnSl 3 1 a4 (([0] : List Int).length) 1 (flL ([0] : List Int))]) rfl ?_
  refine .freezeL (k := 0) rfl (fun h2 le2 q10 q9 => ?_)
  refine .cast (A' := [tru]) rfl ?_
  obtain ⟨r3, q11⟩ : ∃ y_ : List Int × Bool × Fault, y_ = sp_bplan r2 ([0] : List Int) := ⟨_, rfl⟩
  replace hF := hF r3 q11
  refine clR (α := Option Addr × Nat) (Φ := fun h1 z => RSl h1 z.1 r3.1 ∧ r3.1.length ≤ z.2) (V := fun z => .tuple #[.slice z.1 r3.1.length z.2, .bool r3.2.1, .agg #[.int .i64 r3.2.2.code, .int .i64 r3.2.2.index]]) Tryd.call9 rfl rfl (fun w S => (by rw [q11]; exact c_bplan S.sub (ht.mono (FH.le_trans (le1) (le2))) r2 a c (q2.mono (le2)) q3 a2 c2 (q4.mono (le2)) q5 a3 c3 (q6.mono (le2)) q7 ([0] : List Int) a4 1 (RSl.of q9) (q10) )) rfl (fun z h3 le3 hz => ?_)
  obtain ⟨a5, c4⟩ := z
  obtain ⟨q12, q13⟩ := hz
  refine .v (mv rfl) rfl rfl rfl ?_
  refine .v (ext rfl rfl) rfl rfl rfl ?_
  refine .v (ext rfl rfl) rfl rfl rfl ?_
  refine .v (ext rfl rfl) rfl rfl rfl ?_
  refine al tZ27 rfl (fun pf => ?_)
  refine .v (asg rfl) rfl rfl rfl ?_
  refine .v (asg rfl) rfl rfl rfl ?_
  refine st (p := pf) (off := 0) (k := 0) (vs := [.int .i64 r3.2.2.code, .int .i64 r3.2.2.index]) rfl rfl rfl (fun w => (tA27 w).2) rfl rfl rfl rfl ?_
  refine .cast (A' := [Box pf [.int .i64 r3.2.2.code, .int .i64 r3.2.2.index], tru]) rfl ?_
  refine .nil ?_
  refine .seqN ?_
  refine .seq ?_
  refine .region ?_
  obtain ⟨r4, q14⟩ : ∃ y_ : Task, y_ = sp_able := ⟨_, rfl⟩
  replace hF := hF r4 q14
  refine clR (α := Option Addr × Nat × Option Addr × Nat × Option Addr × Nat) (Φ := fun h1 z => RSl h1 z.1 r4.init ∧ r4.init.length ≤ z.2.1 ∧ RSl h1 z.2.2.1 r4.goal ∧ r4.goal.length ≤ z.2.2.2.1 ∧ RSl h1 z.2.2.2.2.1 r4.ops ∧ r4.ops.length ≤ z.2.2.2.2.2) (V := fun z => .agg #[.int .i64 r4.facts, .slice z.1 r4.init.length z.2.1, .slice z.2.2.1 r4.goal.length z.2.2.2.1, .slice z.2.2.2.2.1 r4.ops.length z.2.2.2.2.2]) Tryd.call17 rfl rfl (fun w S => (by rw [q14]; exact c_able S.sub  )) rfl (fun z h4 le4 hz => ?_)
  obtain ⟨a6, c5, a7, c6, a8, c7⟩ := z
  obtain ⟨q15, q16, q17, q18, q19, q20⟩ := hz
  refine bs2 (cs := #[.int .i64 0]) (pv := [(0, .int .i64 0)]) tS22 rfl rfl (by decide) (by decide) rfl rfl rfl (fun a9 _ => ?_)
  refine .cast (A' := [OwnSl 3 1 a9 (([0] : List Int).length) 1 (flL ([0] : List Int)), Box pf [.int .i64 r3.2.2.code, .int .i64 r3.2.2.index], tru]) rfl ?_
  refine .freezeL (k := 0) rfl (fun h5 le5 q23 q22 => ?_)
  refine .cast (A' := [tru, Box pf [.int .i64 r3.2.2.code, .int .i64 r3.2.2.index], tru]) rfl ?_
  obtain ⟨r5, q24⟩ : ∃ y_ : List (List Int) × Fault, y_ = sp_initial r4 ([0] : List Int) := ⟨_, rfl⟩
  replace hF := hF r5 q24
  refine clR (α := Option Addr × Nat) (Φ := fun h1 z => RSl h1 z.1 r5.1 ∧ r5.1.length ≤ z.2) (V := fun z => .tuple #[.slice z.1 r5.1.length z.2, .agg #[.int .i64 r5.2.code, .int .i64 r5.2.index]]) Tryd.call18 rfl rfl (fun w S => (by rw [q24]; exact c_initial S.sub r4 a6 c5 (q15.mono (le5)) q16 a7 c6 (q17.mono (le5)) q18 a8 c7 (q19.mono (le5)) q20 ([0] : List Int) a9 1 (RSl.of q22) (q23) )) rfl (fun z h6 le6 hz => ?_)
  obtain ⟨a10, c8⟩ := z
  obtain ⟨q25, q26⟩ := hz
  refine .v (mv rfl) rfl rfl rfl ?_
  refine .v (ext rfl rfl) rfl rfl rfl ?_
  refine .v (ext rfl rfl) rfl rfl rfl ?_
  refine al tZ27 rfl (fun pg => ?_)
  refine .v (asg rfl) rfl rfl rfl ?_
  refine st (p := pg) (off := 0) (k := 0) (vs := [.int .i64 r5.2.code, .int .i64 r5.2.index]) rfl rfl rfl (fun w => (tA27 w).2) rfl rfl rfl rfl ?_
  refine .cast (A' := [Box pg [.int .i64 r5.2.code, .int .i64 r5.2.index], tru, Box pf [.int .i64 r3.2.2.code, .int .i64 r3.2.2.index], tru]) rfl ?_
  refine .nil ?_
  refine .seqN ?_
  refine .seq ?_
  refine .region ?_
  refine .v (fa rfl tF27_0) rfl rfl rfl ?_
  refine .v (ld1 rfl tO3 (cellB (off := 0) (k := 2) rfl rfl)) rfl rfl rfl ?_
  refine .v (bi rfl rfl rfl) rfl rfl rfl ?_
  refine .v (mv rfl) rfl rfl rfl ?_
  rcases Bool.eq_false_or_eq_true (r3.2.2.code == 0) with q40 | q40
  · replace hF := hF.1 q40
    refine .gv (fa rfl tF27_0) rfl rfl rfl q40 rfl rfl ?_
    refine .gv (ld1 rfl tO3 (cellB (off := 0) (k := 0) rfl rfl)) rfl rfl rfl q40 rfl rfl ?_
    refine .gv (bi rfl rfl rfl) rfl rfl rfl q40 rfl rfl ?_
    refine .v (pkT rfl q40 rfl) rfl rfl rfl ?_
    refine .v (mv rfl) rfl rfl rfl ?_
    rcases Bool.eq_false_or_eq_true (r5.2.code == 0) with q41 | q41
    · replace hF := hF.1 q41
      refine .gv (mv rfl) rfl rfl rfl q41 rfl rfl ?_
      refine .v (pkT rfl q41 rfl) rfl rfl rfl ?_
      refine .v (mv rfl) rfl rfl rfl ?_
      rcases Bool.eq_false_or_eq_true (r3.2.1) with q42 | q42
      · replace hF := hF.1 q42
        refine .gv (mv rfl) rfl rfl rfl q42 rfl rfl ?_
        refine .gR rfl rfl rfl q42 ?_
        refine bs2 (cs := #[.int .i64 0]) (pv := [(0, .int .i64 0)]) tS22 rfl rfl (by decide) (by decide) rfl rfl rfl (fun a11 _ => ?_)
        refine .cast (A' := [OwnSl 3 1 a11 (([0] : List Int).length) 1 (flL ([0] : List Int)), Box pg [.int .i64 r5.2.code, .int .i64 r5.2.index], tru, Box pf [.int .i64 r3.2.2.code, .int .i64 r3.2.2.index], tru]) rfl ?_
        obtain ⟨q44, hF⟩ := hF
        obtain ⟨r6, q45⟩ : ∃ y_ : Bool, y_ = sp_numbers r3.1 ([0] : List Int) := ⟨_, rfl⟩
        replace hF := hF r6 q45
        refine .gc (cl (v := .bool r6) Tryd.call19 rfl rfl (fun w S => (by rw [q45]; obtain ⟨h_, hl_, hs_, hne_, hr_⟩ := look S (k := 0) rfl; exact c_numbers hs_ r3.1 a5 c4 (RSl.mono hl_ (q12.mono (FH.le_trans (FH.le_trans (le4) (le5)) (le6)))) q13 ([0] : List Int) a11 1 (RSl.of hr_) (look_len S (k := 0) rfl) q44))) rfl rfl rfl q42 rfl rfl ?_
        refine .v (pkT rfl q42 rfl) rfl rfl rfl ?_
        refine .v (mv rfl) rfl rfl rfl ?_
        rcases Bool.eq_false_or_eq_true (r6) with q46 | q46
        · replace hF := hF.1 q46
          refine .gv (mv rfl) rfl rfl rfl q46 rfl rfl ?_
          refine .gR rfl rfl rfl q46 ?_
          refine bs2 (cs := #[.int .i64 0]) (pv := [(0, .int .i64 0)]) tS22 rfl rfl (by decide) (by decide) rfl rfl rfl (fun a12 _ => ?_)
          refine .cast (A' := [OwnSl 3 1 a12 (([0] : List Int).length) 1 (flL ([0] : List Int)), OwnSl 3 1 a11 (([0] : List Int).length) 1 (flL ([0] : List Int)), Box pg [.int .i64 r5.2.code, .int .i64 r5.2.index], tru, Box pf [.int .i64 r3.2.2.code, .int .i64 r3.2.2.index], tru]) rfl ?_
          refine .gR rfl rfl rfl q46 ?_
          refine .freezeL (k := 0) rfl (fun h8 le8 q49 q48 => ?_)
          refine .cast (A' := [tru, OwnSl 3 1 a11 (([0] : List Int).length) 1 (flL ([0] : List Int)), Box pg [.int .i64 r5.2.code, .int .i64 r5.2.index], tru, Box pf [.int .i64 r3.2.2.code, .int .i64 r3.2.2.index], tru]) rfl ?_
          refine bs2 (cs := #[.slice none 0 0, .slice a12 (([0] : List Int).length) 1]) (pv := [(0, .slice none 0 0), (1, .slice a12 (([0] : List Int).length) 1)]) tS41 rfl rfl (by decide) (by decide) rfl rfl rfl (fun a13 _ => ?_)
          refine .cast (A' := [OwnSl 22 1 a13 (([[], ([0] : List Int)] : List (List Int)).length) 2 [.slice none 0 0, .slice a12 (([0] : List Int).length) 1], tru, OwnSl 3 1 a11 (([0] : List Int).length) 1 (flL ([0] : List Int)), Box pg [.int .i64 r5.2.code, .int .i64 r5.2.index], tru, Box pf [.int .i64 r3.2.2.code, .int .i64 r3.2.2.index], tru]) rfl ?_
          obtain ⟨q51, hF⟩ := hF
          obtain ⟨r7, q52⟩ : ∃ y_ : Bool, y_ = sp_sets r5.1 ([[], ([0] : List Int)] : List (List Int)) := ⟨_, rfl⟩
          replace hF := hF r7 q52
          refine .gc (cl (v := .bool r7) Tryd.call20 rfl rfl (fun w S => (by rw [q52]; obtain ⟨h_, hl_, hs_, hne_, hr_⟩ := look S (k := 0) rfl; exact c_sets hs_ r5.1 a10 c8 (RSl.mono hl_ (q25.mono (le8))) q26 ([[], ([0] : List Int)] : List (List Int)) a13 2 ⟨_, RepL.mono (FH.le_trans (FH.le_refl _) hl_) (show RepL h8 ([[], ([0] : List Int)] : List (List Int)) [.slice none 0 0, .slice a12 (([0] : List Int).length) 1] from ⟨[.slice none 0 0], _, rfl, ⟨none, 0, rfl, Nat.le_refl 0, RSl.nil_⟩, ⟨[.slice a12 (([0] : List Int).length) 1], _, rfl, ⟨a12, 1, rfl, (q49), (RSl.of q48)⟩, rfl⟩⟩), hr_⟩ (look_len S (k := 0) rfl) q51))) rfl rfl rfl q46 rfl rfl ?_
          refine .v (pkT rfl q46 rfl) rfl rfl rfl ?_
          refine .v (asg rfl) rfl rfl rfl ?_
          refine .nil ?_
          refine .seqN ?_
          refine .ret ?_
          refine .res1 rfl (rvT rfl) (fun w' S => ⟨r7, hF, rfl, S.below⟩)
        replace hF := hF.2 q46
        refine .gS rfl rfl rfl q46 rfl rfl ?_
        refine .gS rfl rfl rfl q46 rfl rfl ?_
        refine .gS rfl rfl rfl q46 rfl rfl ?_
        refine .gS rfl rfl rfl q46 rfl rfl ?_
        refine .v (pkF rfl q46 rfl) rfl rfl rfl ?_
        refine .v (asg rfl) rfl rfl rfl ?_
        refine .nil ?_
        refine .seqN ?_
        refine .ret ?_
        refine .res1 rfl (rvT rfl) (fun w' S => ⟨false, hF, rfl, S.below⟩)
      replace hF := hF.2 q42
      refine .gS rfl rfl rfl q42 rfl rfl ?_
      refine .gS rfl rfl rfl q42 rfl rfl ?_
      refine .gS rfl rfl rfl q42 rfl rfl ?_
      refine .v (pkF rfl q42 rfl) rfl rfl rfl ?_
      refine .v (mv rfl) rfl rfl rfl ?_
      refine .gS rfl rfl rfl rfl rfl rfl ?_
      refine .gS rfl rfl rfl rfl rfl rfl ?_
      refine .gS rfl rfl rfl rfl rfl rfl ?_
      refine .gS rfl rfl rfl rfl rfl rfl ?_
      refine .v (pkF rfl rfl rfl) rfl rfl rfl ?_
      refine .v (asg rfl) rfl rfl rfl ?_
      refine .nil ?_
      refine .seqN ?_
      refine .ret ?_
      refine .res1 rfl (rvT rfl) (fun w' S => ⟨false, hF, rfl, S.below⟩)
    replace hF := hF.2 q41
    refine .gS rfl rfl rfl q41 rfl rfl ?_
    refine .v (pkF rfl q41 rfl) rfl rfl rfl ?_
    refine .v (mv rfl) rfl rfl rfl ?_
    refine .gS rfl rfl rfl rfl rfl rfl ?_
    refine .gS rfl rfl rfl rfl rfl rfl ?_
    refine .gS rfl rfl rfl rfl rfl rfl ?_
    refine .v (pkF rfl rfl rfl) rfl rfl rfl ?_
    refine .v (mv rfl) rfl rfl rfl ?_
    refine .gS rfl rfl rfl rfl rfl rfl ?_
    refine .gS rfl rfl rfl rfl rfl rfl ?_
    refine .gS rfl rfl rfl rfl rfl rfl ?_
    refine .gS rfl rfl rfl rfl rfl rfl ?_
    refine .v (pkF rfl rfl rfl) rfl rfl rfl ?_
    refine .v (asg rfl) rfl rfl rfl ?_
    refine .nil ?_
    refine .seqN ?_
    refine .ret ?_
    refine .res1 rfl (rvT rfl) (fun w' S => ⟨false, hF, rfl, S.below⟩)
  replace hF := hF.2 q40
  refine .gS rfl rfl rfl q40 rfl rfl ?_
  refine .gS rfl rfl rfl q40 rfl rfl ?_
  refine .gS rfl rfl rfl q40 rfl rfl ?_
  refine .v (pkF rfl q40 rfl) rfl rfl rfl ?_
  refine .v (mv rfl) rfl rfl rfl ?_
  refine .gS rfl rfl rfl rfl rfl rfl ?_
  refine .v (pkF rfl rfl rfl) rfl rfl rfl ?_
  refine .v (mv rfl) rfl rfl rfl ?_
  refine .gS rfl rfl rfl rfl rfl rfl ?_
  refine .gS rfl rfl rfl rfl rfl rfl ?_
  refine .gS rfl rfl rfl rfl rfl rfl ?_
  refine .v (pkF rfl rfl rfl) rfl rfl rfl ?_
  refine .v (mv rfl) rfl rfl rfl ?_
  refine .gS rfl rfl rfl rfl rfl rfl ?_
  refine .gS rfl rfl rfl rfl rfl rfl ?_
  refine .gS rfl rfl rfl rfl rfl rfl ?_
  refine .gS rfl rfl rfl rfl rfl rfl ?_
  refine .v (pkF rfl rfl rfl) rfl rfl rfl ?_
  refine .v (asg rfl) rfl rfl rfl ?_
  refine .nil ?_
  refine .seqN ?_
  refine .ret ?_
  refine .res1 rfl (rvT rfl) (fun w' S => ⟨false, hF, rfl, S.below⟩)

theorem c_settled {h : FH} {w : World} (hs : Sub h w) (ht : TabH Tryd.prog h) : Calls Tryd.prog 8 #[] w fun e w' => e = .returned (.bool (sp_settled)) ∧ Below w.heap.size w w' :=
  (w_settled hs ht  (fun r => r = sp_settled) (ok_settled )).mono fun _ _ ⟨_, hk, he, hb⟩ => ⟨by rw [he, hk], hb⟩

theorem w_lawBeliefKnown {h : FH} {w : World} (hs : Sub h w) (ht : TabH Tryd.prog h) (t : Task) (at_ : Option Addr) (ct : Nat) (_q1 : RSl h at_ t.init) (_q2 : t.init.length ≤ ct) (at_2 : Option Addr) (ct2 : Nat) (_q3 : RSl h at_2 t.goal) (_q4 : t.goal.length ≤ ct2) (at_3 : Option Addr) (ct3 : Nat) (_q5 : RSl h at_3 t.ops) (_q6 : t.ops.length ≤ ct3) (plan : List Int) (aplan : Option Addr) (cplan : Nat) (_q7 : RSl h aplan plan) (_q8 : plan.length ≤ cplan) (K : Bool → Prop) (hF : F_lawBeliefKnown t plan K) : Calls Tryd.prog 5 #[.agg #[.int .i64 t.facts, .slice at_ t.init.length ct, .slice at_2 t.goal.length ct2, .slice at_3 t.ops.length ct3], .slice aplan plan.length cplan] w fun e w' => ∃ r : Bool, K r ∧ e = .returned (.bool r) ∧ Below w.heap.size w w' := by
  refine enter (args := [.agg #[.int .i64 t.facts, .slice at_ t.init.length ct, .slice at_2 t.goal.length ct2, .slice at_3 t.ops.length ct3], .slice aplan plan.length cplan]) Tryd.func5 rfl Tryd.ntmps5 rfl hs ?_
  refine .seq ?_
  refine .region ?_
  refine bx (vs := [.int .i64 t.facts, .slice at_ t.init.length ct, .slice at_2 t.goal.length ct2, .slice at_3 t.ops.length ct3]) rfl rfl rfl (fun pt => ?_)
  refine .v (asg rfl) rfl rfl rfl ?_
  refine .nil ?_
  refine .seqN ?_
  refine .seq ?_
  refine .region ?_
  refine .v (ldA (cs := [.int .i64 t.facts, .slice at_ t.init.length ct, .slice at_2 t.goal.length ct2, .slice at_3 t.ops.length ct3]) rfl tA25 rfl (cellsB (off := 0) (k := 0) rfl (m := 4) rfl)) rfl rfl rfl ?_
  refine .v (mv rfl) rfl rfl rfl ?_
  obtain ⟨r2, q9⟩ : ∃ y_ : Bool × Fault, y_ = sp_bsolves t [] plan := ⟨_, rfl⟩
  replace hF := hF r2 q9
  refine .c (cl (v := .tuple #[.bool r2.1, .agg #[.int .i64 r2.2.code, .int .i64 r2.2.index]]) Tryd.call6 rfl rfl (fun w S => (by rw [q9]; exact c_bsolves S.sub t at_ ct _q1 _q2 at_2 ct2 _q3 _q4 at_3 ct3 _q5 _q6 [] none 0 RSl.nil_ (Nat.le_refl 0) plan aplan cplan _q7 _q8 ))) rfl rfl rfl ?_
  refine .v (mv rfl) rfl rfl rfl ?_
  refine .v (ext rfl rfl) rfl rfl rfl ?_
  refine .v (ext rfl rfl) rfl rfl rfl ?_
  refine al tZ27 rfl (fun pf => ?_)
  refine .v (asg rfl) rfl rfl rfl ?_
  refine st (p := pf) (off := 0) (k := 0) (vs := [.int .i64 r2.2.code, .int .i64 r2.2.index]) rfl rfl rfl (fun w => (tA27 w).2) rfl rfl rfl rfl ?_
  refine .cast (A' := [Box pf [.int .i64 r2.2.code, .int .i64 r2.2.index], Box pt [.int .i64 t.facts, .slice at_ t.init.length ct, .slice at_2 t.goal.length ct2, .slice at_3 t.ops.length ct3]]) rfl ?_
  refine .nil ?_
  refine .seqN ?_
  refine .seq ?_
  refine .region ?_
  refine .v (ldA (cs := [.int .i64 t.facts, .slice at_ t.init.length ct, .slice at_2 t.goal.length ct2, .slice at_3 t.ops.length ct3]) rfl tA25 rfl (cellsB (off := 0) (k := 1) rfl (m := 4) rfl)) rfl rfl rfl ?_
  refine .v (mv rfl) rfl rfl rfl ?_
  obtain ⟨r3, q10⟩ : ∃ y_ : Bool × Fault, y_ = sp_solves t plan := ⟨_, rfl⟩
  replace hF := hF r3 q10
  refine .c (cl (v := .tuple #[.bool r3.1, .agg #[.int .i64 r3.2.code, .int .i64 r3.2.index]]) Tryd.call10 rfl rfl (fun w S => (by rw [q10]; exact c_solves S.sub t at_ ct _q1 _q2 at_2 ct2 _q3 _q4 at_3 ct3 _q5 _q6 plan aplan cplan _q7 _q8 ))) rfl rfl rfl ?_
  refine .v (mv rfl) rfl rfl rfl ?_
  refine .v (ext rfl rfl) rfl rfl rfl ?_
  refine .v (ext rfl rfl) rfl rfl rfl ?_
  refine al tZ27 rfl (fun pg => ?_)
  refine .v (asg rfl) rfl rfl rfl ?_
  refine st (p := pg) (off := 0) (k := 0) (vs := [.int .i64 r3.2.code, .int .i64 r3.2.index]) rfl rfl rfl (fun w => (tA27 w).2) rfl rfl rfl rfl ?_
  refine .cast (A' := [Box pg [.int .i64 r3.2.code, .int .i64 r3.2.index], Box pf [.int .i64 r2.2.code, .int .i64 r2.2.index], Box pt [.int .i64 t.facts, .slice at_ t.init.length ct, .slice at_2 t.goal.length ct2, .slice at_3 t.ops.length ct3]]) rfl ?_
  refine .nil ?_
  refine .seqN ?_
  refine .seq ?_
  refine .region ?_
  refine .v (mv rfl) rfl rfl rfl ?_
  refine .v (mv rfl) rfl rfl rfl ?_
  refine .v (beql Tryd.underlying4 rfl rfl) rfl rfl rfl ?_
  refine .v (mv rfl) rfl rfl rfl ?_
  rcases Bool.eq_false_or_eq_true (r2.1 == r3.1) with q14 | q14
  · replace hF := hF.1 q14
    refine .gv (ldA (cs := [.int .i64 r2.2.code, .int .i64 r2.2.index]) rfl tA27 rfl (cellsB (off := 0) (k := 1) rfl (m := 2) rfl)) rfl rfl rfl q14 rfl rfl ?_
    refine .gv (ldA (cs := [.int .i64 r3.2.code, .int .i64 r3.2.index]) rfl tA27 rfl (cellsB (off := 0) (k := 0) rfl (m := 2) rfl)) rfl rfl rfl q14 rfl rfl ?_
    refine .gv (eq2 tE27 rfl rfl) rfl rfl rfl q14 rfl rfl ?_
    refine .v (pkT rfl q14 rfl) rfl rfl rfl ?_
    refine .v (mv rfl) rfl rfl rfl ?_
    rcases Bool.eq_false_or_eq_true ((r2.2.code == r3.2.code) && (r2.2.index == r3.2.index)) with q15 | q15
    · replace hF := hF.1 q15
      obtain ⟨r4, q16⟩ : ∃ y_ : Bool, y_ = sp_settled := ⟨_, rfl⟩
      replace hF := hF r4 q16
      refine .gc (cl (v := .bool r4) Tryd.call8 rfl rfl (fun w S => (by rw [q16]; exact c_settled S.sub (ht.mono (FH.le_refl _)) ))) rfl rfl rfl q15 rfl rfl ?_
      refine .v (pkT rfl q15 rfl) rfl rfl rfl ?_
      refine .v (asg rfl) rfl rfl rfl ?_
      refine .nil ?_
      refine .seqN ?_
      refine .ret ?_
      refine .res1 rfl (rvT rfl) (fun w' S => ⟨r4, hF, rfl, S.below⟩)
    replace hF := hF.2 q15
    refine .gS rfl rfl rfl q15 rfl rfl ?_
    refine .v (pkF rfl q15 rfl) rfl rfl rfl ?_
    refine .v (asg rfl) rfl rfl rfl ?_
    refine .nil ?_
    refine .seqN ?_
    refine .ret ?_
    refine .res1 rfl (rvT rfl) (fun w' S => ⟨false, hF, rfl, S.below⟩)
  replace hF := hF.2 q14
  refine .gS rfl rfl rfl q14 rfl rfl ?_
  refine .gS rfl rfl rfl q14 rfl rfl ?_
  refine .gS rfl rfl rfl q14 rfl rfl ?_
  refine .v (pkF rfl q14 rfl) rfl rfl rfl ?_
  refine .v (mv rfl) rfl rfl rfl ?_
  refine .gS rfl rfl rfl rfl rfl rfl ?_
  refine .v (pkF rfl rfl rfl) rfl rfl rfl ?_
  refine .v (asg rfl) rfl rfl rfl ?_
  refine .nil ?_
  refine .seqN ?_
  refine .ret ?_
  refine .res1 rfl (rvT rfl) (fun w' S => ⟨false, hF, rfl, S.below⟩)

theorem c_lawBeliefKnown {h : FH} {w : World} (hs : Sub h w) (ht : TabH Tryd.prog h) (t : Task) (at_ : Option Addr) (ct : Nat) (_q1 : RSl h at_ t.init) (_q2 : t.init.length ≤ ct) (at_2 : Option Addr) (ct2 : Nat) (_q3 : RSl h at_2 t.goal) (_q4 : t.goal.length ≤ ct2) (at_3 : Option Addr) (ct3 : Nat) (_q5 : RSl h at_3 t.ops) (_q6 : t.ops.length ≤ ct3) (plan : List Int) (aplan : Option Addr) (cplan : Nat) (_q7 : RSl h aplan plan) (_q8 : plan.length ≤ cplan) : Calls Tryd.prog 5 #[.agg #[.int .i64 t.facts, .slice at_ t.init.length ct, .slice at_2 t.goal.length ct2, .slice at_3 t.ops.length ct3], .slice aplan plan.length cplan] w fun e w' => e = .returned (.bool (sp_lawBeliefKnown t plan)) ∧ Below w.heap.size w w' :=
  (w_lawBeliefKnown hs ht t at_ ct _q1 _q2 at_2 ct2 _q3 _q4 at_3 ct3 _q5 _q6 plan aplan cplan _q7 _q8 (fun r => r = sp_lawBeliefKnown t plan) (ok_lawBeliefKnown t plan)).mono fun _ _ ⟨_, hk, he, hb⟩ => ⟨by rw [he, hk], hb⟩

set_option maxHeartbeats 8000000 in
theorem w_lawBeliefLess {h : FH} {w : World} (hs : Sub h w) (ht : TabH Tryd.prog h) (t : Task) (at_ : Option Addr) (ct : Nat) (_q1 : RSl h at_ t.init) (_q2 : t.init.length ≤ ct) (at_2 : Option Addr) (ct2 : Nat) (_q3 : RSl h at_2 t.goal) (_q4 : t.goal.length ≤ ct2) (at_3 : Option Addr) (ct3 : Nat) (_q5 : RSl h at_3 t.ops) (_q6 : t.ops.length ≤ ct3) (unknown : List Int) (aunknown : Option Addr) (cunknown : Nat) (_q7 : RSl h aunknown unknown) (_q8 : unknown.length ≤ cunknown) (plan : List Int) (aplan : Option Addr) (cplan : Nat) (_q9 : RSl h aplan plan) (_q10 : plan.length ≤ cplan) (i : Int) (K : Bool → Prop) (hF : F_lawBeliefLess t unknown plan i K) : Calls Tryd.prog 3 #[.agg #[.int .i64 t.facts, .slice at_ t.init.length ct, .slice at_2 t.goal.length ct2, .slice at_3 t.ops.length ct3], .slice aunknown unknown.length cunknown, .slice aplan plan.length cplan, .int .i64 i] w fun e w' => ∃ r : Bool, K r ∧ e = .returned (.bool r) ∧ Below w.heap.size w w' := by
  refine enter (args := [.agg #[.int .i64 t.facts, .slice at_ t.init.length ct, .slice at_2 t.goal.length ct2, .slice at_3 t.ops.length ct3], .slice aunknown unknown.length cunknown, .slice aplan plan.length cplan, .int .i64 i]) Tryd.func3 rfl Tryd.ntmps3 rfl hs ?_
  refine .seq ?_
  refine .region ?_
  refine bx (vs := [.int .i64 t.facts, .slice at_ t.init.length ct, .slice at_2 t.goal.length ct2, .slice at_3 t.ops.length ct3]) rfl rfl rfl (fun pt => ?_)
  refine .v (asg rfl) rfl rfl rfl ?_
  refine .nil ?_
  refine .seqN ?_
  refine .seq ?_
  refine .region ?_
  refine .v (ldA (cs := [.int .i64 t.facts, .slice at_ t.init.length ct, .slice at_2 t.goal.length ct2, .slice at_3 t.ops.length ct3]) rfl tA25 rfl (cellsB (off := 0) (k := 0) rfl (m := 4) rfl)) rfl rfl rfl ?_
  refine .v (mv rfl) rfl rfl rfl ?_
  refine .v (mv rfl) rfl rfl rfl ?_
  obtain ⟨r2, q11⟩ : ∃ y_ : Bool × Fault, y_ = sp_bsolves t unknown plan := ⟨_, rfl⟩
  replace hF := hF r2 q11
  refine .c (cl (v := .tuple #[.bool r2.1, .agg #[.int .i64 r2.2.code, .int .i64 r2.2.index]]) Tryd.call6 rfl rfl (fun w S => (by rw [q11]; exact c_bsolves S.sub t at_ ct _q1 _q2 at_2 ct2 _q3 _q4 at_3 ct3 _q5 _q6 unknown aunknown cunknown _q7 _q8 plan aplan cplan _q9 _q10 ))) rfl rfl rfl ?_
  refine .v (mv rfl) rfl rfl rfl ?_
  refine .v (ext rfl rfl) rfl rfl rfl ?_
  refine .v (ext rfl rfl) rfl rfl rfl ?_
  refine al tZ27 rfl (fun pf => ?_)
  refine .v (asg rfl) rfl rfl rfl ?_
  refine st (p := pf) (off := 0) (k := 0) (vs := [.int .i64 r2.2.code, .int .i64 r2.2.index]) rfl rfl rfl (fun w => (tA27 w).2) rfl rfl rfl rfl ?_
  refine .cast (A' := [Box pf [.int .i64 r2.2.code, .int .i64 r2.2.index], Box pt [.int .i64 t.facts, .slice at_ t.init.length ct, .slice at_2 t.goal.length ct2, .slice at_3 t.ops.length ct3]]) rfl ?_
  refine .nil ?_
  refine .seqN ?_
  refine .seq ?_
  refine .share (σ := Bool) (fun z => F_lawBeliefLess_J1 t unknown plan i K z) (fun z => [(1, .slice aunknown unknown.length cunknown), (2, .slice aplan plan.length cplan), (3, .int .i64 i), (4, .pointer (some pt)), (34, .bool z)]) (fun _ => [Box pt [.int .i64 t.facts, .slice at_ t.init.length ct, .slice at_2 t.goal.length ct2, .slice at_3 t.ops.length ct3]]) (fun _ => h) ?_ (fun q15 => ?_)
  · rintro t34 hF
    show J _ _ _ _ _ [(1, .slice aunknown unknown.length cunknown), (2, .slice aplan plan.length cplan), (3, .int .i64 i), (4, .pointer (some pt)), (34, .bool t34)] [Box pt [.int .i64 t.facts, .slice at_ t.init.length ct, .slice at_2 t.goal.length ct2, .slice at_3 t.ops.length ct3]] h
    refine .cond rfl (fun q18 => ?_) (fun q18 => ?_)
    · replace hF := hF.1 q18
      refine .seq ?_
      refine .region ?_
      obtain ⟨r3, q19⟩ : ∃ y_ : Bool, y_ = sp_settled := ⟨_, rfl⟩
      replace hF := hF r3 q19
      refine .c (cl (v := .bool r3) Tryd.call8 rfl rfl (fun w S => (by rw [q19]; exact c_settled S.sub (ht.mono (FH.le_refl _)) ))) rfl rfl rfl ?_
      refine .v (asg rfl) rfl rfl rfl ?_
      refine .nil ?_
      refine .seqN ?_
      refine .ret ?_
      refine .seqR ?_
      refine .res1 rfl (rvT rfl) (fun w' S => ⟨r3, hF, rfl, S.below⟩)
    replace hF := hF.2 q18
    refine .skip ?_
    refine .seqN ?_
    refine .share (σ := Bool × Int × Int × Addr) (fun z => F_lawBeliefLess_J2 K z.1 z.2.1) (fun z => [(11, .bool z.1), (12, .pointer (some z.2.2.2))]) (fun z => [Box z.2.2.2 [.int .i64 z.2.1, .int .i64 z.2.2.1]]) (fun _ => h) ?_ (fun q42 => ?_)
    · rintro ⟨is, x, x2, p⟩ hF
      show J _ _ _ _ _ [(11, .bool is), (12, .pointer (some p))] [Box p [.int .i64 x, .int .i64 x2]] h
      refine .seq ?_
      refine .region ?_
      refine .v (fa rfl tF27_0) rfl rfl rfl ?_
      refine .v (ld1 rfl tO3 (cellB (off := 0) (k := 0) rfl rfl)) rfl rfl rfl ?_
      refine .v (bi rfl rfl rfl) rfl rfl rfl ?_
      refine .v (mv rfl) rfl rfl rfl ?_
      rcases Bool.eq_false_or_eq_true (x == 0) with q46 | q46
      · replace hF := hF.1 q46
        refine .gv (mv rfl) rfl rfl rfl q46 rfl rfl ?_
        refine .v (pkT rfl q46 rfl) rfl rfl rfl ?_
        refine .v (mv rfl) rfl rfl rfl ?_
        rcases Bool.eq_false_or_eq_true (is) with q47 | q47
        · replace hF := hF.1 q47
          obtain ⟨r4, q48⟩ : ∃ y_ : Bool, y_ = sp_settled := ⟨_, rfl⟩
          replace hF := hF r4 q48
          refine .gc (cl (v := .bool r4) Tryd.call8 rfl rfl (fun w S => (by rw [q48]; exact c_settled S.sub (ht.mono (FH.le_refl _)) ))) rfl rfl rfl q47 rfl rfl ?_
          refine .v (pkT rfl q47 rfl) rfl rfl rfl ?_
          refine .v (asg rfl) rfl rfl rfl ?_
          refine .nil ?_
          refine .seqN ?_
          refine .ret ?_
          refine .res1 rfl (rvT rfl) (fun w' S => ⟨r4, hF, rfl, S.below⟩)
        replace hF := hF.2 q47
        refine .gS rfl rfl rfl q47 rfl rfl ?_
        refine .v (pkF rfl q47 rfl) rfl rfl rfl ?_
        refine .v (asg rfl) rfl rfl rfl ?_
        refine .nil ?_
        refine .seqN ?_
        refine .ret ?_
        refine .res1 rfl (rvT rfl) (fun w' S => ⟨false, hF, rfl, S.below⟩)
      replace hF := hF.2 q46
      refine .gS rfl rfl rfl q46 rfl rfl ?_
      refine .v (pkF rfl q46 rfl) rfl rfl rfl ?_
      refine .v (mv rfl) rfl rfl rfl ?_
      refine .gS rfl rfl rfl rfl rfl rfl ?_
      refine .v (pkF rfl rfl rfl) rfl rfl rfl ?_
      refine .v (asg rfl) rfl rfl rfl ?_
      refine .nil ?_
      refine .seqN ?_
      refine .ret ?_
      refine .res1 rfl (rvT rfl) (fun w' S => ⟨false, hF, rfl, S.below⟩)
    obtain ⟨q49, hF⟩ := hF
    obtain ⟨q50, hF⟩ := hF
    refine .openA (s0 := [(1, .slice aunknown unknown.length cunknown), (2, .slice aplan plan.length cplan), (3, .int .i64 i), (4, .pointer (some pt))]) [0, 2, 3, 4, 6, 7, 8, 9, 11] [(0, .agg #[.int .i64 t.facts, .slice at_ t.init.length ct, .slice at_2 t.goal.length ct2, .slice at_3 t.ops.length ct3]), (2, .slice aunknown unknown.length cunknown), (3, .int .i64 i), (4, .slice aunknown ((unknown.take (i).toNat).length) cunknown), (6, .slice aunknown unknown.length cunknown), (7, .int .i64 i), (8, .int .i64 (IntKind.i64.wrap (i + 1))), (9, .slice (sla aunknown cunknown (IntKind.i64.wrap (i + 1)).toNat 1) ((unknown.drop (IntKind.i64.wrap (i + 1)).toNat).length) (cunknown - (IntKind.i64.wrap (i + 1)).toNat)), (11, .slice aplan plan.length cplan)] (by kernel_rfl) (.cons rfl (.cons rfl (.cons rfl (.cons rfl (.nil))))) [1, 2, 3, 4] [] rfl (by kernel_rfl) ?_
    refine .step [1, 16] 1 rfl (by kernel_rfl) (by kernel_rfl) (.v [] rfl rfl rfl rfl rfl rfl (fun _ => ldA (cs := [.int .i64 t.facts, .slice at_ t.init.length ct, .slice at_2 t.goal.length ct2, .slice at_3 t.ops.length ct3]) rfl tA25 rfl (cellsB (off := 0) (k := 0) rfl (m := 4) rfl)) (.v [] rfl rfl rfl rfl rfl rfl (fun _ => mv rfl) (.v [] rfl rfl rfl rfl rfl rfl (fun _ => mv rfl) (.v [(39, .slice aunknown unknown.length cunknown), (40, .int .i64 i)] rfl rfl rfl rfl rfl rfl (fun _ => slH tS22 rfl rfl q49.1 (take_len q49).symm (take_cap _q8)) (.v [] rfl rfl rfl rfl rfl rfl (fun _ => mv rfl) (.v [] rfl rfl rfl rfl rfl rfl (fun _ => mv rfl) (.v [(44, .int .i64 i)] rfl rfl rfl rfl rfl rfl (fun _ => bi rfl rfl rfl) (.v [(43, .slice aunknown unknown.length cunknown), (45, .int .i64 (IntKind.i64.wrap (i + 1)))] rfl rfl rfl rfl rfl rfl (fun _ => slL2 tS22 rfl rfl q50.1 (drop_len q50).symm (drop_le q50)) (.v [] rfl rfl rfl rfl rfl rfl (fun _ => mv rfl) (.nil)))))))))) (.cons [] rfl rfl (fun sL hL => ?_) (.cons [] rfl rfl (fun sL hL => ?_) (.nil)))
    · refine bs2 (cs := #[]) (pv := []) tS22 rfl rfl (by decide) (by decide) rfl rfl rfl (fun a _ => ?_)
      refine .cast (A' := [OwnSl 3 1 a (([] : List Int).length) 0 (flL ([] : List Int)), Box pt [.int .i64 t.facts, .slice at_ t.init.length ct, .slice at_2 t.goal.length ct2, .slice at_3 t.ops.length ct3]]) rfl ?_
      refine .nil ?_
      refine .ja (M := []) (C' := [0, 2, 3, 4, 6, 7, 8, 9, 11]) (pre := [(1, .slice a (([] : List Int).length) 0)]) [(1, .slice aunknown unknown.length cunknown), (2, .slice aplan plan.length cplan), (3, .int .i64 i), (4, .pointer (some pt))] [1, 2, 3, 4] hL rfl rfl rfl rfl rfl (.cons rfl (.cons rfl (.cons rfl (.cons rfl (.nil))))) rfl rfl (by kernel_rfl) ?_
      refine .step [5, 16] 5 rfl (by kernel_rfl) (by kernel_rfl) (.v [] rfl rfl rfl rfl rfl rfl (fun _ => ldA (cs := [.int .i64 t.facts, .slice at_ t.init.length ct, .slice at_2 t.goal.length ct2, .slice at_3 t.ops.length ct3]) rfl tA25 rfl (cellsB (off := 0) (k := 1) rfl (m := 4) rfl)) (.v [] rfl rfl rfl rfl rfl rfl (fun _ => mv rfl) (.v [] rfl rfl rfl rfl rfl rfl (fun _ => mv rfl) (.v [(39, .slice aunknown unknown.length cunknown), (40, .int .i64 i)] rfl rfl rfl rfl rfl rfl (fun _ => slH tS22 rfl rfl q49.1 (take_len q49).symm (take_cap _q8)) (.v [] rfl rfl rfl rfl rfl rfl (fun _ => mv rfl) (.v [] rfl rfl rfl rfl rfl rfl (fun _ => mv rfl) (.v [(44, .int .i64 i)] rfl rfl rfl rfl rfl rfl (fun _ => bi rfl rfl rfl) (.v [(43, .slice aunknown unknown.length cunknown), (45, .int .i64 (IntKind.i64.wrap (i + 1)))] rfl rfl rfl rfl rfl rfl (fun _ => slL2 tS22 rfl rfl q50.1 (drop_len q50).symm (drop_le q50)) (.v [] rfl rfl rfl rfl rfl rfl (fun _ => mv rfl) (.nil)))))))))) (.cons [(38, .slice a (([] : List Int).length) 0), (41, .slice aunknown ((unknown.take (i).toNat).length) cunknown)] rfl rfl (fun sL hL => ?_) (.cons [] rfl rfl (fun sL hL => ?_) (.nil)))
      · obtain ⟨q52, hF⟩ := hF
        have q53 : ([] : List Int).length + (unknown.take (i).toNat).length = ((([] : List Int) ++ (unknown.take (i).toNat))).length := len_app rfl rfl
        refine app (k := 0) (news := flL (unknown.take (i).toNat)) (cs' := flL (([] : List Int) ++ (unknown.take (i).toNat))) (nm := ((([] : List Int) ++ (unknown.take (i).toNat))).length) tS22 rfl (by decide) rfl rfl rfl (by rw [flL_len]; rfl) (srcH (fun q => (RSl.take_ _q7).ne (by decide) q) ((RSl.take_ _q7).raw)) (flL_one _) (room_of q53 q52).1 (room_of q53 q52).2 q53 (flL_append _ _).symm rfl (fun a2 c => ?_)
        refine .cast (A' := [OwnSl 3 1 a2 ((([] : List Int) ++ (unknown.take (i).toNat)).length) c (flL (([] : List Int) ++ (unknown.take (i).toNat))), Box pt [.int .i64 t.facts, .slice at_ t.init.length ct, .slice at_2 t.goal.length ct2, .slice at_3 t.ops.length ct3]]) rfl ?_
        refine .nil ?_
        refine .ja (M := [4, 2, 3]) (C' := [0, 6, 7, 8, 9, 11]) (pre := [(5, .slice a2 ((([] : List Int) ++ (unknown.take (i).toNat)).length) c)]) [(1, .slice aunknown unknown.length cunknown), (2, .slice aplan plan.length cplan), (3, .int .i64 i), (4, .pointer (some pt))] [1, 2, 3, 4] hL rfl rfl rfl rfl rfl (.cons rfl (.cons rfl (.cons rfl (.cons rfl (.nil))))) rfl rfl (by kernel_rfl) ?_
        refine .step [10, 16] 10 rfl (by kernel_rfl) (by kernel_rfl) (.v [] rfl rfl rfl rfl rfl rfl (fun _ => ldA (cs := [.int .i64 t.facts, .slice at_ t.init.length ct, .slice at_2 t.goal.length ct2, .slice at_3 t.ops.length ct3]) rfl tA25 rfl (cellsB (off := 0) (k := 1) rfl (m := 4) rfl)) (.v [] rfl rfl rfl rfl rfl rfl (fun _ => mv rfl) (.v [] rfl rfl rfl rfl rfl rfl (fun _ => mv rfl) (.v [(44, .int .i64 i)] rfl rfl rfl rfl rfl rfl (fun _ => bi rfl rfl rfl) (.v [(43, .slice aunknown unknown.length cunknown), (45, .int .i64 (IntKind.i64.wrap (i + 1)))] rfl rfl rfl rfl rfl rfl (fun _ => slL2 tS22 rfl rfl q50.1 (drop_len q50).symm (drop_le q50)) (.v [] rfl rfl rfl rfl rfl rfl (fun _ => mv rfl) (.nil))))))) (.cons [(42, .slice a2 ((([] : List Int) ++ (unknown.take (i).toNat)).length) c), (46, .slice (sla aunknown cunknown (IntKind.i64.wrap (i + 1)).toNat 1) ((unknown.drop (IntKind.i64.wrap (i + 1)).toNat).length) (cunknown - (IntKind.i64.wrap (i + 1)).toNat)), (42, .slice a2 ((([] : List Int) ++ (unknown.take (i).toNat)).length) c)] rfl rfl (fun sL hL => ?_) (.cons [] rfl rfl (fun sL hL => ?_) (.nil)))
        · obtain ⟨q54, hF⟩ := hF
          have q55 : (([] : List Int) ++ (unknown.take (i).toNat)).length + (unknown.drop (IntKind.i64.wrap (i + 1)).toNat).length = (((([] : List Int) ++ (unknown.take (i).toNat)) ++ (unknown.drop (IntKind.i64.wrap (i + 1)).toNat))).length := len_app rfl rfl
          refine app (k := 0) (news := flL (unknown.drop (IntKind.i64.wrap (i + 1)).toNat)) (cs' := flL ((([] : List Int) ++ (unknown.take (i).toNat)) ++ (unknown.drop (IntKind.i64.wrap (i + 1)).toNat))) (nm := (((([] : List Int) ++ (unknown.take (i).toNat)) ++ (unknown.drop (IntKind.i64.wrap (i + 1)).toNat))).length) tS22 rfl (by decide) rfl rfl rfl (by rw [flL_len]; rfl) (srcH (fun q => (RSl.drop_ _q7 _q8 q50).ne (by decide) q) ((RSl.drop_ _q7 _q8 q50).raw)) (flL_one _) (room_of q55 q54).1 (room_of q55 q54).2 q55 (flL_append _ _).symm rfl (fun a3 c2 => ?_)
          refine .cast (A' := [OwnSl 3 1 a3 (((([] : List Int) ++ (unknown.take (i).toNat)) ++ (unknown.drop (IntKind.i64.wrap (i + 1)).toNat)).length) c2 (flL ((([] : List Int) ++ (unknown.take (i).toNat)) ++ (unknown.drop (IntKind.i64.wrap (i + 1)).toNat))), Box pt [.int .i64 t.facts, .slice at_ t.init.length ct, .slice at_2 t.goal.length ct2, .slice at_3 t.ops.length ct3]]) rfl ?_
          refine .nil ?_
          obtain ⟨r5, q56⟩ : ∃ y_ : Bool × Fault, y_ = sp_bsolves t ((([] : List Int) ++ (unknown.take (i).toNat)) ++ (unknown.drop (IntKind.i64.wrap (i + 1)).toNat)) plan := ⟨_, rfl⟩
          replace hF := hF r5 q56
          refine .ja (M := [9, 6, 8, 7]) (C' := [0, 11, 12, 13, 14, 15]) (pre := [(10, .slice a3 (((([] : List Int) ++ (unknown.take (i).toNat)) ++ (unknown.drop (IntKind.i64.wrap (i + 1)).toNat)).length) c2), (12, .tuple #[.bool r5.1, .agg #[.int .i64 r5.2.code, .int .i64 r5.2.index]]), (13, .tuple #[.bool r5.1, .agg #[.int .i64 r5.2.code, .int .i64 r5.2.index]]), (14, .bool r5.1), (15, .agg #[.int .i64 r5.2.code, .int .i64 r5.2.index])]) [(1, .slice aunknown unknown.length cunknown), (2, .slice aplan plan.length cplan), (3, .int .i64 i), (4, .pointer (some pt))] [1, 2, 3, 4] hL rfl rfl rfl rfl rfl (.cons rfl (.cons rfl (.cons rfl (.cons rfl (.nil))))) rfl rfl (by kernel_rfl) ?_
          refine .step [16] 16 rfl (by kernel_rfl) (by kernel_rfl) (.v [] rfl rfl rfl rfl rfl rfl (fun _ => ldA (cs := [.int .i64 t.facts, .slice at_ t.init.length ct, .slice at_2 t.goal.length ct2, .slice at_3 t.ops.length ct3]) rfl tA25 rfl (cellsB (off := 0) (k := 1) rfl (m := 4) rfl)) (.v [] rfl rfl rfl rfl rfl rfl (fun _ => mv rfl) (.c [(37, .agg #[.int .i64 t.facts, .slice at_ t.init.length ct, .slice at_2 t.goal.length ct2, .slice at_3 t.ops.length ct3]), (47, .slice a3 (((([] : List Int) ++ (unknown.take (i).toNat)) ++ (unknown.drop (IntKind.i64.wrap (i + 1)).toNat)).length) c2), (48, .slice aplan plan.length cplan), (47, .slice a3 (((([] : List Int) ++ (unknown.take (i).toNat)) ++ (unknown.drop (IntKind.i64.wrap (i + 1)).toNat)).length) c2)] rfl rfl rfl rfl rfl rfl (fun _ => cl (v := .tuple #[.bool r5.1, .agg #[.int .i64 r5.2.code, .int .i64 r5.2.index]]) Tryd.call6 rfl rfl (fun w S => (by rw [q56]; obtain ⟨h_, hl_, hs_, hne_, hr_⟩ := look S (k := 0) rfl; exact c_bsolves hs_ t at_ ct (RSl.mono hl_ _q1) _q2 at_2 ct2 (RSl.mono hl_ _q3) _q4 at_3 ct3 (RSl.mono hl_ _q5) _q6 ((([] : List Int) ++ (unknown.take (i).toNat)) ++ (unknown.drop (IntKind.i64.wrap (i + 1)).toNat)) a3 c2 (RSl.of hr_) (look_len S (k := 0) rfl) plan aplan cplan (RSl.mono hl_ _q9) _q10 ))) (.v [(49, .tuple #[.bool r5.1, .agg #[.int .i64 r5.2.code, .int .i64 r5.2.index]])] rfl rfl rfl rfl rfl rfl (fun _ => mv rfl) (.v [(36, .tuple #[.bool r5.1, .agg #[.int .i64 r5.2.code, .int .i64 r5.2.index]])] rfl rfl rfl rfl rfl rfl (fun _ => ext rfl rfl) (.v [(36, .tuple #[.bool r5.1, .agg #[.int .i64 r5.2.code, .int .i64 r5.2.index]])] rfl rfl rfl rfl rfl rfl (fun _ => ext rfl rfl) (.nil))))))) (.cons [] rfl rfl (fun sL hL => ?_) (.nil))
          refine al tZ27 rfl (fun pg => ?_)
          refine .nil ?_
          refine .ja (M := []) (C' := [0, 11, 12, 13, 14, 15, 17]) (pre := [(16, .pointer (some pg)), (17, .bool r5.1)]) [(1, .slice aunknown unknown.length cunknown), (2, .slice aplan plan.length cplan), (3, .int .i64 i), (4, .pointer (some pt))] [1, 2, 3, 4] hL rfl rfl rfl rfl rfl (.cons rfl (.cons rfl (.cons rfl (.cons rfl (.nil))))) rfl rfl (by kernel_rfl) ?_
          refine .step [18] 18 rfl (by kernel_rfl) (by kernel_rfl) (.v [] rfl rfl rfl rfl rfl rfl (fun _ => ldA (cs := [.int .i64 t.facts, .slice at_ t.init.length ct, .slice at_2 t.goal.length ct2, .slice at_3 t.ops.length ct3]) rfl tA25 rfl (cellsB (off := 0) (k := 2) rfl (m := 4) rfl)) (.v [] rfl rfl rfl rfl rfl rfl (fun _ => mv rfl) (.c [(37, .agg #[.int .i64 t.facts, .slice at_ t.init.length ct, .slice at_2 t.goal.length ct2, .slice at_3 t.ops.length ct3]), (47, .slice a3 (((([] : List Int) ++ (unknown.take (i).toNat)) ++ (unknown.drop (IntKind.i64.wrap (i + 1)).toNat)).length) c2), (48, .slice aplan plan.length cplan), (47, .slice a3 (((([] : List Int) ++ (unknown.take (i).toNat)) ++ (unknown.drop (IntKind.i64.wrap (i + 1)).toNat)).length) c2)] rfl rfl rfl rfl rfl rfl (fun _ => cl (v := .tuple #[.bool r5.1, .agg #[.int .i64 r5.2.code, .int .i64 r5.2.index]]) Tryd.call6 rfl rfl (fun w S => (by rw [q56]; obtain ⟨h_, hl_, hs_, hne_, hr_⟩ := look S (k := 1) rfl; exact c_bsolves hs_ t at_ ct (RSl.mono hl_ _q1) _q2 at_2 ct2 (RSl.mono hl_ _q3) _q4 at_3 ct3 (RSl.mono hl_ _q5) _q6 ((([] : List Int) ++ (unknown.take (i).toNat)) ++ (unknown.drop (IntKind.i64.wrap (i + 1)).toNat)) a3 c2 (RSl.of hr_) (look_len S (k := 1) rfl) plan aplan cplan (RSl.mono hl_ _q9) _q10 ))) (.v [(49, .tuple #[.bool r5.1, .agg #[.int .i64 r5.2.code, .int .i64 r5.2.index]])] rfl rfl rfl rfl rfl rfl (fun _ => mv rfl) (.v [(36, .tuple #[.bool r5.1, .agg #[.int .i64 r5.2.code, .int .i64 r5.2.index]])] rfl rfl rfl rfl rfl rfl (fun _ => ext rfl rfl) (.v [(36, .tuple #[.bool r5.1, .agg #[.int .i64 r5.2.code, .int .i64 r5.2.index]])] rfl rfl rfl rfl rfl rfl (fun _ => ext rfl rfl) (.v [(50, .bool r5.1), (49, .tuple #[.bool r5.1, .agg #[.int .i64 r5.2.code, .int .i64 r5.2.index]]), (37, .agg #[.int .i64 t.facts, .slice at_ t.init.length ct, .slice at_2 t.goal.length ct2, .slice at_3 t.ops.length ct3]), (38, .slice a (([] : List Int).length) 0), (39, .slice aunknown unknown.length cunknown), (40, .int .i64 i), (41, .slice aunknown ((unknown.take (i).toNat).length) cunknown), (42, .slice a2 ((([] : List Int) ++ (unknown.take (i).toNat)).length) c), (43, .slice aunknown unknown.length cunknown), (44, .int .i64 i), (45, .int .i64 (IntKind.i64.wrap (i + 1))), (46, .slice (sla aunknown cunknown (IntKind.i64.wrap (i + 1)).toNat 1) ((unknown.drop (IntKind.i64.wrap (i + 1)).toNat).length) (cunknown - (IntKind.i64.wrap (i + 1)).toNat)), (47, .slice a3 (((([] : List Int) ++ (unknown.take (i).toNat)) ++ (unknown.drop (IntKind.i64.wrap (i + 1)).toNat)).length) c2), (48, .slice aplan plan.length cplan), (49, .tuple #[.bool r5.1, .agg #[.int .i64 r5.2.code, .int .i64 r5.2.index]]), (36, .tuple #[.bool r5.1, .agg #[.int .i64 r5.2.code, .int .i64 r5.2.index]]), (50, .bool r5.1), (12, .pointer (some pg))] rfl rfl rfl rfl rfl rfl (fun _ => asg rfl) (.nil)))))))) (.cons [(12, .pointer (some pg)), (51, .agg #[.int .i64 r5.2.code, .int .i64 r5.2.index]), (11, .bool r5.1), (37, .agg #[.int .i64 t.facts, .slice at_ t.init.length ct, .slice at_2 t.goal.length ct2, .slice at_3 t.ops.length ct3]), (38, .slice a (([] : List Int).length) 0), (39, .slice aunknown unknown.length cunknown), (40, .int .i64 i), (41, .slice aunknown ((unknown.take (i).toNat).length) cunknown), (42, .slice a2 ((([] : List Int) ++ (unknown.take (i).toNat)).length) c), (43, .slice aunknown unknown.length cunknown), (44, .int .i64 i), (45, .int .i64 (IntKind.i64.wrap (i + 1))), (46, .slice (sla aunknown cunknown (IntKind.i64.wrap (i + 1)).toNat 1) ((unknown.drop (IntKind.i64.wrap (i + 1)).toNat).length) (cunknown - (IntKind.i64.wrap (i + 1)).toNat)), (47, .slice a3 (((([] : List Int) ++ (unknown.take (i).toNat)) ++ (unknown.drop (IntKind.i64.wrap (i + 1)).toNat)).length) c2), (48, .slice aplan plan.length cplan), (49, .tuple #[.bool r5.1, .agg #[.int .i64 r5.2.code, .int .i64 r5.2.index]]), (36, .tuple #[.bool r5.1, .agg #[.int .i64 r5.2.code, .int .i64 r5.2.index]]), (50, .bool r5.1), (51, .agg #[.int .i64 r5.2.code, .int .i64 r5.2.index]), (12, .pointer (some pg)), (11, .bool r5.1)] rfl rfl (fun sL hL => ?_) (.nil))
          refine st (p := pg) (off := 0) (k := 0) (vs := [.int .i64 r5.2.code, .int .i64 r5.2.index]) rfl rfl rfl (fun w => (tA27 w).2) rfl rfl rfl rfl ?_
          refine .cast (A' := [Box pg [.int .i64 r5.2.code, .int .i64 r5.2.index], OwnSl 3 1 a3 (((([] : List Int) ++ (unknown.take (i).toNat)) ++ (unknown.drop (IntKind.i64.wrap (i + 1)).toNat)).length) c2 (flL ((([] : List Int) ++ (unknown.take (i).toNat)) ++ (unknown.drop (IntKind.i64.wrap (i + 1)).toNat))), Box pt [.int .i64 t.facts, .slice at_ t.init.length ct, .slice at_2 t.goal.length ct2, .slice at_3 t.ops.length ct3]]) rfl ?_
          refine .nil ?_
          refine .jaN (M := [15, 17, 0, 11, 12, 13, 14]) (C' := []) (pre := []) [1, 2, 3, 4] hL rfl rfl rfl rfl rfl (by kernel_rfl) ?_
          refine .last [(37, .agg #[.int .i64 t.facts, .slice at_ t.init.length ct, .slice at_2 t.goal.length ct2, .slice at_3 t.ops.length ct3]), (38, .slice a (([] : List Int).length) 0), (39, .slice aunknown unknown.length cunknown), (40, .int .i64 i), (41, .slice aunknown ((unknown.take (i).toNat).length) cunknown), (42, .slice a2 ((([] : List Int) ++ (unknown.take (i).toNat)).length) c), (43, .slice aunknown unknown.length cunknown), (44, .int .i64 i), (45, .int .i64 (IntKind.i64.wrap (i + 1))), (46, .slice (sla aunknown cunknown (IntKind.i64.wrap (i + 1)).toNat 1) ((unknown.drop (IntKind.i64.wrap (i + 1)).toNat).length) (cunknown - (IntKind.i64.wrap (i + 1)).toNat)), (47, .slice a3 (((([] : List Int) ++ (unknown.take (i).toNat)) ++ (unknown.drop (IntKind.i64.wrap (i + 1)).toNat)).length) c2), (48, .slice aplan plan.length cplan), (49, .tuple #[.bool r5.1, .agg #[.int .i64 r5.2.code, .int .i64 r5.2.index]]), (36, .tuple #[.bool r5.1, .agg #[.int .i64 r5.2.code, .int .i64 r5.2.index]]), (50, .bool r5.1), (51, .agg #[.int .i64 r5.2.code, .int .i64 r5.2.index]), (12, .pointer (some pg)), (11, .bool r5.1)] rfl (by kernel_rfl) (.nil) rfl ?_
          refine .sel0 [0] (by decide) rfl ?_
          exact .use q42 (r5.1, r5.2.code, r5.2.index, pg) hF (.cons rfl (.cons rfl (.nil))) rfl (FH.le_refl _)
        · refine al tZ27 rfl (fun pg => ?_)
          refine .nil ?_
          refine .ja (M := []) (C' := [0, 6, 7, 8, 9, 11]) (pre := [(16, .pointer (some pg))]) [(1, .slice aunknown unknown.length cunknown), (2, .slice aplan plan.length cplan), (3, .int .i64 i), (4, .pointer (some pt))] [1, 2, 3, 4] hL rfl rfl rfl rfl rfl (.cons rfl (.cons rfl (.cons rfl (.cons rfl (.nil))))) rfl rfl (by kernel_rfl) ?_
          refine .step [10] 10 rfl (by kernel_rfl) (by kernel_rfl) (.v [] rfl rfl rfl rfl rfl rfl (fun _ => ldA (cs := [.int .i64 t.facts, .slice at_ t.init.length ct, .slice at_2 t.goal.length ct2, .slice at_3 t.ops.length ct3]) rfl tA25 rfl (cellsB (off := 0) (k := 2) rfl (m := 4) rfl)) (.v [] rfl rfl rfl rfl rfl rfl (fun _ => mv rfl) (.v [] rfl rfl rfl rfl rfl rfl (fun _ => mv rfl) (.v [(44, .int .i64 i)] rfl rfl rfl rfl rfl rfl (fun _ => bi rfl rfl rfl) (.v [(43, .slice aunknown unknown.length cunknown), (45, .int .i64 (IntKind.i64.wrap (i + 1)))] rfl rfl rfl rfl rfl rfl (fun _ => slL2 tS22 rfl rfl q50.1 (drop_len q50).symm (drop_le q50)) (.v [] rfl rfl rfl rfl rfl rfl (fun _ => mv rfl) (.nil))))))) (.cons [(42, .slice a2 ((([] : List Int) ++ (unknown.take (i).toNat)).length) c), (46, .slice (sla aunknown cunknown (IntKind.i64.wrap (i + 1)).toNat 1) ((unknown.drop (IntKind.i64.wrap (i + 1)).toNat).length) (cunknown - (IntKind.i64.wrap (i + 1)).toNat)), (42, .slice a2 ((([] : List Int) ++ (unknown.take (i).toNat)).length) c)] rfl rfl (fun sL hL => ?_) (.nil))
          obtain ⟨q57, hF⟩ := hF
          have q58 : (([] : List Int) ++ (unknown.take (i).toNat)).length + (unknown.drop (IntKind.i64.wrap (i + 1)).toNat).length = (((([] : List Int) ++ (unknown.take (i).toNat)) ++ (unknown.drop (IntKind.i64.wrap (i + 1)).toNat))).length := len_app rfl rfl
          refine app (k := 1) (news := flL (unknown.drop (IntKind.i64.wrap (i + 1)).toNat)) (cs' := flL ((([] : List Int) ++ (unknown.take (i).toNat)) ++ (unknown.drop (IntKind.i64.wrap (i + 1)).toNat))) (nm := (((([] : List Int) ++ (unknown.take (i).toNat)) ++ (unknown.drop (IntKind.i64.wrap (i + 1)).toNat))).length) tS22 rfl (by decide) rfl rfl rfl (by rw [flL_len]; rfl) (srcH (fun q => (RSl.drop_ _q7 _q8 q50).ne (by decide) q) ((RSl.drop_ _q7 _q8 q50).raw)) (flL_one _) (room_of q58 q57).1 (room_of q58 q57).2 q58 (flL_append _ _).symm rfl (fun a3 c2 => ?_)
          refine .cast (A' := [Box pg [.int .i64 0, .int .i64 0], OwnSl 3 1 a3 (((([] : List Int) ++ (unknown.take (i).toNat)) ++ (unknown.drop (IntKind.i64.wrap (i + 1)).toNat)).length) c2 (flL ((([] : List Int) ++ (unknown.take (i).toNat)) ++ (unknown.drop (IntKind.i64.wrap (i + 1)).toNat))), Box pt [.int .i64 t.facts, .slice at_ t.init.length ct, .slice at_2 t.goal.length ct2, .slice at_3 t.ops.length ct3]]) rfl ?_
          refine .nil ?_
          obtain ⟨r5, q59⟩ : ∃ y_ : Bool × Fault, y_ = sp_bsolves t ((([] : List Int) ++ (unknown.take (i).toNat)) ++ (unknown.drop (IntKind.i64.wrap (i + 1)).toNat)) plan := ⟨_, rfl⟩
          replace hF := hF r5 q59
          refine .ja (M := [9, 6, 8, 7]) (C' := [0, 11, 12, 13, 14, 15, 17]) (pre := [(10, .slice a3 (((([] : List Int) ++ (unknown.take (i).toNat)) ++ (unknown.drop (IntKind.i64.wrap (i + 1)).toNat)).length) c2), (12, .tuple #[.bool r5.1, .agg #[.int .i64 r5.2.code, .int .i64 r5.2.index]]), (13, .tuple #[.bool r5.1, .agg #[.int .i64 r5.2.code, .int .i64 r5.2.index]]), (14, .bool r5.1), (15, .agg #[.int .i64 r5.2.code, .int .i64 r5.2.index]), (17, .bool r5.1)]) [(1, .slice aunknown unknown.length cunknown), (2, .slice aplan plan.length cplan), (3, .int .i64 i), (4, .pointer (some pt))] [1, 2, 3, 4] hL rfl rfl rfl rfl rfl (.cons rfl (.cons rfl (.cons rfl (.cons rfl (.nil))))) rfl rfl (by kernel_rfl) ?_
          refine .step [18] 18 rfl (by kernel_rfl) (by kernel_rfl) (.v [] rfl rfl rfl rfl rfl rfl (fun _ => ldA (cs := [.int .i64 t.facts, .slice at_ t.init.length ct, .slice at_2 t.goal.length ct2, .slice at_3 t.ops.length ct3]) rfl tA25 rfl (cellsB (off := 0) (k := 2) rfl (m := 4) rfl)) (.v [] rfl rfl rfl rfl rfl rfl (fun _ => mv rfl) (.c [(37, .agg #[.int .i64 t.facts, .slice at_ t.init.length ct, .slice at_2 t.goal.length ct2, .slice at_3 t.ops.length ct3]), (47, .slice a3 (((([] : List Int) ++ (unknown.take (i).toNat)) ++ (unknown.drop (IntKind.i64.wrap (i + 1)).toNat)).length) c2), (48, .slice aplan plan.length cplan), (47, .slice a3 (((([] : List Int) ++ (unknown.take (i).toNat)) ++ (unknown.drop (IntKind.i64.wrap (i + 1)).toNat)).length) c2)] rfl rfl rfl rfl rfl rfl (fun _ => cl (v := .tuple #[.bool r5.1, .agg #[.int .i64 r5.2.code, .int .i64 r5.2.index]]) Tryd.call6 rfl rfl (fun w S => (by rw [q59]; obtain ⟨h_, hl_, hs_, hne_, hr_⟩ := look S (k := 1) rfl; exact c_bsolves hs_ t at_ ct (RSl.mono hl_ _q1) _q2 at_2 ct2 (RSl.mono hl_ _q3) _q4 at_3 ct3 (RSl.mono hl_ _q5) _q6 ((([] : List Int) ++ (unknown.take (i).toNat)) ++ (unknown.drop (IntKind.i64.wrap (i + 1)).toNat)) a3 c2 (RSl.of hr_) (look_len S (k := 1) rfl) plan aplan cplan (RSl.mono hl_ _q9) _q10 ))) (.v [(49, .tuple #[.bool r5.1, .agg #[.int .i64 r5.2.code, .int .i64 r5.2.index]])] rfl rfl rfl rfl rfl rfl (fun _ => mv rfl) (.v [(36, .tuple #[.bool r5.1, .agg #[.int .i64 r5.2.code, .int .i64 r5.2.index]])] rfl rfl rfl rfl rfl rfl (fun _ => ext rfl rfl) (.v [(36, .tuple #[.bool r5.1, .agg #[.int .i64 r5.2.code, .int .i64 r5.2.index]])] rfl rfl rfl rfl rfl rfl (fun _ => ext rfl rfl) (.v [(50, .bool r5.1), (49, .tuple #[.bool r5.1, .agg #[.int .i64 r5.2.code, .int .i64 r5.2.index]]), (37, .agg #[.int .i64 t.facts, .slice at_ t.init.length ct, .slice at_2 t.goal.length ct2, .slice at_3 t.ops.length ct3]), (38, .slice a (([] : List Int).length) 0), (39, .slice aunknown unknown.length cunknown), (40, .int .i64 i), (41, .slice aunknown ((unknown.take (i).toNat).length) cunknown), (42, .slice a2 ((([] : List Int) ++ (unknown.take (i).toNat)).length) c), (43, .slice aunknown unknown.length cunknown), (44, .int .i64 i), (45, .int .i64 (IntKind.i64.wrap (i + 1))), (46, .slice (sla aunknown cunknown (IntKind.i64.wrap (i + 1)).toNat 1) ((unknown.drop (IntKind.i64.wrap (i + 1)).toNat).length) (cunknown - (IntKind.i64.wrap (i + 1)).toNat)), (47, .slice a3 (((([] : List Int) ++ (unknown.take (i).toNat)) ++ (unknown.drop (IntKind.i64.wrap (i + 1)).toNat)).length) c2), (48, .slice aplan plan.length cplan), (49, .tuple #[.bool r5.1, .agg #[.int .i64 r5.2.code, .int .i64 r5.2.index]]), (36, .tuple #[.bool r5.1, .agg #[.int .i64 r5.2.code, .int .i64 r5.2.index]]), (50, .bool r5.1), (12, .pointer (some pg))] rfl rfl rfl rfl rfl rfl (fun _ => asg rfl) (.nil)))))))) (.cons [(12, .pointer (some pg)), (51, .agg #[.int .i64 r5.2.code, .int .i64 r5.2.index]), (11, .bool r5.1), (37, .agg #[.int .i64 t.facts, .slice at_ t.init.length ct, .slice at_2 t.goal.length ct2, .slice at_3 t.ops.length ct3]), (38, .slice a (([] : List Int).length) 0), (39, .slice aunknown unknown.length cunknown), (40, .int .i64 i), (41, .slice aunknown ((unknown.take (i).toNat).length) cunknown), (42, .slice a2 ((([] : List Int) ++ (unknown.take (i).toNat)).length) c), (43, .slice aunknown unknown.length cunknown), (44, .int .i64 i), (45, .int .i64 (IntKind.i64.wrap (i + 1))), (46, .slice (sla aunknown cunknown (IntKind.i64.wrap (i + 1)).toNat 1) ((unknown.drop (IntKind.i64.wrap (i + 1)).toNat).length) (cunknown - (IntKind.i64.wrap (i + 1)).toNat)), (47, .slice a3 (((([] : List Int) ++ (unknown.take (i).toNat)) ++ (unknown.drop (IntKind.i64.wrap (i + 1)).toNat)).length) c2), (48, .slice aplan plan.length cplan), (49, .tuple #[.bool r5.1, .agg #[.int .i64 r5.2.code, .int .i64 r5.2.index]]), (36, .tuple #[.bool r5.1, .agg #[.int .i64 r5.2.code, .int .i64 r5.2.index]]), (50, .bool r5.1), (51, .agg #[.int .i64 r5.2.code, .int .i64 r5.2.index]), (12, .pointer (some pg)), (11, .bool r5.1)] rfl rfl (fun sL hL => ?_) (.nil))
          refine st (p := pg) (off := 0) (k := 0) (vs := [.int .i64 r5.2.code, .int .i64 r5.2.index]) rfl rfl rfl (fun w => (tA27 w).2) rfl rfl rfl rfl ?_
          refine .cast (A' := [Box pg [.int .i64 r5.2.code, .int .i64 r5.2.index], OwnSl 3 1 a3 (((([] : List Int) ++ (unknown.take (i).toNat)) ++ (unknown.drop (IntKind.i64.wrap (i + 1)).toNat)).length) c2 (flL ((([] : List Int) ++ (unknown.take (i).toNat)) ++ (unknown.drop (IntKind.i64.wrap (i + 1)).toNat))), Box pt [.int .i64 t.facts, .slice at_ t.init.length ct, .slice at_2 t.goal.length ct2, .slice at_3 t.ops.length ct3]]) rfl ?_
          refine .nil ?_
          refine .jaN (M := [15, 17, 0, 11, 12, 13, 14]) (C' := []) (pre := []) [1, 2, 3, 4] hL rfl rfl rfl rfl rfl (by kernel_rfl) ?_
          refine .last [(37, .agg #[.int .i64 t.facts, .slice at_ t.init.length ct, .slice at_2 t.goal.length ct2, .slice at_3 t.ops.length ct3]), (38, .slice a (([] : List Int).length) 0), (39, .slice aunknown unknown.length cunknown), (40, .int .i64 i), (41, .slice aunknown ((unknown.take (i).toNat).length) cunknown), (42, .slice a2 ((([] : List Int) ++ (unknown.take (i).toNat)).length) c), (43, .slice aunknown unknown.length cunknown), (44, .int .i64 i), (45, .int .i64 (IntKind.i64.wrap (i + 1))), (46, .slice (sla aunknown cunknown (IntKind.i64.wrap (i + 1)).toNat 1) ((unknown.drop (IntKind.i64.wrap (i + 1)).toNat).length) (cunknown - (IntKind.i64.wrap (i + 1)).toNat)), (47, .slice a3 (((([] : List Int) ++ (unknown.take (i).toNat)) ++ (unknown.drop (IntKind.i64.wrap (i + 1)).toNat)).length) c2), (48, .slice aplan plan.length cplan), (49, .tuple #[.bool r5.1, .agg #[.int .i64 r5.2.code, .int .i64 r5.2.index]]), (36, .tuple #[.bool r5.1, .agg #[.int .i64 r5.2.code, .int .i64 r5.2.index]]), (50, .bool r5.1), (51, .agg #[.int .i64 r5.2.code, .int .i64 r5.2.index]), (12, .pointer (some pg)), (11, .bool r5.1)] rfl (by kernel_rfl) (.nil) rfl ?_
          refine .sel0 [0] (by decide) rfl ?_
          exact .use q42 (r5.1, r5.2.code, r5.2.index, pg) hF (.cons rfl (.cons rfl (.nil))) rfl (FH.le_refl _)
      · refine al tZ27 rfl (fun pg => ?_)
        refine .nil ?_
        refine .ja (M := []) (C' := [0, 2, 3, 4, 6, 7, 8, 9, 11]) (pre := [(16, .pointer (some pg))]) [(1, .slice aunknown unknown.length cunknown), (2, .slice aplan plan.length cplan), (3, .int .i64 i), (4, .pointer (some pt))] [1, 2, 3, 4] hL rfl rfl rfl rfl rfl (.cons rfl (.cons rfl (.cons rfl (.cons rfl (.nil))))) rfl rfl (by kernel_rfl) ?_
        refine .step [5] 5 rfl (by kernel_rfl) (by kernel_rfl) (.v [] rfl rfl rfl rfl rfl rfl (fun _ => ldA (cs := [.int .i64 t.facts, .slice at_ t.init.length ct, .slice at_2 t.goal.length ct2, .slice at_3 t.ops.length ct3]) rfl tA25 rfl (cellsB (off := 0) (k := 2) rfl (m := 4) rfl)) (.v [] rfl rfl rfl rfl rfl rfl (fun _ => mv rfl) (.v [] rfl rfl rfl rfl rfl rfl (fun _ => mv rfl) (.v [(39, .slice aunknown unknown.length cunknown), (40, .int .i64 i)] rfl rfl rfl rfl rfl rfl (fun _ => slH tS22 rfl rfl q49.1 (take_len q49).symm (take_cap _q8)) (.v [] rfl rfl rfl rfl rfl rfl (fun _ => mv rfl) (.v [] rfl rfl rfl rfl rfl rfl (fun _ => mv rfl) (.v [(44, .int .i64 i)] rfl rfl rfl rfl rfl rfl (fun _ => bi rfl rfl rfl) (.v [(43, .slice aunknown unknown.length cunknown), (45, .int .i64 (IntKind.i64.wrap (i + 1)))] rfl rfl rfl rfl rfl rfl (fun _ => slL2 tS22 rfl rfl q50.1 (drop_len q50).symm (drop_le q50)) (.v [] rfl rfl rfl rfl rfl rfl (fun _ => mv rfl) (.nil)))))))))) (.cons [(38, .slice a (([] : List Int).length) 0), (41, .slice aunknown ((unknown.take (i).toNat).length) cunknown)] rfl rfl (fun sL hL => ?_) (.nil))
        obtain ⟨q60, hF⟩ := hF
        have q61 : ([] : List Int).length + (unknown.take (i).toNat).length = ((([] : List Int) ++ (unknown.take (i).toNat))).length := len_app rfl rfl
        refine app (k := 1) (news := flL (unknown.take (i).toNat)) (cs' := flL (([] : List Int) ++ (unknown.take (i).toNat))) (nm := ((([] : List Int) ++ (unknown.take (i).toNat))).length) tS22 rfl (by decide) rfl rfl rfl (by rw [flL_len]; rfl) (srcH (fun q => (RSl.take_ _q7).ne (by decide) q) ((RSl.take_ _q7).raw)) (flL_one _) (room_of q61 q60).1 (room_of q61 q60).2 q61 (flL_append _ _).symm rfl (fun a2 c => ?_)
        refine .cast (A' := [Box pg [.int .i64 0, .int .i64 0], OwnSl 3 1 a2 ((([] : List Int) ++ (unknown.take (i).toNat)).length) c (flL (([] : List Int) ++ (unknown.take (i).toNat))), Box pt [.int .i64 t.facts, .slice at_ t.init.length ct, .slice at_2 t.goal.length ct2, .slice at_3 t.ops.length ct3]]) rfl ?_
        refine .nil ?_
        refine .ja (M := [4, 2, 3]) (C' := [0, 6, 7, 8, 9, 11]) (pre := [(5, .slice a2 ((([] : List Int) ++ (unknown.take (i).toNat)).length) c)]) [(1, .slice aunknown unknown.length cunknown), (2, .slice aplan plan.length cplan), (3, .int .i64 i), (4, .pointer (some pt))] [1, 2, 3, 4] hL rfl rfl rfl rfl rfl (.cons rfl (.cons rfl (.cons rfl (.cons rfl (.nil))))) rfl rfl (by kernel_rfl) ?_
        refine .step [10] 10 rfl (by kernel_rfl) (by kernel_rfl) (.v [] rfl rfl rfl rfl rfl rfl (fun _ => ldA (cs := [.int .i64 t.facts, .slice at_ t.init.length ct, .slice at_2 t.goal.length ct2, .slice at_3 t.ops.length ct3]) rfl tA25 rfl (cellsB (off := 0) (k := 2) rfl (m := 4) rfl)) (.v [] rfl rfl rfl rfl rfl rfl (fun _ => mv rfl) (.v [] rfl rfl rfl rfl rfl rfl (fun _ => mv rfl) (.v [(44, .int .i64 i)] rfl rfl rfl rfl rfl rfl (fun _ => bi rfl rfl rfl) (.v [(43, .slice aunknown unknown.length cunknown), (45, .int .i64 (IntKind.i64.wrap (i + 1)))] rfl rfl rfl rfl rfl rfl (fun _ => slL2 tS22 rfl rfl q50.1 (drop_len q50).symm (drop_le q50)) (.v [] rfl rfl rfl rfl rfl rfl (fun _ => mv rfl) (.nil))))))) (.cons [(42, .slice a2 ((([] : List Int) ++ (unknown.take (i).toNat)).length) c), (46, .slice (sla aunknown cunknown (IntKind.i64.wrap (i + 1)).toNat 1) ((unknown.drop (IntKind.i64.wrap (i + 1)).toNat).length) (cunknown - (IntKind.i64.wrap (i + 1)).toNat)), (42, .slice a2 ((([] : List Int) ++ (unknown.take (i).toNat)).length) c)] rfl rfl (fun sL hL => ?_) (.nil))
        obtain ⟨q62, hF⟩ := hF
        have q63 : (([] : List Int) ++ (unknown.take (i).toNat)).length + (unknown.drop (IntKind.i64.wrap (i + 1)).toNat).length = (((([] : List Int) ++ (unknown.take (i).toNat)) ++ (unknown.drop (IntKind.i64.wrap (i + 1)).toNat))).length := len_app rfl rfl
        refine app (k := 1) (news := flL (unknown.drop (IntKind.i64.wrap (i + 1)).toNat)) (cs' := flL ((([] : List Int) ++ (unknown.take (i).toNat)) ++ (unknown.drop (IntKind.i64.wrap (i + 1)).toNat))) (nm := (((([] : List Int) ++ (unknown.take (i).toNat)) ++ (unknown.drop (IntKind.i64.wrap (i + 1)).toNat))).length) tS22 rfl (by decide) rfl rfl rfl (by rw [flL_len]; rfl) (srcH (fun q => (RSl.drop_ _q7 _q8 q50).ne (by decide) q) ((RSl.drop_ _q7 _q8 q50).raw)) (flL_one _) (room_of q63 q62).1 (room_of q63 q62).2 q63 (flL_append _ _).symm rfl (fun a3 c2 => ?_)
        refine .cast (A' := [Box pg [.int .i64 0, .int .i64 0], OwnSl 3 1 a3 (((([] : List Int) ++ (unknown.take (i).toNat)) ++ (unknown.drop (IntKind.i64.wrap (i + 1)).toNat)).length) c2 (flL ((([] : List Int) ++ (unknown.take (i).toNat)) ++ (unknown.drop (IntKind.i64.wrap (i + 1)).toNat))), Box pt [.int .i64 t.facts, .slice at_ t.init.length ct, .slice at_2 t.goal.length ct2, .slice at_3 t.ops.length ct3]]) rfl ?_
        refine .nil ?_
        obtain ⟨r5, q64⟩ : ∃ y_ : Bool × Fault, y_ = sp_bsolves t ((([] : List Int) ++ (unknown.take (i).toNat)) ++ (unknown.drop (IntKind.i64.wrap (i + 1)).toNat)) plan := ⟨_, rfl⟩
        replace hF := hF r5 q64
        refine .ja (M := [9, 6, 8, 7]) (C' := [0, 11, 12, 13, 14, 15, 17]) (pre := [(10, .slice a3 (((([] : List Int) ++ (unknown.take (i).toNat)) ++ (unknown.drop (IntKind.i64.wrap (i + 1)).toNat)).length) c2), (12, .tuple #[.bool r5.1, .agg #[.int .i64 r5.2.code, .int .i64 r5.2.index]]), (13, .tuple #[.bool r5.1, .agg #[.int .i64 r5.2.code, .int .i64 r5.2.index]]), (14, .bool r5.1), (15, .agg #[.int .i64 r5.2.code, .int .i64 r5.2.index]), (17, .bool r5.1)]) [(1, .slice aunknown unknown.length cunknown), (2, .slice aplan plan.length cplan), (3, .int .i64 i), (4, .pointer (some pt))] [1, 2, 3, 4] hL rfl rfl rfl rfl rfl (.cons rfl (.cons rfl (.cons rfl (.cons rfl (.nil))))) rfl rfl (by kernel_rfl) ?_
        refine .step [18] 18 rfl (by kernel_rfl) (by kernel_rfl) (.v [] rfl rfl rfl rfl rfl rfl (fun _ => ldA (cs := [.int .i64 t.facts, .slice at_ t.init.length ct, .slice at_2 t.goal.length ct2, .slice at_3 t.ops.length ct3]) rfl tA25 rfl (cellsB (off := 0) (k := 2) rfl (m := 4) rfl)) (.v [] rfl rfl rfl rfl rfl rfl (fun _ => mv rfl) (.c [(37, .agg #[.int .i64 t.facts, .slice at_ t.init.length ct, .slice at_2 t.goal.length ct2, .slice at_3 t.ops.length ct3]), (47, .slice a3 (((([] : List Int) ++ (unknown.take (i).toNat)) ++ (unknown.drop (IntKind.i64.wrap (i + 1)).toNat)).length) c2), (48, .slice aplan plan.length cplan), (47, .slice a3 (((([] : List Int) ++ (unknown.take (i).toNat)) ++ (unknown.drop (IntKind.i64.wrap (i + 1)).toNat)).length) c2)] rfl rfl rfl rfl rfl rfl (fun _ => cl (v := .tuple #[.bool r5.1, .agg #[.int .i64 r5.2.code, .int .i64 r5.2.index]]) Tryd.call6 rfl rfl (fun w S => (by rw [q64]; obtain ⟨h_, hl_, hs_, hne_, hr_⟩ := look S (k := 1) rfl; exact c_bsolves hs_ t at_ ct (RSl.mono hl_ _q1) _q2 at_2 ct2 (RSl.mono hl_ _q3) _q4 at_3 ct3 (RSl.mono hl_ _q5) _q6 ((([] : List Int) ++ (unknown.take (i).toNat)) ++ (unknown.drop (IntKind.i64.wrap (i + 1)).toNat)) a3 c2 (RSl.of hr_) (look_len S (k := 1) rfl) plan aplan cplan (RSl.mono hl_ _q9) _q10 ))) (.v [(49, .tuple #[.bool r5.1, .agg #[.int .i64 r5.2.code, .int .i64 r5.2.index]])] rfl rfl rfl rfl rfl rfl (fun _ => mv rfl) (.v [(36, .tuple #[.bool r5.1, .agg #[.int .i64 r5.2.code, .int .i64 r5.2.index]])] rfl rfl rfl rfl rfl rfl (fun _ => ext rfl rfl) (.v [(36, .tuple #[.bool r5.1, .agg #[.int .i64 r5.2.code, .int .i64 r5.2.index]])] rfl rfl rfl rfl rfl rfl (fun _ => ext rfl rfl) (.v [(50, .bool r5.1), (49, .tuple #[.bool r5.1, .agg #[.int .i64 r5.2.code, .int .i64 r5.2.index]]), (37, .agg #[.int .i64 t.facts, .slice at_ t.init.length ct, .slice at_2 t.goal.length ct2, .slice at_3 t.ops.length ct3]), (38, .slice a (([] : List Int).length) 0), (39, .slice aunknown unknown.length cunknown), (40, .int .i64 i), (41, .slice aunknown ((unknown.take (i).toNat).length) cunknown), (42, .slice a2 ((([] : List Int) ++ (unknown.take (i).toNat)).length) c), (43, .slice aunknown unknown.length cunknown), (44, .int .i64 i), (45, .int .i64 (IntKind.i64.wrap (i + 1))), (46, .slice (sla aunknown cunknown (IntKind.i64.wrap (i + 1)).toNat 1) ((unknown.drop (IntKind.i64.wrap (i + 1)).toNat).length) (cunknown - (IntKind.i64.wrap (i + 1)).toNat)), (47, .slice a3 (((([] : List Int) ++ (unknown.take (i).toNat)) ++ (unknown.drop (IntKind.i64.wrap (i + 1)).toNat)).length) c2), (48, .slice aplan plan.length cplan), (49, .tuple #[.bool r5.1, .agg #[.int .i64 r5.2.code, .int .i64 r5.2.index]]), (36, .tuple #[.bool r5.1, .agg #[.int .i64 r5.2.code, .int .i64 r5.2.index]]), (50, .bool r5.1), (12, .pointer (some pg))] rfl rfl rfl rfl rfl rfl (fun _ => asg rfl) (.nil)))))))) (.cons [(12, .pointer (some pg)), (51, .agg #[.int .i64 r5.2.code, .int .i64 r5.2.index]), (11, .bool r5.1), (37, .agg #[.int .i64 t.facts, .slice at_ t.init.length ct, .slice at_2 t.goal.length ct2, .slice at_3 t.ops.length ct3]), (38, .slice a (([] : List Int).length) 0), (39, .slice aunknown unknown.length cunknown), (40, .int .i64 i), (41, .slice aunknown ((unknown.take (i).toNat).length) cunknown), (42, .slice a2 ((([] : List Int) ++ (unknown.take (i).toNat)).length) c), (43, .slice aunknown unknown.length cunknown), (44, .int .i64 i), (45, .int .i64 (IntKind.i64.wrap (i + 1))), (46, .slice (sla aunknown cunknown (IntKind.i64.wrap (i + 1)).toNat 1) ((unknown.drop (IntKind.i64.wrap (i + 1)).toNat).length) (cunknown - (IntKind.i64.wrap (i + 1)).toNat)), (47, .slice a3 (((([] : List Int) ++ (unknown.take (i).toNat)) ++ (unknown.drop (IntKind.i64.wrap (i + 1)).toNat)).length) c2), (48, .slice aplan plan.length cplan), (49, .tuple #[.bool r5.1, .agg #[.int .i64 r5.2.code, .int .i64 r5.2.index]]), (36, .tuple #[.bool r5.1, .agg #[.int .i64 r5.2.code, .int .i64 r5.2.index]]), (50, .bool r5.1), (51, .agg #[.int .i64 r5.2.code, .int .i64 r5.2.index]), (12, .pointer (some pg)), (11, .bool r5.1)] rfl rfl (fun sL hL => ?_) (.nil))
        refine st (p := pg) (off := 0) (k := 0) (vs := [.int .i64 r5.2.code, .int .i64 r5.2.index]) rfl rfl rfl (fun w => (tA27 w).2) rfl rfl rfl rfl ?_
        refine .cast (A' := [Box pg [.int .i64 r5.2.code, .int .i64 r5.2.index], OwnSl 3 1 a3 (((([] : List Int) ++ (unknown.take (i).toNat)) ++ (unknown.drop (IntKind.i64.wrap (i + 1)).toNat)).length) c2 (flL ((([] : List Int) ++ (unknown.take (i).toNat)) ++ (unknown.drop (IntKind.i64.wrap (i + 1)).toNat))), Box pt [.int .i64 t.facts, .slice at_ t.init.length ct, .slice at_2 t.goal.length ct2, .slice at_3 t.ops.length ct3]]) rfl ?_
        refine .nil ?_
        refine .jaN (M := [15, 17, 0, 11, 12, 13, 14]) (C' := []) (pre := []) [1, 2, 3, 4] hL rfl rfl rfl rfl rfl (by kernel_rfl) ?_
        refine .last [(37, .agg #[.int .i64 t.facts, .slice at_ t.init.length ct, .slice at_2 t.goal.length ct2, .slice at_3 t.ops.length ct3]), (38, .slice a (([] : List Int).length) 0), (39, .slice aunknown unknown.length cunknown), (40, .int .i64 i), (41, .slice aunknown ((unknown.take (i).toNat).length) cunknown), (42, .slice a2 ((([] : List Int) ++ (unknown.take (i).toNat)).length) c), (43, .slice aunknown unknown.length cunknown), (44, .int .i64 i), (45, .int .i64 (IntKind.i64.wrap (i + 1))), (46, .slice (sla aunknown cunknown (IntKind.i64.wrap (i + 1)).toNat 1) ((unknown.drop (IntKind.i64.wrap (i + 1)).toNat).length) (cunknown - (IntKind.i64.wrap (i + 1)).toNat)), (47, .slice a3 (((([] : List Int) ++ (unknown.take (i).toNat)) ++ (unknown.drop (IntKind.i64.wrap (i + 1)).toNat)).length) c2), (48, .slice aplan plan.length cplan), (49, .tuple #[.bool r5.1, .agg #[.int .i64 r5.2.code, .int .i64 r5.2.index]]), (36, .tuple #[.bool r5.1, .agg #[.int .i64 r5.2.code, .int .i64 r5.2.index]]), (50, .bool r5.1), (51, .agg #[.int .i64 r5.2.code, .int .i64 r5.2.index]), (12, .pointer (some pg)), (11, .bool r5.1)] rfl (by kernel_rfl) (.nil) rfl ?_
        refine .sel0 [0] (by decide) rfl ?_
        exact .use q42 (r5.1, r5.2.code, r5.2.index, pg) hF (.cons rfl (.cons rfl (.nil))) rfl (FH.le_refl _)
    · refine al tZ27 rfl (fun pg => ?_)
      refine .nil ?_
      refine .ja (M := []) (C' := [0, 2, 3, 4, 6, 7, 8, 9, 11]) (pre := [(16, .pointer (some pg))]) [(1, .slice aunknown unknown.length cunknown), (2, .slice aplan plan.length cplan), (3, .int .i64 i), (4, .pointer (some pt))] [1, 2, 3, 4] hL rfl rfl rfl rfl rfl (.cons rfl (.cons rfl (.cons rfl (.cons rfl (.nil))))) rfl rfl (by kernel_rfl) ?_
      refine .step [1] 1 rfl (by kernel_rfl) (by kernel_rfl) (.v [] rfl rfl rfl rfl rfl rfl (fun _ => ldA (cs := [.int .i64 t.facts, .slice at_ t.init.length ct, .slice at_2 t.goal.length ct2, .slice at_3 t.ops.length ct3]) rfl tA25 rfl (cellsB (off := 0) (k := 1) rfl (m := 4) rfl)) (.v [] rfl rfl rfl rfl rfl rfl (fun _ => mv rfl) (.v [] rfl rfl rfl rfl rfl rfl (fun _ => mv rfl) (.v [(39, .slice aunknown unknown.length cunknown), (40, .int .i64 i)] rfl rfl rfl rfl rfl rfl (fun _ => slH tS22 rfl rfl q49.1 (take_len q49).symm (take_cap _q8)) (.v [] rfl rfl rfl rfl rfl rfl (fun _ => mv rfl) (.v [] rfl rfl rfl rfl rfl rfl (fun _ => mv rfl) (.v [(44, .int .i64 i)] rfl rfl rfl rfl rfl rfl (fun _ => bi rfl rfl rfl) (.v [(43, .slice aunknown unknown.length cunknown), (45, .int .i64 (IntKind.i64.wrap (i + 1)))] rfl rfl rfl rfl rfl rfl (fun _ => slL2 tS22 rfl rfl q50.1 (drop_len q50).symm (drop_le q50)) (.v [] rfl rfl rfl rfl rfl rfl (fun _ => mv rfl) (.nil)))))))))) (.cons [] rfl rfl (fun sL hL => ?_) (.nil))
      refine bs2 (cs := #[]) (pv := []) tS22 rfl rfl (by decide) (by decide) rfl rfl rfl (fun a _ => ?_)
      refine .cast (A' := [OwnSl 3 1 a (([] : List Int).length) 0 (flL ([] : List Int)), Box pg [.int .i64 0, .int .i64 0], Box pt [.int .i64 t.facts, .slice at_ t.init.length ct, .slice at_2 t.goal.length ct2, .slice at_3 t.ops.length ct3]]) rfl ?_
      refine .nil ?_
      refine .ja (M := []) (C' := [0, 2, 3, 4, 6, 7, 8, 9, 11]) (pre := [(1, .slice a (([] : List Int).length) 0)]) [(1, .slice aunknown unknown.length cunknown), (2, .slice aplan plan.length cplan), (3, .int .i64 i), (4, .pointer (some pt))] [1, 2, 3, 4] hL rfl rfl rfl rfl rfl (.cons rfl (.cons rfl (.cons rfl (.cons rfl (.nil))))) rfl rfl (by kernel_rfl) ?_
      refine .step [5] 5 rfl (by kernel_rfl) (by kernel_rfl) (.v [] rfl rfl rfl rfl rfl rfl (fun _ => ldA (cs := [.int .i64 t.facts, .slice at_ t.init.length ct, .slice at_2 t.goal.length ct2, .slice at_3 t.ops.length ct3]) rfl tA25 rfl (cellsB (off := 0) (k := 2) rfl (m := 4) rfl)) (.v [] rfl rfl rfl rfl rfl rfl (fun _ => mv rfl) (.v [] rfl rfl rfl rfl rfl rfl (fun _ => mv rfl) (.v [(39, .slice aunknown unknown.length cunknown), (40, .int .i64 i)] rfl rfl rfl rfl rfl rfl (fun _ => slH tS22 rfl rfl q49.1 (take_len q49).symm (take_cap _q8)) (.v [] rfl rfl rfl rfl rfl rfl (fun _ => mv rfl) (.v [] rfl rfl rfl rfl rfl rfl (fun _ => mv rfl) (.v [(44, .int .i64 i)] rfl rfl rfl rfl rfl rfl (fun _ => bi rfl rfl rfl) (.v [(43, .slice aunknown unknown.length cunknown), (45, .int .i64 (IntKind.i64.wrap (i + 1)))] rfl rfl rfl rfl rfl rfl (fun _ => slL2 tS22 rfl rfl q50.1 (drop_len q50).symm (drop_le q50)) (.v [] rfl rfl rfl rfl rfl rfl (fun _ => mv rfl) (.nil)))))))))) (.cons [(38, .slice a (([] : List Int).length) 0), (41, .slice aunknown ((unknown.take (i).toNat).length) cunknown)] rfl rfl (fun sL hL => ?_) (.nil))
      obtain ⟨q66, hF⟩ := hF
      have q67 : ([] : List Int).length + (unknown.take (i).toNat).length = ((([] : List Int) ++ (unknown.take (i).toNat))).length := len_app rfl rfl
      refine app (k := 0) (news := flL (unknown.take (i).toNat)) (cs' := flL (([] : List Int) ++ (unknown.take (i).toNat))) (nm := ((([] : List Int) ++ (unknown.take (i).toNat))).length) tS22 rfl (by decide) rfl rfl rfl (by rw [flL_len]; rfl) (srcH (fun q => (RSl.take_ _q7).ne (by decide) q) ((RSl.take_ _q7).raw)) (flL_one _) (room_of q67 q66).1 (room_of q67 q66).2 q67 (flL_append _ _).symm rfl (fun a2 c => ?_)
      refine .cast (A' := [OwnSl 3 1 a2 ((([] : List Int) ++ (unknown.take (i).toNat)).length) c (flL (([] : List Int) ++ (unknown.take (i).toNat))), Box pg [.int .i64 0, .int .i64 0], Box pt [.int .i64 t.facts, .slice at_ t.init.length ct, .slice at_2 t.goal.length ct2, .slice at_3 t.ops.length ct3]]) rfl ?_
      refine .nil ?_
      refine .ja (M := [4, 2, 3]) (C' := [0, 6, 7, 8, 9, 11]) (pre := [(5, .slice a2 ((([] : List Int) ++ (unknown.take (i).toNat)).length) c)]) [(1, .slice aunknown unknown.length cunknown), (2, .slice aplan plan.length cplan), (3, .int .i64 i), (4, .pointer (some pt))] [1, 2, 3, 4] hL rfl rfl rfl rfl rfl (.cons rfl (.cons rfl (.cons rfl (.cons rfl (.nil))))) rfl rfl (by kernel_rfl) ?_
      refine .step [10] 10 rfl (by kernel_rfl) (by kernel_rfl) (.v [] rfl rfl rfl rfl rfl rfl (fun _ => ldA (cs := [.int .i64 t.facts, .slice at_ t.init.length ct, .slice at_2 t.goal.length ct2, .slice at_3 t.ops.length ct3]) rfl tA25 rfl (cellsB (off := 0) (k := 2) rfl (m := 4) rfl)) (.v [] rfl rfl rfl rfl rfl rfl (fun _ => mv rfl) (.v [] rfl rfl rfl rfl rfl rfl (fun _ => mv rfl) (.v [(44, .int .i64 i)] rfl rfl rfl rfl rfl rfl (fun _ => bi rfl rfl rfl) (.v [(43, .slice aunknown unknown.length cunknown), (45, .int .i64 (IntKind.i64.wrap (i + 1)))] rfl rfl rfl rfl rfl rfl (fun _ => slL2 tS22 rfl rfl q50.1 (drop_len q50).symm (drop_le q50)) (.v [] rfl rfl rfl rfl rfl rfl (fun _ => mv rfl) (.nil))))))) (.cons [(42, .slice a2 ((([] : List Int) ++ (unknown.take (i).toNat)).length) c), (46, .slice (sla aunknown cunknown (IntKind.i64.wrap (i + 1)).toNat 1) ((unknown.drop (IntKind.i64.wrap (i + 1)).toNat).length) (cunknown - (IntKind.i64.wrap (i + 1)).toNat)), (42, .slice a2 ((([] : List Int) ++ (unknown.take (i).toNat)).length) c)] rfl rfl (fun sL hL => ?_) (.nil))
      obtain ⟨q68, hF⟩ := hF
      have q69 : (([] : List Int) ++ (unknown.take (i).toNat)).length + (unknown.drop (IntKind.i64.wrap (i + 1)).toNat).length = (((([] : List Int) ++ (unknown.take (i).toNat)) ++ (unknown.drop (IntKind.i64.wrap (i + 1)).toNat))).length := len_app rfl rfl
      refine app (k := 0) (news := flL (unknown.drop (IntKind.i64.wrap (i + 1)).toNat)) (cs' := flL ((([] : List Int) ++ (unknown.take (i).toNat)) ++ (unknown.drop (IntKind.i64.wrap (i + 1)).toNat))) (nm := (((([] : List Int) ++ (unknown.take (i).toNat)) ++ (unknown.drop (IntKind.i64.wrap (i + 1)).toNat))).length) tS22 rfl (by decide) rfl rfl rfl (by rw [flL_len]; rfl) (srcH (fun q => (RSl.drop_ _q7 _q8 q50).ne (by decide) q) ((RSl.drop_ _q7 _q8 q50).raw)) (flL_one _) (room_of q69 q68).1 (room_of q69 q68).2 q69 (flL_append _ _).symm rfl (fun a3 c2 => ?_)
      refine .cast (A' := [OwnSl 3 1 a3 (((([] : List Int) ++ (unknown.take (i).toNat)) ++ (unknown.drop (IntKind.i64.wrap (i + 1)).toNat)).length) c2 (flL ((([] : List Int) ++ (unknown.take (i).toNat)) ++ (unknown.drop (IntKind.i64.wrap (i + 1)).toNat))), Box pg [.int .i64 0, .int .i64 0], Box pt [.int .i64 t.facts, .slice at_ t.init.length ct, .slice at_2 t.goal.length ct2, .slice at_3 t.ops.length ct3]]) rfl ?_
      refine .nil ?_
      obtain ⟨r5, q70⟩ : ∃ y_ : Bool × Fault, y_ = sp_bsolves t ((([] : List Int) ++ (unknown.take (i).toNat)) ++ (unknown.drop (IntKind.i64.wrap (i + 1)).toNat)) plan := ⟨_, rfl⟩
      replace hF := hF r5 q70
      refine .ja (M := [9, 6, 8, 7]) (C' := [0, 11, 12, 13, 14, 15, 17]) (pre := [(10, .slice a3 (((([] : List Int) ++ (unknown.take (i).toNat)) ++ (unknown.drop (IntKind.i64.wrap (i + 1)).toNat)).length) c2), (12, .tuple #[.bool r5.1, .agg #[.int .i64 r5.2.code, .int .i64 r5.2.index]]), (13, .tuple #[.bool r5.1, .agg #[.int .i64 r5.2.code, .int .i64 r5.2.index]]), (14, .bool r5.1), (15, .agg #[.int .i64 r5.2.code, .int .i64 r5.2.index]), (17, .bool r5.1)]) [(1, .slice aunknown unknown.length cunknown), (2, .slice aplan plan.length cplan), (3, .int .i64 i), (4, .pointer (some pt))] [1, 2, 3, 4] hL rfl rfl rfl rfl rfl (.cons rfl (.cons rfl (.cons rfl (.cons rfl (.nil))))) rfl rfl (by kernel_rfl) ?_
      refine .step [18] 18 rfl (by kernel_rfl) (by kernel_rfl) (.v [] rfl rfl rfl rfl rfl rfl (fun _ => ldA (cs := [.int .i64 t.facts, .slice at_ t.init.length ct, .slice at_2 t.goal.length ct2, .slice at_3 t.ops.length ct3]) rfl tA25 rfl (cellsB (off := 0) (k := 2) rfl (m := 4) rfl)) (.v [] rfl rfl rfl rfl rfl rfl (fun _ => mv rfl) (.c [(37, .agg #[.int .i64 t.facts, .slice at_ t.init.length ct, .slice at_2 t.goal.length ct2, .slice at_3 t.ops.length ct3]), (47, .slice a3 (((([] : List Int) ++ (unknown.take (i).toNat)) ++ (unknown.drop (IntKind.i64.wrap (i + 1)).toNat)).length) c2), (48, .slice aplan plan.length cplan), (47, .slice a3 (((([] : List Int) ++ (unknown.take (i).toNat)) ++ (unknown.drop (IntKind.i64.wrap (i + 1)).toNat)).length) c2)] rfl rfl rfl rfl rfl rfl (fun _ => cl (v := .tuple #[.bool r5.1, .agg #[.int .i64 r5.2.code, .int .i64 r5.2.index]]) Tryd.call6 rfl rfl (fun w S => (by rw [q70]; obtain ⟨h_, hl_, hs_, hne_, hr_⟩ := look S (k := 0) rfl; exact c_bsolves hs_ t at_ ct (RSl.mono hl_ _q1) _q2 at_2 ct2 (RSl.mono hl_ _q3) _q4 at_3 ct3 (RSl.mono hl_ _q5) _q6 ((([] : List Int) ++ (unknown.take (i).toNat)) ++ (unknown.drop (IntKind.i64.wrap (i + 1)).toNat)) a3 c2 (RSl.of hr_) (look_len S (k := 0) rfl) plan aplan cplan (RSl.mono hl_ _q9) _q10 ))) (.v [(49, .tuple #[.bool r5.1, .agg #[.int .i64 r5.2.code, .int .i64 r5.2.index]])] rfl rfl rfl rfl rfl rfl (fun _ => mv rfl) (.v [(36, .tuple #[.bool r5.1, .agg #[.int .i64 r5.2.code, .int .i64 r5.2.index]])] rfl rfl rfl rfl rfl rfl (fun _ => ext rfl rfl) (.v [(36, .tuple #[.bool r5.1, .agg #[.int .i64 r5.2.code, .int .i64 r5.2.index]])] rfl rfl rfl rfl rfl rfl (fun _ => ext rfl rfl) (.v [(50, .bool r5.1), (49, .tuple #[.bool r5.1, .agg #[.int .i64 r5.2.code, .int .i64 r5.2.index]]), (37, .agg #[.int .i64 t.facts, .slice at_ t.init.length ct, .slice at_2 t.goal.length ct2, .slice at_3 t.ops.length ct3]), (38, .slice a (([] : List Int).length) 0), (39, .slice aunknown unknown.length cunknown), (40, .int .i64 i), (41, .slice aunknown ((unknown.take (i).toNat).length) cunknown), (42, .slice a2 ((([] : List Int) ++ (unknown.take (i).toNat)).length) c), (43, .slice aunknown unknown.length cunknown), (44, .int .i64 i), (45, .int .i64 (IntKind.i64.wrap (i + 1))), (46, .slice (sla aunknown cunknown (IntKind.i64.wrap (i + 1)).toNat 1) ((unknown.drop (IntKind.i64.wrap (i + 1)).toNat).length) (cunknown - (IntKind.i64.wrap (i + 1)).toNat)), (47, .slice a3 (((([] : List Int) ++ (unknown.take (i).toNat)) ++ (unknown.drop (IntKind.i64.wrap (i + 1)).toNat)).length) c2), (48, .slice aplan plan.length cplan), (49, .tuple #[.bool r5.1, .agg #[.int .i64 r5.2.code, .int .i64 r5.2.index]]), (36, .tuple #[.bool r5.1, .agg #[.int .i64 r5.2.code, .int .i64 r5.2.index]]), (50, .bool r5.1), (12, .pointer (some pg))] rfl rfl rfl rfl rfl rfl (fun _ => asg rfl) (.nil)))))))) (.cons [(12, .pointer (some pg)), (51, .agg #[.int .i64 r5.2.code, .int .i64 r5.2.index]), (11, .bool r5.1), (37, .agg #[.int .i64 t.facts, .slice at_ t.init.length ct, .slice at_2 t.goal.length ct2, .slice at_3 t.ops.length ct3]), (38, .slice a (([] : List Int).length) 0), (39, .slice aunknown unknown.length cunknown), (40, .int .i64 i), (41, .slice aunknown ((unknown.take (i).toNat).length) cunknown), (42, .slice a2 ((([] : List Int) ++ (unknown.take (i).toNat)).length) c), (43, .slice aunknown unknown.length cunknown), (44, .int .i64 i), (45, .int .i64 (IntKind.i64.wrap (i + 1))), (46, .slice (sla aunknown cunknown (IntKind.i64.wrap (i + 1)).toNat 1) ((unknown.drop (IntKind.i64.wrap (i + 1)).toNat).length) (cunknown - (IntKind.i64.wrap (i + 1)).toNat)), (47, .slice a3 (((([] : List Int) ++ (unknown.take (i).toNat)) ++ (unknown.drop (IntKind.i64.wrap (i + 1)).toNat)).length) c2), (48, .slice aplan plan.length cplan), (49, .tuple #[.bool r5.1, .agg #[.int .i64 r5.2.code, .int .i64 r5.2.index]]), (36, .tuple #[.bool r5.1, .agg #[.int .i64 r5.2.code, .int .i64 r5.2.index]]), (50, .bool r5.1), (51, .agg #[.int .i64 r5.2.code, .int .i64 r5.2.index]), (12, .pointer (some pg)), (11, .bool r5.1)] rfl rfl (fun sL hL => ?_) (.nil))
      refine st (p := pg) (off := 0) (k := 1) (vs := [.int .i64 r5.2.code, .int .i64 r5.2.index]) rfl rfl rfl (fun w => (tA27 w).2) rfl rfl rfl rfl ?_
      refine .cast (A' := [OwnSl 3 1 a3 (((([] : List Int) ++ (unknown.take (i).toNat)) ++ (unknown.drop (IntKind.i64.wrap (i + 1)).toNat)).length) c2 (flL ((([] : List Int) ++ (unknown.take (i).toNat)) ++ (unknown.drop (IntKind.i64.wrap (i + 1)).toNat))), Box pg [.int .i64 r5.2.code, .int .i64 r5.2.index], Box pt [.int .i64 t.facts, .slice at_ t.init.length ct, .slice at_2 t.goal.length ct2, .slice at_3 t.ops.length ct3]]) rfl ?_
      refine .nil ?_
      refine .jaN (M := [15, 17, 0, 11, 12, 13, 14]) (C' := []) (pre := []) [1, 2, 3, 4] hL rfl rfl rfl rfl rfl (by kernel_rfl) ?_
      refine .last [(37, .agg #[.int .i64 t.facts, .slice at_ t.init.length ct, .slice at_2 t.goal.length ct2, .slice at_3 t.ops.length ct3]), (38, .slice a (([] : List Int).length) 0), (39, .slice aunknown unknown.length cunknown), (40, .int .i64 i), (41, .slice aunknown ((unknown.take (i).toNat).length) cunknown), (42, .slice a2 ((([] : List Int) ++ (unknown.take (i).toNat)).length) c), (43, .slice aunknown unknown.length cunknown), (44, .int .i64 i), (45, .int .i64 (IntKind.i64.wrap (i + 1))), (46, .slice (sla aunknown cunknown (IntKind.i64.wrap (i + 1)).toNat 1) ((unknown.drop (IntKind.i64.wrap (i + 1)).toNat).length) (cunknown - (IntKind.i64.wrap (i + 1)).toNat)), (47, .slice a3 (((([] : List Int) ++ (unknown.take (i).toNat)) ++ (unknown.drop (IntKind.i64.wrap (i + 1)).toNat)).length) c2), (48, .slice aplan plan.length cplan), (49, .tuple #[.bool r5.1, .agg #[.int .i64 r5.2.code, .int .i64 r5.2.index]]), (36, .tuple #[.bool r5.1, .agg #[.int .i64 r5.2.code, .int .i64 r5.2.index]]), (50, .bool r5.1), (51, .agg #[.int .i64 r5.2.code, .int .i64 r5.2.index]), (12, .pointer (some pg)), (11, .bool r5.1)] rfl (by kernel_rfl) (.nil) rfl ?_
      refine .sel0 [1] (by decide) rfl ?_
      exact .use q42 (r5.1, r5.2.code, r5.2.index, pg) hF (.cons rfl (.cons rfl (.nil))) rfl (FH.le_refl _)
  refine .region ?_
  refine .v (fa rfl tF27_0) rfl rfl rfl ?_
  refine .v (ld1 rfl tO3 (cellB (off := 0) (k := 0) rfl rfl)) rfl rfl rfl ?_
  refine .v (bi rfl rfl rfl) rfl rfl rfl ?_
  refine .v (mv rfl) rfl rfl rfl ?_
  rcases Bool.eq_false_or_eq_true (r2.2.code != 0) with q71 | q71
  · replace hF := hF.1 q71
    refine .gS rfl rfl rfl q71 rfl rfl ?_
    refine .gS rfl rfl rfl q71 rfl rfl ?_
    refine .v (pkT rfl q71 rfl) rfl rfl rfl ?_
    refine .v (mv rfl) rfl rfl rfl ?_
    refine .gS rfl rfl rfl rfl rfl rfl ?_
    refine .gS rfl rfl rfl rfl rfl rfl ?_
    refine .gS rfl rfl rfl rfl rfl rfl ?_
    refine .gS rfl rfl rfl rfl rfl rfl ?_
    refine .gS rfl rfl rfl rfl rfl rfl ?_
    refine .gS rfl rfl rfl rfl rfl rfl ?_
    refine .v (pkT rfl rfl rfl) rfl rfl rfl ?_
    refine .nil ?_
    refine .sel0 [1] (by decide) rfl ?_
    exact .use q15 true hF (.cons rfl (.cons rfl (.cons rfl (.cons rfl (.cons rfl (.nil)))))) rfl (FH.le_refl _)
  replace hF := hF.2 q71
  refine .gv (mv rfl) rfl rfl rfl q71 rfl rfl ?_
  refine .gv (nt rfl) rfl rfl rfl q71 rfl rfl ?_
  refine .v (pkF rfl q71 rfl) rfl rfl rfl ?_
  refine .v (mv rfl) rfl rfl rfl ?_
  rcases Bool.eq_false_or_eq_true (!r2.1) with q72 | q72
  · replace hF := hF.1 q72
    refine .gS rfl rfl rfl q72 rfl rfl ?_
    refine .gS rfl rfl rfl q72 rfl rfl ?_
    refine .gS rfl rfl rfl q72 rfl rfl ?_
    refine .gS rfl rfl rfl q72 rfl rfl ?_
    refine .gS rfl rfl rfl q72 rfl rfl ?_
    refine .gS rfl rfl rfl q72 rfl rfl ?_
    refine .v (pkT rfl q72 rfl) rfl rfl rfl ?_
    refine .nil ?_
    refine .sel0 [1] (by decide) rfl ?_
    exact .use q15 true hF (.cons rfl (.cons rfl (.cons rfl (.cons rfl (.cons rfl (.nil)))))) rfl (FH.le_refl _)
  replace hF := hF.2 q72
  refine .gv (mv rfl) rfl rfl rfl q72 rfl rfl ?_
  refine .gv (mv rfl) rfl rfl rfl q72 rfl rfl ?_
  refine .gv (ln rfl tS22.is) rfl rfl rfl q72 rfl rfl ?_
  refine .gv (bi rfl rfl rfl) rfl rfl rfl q72 rfl rfl ?_
  obtain ⟨r6, q73⟩ : ∃ y_ : Bool, y_ = sp_in_ i 0 (IntKind.i64.wrap (((unknown.length : Nat) : Int) - 1)) := ⟨_, rfl⟩
  replace hF := hF r6 q73
  refine .gc (cl (v := .bool r6) Tryd.call7 rfl rfl (fun w S => (by rw [q73]; exact c_in_ S.sub i 0 (IntKind.i64.wrap (((unknown.length : Nat) : Int) - 1)) ))) rfl rfl rfl q72 rfl rfl ?_
  refine .gv (nt rfl) rfl rfl rfl q72 rfl rfl ?_
  refine .v (pkF rfl q72 rfl) rfl rfl rfl ?_
  refine .nil ?_
  refine .sel0 [1] (by decide) rfl ?_
  exact .use q15 (!r6) hF (.cons rfl (.cons rfl (.cons rfl (.cons rfl (.cons rfl (.nil)))))) rfl (FH.le_refl _)

theorem c_lawBeliefLess {h : FH} {w : World} (hs : Sub h w) (ht : TabH Tryd.prog h) (t : Task) (at_ : Option Addr) (ct : Nat) (_q1 : RSl h at_ t.init) (_q2 : t.init.length ≤ ct) (at_2 : Option Addr) (ct2 : Nat) (_q3 : RSl h at_2 t.goal) (_q4 : t.goal.length ≤ ct2) (at_3 : Option Addr) (ct3 : Nat) (_q5 : RSl h at_3 t.ops) (_q6 : t.ops.length ≤ ct3) (unknown : List Int) (aunknown : Option Addr) (cunknown : Nat) (_q7 : RSl h aunknown unknown) (_q8 : unknown.length ≤ cunknown) (plan : List Int) (aplan : Option Addr) (cplan : Nat) (_q9 : RSl h aplan plan) (_q10 : plan.length ≤ cplan) (i : Int) : Calls Tryd.prog 3 #[.agg #[.int .i64 t.facts, .slice at_ t.init.length ct, .slice at_2 t.goal.length ct2, .slice at_3 t.ops.length ct3], .slice aunknown unknown.length cunknown, .slice aplan plan.length cplan, .int .i64 i] w fun e w' => e = .returned (.bool (sp_lawBeliefLess t unknown plan i)) ∧ Below w.heap.size w w' :=
  (w_lawBeliefLess hs ht t at_ ct _q1 _q2 at_2 ct2 _q3 _q4 at_3 ct3 _q5 _q6 unknown aunknown cunknown _q7 _q8 plan aplan cplan _q9 _q10 i (fun r => r = sp_lawBeliefLess t unknown plan i) (ok_lawBeliefLess t unknown plan i)).mono fun _ _ ⟨_, hk, he, hb⟩ => ⟨by rw [he, hk], hb⟩

set_option maxHeartbeats 8000000 in
theorem w_lawBeliefShortest {h : FH} {w : World} (hs : Sub h w) (ht : TabH Tryd.prog h) (t : Task) (at_ : Option Addr) (ct : Nat) (_q1 : RSl h at_ t.init) (_q2 : t.init.length ≤ ct) (at_2 : Option Addr) (ct2 : Nat) (_q3 : RSl h at_2 t.goal) (_q4 : t.goal.length ≤ ct2) (at_3 : Option Addr) (ct3 : Nat) (_q5 : RSl h at_3 t.ops) (_q6 : t.ops.length ≤ ct3) (unknown : List Int) (aunknown : Option Addr) (cunknown : Nat) (_q7 : RSl h aunknown unknown) (_q8 : unknown.length ≤ cunknown) (plan : List Int) (aplan : Option Addr) (cplan : Nat) (_q9 : RSl h aplan plan) (_q10 : plan.length ≤ cplan) (K : Bool → Prop) (hF : F_lawBeliefShortest t unknown plan K) : Calls Tryd.prog 4 #[.agg #[.int .i64 t.facts, .slice at_ t.init.length ct, .slice at_2 t.goal.length ct2, .slice at_3 t.ops.length ct3], .slice aunknown unknown.length cunknown, .slice aplan plan.length cplan] w fun e w' => ∃ r : Bool, K r ∧ e = .returned (.bool r) ∧ Below w.heap.size w w' := by
  refine enter (args := [.agg #[.int .i64 t.facts, .slice at_ t.init.length ct, .slice at_2 t.goal.length ct2, .slice at_3 t.ops.length ct3], .slice aunknown unknown.length cunknown, .slice aplan plan.length cplan]) Tryd.func4 rfl Tryd.ntmps4 rfl hs ?_
  refine .seq ?_
  refine .region ?_
  refine bx (vs := [.int .i64 t.facts, .slice at_ t.init.length ct, .slice at_2 t.goal.length ct2, .slice at_3 t.ops.length ct3]) rfl rfl rfl (fun pt => ?_)
  refine .v (asg rfl) rfl rfl rfl ?_
  refine .nil ?_
  refine .seqN ?_
  refine .seq ?_
  refine .region ?_
  refine .v (ldA (cs := [.int .i64 t.facts, .slice at_ t.init.length ct, .slice at_2 t.goal.length ct2, .slice at_3 t.ops.length ct3]) rfl tA25 rfl (cellsB (off := 0) (k := 0) rfl (m := 4) rfl)) rfl rfl rfl ?_
  refine .v (mv rfl) rfl rfl rfl ?_
  obtain ⟨r2, q11⟩ : ∃ y_ : List Int × Bool × Fault, y_ = sp_bplan t unknown := ⟨_, rfl⟩
  replace hF := hF r2 q11
  refine clR (α := Option Addr × Nat) (Φ := fun h1 z => RSl h1 z.1 r2.1 ∧ r2.1.length ≤ z.2) (V := fun z => .tuple #[.slice z.1 r2.1.length z.2, .bool r2.2.1, .agg #[.int .i64 r2.2.2.code, .int .i64 r2.2.2.index]]) Tryd.call9 rfl rfl (fun w S => (by rw [q11]; exact c_bplan S.sub (ht.mono (FH.le_refl _)) t at_ ct _q1 _q2 at_2 ct2 _q3 _q4 at_3 ct3 _q5 _q6 unknown aunknown cunknown _q7 _q8 )) rfl (fun z h1 le1 hz => ?_)
  obtain ⟨a, c⟩ := z
  obtain ⟨q12, q13⟩ := hz
  refine .v (mv rfl) rfl rfl rfl ?_
  refine .v (ext rfl rfl) rfl rfl rfl ?_
  refine .v (ext rfl rfl) rfl rfl rfl ?_
  refine .v (ext rfl rfl) rfl rfl rfl ?_
  refine al tZ27 rfl (fun pf => ?_)
  refine .v (asg rfl) rfl rfl rfl ?_
  refine .v (asg rfl) rfl rfl rfl ?_
  refine st (p := pf) (off := 0) (k := 0) (vs := [.int .i64 r2.2.2.code, .int .i64 r2.2.2.index]) rfl rfl rfl (fun w => (tA27 w).2) rfl rfl rfl rfl ?_
  refine .cast (A' := [Box pf [.int .i64 r2.2.2.code, .int .i64 r2.2.2.index], Box pt [.int .i64 t.facts, .slice at_ t.init.length ct, .slice at_2 t.goal.length ct2, .slice at_3 t.ops.length ct3]]) rfl ?_
  refine .nil ?_
  refine .seqN ?_
  refine .seq ?_
  refine .region ?_
  refine .v (ldA (cs := [.int .i64 t.facts, .slice at_ t.init.length ct, .slice at_2 t.goal.length ct2, .slice at_3 t.ops.length ct3]) rfl tA25 rfl (cellsB (off := 0) (k := 1) rfl (m := 4) rfl)) rfl rfl rfl ?_
  refine .v (mv rfl) rfl rfl rfl ?_
  refine .v (mv rfl) rfl rfl rfl ?_
  obtain ⟨r3, q14⟩ : ∃ y_ : Bool × Fault, y_ = sp_bsolves t unknown plan := ⟨_, rfl⟩
  replace hF := hF r3 q14
  refine .c (cl (v := .tuple #[.bool r3.1, .agg #[.int .i64 r3.2.code, .int .i64 r3.2.index]]) Tryd.call6 rfl rfl (fun w S => (by rw [q14]; exact c_bsolves S.sub t at_ ct (_q1.mono (le1)) _q2 at_2 ct2 (_q3.mono (le1)) _q4 at_3 ct3 (_q5.mono (le1)) _q6 unknown aunknown cunknown (_q7.mono (le1)) _q8 plan aplan cplan (_q9.mono (le1)) _q10 ))) rfl rfl rfl ?_
  refine .v (mv rfl) rfl rfl rfl ?_
  refine .v (ext rfl rfl) rfl rfl rfl ?_
  refine .v (ext rfl rfl) rfl rfl rfl ?_
  refine al tZ27 rfl (fun pg => ?_)
  refine .v (asg rfl) rfl rfl rfl ?_
  refine st (p := pg) (off := 0) (k := 0) (vs := [.int .i64 r3.2.code, .int .i64 r3.2.index]) rfl rfl rfl (fun w => (tA27 w).2) rfl rfl rfl rfl ?_
  refine .cast (A' := [Box pg [.int .i64 r3.2.code, .int .i64 r3.2.index], Box pf [.int .i64 r2.2.2.code, .int .i64 r2.2.2.index], Box pt [.int .i64 t.facts, .slice at_ t.init.length ct, .slice at_2 t.goal.length ct2, .slice at_3 t.ops.length ct3]]) rfl ?_
  refine .nil ?_
  refine .seqN ?_
  refine .seq ?_
  refine .share (σ := Bool) (fun z => F_lawBeliefShortest_J1 t unknown plan K r2 r3 z) (fun z => [(1, .slice aunknown unknown.length cunknown), (2, .slice aplan plan.length cplan), (3, .pointer (some pt)), (7, .slice a r2.1.length c), (8, .bool r2.2.1), (10, .bool r3.1), (35, .bool z)]) (fun _ => [Box pt [.int .i64 t.facts, .slice at_ t.init.length ct, .slice at_2 t.goal.length ct2, .slice at_3 t.ops.length ct3]]) (fun _ => h1) ?_ (fun q16 => ?_)
  · rintro t35 hF
    show J _ _ _ _ _ [(1, .slice aunknown unknown.length cunknown), (2, .slice aplan plan.length cplan), (3, .pointer (some pt)), (7, .slice a r2.1.length c), (8, .bool r2.2.1), (10, .bool r3.1), (35, .bool t35)] [Box pt [.int .i64 t.facts, .slice at_ t.init.length ct, .slice at_2 t.goal.length ct2, .slice at_3 t.ops.length ct3]] h1
    refine .cond rfl (fun q19 => ?_) (fun q19 => ?_)
    · replace hF := hF.1 q19
      refine .seq ?_
      refine .region ?_
      obtain ⟨r4, q20⟩ : ∃ y_ : Bool, y_ = sp_settled := ⟨_, rfl⟩
      replace hF := hF r4 q20
      refine .c (cl (v := .bool r4) Tryd.call8 rfl rfl (fun w S => (by rw [q20]; exact c_settled S.sub (ht.mono (le1)) ))) rfl rfl rfl ?_
      refine .v (asg rfl) rfl rfl rfl ?_
      refine .nil ?_
      refine .seqN ?_
      refine .ret ?_
      refine .seqR ?_
      refine .res1 rfl (rvT rfl) (fun w' S => ⟨r4, hF, rfl, S.below⟩)
    replace hF := hF.2 q19
    refine .skip ?_
    refine .seqN ?_
    refine .seq ?_
    refine .seq ?_
    refine .region ?_
    refine .v (mv rfl) rfl rfl rfl ?_
    refine .v (nt rfl) rfl rfl rfl ?_
    refine .nil ?_
    refine .seqN ?_
    refine .cond rfl (fun q26 => ?_) (fun q26 => ?_)
    · replace hF := hF.1 q26
      refine .seq ?_
      refine .region ?_
      refine .v (mv rfl) rfl rfl rfl ?_
      refine .v (nt rfl) rfl rfl rfl ?_
      refine .v (mv rfl) rfl rfl rfl ?_
      rcases Bool.eq_false_or_eq_true (!r3.1) with q29 | q29
      · replace hF := hF.1 q29
        obtain ⟨r5, q30⟩ : ∃ y_ : Bool, y_ = sp_settled := ⟨_, rfl⟩
        replace hF := hF r5 q30
        refine .gc (cl (v := .bool r5) Tryd.call8 rfl rfl (fun w S => (by rw [q30]; exact c_settled S.sub (ht.mono (le1)) ))) rfl rfl rfl q29 rfl rfl ?_
        refine .v (pkT rfl q29 rfl) rfl rfl rfl ?_
        refine .v (asg rfl) rfl rfl rfl ?_
        refine .nil ?_
        refine .seqN ?_
        refine .ret ?_
        refine .seqR ?_
        refine .res1 rfl (rvT rfl) (fun w' S => ⟨r5, hF, rfl, S.below⟩)
      replace hF := hF.2 q29
      refine .gS rfl rfl rfl q29 rfl rfl ?_
      refine .v (pkF rfl q29 rfl) rfl rfl rfl ?_
      refine .v (asg rfl) rfl rfl rfl ?_
      refine .nil ?_
      refine .seqN ?_
      refine .ret ?_
      refine .seqR ?_
      refine .res1 rfl (rvT rfl) (fun w' S => ⟨false, hF, rfl, S.below⟩)
    replace hF := hF.2 q26
    refine .skip ?_
    refine .seqN ?_
    refine .seq ?_
    refine .region ?_
    refine .v (ldA (cs := [.int .i64 t.facts, .slice at_ t.init.length ct, .slice at_2 t.goal.length ct2, .slice at_3 t.ops.length ct3]) rfl tA25 rfl (cellsB (off := 0) (k := 0) rfl (m := 4) rfl)) rfl rfl rfl ?_
    refine .v (mv rfl) rfl rfl rfl ?_
    refine .v (mv rfl) rfl rfl rfl ?_
    obtain ⟨r6, q31⟩ : ∃ y_ : Bool × Fault, y_ = sp_bsolves t unknown r2.1 := ⟨_, rfl⟩
    replace hF := hF r6 q31
    refine .c (cl (v := .tuple #[.bool r6.1, .agg #[.int .i64 r6.2.code, .int .i64 r6.2.index]]) Tryd.call6 rfl rfl (fun w S => (by rw [q31]; exact c_bsolves S.sub t at_ ct (_q1.mono (le1)) _q2 at_2 ct2 (_q3.mono (le1)) _q4 at_3 ct3 (_q5.mono (le1)) _q6 unknown aunknown cunknown (_q7.mono (le1)) _q8 r2.1 a c q12 q13 ))) rfl rfl rfl ?_
    refine .v (mv rfl) rfl rfl rfl ?_
    refine .v (ext rfl rfl) rfl rfl rfl ?_
    refine .v (ext rfl rfl) rfl rfl rfl ?_
    refine al tZ27 rfl (fun ph => ?_)
    refine .v (asg rfl) rfl rfl rfl ?_
    refine st (p := ph) (off := 0) (k := 0) (vs := [.int .i64 r6.2.code, .int .i64 r6.2.index]) rfl rfl rfl (fun w => (tA27 w).2) rfl rfl rfl rfl ?_
    refine .cast (A' := [Box ph [.int .i64 r6.2.code, .int .i64 r6.2.index], Box pt [.int .i64 t.facts, .slice at_ t.init.length ct, .slice at_2 t.goal.length ct2, .slice at_3 t.ops.length ct3]]) rfl ?_
    refine .nil ?_
    refine .seqN ?_
    refine .seq ?_
    refine .region ?_
    refine .v (fa rfl tF27_0) rfl rfl rfl ?_
    refine .v (ld1 rfl tO3 (cellB (off := 0) (k := 0) rfl rfl)) rfl rfl rfl ?_
    refine .v (bi rfl rfl rfl) rfl rfl rfl ?_
    refine .v (mv rfl) rfl rfl rfl ?_
    rcases Bool.eq_false_or_eq_true (r6.2.code == 0) with q39 | q39
    · replace hF := hF.1 q39
      refine .gv (mv rfl) rfl rfl rfl q39 rfl rfl ?_
      refine .v (pkT rfl q39 rfl) rfl rfl rfl ?_
      refine .v (mv rfl) rfl rfl rfl ?_
      rcases Bool.eq_false_or_eq_true (r6.1) with q40 | q40
      · replace hF := hF.1 q40
        refine .gv (mv rfl) rfl rfl rfl q40 rfl rfl ?_
        refine .gv (nt rfl) rfl rfl rfl q40 rfl rfl ?_
        refine .gv (mv rfl) rfl rfl rfl q40 rfl rfl ?_
        rcases Bool.eq_false_or_eq_true (!r3.1) with q41 | q41
        · replace hF := hF.1 q41
          refine .gS rfl rfl rfl q41 rfl rfl ?_
          refine .gS rfl rfl rfl q41 rfl rfl ?_
          refine .gS rfl rfl rfl q41 rfl rfl ?_
          refine .gS rfl rfl rfl q41 rfl rfl ?_
          refine .gS rfl rfl rfl q41 rfl rfl ?_
          refine .gv (pkT rfl q41 rfl) rfl rfl rfl q40 rfl rfl ?_
          refine .v (pkT rfl q40 rfl) rfl rfl rfl ?_
          refine .v (mv rfl) rfl rfl rfl ?_
          obtain ⟨r7, q42⟩ : ∃ y_ : Bool, y_ = sp_settled := ⟨_, rfl⟩
          replace hF := hF r7 q42
          refine .gc (cl (v := .bool r7) Tryd.call8 rfl rfl (fun w S => (by rw [q42]; exact c_settled S.sub (ht.mono (le1)) ))) rfl rfl rfl rfl rfl rfl ?_
          refine .v (pkT rfl rfl rfl) rfl rfl rfl ?_
          refine .v (asg rfl) rfl rfl rfl ?_
          refine .nil ?_
          refine .seqN ?_
          refine .ret ?_
          refine .res1 rfl (rvT rfl) (fun w' S => ⟨r7, hF, rfl, S.below⟩)
        replace hF := hF.2 q41
        refine .gv (mv rfl) rfl rfl rfl q41 rfl rfl ?_
        refine .gv (ln rfl tS22.is) rfl rfl rfl q41 rfl rfl ?_
        refine .gv (mv rfl) rfl rfl rfl q41 rfl rfl ?_
        refine .gv (ln rfl tS22.is) rfl rfl rfl q41 rfl rfl ?_
        obtain ⟨x, q43⟩ : ∃ y_ : Bool, y_ = (decide (((r2.1.length : Nat) : Int) ≤ ((plan.length : Nat) : Int))) := ⟨_, rfl⟩
        replace hF := hF x q43
        refine .gv (v := .bool x) (by rw [q43]; exact bi rfl rfl rfl) rfl rfl rfl q41 rfl rfl ?_
        refine .gv (pkF rfl q41 rfl) rfl rfl rfl q40 rfl rfl ?_
        refine .v (pkT rfl q40 rfl) rfl rfl rfl ?_
        refine .v (mv rfl) rfl rfl rfl ?_
        rcases Bool.eq_false_or_eq_true (x) with q44 | q44
        · replace hF := hF.1 q44
          obtain ⟨r8, q45⟩ : ∃ y_ : Bool, y_ = sp_settled := ⟨_, rfl⟩
          replace hF := hF r8 q45
          refine .gc (cl (v := .bool r8) Tryd.call8 rfl rfl (fun w S => (by rw [q45]; exact c_settled S.sub (ht.mono (le1)) ))) rfl rfl rfl q44 rfl rfl ?_
          refine .v (pkT rfl q44 rfl) rfl rfl rfl ?_
          refine .v (asg rfl) rfl rfl rfl ?_
          refine .nil ?_
          refine .seqN ?_
          refine .ret ?_
          refine .res1 rfl (rvT rfl) (fun w' S => ⟨r8, hF, rfl, S.below⟩)
        replace hF := hF.2 q44
        refine .gS rfl rfl rfl q44 rfl rfl ?_
        refine .v (pkF rfl q44 rfl) rfl rfl rfl ?_
        refine .v (asg rfl) rfl rfl rfl ?_
        refine .nil ?_
        refine .seqN ?_
        refine .ret ?_
        refine .res1 rfl (rvT rfl) (fun w' S => ⟨false, hF, rfl, S.below⟩)
      replace hF := hF.2 q40
      refine .gS rfl rfl rfl q40 rfl rfl ?_
      refine .gS rfl rfl rfl q40 rfl rfl ?_
      refine .gS rfl rfl rfl q40 rfl rfl ?_
      refine .gU rfl rfl rfl rfl rfl ?_
      refine .gU rfl rfl rfl rfl rfl ?_
      refine .gU rfl rfl rfl rfl rfl ?_
      refine .gU rfl rfl rfl rfl rfl ?_
      refine .gU rfl rfl rfl rfl rfl ?_
      refine .gS rfl rfl rfl q40 rfl rfl ?_
      refine .v (pkF rfl q40 rfl) rfl rfl rfl ?_
      refine .v (mv rfl) rfl rfl rfl ?_
      refine .gS rfl rfl rfl rfl rfl rfl ?_
      refine .v (pkF rfl rfl rfl) rfl rfl rfl ?_
      refine .v (asg rfl) rfl rfl rfl ?_
      refine .nil ?_
      refine .seqN ?_
      refine .ret ?_
      refine .res1 rfl (rvT rfl) (fun w' S => ⟨false, hF, rfl, S.below⟩)
    replace hF := hF.2 q39
    refine .gS rfl rfl rfl q39 rfl rfl ?_
    refine .v (pkF rfl q39 rfl) rfl rfl rfl ?_
    refine .v (mv rfl) rfl rfl rfl ?_
    refine .gS rfl rfl rfl rfl rfl rfl ?_
    refine .gS rfl rfl rfl rfl rfl rfl ?_
    refine .gS rfl rfl rfl rfl rfl rfl ?_
    refine .gU rfl rfl rfl rfl rfl ?_
    refine .gU rfl rfl rfl rfl rfl ?_
    refine .gU rfl rfl rfl rfl rfl ?_
    refine .gU rfl rfl rfl rfl rfl ?_
    refine .gU rfl rfl rfl rfl rfl ?_
    refine .gS rfl rfl rfl rfl rfl rfl ?_
    refine .v (pkF rfl rfl rfl) rfl rfl rfl ?_
    refine .v (mv rfl) rfl rfl rfl ?_
    refine .gS rfl rfl rfl rfl rfl rfl ?_
    refine .v (pkF rfl rfl rfl) rfl rfl rfl ?_
    refine .v (asg rfl) rfl rfl rfl ?_
    refine .nil ?_
    refine .seqN ?_
    refine .ret ?_
    refine .res1 rfl (rvT rfl) (fun w' S => ⟨false, hF, rfl, S.below⟩)
  refine .region ?_
  refine .v (fa rfl tF27_0) rfl rfl rfl ?_
  refine .v (ld1 rfl tO3 (cellB (off := 0) (k := 1) rfl rfl)) rfl rfl rfl ?_
  refine .v (bi rfl rfl rfl) rfl rfl rfl ?_
  refine .v (mv rfl) rfl rfl rfl ?_
  rcases Bool.eq_false_or_eq_true (r2.2.2.code != 0) with q46 | q46
  · replace hF := hF.1 q46
    refine .gS rfl rfl rfl q46 rfl rfl ?_
    refine .gS rfl rfl rfl q46 rfl rfl ?_
    refine .gS rfl rfl rfl q46 rfl rfl ?_
    refine .v (pkT rfl q46 rfl) rfl rfl rfl ?_
    refine .nil ?_
    refine .sel0 [2] (by decide) rfl ?_
    exact .use q16 true hF (.cons rfl (.cons rfl (.cons rfl (.cons rfl (.cons rfl (.cons rfl (.cons rfl (.nil)))))))) rfl (FH.le_refl _)
  replace hF := hF.2 q46
  refine .gv (fa rfl tF27_0) rfl rfl rfl q46 rfl rfl ?_
  refine .gv (ld1 rfl tO3 (cellB (off := 0) (k := 0) rfl rfl)) rfl rfl rfl q46 rfl rfl ?_
  refine .gv (bi rfl rfl rfl) rfl rfl rfl q46 rfl rfl ?_
  refine .v (pkF rfl q46 rfl) rfl rfl rfl ?_
  refine .nil ?_
  refine .sel0 [2] (by decide) rfl ?_
  exact .use q16 (r3.2.code != 0) hF (.cons rfl (.cons rfl (.cons rfl (.cons rfl (.cons rfl (.cons rfl (.cons rfl (.nil)))))))) rfl (FH.le_refl _)

theorem c_lawBeliefShortest {h : FH} {w : World} (hs : Sub h w) (ht : TabH Tryd.prog h) (t : Task) (at_ : Option Addr) (ct : Nat) (_q1 : RSl h at_ t.init) (_q2 : t.init.length ≤ ct) (at_2 : Option Addr) (ct2 : Nat) (_q3 : RSl h at_2 t.goal) (_q4 : t.goal.length ≤ ct2) (at_3 : Option Addr) (ct3 : Nat) (_q5 : RSl h at_3 t.ops) (_q6 : t.ops.length ≤ ct3) (unknown : List Int) (aunknown : Option Addr) (cunknown : Nat) (_q7 : RSl h aunknown unknown) (_q8 : unknown.length ≤ cunknown) (plan : List Int) (aplan : Option Addr) (cplan : Nat) (_q9 : RSl h aplan plan) (_q10 : plan.length ≤ cplan) : Calls Tryd.prog 4 #[.agg #[.int .i64 t.facts, .slice at_ t.init.length ct, .slice at_2 t.goal.length ct2, .slice at_3 t.ops.length ct3], .slice aunknown unknown.length cunknown, .slice aplan plan.length cplan] w fun e w' => e = .returned (.bool (sp_lawBeliefShortest t unknown plan)) ∧ Below w.heap.size w w' :=
  (w_lawBeliefShortest hs ht t at_ ct _q1 _q2 at_2 ct2 _q3 _q4 at_3 ct3 _q5 _q6 unknown aunknown cunknown _q7 _q8 plan aplan cplan _q9 _q10 (fun r => r = sp_lawBeliefShortest t unknown plan) (ok_lawBeliefShortest t unknown plan)).mono fun _ _ ⟨_, hk, he, hb⟩ => ⟨by rw [he, hk], hb⟩

end Go.Proofs.YtojoehfldbimpaaDoor.Pl
