import Derived.Test.YtojoehfldbimpaaGreatDoorM1
import Derived.Test.YtojoehfldbimpaaGreatDoorM4
import Derived.Ground.NamesProg
import Derived.Shelf.Strconv.Itoa3
import Derived.Test.YtojoehfldbimpaaGreatDoorChecked
import Derived.Test.YtojoehfldbimpaaGreatDoorM2
namespace Go.Proofs.YtojoehfldbimpaaGreatDoor.Pl
open Go Go.RowKit
theorem w_ccheck {h : FH} {w : World} (hs : Sub h w) (t : Task) (at_ : Option Addr) (ct : Nat) (_q1 : RSl h at_ t.init) (_q2 : t.init.length ≤ ct) (at_2 : Option Addr) (ct2 : Nat) (_q3 : RSl h at_2 t.goal) (_q4 : t.goal.length ≤ ct2) (at_3 : Option Addr) (ct3 : Nat) (_q5 : RSl h at_3 t.ops) (_q6 : t.ops.length ≤ ct3) (unknown : List Int) (aunknown : Option Addr) (cunknown : Nat) (_q7 : RSl h aunknown unknown) (_q8 : unknown.length ≤ cunknown) (sN : List Int) (aSn : Option Addr) (cSn : Nat) (_q9 : RSl h aSn sN) (_q10 : sN.length ≤ cSn) (K : Fault → Prop) (hF : F_ccheck t unknown sN K) : Calls Tryz.prog 70 #[.agg #[iV t.facts, .slice at_ t.init.length ct, .slice at_2 t.goal.length ct2, .slice at_3 t.ops.length ct3], .slice aunknown unknown.length cunknown, .slice aSn sN.length cSn] w fun e w' => ∃ r : Fault, K r ∧ e = .returned (.agg #[iV r.code, iV r.index]) ∧ Below w.heap.size w w' := by
 refine enter (args := [.agg (tF t at_ ct at_2 ct2 at_3 ct3).toArray, vSl aunknown unknown cunknown, vSl aSn sN cSn]) Tryz.func70 rfl Tryz.ntmps70 rfl hs ?_
 refine .seq (.region ?_)
 refine bx (vs := (tF t at_ ct at_2 ct2 at_3 ct3)) rfl rfl rfl (fun pt => ?_)
 refine al tZ27 rfl (fun pv => ?_)
 refine .nil (.seqN (.seq (.seq (.region (.V (ldA (cs := (tF t at_ ct at_2 ct2 at_3 ct3)) rfl tA25 rfl (cellsB (off := 0) (k := 1) rfl (m := 4) rfl)) ?_)))))
 refine .V mv0 ?_
 obtain ⟨r2, q11⟩ : ∃ y_ : Fault, y_ = sp_unknownFault t unknown := ⟨_, rfl⟩
 replace hF := hF r2 q11
 refine .C (cl (v := .agg #[iV r2.code, iV r2.index]) Tryz.call45 rfl rfl (fun w S => (by rw [q11]; exact c_unknownFault S.sub t at_ ct _q1 _q2 at_2 ct2 _q3 _q4 at_3 ct3 _q5 _q6 unknown aunknown cunknown _q7 _q8 ))) ?_
 refine al tZ27 rfl (fun pf => ?_)
 refine st (p := pf) (off := 0) (k := 0) (vs := [iV r2.code, iV r2.index]) rfl rfl rfl (fun w => (tA27 w).2) rfl rfl rfl rfl ?_
 refine .KA [Box pf [iV r2.code, iV r2.index], Box pv [iV 0, iV 0], Box pt (tF t at_ ct at_2 ct2 at_3 ct3)] ?_
 refine .nil (.seqN (.seq (.region (.V (ldA (cs := [iV r2.code, iV r2.index]) rfl tA27 rfl (cellsB (off := 0) (k := 0) rfl (m := 2) rfl)) ?_))))
 refine .V (bld (cs := #[iV 0, iV 0]) (pv := []) tB27 rfl rfl) ?_
 refine .V (ne2 tE27 rfl rfl) ?_
 refine .nil (.seqN ?_)
 refine .cond rfl (fun q13 => ?_) (fun q13 => ?_)
 ·replace hF := hF.1 q13
  refine .seq (.region (.V (ldA (cs := [iV r2.code, iV r2.index]) rfl tA27 rfl (cellsB (off := 0) (k := 0) rfl (m := 2) rfl)) ?_))
  refine st (p := pv) (off := 0) (k := 1) (vs := [iV r2.code, iV r2.index]) rfl rfl rfl (fun w => (tA27 w).2) rfl rfl rfl rfl ?_
  refine .KA [Box pf [iV r2.code, iV r2.index], Box pv [iV r2.code, iV r2.index], Box pt (tF t at_ ct at_2 ct2 at_3 ct3)] ?_
  refine .nil (.seqN (.ret (.seqR ?_)))
  refine .res1 rfl (rvC rfl tA27 (k := 1) rfl rfl) (fun w' S => ⟨r2, hF, rfl, S.below⟩)
 replace hF := hF.2 q13
 refine .skip (.seqN (.seq (.seq (.region (.V mv0 ?_)))))
 refine .V (fa rfl tF25_0) ?_
 refine .V (ld1 rfl tO3 (cellB (off := 0) (k := 2) rfl rfl)) ?_
 obtain ⟨q14, hF⟩ := hF
 obtain ⟨r3, q15⟩ : ∃ y_ : Bool, y_ = sp_isSet sN t.facts := ⟨_, rfl⟩
 replace hF := hF r3 q15
 refine .C (cl (v := .bool r3) Tryz.call61 rfl rfl (fun w S => (by rw [q15]; exact c_isSet S.sub sN aSn cSn _q9 _q10 t.facts q14))) ?_
 refine .V (nt rfl) ?_
 refine .nil (.seqN ?_)
 refine .cond rfl (fun q17 => ?_) (fun q17 => ?_)
 ·replace hF := hF.1 q17
  refine .seq (.region (.V (bld (cs := #[iV 5, iV (-9)]) (pv := [(0, iV 5), (1, iV (-9))]) tB27 rfl rfl) ?_))
  refine st (p := pv) (off := 0) (k := 1) (vs := [iV 5, iV (-9)]) rfl rfl rfl (fun w => (tA27 w).2) rfl rfl rfl rfl ?_
  refine .KA [Box pf [iV r2.code, iV r2.index], Box pv [iV 5, iV (-9)], Box pt (tF t at_ ct at_2 ct2 at_3 ct3)] ?_
  refine .nil (.seqN (.ret (.seqR ?_)))
  refine .res1 rfl (rvC rfl tA27 (k := 1) rfl rfl) (fun w' S => ⟨(⟨5, (-9)⟩ : Fault), hF, rfl, S.below⟩)
 replace hF := hF.2 q17
 refine .skip (.seqN (.seq (.region (.V (bld (cs := #[iV 0, iV 0]) (pv := []) tB27 rfl rfl) ?_))))
 refine st (p := pv) (off := 0) (k := 1) (vs := [iV 0, iV 0]) rfl rfl rfl (fun w => (tA27 w).2) rfl rfl rfl rfl ?_
 refine .KA [Box pf [iV r2.code, iV r2.index], Box pv [iV 0, iV 0], Box pt (tF t at_ ct at_2 ct2 at_3 ct3)] ?_
 refine .nil (.seqN (.ret ?_))
 refine .res1 rfl (rvC rfl tA27 (k := 1) rfl rfl) (fun w' S => ⟨(⟨0, 0⟩ : Fault), hF, rfl, S.below⟩)
theorem c_ccheck {h : FH} {w : World} (hs : Sub h w) (t : Task) (at_ : Option Addr) (ct : Nat) (_q1 : RSl h at_ t.init) (_q2 : t.init.length ≤ ct) (at_2 : Option Addr) (ct2 : Nat) (_q3 : RSl h at_2 t.goal) (_q4 : t.goal.length ≤ ct2) (at_3 : Option Addr) (ct3 : Nat) (_q5 : RSl h at_3 t.ops) (_q6 : t.ops.length ≤ ct3) (unknown : List Int) (aunknown : Option Addr) (cunknown : Nat) (_q7 : RSl h aunknown unknown) (_q8 : unknown.length ≤ cunknown) (sN : List Int) (aSn : Option Addr) (cSn : Nat) (_q9 : RSl h aSn sN) (_q10 : sN.length ≤ cSn) : Calls Tryz.prog 70 #[.agg #[iV t.facts, .slice at_ t.init.length ct, .slice at_2 t.goal.length ct2, .slice at_3 t.ops.length ct3], .slice aunknown unknown.length cunknown, .slice aSn sN.length cSn] w fun e w' => e = .returned (.agg #[iV (sp_ccheck t unknown sN).code, iV (sp_ccheck t unknown sN).index]) ∧ Below w.heap.size w w' :=
 (w_ccheck hs t at_ ct _q1 _q2 at_2 ct2 _q3 _q4 at_3 ct3 _q5 _q6 unknown aunknown cunknown _q7 _q8 sN aSn cSn _q9 _q10 (fun r => r = sp_ccheck t unknown sN) (ok_ccheck t unknown sN)).mono fun _ _ ⟨_, hk, he, hb⟩ => ⟨by rw [he, hk], hb⟩
set_option maxHeartbeats 8000000 in
theorem w_nodeCode {h : FH} {w : World} (hs : Sub h w) (t : Task) (at_ : Option Addr) (ct : Nat) (_q1 : RSl h at_ t.init) (_q2 : t.init.length ≤ ct) (at_2 : Option Addr) (ct2 : Nat) (_q3 : RSl h at_2 t.goal) (_q4 : t.goal.length ≤ ct2) (at_3 : Option Addr) (ct3 : Nat) (_q5 : RSl h at_3 t.ops) (_q6 : t.ops.length ≤ ct3) (sN : List Int) (aSn : Option Addr) (cSn : Nat) (_q7 : RSl h aSn sN) (_q8 : sN.length ≤ cSn) (n_ : TNode) (i : Int) (K : Int → Prop) (hF : F_nodeCode t sN n_ i K) : Calls Tryz.prog 77 #[.agg #[iV t.facts, .slice at_ t.init.length ct, .slice at_2 t.goal.length ct2, .slice at_3 t.ops.length ct3], .slice aSn sN.length cSn, .agg #[iV n_.kind, iV n_.op, iV n_.fact, iV n_.yes, iV n_.no], iV i] w fun e w' => ∃ r : Int, K r ∧ e = .returned (iV r) ∧ Below w.heap.size w w' := by
 refine enter (args := [.agg (tF t at_ ct at_2 ct2 at_3 ct3).toArray, vSl aSn sN cSn, .agg #[iV n_.kind, iV n_.op, iV n_.fact, iV n_.yes, iV n_.no], iV i]) Tryz.func77 rfl Tryz.ntmps77 rfl hs ?_
 refine .seq (.region ?_)
 refine bx (vs := (tF t at_ ct at_2 ct2 at_3 ct3)) rfl rfl rfl (fun pt => ?_)
 refine bx (vs := [iV n_.kind, iV n_.op, iV n_.fact, iV n_.yes, iV n_.no]) rfl rfl rfl (fun pn => ?_)
 refine .V ag0 ?_
 refine .nil (.seqN (.seq (.region (.V (fa rfl tF102_0) ?_))))
 refine .V (ld1 rfl tO3 (cellB (off := 0) (k := 0) rfl rfl)) ?_
 refine .V (bld (cs := #[iV n_.kind, iV 0, iV 0, iV 0, iV 0]) (pv := [(0, iV n_.kind)]) tB102 rfl rfl) ?_
 refine al tZ102 rfl (fun pwant => ?_)
 refine st (p := pwant) (off := 0) (k := 0) (vs := [iV n_.kind, iV 0, iV 0, iV 0, iV 0]) rfl rfl rfl (fun w => (tA102 w).2) rfl rfl rfl rfl ?_
 refine .KA [Box pwant [iV n_.kind, iV 0, iV 0, iV 0, iV 0], Box pn [iV n_.kind, iV n_.op, iV n_.fact, iV n_.yes, iV n_.no], Box pt (tF t at_ ct at_2 ct2 at_3 ct3)] ?_
 refine .nil (.seqN (.seq (.seq (.region (.V (fa rfl tF102_0) ?_)))))
 refine .V (ld1 rfl tO3 (cellB (off := 0) (k := 1) rfl rfl)) ?_
 refine .nil (.seqN ?_)
 refine .shareT (σ := Int × Int × Int × Int) (fun z => F_nodeCode_J1 n_ i K z.1 z.2.1 z.2.2.1 z.2.2.2) (fun _ => [(3, iV i), (6, .pointer (some pn)), (9, .pointer (some pwant))]) (fun z => [Box pn [iV n_.kind, iV n_.op, iV n_.fact, iV n_.yes, iV n_.no], Box pwant [iV n_.kind, iV z.1, iV z.2.1, iV z.2.2.1, iV z.2.2.2]]) (fun _ => h) ?_ (fun q21 => ?_)
 ·rintro ⟨x, x2, x3, x4⟩ hF
  show J _ _ _ _ _ [(3, iV i), (6, .pointer (some pn)), (9, .pointer (some pwant))] [Box pn [iV n_.kind, iV n_.op, iV n_.fact, iV n_.yes, iV n_.no], Box pwant [iV n_.kind, iV x, iV x2, iV x3, iV x4]] h
  refine .seq ?_
  refine .share (σ := Bool) (fun z => F_nodeCode_J2 K z) (fun z => [(81, .bool z)]) (fun _ => []) (fun _ => h) ?_ (fun q26 => ?_)
  ·rintro t81 hF
   show J _ _ _ _ _ [(81, .bool t81)] [] h
   refine .cond rfl (fun q28 => ?_) (fun q28 => ?_)
   ·replace hF := hF.1 q28
    refine .seq (.region (.V ag0 ?_))
    refine .nil (.seqN (.ret (.seqR ?_)))
    refine .res1 rfl (rvT rfl) (fun w' S => ⟨5, hF, rfl, S.below⟩)
   replace hF := hF.2 q28
   refine .skip (.seqN (.seq (.region (.V ag0 ?_))))
   refine .nil (.seqN (.ret ?_))
   refine .res1 rfl (rvT rfl) (fun w' S => ⟨0, hF, rfl, S.below⟩)
  refine .region (.V (ldA (cs := [iV n_.kind, iV n_.op, iV n_.fact, iV n_.yes, iV n_.no]) rfl tA102 rfl (cellsB (off := 0) (k := 0) rfl (m := 5) rfl)) ?_)
  refine .V (ldA (cs := [iV n_.kind, iV x, iV x2, iV x3, iV x4]) rfl tA102 rfl (cellsB (off := 0) (k := 1) rfl (m := 5) rfl)) ?_
  obtain ⟨x5, q29⟩ : ∃ y_ : Bool, y_ = (!((((n_.kind == n_.kind) && (n_.op == x)) && ((n_.fact == x2) && (n_.yes == x3))) && (n_.no == x4))) := ⟨_, rfl⟩
  replace hF := hF x5 q29
  refine .v (v := .bool x5) (by rw [q29]; exact ne5 tE102 rfl rfl) rfl rfl rfl ?_
  refine .V mv0 ?_
  rcases Bool.eq_false_or_eq_true (x5) with q30 | q30
  ·replace hF := hF.1 q30
   refine .GS q30 ?_
   refine .GS q30 ?_
   refine .GS q30 ?_
   refine .GS q30 ?_
   refine .GU ?_
   refine .GU ?_
   refine .GU ?_
   refine .GU ?_
   refine .GU ?_
   refine .GU ?_
   refine .GS q30 ?_
   refine .V (pkT rfl q30 rfl) ?_
   refine .V mv0 ?_
   refine .gS rfl rfl rfl rfl rfl rfl ?_
   refine .gS rfl rfl rfl rfl rfl rfl ?_
   refine .gS rfl rfl rfl rfl rfl rfl ?_
   refine .gS rfl rfl rfl rfl rfl rfl ?_
   refine .GU ?_
   refine .GU ?_
   refine .GU ?_
   refine .GU ?_
   refine .GU ?_
   refine .GU ?_
   refine .GU ?_
   refine .gS rfl rfl rfl rfl rfl rfl ?_
   refine .V (pkT rfl rfl rfl) ?_
   refine .nil ?_
   refine .sel0 [] (by decide) rfl ?_
   exact .US q26 true hF
  replace hF := hF.2 q30
  refine .GV (fa rfl tF102_0) q30 ?_
  refine .GV (ld1 rfl tO3 (cellB (off := 0) (k := 0) rfl rfl)) q30 ?_
  refine .GV bi0 q30 ?_
  refine .GV mv0 q30 ?_
  rcases Bool.eq_false_or_eq_true (n_.kind != 1) with q31 | q31
  ·replace hF := hF.1 q31
   refine .GV (fa rfl tF102_3) q31 ?_
   refine .GV (ld1 rfl tO3 (cellB (off := 3) (k := 0) rfl rfl)) q31 ?_
   refine .GV (fa rfl tF102_4) q31 ?_
   refine .GV (ld1 rfl tO3 (cellB (off := 4) (k := 0) rfl rfl)) q31 ?_
   refine .GV (mn rfl rfl) q31 ?_
   refine .GV bi0 q31 ?_
   refine .GV (pkT rfl q31 rfl) q30 ?_
   refine .V (pkF rfl q30 rfl) ?_
   refine .V mv0 ?_
   rcases Bool.eq_false_or_eq_true (decide ((if n_.no < n_.yes then n_.no else n_.yes) < 0)) with q32 | q32
   ·replace hF := hF.1 q32
    refine .GS q32 ?_
    refine .GS q32 ?_
    refine .GS q32 ?_
    refine .GS q32 ?_
    refine .GU ?_
    refine .GU ?_
    refine .GU ?_
    refine .GU ?_
    refine .GU ?_
    refine .GU ?_
    refine .GU ?_
    refine .GS q32 ?_
    refine .V (pkT rfl q32 rfl) ?_
    refine .nil ?_
    refine .sel0 [] (by decide) rfl ?_
    exact .US q26 true hF
   replace hF := hF.2 q32
   refine .GV (fa rfl tF102_0) q32 ?_
   refine .GV (ld1 rfl tO3 (cellB (off := 0) (k := 0) rfl rfl)) q32 ?_
   refine .GV bi0 q32 ?_
   refine .GV mv0 q32 ?_
   refine .GV (fa rfl tF102_3) q31 ?_
   refine .GV (ld1 rfl tO3 (cellB (off := 3) (k := 0) rfl rfl)) q31 ?_
   refine .GV (fa rfl tF102_4) q31 ?_
   refine .GV (ld1 rfl tO3 (cellB (off := 4) (k := 0) rfl rfl)) q31 ?_
   refine .GV (mx rfl rfl) q31 ?_
   refine .GV mv0 q31 ?_
   refine .GV bi0 q31 ?_
   refine .GV (pkT rfl q31 rfl) q32 ?_
   refine .V (pkF rfl q32 rfl) ?_
   refine .nil ?_
   refine .sel0 [] (by decide) rfl ?_
   exact .US q26 (decide (i ≤ (if n_.yes < n_.no then n_.no else n_.yes))) hF
  replace hF := hF.2 q31
  refine .GS q31 ?_
  refine .GS q31 ?_
  refine .GS q31 ?_
  refine .GS q31 ?_
  refine .GS q31 ?_
  refine .GS q31 ?_
  refine .GV (pkF rfl q31 rfl) q30 ?_
  refine .V (pkF rfl q30 rfl) ?_
  refine .V mv0 ?_
  refine .gv (fa rfl tF102_0) rfl rfl rfl rfl rfl rfl ?_
  refine .gv (ld1 rfl tO3 (cellB (off := 0) (k := 0) rfl rfl)) rfl rfl rfl rfl rfl rfl ?_
  refine .gv bi0 rfl rfl rfl rfl rfl rfl ?_
  refine .gv mv0 rfl rfl rfl rfl rfl rfl ?_
  refine .GS q31 ?_
  refine .GS q31 ?_
  refine .GS q31 ?_
  refine .GS q31 ?_
  refine .GS q31 ?_
  refine .GS q31 ?_
  refine .GS q31 ?_
  refine .gv (pkF rfl q31 rfl) rfl rfl rfl rfl rfl rfl ?_
  refine .V (pkF rfl rfl rfl) ?_
  refine .nil ?_
  refine .sel0 [] (by decide) rfl ?_
  exact .US q26 false hF
 refine .block (.seq (.region (.V bi0 ?_)))
 refine .V ag0 ?_
 refine .nil (.seqN ?_)
 refine .cond rfl (fun q33 => ?_) (fun q33 => ?_)
 ·replace hF := hF.1 q33
  refine .skip (.blkN ?_)
  refine .sel0 [1, 0] (by decide) rfl ?_
  exact .US q21 (0, 0, 0, 0) hF
 replace hF := hF.2 q33
 refine .seq (.region (.V bi0 ?_))
 refine .V ag0 ?_
 refine .nil (.seqN ?_)
 refine .cond rfl (fun q34 => ?_) (fun q34 => ?_)
 ·replace hF := hF.1 q34
  refine .seq ?_
  refine .share (σ := Bool) (fun z => F_nodeCode_J3 n_ i K z) (fun z => [(3, iV i), (6, .pointer (some pn)), (9, .pointer (some pwant)), (29, .bool z)]) (fun _ => [Box pn [iV n_.kind, iV n_.op, iV n_.fact, iV n_.yes, iV n_.no], Box pwant [iV n_.kind, iV 0, iV 0, iV 0, iV 0]]) (fun _ => h) ?_ (fun q36 => ?_)
  ·rintro t29 hF
   show J _ _ _ _ _ [(3, iV i), (6, .pointer (some pn)), (9, .pointer (some pwant)), (29, .bool t29)] [Box pn [iV n_.kind, iV n_.op, iV n_.fact, iV n_.yes, iV n_.no], Box pwant [iV n_.kind, iV 0, iV 0, iV 0, iV 0]] h
   refine .cond rfl (fun q38 => ?_) (fun q38 => ?_)
   ·replace hF := hF.1 q38
    refine .seq (.region (.V ag0 ?_))
    refine .nil (.seqN (.ret (.seqR (.blkR (.seqR ?_)))))
    refine .res1 rfl (rvT rfl) (fun w' S => ⟨3, hF, rfl, S.below⟩)
   replace hF := hF.2 q38
   refine .skip (.seqN ?_)
   refine .openA (s0 := [(3, iV i), (6, .pointer (some pn)), (9, .pointer (some pwant))]) [0, 1, 2, 3, 4] [(0, .pointer (some (pn.add 1))), (1, iV n_.op), (2, .pointer (some (pn.add 3))), (3, iV n_.yes), (4, .pointer (some (pwant.add 1)))] (by kernel_rfl) sb [3, 6, 9] [] rfl (by kernel_rfl) ?_
   refine .step [5] 5 rfl (by kernel_rfl) (by kernel_rfl) (.v [] rfl rfl rfl rfl rfl rfl (fun _ => fa rfl tF102_1) (.v [(30, .pointer (some (pn.add 1)))] rfl rfl rfl rfl rfl rfl (fun _ => ld1 rfl tO3 (cellB (off := 1) (k := 0) rfl rfl)) (.v [] rfl rfl rfl rfl rfl rfl (fun _ => fa rfl tF102_3) (.v [(32, .pointer (some (pn.add 3)))] rfl rfl rfl rfl rfl rfl (fun _ => ld1 rfl tO3 (cellB (off := 3) (k := 0) rfl rfl)) (.v [(30, .pointer (some (pn.add 1))), (31, iV n_.op)] rfl rfl rfl rfl rfl rfl (fun _ => fa rfl tF102_1) (.nil)))))) (.cons [(34, .pointer (some (pwant.add 1))), (31, iV n_.op), (30, .pointer (some (pn.add 1))), (31, iV n_.op)] rfl rfl (fun sL hL => ?_) (.nil))
   refine st (p := pwant) (off := 1) (k := 1) (vs := [iV n_.op]) rfl rfl rfl (fun w => (tO3 w).2) rfl rfl rfl rfl ?_
   refine .KA [Box pn [iV n_.kind, iV n_.op, iV n_.fact, iV n_.yes, iV n_.no], Box pwant [iV n_.kind, iV n_.op, iV 0, iV 0, iV 0]] ?_
   refine .nil ?_
   refine .jaN (M := [4, 1, 0]) (C' := [2, 3, 6]) (pre := [(6, .pointer (some (pwant.add 3)))]) [3, 6, 9] hL rfl rfl rfl rfl rfl (by kernel_rfl) ?_
   refine .step [7] 7 rfl (by kernel_rfl) (by kernel_rfl) (.v [] rfl rfl rfl rfl rfl rfl (fun _ => fa rfl tF102_3) (.v [(32, .pointer (some (pn.add 3)))] rfl rfl rfl rfl rfl rfl (fun _ => ld1 rfl tO3 (cellB (off := 3) (k := 0) rfl rfl)) (.v [(30, .pointer (some (pn.add 1))), (31, iV n_.op), (32, .pointer (some (pn.add 3))), (33, iV n_.yes), (34, .pointer (some (pwant.add 1)))] rfl rfl rfl rfl rfl rfl (fun _ => fa rfl tF102_3) (.nil)))) (.cons [(35, .pointer (some (pwant.add 3))), (33, iV n_.yes), (30, .pointer (some (pn.add 1))), (31, iV n_.op), (32, .pointer (some (pn.add 3))), (33, iV n_.yes), (34, .pointer (some (pwant.add 1)))] rfl rfl (fun sL hL => ?_) (.nil))
   refine st (p := pwant) (off := 3) (k := 1) (vs := [iV n_.yes]) rfl rfl rfl (fun w => (tO3 w).2) rfl rfl rfl rfl ?_
   refine .KA [Box pn [iV n_.kind, iV n_.op, iV n_.fact, iV n_.yes, iV n_.no], Box pwant [iV n_.kind, iV n_.op, iV 0, iV n_.yes, iV 0]] ?_
   refine .nil ?_
   refine .jaN (M := [6, 3, 2]) (C' := []) (pre := []) [3, 6, 9] hL rfl rfl rfl rfl rfl (by kernel_rfl) ?_
   refine .last [(30, .pointer (some (pn.add 1))), (31, iV n_.op), (32, .pointer (some (pn.add 3))), (33, iV n_.yes), (34, .pointer (some (pwant.add 1))), (35, .pointer (some (pwant.add 3)))] rfl (by kernel_rfl) (.nil) rfl ?_
   refine .blkN ?_
   exact .US q21 (n_.op, 0, n_.yes, 0) hF
  refine .region (.V (fa rfl tF102_1) ?_)
  refine .V (ld1 rfl tO3 (cellB (off := 1) (k := 1) rfl rfl)) ?_
  refine .V bi0 ?_
  refine .V mv0 ?_
  rcases Bool.eq_false_or_eq_true (decide (n_.op < 0)) with q39 | q39
  ·replace hF := hF.1 q39
   refine .GS q39 ?_
   refine .GS q39 ?_
   refine .GS q39 ?_
   refine .GS q39 ?_
   refine .GS q39 ?_
   refine .GS q39 ?_
   refine .V (pkT rfl q39 rfl) ?_
   refine .nil ?_
   refine .sel0 [1, 0] (by decide) rfl ?_
   exact .US q36 true hF
  replace hF := hF.2 q39
  refine .GV (fa rfl tF102_1) q39 ?_
  refine .GV (ld1 rfl tO3 (cellB (off := 1) (k := 1) rfl rfl)) q39 ?_
  refine .GV (fa rfl tF25_3) q39 ?_
  refine .GV (ld1 rfl tO23 (cellB (off := 3) (k := 2) rfl rfl)) q39 ?_
  refine .GV (ln rfl tS23.is) q39 ?_
  refine .GV bi0 q39 ?_
  refine .V (pkF rfl q39 rfl) ?_
  refine .nil ?_
  refine .sel0 [1, 0] (by decide) rfl ?_
  exact .US q36 (decide (((t.ops.length : Nat) : Int) ≤ n_.op)) hF
 replace hF := hF.2 q34
 refine .seq (.region (.V bi0 ?_))
 refine .V ag0 ?_
 refine .nil (.seqN ?_)
 refine .cond rfl (fun q40 => ?_) (fun q40 => ?_)
 ·replace hF := hF.1 q40
  refine .seq (.seq (.region (.V mv0 ?_)))
  refine .V (fa rfl tF102_2) ?_
  refine .V (ld1 rfl tO3 (cellB (off := 2) (k := 1) rfl rfl)) ?_
  obtain ⟨q41, hF⟩ := hF
  obtain ⟨r2, q42⟩ : ∃ y_ : Bool, y_ = sp_contains sN n_.fact := ⟨_, rfl⟩
  replace hF := hF r2 q42
  refine .C (cl (v := .bool r2) Tryz.call101 rfl rfl (fun w S => (by rw [q42]; exact c_contains S.sub sN aSn cSn _q7 _q8 n_.fact q41))) ?_
  refine .V (nt rfl) ?_
  refine .nil (.seqN ?_)
  refine .cond rfl (fun q44 => ?_) (fun q44 => ?_)
  ·replace hF := hF.1 q44
   refine .seq (.region (.V ag0 ?_))
   refine .nil (.seqN (.ret (.seqR (.blkR (.seqR ?_)))))
   refine .res1 rfl (rvT rfl) (fun w' S => ⟨6, hF, rfl, S.below⟩)
  replace hF := hF.2 q44
  refine .skip (.seqN ?_)
  refine .openA (s0 := [(3, iV i), (6, .pointer (some pn)), (9, .pointer (some pwant))]) [0, 1, 2, 3, 4, 5, 6] [(0, .pointer (some (pn.add 2))), (1, iV n_.fact), (2, .pointer (some (pn.add 3))), (3, iV n_.yes), (4, .pointer (some (pn.add 4))), (5, iV n_.no), (6, .pointer (some (pwant.add 2)))] (by kernel_rfl) sb [3, 6, 9] [] rfl (by kernel_rfl) ?_
  refine .step [7] 7 rfl (by kernel_rfl) (by kernel_rfl) (.v [] rfl rfl rfl rfl rfl rfl (fun _ => fa rfl tF102_2) (.v [(43, .pointer (some (pn.add 2)))] rfl rfl rfl rfl rfl rfl (fun _ => ld1 rfl tO3 (cellB (off := 2) (k := 1) rfl rfl)) (.v [] rfl rfl rfl rfl rfl rfl (fun _ => fa rfl tF102_3) (.v [(45, .pointer (some (pn.add 3)))] rfl rfl rfl rfl rfl rfl (fun _ => ld1 rfl tO3 (cellB (off := 3) (k := 1) rfl rfl)) (.v [] rfl rfl rfl rfl rfl rfl (fun _ => fa rfl tF102_4) (.v [(47, .pointer (some (pn.add 4)))] rfl rfl rfl rfl rfl rfl (fun _ => ld1 rfl tO3 (cellB (off := 4) (k := 1) rfl rfl)) (.v [(43, .pointer (some (pn.add 2))), (44, iV n_.fact)] rfl rfl rfl rfl rfl rfl (fun _ => fa rfl tF102_2) (.nil)))))))) (.cons [(49, .pointer (some (pwant.add 2))), (44, iV n_.fact), (43, .pointer (some (pn.add 2))), (44, iV n_.fact)] rfl rfl (fun sL hL => ?_) (.nil))
  refine st (p := pwant) (off := 2) (k := 0) (vs := [iV n_.fact]) rfl rfl rfl (fun w => (tO3 w).2) rfl rfl rfl rfl ?_
  refine .KA [Box pwant [iV n_.kind, iV 0, iV n_.fact, iV 0, iV 0], Box pn [iV n_.kind, iV n_.op, iV n_.fact, iV n_.yes, iV n_.no], Box pt (tF t at_ ct at_2 ct2 at_3 ct3)] ?_
  refine .nil ?_
  refine .jaN (M := [6, 1, 0]) (C' := [2, 3, 4, 5, 8]) (pre := [(8, .pointer (some (pwant.add 3)))]) [3, 6, 9] hL rfl rfl rfl rfl rfl (by kernel_rfl) ?_
  refine .step [9] 9 rfl (by kernel_rfl) (by kernel_rfl) (.v [] rfl rfl rfl rfl rfl rfl (fun _ => fa rfl tF102_3) (.v [(45, .pointer (some (pn.add 3)))] rfl rfl rfl rfl rfl rfl (fun _ => ld1 rfl tO3 (cellB (off := 3) (k := 1) rfl rfl)) (.v [] rfl rfl rfl rfl rfl rfl (fun _ => fa rfl tF102_4) (.v [(47, .pointer (some (pn.add 4)))] rfl rfl rfl rfl rfl rfl (fun _ => ld1 rfl tO3 (cellB (off := 4) (k := 1) rfl rfl)) (.v [(43, .pointer (some (pn.add 2))), (44, iV n_.fact), (45, .pointer (some (pn.add 3))), (46, iV n_.yes), (49, .pointer (some (pwant.add 2)))] rfl rfl rfl rfl rfl rfl (fun _ => fa rfl tF102_3) (.nil)))))) (.cons [(50, .pointer (some (pwant.add 3))), (46, iV n_.yes), (43, .pointer (some (pn.add 2))), (44, iV n_.fact), (45, .pointer (some (pn.add 3))), (46, iV n_.yes), (49, .pointer (some (pwant.add 2)))] rfl rfl (fun sL hL => ?_) (.nil))
  refine st (p := pwant) (off := 3) (k := 0) (vs := [iV n_.yes]) rfl rfl rfl (fun w => (tO3 w).2) rfl rfl rfl rfl ?_
  refine .KA [Box pwant [iV n_.kind, iV 0, iV n_.fact, iV n_.yes, iV 0], Box pn [iV n_.kind, iV n_.op, iV n_.fact, iV n_.yes, iV n_.no], Box pt (tF t at_ ct at_2 ct2 at_3 ct3)] ?_
  refine .nil ?_
  refine .jaN (M := [8, 3, 2]) (C' := [4, 5, 10]) (pre := [(10, .pointer (some (pwant.add 4)))]) [3, 6, 9] hL rfl rfl rfl rfl rfl (by kernel_rfl) ?_
  refine .step [11] 11 rfl (by kernel_rfl) (by kernel_rfl) (.v [] rfl rfl rfl rfl rfl rfl (fun _ => fa rfl tF102_4) (.v [(47, .pointer (some (pn.add 4)))] rfl rfl rfl rfl rfl rfl (fun _ => ld1 rfl tO3 (cellB (off := 4) (k := 1) rfl rfl)) (.v [(43, .pointer (some (pn.add 2))), (44, iV n_.fact), (45, .pointer (some (pn.add 3))), (46, iV n_.yes), (47, .pointer (some (pn.add 4))), (48, iV n_.no), (49, .pointer (some (pwant.add 2))), (50, .pointer (some (pwant.add 3)))] rfl rfl rfl rfl rfl rfl (fun _ => fa rfl tF102_4) (.nil)))) (.cons [(51, .pointer (some (pwant.add 4))), (48, iV n_.no), (43, .pointer (some (pn.add 2))), (44, iV n_.fact), (45, .pointer (some (pn.add 3))), (46, iV n_.yes), (47, .pointer (some (pn.add 4))), (48, iV n_.no), (49, .pointer (some (pwant.add 2))), (50, .pointer (some (pwant.add 3)))] rfl rfl (fun sL hL => ?_) (.nil))
  refine st (p := pwant) (off := 4) (k := 0) (vs := [iV n_.no]) rfl rfl rfl (fun w => (tO3 w).2) rfl rfl rfl rfl ?_
  refine .KA [Box pwant [iV n_.kind, iV 0, iV n_.fact, iV n_.yes, iV n_.no], Box pn [iV n_.kind, iV n_.op, iV n_.fact, iV n_.yes, iV n_.no], Box pt (tF t at_ ct at_2 ct2 at_3 ct3)] ?_
  refine .nil ?_
  refine .jaN (M := [10, 5, 4]) (C' := []) (pre := []) [3, 6, 9] hL rfl rfl rfl rfl rfl (by kernel_rfl) ?_
  refine .last [(43, .pointer (some (pn.add 2))), (44, iV n_.fact), (45, .pointer (some (pn.add 3))), (46, iV n_.yes), (47, .pointer (some (pn.add 4))), (48, iV n_.no), (49, .pointer (some (pwant.add 2))), (50, .pointer (some (pwant.add 3))), (51, .pointer (some (pwant.add 4)))] rfl (by kernel_rfl) (.nil) rfl ?_
  refine .blkN ?_
  refine .sel0 [1, 0] (by decide) rfl ?_
  exact .US q21 (0, n_.fact, n_.yes, n_.no) hF
 replace hF := hF.2 q40
 refine .seq (.region (.V ag0 ?_))
 refine .nil (.seqN (.ret (.blkR (.seqR ?_))))
 refine .res1 rfl (rvT rfl) (fun w' S => ⟨4, hF, rfl, S.below⟩)
theorem c_nodeCode {h : FH} {w : World} (hs : Sub h w) (t : Task) (at_ : Option Addr) (ct : Nat) (_q1 : RSl h at_ t.init) (_q2 : t.init.length ≤ ct) (at_2 : Option Addr) (ct2 : Nat) (_q3 : RSl h at_2 t.goal) (_q4 : t.goal.length ≤ ct2) (at_3 : Option Addr) (ct3 : Nat) (_q5 : RSl h at_3 t.ops) (_q6 : t.ops.length ≤ ct3) (sN : List Int) (aSn : Option Addr) (cSn : Nat) (_q7 : RSl h aSn sN) (_q8 : sN.length ≤ cSn) (n_ : TNode) (i : Int) (hp : pre_nodeCode t sN n_ i) : Calls Tryz.prog 77 #[.agg #[iV t.facts, .slice at_ t.init.length ct, .slice at_2 t.goal.length ct2, .slice at_3 t.ops.length ct3], .slice aSn sN.length cSn, .agg #[iV n_.kind, iV n_.op, iV n_.fact, iV n_.yes, iV n_.no], iV i] w fun e w' => e = .returned (iV (sp_nodeCode t sN n_ i)) ∧ Below w.heap.size w w' :=
 (w_nodeCode hs t at_ ct _q1 _q2 at_2 ct2 _q3 _q4 at_3 ct3 _q5 _q6 sN aSn cSn _q7 _q8 n_ i (fun r => r = sp_nodeCode t sN n_ i) (ok_nodeCode t sN n_ i hp)).mono fun _ _ ⟨_, hk, he, hb⟩ => ⟨by rw [he, hk], hb⟩
set_option maxHeartbeats 8000000 in
theorem w_cvalidate {h : FH} {w : World} (hs : Sub h w) (t : Task) (at_ : Option Addr) (ct : Nat) (_q1 : RSl h at_ t.init) (_q2 : t.init.length ≤ ct) (at_2 : Option Addr) (ct2 : Nat) (_q3 : RSl h at_2 t.goal) (_q4 : t.goal.length ≤ ct2) (at_3 : Option Addr) (ct3 : Nat) (_q5 : RSl h at_3 t.ops) (_q6 : t.ops.length ≤ ct3) (sN : List Int) (aSn : Option Addr) (cSn : Nat) (_q7 : RSl h aSn sN) (_q8 : sN.length ≤ cSn) (tree : List TNode) (atree : Option Addr) (ctree : Nat) (_q9 : RSl h atree tree) (_q10 : tree.length ≤ ctree) (K : Fault → Prop) (hF : F_cvalidate t sN tree K) : Calls Tryz.prog 40 #[.agg #[iV t.facts, .slice at_ t.init.length ct, .slice at_2 t.goal.length ct2, .slice at_3 t.ops.length ct3], .slice aSn sN.length cSn, .slice atree tree.length ctree] w fun e w' => ∃ r : Fault, K r ∧ e = .returned (.agg #[iV r.code, iV r.index]) ∧ Below w.heap.size w w' := by
 refine enter (args := [.agg (tF t at_ ct at_2 ct2 at_3 ct3).toArray, vSl aSn sN cSn, vSl atree tree ctree]) Tryz.func40 rfl Tryz.ntmps40 rfl hs ?_
 refine .seq (.region ?_)
 refine bx (vs := (tF t at_ ct at_2 ct2 at_3 ct3)) rfl rfl rfl (fun pt => ?_)
 refine al tZ27 rfl (fun pv => ?_)
 refine .nil (.seqN (.seq (.seq (.region (.V (ldA (cs := (tF t at_ ct at_2 ct2 at_3 ct3)) rfl tA25 rfl (cellsB (off := 0) (k := 1) rfl (m := 4) rfl)) ?_)))))
 refine .V mv0 ?_
 obtain ⟨r2, q11⟩ : ∃ y_ : Fault, y_ = sp_ccheck t [] sN := ⟨_, rfl⟩
 replace hF := hF r2 q11
 refine .C (cl (v := .agg #[iV r2.code, iV r2.index]) Tryz.call70 rfl rfl (fun w S => (by rw [q11]; exact c_ccheck S.sub t at_ ct _q1 _q2 at_2 ct2 _q3 _q4 at_3 ct3 _q5 _q6 [] none 0 RSl.nil_ (Nat.le_refl 0) sN aSn cSn _q7 _q8 ))) ?_
 refine al tZ27 rfl (fun pf => ?_)
 refine st (p := pf) (off := 0) (k := 0) (vs := [iV r2.code, iV r2.index]) rfl rfl rfl (fun w => (tA27 w).2) rfl rfl rfl rfl ?_
 refine .KA [Box pf [iV r2.code, iV r2.index], Box pv [iV 0, iV 0], Box pt (tF t at_ ct at_2 ct2 at_3 ct3)] ?_
 refine .nil (.seqN (.seq (.region (.V (ldA (cs := [iV r2.code, iV r2.index]) rfl tA27 rfl (cellsB (off := 0) (k := 0) rfl (m := 2) rfl)) ?_))))
 refine .V (bld (cs := #[iV 0, iV 0]) (pv := []) tB27 rfl rfl) ?_
 refine .V (ne2 tE27 rfl rfl) ?_
 refine .nil (.seqN ?_)
 refine .cond rfl (fun q13 => ?_) (fun q13 => ?_)
 ·replace hF := hF.1 q13
  refine .seq (.region (.V (ldA (cs := [iV r2.code, iV r2.index]) rfl tA27 rfl (cellsB (off := 0) (k := 0) rfl (m := 2) rfl)) ?_))
  refine st (p := pv) (off := 0) (k := 1) (vs := [iV r2.code, iV r2.index]) rfl rfl rfl (fun w => (tA27 w).2) rfl rfl rfl rfl ?_
  refine .KA [Box pf [iV r2.code, iV r2.index], Box pv [iV r2.code, iV r2.index], Box pt (tF t at_ ct at_2 ct2 at_3 ct3)] ?_
  refine .nil (.seqN (.ret (.seqR ?_)))
  refine .res1 rfl (rvC rfl tA27 (k := 1) rfl rfl) (fun w' S => ⟨r2, hF, rfl, S.below⟩)
 replace hF := hF.2 q13
 refine .skip (.seqN (.seq ?_))
 refine .share (σ := Bool) (fun z => F_cvalidate_J1 t sN tree K z) (fun z => [(1, vSl aSn sN cSn), (2, vSl atree tree ctree), (3, .pointer (some pt)), (6, .pointer (some pv)), (25, .bool z)]) (fun _ => [Box pt (tF t at_ ct at_2 ct2 at_3 ct3), Box pv [iV 0, iV 0]]) (fun _ => h) ?_ (fun q15 => ?_)
 ·rintro t25 hF
  show J _ _ _ _ _ [(1, vSl aSn sN cSn), (2, vSl atree tree ctree), (3, .pointer (some pt)), (6, .pointer (some pv)), (25, .bool t25)] [Box pt (tF t at_ ct at_2 ct2 at_3 ct3), Box pv [iV 0, iV 0]] h
  refine .cond rfl (fun q17 => ?_) (fun q17 => ?_)
  ·replace hF := hF.1 q17
   refine .seq (.region (.V (bld (cs := #[iV 9, iV (-1)]) (pv := [(0, iV 9), (1, iV (-1))]) tB27 rfl rfl) ?_))
   refine st (p := pv) (off := 0) (k := 1) (vs := [iV 9, iV (-1)]) rfl rfl rfl (fun w => (tA27 w).2) rfl rfl rfl rfl ?_
   refine .KA [Box pt (tF t at_ ct at_2 ct2 at_3 ct3), Box pv [iV 9, iV (-1)]] ?_
   refine .nil (.seqN (.ret (.seqR ?_)))
   refine .res1 rfl (rvC rfl tA27 (k := 1) rfl rfl) (fun w' S => ⟨(⟨9, (-1)⟩ : Fault), hF, rfl, S.below⟩)
  replace hF := hF.2 q17
  refine .skip (.seqN (.seq (.seq (.region (.V mv0 ?_)))))
  refine .V (ln rfl tS60.is) ?_
  refine .V mv0 ?_
  refine .nil (.seqN (.block ?_))
  obtain ⟨I1, μ1, q95, q96⟩ := hF
  refine .loop' (σ := Int) (fun z => I1 z) (fun z => μ1 z) (fun z => [(1, vSl aSn sN cSn), (3, .pointer (some pt)), (6, .pointer (some pv)), (27, vSl atree tree ctree), (28, iV ((tree.length : Nat) : Int)), (29, iV z)]) (fun _ => [Box pt (tF t at_ ct at_2 ct2 at_3 ct3), Box pv [iV 0, iV 0]]) (fun _ => h) 0 q95 sb rfl (FH.le_refl _) ?_
  rintro t29 q95
  have hF := q96 t29 q95
  show J _ _ _ _ _ [(1, vSl aSn sN cSn), (3, .pointer (some pt)), (6, .pointer (some pv)), (27, vSl atree tree ctree), (28, iV ((tree.length : Nat) : Int)), (29, iV t29)] [Box pt (tF t at_ ct at_2 ct2 at_3 ct3), Box pv [iV 0, iV 0]] h
  refine .seq (.region (.V bi0 ?_))
  refine .nil (.seqN (.seq ?_))
  refine .cond rfl (fun q99 => ?_) (fun q99 => ?_)
  ·replace hF := hF.1 q99
   refine .skip (.seqN (.seq (.block (.seq (.region (.V mv0 ?_))))))
   obtain ⟨q108, hF⟩ := hF
   refine .V (ix rfl rfl tS60 (_q9.ne (by decide) (inb_pos q108)) q108) ?_
   refine .V (ldA (cs := [iV ((gt tree t29).kind), iV ((gt tree t29).op), iV ((gt tree t29).fact), iV ((gt tree t29).yes), iV ((gt tree t29).no)]) rfl tA102 rfl (cellsH (_q9.elemF q108 (by decide)))) ?_
   refine al tZ102 rfl (fun pn => ?_)
   refine .V ag0 ?_
   refine st (p := pn) (off := 0) (k := 0) (vs := [iV ((gt tree t29).kind), iV ((gt tree t29).op), iV ((gt tree t29).fact), iV ((gt tree t29).yes), iV ((gt tree t29).no)]) rfl rfl rfl (fun w => (tA102 w).2) rfl rfl rfl rfl ?_
   refine .KA [Box pn [iV ((gt tree t29).kind), iV ((gt tree t29).op), iV ((gt tree t29).fact), iV ((gt tree t29).yes), iV ((gt tree t29).no)], Box pt (tF t at_ ct at_2 ct2 at_3 ct3), Box pv [iV 0, iV 0]] ?_
   refine .nil (.seqN (.seq (.region (.V (ldA (cs := (tF t at_ ct at_2 ct2 at_3 ct3)) rfl tA25 rfl (cellsB (off := 0) (k := 1) rfl (m := 4) rfl)) ?_))))
   refine .V mv0 ?_
   refine .V (ldA (cs := [iV ((gt tree t29).kind), iV ((gt tree t29).op), iV ((gt tree t29).fact), iV ((gt tree t29).yes), iV ((gt tree t29).no)]) rfl tA102 rfl (cellsB (off := 0) (k := 0) rfl (m := 5) rfl)) ?_
   refine .V mv0 ?_
   obtain ⟨q109, hF⟩ := hF
   obtain ⟨r3, q110⟩ : ∃ y_ : Int, y_ = sp_nodeCode t sN (gt tree t29) t29 := ⟨_, rfl⟩
   replace hF := hF r3 q110
   refine .C (cl (v := iV r3) Tryz.call77 rfl rfl (fun w S => (by rw [q110]; exact c_nodeCode S.sub t at_ ct _q1 _q2 at_2 ct2 _q3 _q4 at_3 ct3 _q5 _q6 sN aSn cSn _q7 _q8 (gt tree t29) t29 q109))) ?_
   refine .V ag0 ?_
   refine .nil (.seqN (.seq (.region (.V mv0 ?_))))
   refine .V bi0 ?_
   refine .nil (.seqN ?_)
   refine .cond rfl (fun q111 => ?_) (fun q111 => ?_)
   ·replace hF := hF.1 q111
    refine .seq (.region (.V mv0 ?_))
    refine .V mv0 ?_
    refine .V (bld (cs := #[iV r3, iV t29]) (pv := [(0, iV r3), (1, iV t29)]) tB27 rfl rfl) ?_
    refine st (p := pv) (off := 0) (k := 2) (vs := [iV r3, iV t29]) rfl rfl rfl (fun w => (tA27 w).2) rfl rfl rfl rfl ?_
    refine .KA [Box pn [iV ((gt tree t29).kind), iV ((gt tree t29).op), iV ((gt tree t29).fact), iV ((gt tree t29).yes), iV ((gt tree t29).no)], Box pt (tF t at_ ct at_2 ct2 at_3 ct3), Box pv [iV r3, iV t29]] ?_
    refine .nil (.seqN (.ret (.blkR (.seqR (.seqR (.blkR (.seqR ?_)))))))
    refine .res1 rfl (rvC rfl tA27 (k := 2) rfl rfl) (fun w' S => ⟨(⟨r3, t29⟩ : Fault), hF, rfl, S.below⟩)
   replace hF := hF.2 q111
   refine .skip (.blkN (.seqN (.region (.V bi0 ?_))))
   refine .V mv0 ?_
   refine .nil ?_
   refine .sel0 [1, 2] (by decide) rfl ?_
   exact .RO (wr (t29 + 1)) hF.1 hF.2
  replace hF := hF.2 q99
  refine .exit (.seqX (.seqX (.blkX (.seqN (.seq (.region (.V (bld (cs := #[iV 0, iV 0]) (pv := []) tB27 rfl rfl) ?_)))))))
  refine st (p := pv) (off := 0) (k := 1) (vs := [iV 0, iV 0]) rfl rfl rfl (fun w => (tA27 w).2) rfl rfl rfl rfl ?_
  refine .KA [Box pt (tF t at_ ct at_2 ct2 at_3 ct3), Box pv [iV 0, iV 0]] ?_
  refine .nil (.seqN (.ret ?_))
  refine .res1 rfl (rvC rfl tA27 (k := 1) rfl rfl) (fun w' S => ⟨(⟨0, 0⟩ : Fault), hF, rfl, S.below⟩)
 refine .region (.V mv0 ?_)
 refine .V (ln rfl tS60.is) ?_
 refine .V bi0 ?_
 refine .V mv0 ?_
 rcases Bool.eq_false_or_eq_true (((tree.length : Nat) : Int) == 0) with q112 | q112
 ·replace hF := hF.1 q112
  refine .GS q112 ?_
  refine .GS q112 ?_
  refine .GS q112 ?_
  refine .V (pkT rfl q112 rfl) ?_
  refine .nil ?_
  refine .sel0 [2, 1] (by decide) rfl ?_
  exact .US q15 true hF
 replace hF := hF.2 q112
 refine .GV mv0 q112 ?_
 refine .GV (ln rfl tS60.is) q112 ?_
 refine .GV bi0 q112 ?_
 refine .V (pkF rfl q112 rfl) ?_
 refine .nil ?_
 refine .sel0 [2, 1] (by decide) rfl ?_
 exact .US q15 (decide (60 < ((tree.length : Nat) : Int))) hF
theorem c_cvalidate {h : FH} {w : World} (hs : Sub h w) (t : Task) (at_ : Option Addr) (ct : Nat) (_q1 : RSl h at_ t.init) (_q2 : t.init.length ≤ ct) (at_2 : Option Addr) (ct2 : Nat) (_q3 : RSl h at_2 t.goal) (_q4 : t.goal.length ≤ ct2) (at_3 : Option Addr) (ct3 : Nat) (_q5 : RSl h at_3 t.ops) (_q6 : t.ops.length ≤ ct3) (sN : List Int) (aSn : Option Addr) (cSn : Nat) (_q7 : RSl h aSn sN) (_q8 : sN.length ≤ cSn) (tree : List TNode) (atree : Option Addr) (ctree : Nat) (_q9 : RSl h atree tree) (_q10 : tree.length ≤ ctree) : Calls Tryz.prog 40 #[.agg #[iV t.facts, .slice at_ t.init.length ct, .slice at_2 t.goal.length ct2, .slice at_3 t.ops.length ct3], .slice aSn sN.length cSn, .slice atree tree.length ctree] w fun e w' => e = .returned (.agg #[iV (sp_cvalidate t sN tree).code, iV (sp_cvalidate t sN tree).index]) ∧ Below w.heap.size w w' :=
 (w_cvalidate hs t at_ ct _q1 _q2 at_2 ct2 _q3 _q4 at_3 ct3 _q5 _q6 sN aSn cSn _q7 _q8 tree atree ctree _q9 _q10 (fun r => r = sp_cvalidate t sN tree) (ok_cvalidate t sN tree)).mono fun _ _ ⟨_, hk, he, hb⟩ => ⟨by rw [he, hk], hb⟩
end Go.Proofs.YtojoehfldbimpaaGreatDoor.Pl

namespace Go.Proofs.YtojoehfldbimpaaGreatDoor.Pl
open Go Go.RowKit
set_option maxHeartbeats 8000000 in
theorem w_deep {h : FH} {w : World} (hs : Sub h w) (tree : List TNode) (atree : Option Addr) (ctree : Nat) (_q1 : RSl h atree tree) (_q2 : tree.length ≤ ctree) (K : Int → Prop) (hF : F_deep tree K) : Calls Tryz.prog 74 #[.slice atree tree.length ctree] w fun e w' => ∃ r : Int, K r ∧ e = .returned (iV r) ∧ Below w.heap.size w w' := by
 refine enter (args := [vSl atree tree ctree]) Tryz.func74 rfl Tryz.ntmps74 rfl hs ?_
 refine .seq (.region (.V ag0 ?_))
 refine .nil (.seqN (.seq (.region (.V mv0 ?_))))
 refine .V (ln rfl tS60.is) ?_
 obtain ⟨q3, hF⟩ := hF
 refine mk (m := (((tree.length : Nat) : Int)).toNat) (cs' := flL (List.replicate (((tree.length : Nat) : Int)).toNat (0 : Int))) tS22 rfl rfl (Int.toNat_of_nonneg q3.1).symm q3.2.1 q3.2.2 (flL_rep1 rfl _) rfl (fun a c => ?_)
 have q4 : (List.replicate (((tree.length : Nat) : Int)).toNat (0 : Int)).length = (((tree.length : Nat) : Int)).toNat := List.length_replicate
 refine .KA [OwnSl 3 1 a ((((tree.length : Nat) : Int)).toNat) c (flL (List.replicate (((tree.length : Nat) : Int)).toNat (0 : Int)))] ?_
 refine .V ag0 ?_
 refine .nil (.seqN (.seq (.seq (.region (.V mv0 ?_)))))
 refine .V (ln rfl tS60.is) ?_
 refine .V mv0 ?_
 refine .nil (.seqN (.block ?_))
 obtain ⟨I1, μ1, q174, q175⟩ := hF
 refine .loop' (σ := Int × List Int) (fun z => I1 z.1 z.2 ∧ z.2.length = (((tree.length : Nat) : Int)).toNat) (fun z => μ1 z.1 z.2) (fun z => [(3, .slice a ((((tree.length : Nat) : Int)).toNat) c), (9, vSl atree tree ctree), (10, iV ((tree.length : Nat) : Int)), (11, iV z.1)]) (fun z => [OwnSl 3 1 a ((((tree.length : Nat) : Int)).toNat) c (flL z.2)]) (fun _ => h) (0, (List.replicate (((tree.length : Nat) : Int)).toNat (0 : Int))) ⟨q174, q4⟩ sb rfl (FH.le_refl _) ?_
 rintro ⟨t11, d⟩ ⟨q174, q141⟩
 have hF := q175 t11 d q174
 show J _ _ _ _ _ [(3, .slice a ((((tree.length : Nat) : Int)).toNat) c), (9, vSl atree tree ctree), (10, iV ((tree.length : Nat) : Int)), (11, iV t11)] [OwnSl 3 1 a ((((tree.length : Nat) : Int)).toNat) c (flL d)] h
 refine .seq (.region (.V bi0 ?_))
 refine .nil (.seqN (.seq ?_))
 refine .cond rfl (fun q178 => ?_) (fun q178 => ?_)
 ·replace hF := hF.1 q178
  refine .skip (.seqN ?_)
  refine .share (σ := List Int) (fun z => F_deep_J1 d z t11 I1 μ1 ∧ z.length = (((tree.length : Nat) : Int)).toNat) (fun _ => [(3, .slice a ((((tree.length : Nat) : Int)).toNat) c), (9, vSl atree tree ctree), (10, iV ((tree.length : Nat) : Int)), (11, iV t11)]) (fun z => [OwnSl 3 1 a ((((tree.length : Nat) : Int)).toNat) c (flL z)]) (fun _ => h) ?_ (fun q193 => ?_)
  ·rintro d3 ⟨hF, q192⟩
   show J _ _ _ _ _ [(3, .slice a ((((tree.length : Nat) : Int)).toNat) c), (9, vSl atree tree ctree), (10, iV ((tree.length : Nat) : Int)), (11, iV t11)] [OwnSl 3 1 a ((((tree.length : Nat) : Int)).toNat) c (flL d3)] h
   refine .region (.V bi0 ?_)
   refine .V mv0 ?_
   refine .nil ?_
   exact .RO (wr (t11 + 1), d3) ⟨hF.1, q192⟩ hF.2
  refine .block (.seq (.region (.V mv0 ?_)))
  obtain ⟨q194, hF⟩ := hF
  refine .V (ix rfl rfl tS60 (_q1.ne (by decide) (inb_pos q194)) q194) ?_
  refine .V (ldA (cs := [iV ((gt tree t11).kind), iV ((gt tree t11).op), iV ((gt tree t11).fact), iV ((gt tree t11).yes), iV ((gt tree t11).no)]) rfl tA102 rfl (cellsH (_q1.elemF q194 (by decide)))) ?_
  refine al tZ102 rfl (fun pn => ?_)
  refine .V ag0 ?_
  refine st (p := pn) (off := 0) (k := 0) (vs := [iV ((gt tree t11).kind), iV ((gt tree t11).op), iV ((gt tree t11).fact), iV ((gt tree t11).yes), iV ((gt tree t11).no)]) rfl rfl rfl (fun w => (tA102 w).2) rfl rfl rfl rfl ?_
  refine .KA [Box pn [iV ((gt tree t11).kind), iV ((gt tree t11).op), iV ((gt tree t11).fact), iV ((gt tree t11).yes), iV ((gt tree t11).no)], OwnSl 3 1 a ((((tree.length : Nat) : Int)).toNat) c (flL d)] ?_
  refine .nil (.seqN (.seq (.region (.V (fa rfl tF102_0) ?_))))
  refine .V (ld1 rfl tO3 (cellB (off := 0) (k := 0) rfl rfl)) ?_
  refine .nil (.seqN (.block (.seq (.region (.V bi0 ?_)))))
  refine .V ag0 ?_
  refine .nil (.seqN ?_)
  refine .cond rfl (fun q195 => ?_) (fun q195 => ?_)
  ·replace hF := hF.1 q195
   refine .region (.V mv0 ?_)
   refine .V mv0 ?_
   refine .V mv0 ?_
   refine .V (fa rfl tF102_3) ?_
   refine .V (ld1 rfl tO3 (cellB (off := 3) (k := 0) rfl rfl)) ?_
   obtain ⟨q196, hF⟩ := hF
   refine .V (ixS rfl rfl tS22 (k := 1) rfl (inb_n q196 q141)) ?_
   refine .V (ld1 (v := iV (gt d ((gt tree t11).yes))) rfl tO3 (cellS (k := 1) rfl (flL_get q196 (j := 0) rfl))) ?_
   refine .V bi0 ?_
   obtain ⟨q197, hF⟩ := hF
   refine .V (ixS rfl rfl tS22 (k := 1) rfl (inb_n q197 q141)) ?_
   obtain ⟨d4, q198⟩ : ∃ y_ : List Int, y_ = (d.set (t11).toNat (wr (1 + (gt d ((gt tree t11).yes))))) := ⟨_, rfl⟩
   replace hF := hF d4 q198
   refine stS (k := 1) (cs' := flL d4) rfl (fun _ => rfl) rfl rfl (fun w => (tO3 w).2) rfl rfl rfl (by rw [← q141]; exact inb_pos q197) (fl_room q197) (by rw [q198]; exact flL_set q197 (wr (1 + (gt d ((gt tree t11).yes))))) ?_
   have q199 : d4.length = (((tree.length : Nat) : Int)).toNat := by rw [q198]; exact List.length_set.trans q141
   refine .KA [Box pn [iV ((gt tree t11).kind), iV ((gt tree t11).op), iV ((gt tree t11).fact), iV ((gt tree t11).yes), iV ((gt tree t11).no)], OwnSl 3 1 a ((((tree.length : Nat) : Int)).toNat) c (flL d4)] ?_
   refine .nil (.blkN (.blkN ?_))
   refine .sel0 [1] (by decide) rfl ?_
   exact .US q193 d4 ⟨hF, q199⟩
  replace hF := hF.2 q195
  refine .seq (.region (.V bi0 ?_))
  refine .V ag0 ?_
  refine .nil (.seqN ?_)
  refine .cond rfl (fun q200 => ?_) (fun q200 => ?_)
  ·replace hF := hF.1 q200
   refine .openL (by kernel_rfl) rfl (by kernel_rfl) (by kernel_rfl) ?_
   refine .V mv0 ?_
   refine .V mv0 ?_
   refine .V mv0 ?_
   refine .V (fa rfl tF102_3) ?_
   refine .V (ld1 rfl tO3 (cellB (off := 3) (k := 0) rfl rfl)) ?_
   obtain ⟨q201, hF⟩ := hF
   refine .V (ixS rfl rfl tS22 (k := 1) rfl (inb_n q201 q141)) ?_
   refine .V (ld1 (v := iV (gt d ((gt tree t11).yes))) rfl tO3 (cellS (k := 1) rfl (flL_get q201 (j := 0) rfl))) ?_
   refine .V mv0 ?_
   refine .V (fa rfl tF102_4) ?_
   refine .V (ld1 rfl tO3 (cellB (off := 4) (k := 0) rfl rfl)) ?_
   obtain ⟨q202, hF⟩ := hF
   refine .V (ixS rfl rfl tS22 (k := 1) rfl (inb_n q202 q141)) ?_
   refine .V (ld1 (v := iV (gt d ((gt tree t11).no))) rfl tO3 (cellS (k := 1) rfl (flL_get q202 (j := 0) rfl))) ?_
   obtain ⟨x, q203⟩ : ∃ y_ : Int, y_ = (if (gt d ((gt tree t11).yes)) < (gt d ((gt tree t11).no)) then (gt d ((gt tree t11).no)) else (gt d ((gt tree t11).yes))) := ⟨_, rfl⟩
   replace hF := hF x q203
   refine .v (v := iV x) (by rw [q203]; exact mx rfl rfl) rfl rfl rfl ?_
   refine .V bi0 ?_
   obtain ⟨q204, hF⟩ := hF
   refine .V (ixS rfl rfl tS22 (k := 1) rfl (inb_n q204 q141)) ?_
   refine .tail ?_
   obtain ⟨d5, q205⟩ : ∃ y_ : List Int, y_ = (d.set (t11).toNat (wr (1 + x))) := ⟨_, rfl⟩
   replace hF := hF d5 q205
   refine stS (k := 1) (cs' := flL d5) rfl (fun _ => rfl) rfl rfl (fun w => (tO3 w).2) rfl rfl rfl (by rw [← q141]; exact inb_pos q204) (fl_room q204) (by rw [q205]; exact flL_set q204 (wr (1 + x))) ?_
   have q206 : d5.length = (((tree.length : Nat) : Int)).toNat := by rw [q205]; exact List.length_set.trans q141
   refine .KA [Box pn [iV ((gt tree t11).kind), iV ((gt tree t11).op), iV ((gt tree t11).fact), iV ((gt tree t11).yes), iV ((gt tree t11).no)], OwnSl 3 1 a ((((tree.length : Nat) : Int)).toNat) c (flL d5)] ?_
   refine .nil (.blkN (.blkN ?_))
   refine .sel0 [1] (by decide) rfl ?_
   exact .US q193 d5 ⟨hF, q206⟩
  replace hF := hF.2 q200
  refine .skip (.blkN (.blkN ?_))
  refine .sel0 [1] (by decide) rfl ?_
  exact .US q193 d ⟨hF, q141⟩
 replace hF := hF.2 q178
 refine .exit (.seqX (.seqX (.blkX (.seqN (.seq (.region (.V mv0 ?_)))))))
 refine .V mv0 ?_
 refine .V (ln rfl tS22.is) ?_
 obtain ⟨x2, q207⟩ : ∃ y_ : Int, y_ = (wr ((((((tree.length : Nat) : Int)).toNat : Nat) : Int) - 1)) := ⟨_, rfl⟩
 replace hF := hF x2 q207
 refine .v (v := iV x2) (by rw [q207]; exact bi rfl rfl rfl) rfl rfl rfl ?_
 obtain ⟨q208, hF⟩ := hF
 refine .V (ixS rfl rfl tS22 (k := 0) rfl (inb_n q208 q141)) ?_
 refine .V (ld1 (v := iV (gt d x2)) rfl tO3 (cellS (k := 0) rfl (flL_get q208 (j := 0) rfl))) ?_
 refine .V ag0 ?_
 refine .nil (.seqN (.ret ?_))
 refine .res1 rfl (rvT rfl) (fun w' S => ⟨(gt d x2), hF, rfl, S.below⟩)
theorem c_deep {h : FH} {w : World} (hs : Sub h w) (tree : List TNode) (atree : Option Addr) (ctree : Nat) (_q1 : RSl h atree tree) (_q2 : tree.length ≤ ctree) (hp : pre_deep tree) : Calls Tryz.prog 74 #[.slice atree tree.length ctree] w fun e w' => e = .returned (iV (sp_deep tree)) ∧ Below w.heap.size w w' :=
 (w_deep hs tree atree ctree _q1 _q2 (fun r => r = sp_deep tree) (ok_deep tree hp)).mono fun _ _ ⟨_, hk, he, hb⟩ => ⟨by rw [he, hk], hb⟩
theorem w_depth {h : FH} {w : World} (hs : Sub h w) (t : Task) (at_ : Option Addr) (ct : Nat) (_q1 : RSl h at_ t.init) (_q2 : t.init.length ≤ ct) (at_2 : Option Addr) (ct2 : Nat) (_q3 : RSl h at_2 t.goal) (_q4 : t.goal.length ≤ ct2) (at_3 : Option Addr) (ct3 : Nat) (_q5 : RSl h at_3 t.ops) (_q6 : t.ops.length ≤ ct3) (sN : List Int) (aSn : Option Addr) (cSn : Nat) (_q7 : RSl h aSn sN) (_q8 : sN.length ≤ cSn) (tree : List TNode) (atree : Option Addr) (ctree : Nat) (_q9 : RSl h atree tree) (_q10 : tree.length ≤ ctree) (K : (Int × Fault) → Prop) (hF : F_depth t sN tree K) : Calls Tryz.prog 37 #[.agg #[iV t.facts, .slice at_ t.init.length ct, .slice at_2 t.goal.length ct2, .slice at_3 t.ops.length ct3], .slice aSn sN.length cSn, .slice atree tree.length ctree] w fun e w' => ∃ r : Int × Fault, K r ∧ e = .returned (.tuple #[iV r.1, .agg #[iV r.2.code, iV r.2.index]]) ∧ Below w.heap.size w w' := by
 refine enter (args := [.agg (tF t at_ ct at_2 ct2 at_3 ct3).toArray, vSl aSn sN cSn, vSl atree tree ctree]) Tryz.func37 rfl Tryz.ntmps37 rfl hs ?_
 refine .seq (.region ?_)
 refine bx (vs := (tF t at_ ct at_2 ct2 at_3 ct3)) rfl rfl rfl (fun pt => ?_)
 refine .V ag0 ?_
 refine al tZ27 rfl (fun pv => ?_)
 refine .nil (.seqN (.seq (.seq (.region (.V (ldA (cs := (tF t at_ ct at_2 ct2 at_3 ct3)) rfl tA25 rfl (cellsB (off := 0) (k := 1) rfl (m := 4) rfl)) ?_)))))
 refine .V mv0 ?_
 refine .V mv0 ?_
 obtain ⟨r2, q11⟩ : ∃ y_ : Fault, y_ = sp_cvalidate t sN tree := ⟨_, rfl⟩
 replace hF := hF r2 q11
 refine .C (cl (v := .agg #[iV r2.code, iV r2.index]) Tryz.call40 rfl rfl (fun w S => (by rw [q11]; exact c_cvalidate S.sub t at_ ct _q1 _q2 at_2 ct2 _q3 _q4 at_3 ct3 _q5 _q6 sN aSn cSn _q7 _q8 tree atree ctree _q9 _q10 ))) ?_
 refine al tZ27 rfl (fun pf => ?_)
 refine st (p := pf) (off := 0) (k := 0) (vs := [iV r2.code, iV r2.index]) rfl rfl rfl (fun w => (tA27 w).2) rfl rfl rfl rfl ?_
 refine .KA [Box pf [iV r2.code, iV r2.index], Box pv [iV 0, iV 0], Box pt (tF t at_ ct at_2 ct2 at_3 ct3)] ?_
 refine .nil (.seqN (.seq (.region (.V (ldA (cs := [iV r2.code, iV r2.index]) rfl tA27 rfl (cellsB (off := 0) (k := 0) rfl (m := 2) rfl)) ?_))))
 refine .V (bld (cs := #[iV 0, iV 0]) (pv := []) tB27 rfl rfl) ?_
 refine .V (ne2 tE27 rfl rfl) ?_
 refine .nil (.seqN ?_)
 refine .cond rfl (fun q13 => ?_) (fun q13 => ?_)
 ·replace hF := hF.1 q13
  refine .seq ?_
  refine .openL (by kernel_rfl) rfl (by kernel_rfl) (by kernel_rfl) ?_
  refine .V (ldA (cs := [iV r2.code, iV r2.index]) rfl tA27 rfl (cellsB (off := 0) (k := 0) rfl (m := 2) rfl)) ?_
  refine .V ag0 ?_
  refine .tail ?_
  refine st (p := pv) (off := 0) (k := 1) (vs := [iV r2.code, iV r2.index]) rfl rfl rfl (fun w => (tA27 w).2) rfl rfl rfl rfl ?_
  refine .KA [Box pf [iV r2.code, iV r2.index], Box pv [iV r2.code, iV r2.index], Box pt (tF t at_ ct at_2 ct2 at_3 ct3)] ?_
  refine .nil (.seqN (.ret (.seqR ?_)))
  refine .res2 rfl (rvT rfl) (rvC rfl tA27 (k := 1) rfl rfl) (fun w' S => ⟨(0, r2), hF, rfl, S.below⟩)
 replace hF := hF.2 q13
 refine .skip (.seqN (.seq (.region (.V mv0 ?_))))
 obtain ⟨q14, hF⟩ := hF
 obtain ⟨r3, q15⟩ : ∃ y_ : Int, y_ = sp_deep tree := ⟨_, rfl⟩
 replace hF := hF r3 q15
 refine .C (cl (v := iV r3) Tryz.call74 rfl rfl (fun w S => (by rw [q15]; exact c_deep S.sub tree atree ctree _q9 _q10 q14))) ?_
 refine .V (bld (cs := #[iV 0, iV 0]) (pv := []) tB27 rfl rfl) ?_
 refine .V ag0 ?_
 refine st (p := pv) (off := 0) (k := 1) (vs := [iV 0, iV 0]) rfl rfl rfl (fun w => (tA27 w).2) rfl rfl rfl rfl ?_
 refine .KA [Box pf [iV r2.code, iV r2.index], Box pv [iV 0, iV 0], Box pt (tF t at_ ct at_2 ct2 at_3 ct3)] ?_
 refine .nil (.seqN (.ret ?_))
 refine .res2 rfl (rvT rfl) (rvC rfl tA27 (k := 1) rfl rfl) (fun w' S => ⟨(r3, (⟨0, 0⟩ : Fault)), hF, rfl, S.below⟩)
theorem c_depth {h : FH} {w : World} (hs : Sub h w) (t : Task) (at_ : Option Addr) (ct : Nat) (_q1 : RSl h at_ t.init) (_q2 : t.init.length ≤ ct) (at_2 : Option Addr) (ct2 : Nat) (_q3 : RSl h at_2 t.goal) (_q4 : t.goal.length ≤ ct2) (at_3 : Option Addr) (ct3 : Nat) (_q5 : RSl h at_3 t.ops) (_q6 : t.ops.length ≤ ct3) (sN : List Int) (aSn : Option Addr) (cSn : Nat) (_q7 : RSl h aSn sN) (_q8 : sN.length ≤ cSn) (tree : List TNode) (atree : Option Addr) (ctree : Nat) (_q9 : RSl h atree tree) (_q10 : tree.length ≤ ctree) : Calls Tryz.prog 37 #[.agg #[iV t.facts, .slice at_ t.init.length ct, .slice at_2 t.goal.length ct2, .slice at_3 t.ops.length ct3], .slice aSn sN.length cSn, .slice atree tree.length ctree] w fun e w' => e = .returned (.tuple #[iV (sp_depth t sN tree).1, .agg #[iV (sp_depth t sN tree).2.code, iV (sp_depth t sN tree).2.index]]) ∧ Below w.heap.size w w' :=
 (w_depth hs t at_ ct _q1 _q2 at_2 ct2 _q3 _q4 at_3 ct3 _q5 _q6 sN aSn cSn _q7 _q8 tree atree ctree _q9 _q10 (fun r => r = sp_depth t sN tree) (ok_depth t sN tree)).mono fun _ _ ⟨_, hk, he, hb⟩ => ⟨by rw [he, hk], hb⟩
theorem w_split {h : FH} {w : World} (hs : Sub h w) (worlds : List (List Int)) (aworlds : Option Addr) (cworlds : Nat) (_q1 : RSl h aworlds worlds) (_q2 : worlds.length ≤ cworlds) (fact : Int) (K : (List (List Int) × List (List Int)) → Prop) (hF : F_split worlds fact K) : Calls Tryz.prog 97 #[.slice aworlds worlds.length cworlds, iV fact] w fun e w' => ∃ (r : List (List Int) × List (List Int)) (z : Option Addr × Nat × Option Addr × Nat) (h1 : FH), K r ∧ e = .returned (.tuple #[.slice z.1 r.1.length z.2.1, .slice z.2.2.1 r.2.length z.2.2.2]) ∧ FH.le h h1 ∧ (RSl h1 z.1 r.1 ∧ r.1.length ≤ z.2.1 ∧ RSl h1 z.2.2.1 r.2 ∧ r.2.length ≤ z.2.2.2) ∧ SH (Kp.all w h) h1 w' [] := by
 refine enter (args := [vSl aworlds worlds cworlds, iV fact]) Tryz.func97 rfl Tryz.ntmps97 rfl hs ?_
 refine .seq (.region (.V ag0 ?_))
 refine .V ag0 ?_
 refine .nil (.seqN (.seq (.seq (.region (.V mv0 ?_)))))
 refine .V (ln rfl tS35.is) ?_
 refine .V mv0 ?_
 refine .nil (.seqN (.block ?_))
 refine .nilSl 22 1 ?_
 refine .KA [OwnSl 22 1 none (([] : List (List Int)).length) 0 []] ?_
 refine .nilSl 22 1 ?_
 refine .KA [OwnSl 22 1 none (([] : List (List Int)).length) 0 [], OwnSl 22 1 none (([] : List (List Int)).length) 0 []] ?_
 refine .sel0 [1, 0] (by decide) rfl ?_
 obtain ⟨I1, μ1, q201, q202⟩ := hF
 refine .loop' (σ := Int × List (List Int) × List (List Int) × Option Addr × Nat × List Value × Option Addr × Nat × List Value) (fun z => I1 z.1 z.2.1 z.2.2.1 ∧ RepL h z.2.1 z.2.2.2.2.2.1 ∧ RepL h z.2.2.1 z.2.2.2.2.2.2.2.2) (fun z => μ1 z.1 z.2.1 z.2.2.1) (fun z => [(1, iV fact), (4, vSl z.2.2.2.1 z.2.1 z.2.2.2.2.1), (5, vSl z.2.2.2.2.2.2.1 z.2.2.1 z.2.2.2.2.2.2.2.1), (8, vSl aworlds worlds cworlds), (9, iV ((worlds.length : Nat) : Int)), (10, iV z.1)]) (fun z => [OwnSl 22 1 z.2.2.2.1 z.2.1.length z.2.2.2.2.1 z.2.2.2.2.2.1, OwnSl 22 1 z.2.2.2.2.2.2.1 z.2.2.1.length z.2.2.2.2.2.2.2.1 z.2.2.2.2.2.2.2.2]) (fun _ => h) (0, ([] : List (List Int)), ([] : List (List Int)), none, 0, [], none, 0, []) ⟨q201, (show RepL h ([] : List (List Int)) [] from rfl), (show RepL h ([] : List (List Int)) [] from rfl)⟩ sb rfl (FH.le_refl _) ?_
 rintro ⟨t10, yes, no, ayes, cyes, csyes, ano, cno, csno⟩ ⟨q201, q161, q162⟩
 have hF := q202 t10 yes no q201
 show J _ _ _ _ _ [(1, iV fact), (4, vSl ayes yes cyes), (5, vSl ano no cno), (8, vSl aworlds worlds cworlds), (9, iV ((worlds.length : Nat) : Int)), (10, iV t10)] [OwnSl 22 1 ayes yes.length cyes csyes, OwnSl 22 1 ano no.length cno csno] h
 refine .seq (.region (.V bi0 ?_))
 refine .nil (.seqN (.seq ?_))
 refine .cond rfl (fun q205 => ?_) (fun q205 => ?_)
 ·replace hF := hF.1 q205
  refine .skip (.seqN ?_)
  refine .share (σ := List (List Int) × List (List Int) × Option Addr × Nat × List Value × Option Addr × Nat × List Value) (fun z => F_split_J1 yes no t10 I1 μ1 z.1 z.2.1 ∧ RepL h z.1 z.2.2.2.2.1 ∧ RepL h z.2.1 z.2.2.2.2.2.2.2) (fun z => [(1, iV fact), (4, vSl z.2.2.1 z.1 z.2.2.2.1), (5, vSl z.2.2.2.2.2.1 z.2.1 z.2.2.2.2.2.2.1), (8, vSl aworlds worlds cworlds), (9, iV ((worlds.length : Nat) : Int)), (10, iV t10)]) (fun z => [OwnSl 22 1 z.2.2.1 z.1.length z.2.2.2.1 z.2.2.2.2.1, OwnSl 22 1 z.2.2.2.2.2.1 z.2.1.length z.2.2.2.2.2.2.1 z.2.2.2.2.2.2.2]) (fun _ => h) ?_ (fun q223 => ?_)
  ·rintro ⟨yes3, no3, ayes3, cyes3, csyes3, ano3, cno3, csno3⟩ ⟨hF, q221, q222⟩
   show J _ _ _ _ _ [(1, iV fact), (4, vSl ayes3 yes3 cyes3), (5, vSl ano3 no3 cno3), (8, vSl aworlds worlds cworlds), (9, iV ((worlds.length : Nat) : Int)), (10, iV t10)] [OwnSl 22 1 ayes3 yes3.length cyes3 csyes3, OwnSl 22 1 ano3 no3.length cno3 csno3] h
   refine .region (.V bi0 ?_)
   refine .V mv0 ?_
   refine .nil ?_
   exact .RO (wr (t10 + 1), yes3, no3, ayes3, cyes3, csyes3, ano3, cno3, csno3) ⟨hF.1, q221, q222⟩ hF.2
  refine .block (.seq (.region ?_))
  obtain ⟨q224, hF⟩ := hF
  refine .V (ix rfl rfl tS35 (_q1.ne (by decide) (inb_pos q224)) q224) ?_
  obtain ⟨_, ⟨a, c, rfl, q225, q226⟩, q227⟩ := _q1.elem q224
  refine .V (ld1 (v := .slice a ((gt worlds t10).length) c) rfl tO22 (cellH (q227 (by decide) 0 _ rfl))) ?_
  refine .V ag0 ?_
  refine .nil (.seqN (.seq (.region (.V mv0 ?_))))
  refine .V mv0 ?_
  obtain ⟨q228, hF⟩ := hF
  obtain ⟨r2, q229⟩ : ∃ y_ : Bool, y_ = sp_contains (gt worlds t10) fact := ⟨_, rfl⟩
  replace hF := hF r2 q229
  refine .C (cl (v := .bool r2) Tryz.call101 rfl rfl (fun w S => (by rw [q229]; exact c_contains S.sub (gt worlds t10) a c q226 q225 fact q228))) ?_
  refine .nil (.seqN ?_)
  refine .cond rfl (fun q230 => ?_) (fun q230 => ?_)
  ·replace hF := hF.1 q230
   refine .region (.V mv0 ?_)
   refine .V mv0 ?_
   refine bs2 (cs := #[.slice a ((gt worlds t10).length) c]) (pv := [(0, .slice a ((gt worlds t10).length) c)]) tS35 rfl rfl (by decide) (by decide) rfl rfl rfl (fun a2 _ => ?_)
   refine .KA [OwnSl 22 1 a2 (([(gt worlds t10)] : List (List Int)).length) 1 [.slice a ((gt worlds t10).length) c], OwnSl 22 1 ayes yes.length cyes csyes, OwnSl 22 1 ano no.length cno csno] ?_
   obtain ⟨q232, hF⟩ := hF
   have q233 : yes.length + ([(gt worlds t10)] : List (List Int)).length = ((yes ++ ([(gt worlds t10)] : List (List Int)))).length := len_app rfl rfl
   have q234 := RepL.append q161 (show RepL h ([(gt worlds t10)] : List (List Int)) [.slice a ((gt worlds t10).length) c] from ⟨[.slice a ((gt worlds t10).length) c], _, rfl, ⟨a, c, rfl, q225, q226⟩, rfl⟩)
   refine app (k := 1) (news := [.slice a ((gt worlds t10).length) c]) (cs' := (csyes ++ [.slice a ((gt worlds t10).length) c])) (nm := ((yes ++ ([(gt worlds t10)] : List (List Int)))).length) tS35 rfl (by decide) rfl rfl rfl (RepL.len (show RepL h ([(gt worlds t10)] : List (List Int)) [.slice a ((gt worlds t10).length) c] from ⟨[.slice a ((gt worlds t10).length) c], _, rfl, ⟨a, c, rfl, q225, q226⟩, rfl⟩)) (srcS (k := 0) rfl) (RepL.one (show RepL h ([(gt worlds t10)] : List (List Int)) [.slice a ((gt worlds t10).length) c] from ⟨[.slice a ((gt worlds t10).length) c], _, rfl, ⟨a, c, rfl, q225, q226⟩, rfl⟩)) (room_of q233 q232).1 (room_of q233 q232).2 q233 rfl rfl (fun a3 c2 => ?_)
   refine .KA [OwnSl 22 1 a2 (([(gt worlds t10)] : List (List Int)).length) 1 [.slice a ((gt worlds t10).length) c], OwnSl 22 1 a3 ((yes ++ ([(gt worlds t10)] : List (List Int))).length) c2 (csyes ++ [.slice a ((gt worlds t10).length) c]), OwnSl 22 1 ano no.length cno csno] ?_
   refine .V ag0 ?_
   refine .nil (.blkN ?_)
   refine .sel0 [1, 2] (by decide) rfl ?_
   exact .US q223 ((yes ++ ([(gt worlds t10)] : List (List Int))), no, a3, c2, (csyes ++ [.slice a ((gt worlds t10).length) c]), ano, cno, csno) ⟨hF, q234, q162⟩
  replace hF := hF.2 q230
  refine .region (.V mv0 ?_)
  refine .V mv0 ?_
  refine bs2 (cs := #[.slice a ((gt worlds t10).length) c]) (pv := [(0, .slice a ((gt worlds t10).length) c)]) tS35 rfl rfl (by decide) (by decide) rfl rfl rfl (fun a4 _ => ?_)
  refine .KA [OwnSl 22 1 a4 (([(gt worlds t10)] : List (List Int)).length) 1 [.slice a ((gt worlds t10).length) c], OwnSl 22 1 ayes yes.length cyes csyes, OwnSl 22 1 ano no.length cno csno] ?_
  obtain ⟨q236, hF⟩ := hF
  have q237 : no.length + ([(gt worlds t10)] : List (List Int)).length = ((no ++ ([(gt worlds t10)] : List (List Int)))).length := len_app rfl rfl
  have q238 := RepL.append q162 (show RepL h ([(gt worlds t10)] : List (List Int)) [.slice a ((gt worlds t10).length) c] from ⟨[.slice a ((gt worlds t10).length) c], _, rfl, ⟨a, c, rfl, q225, q226⟩, rfl⟩)
  refine app (k := 2) (news := [.slice a ((gt worlds t10).length) c]) (cs' := (csno ++ [.slice a ((gt worlds t10).length) c])) (nm := ((no ++ ([(gt worlds t10)] : List (List Int)))).length) tS35 rfl (by decide) rfl rfl rfl (RepL.len (show RepL h ([(gt worlds t10)] : List (List Int)) [.slice a ((gt worlds t10).length) c] from ⟨[.slice a ((gt worlds t10).length) c], _, rfl, ⟨a, c, rfl, q225, q226⟩, rfl⟩)) (srcS (k := 0) rfl) (RepL.one (show RepL h ([(gt worlds t10)] : List (List Int)) [.slice a ((gt worlds t10).length) c] from ⟨[.slice a ((gt worlds t10).length) c], _, rfl, ⟨a, c, rfl, q225, q226⟩, rfl⟩)) (room_of q237 q236).1 (room_of q237 q236).2 q237 rfl rfl (fun a5 c3 => ?_)
  refine .KA [OwnSl 22 1 a4 (([(gt worlds t10)] : List (List Int)).length) 1 [.slice a ((gt worlds t10).length) c], OwnSl 22 1 ayes yes.length cyes csyes, OwnSl 22 1 a5 ((no ++ ([(gt worlds t10)] : List (List Int))).length) c3 (csno ++ [.slice a ((gt worlds t10).length) c])] ?_
  refine .V ag0 ?_
  refine .nil (.blkN ?_)
  refine .sel0 [1, 2] (by decide) rfl ?_
  exact .US q223 (yes, (no ++ ([(gt worlds t10)] : List (List Int))), ayes, cyes, csyes, a5, c3, (csno ++ [.slice a ((gt worlds t10).length) c])) ⟨hF, q161, q238⟩
 replace hF := hF.2 q205
 refine .exit (.seqX (.seqX (.blkX (.seqN (.seq (.region (.V mv0 ?_)))))))
 refine .V mv0 ?_
 refine .V ag0 ?_
 refine .V ag0 ?_
 refine .nil (.seqN ?_)
 refine .freezeL (k := 1) rfl (fun h1 le1 q240 q239 => ?_)
 refine .KA [OwnSl 22 1 ayes yes.length cyes csyes, tru] ?_
 refine .freezeL (k := 0) rfl (fun h2 le2 q242 q241 => ?_)
 refine .KA [tru, tru] ?_
 refine .ret ?_
 refine .res2 rfl (rvT rfl) (rvT rfl) (fun w' S => ⟨(yes, no), (ayes, cyes, ano, cno), h2, hF, rfl, (FH.le_trans (le1) (le2)), ⟨(show RSl h2 ayes yes from ⟨_, q161.mono (FH.le_trans (le1) (le2)), q241⟩), (q242), ((show RSl h1 ano no from ⟨_, q162.mono (le1), q239⟩).mono (le2)), (q240)⟩, S.none⟩)
theorem c_split {h : FH} {w : World} (hs : Sub h w) (worlds : List (List Int)) (aworlds : Option Addr) (cworlds : Nat) (_q1 : RSl h aworlds worlds) (_q2 : worlds.length ≤ cworlds) (fact : Int) (hp : pre_split worlds fact) : Calls Tryz.prog 97 #[.slice aworlds worlds.length cworlds, iV fact] w fun e w' => ∃ (z : Option Addr × Nat × Option Addr × Nat) (h1 : FH), e = .returned (.tuple #[.slice z.1 (sp_split worlds fact).1.length z.2.1, .slice z.2.2.1 (sp_split worlds fact).2.length z.2.2.2]) ∧ FH.le h h1 ∧ (RSl h1 z.1 (sp_split worlds fact).1 ∧ (sp_split worlds fact).1.length ≤ z.2.1 ∧ RSl h1 z.2.2.1 (sp_split worlds fact).2 ∧ (sp_split worlds fact).2.length ≤ z.2.2.2) ∧ SH (Kp.all w h) h1 w' [] :=
 (w_split hs worlds aworlds cworlds _q1 _q2 fact (fun r => r = sp_split worlds fact) (ok_split worlds fact hp)).mono fun _ _ ⟨r, z, h1, hk, he, hl, hf, hS⟩ => by subst hk; exact ⟨z, h1, he, hl, hf, hS⟩
end Go.Proofs.YtojoehfldbimpaaGreatDoor.Pl

namespace Go.Proofs.YtojoehfldbimpaaGreatDoor.Pl
open Go Go.RowKit
set_option maxHeartbeats 8000000 in
theorem w_within {h : FH} {w : World} (hs : Sub h w) (t : Task) (at_ : Option Addr) (ct : Nat) (_q1 : RSl h at_ t.init) (_q2 : t.init.length ≤ ct) (at_2 : Option Addr) (ct2 : Nat) (_q3 : RSl h at_2 t.goal) (_q4 : t.goal.length ≤ ct2) (at_3 : Option Addr) (ct3 : Nat) (_q5 : RSl h at_3 t.ops) (_q6 : t.ops.length ≤ ct3) (sN : List Int) (aSn : Option Addr) (cSn : Nat) (_q7 : RSl h aSn sN) (_q8 : sN.length ≤ cSn) (l : List (List Int)) (al2 : Option Addr) (cl2 : Nat) (_q9 : RSl h al2 l) (_q10 : l.length ≤ cl2) (depth : Int) (mM : Nat) (hm : mu_within t sN l depth = mM) (ih : ∀ {h : FH} {w : World} (_ : Sub h w) (t : Task) (at_ : Option Addr) (ct : Nat) (_ : RSl h at_ t.init) (_ : t.init.length ≤ ct) (at_2 : Option Addr) (ct2 : Nat) (_ : RSl h at_2 t.goal) (_ : t.goal.length ≤ ct2) (at_3 : Option Addr) (ct3 : Nat) (_ : RSl h at_3 t.ops) (_ : t.ops.length ≤ ct3) (sN : List Int) (aSn : Option Addr) (cSn : Nat) (_ : RSl h aSn sN) (_ : sN.length ≤ cSn) (l : List (List Int)) (al2 : Option Addr) (cl2 : Nat) (_ : RSl h al2 l) (_ : l.length ≤ cl2) (depth : Int) (_ : mu_within t sN l depth < mM) (_ : pre_within t sN l depth), Calls Tryz.prog 34 #[.agg #[iV t.facts, .slice at_ t.init.length ct, .slice at_2 t.goal.length ct2, .slice at_3 t.ops.length ct3], .slice aSn sN.length cSn, .slice al2 l.length cl2, iV depth] w fun e w' => e = .returned (.bool (sp_within t sN l depth)) ∧ Below w.heap.size w w') (K : Bool → Prop) (hF : F_within t sN l depth K) : Calls Tryz.prog 34 #[.agg #[iV t.facts, .slice at_ t.init.length ct, .slice at_2 t.goal.length ct2, .slice at_3 t.ops.length ct3], .slice aSn sN.length cSn, .slice al2 l.length cl2, iV depth] w fun e w' => ∃ r : Bool, K r ∧ e = .returned (.bool r) ∧ Below w.heap.size w w' := by
 refine enter (args := [.agg (tF t at_ ct at_2 ct2 at_3 ct3).toArray, vSl aSn sN cSn, vSl al2 l cl2, iV depth]) Tryz.func34 rfl Tryz.ntmps34 rfl hs ?_
 refine .seq (.region ?_)
 refine bx (vs := (tF t at_ ct at_2 ct2 at_3 ct3)) rfl rfl rfl (fun pt => ?_)
 refine .V ag0 ?_
 refine .nil (.seqN (.seq (.seq (.region (.V mv0 ?_)))))
 refine .V (fa rfl tF25_2) ?_
 refine .V (ld1 rfl tO22 (cellB (off := 2) (k := 0) rfl rfl)) ?_
 obtain ⟨q11, hF⟩ := hF
 obtain ⟨r2, q12⟩ : ∃ y_ : Bool, y_ = sp_allHold l t.goal := ⟨_, rfl⟩
 replace hF := hF r2 q12
 refine .C (cl (v := .bool r2) Tryz.call27 rfl rfl (fun w S => (by rw [q12]; exact c_allHold S.sub l al2 cl2 _q9 _q10 t.goal at_2 ct2 _q3 _q4 q11))) ?_
 refine .nil (.seqN ?_)
 refine .cond rfl (fun q14 => ?_) (fun q14 => ?_)
 ·replace hF := hF.1 q14
  refine .seq (.region (.V ag0 ?_))
  refine .nil (.seqN (.ret (.seqR ?_)))
  refine .res1 rfl (rvT rfl) (fun w' S => ⟨true, hF, rfl, S.below⟩)
 replace hF := hF.2 q14
 refine .skip (.seqN (.seq (.seq (.region (.V mv0 ?_)))))
 refine .V bi0 ?_
 refine .nil (.seqN ?_)
 refine .cond rfl (fun q16 => ?_) (fun q16 => ?_)
 ·replace hF := hF.1 q16
  refine .seq (.region (.V ag0 ?_))
  refine .nil (.seqN (.ret (.seqR ?_)))
  refine .res1 rfl (rvT rfl) (fun w' S => ⟨false, hF, rfl, S.below⟩)
 replace hF := hF.2 q16
 refine .skip (.seqN (.seq (.seq (.region (.V ag0 ?_)))))
 refine .nil (.seqN (.block ?_))
 obtain ⟨I1, μ1, q599, q600⟩ := hF
 refine .loop' (σ := Int) (fun z => I1 z) (fun z => μ1 z) (fun z => [(1, vSl aSn sN cSn), (2, vSl al2 l cl2), (3, iV depth), (4, .pointer (some pt)), (9, iV z)]) (fun _ => [Box pt (tF t at_ ct at_2 ct2 at_3 ct3)]) (fun _ => h) 0 q599 sb rfl (FH.le_refl _) ?_
 rintro op q599
 have hF := q600 op q599
 show J _ _ _ _ _ [(1, vSl aSn sN cSn), (2, vSl al2 l cl2), (3, iV depth), (4, .pointer (some pt)), (9, iV op)] [Box pt (tF t at_ ct at_2 ct2 at_3 ct3)] h
 refine .seq (.seq (.region (.V mv0 ?_)))
 refine .V (fa rfl tF25_3) ?_
 refine .V (ld1 rfl tO23 (cellB (off := 3) (k := 0) rfl rfl)) ?_
 refine .V (ln rfl tS23.is) ?_
 refine .V bi0 ?_
 refine .nil (.seqN ?_)
 refine .cond rfl (fun q602 => ?_) (fun q602 => ?_)
 ·replace hF := hF.1 q602
  refine .skip (.seqN (.seq (.block ?_)))
  refine .share (σ := Bool) (fun z => F_within_J1 K z op I1 μ1) (fun z => [(1, vSl aSn sN cSn), (2, vSl al2 l cl2), (3, iV depth), (4, .pointer (some pt)), (9, iV op), (44, .bool z)]) (fun _ => [Box pt (tF t at_ ct at_2 ct2 at_3 ct3)]) (fun _ => h) ?_ (fun q697 => ?_)
  ·rintro t44 hF
   show J _ _ _ _ _ [(1, vSl aSn sN cSn), (2, vSl al2 l cl2), (3, iV depth), (4, .pointer (some pt)), (9, iV op), (44, .bool t44)] [Box pt (tF t at_ ct at_2 ct2 at_3 ct3)] h
   refine .cond rfl (fun q698 => ?_) (fun q698 => ?_)
   ·replace hF := hF.1 q698
    refine .seq (.region (.V ag0 ?_))
    refine .nil (.seqN (.ret (.blkR (.seqR (.seqR (.blkR (.seqR ?_)))))))
    refine .res1 rfl (rvT rfl) (fun w' S => ⟨true, hF, rfl, S.below⟩)
   replace hF := hF.2 q698
   refine .skip (.blkN (.seqN (.region (.V mv0 ?_))))
   refine .V bi0 ?_
   refine .V ag0 ?_
   refine .nil ?_
   exact .RO (wr (op + 1)) hF.1 hF.2
  obtain ⟨q699, hF⟩ := hF
  obtain ⟨_, ⟨a, c, a2, c2, a3, c3, rfl, ⟨q700, q701⟩, ⟨q702, q703⟩, q704, q705⟩, q706⟩ := _q5.elem q699
  obtain ⟨q707, hF⟩ := hF
  obtain ⟨r3, q708⟩ : ∃ y_ : Bool, y_ = sp_allHold l ((gt t.ops op).pre) := ⟨_, rfl⟩
  replace hF := hF r3 q708
  rcases Bool.eq_false_or_eq_true (r3) with q709 | q709
  ·replace hF := hF.1 q709
   refine .openA (s0 := [(1, vSl aSn sN cSn), (2, vSl al2 l cl2), (3, iV depth), (4, .pointer (some pt)), (9, iV op)]) [0, 1, 2, 3, 4, 5, 6, 7, 8, 9, 10, 11, 12, 13, 15, 16] [(0, vSl al2 l cl2), (1, .pointer (some (pt.add 3))), (2, vSl at_3 t.ops ct3), (3, iV op), (4, .pointer (some (ead at_3 (op.toNat * 4)))), (5, .pointer (some ((ead at_3 (op.toNat * 4)).add 0))), (6, .slice a ((gt t.ops op).pre.length) c), (7, .bool r3), (8, .bool r3), (9, .agg (tF t at_ ct at_2 ct2 at_3 ct3).toArray), (10, vSl aSn sN cSn), (11, .agg (tF t at_ ct at_2 ct2 at_3 ct3).toArray), (12, vSl al2 l cl2), (13, iV op), (15, iV depth), (16, iV (wr (depth - 1)))] (by kernel_rfl) sb [1, 2, 3, 4, 9] [] rfl (by kernel_rfl) ?_
   refine .step [14] 14 rfl (by kernel_rfl) (by kernel_rfl) (.v [] rfl rfl rfl rfl rfl rfl (fun _ => mv rfl) (.v [] rfl rfl rfl rfl rfl rfl (fun _ => fa rfl tF25_3) (.v [(27, .pointer (some (pt.add 3)))] rfl rfl rfl rfl rfl rfl (fun _ => ld1 rfl tO23 (cellB (off := 3) (k := 0) rfl rfl)) (.v [] rfl rfl rfl rfl rfl rfl (fun _ => mv rfl) (.v [(28, vSl at_3 t.ops ct3), (29, iV op)] rfl rfl rfl rfl rfl rfl (fun _ => ix rfl rfl tS23 (_q5.ne (by decide) (inb_pos q699)) q699) (.v [(30, .pointer (some (ead at_3 (op.toNat * 4))))] rfl rfl rfl rfl rfl rfl (fun _ => fa rfl tF54_0) (.v [(31, .pointer (some ((ead at_3 (op.toNat * 4)).add 0)))] rfl rfl rfl rfl rfl rfl (fun _ => ld1 (v := .slice a ((gt t.ops op).pre.length) c) rfl tO22 (cellH (q706 (by decide) 0 _ rfl))) (.c [(26, vSl al2 l cl2), (32, .slice a ((gt t.ops op).pre.length) c)] rfl rfl rfl rfl rfl rfl (fun _ => cl (v := .bool r3) Tryz.call27 rfl rfl (fun w S => (by rw [q708]; exact c_allHold S.sub l al2 cl2 _q9 _q10 ((gt t.ops op).pre) a c q701 q700 q707))) (.v [(33, .bool r3), (33, .bool r3)] rfl rfl rfl rfl rfl rfl (fun _ => mv rfl) (.gv [(34, .bool r3)] rfl rfl rfl rfl q709 rfl rfl rfl rfl (fun _ => ldA (cs := (tF t at_ ct at_2 ct2 at_3 ct3)) rfl tA25 rfl (cellsB (off := 0) (k := 0) rfl (m := 4) rfl)) (.gv [(34, .bool r3)] rfl rfl rfl rfl q709 rfl rfl rfl rfl (fun _ => mv rfl) (.gv [(34, .bool r3)] rfl rfl rfl rfl q709 rfl rfl rfl rfl (fun _ => ldA (cs := (tF t at_ ct at_2 ct2 at_3 ct3)) rfl tA25 rfl (cellsB (off := 0) (k := 0) rfl (m := 4) rfl)) (.gv [(34, .bool r3)] rfl rfl rfl rfl q709 rfl rfl rfl rfl (fun _ => mv rfl) (.gv [(34, .bool r3)] rfl rfl rfl rfl q709 rfl rfl rfl rfl (fun _ => mv rfl) (.gv [(34, .bool r3)] rfl rfl rfl rfl q709 rfl rfl rfl rfl (fun _ => mv rfl) (.gv [(41, iV depth), (34, .bool r3)] rfl rfl rfl rfl q709 rfl rfl rfl rfl (fun _ => bi rfl rfl rfl) (.nil))))))))))))))))) (.cons [(37, .agg (tF t at_ ct at_2 ct2 at_3 ct3).toArray), (38, vSl al2 l cl2), (39, iV op), (34, .bool r3), (34, .bool r3)] rfl rfl (fun sL hL => ?_) (.nil))
   obtain ⟨q710, hF⟩ := hF
   obtain ⟨r4, q711⟩ : ∃ y_ : List (List Int), y_ = sp_afterAll t l op := ⟨_, rfl⟩
   replace hF := hF r4 q711
   refine .gR rfl rfl rfl q709 ?_
   refine clR (α := Option Addr × Nat) (Φ := fun h1 z => RSl h1 z.1 r4 ∧ r4.length ≤ z.2) (V := fun z => vSl z.1 r4 z.2) Tryz.call28 rfl rfl (fun w S => (by rw [q711]; exact c_afterAll S.sub t at_ ct _q1 _q2 at_2 ct2 _q3 _q4 at_3 ct3 _q5 _q6 l al2 cl2 _q9 _q10 op q710)) rfl (fun z h36 le36 hz => ?_)
   obtain ⟨a4, c4⟩ := z
   obtain ⟨q712, q713⟩ := hz
   refine .nil ?_
   obtain ⟨q714, q715, hF⟩ := hF
   obtain ⟨r5, q716⟩ : ∃ y_ : Bool, y_ = sp_within t sN r4 (wr (depth - 1)) := ⟨_, rfl⟩
   replace hF := hF r5 q716
   refine .ja (M := [11, 12, 13, 8, 7, 0, 6, 5, 4, 2, 3, 1]) (C' := [9, 10, 15, 16, 17, 18]) (pre := [(14, vSl a4 r4 c4), (17, .bool r5), (18, .bool r5)]) [(1, vSl aSn sN cSn), (2, vSl al2 l cl2), (3, iV depth), (4, .pointer (some pt)), (9, iV op)] [1, 2, 3, 4, 9] hL rfl rfl rfl rfl rfl sb rfl rfl (by kernel_rfl) ?_
   refine .last [(26, vSl al2 l cl2), (27, .pointer (some (pt.add 3))), (28, vSl at_3 t.ops ct3), (29, iV op), (30, .pointer (some (ead at_3 (op.toNat * 4)))), (31, .pointer (some ((ead at_3 (op.toNat * 4)).add 0))), (32, .slice a ((gt t.ops op).pre.length) c), (33, .bool r3), (34, .bool r3), (35, .agg (tF t at_ ct at_2 ct2 at_3 ct3).toArray), (36, vSl aSn sN cSn), (37, .agg (tF t at_ ct at_2 ct2 at_3 ct3).toArray), (38, vSl al2 l cl2), (39, iV op), (40, vSl a4 r4 c4), (41, iV depth), (42, iV (wr (depth - 1))), (43, .bool r5), (44, .bool r5)] rfl (by kernel_rfl) (.gv [(34, .bool r3)] rfl rfl rfl rfl q709 rfl rfl rfl rfl (fun _ => ldA (cs := (tF t at_ ct at_2 ct2 at_3 ct3)) rfl tA25 rfl (cellsB (off := 0) (k := 0) rfl (m := 4) rfl)) (.gv [(34, .bool r3)] rfl rfl rfl rfl q709 rfl rfl rfl rfl (fun _ => mv rfl) (.gv [(34, .bool r3)] rfl rfl rfl rfl q709 rfl rfl rfl rfl (fun _ => mv rfl) (.gv [(41, iV depth), (34, .bool r3)] rfl rfl rfl rfl q709 rfl rfl rfl rfl (fun _ => bi rfl rfl rfl) (.gc [(35, .agg (tF t at_ ct at_2 ct2 at_3 ct3).toArray), (36, vSl aSn sN cSn), (40, vSl a4 r4 c4), (42, iV (wr (depth - 1))), (40, vSl a4 r4 c4), (34, .bool r3)] rfl rfl rfl rfl q709 rfl rfl rfl rfl (fun _ => cl (v := .bool r5) Tryz.call34 rfl rfl (fun w S => (by rw [q716]; exact ih S.sub t at_ ct (_q1.mono (le36)) _q2 at_2 ct2 (_q3.mono (le36)) _q4 at_3 ct3 (_q5.mono (le36)) _q6 sN aSn cSn (_q7.mono (le36)) _q8 r4 a4 c4 q712 q713 (wr (depth - 1)) (by rw [← hm]; exact q715) q714))) (.v [(34, .bool r3), (43, .bool r5)] rfl rfl rfl rfl rfl rfl (fun _ => pkT rfl q709 rfl) (.nil))))))) rfl ?_
   exact .use q697 r5 hF sb rfl (le36)
  replace hF := hF.2 q709
  refine .openA (s0 := [(1, vSl aSn sN cSn), (2, vSl al2 l cl2), (3, iV depth), (4, .pointer (some pt)), (9, iV op)]) [0, 1, 2, 3, 4, 5, 6, 7, 8, 9, 10, 11, 12, 13, 14, 15, 16, 17, 18] [(0, vSl al2 l cl2), (1, .pointer (some (pt.add 3))), (2, vSl at_3 t.ops ct3), (3, iV op), (4, .pointer (some (ead at_3 (op.toNat * 4)))), (5, .pointer (some ((ead at_3 (op.toNat * 4)).add 0))), (6, .slice a ((gt t.ops op).pre.length) c), (7, .bool r3), (8, .bool r3), (9, undef), (10, undef), (11, undef), (12, undef), (13, undef), (14, undef), (15, undef), (16, undef), (17, undef), (18, .bool false)] (by kernel_rfl) sb [1, 2, 3, 4, 9] [] rfl (by kernel_rfl) ?_
  refine .last [(26, vSl al2 l cl2), (27, .pointer (some (pt.add 3))), (28, vSl at_3 t.ops ct3), (29, iV op), (30, .pointer (some (ead at_3 (op.toNat * 4)))), (31, .pointer (some ((ead at_3 (op.toNat * 4)).add 0))), (32, .slice a ((gt t.ops op).pre.length) c), (33, .bool r3), (34, .bool r3), (35, undef), (36, undef), (37, undef), (38, undef), (39, undef), (40, undef), (41, undef), (42, undef), (43, undef), (44, .bool false)] rfl (by kernel_rfl) (.v [] rfl rfl rfl rfl rfl rfl (fun _ => mv rfl) (.v [] rfl rfl rfl rfl rfl rfl (fun _ => fa rfl tF25_3) (.v [(27, .pointer (some (pt.add 3)))] rfl rfl rfl rfl rfl rfl (fun _ => ld1 rfl tO23 (cellB (off := 3) (k := 0) rfl rfl)) (.v [] rfl rfl rfl rfl rfl rfl (fun _ => mv rfl) (.v [(28, vSl at_3 t.ops ct3), (29, iV op)] rfl rfl rfl rfl rfl rfl (fun _ => ix rfl rfl tS23 (_q5.ne (by decide) (inb_pos q699)) q699) (.v [(30, .pointer (some (ead at_3 (op.toNat * 4))))] rfl rfl rfl rfl rfl rfl (fun _ => fa rfl tF54_0) (.v [(31, .pointer (some ((ead at_3 (op.toNat * 4)).add 0)))] rfl rfl rfl rfl rfl rfl (fun _ => ld1 (v := .slice a ((gt t.ops op).pre.length) c) rfl tO22 (cellH (q706 (by decide) 0 _ rfl))) (.c [(26, vSl al2 l cl2), (32, .slice a ((gt t.ops op).pre.length) c)] rfl rfl rfl rfl rfl rfl (fun _ => cl (v := .bool r3) Tryz.call27 rfl rfl (fun w S => (by rw [q708]; exact c_allHold S.sub l al2 cl2 _q9 _q10 ((gt t.ops op).pre) a c q701 q700 q707))) (.v [(33, .bool r3), (33, .bool r3)] rfl rfl rfl rfl rfl rfl (fun _ => mv rfl) (.gS [(34, .bool r3)] rfl rfl rfl rfl q709 rfl rfl rfl rfl (.gS [(34, .bool r3)] rfl rfl rfl rfl q709 rfl rfl rfl rfl (.gS [(34, .bool r3)] rfl rfl rfl rfl q709 rfl rfl rfl rfl (.gS [(34, .bool r3)] rfl rfl rfl rfl q709 rfl rfl rfl rfl (.gS [(34, .bool r3)] rfl rfl rfl rfl q709 rfl rfl rfl rfl (.gS [(37, undef), (38, undef), (39, undef), (34, .bool r3), (34, .bool r3)] rfl rfl rfl rfl q709 rfl rfl rfl rfl (.gS [(34, .bool r3)] rfl rfl rfl rfl q709 rfl rfl rfl rfl (.gS [(41, undef), (34, .bool r3)] rfl rfl rfl rfl q709 rfl rfl rfl rfl (.gS [(35, undef), (36, undef), (40, undef), (42, undef), (40, undef), (34, .bool r3)] rfl rfl rfl rfl q709 rfl rfl rfl rfl (.v [(34, .bool r3), (43, undef)] rfl rfl rfl rfl rfl rfl (fun _ => pkF rfl q709 rfl) (.nil)))))))))))))))))))) rfl ?_
  exact .US q697 false hF
 replace hF := hF.2 q602
 refine .exit (.seqX (.seqX (.blkX (.seqN (.seq (.seq (.region (.V ag0 ?_))))))))
 refine .nil (.seqN (.block ?_))
 obtain ⟨I2, μ2, q1134, q1135⟩ := hF
 refine .loop' (σ := Int) (fun z => I2 z) (fun z => μ2 z) (fun z => [(1, vSl aSn sN cSn), (2, vSl al2 l cl2), (3, iV depth), (4, .pointer (some pt)), (10, iV z)]) (fun _ => [Box pt (tF t at_ ct at_2 ct2 at_3 ct3)]) (fun _ => h) 0 q1134 sb rfl (FH.le_refl _) ?_
 rintro k q1134
 have hF := q1135 k q1134
 show J _ _ _ _ _ [(1, vSl aSn sN cSn), (2, vSl al2 l cl2), (3, iV depth), (4, .pointer (some pt)), (10, iV k)] [Box pt (tF t at_ ct at_2 ct2 at_3 ct3)] h
 refine .seq (.seq (.region (.V mv0 ?_)))
 refine .V mv0 ?_
 refine .V (ln rfl tS22.is) ?_
 refine .V bi0 ?_
 refine .nil (.seqN ?_)
 refine .cond rfl (fun q1137 => ?_) (fun q1137 => ?_)
 ·replace hF := hF.1 q1137
  refine .skip (.seqN (.seq (.block (.seq (.region (.V mv0 ?_))))))
  refine .V mv0 ?_
  refine .V mv0 ?_
  obtain ⟨q1192, hF⟩ := hF
  refine .V (ix rfl rfl tS22 (_q7.ne (by decide) (inb_pos q1192)) q1192) ?_
  refine .V (ld1 (v := iV (gt sN k)) rfl tO3 (cellH (_q7.elemF q1192 (by decide) 0 _ rfl))) ?_
  obtain ⟨q1193, hF⟩ := hF
  obtain ⟨r6, q1194⟩ : ∃ y_ : List (List Int) × List (List Int), y_ = sp_observed l (gt sN k) := ⟨_, rfl⟩
  replace hF := hF r6 q1194
  refine clR (α := Option Addr × Nat × Option Addr × Nat) (Φ := fun h1 z => RSl h1 z.1 r6.1 ∧ r6.1.length ≤ z.2.1 ∧ RSl h1 z.2.2.1 r6.2 ∧ r6.2.length ≤ z.2.2.2) (V := fun z => .tuple #[vSl z.1 r6.1 z.2.1, vSl z.2.2.1 r6.2 z.2.2.2]) Tryz.call55 rfl rfl (fun w S => (by rw [q1194]; exact c_observed S.sub l al2 cl2 _q9 _q10 (gt sN k) q1193)) rfl (fun z h54 le54 hz => ?_)
  obtain ⟨a5, c5, a6, c6⟩ := z
  obtain ⟨q1195, q1196, q1197, q1198⟩ := hz
  refine .V mv0 ?_
  refine .V (ext rfl rfl) ?_
  refine .V (ext rfl rfl) ?_
  refine .V ag0 ?_
  refine .V ag0 ?_
  refine .nil (.seqN ?_)
  refine .share (σ := Bool) (fun z => F_within_J2 K z k I2 μ2) (fun z => [(1, vSl aSn sN cSn), (2, vSl al2 l cl2), (3, iV depth), (4, .pointer (some pt)), (10, iV k), (83, .bool z)]) (fun _ => [Box pt (tF t at_ ct at_2 ct2 at_3 ct3)]) (fun _ => h54) ?_ (fun q1208 => ?_)
  ·rintro t83 hF
   show J _ _ _ _ _ [(1, vSl aSn sN cSn), (2, vSl al2 l cl2), (3, iV depth), (4, .pointer (some pt)), (10, iV k), (83, .bool t83)] [Box pt (tF t at_ ct at_2 ct2 at_3 ct3)] h54
   refine .cond rfl (fun q1209 => ?_) (fun q1209 => ?_)
   ·replace hF := hF.1 q1209
    refine .seq (.region (.V ag0 ?_))
    refine .nil (.seqN (.ret (.blkR (.seqR (.seqR (.blkR (.seqR ?_)))))))
    refine .res1 rfl (rvT rfl) (fun w' S => ⟨true, hF, rfl, S.below⟩)
   replace hF := hF.2 q1209
   refine .skip (.blkN (.seqN (.region (.V mv0 ?_))))
   refine .V bi0 ?_
   refine .V ag0 ?_
   refine .nil ?_
   exact .round (wr (k + 1)) hF.1 hF.2 sb rfl (le54)
  refine .region (.V mv0 ?_)
  refine .V (ln rfl tS35.is) ?_
  refine .V bi0 ?_
  refine .V mv0 ?_
  rcases Bool.eq_false_or_eq_true (decide (0 < ((r6.1.length : Nat) : Int))) with q1210 | q1210
  ·replace hF := hF.1 q1210
   refine .GV mv0 q1210 ?_
   refine .GV (ln rfl tS35.is) q1210 ?_
   refine .GV bi0 q1210 ?_
   refine .V (pkT rfl q1210 rfl) ?_
   refine .V mv0 ?_
   rcases Bool.eq_false_or_eq_true (decide (0 < ((r6.2.length : Nat) : Int))) with q1211 | q1211
   ·replace hF := hF.1 q1211
    refine .GV (ldA (cs := (tF t at_ ct at_2 ct2 at_3 ct3)) rfl tA25 rfl (cellsB (off := 0) (k := 0) rfl (m := 4) rfl)) q1211 ?_
    refine .GV mv0 q1211 ?_
    refine .GV mv0 q1211 ?_
    refine .GV mv0 q1211 ?_
    refine .GV bi0 q1211 ?_
    obtain ⟨q1212, q1213, hF⟩ := hF
    obtain ⟨r7, q1214⟩ : ∃ y_ : Bool, y_ = sp_within t sN r6.1 (wr (depth - 1)) := ⟨_, rfl⟩
    replace hF := hF r7 q1214
    refine .gc (cl (v := .bool r7) Tryz.call34 rfl rfl (fun w S => (by rw [q1214]; exact ih S.sub t at_ ct (_q1.mono (le54)) _q2 at_2 ct2 (_q3.mono (le54)) _q4 at_3 ct3 (_q5.mono (le54)) _q6 sN aSn cSn (_q7.mono (le54)) _q8 r6.1 a5 c5 q1195 q1196 (wr (depth - 1)) (by rw [← hm]; exact q1213) q1212))) rfl rfl rfl q1211 rfl rfl ?_
    refine .V (pkT rfl q1211 rfl) ?_
    refine .V mv0 ?_
    rcases Bool.eq_false_or_eq_true (r7) with q1215 | q1215
    ·replace hF := hF.1 q1215
     refine .GV (ldA (cs := (tF t at_ ct at_2 ct2 at_3 ct3)) rfl tA25 rfl (cellsB (off := 0) (k := 0) rfl (m := 4) rfl)) q1215 ?_
     refine .GV mv0 q1215 ?_
     refine .GV mv0 q1215 ?_
     refine .GV mv0 q1215 ?_
     refine .GV bi0 q1215 ?_
     obtain ⟨q1216, q1217, hF⟩ := hF
     obtain ⟨r8, q1218⟩ : ∃ y_ : Bool, y_ = sp_within t sN r6.2 (wr (depth - 1)) := ⟨_, rfl⟩
     replace hF := hF r8 q1218
     refine .gc (cl (v := .bool r8) Tryz.call34 rfl rfl (fun w S => (by rw [q1218]; exact ih S.sub t at_ ct (_q1.mono (le54)) _q2 at_2 ct2 (_q3.mono (le54)) _q4 at_3 ct3 (_q5.mono (le54)) _q6 sN aSn cSn (_q7.mono (le54)) _q8 r6.2 a6 c6 q1197 q1198 (wr (depth - 1)) (by rw [← hm]; exact q1217) q1216))) rfl rfl rfl q1215 rfl rfl ?_
     refine .V (pkT rfl q1215 rfl) ?_
     refine .nil ?_
     exact .US q1208 r8 hF
    replace hF := hF.2 q1215
    refine .GS q1215 ?_
    refine .GS q1215 ?_
    refine .GS q1215 ?_
    refine .GS q1215 ?_
    refine .GS q1215 ?_
    refine .GS q1215 ?_
    refine .V (pkF rfl q1215 rfl) ?_
    refine .nil ?_
    exact .US q1208 false hF
   replace hF := hF.2 q1211
   refine .GS q1211 ?_
   refine .GS q1211 ?_
   refine .GS q1211 ?_
   refine .GS q1211 ?_
   refine .GS q1211 ?_
   refine .GS q1211 ?_
   refine .V (pkF rfl q1211 rfl) ?_
   refine .V mv0 ?_
   refine .gS rfl rfl rfl rfl rfl rfl ?_
   refine .gS rfl rfl rfl rfl rfl rfl ?_
   refine .gS rfl rfl rfl rfl rfl rfl ?_
   refine .gS rfl rfl rfl rfl rfl rfl ?_
   refine .gS rfl rfl rfl rfl rfl rfl ?_
   refine .gS rfl rfl rfl rfl rfl rfl ?_
   refine .V (pkF rfl rfl rfl) ?_
   refine .nil ?_
   exact .US q1208 false hF
  replace hF := hF.2 q1210
  refine .GS q1210 ?_
  refine .GS q1210 ?_
  refine .GS q1210 ?_
  refine .V (pkF rfl q1210 rfl) ?_
  refine .V mv0 ?_
  refine .gS rfl rfl rfl rfl rfl rfl ?_
  refine .gS rfl rfl rfl rfl rfl rfl ?_
  refine .gS rfl rfl rfl rfl rfl rfl ?_
  refine .gS rfl rfl rfl rfl rfl rfl ?_
  refine .gS rfl rfl rfl rfl rfl rfl ?_
  refine .gS rfl rfl rfl rfl rfl rfl ?_
  refine .V (pkF rfl rfl rfl) ?_
  refine .V mv0 ?_
  refine .gS rfl rfl rfl rfl rfl rfl ?_
  refine .gS rfl rfl rfl rfl rfl rfl ?_
  refine .gS rfl rfl rfl rfl rfl rfl ?_
  refine .gS rfl rfl rfl rfl rfl rfl ?_
  refine .gS rfl rfl rfl rfl rfl rfl ?_
  refine .gS rfl rfl rfl rfl rfl rfl ?_
  refine .V (pkF rfl rfl rfl) ?_
  refine .nil ?_
  exact .US q1208 false hF
 replace hF := hF.2 q1137
 refine .exit (.seqX (.seqX (.blkX (.seqN (.seq (.region (.V ag0 ?_)))))))
 refine .nil (.seqN (.ret ?_))
 refine .res1 rfl (rvT rfl) (fun w' S => ⟨false, hF, rfl, S.below⟩)
theorem c_within_ : ∀ (mM : Nat) {h : FH} {w : World} (_ : Sub h w) (t : Task) (at_ : Option Addr) (ct : Nat) (_q1 : RSl h at_ t.init) (_q2 : t.init.length ≤ ct) (at_2 : Option Addr) (ct2 : Nat) (_q3 : RSl h at_2 t.goal) (_q4 : t.goal.length ≤ ct2) (at_3 : Option Addr) (ct3 : Nat) (_q5 : RSl h at_3 t.ops) (_q6 : t.ops.length ≤ ct3) (sN : List Int) (aSn : Option Addr) (cSn : Nat) (_q7 : RSl h aSn sN) (_q8 : sN.length ≤ cSn) (l : List (List Int)) (al2 : Option Addr) (cl2 : Nat) (_q9 : RSl h al2 l) (_q10 : l.length ≤ cl2) (depth : Int) (_ : mu_within t sN l depth = mM) (_ : pre_within t sN l depth), Calls Tryz.prog 34 #[.agg #[iV t.facts, .slice at_ t.init.length ct, .slice at_2 t.goal.length ct2, .slice at_3 t.ops.length ct3], .slice aSn sN.length cSn, .slice al2 l.length cl2, iV depth] w fun e w' => e = .returned (.bool (sp_within t sN l depth)) ∧ Below w.heap.size w w' := by
 intro mM
 induction mM using Nat.strongRecOn with
 | _ mM ih =>
  intro h w hs t at_ ct _q1 _q2 at_2 ct2 _q3 _q4 at_3 ct3 _q5 _q6 sN aSn cSn _q7 _q8 l al2 cl2 _q9 _q10 depth hm hp
  exact (w_within hs t at_ ct _q1 _q2 at_2 ct2 _q3 _q4 at_3 ct3 _q5 _q6 sN aSn cSn _q7 _q8 l al2 cl2 _q9 _q10 depth _ rfl (fun hs' t at_ ct _q1 _q2 at_2 ct2 _q3 _q4 at_3 ct3 _q5 _q6 sN aSn cSn _q7 _q8 l al2 cl2 _q9 _q10 depth hlt hp => ih _ (hm ▸ hlt) hs' t at_ ct _q1 _q2 at_2 ct2 _q3 _q4 at_3 ct3 _q5 _q6 sN aSn cSn _q7 _q8 l al2 cl2 _q9 _q10 depth rfl hp) (fun r => r = sp_within t sN l depth) (ok_within t sN l depth hp)).mono fun _ _ ⟨_, hk, he, hb⟩ => ⟨by rw [he, hk], hb⟩
theorem c_within {h : FH} {w : World} (hs : Sub h w) (t : Task) (at_ : Option Addr) (ct : Nat) (_q1 : RSl h at_ t.init) (_q2 : t.init.length ≤ ct) (at_2 : Option Addr) (ct2 : Nat) (_q3 : RSl h at_2 t.goal) (_q4 : t.goal.length ≤ ct2) (at_3 : Option Addr) (ct3 : Nat) (_q5 : RSl h at_3 t.ops) (_q6 : t.ops.length ≤ ct3) (sN : List Int) (aSn : Option Addr) (cSn : Nat) (_q7 : RSl h aSn sN) (_q8 : sN.length ≤ cSn) (l : List (List Int)) (al2 : Option Addr) (cl2 : Nat) (_q9 : RSl h al2 l) (_q10 : l.length ≤ cl2) (depth : Int) (hp : pre_within t sN l depth) : Calls Tryz.prog 34 #[.agg #[iV t.facts, .slice at_ t.init.length ct, .slice at_2 t.goal.length ct2, .slice at_3 t.ops.length ct3], .slice aSn sN.length cSn, .slice al2 l.length cl2, iV depth] w fun e w' => e = .returned (.bool (sp_within t sN l depth)) ∧ Below w.heap.size w w' :=
 c_within_ _ hs t at_ ct _q1 _q2 at_2 ct2 _q3 _q4 at_3 ct3 _q5 _q6 sN aSn cSn _q7 _q8 l al2 cl2 _q9 _q10 depth rfl hp
set_option maxHeartbeats 8000000 in
theorem w_tree {h : FH} {w : World} (hs : Sub h w) (t : Task) (at_ : Option Addr) (ct : Nat) (_q1 : RSl h at_ t.init) (_q2 : t.init.length ≤ ct) (at_2 : Option Addr) (ct2 : Nat) (_q3 : RSl h at_2 t.goal) (_q4 : t.goal.length ≤ ct2) (at_3 : Option Addr) (ct3 : Nat) (_q5 : RSl h at_3 t.ops) (_q6 : t.ops.length ≤ ct3) (sN : List Int) (aSn : Option Addr) (cSn : Nat) (_q7 : RSl h aSn sN) (_q8 : sN.length ≤ cSn) (l : List (List Int)) (al2 : Option Addr) (cl2 : Nat) (_q9 : RSl h al2 l) (_q10 : l.length ≤ cl2) (most : Int) (out : List TNode) (aout : Option Addr) (cout : Nat) {gX : FH} (ownX : OwnSl 102 5 aout out.length cout (flL out) gX) (subX : Sub gX w) (disX : Disj h gX) (mM : Nat) (hm : mu_tree t sN l most out = mM) (ih : ∀ {h : FH} {w : World} (_ : Sub h w) (t : Task) (at_ : Option Addr) (ct : Nat) (_ : RSl h at_ t.init) (_ : t.init.length ≤ ct) (at_2 : Option Addr) (ct2 : Nat) (_ : RSl h at_2 t.goal) (_ : t.goal.length ≤ ct2) (at_3 : Option Addr) (ct3 : Nat) (_ : RSl h at_3 t.ops) (_ : t.ops.length ≤ ct3) (sN : List Int) (aSn : Option Addr) (cSn : Nat) (_ : RSl h aSn sN) (_ : sN.length ≤ cSn) (l : List (List Int)) (al2 : Option Addr) (cl2 : Nat) (_ : RSl h al2 l) (_ : l.length ≤ cl2) (most : Int) (out : List TNode) (aout : Option Addr) (cout : Nat) {gX : FH} (_ : OwnSl 102 5 aout out.length cout (flL out) gX) (_ : Sub gX w) (_ : Disj h gX) (_ : mu_tree t sN l most out < mM) (_ : pre_tree t sN l most out), Calls Tryz.prog 36 #[.agg #[iV t.facts, .slice at_ t.init.length ct, .slice at_2 t.goal.length ct2, .slice at_3 t.ops.length ct3], .slice aSn sN.length cSn, .slice al2 l.length cl2, iV most, .slice aout out.length cout] w fun e w' => ∃ (a' : Option Addr) (c' : Nat), e = .returned (.slice a' (sp_tree t sN l most out).length c') ∧ SH (Kp.ex w h gX) h w' [OwnSl 102 5 a' (sp_tree t sN l most out).length c' (flL (sp_tree t sN l most out))]) (K : (List TNode) → Prop) (hF : F_tree t sN l most out K) : Calls Tryz.prog 36 #[.agg #[iV t.facts, .slice at_ t.init.length ct, .slice at_2 t.goal.length ct2, .slice at_3 t.ops.length ct3], .slice aSn sN.length cSn, .slice al2 l.length cl2, iV most, .slice aout out.length cout] w fun e w' => ∃ (r : List TNode) (a' : Option Addr) (c' : Nat), K r ∧ e = .returned (.slice a' r.length c') ∧ SH (Kp.ex w h gX) h w' [OwnSl 102 5 a' r.length c' (flL r)] := by
 refine enterX (X := oL 102 5 aout out cout) (args := [.agg (tF t at_ ct at_2 ct2 at_3 ct3).toArray, vSl aSn sN cSn, vSl al2 l cl2, iV most, vSl aout out cout]) Tryz.func36 rfl Tryz.ntmps36 rfl hs subX disX ownX ?_
 refine .seq (.region ?_)
 refine bx (vs := (tF t at_ ct at_2 ct2 at_3 ct3)) rfl rfl rfl (fun pt => ?_)
 refine .V ag0 ?_
 refine .nil (.seqN (.seq (.region (.V ag0 ?_))))
 refine .nil (.seqN (.seq (.block ?_)))
 refine .sel0 [1, 0] (by decide) rfl ?_
 obtain ⟨I1, μ1, q47, q48⟩ := hF
 refine .loop' (σ := Int) (fun z => I1 z) (fun z => μ1 z) (fun z => [(1, vSl aSn sN cSn), (2, vSl al2 l cl2), (3, iV most), (4, vSl aout out cout), (5, .pointer (some pt)), (11, iV z)]) (fun _ => [oL 102 5 aout out cout, Box pt (tF t at_ ct at_2 ct2 at_3 ct3)]) (fun _ => h) 0 q47 sb rfl (FH.le_refl _) ?_
 rintro d q47
 have hF := q48 d q47
 show J _ _ _ _ _ [(1, vSl aSn sN cSn), (2, vSl al2 l cl2), (3, iV most), (4, vSl aout out cout), (5, .pointer (some pt)), (11, iV d)] [oL 102 5 aout out cout, Box pt (tF t at_ ct at_2 ct2 at_3 ct3)] h
 refine .seq (.seq (.region (.V (ldA (cs := (tF t at_ ct at_2 ct2 at_3 ct3)) rfl tA25 rfl (cellsB (off := 0) (k := 1) rfl (m := 4) rfl)) ?_)))
 refine .V mv0 ?_
 refine .V mv0 ?_
 refine .V mv0 ?_
 obtain ⟨q49, hF⟩ := hF
 obtain ⟨r2, q50⟩ : ∃ y_ : Bool, y_ = sp_within t sN l d := ⟨_, rfl⟩
 replace hF := hF r2 q50
 refine .C (cl (v := .bool r2) Tryz.call34 rfl rfl (fun w S => (by rw [q50]; exact c_within S.sub t at_ ct _q1 _q2 at_2 ct2 _q3 _q4 at_3 ct3 _q5 _q6 sN aSn cSn _q7 _q8 l al2 cl2 _q9 _q10 d q49))) ?_
 refine .V (nt rfl) ?_
 refine .nil (.seqN ?_)
 refine .cond rfl (fun q52 => ?_) (fun q52 => ?_)
 ·replace hF := hF.1 q52
  refine .skip (.seqN (.block (.region (.V mv0 ?_))))
  refine .V bi0 ?_
  refine .V ag0 ?_
  refine .nil (.blkN ?_)
  exact .RO (wr (d + 1)) hF.1 hF.2
 replace hF := hF.2 q52
 refine .exit (.seqX (.seqX (.blkX (.seqN (.seq ?_)))))
 refine .share (σ := Bool) (fun z => F_tree_J1 t sN l most out K d z) (fun z => [(1, vSl aSn sN cSn), (2, vSl al2 l cl2), (4, vSl aout out cout), (5, .pointer (some pt)), (11, iV d), (32, .bool z)]) (fun _ => [oL 102 5 aout out cout, Box pt (tF t at_ ct at_2 ct2 at_3 ct3)]) (fun _ => h) ?_ (fun q54 => ?_)
 ·rintro t32 hF
  show J _ _ _ _ _ [(1, vSl aSn sN cSn), (2, vSl al2 l cl2), (4, vSl aout out cout), (5, .pointer (some pt)), (11, iV d), (32, .bool t32)] [oL 102 5 aout out cout, Box pt (tF t at_ ct at_2 ct2 at_3 ct3)] h
  refine .cond rfl (fun q59 => ?_) (fun q59 => ?_)
  ·replace hF := hF.1 q59
   refine .seq (.region (.V mv0 ?_))
   refine .V (bld (cs := #[iV 1, iV 0, iV 0, iV 0, iV 0]) (pv := [(0, iV 1)]) tB102 rfl rfl) ?_
   refine bs1S (cs := #[iV 1, iV 0, iV 0, iV 0, iV 0]) tS60 rfl rfl (by decide) rfl rfl (fun a _ => ?_)
   refine .KA [oL 102 5 a ([(⟨1, 0, 0, 0, 0⟩ : TNode)] : List TNode) 1, oL 102 5 aout out cout, Box pt (tF t at_ ct at_2 ct2 at_3 ct3)] ?_
   obtain ⟨q61, hF⟩ := hF
   have q62 : out.length + ([(⟨1, 0, 0, 0, 0⟩ : TNode)] : List TNode).length = ((out ++ ([(⟨1, 0, 0, 0, 0⟩ : TNode)] : List TNode))).length := len_app rfl rfl
   refine app (k := 1) (news := flL ([(⟨1, 0, 0, 0, 0⟩ : TNode)] : List TNode)) (cs' := flL (out ++ ([(⟨1, 0, 0, 0, 0⟩ : TNode)] : List TNode))) (nm := ((out ++ ([(⟨1, 0, 0, 0, 0⟩ : TNode)] : List TNode))).length) tS60 rfl (by decide) rfl rfl rfl (by rw [flL_len]; rfl) (srcS (k := 0) rfl) (flL_one _) (room_of q62 q61).1 (room_of q62 q61).2 q62 (flL_append _ _).symm rfl (fun a2 c => ?_)
   refine .KA [oL 102 5 a ([(⟨1, 0, 0, 0, 0⟩ : TNode)] : List TNode) 1, oL 102 5 a2 (out ++ ([(⟨1, 0, 0, 0, 0⟩ : TNode)] : List TNode)) c, Box pt (tF t at_ ct at_2 ct2 at_3 ct3)] ?_
   refine .V ag0 ?_
   refine .nil (.seqN (.ret (.seqR ?_)))
   refine .res1 rfl (rvT rfl) (fun w' S => ⟨(out ++ ([(⟨1, 0, 0, 0, 0⟩ : TNode)] : List TNode)), a2, c, hF, rfl, (S.pick (k := 1) rfl)⟩)
  replace hF := hF.2 q59
  refine .skip (.seqN (.seq (.seq (.region (.V ag0 ?_)))))
  refine .nil (.seqN (.block ?_))
  obtain ⟨I2, μ2, q330, q331⟩ := hF
  refine .loop' (σ := Int) (fun z => I2 z) (fun z => μ2 z) (fun z => [(1, vSl aSn sN cSn), (2, vSl al2 l cl2), (4, vSl aout out cout), (5, .pointer (some pt)), (11, iV d), (12, iV z)]) (fun _ => [oL 102 5 aout out cout, Box pt (tF t at_ ct at_2 ct2 at_3 ct3)]) (fun _ => h) 0 q330 sb rfl (FH.le_refl _) ?_
  rintro op q330
  have hF := q331 op q330
  show J _ _ _ _ _ [(1, vSl aSn sN cSn), (2, vSl al2 l cl2), (4, vSl aout out cout), (5, .pointer (some pt)), (11, iV d), (12, iV op)] [oL 102 5 aout out cout, Box pt (tF t at_ ct at_2 ct2 at_3 ct3)] h
  refine .seq (.seq (.region (.V mv0 ?_)))
  refine .V (fa rfl tF25_3) ?_
  refine .V (ld1 rfl tO23 (cellB (off := 3) (k := 1) rfl rfl)) ?_
  refine .V (ln rfl tS23.is) ?_
  refine .V bi0 ?_
  refine .nil (.seqN ?_)
  refine .cond rfl (fun q333 => ?_) (fun q333 => ?_)
  ·replace hF := hF.1 q333
   refine .skip (.seqN ?_)
   refine .share (σ := Unit) (fun _ => F_tree_J2 op I2 μ2) (fun _ => [(1, vSl aSn sN cSn), (2, vSl al2 l cl2), (4, vSl aout out cout), (5, .pointer (some pt)), (11, iV d), (12, iV op)]) (fun _ => [oL 102 5 aout out cout, Box pt (tF t at_ ct at_2 ct2 at_3 ct3)]) (fun _ => h) ?_ (fun q359 => ?_)
   ·rintro ⟨⟩ hF
    show J _ _ _ _ _ [(1, vSl aSn sN cSn), (2, vSl al2 l cl2), (4, vSl aout out cout), (5, .pointer (some pt)), (11, iV d), (12, iV op)] [oL 102 5 aout out cout, Box pt (tF t at_ ct at_2 ct2 at_3 ct3)] h
    refine .region (.V mv0 ?_)
    refine .V bi0 ?_
    refine .V ag0 ?_
    refine .nil ?_
    exact .RO (wr (op + 1)) hF.1 hF.2
   refine .block (.seq (.seq (.region (.V mv0 ?_))))
   refine .V (fa rfl tF25_3) ?_
   refine .V (ld1 rfl tO23 (cellB (off := 3) (k := 1) rfl rfl)) ?_
   refine .V mv0 ?_
   obtain ⟨q360, hF⟩ := hF
   refine .V (ix rfl rfl tS23 (_q5.ne (by decide) (inb_pos q360)) q360) ?_
   refine .V (fa rfl tF54_0) ?_
   obtain ⟨_, ⟨a3, c2, a4, c3, a5, c4, rfl, ⟨q361, q362⟩, ⟨q363, q364⟩, q365, q366⟩, q367⟩ := _q5.elem q360
   refine .V (ld1 (v := .slice a3 ((gt t.ops op).pre.length) c2) rfl tO22 (cellH (q367 (by decide) 0 _ rfl))) ?_
   obtain ⟨q368, hF⟩ := hF
   obtain ⟨r3, q369⟩ : ∃ y_ : Bool, y_ = sp_allHold l ((gt t.ops op).pre) := ⟨_, rfl⟩
   replace hF := hF r3 q369
   refine .C (cl (v := .bool r3) Tryz.call27 rfl rfl (fun w S => (by rw [q369]; exact c_allHold S.sub l al2 cl2 _q9 _q10 ((gt t.ops op).pre) a3 c2 q362 q361 q368))) ?_
   refine .V (nt rfl) ?_
   refine .nil (.seqN ?_)
   refine .cond rfl (fun q371 => ?_) (fun q371 => ?_)
   ·replace hF := hF.1 q371
    refine .exit (.seqX (.blkX ?_))
    exact .US q359 () hF
   replace hF := hF.2 q371
   refine .skip (.seqN (.seq (.region (.V (ldA (cs := (tF t at_ ct at_2 ct2 at_3 ct3)) rfl tA25 rfl (cellsB (off := 0) (k := 1) rfl (m := 4) rfl)) ?_))))
   refine .V mv0 ?_
   refine .V mv0 ?_
   obtain ⟨q372, hF⟩ := hF
   obtain ⟨r4, q373⟩ : ∃ y_ : List (List Int), y_ = sp_afterAll t l op := ⟨_, rfl⟩
   replace hF := hF r4 q373
   refine clR (α := Option Addr × Nat) (Φ := fun h1 z => RSl h1 z.1 r4 ∧ r4.length ≤ z.2) (V := fun z => vSl z.1 r4 z.2) Tryz.call28 rfl rfl (fun w S => (by rw [q373]; exact c_afterAll S.sub t at_ ct _q1 _q2 at_2 ct2 _q3 _q4 at_3 ct3 _q5 _q6 l al2 cl2 _q9 _q10 op q372)) rfl (fun z h12 le12 hz => ?_)
   obtain ⟨a6, c5⟩ := z
   obtain ⟨q374, q375⟩ := hz
   refine .V ag0 ?_
   refine .nil (.seqN (.seq (.region (.V (ldA (cs := (tF t at_ ct at_2 ct2 at_3 ct3)) rfl tA25 rfl (cellsB (off := 0) (k := 1) rfl (m := 4) rfl)) ?_))))
   refine .V mv0 ?_
   refine .V mv0 ?_
   refine .V mv0 ?_
   refine .V bi0 ?_
   obtain ⟨q376, hF⟩ := hF
   obtain ⟨r5, q377⟩ : ∃ y_ : Bool, y_ = sp_within t sN r4 (wr (d - 1)) := ⟨_, rfl⟩
   replace hF := hF r5 q377
   refine .C (cl (v := .bool r5) Tryz.call34 rfl rfl (fun w S => (by rw [q377]; exact c_within S.sub t at_ ct (_q1.mono (le12)) _q2 at_2 ct2 (_q3.mono (le12)) _q4 at_3 ct3 (_q5.mono (le12)) _q6 sN aSn cSn (_q7.mono (le12)) _q8 r4 a6 c5 q374 q375 (wr (d - 1)) q376))) ?_
   refine .nil (.seqN ?_)
   refine .cond rfl (fun q378 => ?_) (fun q378 => ?_)
   ·replace hF := hF.1 q378
    refine .seq (.region (.V (ldA (cs := (tF t at_ ct at_2 ct2 at_3 ct3)) rfl tA25 rfl (cellsB (off := 0) (k := 1) rfl (m := 4) rfl)) ?_))
    refine .V mv0 ?_
    refine .V mv0 ?_
    refine .V mv0 ?_
    refine .V bi0 ?_
    refine .V mv0 ?_
    obtain ⟨q379, q380, hF⟩ := hF
    obtain ⟨r6, q381⟩ : ∃ y_ : List TNode, y_ = sp_tree t sN r4 (wr (d - 1)) out := ⟨_, rfl⟩
    replace hF := hF r6 q381
    refine callH (k := 0) (X' := fun a' c' => oL 102 5 a' r6 c') (V := fun a' c' => vSl a' r6 c') rfl Tryz.call36 rfl rfl (fun w g hx sg hd hs' => ?_) rfl (fun a7 c6 => ?_)
    ·rw [q381]; exact ih hs' t at_ ct (_q1.mono (le12)) _q2 at_2 ct2 (_q3.mono (le12)) _q4 at_3 ct3 (_q5.mono (le12)) _q6 sN aSn cSn (_q7.mono (le12)) _q8 r4 a6 c5 q374 q375 (wr (d - 1)) out aout cout hx sg hd (by rw [← hm]; exact q380) q379
    refine .KA [oL 102 5 a7 r6 c6, Box pt (tF t at_ ct at_2 ct2 at_3 ct3)] ?_
    refine .V ag0 ?_
    refine .nil (.seqN (.seq (.region (.V mv0 ?_))))
    refine .V mv0 ?_
    refine .V mv0 ?_
    refine .V (ln rfl tS60.is) ?_
    refine .V bi0 ?_
    refine .V (bld (cs := #[iV 2, iV op, iV 0, iV (wr (((r6.length : Nat) : Int) - 1)), iV 0]) (pv := [(0, iV 2), (1, iV op), (3, iV (wr (((r6.length : Nat) : Int) - 1)))]) tB102 rfl rfl) ?_
    refine bs1S (cs := #[iV 2, iV op, iV 0, iV (wr (((r6.length : Nat) : Int) - 1)), iV 0]) tS60 rfl rfl (by decide) rfl rfl (fun a8 _ => ?_)
    refine .KA [oL 102 5 a8 ([(⟨2, op, 0, wr (((r6.length : Nat) : Int) - 1), 0⟩ : TNode)] : List TNode) 1, oL 102 5 a7 r6 c6, Box pt (tF t at_ ct at_2 ct2 at_3 ct3)] ?_
    obtain ⟨q383, hF⟩ := hF
    have q384 : r6.length + ([(⟨2, op, 0, wr (((r6.length : Nat) : Int) - 1), 0⟩ : TNode)] : List TNode).length = ((r6 ++ ([(⟨2, op, 0, wr (((r6.length : Nat) : Int) - 1), 0⟩ : TNode)] : List TNode))).length := len_app rfl rfl
    refine app (k := 1) (news := flL ([(⟨2, op, 0, wr (((r6.length : Nat) : Int) - 1), 0⟩ : TNode)] : List TNode)) (cs' := flL (r6 ++ ([(⟨2, op, 0, wr (((r6.length : Nat) : Int) - 1), 0⟩ : TNode)] : List TNode))) (nm := ((r6 ++ ([(⟨2, op, 0, wr (((r6.length : Nat) : Int) - 1), 0⟩ : TNode)] : List TNode))).length) tS60 rfl (by decide) rfl rfl rfl (by rw [flL_len]; rfl) (srcS (k := 0) rfl) (flL_one _) (room_of q384 q383).1 (room_of q384 q383).2 q384 (flL_append _ _).symm rfl (fun a9 c7 => ?_)
    refine .KA [oL 102 5 a8 ([(⟨2, op, 0, wr (((r6.length : Nat) : Int) - 1), 0⟩ : TNode)] : List TNode) 1, oL 102 5 a9 (r6 ++ ([(⟨2, op, 0, wr (((r6.length : Nat) : Int) - 1), 0⟩ : TNode)] : List TNode)) c7, Box pt (tF t at_ ct at_2 ct2 at_3 ct3)] ?_
    refine .V ag0 ?_
    refine .nil (.seqN (.ret (.blkR (.seqR (.seqR (.blkR (.seqR ?_)))))))
    refine .res1 rfl (rvT rfl) (fun w' S => ⟨(r6 ++ ([(⟨2, op, 0, wr (((r6.length : Nat) : Int) - 1), 0⟩ : TNode)] : List TNode)), a9, c7, hF, rfl, (S.pick (k := 1) rfl).anti (le12)⟩)
   replace hF := hF.2 q378
   refine .skip (.blkN ?_)
   exact .use q359 () hF sb rfl (le12)
  replace hF := hF.2 q333
  refine .exit (.seqX (.seqX (.blkX (.seqN (.seq (.seq (.region (.V ag0 ?_))))))))
  refine .nil (.seqN (.block ?_))
  obtain ⟨I3, μ3, q877, q878⟩ := hF
  refine .loop' (σ := Int) (fun z => I3 z) (fun z => μ3 z) (fun z => [(1, vSl aSn sN cSn), (2, vSl al2 l cl2), (4, vSl aout out cout), (5, .pointer (some pt)), (11, iV d), (14, iV z)]) (fun _ => [oL 102 5 aout out cout, Box pt (tF t at_ ct at_2 ct2 at_3 ct3)]) (fun _ => h) 0 q877 sb rfl (FH.le_refl _) ?_
  rintro k q877
  have hF := q878 k q877
  show J _ _ _ _ _ [(1, vSl aSn sN cSn), (2, vSl al2 l cl2), (4, vSl aout out cout), (5, .pointer (some pt)), (11, iV d), (14, iV k)] [oL 102 5 aout out cout, Box pt (tF t at_ ct at_2 ct2 at_3 ct3)] h
  refine .seq (.seq (.region (.V mv0 ?_)))
  refine .V mv0 ?_
  refine .V (ln rfl tS22.is) ?_
  refine .V bi0 ?_
  refine .nil (.seqN ?_)
  refine .cond rfl (fun q880 => ?_) (fun q880 => ?_)
  ·replace hF := hF.1 q880
   refine .skip (.seqN (.seq (.block (.seq (.region (.V mv0 ?_))))))
   refine .V mv0 ?_
   refine .V mv0 ?_
   obtain ⟨q945, hF⟩ := hF
   refine .V (ix rfl rfl tS22 (_q7.ne (by decide) (inb_pos q945)) q945) ?_
   refine .V (ld1 (v := iV (gt sN k)) rfl tO3 (cellH (_q7.elemF q945 (by decide) 0 _ rfl))) ?_
   obtain ⟨q946, hF⟩ := hF
   obtain ⟨r7, q947⟩ : ∃ y_ : List (List Int) × List (List Int), y_ = sp_observed l (gt sN k) := ⟨_, rfl⟩
   replace hF := hF r7 q947
   refine clR (α := Option Addr × Nat × Option Addr × Nat) (Φ := fun h1 z => RSl h1 z.1 r7.1 ∧ r7.1.length ≤ z.2.1 ∧ RSl h1 z.2.2.1 r7.2 ∧ r7.2.length ≤ z.2.2.2) (V := fun z => .tuple #[vSl z.1 r7.1 z.2.1, vSl z.2.2.1 r7.2 z.2.2.2]) Tryz.call55 rfl rfl (fun w S => (by rw [q947]; exact c_observed S.sub l al2 cl2 _q9 _q10 (gt sN k) q946)) rfl (fun z h30 le30 hz => ?_)
   obtain ⟨a10, c8, a11, c9⟩ := z
   obtain ⟨q948, q949, q950, q951⟩ := hz
   refine .V mv0 ?_
   refine .V (ext rfl rfl) ?_
   refine .V (ext rfl rfl) ?_
   refine .V ag0 ?_
   refine .V ag0 ?_
   refine .nil (.seqN ?_)
   refine .share (σ := Bool) (fun z => F_tree_J3 t sN l most out K d r7 z k I3 μ3) (fun z => [(1, vSl aSn sN cSn), (2, vSl al2 l cl2), (4, vSl aout out cout), (5, .pointer (some pt)), (11, iV d), (14, iV k), (15, vSl a10 r7.1 c8), (16, vSl a11 r7.2 c9), (116, .bool z)]) (fun _ => [oL 102 5 aout out cout, Box pt (tF t at_ ct at_2 ct2 at_3 ct3)]) (fun _ => h30) ?_ (fun q959 => ?_)
   ·rintro t116 hF
    show J _ _ _ _ _ [(1, vSl aSn sN cSn), (2, vSl al2 l cl2), (4, vSl aout out cout), (5, .pointer (some pt)), (11, iV d), (14, iV k), (15, vSl a10 r7.1 c8), (16, vSl a11 r7.2 c9), (116, .bool t116)] [oL 102 5 aout out cout, Box pt (tF t at_ ct at_2 ct2 at_3 ct3)] h30
    refine .cond rfl (fun q960 => ?_) (fun q960 => ?_)
    ·replace hF := hF.1 q960
     refine .seq (.region (.V (ldA (cs := (tF t at_ ct at_2 ct2 at_3 ct3)) rfl tA25 rfl (cellsB (off := 0) (k := 1) rfl (m := 4) rfl)) ?_))
     refine .V mv0 ?_
     refine .V mv0 ?_
     refine .V mv0 ?_
     refine .V bi0 ?_
     refine .V mv0 ?_
     obtain ⟨q961, q962, hF⟩ := hF
     obtain ⟨r8, q963⟩ : ∃ y_ : List TNode, y_ = sp_tree t sN r7.1 (wr (d - 1)) out := ⟨_, rfl⟩
     replace hF := hF r8 q963
     refine callH (k := 0) (X' := fun a' c' => oL 102 5 a' r8 c') (V := fun a' c' => vSl a' r8 c') rfl Tryz.call36 rfl rfl (fun w g hx sg hd hs' => ?_) rfl (fun a12 c10 => ?_)
     ·rw [q963]; exact ih hs' t at_ ct (_q1.mono (le30)) _q2 at_2 ct2 (_q3.mono (le30)) _q4 at_3 ct3 (_q5.mono (le30)) _q6 sN aSn cSn (_q7.mono (le30)) _q8 r7.1 a10 c8 q948 q949 (wr (d - 1)) out aout cout hx sg hd (by rw [← hm]; exact q962) q961
     refine .KA [oL 102 5 a12 r8 c10, Box pt (tF t at_ ct at_2 ct2 at_3 ct3)] ?_
     refine .V ag0 ?_
     refine .nil (.seqN (.seq (.region (.V mv0 ?_))))
     refine .V (ln rfl tS60.is) ?_
     refine .V bi0 ?_
     refine .V ag0 ?_
     refine .nil (.seqN (.seq (.region (.V (ldA (cs := (tF t at_ ct at_2 ct2 at_3 ct3)) rfl tA25 rfl (cellsB (off := 0) (k := 1) rfl (m := 4) rfl)) ?_))))
     refine .V mv0 ?_
     refine .V mv0 ?_
     refine .V mv0 ?_
     refine .V bi0 ?_
     refine .V mv0 ?_
     obtain ⟨q964, q965, hF⟩ := hF
     obtain ⟨r9, q966⟩ : ∃ y_ : List TNode, y_ = sp_tree t sN r7.2 (wr (d - 1)) r8 := ⟨_, rfl⟩
     replace hF := hF r9 q966
     refine callH (k := 0) (X' := fun a' c' => oL 102 5 a' r9 c') (V := fun a' c' => vSl a' r9 c') rfl Tryz.call36 rfl rfl (fun w g hx sg hd hs' => ?_) rfl (fun a13 c11 => ?_)
     ·rw [q966]; exact ih hs' t at_ ct (_q1.mono (le30)) _q2 at_2 ct2 (_q3.mono (le30)) _q4 at_3 ct3 (_q5.mono (le30)) _q6 sN aSn cSn (_q7.mono (le30)) _q8 r7.2 a11 c9 q950 q951 (wr (d - 1)) r8 a12 c10 hx sg hd (by rw [← hm]; exact q965) q964
     refine .KA [oL 102 5 a13 r9 c11, Box pt (tF t at_ ct at_2 ct2 at_3 ct3)] ?_
     refine .V ag0 ?_
     refine .nil (.seqN (.seq (.region (.V mv0 ?_))))
     refine .V mv0 ?_
     refine .V mv0 ?_
     refine .V (ix rfl rfl tS22 (_q7.ne (by decide) (inb_pos q945)) q945) ?_
     refine .V (ld1 (v := iV (gt sN k)) rfl tO3 (cellH ((_q7.mono (le30)).elemF q945 (by decide) 0 _ rfl))) ?_
     refine .V mv0 ?_
     refine .V mv0 ?_
     refine .V (ln rfl tS60.is) ?_
     refine .V bi0 ?_
     refine .V (bld (cs := #[iV 3, iV 0, iV (gt sN k), iV (wr (((r8.length : Nat) : Int) - 1)), iV (wr (((r9.length : Nat) : Int) - 1))]) (pv := [(0, iV 3), (2, iV (gt sN k)), (3, iV (wr (((r8.length : Nat) : Int) - 1))), (4, iV (wr (((r9.length : Nat) : Int) - 1)))]) tB102 rfl rfl) ?_
     refine bs1S (cs := #[iV 3, iV 0, iV (gt sN k), iV (wr (((r8.length : Nat) : Int) - 1)), iV (wr (((r9.length : Nat) : Int) - 1))]) tS60 rfl rfl (by decide) rfl rfl (fun a14 _ => ?_)
     refine .KA [oL 102 5 a14 ([(⟨3, 0, (gt sN k), wr (((r8.length : Nat) : Int) - 1), wr (((r9.length : Nat) : Int) - 1)⟩ : TNode)] : List TNode) 1, oL 102 5 a13 r9 c11, Box pt (tF t at_ ct at_2 ct2 at_3 ct3)] ?_
     obtain ⟨q968, hF⟩ := hF
     have q969 : r9.length + ([(⟨3, 0, (gt sN k), wr (((r8.length : Nat) : Int) - 1), wr (((r9.length : Nat) : Int) - 1)⟩ : TNode)] : List TNode).length = ((r9 ++ ([(⟨3, 0, (gt sN k), wr (((r8.length : Nat) : Int) - 1), wr (((r9.length : Nat) : Int) - 1)⟩ : TNode)] : List TNode))).length := len_app rfl rfl
     refine app (k := 1) (news := flL ([(⟨3, 0, (gt sN k), wr (((r8.length : Nat) : Int) - 1), wr (((r9.length : Nat) : Int) - 1)⟩ : TNode)] : List TNode)) (cs' := flL (r9 ++ ([(⟨3, 0, (gt sN k), wr (((r8.length : Nat) : Int) - 1), wr (((r9.length : Nat) : Int) - 1)⟩ : TNode)] : List TNode))) (nm := ((r9 ++ ([(⟨3, 0, (gt sN k), wr (((r8.length : Nat) : Int) - 1), wr (((r9.length : Nat) : Int) - 1)⟩ : TNode)] : List TNode))).length) tS60 rfl (by decide) rfl rfl rfl (by rw [flL_len]; rfl) (srcS (k := 0) rfl) (flL_one _) (room_of q969 q968).1 (room_of q969 q968).2 q969 (flL_append _ _).symm rfl (fun a15 c12 => ?_)
     refine .KA [oL 102 5 a14 ([(⟨3, 0, (gt sN k), wr (((r8.length : Nat) : Int) - 1), wr (((r9.length : Nat) : Int) - 1)⟩ : TNode)] : List TNode) 1, oL 102 5 a15 (r9 ++ ([(⟨3, 0, (gt sN k), wr (((r8.length : Nat) : Int) - 1), wr (((r9.length : Nat) : Int) - 1)⟩ : TNode)] : List TNode)) c12, Box pt (tF t at_ ct at_2 ct2 at_3 ct3)] ?_
     refine .V ag0 ?_
     refine .nil (.seqN (.ret (.blkR (.seqR (.seqR (.blkR (.seqR ?_)))))))
     refine .res1 rfl (rvT rfl) (fun w' S => ⟨(r9 ++ ([(⟨3, 0, (gt sN k), wr (((r8.length : Nat) : Int) - 1), wr (((r9.length : Nat) : Int) - 1)⟩ : TNode)] : List TNode)), a15, c12, hF, rfl, (S.pick (k := 1) rfl).anti (le30)⟩)
    replace hF := hF.2 q960
    refine .skip (.blkN (.seqN (.region (.V mv0 ?_))))
    refine .V bi0 ?_
    refine .V ag0 ?_
    refine .nil ?_
    exact .round (wr (k + 1)) hF.1 hF.2 sb rfl (le30)
   refine .region (.V mv0 ?_)
   refine .V (ln rfl tS35.is) ?_
   refine .V bi0 ?_
   refine .V mv0 ?_
   rcases Bool.eq_false_or_eq_true (decide (0 < ((r7.1.length : Nat) : Int))) with q970 | q970
   ·replace hF := hF.1 q970
    refine .GV mv0 q970 ?_
    refine .GV (ln rfl tS35.is) q970 ?_
    refine .GV bi0 q970 ?_
    refine .V (pkT rfl q970 rfl) ?_
    refine .V mv0 ?_
    rcases Bool.eq_false_or_eq_true (decide (0 < ((r7.2.length : Nat) : Int))) with q971 | q971
    ·replace hF := hF.1 q971
     refine .GV (ldA (cs := (tF t at_ ct at_2 ct2 at_3 ct3)) rfl tA25 rfl (cellsB (off := 0) (k := 1) rfl (m := 4) rfl)) q971 ?_
     refine .GV mv0 q971 ?_
     refine .GV mv0 q971 ?_
     refine .GV mv0 q971 ?_
     refine .GV bi0 q971 ?_
     obtain ⟨q972, hF⟩ := hF
     obtain ⟨r10, q973⟩ : ∃ y_ : Bool, y_ = sp_within t sN r7.1 (wr (d - 1)) := ⟨_, rfl⟩
     replace hF := hF r10 q973
     refine .gc (cl (v := .bool r10) Tryz.call34 rfl rfl (fun w S => (by rw [q973]; exact c_within S.sub t at_ ct (_q1.mono (le30)) _q2 at_2 ct2 (_q3.mono (le30)) _q4 at_3 ct3 (_q5.mono (le30)) _q6 sN aSn cSn (_q7.mono (le30)) _q8 r7.1 a10 c8 q948 q949 (wr (d - 1)) q972))) rfl rfl rfl q971 rfl rfl ?_
     refine .V (pkT rfl q971 rfl) ?_
     refine .V mv0 ?_
     rcases Bool.eq_false_or_eq_true (r10) with q974 | q974
     ·replace hF := hF.1 q974
      refine .GV (ldA (cs := (tF t at_ ct at_2 ct2 at_3 ct3)) rfl tA25 rfl (cellsB (off := 0) (k := 1) rfl (m := 4) rfl)) q974 ?_
      refine .GV mv0 q974 ?_
      refine .GV mv0 q974 ?_
      refine .GV mv0 q974 ?_
      refine .GV bi0 q974 ?_
      obtain ⟨q975, hF⟩ := hF
      obtain ⟨r11, q976⟩ : ∃ y_ : Bool, y_ = sp_within t sN r7.2 (wr (d - 1)) := ⟨_, rfl⟩
      replace hF := hF r11 q976
      refine .gc (cl (v := .bool r11) Tryz.call34 rfl rfl (fun w S => (by rw [q976]; exact c_within S.sub t at_ ct (_q1.mono (le30)) _q2 at_2 ct2 (_q3.mono (le30)) _q4 at_3 ct3 (_q5.mono (le30)) _q6 sN aSn cSn (_q7.mono (le30)) _q8 r7.2 a11 c9 q950 q951 (wr (d - 1)) q975))) rfl rfl rfl q974 rfl rfl ?_
      refine .V (pkT rfl q974 rfl) ?_
      refine .nil ?_
      exact .US q959 r11 hF
     replace hF := hF.2 q974
     refine .GS q974 ?_
     refine .GS q974 ?_
     refine .GS q974 ?_
     refine .GS q974 ?_
     refine .GS q974 ?_
     refine .GS q974 ?_
     refine .V (pkF rfl q974 rfl) ?_
     refine .nil ?_
     exact .US q959 false hF
    replace hF := hF.2 q971
    refine .GS q971 ?_
    refine .GS q971 ?_
    refine .GS q971 ?_
    refine .GS q971 ?_
    refine .GS q971 ?_
    refine .GS q971 ?_
    refine .V (pkF rfl q971 rfl) ?_
    refine .V mv0 ?_
    refine .gS rfl rfl rfl rfl rfl rfl ?_
    refine .gS rfl rfl rfl rfl rfl rfl ?_
    refine .gS rfl rfl rfl rfl rfl rfl ?_
    refine .gS rfl rfl rfl rfl rfl rfl ?_
    refine .gS rfl rfl rfl rfl rfl rfl ?_
    refine .gS rfl rfl rfl rfl rfl rfl ?_
    refine .V (pkF rfl rfl rfl) ?_
    refine .nil ?_
    exact .US q959 false hF
   replace hF := hF.2 q970
   refine .GS q970 ?_
   refine .GS q970 ?_
   refine .GS q970 ?_
   refine .V (pkF rfl q970 rfl) ?_
   refine .V mv0 ?_
   refine .gS rfl rfl rfl rfl rfl rfl ?_
   refine .gS rfl rfl rfl rfl rfl rfl ?_
   refine .gS rfl rfl rfl rfl rfl rfl ?_
   refine .gS rfl rfl rfl rfl rfl rfl ?_
   refine .gS rfl rfl rfl rfl rfl rfl ?_
   refine .gS rfl rfl rfl rfl rfl rfl ?_
   refine .V (pkF rfl rfl rfl) ?_
   refine .V mv0 ?_
   refine .gS rfl rfl rfl rfl rfl rfl ?_
   refine .gS rfl rfl rfl rfl rfl rfl ?_
   refine .gS rfl rfl rfl rfl rfl rfl ?_
   refine .gS rfl rfl rfl rfl rfl rfl ?_
   refine .gS rfl rfl rfl rfl rfl rfl ?_
   refine .gS rfl rfl rfl rfl rfl rfl ?_
   refine .V (pkF rfl rfl rfl) ?_
   refine .nil ?_
   exact .US q959 false hF
  replace hF := hF.2 q880
  refine .exit (.seqX (.seqX (.blkX (.seqN (.seq (.region (.V mv0 ?_)))))))
  refine .V ag0 ?_
  refine .nil (.seqN (.ret ?_))
  refine .res1 rfl (rvT rfl) (fun w' S => ⟨out, aout, cout, hF, rfl, (S.pick (k := 0) rfl)⟩)
 refine .region (.V mv0 ?_)
 refine .V bi0 ?_
 refine .V mv0 ?_
 rcases Bool.eq_false_or_eq_true (d == 0) with q977 | q977
 ·replace hF := hF.1 q977
  refine .GS q977 ?_
  refine .GS q977 ?_
  refine .GS q977 ?_
  refine .V (pkT rfl q977 rfl) ?_
  refine .nil ?_
  exact .US q54 true hF
 replace hF := hF.2 q977
 refine .GV mv0 q977 ?_
 refine .GV mv0 q977 ?_
 refine .GV bi0 q977 ?_
 refine .V (pkF rfl q977 rfl) ?_
 refine .nil ?_
 exact .US q54 (decide (most < d)) hF
theorem c_tree_ : ∀ (mM : Nat) {h : FH} {w : World} (_ : Sub h w) (t : Task) (at_ : Option Addr) (ct : Nat) (_q1 : RSl h at_ t.init) (_q2 : t.init.length ≤ ct) (at_2 : Option Addr) (ct2 : Nat) (_q3 : RSl h at_2 t.goal) (_q4 : t.goal.length ≤ ct2) (at_3 : Option Addr) (ct3 : Nat) (_q5 : RSl h at_3 t.ops) (_q6 : t.ops.length ≤ ct3) (sN : List Int) (aSn : Option Addr) (cSn : Nat) (_q7 : RSl h aSn sN) (_q8 : sN.length ≤ cSn) (l : List (List Int)) (al2 : Option Addr) (cl2 : Nat) (_q9 : RSl h al2 l) (_q10 : l.length ≤ cl2) (most : Int) (out : List TNode) (aout : Option Addr) (cout : Nat) {gX : FH} (_ : OwnSl 102 5 aout out.length cout (flL out) gX) (_ : Sub gX w) (_ : Disj h gX) (_ : mu_tree t sN l most out = mM) (_ : pre_tree t sN l most out), Calls Tryz.prog 36 #[.agg #[iV t.facts, .slice at_ t.init.length ct, .slice at_2 t.goal.length ct2, .slice at_3 t.ops.length ct3], .slice aSn sN.length cSn, .slice al2 l.length cl2, iV most, .slice aout out.length cout] w fun e w' => ∃ (a' : Option Addr) (c' : Nat), e = .returned (.slice a' (sp_tree t sN l most out).length c') ∧ SH (Kp.ex w h gX) h w' [OwnSl 102 5 a' (sp_tree t sN l most out).length c' (flL (sp_tree t sN l most out))] := by
 intro mM
 induction mM using Nat.strongRecOn with
 | _ mM ih =>
  intro h w hs t at_ ct _q1 _q2 at_2 ct2 _q3 _q4 at_3 ct3 _q5 _q6 sN aSn cSn _q7 _q8 l al2 cl2 _q9 _q10 most out aout cout gX ownX subX disX hm hp
  exact (w_tree hs t at_ ct _q1 _q2 at_2 ct2 _q3 _q4 at_3 ct3 _q5 _q6 sN aSn cSn _q7 _q8 l al2 cl2 _q9 _q10 most out aout cout ownX subX disX _ rfl (fun hs' t at_ ct _q1 _q2 at_2 ct2 _q3 _q4 at_3 ct3 _q5 _q6 sN aSn cSn _q7 _q8 l al2 cl2 _q9 _q10 most out aout cout gX ownX subX disX hlt hp => ih _ (hm ▸ hlt) hs' t at_ ct _q1 _q2 at_2 ct2 _q3 _q4 at_3 ct3 _q5 _q6 sN aSn cSn _q7 _q8 l al2 cl2 _q9 _q10 most out aout cout ownX subX disX rfl hp) (fun r => r = sp_tree t sN l most out) (ok_tree t sN l most out hp)).mono fun _ _ ⟨r, a', c', hk, he, hS⟩ => by subst hk; exact ⟨a', c', he, hS⟩
theorem c_tree {h : FH} {w : World} (hs : Sub h w) (t : Task) (at_ : Option Addr) (ct : Nat) (_q1 : RSl h at_ t.init) (_q2 : t.init.length ≤ ct) (at_2 : Option Addr) (ct2 : Nat) (_q3 : RSl h at_2 t.goal) (_q4 : t.goal.length ≤ ct2) (at_3 : Option Addr) (ct3 : Nat) (_q5 : RSl h at_3 t.ops) (_q6 : t.ops.length ≤ ct3) (sN : List Int) (aSn : Option Addr) (cSn : Nat) (_q7 : RSl h aSn sN) (_q8 : sN.length ≤ cSn) (l : List (List Int)) (al2 : Option Addr) (cl2 : Nat) (_q9 : RSl h al2 l) (_q10 : l.length ≤ cl2) (most : Int) (out : List TNode) (aout : Option Addr) (cout : Nat) {gX : FH} (ownX : OwnSl 102 5 aout out.length cout (flL out) gX) (subX : Sub gX w) (disX : Disj h gX) (hp : pre_tree t sN l most out) : Calls Tryz.prog 36 #[.agg #[iV t.facts, .slice at_ t.init.length ct, .slice at_2 t.goal.length ct2, .slice at_3 t.ops.length ct3], .slice aSn sN.length cSn, .slice al2 l.length cl2, iV most, .slice aout out.length cout] w fun e w' => ∃ (a' : Option Addr) (c' : Nat), e = .returned (.slice a' (sp_tree t sN l most out).length c') ∧ SH (Kp.ex w h gX) h w' [OwnSl 102 5 a' (sp_tree t sN l most out).length c' (flL (sp_tree t sN l most out))] :=
 c_tree_ _ hs t at_ ct _q1 _q2 at_2 ct2 _q3 _q4 at_3 ct3 _q5 _q6 sN aSn cSn _q7 _q8 l al2 cl2 _q9 _q10 most out aout cout ownX subX disX rfl hp
theorem w_trees {h : FH} {w : World} (hs : Sub h w) (a : List TNode) (aa : Option Addr) (ca : Nat) (_q1 : RSl h aa a) (_q2 : a.length ≤ ca) (b : List TNode) (ab : Option Addr) (cb : Nat) (_q3 : RSl h ab b) (_q4 : b.length ≤ cb) (K : Bool → Prop) (hF : F_trees a b K) : Calls Tryz.prog 35 #[.slice aa a.length ca, .slice ab b.length cb] w fun e w' => ∃ r : Bool, K r ∧ e = .returned (.bool r) ∧ Below w.heap.size w w' := by
 refine enter (args := [vSl aa a ca, vSl ab b cb]) Tryz.func35 rfl Tryz.ntmps35 rfl hs ?_
 refine .seq (.region (.V ag0 ?_))
 refine .nil (.seqN (.seq (.seq (.region (.V mv0 ?_)))))
 refine .V (ln rfl tS60.is) ?_
 refine .V mv0 ?_
 refine .V (ln rfl tS60.is) ?_
 refine .V bi0 ?_
 refine .nil (.seqN ?_)
 refine .cond rfl (fun q6 => ?_) (fun q6 => ?_)
 ·replace hF := hF.1 q6
  refine .seq (.region (.V ag0 ?_))
  refine .nil (.seqN (.ret (.seqR ?_)))
  refine .res1 rfl (rvT rfl) (fun w' S => ⟨false, hF, rfl, S.below⟩)
 replace hF := hF.2 q6
 refine .skip (.seqN (.seq (.seq (.region (.V ag0 ?_)))))
 refine .nil (.seqN (.block ?_))
 obtain ⟨I1, μ1, q79, q80⟩ := hF
 refine .loop' (σ := Int) (fun z => I1 z) (fun z => μ1 z) (fun z => [(0, vSl aa a ca), (1, vSl ab b cb), (5, iV z)]) (fun _ => []) (fun _ => h) 0 q79 sb rfl (FH.le_refl _) ?_
 rintro i q79
 have hF := q80 i q79
 show J _ _ _ _ _ [(0, vSl aa a ca), (1, vSl ab b cb), (5, iV i)] [] h
 refine .seq (.seq (.region (.V mv0 ?_)))
 refine .V mv0 ?_
 refine .V (ln rfl tS60.is) ?_
 refine .V bi0 ?_
 refine .nil (.seqN ?_)
 refine .cond rfl (fun q82 => ?_) (fun q82 => ?_)
 ·replace hF := hF.1 q82
  refine .skip (.seqN (.seq (.block (.seq ?_))))
  refine .open_ (by kernel_rfl) (by kernel_rfl) ?_
  refine .V mv0 ?_
  refine .V mv0 ?_
  obtain ⟨q91, hF⟩ := hF
  refine .V (ix rfl rfl tS60 (_q1.ne (by decide) (inb_pos q91)) q91) ?_
  refine .V (ldA (cs := [iV ((gt a i).kind), iV ((gt a i).op), iV ((gt a i).fact), iV ((gt a i).yes), iV ((gt a i).no)]) rfl tA102 rfl (cellsH (_q1.elemF q91 (by decide)))) ?_
  refine .V mv0 ?_
  refine .V mv0 ?_
  obtain ⟨q92, hF⟩ := hF
  refine .V (ix rfl rfl tS60 (_q3.ne (by decide) (inb_pos q92)) q92) ?_
  refine .V (ldA (cs := [iV ((gt b i).kind), iV ((gt b i).op), iV ((gt b i).fact), iV ((gt b i).yes), iV ((gt b i).no)]) rfl tA102 rfl (cellsH (_q3.elemF q92 (by decide)))) ?_
  obtain ⟨x, q93⟩ : ∃ y_ : Bool, y_ = (!((((((gt a i).kind) == ((gt b i).kind)) && (((gt a i).op) == ((gt b i).op))) && ((((gt a i).fact) == ((gt b i).fact)) && (((gt a i).yes) == ((gt b i).yes)))) && (((gt a i).no) == ((gt b i).no)))) := ⟨_, rfl⟩
  replace hF := hF x q93
  refine .v (v := .bool x) (by rw [q93]; exact ne5 tE102 rfl rfl) rfl rfl rfl ?_
  refine .fin ?_
  refine .seqN ?_
  refine .cond rfl (fun q94 => ?_) (fun q94 => ?_)
  ·replace hF := hF.1 q94
   refine .seq (.region (.V ag0 ?_))
   refine .nil (.seqN (.ret (.blkR (.seqR (.seqR (.blkR (.seqR ?_)))))))
   refine .res1 rfl (rvT rfl) (fun w' S => ⟨false, hF, rfl, S.below⟩)
  replace hF := hF.2 q94
  refine .skip (.blkN (.seqN (.region (.V mv0 ?_))))
  refine .V bi0 ?_
  refine .V ag0 ?_
  refine .nil ?_
  exact .RO (wr (i + 1)) hF.1 hF.2
 replace hF := hF.2 q82
 refine .exit (.seqX (.seqX (.blkX (.seqN (.seq (.region (.V ag0 ?_)))))))
 refine .nil (.seqN (.ret ?_))
 refine .res1 rfl (rvT rfl) (fun w' S => ⟨true, hF, rfl, S.below⟩)
theorem c_trees {h : FH} {w : World} (hs : Sub h w) (a : List TNode) (aa : Option Addr) (ca : Nat) (_q1 : RSl h aa a) (_q2 : a.length ≤ ca) (b : List TNode) (ab : Option Addr) (cb : Nat) (_q3 : RSl h ab b) (_q4 : b.length ≤ cb) (hp : pre_trees a b) : Calls Tryz.prog 35 #[.slice aa a.length ca, .slice ab b.length cb] w fun e w' => e = .returned (.bool (sp_trees a b)) ∧ Below w.heap.size w w' :=
 (w_trees hs a aa ca _q1 _q2 b ab cb _q3 _q4 (fun r => r = sp_trees a b) (ok_trees a b hp)).mono fun _ _ ⟨_, hk, he, hb⟩ => ⟨by rw [he, hk], hb⟩
end Go.Proofs.YtojoehfldbimpaaGreatDoor.Pl

namespace Go.Proofs
open Go.Shelf
def YtojoehfldbimpaaGreatDoor.lays171_ren : Go.Shelf.Ren := ⟨fun | 171 => 113 | 243 => 123 | 246 => 148 | 283 => 144 | 284 => 145 | 285 => 146 | 286 => 147 | 129 => 135 | 317 => 158 | 318 => 159 | 319 => 160 | 320 => 161 | 337 => 164 | 338 => 165 | n => n, fun | 3 => 3 | 9 => 9 | 2 => 2 | 4 => 4 | 171 => 155 | 0 => 0 | 53 => 137 | 37 => 110 | 5 => 5 | 173 => 157 | 212 => 171 | 51 => 148 | 20 => 20 | 213 => 172 | 46 => 131 | 232 => 177 | 233 => 178 | n => n, fun | 17 => 0 | 18 => 1 | 19 => 2 | n => n⟩
theorem YtojoehfldbimpaaGreatDoor.lays171 : Go.Proofs.Lays.n171 Tryz.prog YtojoehfldbimpaaGreatDoor.lays171_ren := {
  mixed := by kernel_rfl
  f129 := Tryz.func135.trans (congrArg some (by kernel_rfl))
  f171 := Tryz.func113.trans (congrArg some (by kernel_rfl))
  f243 := Tryz.func123.trans (congrArg some (by kernel_rfl))
  f246 := Tryz.func148.trans (congrArg some (by kernel_rfl))
  f283 := Tryz.func144.trans (congrArg some (by kernel_rfl))
  f284 := Tryz.func145.trans (congrArg some (by kernel_rfl))
  f285 := Tryz.func146.trans (congrArg some (by kernel_rfl))
  f286 := Tryz.func147.trans (congrArg some (by kernel_rfl))
  f317 := Tryz.func158.trans (congrArg some (by kernel_rfl))
  f318 := Tryz.func159.trans (congrArg some (by kernel_rfl))
  f319 := Tryz.func160.trans (congrArg some (by kernel_rfl))
  f320 := Tryz.func161.trans (congrArg some (by kernel_rfl))
  f337 := Tryz.func164.trans (congrArg some (by kernel_rfl))
  f338 := Tryz.func165.trans (congrArg some (by kernel_rfl))
  t0 := Tryz.underlying0
  a0 := Tryz.isAgg0
  z0 := Tryz.sizeOf0
  v0 := Tryz.zeroValue0
  t2 := Tryz.underlying2
  a2 := Tryz.isAgg2
  z2 := Tryz.sizeOf2
  v2 := Tryz.zeroValue2
  t3 := Tryz.underlying3
  a3 := Tryz.isAgg3
  z3 := Tryz.sizeOf3
  v3 := Tryz.zeroValue3
  t4 := Tryz.underlying4
  a4 := Tryz.isAgg4
  z4 := Tryz.sizeOf4
  v4 := Tryz.zeroValue4
  t5 := Tryz.underlying5
  a5 := Tryz.isAgg5
  z5 := Tryz.sizeOf5
  v5 := Tryz.zeroValue5
  t9 := Tryz.underlying9
  a9 := Tryz.isAgg9
  z9 := Tryz.sizeOf9
  v9 := Tryz.zeroValue9
  t20 := Tryz.underlying20
  a20 := Tryz.isAgg20
  z20 := Tryz.sizeOf20
  v20 := Tryz.zeroValue20
  t37 := Tryz.underlying110
  a37 := Tryz.isAgg110
  z37 := Tryz.sizeOf110
  v37 := Tryz.zeroValue110
  t46 := Tryz.underlying131
  a46 := Tryz.isAgg131
  z46 := Tryz.sizeOf131
  v46 := Tryz.zeroValue131
  t51 := Tryz.underlying148
  a51 := Tryz.isAgg148
  z51 := Tryz.sizeOf148
  v51 := Tryz.zeroValue148
  t53 := Tryz.underlying137
  a53 := Tryz.isAgg137
  z53 := Tryz.sizeOf137
  v53 := Tryz.zeroValue137
  t171 := Tryz.underlying155
  a171 := Tryz.isAgg155
  z171 := Tryz.sizeOf155
  v171 := Tryz.zeroValue155
  t173 := Tryz.underlying157
  a173 := Tryz.isAgg157
  z173 := Tryz.sizeOf157
  v173 := Tryz.zeroValue157
  t212 := Tryz.underlying171
  a212 := Tryz.isAgg171
  z212 := Tryz.sizeOf171
  v212 := Tryz.zeroValue171
  t213 := Tryz.underlying172
  a213 := Tryz.isAgg172
  z213 := Tryz.sizeOf172
  t232 := Tryz.underlying177
  a232 := Tryz.isAgg177
  z232 := Tryz.sizeOf177
  v232 := Tryz.zeroValue177
  t233 := Tryz.underlying178
  a233 := Tryz.isAgg178
  z233 := Tryz.sizeOf178
  v233 := Tryz.zeroValue178
  g17 := by kernel_rfl
  g18 := by kernel_rfl
  g19 := by kernel_rfl }
end Go.Proofs
namespace Go.Proofs.YtojoehfldbimpaaGreatDoor.Pl
open Go Go.RowKit
theorem c_itoa {h : FH} {w : World} (_ : Sub h w) (i : Int) (hp : pre_itoa i) : Calls Tryz.prog 113 #[.int .i64 i] w fun e w' => e = .returned (strV (sp_itoa i)) ∧ Below w.heap.size w w' := by
 obtain ⟨h0, h1⟩ := hp
 have key := Any.strconv_Itoa_small YtojoehfldbimpaaGreatDoor.lays171 i.toNat (by omega) w
 rw [show ((i.toNat : Nat) : Int) = i by omega] at key
 refine key.mono fun e w' ⟨he, hw⟩ => ⟨?_, by rw [hw]; exact Below.refl _ _⟩
 rw [he]
 unfold sp_itoa Lib.itoa
 rw [if_neg (by omega)]
end Go.Proofs.YtojoehfldbimpaaGreatDoor.Pl

namespace Go.Proofs.YtojoehfldbimpaaGreatDoor.Pl
open Go Go.RowKit
theorem w_snext {h : FH} {w : World} (hs : Sub h w) (k : Srch) (ak : Option Addr) (ck : Nat) (_q1 : RSl h ak k.t.init) (_q2 : k.t.init.length ≤ ck) (ak2 : Option Addr) (ck2 : Nat) (_q3 : RSl h ak2 k.t.goal) (_q4 : k.t.goal.length ≤ ck2) (ak3 : Option Addr) (ck3 : Nat) (_q5 : RSl h ak3 k.t.ops) (_q6 : k.t.ops.length ≤ ck3) (ak4 : Option Addr) (ck4 : Nat) (_q7 : RSl h ak4 k.sN) (_q8 : k.sN.length ≤ ck4) (pk : Addr) (bk : Nat) (ta : Option Addr) (tn tc : Nat) (_q9 : CellsAt h pk [iV k.t.facts, .slice ak k.t.init.length ck, .slice ak2 k.t.goal.length ck2, .slice ak3 k.t.ops.length ck3, .slice ak4 k.sN.length ck4, .map (some bk), .slice ta tn tc]) (worlds : List (List Int)) (aworlds : Option Addr) (cworlds : Nat) (_q10 : RSl h aworlds worlds) (_q11 : worlds.length ≤ cworlds) (K : Unit → Prop) (hF : F_snext k worlds K) : Calls Tryz.prog 71 #[.pointer (some pk), .slice aworlds worlds.length cworlds] w fun e w' => ∃ (r : Unit) (z : Addr × Addr) (h1 : FH), K r ∧ e = .returned (.func (.func 96) #[] #[.pointer (some z.1), .pointer (some z.2)]) ∧ FH.le h h1 ∧ (CellsAt h1 z.1 [.pointer (some pk)] ∧ CellsAt h1 z.2 [.slice aworlds worlds.length cworlds]) ∧ SH (Kp.all w h) h1 w' [] := by
 refine enter (args := [.pointer (some pk), vSl aworlds worlds cworlds]) Tryz.func71 rfl Tryz.ntmps71 rfl hs ?_
 refine .seq (.region ?_)
 refine bx (vs := [.pointer (some pk)]) rfl rfl rfl (fun pk2 => ?_)
 refine bx (vs := [vSl aworlds worlds cworlds]) rfl rfl rfl (fun pworlds => ?_)
 refine .V ag0 ?_
 refine .nil (.seqN (.seq (.region (.V (mkf (vf := []) (vc := [.pointer (some pk2), .pointer (some pworlds)]) rfl rfl) ?_))))
 refine .V ag0 ?_
 refine .nil (.seqN ?_)
 refine .freezeBx (k := 1) rfl (fun h1 le1 q12 => ?_)
 refine .KA [Box pworlds [vSl aworlds worlds cworlds], tru] ?_
 refine .freezeBx (k := 0) rfl (fun h2 le2 q13 => ?_)
 refine .KA [tru, tru] ?_
 refine .ret ?_
 refine .res1 rfl (rvT rfl) (fun w' S => ⟨(), (pk2, pworlds), h2, hF, rfl, (FH.le_trans (le1) (le2)), ⟨(CellsAt.mono (le2) q12), (CellsAt.mono (FH.le_refl _) q13)⟩, S.none⟩)
theorem c_snext {h : FH} {w : World} (hs : Sub h w) (k : Srch) (ak : Option Addr) (ck : Nat) (_q1 : RSl h ak k.t.init) (_q2 : k.t.init.length ≤ ck) (ak2 : Option Addr) (ck2 : Nat) (_q3 : RSl h ak2 k.t.goal) (_q4 : k.t.goal.length ≤ ck2) (ak3 : Option Addr) (ck3 : Nat) (_q5 : RSl h ak3 k.t.ops) (_q6 : k.t.ops.length ≤ ck3) (ak4 : Option Addr) (ck4 : Nat) (_q7 : RSl h ak4 k.sN) (_q8 : k.sN.length ≤ ck4) (pk : Addr) (bk : Nat) (ta : Option Addr) (tn tc : Nat) (_q9 : CellsAt h pk [iV k.t.facts, .slice ak k.t.init.length ck, .slice ak2 k.t.goal.length ck2, .slice ak3 k.t.ops.length ck3, .slice ak4 k.sN.length ck4, .map (some bk), .slice ta tn tc]) (worlds : List (List Int)) (aworlds : Option Addr) (cworlds : Nat) (_q10 : RSl h aworlds worlds) (_q11 : worlds.length ≤ cworlds) : Calls Tryz.prog 71 #[.pointer (some pk), .slice aworlds worlds.length cworlds] w fun e w' => ∃ (z : Addr × Addr) (h1 : FH), e = .returned (.func (.func 96) #[] #[.pointer (some z.1), .pointer (some z.2)]) ∧ FH.le h h1 ∧ (CellsAt h1 z.1 [.pointer (some pk)] ∧ CellsAt h1 z.2 [.slice aworlds worlds.length cworlds]) ∧ SH (Kp.all w h) h1 w' [] :=
 (w_snext hs k ak ck _q1 _q2 ak2 ck2 _q3 _q4 ak3 ck3 _q5 _q6 ak4 ck4 _q7 _q8 pk bk ta tn tc _q9 worlds aworlds cworlds _q10 _q11 (fun r => r = sp_snext k worlds) (ok_snext k worlds)).mono fun _ _ ⟨r, z, h1, hk, he, hl, hf, hS⟩ => by subst hk; exact ⟨z, h1, he, hl, hf, hS⟩
set_option maxHeartbeats 8000000 in
theorem w_breadthC {h : FH} {w : World} (hs : Sub h w) (ht : TabH Tryz.prog h) (start2 : List (List Int)) (astart2 : Option Addr) (cstart2 : Nat) (_q1 : RSl h astart2 start2) (_q2 : start2.length ≤ cstart2) (k : Srch) (ak : Option Addr) (ck : Nat) (_q3 : RSl h ak k.t.init) (_q4 : k.t.init.length ≤ ck) (ak2 : Option Addr) (ck2 : Nat) (_q5 : RSl h ak2 k.t.goal) (_q6 : k.t.goal.length ≤ ck2) (ak3 : Option Addr) (ck3 : Nat) (_q7 : RSl h ak3 k.t.ops) (_q8 : k.t.ops.length ≤ ck3) (ak4 : Option Addr) (ck4 : Nat) (_q9 : RSl h ak4 k.sN) (_q10 : k.sN.length ≤ ck4) (pk : Addr) (bk : Nat) (ta : Option Addr) (tn tc : Nat) (_q11 : CellsAt h pk [iV k.t.facts, .slice ak k.t.init.length ck, .slice ak2 k.t.goal.length ck2, .slice ak3 k.t.ops.length ck3, .slice ak4 k.sN.length ck4, .map (some bk), .slice ta tn tc]) (K : (List Int × Bool × Bool) → Prop) (hF : F_breadthC start2 k K) : Calls Tryz.prog 50 #[.slice astart2 start2.length cstart2, .func (.func 49) #[] #[], .func (.func 71) #[.pointer (some pk)] #[], .func (.func 82) #[] #[]] w fun e w' => ∃ (r : List Int × Bool × Bool) (z : Option Addr × Nat) (h1 : FH), K r ∧ e = .returned (.tuple #[.slice z.1 r.1.length z.2, .bool r.2.1, .bool r.2.2]) ∧ FH.le h h1 ∧ (RSl h1 z.1 r.1 ∧ r.1.length ≤ z.2) ∧ SH (Kp.all w h) h1 w' [] := by
 refine enterM (args := [vSl astart2 start2 cstart2, .func (.func 49) #[] #[], .func (.func 71) #[.pointer (some pk)] #[], .func (.func 82) #[] #[]]) Tryz.func50 rfl Tryz.ntmps50 rfl hs ?_
 refine .seq (.region ?_)
 refine bx (vs := [.func (.func 49) #[] #[]]) rfl rfl rfl (fun pkey => ?_)
 refine al tZ22 rfl (fun pv => ?_)
 refine al tZ4 rfl (fun pv2 => ?_)
 refine al tZ4 rfl (fun pv3 => ?_)
 refine .nil (.seqN (.seq (.region (.V mv0 ?_))))
 refine .V (bld (cs := #[vSl astart2 start2 cstart2, iV (-1), iV 0]) (pv := [(0, vSl astart2 start2 cstart2), (1, iV (-1))]) tB113 rfl rfl) ?_
 refine bs2 (cs := #[vSl astart2 start2 cstart2, iV (-1), iV 0]) (pv := [(0, .agg #[vSl astart2 start2 cstart2, iV (-1), iV 0])]) tS114 rfl rfl (by decide) (by decide) rfl rfl rfl (fun a _ => ?_)
 refine .KA [OwnSl 113 3 a (([(⟨start2, (-1), 0⟩ : Entry)] : List Entry).length) 1 [vSl astart2 start2 cstart2, iV (-1), iV 0], Box pv3 [.bool false], Box pv2 [.bool false], Box pv [.slice none 0 0], Box pkey [.func (.func 49) #[] #[]], MkA []] ?_
 refine al tZ114 rfl (fun pqueue => ?_)
 refine st (p := pqueue) (off := 0) (k := 0) (vs := [.slice a (([(⟨start2, (-1), 0⟩ : Entry)] : List Entry).length) 1]) rfl rfl rfl (fun w => (tO114 w).2) rfl rfl rfl rfl ?_
 refine .KA [Box pqueue [.slice a (([(⟨start2, (-1), 0⟩ : Entry)] : List Entry).length) 1], OwnSl 113 3 a (([(⟨start2, (-1), 0⟩ : Entry)] : List Entry).length) 1 [vSl astart2 start2 cstart2, iV (-1), iV 0], Box pv3 [.bool false], Box pv2 [.bool false], Box pv [.slice none 0 0], Box pkey [.func (.func 49) #[] #[]], MkA []] ?_
 refine .nil (.seqN (.seq (.region ?_)))
 refine mm rfl (fun bv => ?_)
 refine .V (ld1 rfl tO80 (cellB (off := 0) (k := 6) rfl rfl)) ?_
 refine .V mv0 ?_
 obtain ⟨q13, hF⟩ := hF
 obtain ⟨r2, q14⟩ : ∃ y_ : List UInt8, y_ = sp_key start2 := ⟨_, rfl⟩
 replace hF := hF r2 q14
 refine .C (cl (v := strV r2) Tryz.call49 rfl rfl (fun w S => (by rw [q14]; exact c_key S.sub (ht.mono (FH.le_refl _)) start2 astart2 cstart2 _q1 _q2 q13))) ?_
 refine mi tM97 rfl rfl rfl (kk := 0) rfl ?_
 refine .KA [OwnMap bv (upd (fun _ => 0) r2 1), Box pqueue [.slice a (([(⟨start2, (-1), 0⟩ : Entry)] : List Entry).length) 1], OwnSl 113 3 a (([(⟨start2, (-1), 0⟩ : Entry)] : List Entry).length) 1 [vSl astart2 start2 cstart2, iV (-1), iV 0], Box pv3 [.bool false], Box pv2 [.bool false], Box pv [.slice none 0 0], Box pkey [.func (.func 49) #[] #[]], MkA []] ?_
 refine .V mv0 ?_
 refine al tZ97 rfl (fun pseen => ?_)
 refine st (p := pseen) (off := 0) (k := 0) (vs := [.map (some bv)]) rfl rfl rfl (fun w => (tO97 w).2) rfl rfl rfl rfl ?_
 refine .KA [Box pseen [.map (some bv)], OwnMap bv (upd (fun _ => 0) r2 1), Box pqueue [.slice a (([(⟨start2, (-1), 0⟩ : Entry)] : List Entry).length) 1], OwnSl 113 3 a (([(⟨start2, (-1), 0⟩ : Entry)] : List Entry).length) 1 [vSl astart2 start2 cstart2, iV (-1), iV 0], Box pv3 [.bool false], Box pv2 [.bool false], Box pv [.slice none 0 0], Box pkey [.func (.func 49) #[] #[]], MkA []] ?_
 refine .nil (.seqN (.seq (.seq (.region ?_))))
 refine al tZ3 rfl (fun pat => ?_)
 refine st (p := pat) (off := 0) (k := 0) (vs := [iV 0]) rfl rfl rfl (fun w => (tO3 w).2) rfl rfl rfl rfl ?_
 refine .KA [Box pat [iV 0], Box pseen [.map (some bv)], OwnMap bv (upd (fun _ => 0) r2 1), Box pqueue [.slice a (([(⟨start2, (-1), 0⟩ : Entry)] : List Entry).length) 1], OwnSl 113 3 a (([(⟨start2, (-1), 0⟩ : Entry)] : List Entry).length) 1 [vSl astart2 start2 cstart2, iV (-1), iV 0], Box pv3 [.bool false], Box pv2 [.bool false], Box pv [.slice none 0 0], Box pkey [.func (.func 49) #[] #[]], MkA []] ?_
 refine .nil (.seqN (.block ?_))
 refine .sel0 [8, 7, 6, 5, 3, 1, 0, 9, 4, 2] (by decide) rfl ?_
 obtain ⟨I1, μ1, q13146, q13147⟩ := hF
 refine .loopN' (σ := Int × List Entry × (List UInt8 → Int) × Addr × List Nat × Option Addr × Nat × List Value × FH) (fun z => I1 z.1 z.2.1 z.2.2.1 ∧ RepL z.2.2.2.2.2.2.2.2 z.2.1 z.2.2.2.2.2.2.2.1 ∧ FH.le h z.2.2.2.2.2.2.2.2) (fun z => μ1 z.1 z.2.1 z.2.2.1) (fun z => ⟨92, none, z.2.2.2.2.1⟩) (fun z => [(2, .func (.func 71) #[.pointer (some pk)] #[]), (3, .func (.func 82) #[] #[]), (5, .pointer (some pkey)), (8, .pointer (some pv)), (9, .pointer (some pv2)), (10, .pointer (some pv3)), (11, .pointer (some pqueue)), (12, .pointer (some pseen)), (13, .pointer (some z.2.2.2.1))]) (fun z => [Box pkey [.func (.func 49) #[] #[]], Box pv [.slice none 0 0], Box pv2 [.bool false], Box pv3 [.bool false], Box pqueue [vSl z.2.2.2.2.2.1 z.2.1 z.2.2.2.2.2.2.1], Box pseen [.map (some bv)], Box z.2.2.2.1 [iV z.1], MkA z.2.2.2.2.1, OwnSl 113 3 z.2.2.2.2.2.1 z.2.1.length z.2.2.2.2.2.2.1 z.2.2.2.2.2.2.2.1, OwnMap bv z.2.2.1]) (fun z => z.2.2.2.2.2.2.2.2) (0, ([(⟨start2, (-1), 0⟩ : Entry)] : List Entry), (upd (fun _ => 0) r2 1), pat, [], a, 1, [vSl astart2 start2 cstart2, iV (-1), iV 0], h) ⟨q13146, (show RepL h ([(⟨start2, (-1), 0⟩ : Entry)] : List Entry) [vSl astart2 start2 cstart2, iV (-1), iV 0] from ⟨[vSl astart2 start2 cstart2, iV (-1), iV 0], _, rfl, ⟨astart2, cstart2, rfl, ⟨_q2, _q1⟩⟩, rfl⟩), (FH.le_refl _)⟩ (fun _ => rfl) rfl sb rfl (FH.le_refl _) ?_
 rintro ⟨x, l, m, p, dl, al2, cl2, csl, h523⟩ ⟨q13146, q10539, q10540⟩
 have hF := q13147 x l m q13146
 show J _ _ ⟨92, none, dl⟩ _ _ [(2, .func (.func 71) #[.pointer (some pk)] #[]), (3, .func (.func 82) #[] #[]), (5, .pointer (some pkey)), (8, .pointer (some pv)), (9, .pointer (some pv2)), (10, .pointer (some pv3)), (11, .pointer (some pqueue)), (12, .pointer (some pseen)), (13, .pointer (some p))] [Box pkey [.func (.func 49) #[] #[]], Box pv [.slice none 0 0], Box pv2 [.bool false], Box pv3 [.bool false], Box pqueue [vSl al2 l cl2], Box pseen [.map (some bv)], Box p [iV x], MkA dl, OwnSl 113 3 al2 l.length cl2 csl, OwnMap bv m] h523
 refine .seq (.seq (.region (.V (ld1 rfl tO3 (cellB (off := 0) (k := 6) rfl rfl)) ?_)))
 refine .V (ld1 rfl tO114 (cellB (off := 0) (k := 4) rfl rfl)) ?_
 refine .V (ln rfl tS114.is) ?_
 refine .V bi0 ?_
 refine .nil (.seqN ?_)
 refine .cond rfl (fun q13149 => ?_) (fun q13149 => ?_)
 ·replace hF := hF.1 q13149
  refine .skip (.seqN (.seq (.block (.seq (.seq (.region (.V mv0 ?_)))))))
  refine .V (ld1 rfl tO114 (cellB (off := 0) (k := 4) rfl rfl)) ?_
  refine .V (ld1 rfl tO3 (cellB (off := 0) (k := 6) rfl rfl)) ?_
  obtain ⟨q14884, hF⟩ := hF
  refine .V (ixS rfl rfl tS114 (k := 8) rfl q14884) ?_
  refine .V (fa rfl tF113_0) ?_
  obtain ⟨_, ⟨a2, c, rfl, q14885, q14886⟩, q14887⟩ := RepL.get q10539 (gt_get q14884)
  refine .V (ld1 (v := .slice a2 ((gt l x).node.length) c) rfl tO35 (cellF (k := 8) rfl (q14887 0 _ rfl))) ?_
  obtain ⟨r3, q14888⟩ : ∃ y_ : Bool, y_ = sp_small1 ((gt l x).node) := ⟨_, rfl⟩
  replace hF := hF r3 q14888
  refine .C (cl (v := .bool r3) Tryz.call82 rfl rfl (fun w S => (by rw [q14888]; exact c_small1 S.sub ((gt l x).node) a2 c q14886 q14885 ))) ?_
  refine .nil (.seqN ?_)
  refine .cond rfl (fun q14981 => ?_) (fun q14981 => ?_)
  ·replace hF := hF.1 q14981
   refine .seq (.region (.V ag0 ?_))
   refine .nil (.seqN (.seq (.seq (.region (.V (ld1 rfl tO3 (cellB (off := 0) (k := 6) rfl rfl)) ?_)))))
   refine .V ag0 ?_
   refine .nil (.seqN (.block ?_))
   refine .nilSl 3 1 ?_
   refine .KA [oL 3 1 none ([] : List Int) 0, Box pkey [.func (.func 49) #[] #[]], Box pv [.slice none 0 0], Box pv2 [.bool false], Box pv3 [.bool false], Box pqueue [vSl al2 l cl2], Box pseen [.map (some bv)], Box p [iV x], MkA dl, OwnSl 113 3 al2 l.length cl2 csl, OwnMap bv m] ?_
   refine .sel0 [2, 3, 4, 5, 0, 8, 9] (by decide) rfl ?_
   obtain ⟨I2, μ2, q15051, q15052⟩ := hF
   refine .loop' (σ := Int × List Int × Option Addr × Nat) (fun z => I2 z.1 z.2.1) (fun z => μ2 z.1 z.2.1) (fun z => [(8, .pointer (some pv)), (9, .pointer (some pv2)), (10, .pointer (some pv3)), (11, .pointer (some pqueue)), (14, vSl z.2.2.1 z.2.1 z.2.2.2), (15, iV z.1)]) (fun z => [Box pv [.slice none 0 0], Box pv2 [.bool false], Box pv3 [.bool false], Box pqueue [vSl al2 l cl2], oL 3 1 z.2.2.1 z.2.1 z.2.2.2, MkA dl, OwnSl 113 3 al2 l.length cl2 csl]) (fun _ => h523) (x, ([] : List Int), none, 0) q15051 sb rfl (FH.le_refl _) ?_
   rintro ⟨i, out, aout, cout⟩ q15051
   have hF := q15052 i out q15051
   show J _ _ _ _ _ [(8, .pointer (some pv)), (9, .pointer (some pv2)), (10, .pointer (some pv3)), (11, .pointer (some pqueue)), (14, vSl aout out cout), (15, iV i)] [Box pv [.slice none 0 0], Box pv2 [.bool false], Box pv3 [.bool false], Box pqueue [vSl al2 l cl2], oL 3 1 aout out cout, MkA dl, OwnSl 113 3 al2 l.length cl2 csl] h523
   refine .seq (.seq (.region (.V (ld1 rfl tO114 (cellB (off := 0) (k := 3) rfl rfl)) ?_)))
   refine .V mv0 ?_
   obtain ⟨q15053, hF⟩ := hF
   refine .V (ixS rfl rfl tS114 (k := 6) rfl q15053) ?_
   refine .V (fa rfl tF113_1) ?_
   obtain ⟨_, ⟨a3, c2, rfl, q15054, q15055⟩, q15056⟩ := RepL.get q10539 (gt_get q15053)
   refine .V (ld1 (v := iV ((gt l i).from_)) rfl tO3 (cellF (k := 6) rfl (q15056 1 _ rfl))) ?_
   refine .V bi0 ?_
   refine .nil (.seqN ?_)
   refine .cond rfl (fun q15058 => ?_) (fun q15058 => ?_)
   ·replace hF := hF.1 q15058
    refine .skip (.seqN (.seq (.block (.region (.V mv0 ?_)))))
    refine .V (ld1 rfl tO114 (cellB (off := 0) (k := 3) rfl rfl)) ?_
    refine .V mv0 ?_
    refine .V (ixS rfl rfl tS114 (k := 6) rfl q15053) ?_
    refine .V (fa rfl tF113_2) ?_
    refine .V (ld1 (v := iV ((gt l i).step)) rfl tO3 (cellF (k := 6) rfl (q15056 2 _ rfl))) ?_
    refine bs2 (cs := #[iV ((gt l i).step)]) (pv := [(0, iV ((gt l i).step))]) tS22 rfl rfl (by decide) (by decide) rfl rfl rfl (fun a4 _ => ?_)
    refine .KA [oL 3 1 a4 ([(gt l i).step] : List Int) 1, Box pv [.slice none 0 0], Box pv2 [.bool false], Box pv3 [.bool false], Box pqueue [vSl al2 l cl2], oL 3 1 aout out cout, MkA dl, OwnSl 113 3 al2 l.length cl2 csl] ?_
    obtain ⟨q15066, hF⟩ := hF
    have q15067 : out.length + ([(gt l i).step] : List Int).length = ((out ++ ([(gt l i).step] : List Int))).length := len_app rfl rfl
    refine app (k := 5) (news := flL ([(gt l i).step] : List Int)) (cs' := flL (out ++ ([(gt l i).step] : List Int))) (nm := ((out ++ ([(gt l i).step] : List Int))).length) tS22 rfl (by decide) rfl rfl rfl (by rw [flL_len]; rfl) (srcS (k := 0) rfl) (flL_one _) (room_of q15067 q15066).1 (room_of q15067 q15066).2 q15067 (flL_append _ _).symm rfl (fun a5 c3 => ?_)
    refine .KA [oL 3 1 a4 ([(gt l i).step] : List Int) 1, Box pv [.slice none 0 0], Box pv2 [.bool false], Box pv3 [.bool false], Box pqueue [vSl al2 l cl2], oL 3 1 a5 (out ++ ([(gt l i).step] : List Int)) c3, MkA dl, OwnSl 113 3 al2 l.length cl2 csl] ?_
    refine .V ag0 ?_
    refine .nil (.blkN (.seqN (.region (.V (ld1 rfl tO114 (cellB (off := 0) (k := 4) rfl rfl)) ?_))))
    refine .V mv0 ?_
    refine .V (ixS rfl rfl tS114 (k := 7) rfl q15053) ?_
    refine .V (fa rfl tF113_1) ?_
    refine .V (ld1 (v := iV ((gt l i).from_)) rfl tO3 (cellF (k := 7) rfl (q15056 1 _ rfl))) ?_
    refine .V ag0 ?_
    refine .nil ?_
    refine .sel0 [1, 2, 3, 4, 5, 6, 7] (by decide) rfl ?_
    exact .RO ((gt l i).from_, (out ++ ([(gt l i).step] : List Int)), a5, c3) hF.1 hF.2
   replace hF := hF.2 q15058
   refine .exit (.seqX (.seqX (.blkX (.seqN (.seq (.region (.V mv0 ?_)))))))
   obtain ⟨q15068, hF⟩ := hF
   obtain ⟨r4, q15069⟩ : ∃ y_ : List Int, y_ = sp_reverse out := ⟨_, rfl⟩
   replace hF := hF r4 q15069
   refine callX (k := 4) (v := .tuple #[]) (X' := OwnSl 3 1 aout out.length cout (flL r4)) rfl Tryz.call86 rfl rfl (fun w g hx sg hd hs' => ?_) rfl ?_
   ·rw [q15069]; exact c_reverse hs' out aout cout hx sg hd q15068
   have q15070 : r4.length = out.length := by rw [q15069]; exact (sp_reverse_len out).trans rfl
   refine .KA [Box pv [.slice none 0 0], Box pv2 [.bool false], Box pv3 [.bool false], Box pqueue [vSl al2 l cl2], OwnSl 3 1 aout out.length cout (flL r4), MkA dl, OwnSl 113 3 al2 l.length cl2 csl] ?_
   refine .nil (.seqN (.seq (.region (.V mv0 ?_))))
   refine st (p := pv) (off := 0) (k := 0) (vs := [vSl aout out cout]) rfl rfl rfl (fun w => (tO22 w).2) rfl rfl rfl rfl ?_
   refine .KA [Box pv [vSl aout out cout], Box pv2 [.bool false], Box pv3 [.bool false], Box pqueue [vSl al2 l cl2], OwnSl 3 1 aout out.length cout (flL r4), MkA dl, OwnSl 113 3 al2 l.length cl2 csl] ?_
   refine st (p := pv2) (off := 0) (k := 1) (vs := [.bool true]) rfl rfl rfl (fun w => (tO4 w).2) rfl rfl rfl rfl ?_
   refine .KA [Box pv [vSl aout out cout], Box pv2 [.bool true], Box pv3 [.bool false], Box pqueue [vSl al2 l cl2], OwnSl 3 1 aout out.length cout (flL r4), MkA dl, OwnSl 113 3 al2 l.length cl2 csl] ?_
   refine st (p := pv3) (off := 0) (k := 2) (vs := [.bool true]) rfl rfl rfl (fun w => (tO4 w).2) rfl rfl rfl rfl ?_
   refine .KA [Box pv [vSl aout out cout], Box pv2 [.bool true], Box pv3 [.bool true], Box pqueue [vSl al2 l cl2], OwnSl 3 1 aout out.length cout (flL r4), MkA dl, OwnSl 113 3 al2 l.length cl2 csl] ?_
   refine .nil (.seqN ?_)
   refine .freezeL (k := 4) rfl (fun h741 le741 q15072 q15071 => ?_)
   refine .KA [Box pv [vSl aout out cout], Box pv2 [.bool true], Box pv3 [.bool true], Box pqueue [vSl al2 l cl2], tru, MkA dl, OwnSl 113 3 al2 l.length cl2 csl] ?_
   refine .ret (.seqR (.blkR (.seqR (.seqR (.blkR (.seqR ?_))))))
   refine .resM (k := 5) rfl ?_
   refine .res3 rfl (rvC1 rfl tO22 (k := 0) rfl) (rvC1 rfl tO4 (k := 1) rfl) (rvC1 rfl tO4 (k := 2) rfl) (fun w' S => ⟨(r4, true, true), (aout, cout), h741, hF, (by simp only [q15070]), (FH.le_trans (q10540) (le741)), ⟨(RSl.of q15071), (by rw [q15070]; exact q15072)⟩, S.none⟩)
  replace hF := hF.2 q14981
  refine .skip (.seqN (.seq (.region (.V mv0 ?_))))
  refine .V (ld1 rfl tO114 (cellB (off := 0) (k := 4) rfl rfl)) ?_
  refine .V (ld1 rfl tO3 (cellB (off := 0) (k := 6) rfl rfl)) ?_
  refine .V (ixS rfl rfl tS114 (k := 8) rfl q14884) ?_
  refine .V (fa rfl tF113_0) ?_
  refine .V (ld1 (v := .slice a2 ((gt l x).node.length) c) rfl tO35 (cellF (k := 8) rfl (q14887 0 _ rfl))) ?_
  obtain ⟨r5, q15073⟩ : ∃ y_ : Unit, y_ = sp_snext k ((gt l x).node) := ⟨_, rfl⟩
  replace hF := hF r5 q15073
  refine clR (α := Addr × Addr) (Φ := fun h1 z => CellsAt h1 z.1 [.pointer (some pk)] ∧ CellsAt h1 z.2 [.slice a2 ((gt l x).node.length) c]) (V := fun z => .func (.func 96) #[] #[.pointer (some z.1), .pointer (some z.2)]) Tryz.call71 rfl rfl (fun w S => (by exact c_snext S.sub k ak ck (_q3.mono (q10540)) _q4 ak2 ck2 (_q5.mono (q10540)) _q6 ak3 ck3 (_q7.mono (q10540)) _q8 ak4 ck4 (_q9.mono (q10540)) _q10 pk bk ta tn tc (CellsAt.mono (q10540) _q11) ((gt l x).node) a2 c q14886 q14885 )) rfl (fun z h742 le742 hz => ?_)
  obtain ⟨p3, p4⟩ := z
  obtain ⟨q15074, q15075⟩ := hz
  refine .nil (.seqN (.block ?_))
  refine .sub (s' := [(2, .func (.func 71) #[.pointer (some pk)] #[]), (3, .func (.func 82) #[] #[]), (5, .pointer (some pkey)), (8, .pointer (some pv)), (9, .pointer (some pv2)), (10, .pointer (some pv3)), (11, .pointer (some pqueue)), (12, .pointer (some pseen)), (13, .pointer (some p)), (69, .func (.func 96) #[] #[.pointer (some p3), .pointer (some p4)])]) sb ?_
  refine .rangeFM (k := 7) (caps := [.pointer (some p3), .pointer (some p4)]) rfl rfl Tryz.func96 rfl Tryz.ntmps96 rfl Tryz.call96 (fun l3 D LA a6 q15076 q15077 => ?_)
  refine .KA [LA .ready none, Box pkey [.func (.func 49) #[] #[]], Box pv [.slice none 0 0], Box pv2 [.bool false], Box pv3 [.bool false], Box pqueue [vSl al2 l cl2], Box pseen [.map (some bv)], Box p [iV x], MkA (D :: dl), OwnSl 113 3 al2 l.length cl2 csl, OwnMap bv m] ?_
  refine .mk0 ?_
  refine .KA [MkA [], LA .ready none, Box pkey [.func (.func 49) #[] #[]], Box pv [.slice none 0 0], Box pv2 [.bool false], Box pv3 [.bool false], Box pqueue [vSl al2 l cl2], Box pseen [.map (some bv)], Box p [iV x], MkA (D :: dl), OwnSl 113 3 al2 l.length cl2 csl, OwnMap bv m] ?_
  refine .seq (.region ?_)
  refine bx (vs := [.func (.yield l3) #[] #[]]) rfl rfl rfl (fun pdone => ?_)
  refine .nil (.seqN (.seq (.seq ?_)))
  refine .openA (s0 := [(1, .pointer (some p3)), (2, .pointer (some p4)), (3, .pointer (some pdone))]) [0, 1, 2, 3, 4] [(0, .pointer (some pk)), (1, .pointer (some pk)), (2, .pointer (some (pk.add 0))), (3, .agg (tF k.t ak ck ak2 ck2 ak3 ck3).toArray), (4, .slice a2 ((gt l x).node.length) c)] (by kernel_rfl) sb [1, 2, 3] [] rfl (by kernel_rfl) ?_
  refine .step [5] 5 rfl (by kernel_rfl) (by kernel_rfl) (.v [] rfl rfl rfl rfl rfl rfl (fun _ => ld1 (v := .pointer (some pk)) rfl tO96 (cellH (CellsAt.mono (FH.le_refl _) q15074 0 _ rfl))) (.v [(10, .pointer (some pk))] rfl rfl rfl rfl rfl rfl (fun _ => nck rfl) (.v [(11, .pointer (some pk))] rfl rfl rfl rfl rfl rfl (fun _ => fa rfl tF99_0) (.v [(12, .pointer (some (pk.add 0)))] rfl rfl rfl rfl rfl rfl (fun _ => ldA (cs := (tF k.t ak ck ak2 ck2 ak3 ck3)) rfl tA25 rfl (cellsH (CellsAt.take (CellsAt.mono (FH.le_trans (q10540) (le742)) _q11) 4))) (.v [] rfl rfl rfl rfl rfl rfl (fun _ => ld1 (v := .slice a2 ((gt l x).node.length) c) rfl tO35 (cellH (CellsAt.mono (FH.le_refl _) q15075 0 _ rfl))) (.nil)))))) (.cons [(13, .agg (tF k.t ak ck ak2 ck2 ak3 ck3).toArray), (14, .slice a2 ((gt l x).node.length) c)] rfl rfl (fun sL hL => ?_) (.nil))
  obtain ⟨r6, q15078⟩ : ∃ y_ : Unit, y_ = sp_succ k.t ((gt l x).node) := ⟨_, rfl⟩
  replace hF := hF r6 q15078
  refine clR (α := Addr × Addr) (Φ := fun h1 z => CellsAt h1 z.1 (tF k.t ak ck ak2 ck2 ak3 ck3) ∧ CellsAt h1 z.2 [.slice a2 ((gt l x).node.length) c]) (V := fun z => .func (.func 103) #[] #[.pointer (some z.1), .pointer (some z.2)]) Tryz.call81 rfl rfl (fun w S => (by exact c_succ S.sub k.t ak ck (_q3.mono (FH.le_trans (q10540) (le742))) _q4 ak2 ck2 (_q5.mono (FH.le_trans (q10540) (le742))) _q6 ak3 ck3 (_q7.mono (FH.le_trans (q10540) (le742))) _q8 ((gt l x).node) a2 c (q14886.mono (le742)) q14885 )) rfl (fun z h743 le743 hz => ?_)
  obtain ⟨p5, p6⟩ := z
  obtain ⟨q15079, q15080⟩ := hz
  refine .nil ?_
  refine .ja (M := [3, 4, 2, 1, 0]) (C' := []) (pre := [(5, .func (.func 103) #[] #[.pointer (some p5), .pointer (some p6)])]) [(1, .pointer (some p3)), (2, .pointer (some p4)), (3, .pointer (some pdone))] [1, 2, 3] hL rfl rfl rfl rfl rfl sb rfl rfl (by kernel_rfl) ?_
  refine .last [(10, .pointer (some pk)), (11, .pointer (some pk)), (12, .pointer (some (pk.add 0))), (13, .agg (tF k.t ak ck ak2 ck2 ak3 ck3).toArray), (14, .slice a2 ((gt l x).node.length) c), (15, .func (.func 103) #[] #[.pointer (some p5), .pointer (some p6)])] rfl (by kernel_rfl) (.nil) rfl ?_
  refine .seqN (.block ?_)
  refine .sub (s' := [(1, .pointer (some p3)), (2, .pointer (some p4)), (3, .pointer (some pdone)), (15, .func (.func 103) #[] #[.pointer (some p5), .pointer (some p6)])]) sb ?_
  refine .wide ?_
  refine .rangeF (k := 1) (caps := [.pointer (some p5), .pointer (some p6)]) rfl rfl Tryz.func103 rfl Tryz.ntmps103 rfl Tryz.call103 (fun l4 D2 LA2 a7 q15273 q15274 => ?_)
  refine .KA [LA2 .ready none, Box pdone [.func (.yield l3) #[] #[]], MkA (D2 :: []), LA .ready none, Box pkey [.func (.func 49) #[] #[]], Box pv [.slice none 0 0], Box pv2 [.bool false], Box pv3 [.bool false], Box pqueue [vSl al2 l cl2], Box pseen [.map (some bv)], Box p [iV x], MkA (D :: dl), OwnSl 113 3 al2 l.length cl2 csl, OwnMap bv m] ?_
  refine .seq (.region (.V (fa rfl tF25_3) ?_))
  refine .V (ld1 (v := vSl ak3 k.t.ops ck3) rfl tO23 (cellH (CellsAt.mono (FH.le_refl _) q15079 3 _ rfl))) ?_
  refine .V (ln rfl tS23.is) ?_
  refine .V mv0 ?_
  refine .nil (.seqN (.block ?_))
  refine .sel0 [0, 4, 5, 6, 7, 8, 9, 10, 11, 3, 1, 2, 12, 13] (by decide) rfl ?_
  obtain ⟨I3, μ3, q15403, q15404⟩ := hF
  refine .loop' (σ := Int × List Entry × (List UInt8 → Int) × Option Addr × Nat × List Value × FH) (fun z => I3 z.1 z.2.1 z.2.2.1 ∧ RepL z.2.2.2.2.2.2 z.2.1 z.2.2.2.2.2.1 ∧ FH.le h743 z.2.2.2.2.2.2) (fun z => μ3 z.1 z.2.1 z.2.2.1) (fun z => [(0, .func (.yield l4) #[] #[]), (1, .pointer (some p5)), (2, .pointer (some p6)), (7, vSl ak3 k.t.ops ck3), (8, iV ((k.t.ops.length : Nat) : Int)), (9, iV z.1)]) (fun z => [LA2 .ready none, Box pkey [.func (.func 49) #[] #[]], Box pv [.slice none 0 0], Box pv2 [.bool false], Box pv3 [.bool false], Box pqueue [vSl z.2.2.2.1 z.2.1 z.2.2.2.2.1], Box pseen [.map (some bv)], Box p [iV x], MkA (D :: dl), LA .ready none, Box pdone [.func (.yield l3) #[] #[]], MkA (D2 :: []), OwnSl 113 3 z.2.2.2.1 z.2.1.length z.2.2.2.2.1 z.2.2.2.2.2.1, OwnMap bv z.2.2.1]) (fun z => z.2.2.2.2.2.2) (0, l, m, al2, cl2, csl, h743) ⟨q15403, (RepL.mono (FH.le_trans (le742) (le743)) q10539), (FH.le_refl _)⟩ sb rfl (FH.le_refl _) ?_
  rintro ⟨t9, l5, m3, al4, cl4, csl3, h762⟩ ⟨q15403, q15339, q15340⟩
  have hF := q15404 t9 l5 m3 q15403
  show J _ _ _ _ _ [(0, .func (.yield l4) #[] #[]), (1, .pointer (some p5)), (2, .pointer (some p6)), (7, vSl ak3 k.t.ops ck3), (8, iV ((k.t.ops.length : Nat) : Int)), (9, iV t9)] [LA2 .ready none, Box pkey [.func (.func 49) #[] #[]], Box pv [.slice none 0 0], Box pv2 [.bool false], Box pv3 [.bool false], Box pqueue [vSl al4 l5 cl4], Box pseen [.map (some bv)], Box p [iV x], MkA (D :: dl), LA .ready none, Box pdone [.func (.yield l3) #[] #[]], MkA (D2 :: []), OwnSl 113 3 al4 l5.length cl4 csl3, OwnMap bv m3] h762
  refine .seq (.region (.V bi0 ?_))
  refine .nil (.seqN (.seq ?_))
  refine .cond rfl (fun q15407 => ?_) (fun q15407 => ?_)
  ·replace hF := hF.1 q15407
   refine .skip (.seqN ?_)
   refine .share (σ := List Entry × (List UInt8 → Int) × Option Addr × Nat × List Value × FH) (fun z => F_breadthC_J1 t9 I3 μ3 l5 m3 z.1 z.2.1 ∧ RepL z.2.2.2.2.2 z.1 z.2.2.2.2.1 ∧ FH.le h762 z.2.2.2.2.2) (fun _ => [(0, .func (.yield l4) #[] #[]), (1, .pointer (some p5)), (2, .pointer (some p6)), (7, vSl ak3 k.t.ops ck3), (8, iV ((k.t.ops.length : Nat) : Int)), (9, iV t9)]) (fun z => [LA2 .ready none, Box pkey [.func (.func 49) #[] #[]], Box pv [.slice none 0 0], Box pv2 [.bool false], Box pv3 [.bool false], Box pqueue [vSl z.2.2.1 z.1 z.2.2.2.1], Box pseen [.map (some bv)], Box p [iV x], MkA (D :: dl), LA .ready none, Box pdone [.func (.yield l3) #[] #[]], MkA (D2 :: []), OwnSl 113 3 z.2.2.1 z.1.length z.2.2.2.1 z.2.2.2.2.1, OwnMap bv z.2.1]) (fun z => z.2.2.2.2.2) ?_ (fun q15437 => ?_)
   ·rintro ⟨l7, m5, al6, cl6, csl5, h768⟩ ⟨hF, q15435, q15436⟩
    show J _ _ _ _ _ [(0, .func (.yield l4) #[] #[]), (1, .pointer (some p5)), (2, .pointer (some p6)), (7, vSl ak3 k.t.ops ck3), (8, iV ((k.t.ops.length : Nat) : Int)), (9, iV t9)] [LA2 .ready none, Box pkey [.func (.func 49) #[] #[]], Box pv [.slice none 0 0], Box pv2 [.bool false], Box pv3 [.bool false], Box pqueue [vSl al6 l7 cl6], Box pseen [.map (some bv)], Box p [iV x], MkA (D :: dl), LA .ready none, Box pdone [.func (.yield l3) #[] #[]], MkA (D2 :: []), OwnSl 113 3 al6 l7.length cl6 csl5, OwnMap bv m5] h768
    refine .region (.V bi0 ?_)
    refine .V mv0 ?_
    refine .nil ?_
    exact .RO (wr (t9 + 1), l7, m5, al6, cl6, csl5, h768) ⟨hF.1, q15435, (FH.le_trans (q15340) (q15436))⟩ hF.2
   refine .block (.seq (.region (.V mv0 ?_)))
   obtain ⟨q15438, hF⟩ := hF
   refine .V (ix rfl rfl tS23 (_q7.ne (by decide) (inb_pos q15438)) q15438) ?_
   obtain ⟨_, ⟨a8, c4, a9, c5, a10, c6, rfl, ⟨q15439, q15440⟩, ⟨q15441, q15442⟩, q15443, q15444⟩, q15445⟩ := _q7.elem q15438
   refine .V (ldA (cs := [.slice a8 ((gt k.t.ops t9).pre.length) c4, .slice a9 ((gt k.t.ops t9).add.length) c5, .slice a10 ((gt k.t.ops t9).del.length) c6, iV ((gt k.t.ops t9).cost)]) rfl tA54 rfl (cellsH ((fun q => (q15445 q).mono (FH.le_trans (FH.le_trans (FH.le_trans (q10540) (le742)) (le743)) (q15340))) (by decide)))) ?_
   refine al tZ54 rfl (fun pkey2 => ?_)
   refine .V ag0 ?_
   refine st (p := pkey2) (off := 0) (k := 0) (vs := [.slice a8 ((gt k.t.ops t9).pre.length) c4, .slice a9 ((gt k.t.ops t9).add.length) c5, .slice a10 ((gt k.t.ops t9).del.length) c6, iV ((gt k.t.ops t9).cost)]) rfl rfl rfl (fun w => (tA54 w).2) rfl rfl rfl rfl ?_
   refine .KA [Box pkey2 [.slice a8 ((gt k.t.ops t9).pre.length) c4, .slice a9 ((gt k.t.ops t9).add.length) c5, .slice a10 ((gt k.t.ops t9).del.length) c6, iV ((gt k.t.ops t9).cost)], LA2 .ready none, Box pkey [.func (.func 49) #[] #[]], Box pv [.slice none 0 0], Box pv2 [.bool false], Box pv3 [.bool false], Box pqueue [vSl al4 l5 cl4], Box pseen [.map (some bv)], Box p [iV x], MkA (D :: dl), LA .ready none, Box pdone [.func (.yield l3) #[] #[]], MkA (D2 :: []), OwnSl 113 3 al4 l5.length cl4 csl3, OwnMap bv m3] ?_
   refine .nil (.seqN (.seq (.region (.V (ld1 (v := .slice a2 ((gt l x).node.length) c) rfl tO35 (cellH (CellsAt.mono (q15340) q15080 0 _ rfl))) ?_))))
   refine .V (fa rfl tF54_0) ?_
   refine .V (ld1 rfl tO22 (cellB (off := 0) (k := 0) rfl rfl)) ?_
   obtain ⟨q15446, hF⟩ := hF
   obtain ⟨r7, q15447⟩ : ∃ y_ : Bool, y_ = sp_sure ((gt l x).node) ((gt k.t.ops t9).pre) := ⟨_, rfl⟩
   replace hF := hF r7 q15447
   refine .C (cl (v := .bool r7) Tryz.call52 rfl rfl (fun w S => (by rw [q15447]; exact c_sure S.sub ((gt l x).node) a2 c (q14886.mono (FH.le_trans (FH.le_trans (le742) (le743)) (q15340))) q14885 ((gt k.t.ops t9).pre) a8 c4 (q15440.mono (FH.le_trans (FH.le_trans (FH.le_trans (q10540) (le742)) (le743)) (q15340))) q15439 q15446))) ?_
   refine .V mv0 ?_
   rcases Bool.eq_false_or_eq_true (r7) with q15448 | q15448
   ·replace hF := hF.1 q15448
    refine .GV mv0 q15448 ?_
    refine .GV mv0 q15448 ?_
    refine .GV (ldA (cs := (tF k.t ak ck ak2 ck2 ak3 ck3)) rfl tA25 rfl (cellsH (q15079.mono (q15340)))) q15448 ?_
    refine .GV (ld1 (v := .slice a2 ((gt l x).node.length) c) rfl tO35 (cellH (CellsAt.mono (q15340) q15080 0 _ rfl))) q15448 ?_
    refine .GV mv0 q15448 ?_
    obtain ⟨q15449, hF⟩ := hF
    obtain ⟨r8, q15450⟩ : ∃ y_ : List (List Int), y_ = sp_bafter k.t ((gt l x).node) t9 := ⟨_, rfl⟩
    replace hF := hF r8 q15450
    refine .gR rfl rfl rfl q15448 ?_
    refine clR (α := Option Addr × Nat) (Φ := fun h1 z => RSl h1 z.1 r8 ∧ r8.length ≤ z.2) (V := fun z => vSl z.1 r8 z.2) Tryz.call60 rfl rfl (fun w S => (by rw [q15450]; exact c_bafter S.sub k.t ak ck (_q3.mono (FH.le_trans (FH.le_trans (FH.le_trans (q10540) (le742)) (le743)) (q15340))) _q4 ak2 ck2 (_q5.mono (FH.le_trans (FH.le_trans (FH.le_trans (q10540) (le742)) (le743)) (q15340))) _q6 ak3 ck3 (_q7.mono (FH.le_trans (FH.le_trans (FH.le_trans (q10540) (le742)) (le743)) (q15340))) _q8 ((gt l x).node) a2 c (q14886.mono (FH.le_trans (FH.le_trans (le742) (le743)) (q15340))) q14885 t9 q15449)) rfl (fun z h769 le769 hz => ?_)
    obtain ⟨a11, c7⟩ := z
    obtain ⟨q15451, q15452⟩ := hz
    refine .gR rfl rfl rfl q15448 ?_
    refine .yld (k := 1) (vs := [iV t9, vSl a11 r8 c7]) q15273 rfl rfl rfl rfl rfl (fun aG q15453 => ?_)
    refine .sub (s' := [(3, .pointer (some pdone)), (16, iV t9), (17, vSl a11 r8 c7)]) sb ?_
    refine .seq (.region (.V ag0 ?_))
    refine .nil (.seqN (.region (.V ag0 ?_)))
    refine .nil ?_
    refine .begin_ (k := 1) q15273 rfl ?_
    refine .KA [Box pkey2 [.slice a8 ((gt k.t.ops t9).pre.length) c4, .slice a9 ((gt k.t.ops t9).add.length) c5, .slice a10 ((gt k.t.ops t9).del.length) c6, iV ((gt k.t.ops t9).cost)], LA2 .busy none, Box pkey [.func (.func 49) #[] #[]], Box pv [.slice none 0 0], Box pv2 [.bool false], Box pv3 [.bool false], Box pqueue [vSl al4 l5 cl4], Box pseen [.map (some bv)], Box p [iV x], MkA (D :: dl), LA .ready none, Box pdone [.func (.yield l3) #[] #[]], MkA (D2 :: []), OwnSl 113 3 al4 l5.length cl4 csl3, OwnMap bv m3] ?_
    refine .block (.seq (.region (.V (ld1 rfl tO119 (cellB (off := 0) (k := 11) rfl rfl)) ?_)))
    refine .V mv0 ?_
    refine .V mv0 ?_
    refine .yld (k := 10) (vs := [iV t9, vSl a11 r8 c7]) q15076 rfl rfl rfl rfl rfl (fun aG2 q15454 => ?_)
    refine .sub (s' := [(5, .pointer (some pkey)), (8, .pointer (some pv)), (9, .pointer (some pv2)), (10, .pointer (some pv3)), (11, .pointer (some pqueue)), (12, .pointer (some pseen)), (13, .pointer (some p)), (70, iV t9), (71, vSl a11 r8 c7)]) sb ?_
    refine .seq (.region (.V ag0 ?_))
    refine .nil (.seqN (.region (.V ag0 ?_)))
    refine .nil ?_
    refine .begin_ (k := 10) q15076 rfl ?_
    refine .KA [Box pkey2 [.slice a8 ((gt k.t.ops t9).pre.length) c4, .slice a9 ((gt k.t.ops t9).add.length) c5, .slice a10 ((gt k.t.ops t9).del.length) c6, iV ((gt k.t.ops t9).cost)], LA2 .busy none, Box pkey [.func (.func 49) #[] #[]], Box pv [.slice none 0 0], Box pv2 [.bool false], Box pv3 [.bool false], Box pqueue [vSl al4 l5 cl4], Box pseen [.map (some bv)], Box p [iV x], MkA (D :: dl), LA .busy none, Box pdone [.func (.yield l3) #[] #[]], MkA (D2 :: []), OwnSl 113 3 al4 l5.length cl4 csl3, OwnMap bv m3] ?_
    refine .block (.seq (.region (.V (ld1 rfl tO80 (cellB (off := 0) (k := 2) rfl rfl)) ?_)))
    refine .V mv0 ?_
    obtain ⟨q15455, hF⟩ := hF
    obtain ⟨r9, q15456⟩ : ∃ y_ : List UInt8, y_ = sp_key r8 := ⟨_, rfl⟩
    replace hF := hF r9 q15456
    refine .C (cl (v := strV r9) Tryz.call49 rfl rfl (fun w S => (by rw [q15456]; exact c_key S.sub (ht.mono (FH.le_trans (FH.le_trans (FH.le_trans (FH.le_trans (q10540) (le742)) (le743)) (q15340)) (le769))) r8 a11 c7 q15451 q15452 q15455))) ?_
    refine .V ag0 ?_
    refine .nil (.seqN (.seq (.seq (.region (.V (ld1 rfl tO97 (cellB (off := 0) (k := 7) rfl rfl)) ?_)))))
    refine .V mv0 ?_
    refine .V (lk tM97 rfl rfl (kk := 14) rfl) ?_
    refine .V bi0 ?_
    refine .nil (.seqN ?_)
    refine .cond rfl (fun q15458 => ?_) (fun q15458 => ?_)
    ·replace hF := hF.1 q15458
     refine .exit (.seqX (.blkX ?_))
     refine .rdN (k := 10) q15076 rfl q15454 rfl ?_
     refine .KA [Box pkey2 [.slice a8 ((gt k.t.ops t9).pre.length) c4, .slice a9 ((gt k.t.ops t9).add.length) c5, .slice a10 ((gt k.t.ops t9).del.length) c6, iV ((gt k.t.ops t9).cost)], LA2 .busy none, Box pkey [.func (.func 49) #[] #[]], Box pv [.slice none 0 0], Box pv2 [.bool false], Box pv3 [.bool false], Box pqueue [vSl al4 l5 cl4], Box pseen [.map (some bv)], Box p [iV x], MkA (D :: dl), LA .ready none, Box pdone [.func (.yield l3) #[] #[]], MkA (D2 :: []), OwnSl 113 3 al4 l5.length cl4 csl3, OwnMap bv m3] ?_
     refine .V (nt rfl) ?_
     refine .nil (.seqN ?_)
     refine .cond rfl (fun e => absurd (e.symm.trans rfl) (by decide)) (fun _ => ?_)
     refine .skip (.blkN ?_)
     refine .rdN (k := 1) q15273 rfl q15453 rfl ?_
     refine .KA [Box pkey2 [.slice a8 ((gt k.t.ops t9).pre.length) c4, .slice a9 ((gt k.t.ops t9).add.length) c5, .slice a10 ((gt k.t.ops t9).del.length) c6, iV ((gt k.t.ops t9).cost)], LA2 .ready none, Box pkey [.func (.func 49) #[] #[]], Box pv [.slice none 0 0], Box pv2 [.bool false], Box pv3 [.bool false], Box pqueue [vSl al4 l5 cl4], Box pseen [.map (some bv)], Box p [iV x], MkA (D :: dl), LA .ready none, Box pdone [.func (.yield l3) #[] #[]], MkA (D2 :: []), OwnSl 113 3 al4 l5.length cl4 csl3, OwnMap bv m3] ?_
     refine .GV (nt rfl) q15448 ?_
     refine .V (pkT rfl q15448 rfl) ?_
     refine .nil (.seqN ?_)
     refine .cond rfl (fun e => absurd (e.symm.trans rfl) (by decide)) (fun _ => ?_)
     refine .skip (.blkN ?_)
     refine .sel0 [1, 2, 3, 4, 5, 6, 7, 8, 9, 10, 11, 12, 13, 14] (by decide) rfl ?_
     exact .US q15437 (l5, m3, al4, cl4, csl3, h769) ⟨hF, (RepL.mono (le769) q15339), (le769)⟩
    replace hF := hF.2 q15458
    refine .skip (.seqN (.seq (.seq (.region (.V (ld1 rfl tO114 (cellB (off := 0) (k := 6) rfl rfl)) ?_)))))
    refine .V (ln rfl tS114.is) ?_
    refine .V bi0 ?_
    refine .nil (.seqN ?_)
    refine .cond rfl (fun q15460 => ?_) (fun q15460 => ?_)
    ·replace hF := hF.1 q15460
     refine .seq (.region ?_)
     refine st (p := pv) (off := 0) (k := 3) (vs := [.slice none 0 0]) rfl rfl rfl (fun w => (tO22 w).2) rfl rfl rfl rfl ?_
     refine .KA [Box pkey2 [.slice a8 ((gt k.t.ops t9).pre.length) c4, .slice a9 ((gt k.t.ops t9).add.length) c5, .slice a10 ((gt k.t.ops t9).del.length) c6, iV ((gt k.t.ops t9).cost)], LA2 .busy none, Box pkey [.func (.func 49) #[] #[]], Box pv [.slice none 0 0], Box pv2 [.bool false], Box pv3 [.bool false], Box pqueue [vSl al4 l5 cl4], Box pseen [.map (some bv)], Box p [iV x], MkA (D :: dl), LA .busy none, Box pdone [.func (.yield l3) #[] #[]], MkA (D2 :: []), OwnSl 113 3 al4 l5.length cl4 csl3, OwnMap bv m3] ?_
     refine st (p := pv2) (off := 0) (k := 4) (vs := [.bool false]) rfl rfl rfl (fun w => (tO4 w).2) rfl rfl rfl rfl ?_
     refine .KA [Box pkey2 [.slice a8 ((gt k.t.ops t9).pre.length) c4, .slice a9 ((gt k.t.ops t9).add.length) c5, .slice a10 ((gt k.t.ops t9).del.length) c6, iV ((gt k.t.ops t9).cost)], LA2 .busy none, Box pkey [.func (.func 49) #[] #[]], Box pv [.slice none 0 0], Box pv2 [.bool false], Box pv3 [.bool false], Box pqueue [vSl al4 l5 cl4], Box pseen [.map (some bv)], Box p [iV x], MkA (D :: dl), LA .busy none, Box pdone [.func (.yield l3) #[] #[]], MkA (D2 :: []), OwnSl 113 3 al4 l5.length cl4 csl3, OwnMap bv m3] ?_
     refine st (p := pv3) (off := 0) (k := 5) (vs := [.bool false]) rfl rfl rfl (fun w => (tO4 w).2) rfl rfl rfl rfl ?_
     refine .KA [Box pkey2 [.slice a8 ((gt k.t.ops t9).pre.length) c4, .slice a9 ((gt k.t.ops t9).add.length) c5, .slice a10 ((gt k.t.ops t9).del.length) c6, iV ((gt k.t.ops t9).cost)], LA2 .busy none, Box pkey [.func (.func 49) #[] #[]], Box pv [.slice none 0 0], Box pv2 [.bool false], Box pv3 [.bool false], Box pqueue [vSl al4 l5 cl4], Box pseen [.map (some bv)], Box p [iV x], MkA (D :: dl), LA .busy none, Box pdone [.func (.yield l3) #[] #[]], MkA (D2 :: []), OwnSl 113 3 al4 l5.length cl4 csl3, OwnMap bv m3] ?_
     refine .nil (.seqN (.ret (.seqR (.blkR ?_))))
     refine .rdR (k := 10) q15076 rfl q15454 rfl ?_
     refine .KA [Box pkey2 [.slice a8 ((gt k.t.ops t9).pre.length) c4, .slice a9 ((gt k.t.ops t9).add.length) c5, .slice a10 ((gt k.t.ops t9).del.length) c6, iV ((gt k.t.ops t9).cost)], LA2 .busy none, Box pkey [.func (.func 49) #[] #[]], Box pv [.slice none 0 0], Box pv2 [.bool false], Box pv3 [.bool false], Box pqueue [vSl al4 l5 cl4], Box pseen [.map (some bv)], Box p [iV x], MkA (D :: dl), LA .done (some .ret), Box pdone [.func (.yield l3) #[] #[]], MkA (D2 :: []), OwnSl 113 3 al4 l5.length cl4 csl3, OwnMap bv m3] ?_
     refine .V (nt rfl) ?_
     refine .nil (.seqN ?_)
     refine .cond rfl (fun _ => ?_) (fun e => absurd (e.symm.trans rfl) (by decide))
     refine .ret (.blkR ?_)
     refine .rdR (k := 1) q15273 rfl q15453 rfl ?_
     refine .KA [Box pkey2 [.slice a8 ((gt k.t.ops t9).pre.length) c4, .slice a9 ((gt k.t.ops t9).add.length) c5, .slice a10 ((gt k.t.ops t9).del.length) c6, iV ((gt k.t.ops t9).cost)], LA2 .done (some .ret), Box pkey [.func (.func 49) #[] #[]], Box pv [.slice none 0 0], Box pv2 [.bool false], Box pv3 [.bool false], Box pqueue [vSl al4 l5 cl4], Box pseen [.map (some bv)], Box p [iV x], MkA (D :: dl), LA .done (some .ret), Box pdone [.func (.yield l3) #[] #[]], MkA (D2 :: []), OwnSl 113 3 al4 l5.length cl4 csl3, OwnMap bv m3] ?_
     refine .GV (nt rfl) q15448 ?_
     refine .V (pkT rfl q15448 rfl) ?_
     refine .nil (.seqN ?_)
     refine .cond rfl (fun _ => ?_) (fun e => absurd (e.symm.trans rfl) (by decide))
     refine .ret (.blkR (.seqR (.seqR (.blkR ?_))))
     refine .res0 (.inl rfl) rfl (range_jump (k := 1) q15273 rfl q15274 ?_)
     refine .unwide ?_
     refine .KA [Box pkey2 [.slice a8 ((gt k.t.ops t9).pre.length) c4, .slice a9 ((gt k.t.ops t9).add.length) c5, .slice a10 ((gt k.t.ops t9).del.length) c6, iV ((gt k.t.ops t9).cost)], tru, Box pkey [.func (.func 49) #[] #[]], Box pv [.slice none 0 0], Box pv2 [.bool false], Box pv3 [.bool false], Box pqueue [vSl al4 l5 cl4], Box pseen [.map (some bv)], Box p [iV x], MkA (D :: dl), LA .done (some .ret), Box pdone [.func (.yield l3) #[] #[]], MkA (D2 :: []), OwnSl 113 3 al4 l5.length cl4 csl3, OwnMap bv m3] ?_
     refine .ret (.blkR (.seqR ?_))
     refine .resMN (.inl rfl) (k := 12) rfl ?_
     refine .res0 (.inl rfl) rfl (range_jump (k := 10) q15076 rfl q15077 ?_)
     refine .KA [Box pkey2 [.slice a8 ((gt k.t.ops t9).pre.length) c4, .slice a9 ((gt k.t.ops t9).add.length) c5, .slice a10 ((gt k.t.ops t9).del.length) c6, iV ((gt k.t.ops t9).cost)], tru, Box pkey [.func (.func 49) #[] #[]], Box pv [.slice none 0 0], Box pv2 [.bool false], Box pv3 [.bool false], Box pqueue [vSl al4 l5 cl4], Box pseen [.map (some bv)], Box p [iV x], MkA (D :: dl), tru, Box pdone [.func (.yield l3) #[] #[]], tru, OwnSl 113 3 al4 l5.length cl4 csl3, OwnMap bv m3] ?_
     refine .ret (.blkR (.blkR (.seqR (.seqR (.blkR (.seqR ?_))))))
     refine .resM (k := 9) rfl ?_
     refine .res3 rfl (rvC1 rfl tO22 (k := 3) rfl) (rvC1 rfl tO4 (k := 4) rfl) (rvC1 rfl tO4 (k := 5) rfl) (fun w' S => ⟨(([] : List Int), false, false), (none, 0), h769, hF, rfl, (FH.le_trans (FH.le_trans (FH.le_trans (FH.le_trans (q10540) (le742)) (le743)) (q15340)) (le769)), ⟨RSl.nil_, (Nat.le_refl 0)⟩, S.none⟩)
    replace hF := hF.2 q15460
    refine .skip (.seqN (.seq (.region (.V (ld1 rfl tO97 (cellB (off := 0) (k := 7) rfl rfl)) ?_))))
    refine .V mv0 ?_
    refine mu tM97 rfl rfl rfl (kk := 14) rfl ?_
    refine .KA [Box pkey2 [.slice a8 ((gt k.t.ops t9).pre.length) c4, .slice a9 ((gt k.t.ops t9).add.length) c5, .slice a10 ((gt k.t.ops t9).del.length) c6, iV ((gt k.t.ops t9).cost)], LA2 .busy none, Box pkey [.func (.func 49) #[] #[]], Box pv [.slice none 0 0], Box pv2 [.bool false], Box pv3 [.bool false], Box pqueue [vSl al4 l5 cl4], Box pseen [.map (some bv)], Box p [iV x], MkA (D :: dl), LA .busy none, Box pdone [.func (.yield l3) #[] #[]], MkA (D2 :: []), OwnSl 113 3 al4 l5.length cl4 csl3, OwnMap bv (upd m3 r9 1)] ?_
    refine .nil (.seqN (.region (.V (ld1 rfl tO114 (cellB (off := 0) (k := 6) rfl rfl)) ?_)))
    refine .V mv0 ?_
    refine .V (ld1 rfl tO3 (cellB (off := 0) (k := 8) rfl rfl)) ?_
    refine .V mv0 ?_
    refine .V (bld (cs := #[vSl a11 r8 c7, iV x, iV t9]) (pv := [(0, vSl a11 r8 c7), (1, iV x), (2, iV t9)]) tB113 rfl rfl) ?_
    refine bs2 (cs := #[vSl a11 r8 c7, iV x, iV t9]) (pv := [(0, .agg #[vSl a11 r8 c7, iV x, iV t9])]) tS114 rfl rfl (by decide) (by decide) rfl rfl rfl (fun a12 _ => ?_)
    refine .KA [OwnSl 113 3 a12 (([(⟨r8, x, t9⟩ : Entry)] : List Entry).length) 1 [vSl a11 r8 c7, iV x, iV t9], Box pkey2 [.slice a8 ((gt k.t.ops t9).pre.length) c4, .slice a9 ((gt k.t.ops t9).add.length) c5, .slice a10 ((gt k.t.ops t9).del.length) c6, iV ((gt k.t.ops t9).cost)], LA2 .busy none, Box pkey [.func (.func 49) #[] #[]], Box pv [.slice none 0 0], Box pv2 [.bool false], Box pv3 [.bool false], Box pqueue [vSl al4 l5 cl4], Box pseen [.map (some bv)], Box p [iV x], MkA (D :: dl), LA .busy none, Box pdone [.func (.yield l3) #[] #[]], MkA (D2 :: []), OwnSl 113 3 al4 l5.length cl4 csl3, OwnMap bv (upd m3 r9 1)] ?_
    obtain ⟨q15462, hF⟩ := hF
    have q15463 : l5.length + ([(⟨r8, x, t9⟩ : Entry)] : List Entry).length = ((l5 ++ ([(⟨r8, x, t9⟩ : Entry)] : List Entry))).length := len_app rfl rfl
    have q15464 := RepL.append (RepL.mono (le769) q15339) (show RepL h769 ([(⟨r8, x, t9⟩ : Entry)] : List Entry) [.slice a11 r8.length c7, iV x, iV t9] from ⟨[.slice a11 r8.length c7, iV x, iV t9], _, rfl, ⟨a11, c7, rfl, ⟨q15452, q15451⟩⟩, rfl⟩)
    refine app (k := 14) (news := [vSl a11 r8 c7, iV x, iV t9]) (cs' := (csl3 ++ [vSl a11 r8 c7, iV x, iV t9])) (nm := ((l5 ++ ([(⟨r8, x, t9⟩ : Entry)] : List Entry))).length) tS114 rfl (by decide) rfl rfl rfl (RepL.len (show RepL h769 ([(⟨r8, x, t9⟩ : Entry)] : List Entry) [vSl a11 r8 c7, iV x, iV t9] from ⟨[vSl a11 r8 c7, iV x, iV t9], _, rfl, ⟨a11, c7, rfl, ⟨q15452, q15451⟩⟩, rfl⟩)) (srcS (k := 0) rfl) (RepL.one (show RepL h769 ([(⟨r8, x, t9⟩ : Entry)] : List Entry) [vSl a11 r8 c7, iV x, iV t9] from ⟨[vSl a11 r8 c7, iV x, iV t9], _, rfl, ⟨a11, c7, rfl, ⟨q15452, q15451⟩⟩, rfl⟩)) (room_of q15463 q15462).1 (room_of q15463 q15462).2 q15463 rfl rfl (fun a13 c8 => ?_)
    refine .KA [OwnSl 113 3 a12 (([(⟨r8, x, t9⟩ : Entry)] : List Entry).length) 1 [vSl a11 r8 c7, iV x, iV t9], Box pkey2 [.slice a8 ((gt k.t.ops t9).pre.length) c4, .slice a9 ((gt k.t.ops t9).add.length) c5, .slice a10 ((gt k.t.ops t9).del.length) c6, iV ((gt k.t.ops t9).cost)], LA2 .busy none, Box pkey [.func (.func 49) #[] #[]], Box pv [.slice none 0 0], Box pv2 [.bool false], Box pv3 [.bool false], Box pqueue [vSl al4 l5 cl4], Box pseen [.map (some bv)], Box p [iV x], MkA (D :: dl), LA .busy none, Box pdone [.func (.yield l3) #[] #[]], MkA (D2 :: []), OwnSl 113 3 a13 ((l5 ++ ([(⟨r8, x, t9⟩ : Entry)] : List Entry)).length) c8 (csl3 ++ [vSl a11 r8 c7, iV x, iV t9]), OwnMap bv (upd m3 r9 1)] ?_
    refine st (p := pqueue) (off := 0) (k := 7) (vs := [.slice a13 ((l5 ++ ([(⟨r8, x, t9⟩ : Entry)] : List Entry)).length) c8]) rfl rfl rfl (fun w => (tO114 w).2) rfl rfl rfl rfl ?_
    refine .KA [OwnSl 113 3 a12 (([(⟨r8, x, t9⟩ : Entry)] : List Entry).length) 1 [vSl a11 r8 c7, iV x, iV t9], Box pkey2 [.slice a8 ((gt k.t.ops t9).pre.length) c4, .slice a9 ((gt k.t.ops t9).add.length) c5, .slice a10 ((gt k.t.ops t9).del.length) c6, iV ((gt k.t.ops t9).cost)], LA2 .busy none, Box pkey [.func (.func 49) #[] #[]], Box pv [.slice none 0 0], Box pv2 [.bool false], Box pv3 [.bool false], Box pqueue [.slice a13 ((l5 ++ ([(⟨r8, x, t9⟩ : Entry)] : List Entry)).length) c8], Box pseen [.map (some bv)], Box p [iV x], MkA (D :: dl), LA .busy none, Box pdone [.func (.yield l3) #[] #[]], MkA (D2 :: []), OwnSl 113 3 a13 ((l5 ++ ([(⟨r8, x, t9⟩ : Entry)] : List Entry)).length) c8 (csl3 ++ [vSl a11 r8 c7, iV x, iV t9]), OwnMap bv (upd m3 r9 1)] ?_
    refine .nil (.blkN ?_)
    refine .rdN (k := 11) q15076 rfl q15454 rfl ?_
    refine .KA [OwnSl 113 3 a12 (([(⟨r8, x, t9⟩ : Entry)] : List Entry).length) 1 [vSl a11 r8 c7, iV x, iV t9], Box pkey2 [.slice a8 ((gt k.t.ops t9).pre.length) c4, .slice a9 ((gt k.t.ops t9).add.length) c5, .slice a10 ((gt k.t.ops t9).del.length) c6, iV ((gt k.t.ops t9).cost)], LA2 .busy none, Box pkey [.func (.func 49) #[] #[]], Box pv [.slice none 0 0], Box pv2 [.bool false], Box pv3 [.bool false], Box pqueue [.slice a13 ((l5 ++ ([(⟨r8, x, t9⟩ : Entry)] : List Entry)).length) c8], Box pseen [.map (some bv)], Box p [iV x], MkA (D :: dl), LA .ready none, Box pdone [.func (.yield l3) #[] #[]], MkA (D2 :: []), OwnSl 113 3 a13 ((l5 ++ ([(⟨r8, x, t9⟩ : Entry)] : List Entry)).length) c8 (csl3 ++ [vSl a11 r8 c7, iV x, iV t9]), OwnMap bv (upd m3 r9 1)] ?_
    refine .V (nt rfl) ?_
    refine .nil (.seqN ?_)
    refine .cond rfl (fun e => absurd (e.symm.trans rfl) (by decide)) (fun _ => ?_)
    refine .skip (.blkN ?_)
    refine .rdN (k := 2) q15273 rfl q15453 rfl ?_
    refine .KA [OwnSl 113 3 a12 (([(⟨r8, x, t9⟩ : Entry)] : List Entry).length) 1 [vSl a11 r8 c7, iV x, iV t9], Box pkey2 [.slice a8 ((gt k.t.ops t9).pre.length) c4, .slice a9 ((gt k.t.ops t9).add.length) c5, .slice a10 ((gt k.t.ops t9).del.length) c6, iV ((gt k.t.ops t9).cost)], LA2 .ready none, Box pkey [.func (.func 49) #[] #[]], Box pv [.slice none 0 0], Box pv2 [.bool false], Box pv3 [.bool false], Box pqueue [.slice a13 ((l5 ++ ([(⟨r8, x, t9⟩ : Entry)] : List Entry)).length) c8], Box pseen [.map (some bv)], Box p [iV x], MkA (D :: dl), LA .ready none, Box pdone [.func (.yield l3) #[] #[]], MkA (D2 :: []), OwnSl 113 3 a13 ((l5 ++ ([(⟨r8, x, t9⟩ : Entry)] : List Entry)).length) c8 (csl3 ++ [vSl a11 r8 c7, iV x, iV t9]), OwnMap bv (upd m3 r9 1)] ?_
    refine .GV (nt rfl) q15448 ?_
    refine .V (pkT rfl q15448 rfl) ?_
    refine .nil (.seqN ?_)
    refine .cond rfl (fun e => absurd (e.symm.trans rfl) (by decide)) (fun _ => ?_)
    refine .skip (.blkN ?_)
    refine .sel0 [2, 3, 4, 5, 6, 7, 8, 9, 10, 11, 12, 13, 14, 15] (by decide) rfl ?_
    exact .US q15437 ((l5 ++ ([(⟨r8, x, t9⟩ : Entry)] : List Entry)), (upd m3 r9 1), a13, c8, (csl3 ++ [vSl a11 r8 c7, iV x, iV t9]), h769) ⟨hF, q15464, (le769)⟩
   replace hF := hF.2 q15448
   refine .GS q15448 ?_
   refine .GS q15448 ?_
   refine .GS q15448 ?_
   refine .GS q15448 ?_
   refine .GS q15448 ?_
   refine .GS q15448 ?_
   refine .GS q15448 ?_
   refine .GS q15448 ?_
   refine .V (pkF rfl q15448 rfl) ?_
   refine .nil (.seqN ?_)
   refine .cond rfl (fun e => absurd (e.symm.trans rfl) (by decide)) (fun _ => ?_)
   refine .skip (.blkN ?_)
   refine .sel0 [1, 2, 3, 4, 5, 6, 7, 8, 9, 10, 11, 12, 13, 14] (by decide) rfl ?_
   exact .US q15437 (l5, m3, al4, cl4, csl3, h762) ⟨hF, q15339, (FH.le_refl _)⟩
  replace hF := hF.2 q15407
  refine .exit (.seqX (.seqX (.blkX ?_)))
  refine .res0 (.inr rfl) rfl (range_done (k := 0) q15273 rfl q15274 ?_)
  refine .unwide ?_
  refine .KA [tru, Box pkey [.func (.func 49) #[] #[]], Box pv [.slice none 0 0], Box pv2 [.bool false], Box pv3 [.bool false], Box pqueue [vSl al4 l5 cl4], Box pseen [.map (some bv)], Box p [iV x], MkA (D :: dl), LA .ready none, Box pdone [.func (.yield l3) #[] #[]], MkA (D2 :: []), OwnSl 113 3 al4 l5.length cl4 csl3, OwnMap bv m3] ?_
  refine .blkN (.seqN (.seq (.region (.V (ld1 (v := .pointer (some pk)) rfl tO96 (cellH (CellsAt.mono (FH.le_trans (le743) (q15340)) q15074 0 _ rfl))) ?_))))
  refine .V (nck rfl) ?_
  refine .V (fa rfl tF99_1) ?_
  refine .V (ld1 (v := vSl ak4 k.sN ck4) rfl tO22 (cellH (CellsAt.mono (FH.le_trans (FH.le_trans (FH.le_trans (q10540) (le742)) (le743)) (q15340)) _q11 4 _ rfl))) ?_
  refine .V (ln rfl tS22.is) ?_
  refine .V mv0 ?_
  refine .nil (.seqN (.block ?_))
  refine .sel0 [10, 11, 1, 2, 3, 4, 5, 6, 7, 8, 9, 12, 13] (by decide) rfl ?_
  obtain ⟨I4, μ4, q15657, q15658⟩ := hF
  refine .loop' (σ := Int × List Entry × (List UInt8 → Int) × Option Addr × Nat × List Value × FH) (fun z => I4 z.1 z.2.1 z.2.2.1 ∧ RepL z.2.2.2.2.2.2 z.2.1 z.2.2.2.2.2.1 ∧ FH.le h762 z.2.2.2.2.2.2) (fun z => μ4 z.1 z.2.1 z.2.2.1) (fun z => [(2, .pointer (some p4)), (3, .pointer (some pdone)), (26, vSl ak4 k.sN ck4), (27, iV ((k.sN.length : Nat) : Int)), (28, iV z.1)]) (fun z => [Box pdone [.func (.yield l3) #[] #[]], MkA (D2 :: []), Box pkey [.func (.func 49) #[] #[]], Box pv [.slice none 0 0], Box pv2 [.bool false], Box pv3 [.bool false], Box pqueue [vSl z.2.2.2.1 z.2.1 z.2.2.2.2.1], Box pseen [.map (some bv)], Box p [iV x], MkA (D :: dl), LA .ready none, OwnSl 113 3 z.2.2.2.1 z.2.1.length z.2.2.2.2.1 z.2.2.2.2.2.1, OwnMap bv z.2.2.1]) (fun z => z.2.2.2.2.2.2) (0, l5, m3, al4, cl4, csl3, h762) ⟨q15657, q15339, (FH.le_refl _)⟩ sb rfl (FH.le_refl _) ?_
  rintro ⟨t28, l8, m6, al7, cl7, csl6, h775⟩ ⟨q15657, q15561, q15562⟩
  have hF := q15658 t28 l8 m6 q15657
  show J _ _ _ _ _ [(2, .pointer (some p4)), (3, .pointer (some pdone)), (26, vSl ak4 k.sN ck4), (27, iV ((k.sN.length : Nat) : Int)), (28, iV t28)] [Box pdone [.func (.yield l3) #[] #[]], MkA (D2 :: []), Box pkey [.func (.func 49) #[] #[]], Box pv [.slice none 0 0], Box pv2 [.bool false], Box pv3 [.bool false], Box pqueue [vSl al7 l8 cl7], Box pseen [.map (some bv)], Box p [iV x], MkA (D :: dl), LA .ready none, OwnSl 113 3 al7 l8.length cl7 csl6, OwnMap bv m6] h775
  refine .seq (.region (.V bi0 ?_))
  refine .nil (.seqN (.seq ?_))
  refine .cond rfl (fun q15661 => ?_) (fun q15661 => ?_)
  ·replace hF := hF.1 q15661
   refine .skip (.seqN ?_)
   refine .share (σ := List Entry × (List UInt8 → Int) × Option Addr × Nat × List Value × FH) (fun z => F_breadthC_J2 t28 I4 μ4 l8 m6 z.1 z.2.1 ∧ RepL z.2.2.2.2.2 z.1 z.2.2.2.2.1 ∧ FH.le h775 z.2.2.2.2.2) (fun _ => [(2, .pointer (some p4)), (3, .pointer (some pdone)), (26, vSl ak4 k.sN ck4), (27, iV ((k.sN.length : Nat) : Int)), (28, iV t28)]) (fun z => [Box pdone [.func (.yield l3) #[] #[]], MkA (D2 :: []), Box pkey [.func (.func 49) #[] #[]], Box pv [.slice none 0 0], Box pv2 [.bool false], Box pv3 [.bool false], Box pqueue [vSl z.2.2.1 z.1 z.2.2.2.1], Box pseen [.map (some bv)], Box p [iV x], MkA (D :: dl), LA .ready none, OwnSl 113 3 z.2.2.1 z.1.length z.2.2.2.1 z.2.2.2.2.1, OwnMap bv z.2.1]) (fun z => z.2.2.2.2.2) ?_ (fun q15707 => ?_)
   ·rintro ⟨l10, m8, al9, cl9, csl8, h781⟩ ⟨hF, q15705, q15706⟩
    show J _ _ _ _ _ [(2, .pointer (some p4)), (3, .pointer (some pdone)), (26, vSl ak4 k.sN ck4), (27, iV ((k.sN.length : Nat) : Int)), (28, iV t28)] [Box pdone [.func (.yield l3) #[] #[]], MkA (D2 :: []), Box pkey [.func (.func 49) #[] #[]], Box pv [.slice none 0 0], Box pv2 [.bool false], Box pv3 [.bool false], Box pqueue [vSl al9 l10 cl9], Box pseen [.map (some bv)], Box p [iV x], MkA (D :: dl), LA .ready none, OwnSl 113 3 al9 l10.length cl9 csl8, OwnMap bv m8] h781
    refine .region (.V bi0 ?_)
    refine .V mv0 ?_
    refine .nil ?_
    exact .RO (wr (t28 + 1), l10, m8, al9, cl9, csl8, h781) ⟨hF.1, q15705, (FH.le_trans (q15562) (q15706))⟩ hF.2
   refine .block (.seq (.region ?_))
   obtain ⟨q15708, hF⟩ := hF
   refine .V (ix rfl rfl tS22 (_q9.ne (by decide) (inb_pos q15708)) q15708) ?_
   refine .V (ld1 (v := iV (gt k.sN t28)) rfl tO3 (cellH ((_q9.mono (FH.le_trans (FH.le_trans (FH.le_trans (FH.le_trans (q10540) (le742)) (le743)) (q15340)) (q15562))).elemF q15708 (by decide) 0 _ rfl))) ?_
   refine .V ag0 ?_
   refine .nil (.seqN (.seq (.region (.V (ld1 (v := .slice a2 ((gt l x).node.length) c) rfl tO35 (cellH (CellsAt.mono (FH.le_trans (FH.le_trans (le743) (q15340)) (q15562)) q15075 0 _ rfl))) ?_))))
   refine .V mv0 ?_
   obtain ⟨q15709, hF⟩ := hF
   obtain ⟨r10, q15710⟩ : ∃ y_ : List (List Int) × List (List Int), y_ = sp_split ((gt l x).node) (gt k.sN t28) := ⟨_, rfl⟩
   replace hF := hF r10 q15710
   refine clR (α := Option Addr × Nat × Option Addr × Nat) (Φ := fun h1 z => RSl h1 z.1 r10.1 ∧ r10.1.length ≤ z.2.1 ∧ RSl h1 z.2.2.1 r10.2 ∧ r10.2.length ≤ z.2.2.2) (V := fun z => .tuple #[vSl z.1 r10.1 z.2.1, vSl z.2.2.1 r10.2 z.2.2.2]) Tryz.call97 rfl rfl (fun w S => (by rw [q15710]; exact c_split S.sub ((gt l x).node) a2 c (q14886.mono (FH.le_trans (FH.le_trans (FH.le_trans (le742) (le743)) (q15340)) (q15562))) q14885 (gt k.sN t28) q15709)) rfl (fun z h782 le782 hz => ?_)
   obtain ⟨a14, c9, a15, c10⟩ := z
   obtain ⟨q15711, q15712, q15713, q15714⟩ := hz
   refine .V mv0 ?_
   refine .V (ext rfl rfl) ?_
   refine .V (ext rfl rfl) ?_
   refine .V ag0 ?_
   refine .V ag0 ?_
   refine .nil (.seqN (.seq (.region (.V mv0 ?_))))
   refine .V (ln rfl tS35.is) ?_
   refine .V bi0 ?_
   refine .V mv0 ?_
   rcases Bool.eq_false_or_eq_true (decide (0 < ((r10.1.length : Nat) : Int))) with q15715 | q15715
   ·replace hF := hF.1 q15715
    refine .GV mv0 q15715 ?_
    refine .GV (ln rfl tS35.is) q15715 ?_
    refine .GV bi0 q15715 ?_
    refine .V (pkT rfl q15715 rfl) ?_
    refine .V mv0 ?_
    rcases Bool.eq_false_or_eq_true (decide (0 < ((r10.2.length : Nat) : Int))) with q15716 | q15716
    ·replace hF := hF.1 q15716
     refine .GV (ld1 rfl tO119 (cellB (off := 0) (k := 0) rfl rfl)) q15716 ?_
     refine .GV mv0 q15716 ?_
     refine .gR rfl rfl rfl q15716 ?_
     refine .yld (k := 10) (vs := [iV (-1), vSl a14 r10.1 c9]) q15076 rfl rfl rfl rfl rfl (fun aG3 q15717 => ?_)
     refine .sub (s' := [(5, .pointer (some pkey)), (8, .pointer (some pv)), (9, .pointer (some pv2)), (10, .pointer (some pv3)), (11, .pointer (some pqueue)), (12, .pointer (some pseen)), (13, .pointer (some p)), (70, iV (-1)), (71, vSl a14 r10.1 c9)]) sb ?_
     refine .seq (.region (.V ag0 ?_))
     refine .nil (.seqN (.region (.V ag0 ?_)))
     refine .nil ?_
     refine .begin_ (k := 10) q15076 rfl ?_
     refine .KA [Box pdone [.func (.yield l3) #[] #[]], MkA (D2 :: []), Box pkey [.func (.func 49) #[] #[]], Box pv [.slice none 0 0], Box pv2 [.bool false], Box pv3 [.bool false], Box pqueue [vSl al7 l8 cl7], Box pseen [.map (some bv)], Box p [iV x], MkA (D :: dl), LA .busy none, OwnSl 113 3 al7 l8.length cl7 csl6, OwnMap bv m6] ?_
     refine .block (.seq (.region (.V (ld1 rfl tO80 (cellB (off := 0) (k := 2) rfl rfl)) ?_)))
     refine .V mv0 ?_
     obtain ⟨q15718, hF⟩ := hF
     obtain ⟨r11, q15719⟩ : ∃ y_ : List UInt8, y_ = sp_key r10.1 := ⟨_, rfl⟩
     replace hF := hF r11 q15719
     refine .C (cl (v := strV r11) Tryz.call49 rfl rfl (fun w S => (by rw [q15719]; exact c_key S.sub (ht.mono (FH.le_trans (FH.le_trans (FH.le_trans (FH.le_trans (FH.le_trans (q10540) (le742)) (le743)) (q15340)) (q15562)) (le782))) r10.1 a14 c9 q15711 q15712 q15718))) ?_
     refine .V ag0 ?_
     refine .nil (.seqN (.seq (.seq (.region (.V (ld1 rfl tO97 (cellB (off := 0) (k := 7) rfl rfl)) ?_)))))
     refine .V mv0 ?_
     refine .V (lk tM97 rfl rfl (kk := 12) rfl) ?_
     refine .V bi0 ?_
     refine .nil (.seqN ?_)
     refine .cond rfl (fun q15721 => ?_) (fun q15721 => ?_)
     ·replace hF := hF.1 q15721
      refine .exit (.seqX (.blkX ?_))
      refine .rdN (k := 10) q15076 rfl q15717 rfl ?_
      refine .KA [Box pdone [.func (.yield l3) #[] #[]], MkA (D2 :: []), Box pkey [.func (.func 49) #[] #[]], Box pv [.slice none 0 0], Box pv2 [.bool false], Box pv3 [.bool false], Box pqueue [vSl al7 l8 cl7], Box pseen [.map (some bv)], Box p [iV x], MkA (D :: dl), LA .ready none, OwnSl 113 3 al7 l8.length cl7 csl6, OwnMap bv m6] ?_
      refine .GV (nt rfl) q15716 ?_
      refine .GV mv0 q15716 ?_
      refine .gv (ld1 rfl tO119 (cellB (off := 0) (k := 0) rfl rfl)) rfl rfl rfl rfl rfl rfl ?_
      refine .gv mv0 rfl rfl rfl rfl rfl rfl ?_
      refine .gR rfl rfl rfl rfl ?_
      refine .yld (k := 10) (vs := [iV (-1), vSl a15 r10.2 c10]) q15076 rfl rfl rfl rfl rfl (fun aG4 q15722 => ?_)
      refine .sub (s' := [(5, .pointer (some pkey)), (8, .pointer (some pv)), (9, .pointer (some pv2)), (10, .pointer (some pv3)), (11, .pointer (some pqueue)), (12, .pointer (some pseen)), (13, .pointer (some p)), (70, iV (-1)), (71, vSl a15 r10.2 c10)]) sb ?_
      refine .seq (.region (.V ag0 ?_))
      refine .nil (.seqN (.region (.V ag0 ?_)))
      refine .nil ?_
      refine .begin_ (k := 10) q15076 rfl ?_
      refine .KA [Box pdone [.func (.yield l3) #[] #[]], MkA (D2 :: []), Box pkey [.func (.func 49) #[] #[]], Box pv [.slice none 0 0], Box pv2 [.bool false], Box pv3 [.bool false], Box pqueue [vSl al7 l8 cl7], Box pseen [.map (some bv)], Box p [iV x], MkA (D :: dl), LA .busy none, OwnSl 113 3 al7 l8.length cl7 csl6, OwnMap bv m6] ?_
      refine .block (.seq (.region (.V (ld1 rfl tO80 (cellB (off := 0) (k := 2) rfl rfl)) ?_)))
      refine .V mv0 ?_
      obtain ⟨q15723, hF⟩ := hF
      obtain ⟨r12, q15724⟩ : ∃ y_ : List UInt8, y_ = sp_key r10.2 := ⟨_, rfl⟩
      replace hF := hF r12 q15724
      refine .C (cl (v := strV r12) Tryz.call49 rfl rfl (fun w S => (by rw [q15724]; exact c_key S.sub (ht.mono (FH.le_trans (FH.le_trans (FH.le_trans (FH.le_trans (FH.le_trans (q10540) (le742)) (le743)) (q15340)) (q15562)) (le782))) r10.2 a15 c10 q15713 q15714 q15723))) ?_
      refine .V ag0 ?_
      refine .nil (.seqN (.seq (.seq (.region (.V (ld1 rfl tO97 (cellB (off := 0) (k := 7) rfl rfl)) ?_)))))
      refine .V mv0 ?_
      refine .V (lk tM97 rfl rfl (kk := 12) rfl) ?_
      refine .V bi0 ?_
      refine .nil (.seqN ?_)
      refine .cond rfl (fun q15726 => ?_) (fun q15726 => ?_)
      ·replace hF := hF.1 q15726
       refine .exit (.seqX (.blkX ?_))
       refine .rdN (k := 10) q15076 rfl q15722 rfl ?_
       refine .KA [Box pdone [.func (.yield l3) #[] #[]], MkA (D2 :: []), Box pkey [.func (.func 49) #[] #[]], Box pv [.slice none 0 0], Box pv2 [.bool false], Box pv3 [.bool false], Box pqueue [vSl al7 l8 cl7], Box pseen [.map (some bv)], Box p [iV x], MkA (D :: dl), LA .ready none, OwnSl 113 3 al7 l8.length cl7 csl6, OwnMap bv m6] ?_
       refine .gv (nt rfl) rfl rfl rfl rfl rfl rfl ?_
       refine .GV (pkF rfl rfl rfl) q15716 ?_
       refine .V (pkT rfl q15716 rfl) ?_
       refine .nil (.seqN ?_)
       refine .cond rfl (fun e => absurd (e.symm.trans rfl) (by decide)) (fun _ => ?_)
       refine .skip (.blkN ?_)
       exact .US q15707 (l8, m6, al7, cl7, csl6, h782) ⟨hF, (RepL.mono (le782) q15561), (le782)⟩
      replace hF := hF.2 q15726
      refine .skip (.seqN (.seq (.seq (.region (.V (ld1 rfl tO114 (cellB (off := 0) (k := 6) rfl rfl)) ?_)))))
      refine .V (ln rfl tS114.is) ?_
      refine .V bi0 ?_
      refine .nil (.seqN ?_)
      refine .cond rfl (fun q15728 => ?_) (fun q15728 => ?_)
      ·replace hF := hF.1 q15728
       refine .seq (.region ?_)
       refine st (p := pv) (off := 0) (k := 3) (vs := [.slice none 0 0]) rfl rfl rfl (fun w => (tO22 w).2) rfl rfl rfl rfl ?_
       refine .KA [Box pdone [.func (.yield l3) #[] #[]], MkA (D2 :: []), Box pkey [.func (.func 49) #[] #[]], Box pv [.slice none 0 0], Box pv2 [.bool false], Box pv3 [.bool false], Box pqueue [vSl al7 l8 cl7], Box pseen [.map (some bv)], Box p [iV x], MkA (D :: dl), LA .busy none, OwnSl 113 3 al7 l8.length cl7 csl6, OwnMap bv m6] ?_
       refine st (p := pv2) (off := 0) (k := 4) (vs := [.bool false]) rfl rfl rfl (fun w => (tO4 w).2) rfl rfl rfl rfl ?_
       refine .KA [Box pdone [.func (.yield l3) #[] #[]], MkA (D2 :: []), Box pkey [.func (.func 49) #[] #[]], Box pv [.slice none 0 0], Box pv2 [.bool false], Box pv3 [.bool false], Box pqueue [vSl al7 l8 cl7], Box pseen [.map (some bv)], Box p [iV x], MkA (D :: dl), LA .busy none, OwnSl 113 3 al7 l8.length cl7 csl6, OwnMap bv m6] ?_
       refine st (p := pv3) (off := 0) (k := 5) (vs := [.bool false]) rfl rfl rfl (fun w => (tO4 w).2) rfl rfl rfl rfl ?_
       refine .KA [Box pdone [.func (.yield l3) #[] #[]], MkA (D2 :: []), Box pkey [.func (.func 49) #[] #[]], Box pv [.slice none 0 0], Box pv2 [.bool false], Box pv3 [.bool false], Box pqueue [vSl al7 l8 cl7], Box pseen [.map (some bv)], Box p [iV x], MkA (D :: dl), LA .busy none, OwnSl 113 3 al7 l8.length cl7 csl6, OwnMap bv m6] ?_
       refine .nil (.seqN (.ret (.seqR (.blkR ?_))))
       refine .rdR (k := 10) q15076 rfl q15722 rfl ?_
       refine .KA [Box pdone [.func (.yield l3) #[] #[]], MkA (D2 :: []), Box pkey [.func (.func 49) #[] #[]], Box pv [.slice none 0 0], Box pv2 [.bool false], Box pv3 [.bool false], Box pqueue [vSl al7 l8 cl7], Box pseen [.map (some bv)], Box p [iV x], MkA (D :: dl), LA .done (some .ret), OwnSl 113 3 al7 l8.length cl7 csl6, OwnMap bv m6] ?_
       refine .gv (nt rfl) rfl rfl rfl rfl rfl rfl ?_
       refine .GV (pkF rfl rfl rfl) q15716 ?_
       refine .V (pkT rfl q15716 rfl) ?_
       refine .nil (.seqN ?_)
       refine .cond rfl (fun _ => ?_) (fun e => absurd (e.symm.trans rfl) (by decide))
       refine .ret (.blkR (.seqR (.seqR (.blkR ?_))))
       refine .resMN (.inl rfl) (k := 1) rfl ?_
       refine .res0 (.inl rfl) rfl (range_jump (k := 10) q15076 rfl q15077 ?_)
       refine .KA [Box pdone [.func (.yield l3) #[] #[]], tru, Box pkey [.func (.func 49) #[] #[]], Box pv [.slice none 0 0], Box pv2 [.bool false], Box pv3 [.bool false], Box pqueue [vSl al7 l8 cl7], Box pseen [.map (some bv)], Box p [iV x], MkA (D :: dl), tru, OwnSl 113 3 al7 l8.length cl7 csl6, OwnMap bv m6] ?_
       refine .ret (.blkR (.blkR (.seqR (.seqR (.blkR (.seqR ?_))))))
       refine .resM (k := 9) rfl ?_
       refine .res3 rfl (rvC1 rfl tO22 (k := 3) rfl) (rvC1 rfl tO4 (k := 4) rfl) (rvC1 rfl tO4 (k := 5) rfl) (fun w' S => ⟨(([] : List Int), false, false), (none, 0), h782, hF, rfl, (FH.le_trans (FH.le_trans (FH.le_trans (FH.le_trans (FH.le_trans (q10540) (le742)) (le743)) (q15340)) (q15562)) (le782)), ⟨RSl.nil_, (Nat.le_refl 0)⟩, S.none⟩)
      replace hF := hF.2 q15728
      refine .skip (.seqN (.seq (.region (.V (ld1 rfl tO97 (cellB (off := 0) (k := 7) rfl rfl)) ?_))))
      refine .V mv0 ?_
      refine mu tM97 rfl rfl rfl (kk := 12) rfl ?_
      refine .KA [Box pdone [.func (.yield l3) #[] #[]], MkA (D2 :: []), Box pkey [.func (.func 49) #[] #[]], Box pv [.slice none 0 0], Box pv2 [.bool false], Box pv3 [.bool false], Box pqueue [vSl al7 l8 cl7], Box pseen [.map (some bv)], Box p [iV x], MkA (D :: dl), LA .busy none, OwnSl 113 3 al7 l8.length cl7 csl6, OwnMap bv (upd m6 r12 1)] ?_
      refine .nil (.seqN (.region (.V (ld1 rfl tO114 (cellB (off := 0) (k := 6) rfl rfl)) ?_)))
      refine .V mv0 ?_
      refine .V (ld1 rfl tO3 (cellB (off := 0) (k := 8) rfl rfl)) ?_
      refine .V mv0 ?_
      refine .V (bld (cs := #[vSl a15 r10.2 c10, iV x, iV (-1)]) (pv := [(0, vSl a15 r10.2 c10), (1, iV x), (2, iV (-1))]) tB113 rfl rfl) ?_
      refine bs2 (cs := #[vSl a15 r10.2 c10, iV x, iV (-1)]) (pv := [(0, .agg #[vSl a15 r10.2 c10, iV x, iV (-1)])]) tS114 rfl rfl (by decide) (by decide) rfl rfl rfl (fun a16 _ => ?_)
      refine .KA [OwnSl 113 3 a16 (([(⟨r10.2, x, (-1)⟩ : Entry)] : List Entry).length) 1 [vSl a15 r10.2 c10, iV x, iV (-1)], Box pdone [.func (.yield l3) #[] #[]], MkA (D2 :: []), Box pkey [.func (.func 49) #[] #[]], Box pv [.slice none 0 0], Box pv2 [.bool false], Box pv3 [.bool false], Box pqueue [vSl al7 l8 cl7], Box pseen [.map (some bv)], Box p [iV x], MkA (D :: dl), LA .busy none, OwnSl 113 3 al7 l8.length cl7 csl6, OwnMap bv (upd m6 r12 1)] ?_
      obtain ⟨q15730, hF⟩ := hF
      have q15731 : l8.length + ([(⟨r10.2, x, (-1)⟩ : Entry)] : List Entry).length = ((l8 ++ ([(⟨r10.2, x, (-1)⟩ : Entry)] : List Entry))).length := len_app rfl rfl
      have q15732 := RepL.append (RepL.mono (le782) q15561) (show RepL h782 ([(⟨r10.2, x, (-1)⟩ : Entry)] : List Entry) [.slice a15 r10.2.length c10, iV x, iV (-1)] from ⟨[.slice a15 r10.2.length c10, iV x, iV (-1)], _, rfl, ⟨a15, c10, rfl, ⟨q15714, q15713⟩⟩, rfl⟩)
      refine app (k := 12) (news := [vSl a15 r10.2 c10, iV x, iV (-1)]) (cs' := (csl6 ++ [vSl a15 r10.2 c10, iV x, iV (-1)])) (nm := ((l8 ++ ([(⟨r10.2, x, (-1)⟩ : Entry)] : List Entry))).length) tS114 rfl (by decide) rfl rfl rfl (RepL.len (show RepL h782 ([(⟨r10.2, x, (-1)⟩ : Entry)] : List Entry) [vSl a15 r10.2 c10, iV x, iV (-1)] from ⟨[vSl a15 r10.2 c10, iV x, iV (-1)], _, rfl, ⟨a15, c10, rfl, ⟨q15714, q15713⟩⟩, rfl⟩)) (srcS (k := 0) rfl) (RepL.one (show RepL h782 ([(⟨r10.2, x, (-1)⟩ : Entry)] : List Entry) [vSl a15 r10.2 c10, iV x, iV (-1)] from ⟨[vSl a15 r10.2 c10, iV x, iV (-1)], _, rfl, ⟨a15, c10, rfl, ⟨q15714, q15713⟩⟩, rfl⟩)) (room_of q15731 q15730).1 (room_of q15731 q15730).2 q15731 rfl rfl (fun a17 c11 => ?_)
      refine .KA [OwnSl 113 3 a16 (([(⟨r10.2, x, (-1)⟩ : Entry)] : List Entry).length) 1 [vSl a15 r10.2 c10, iV x, iV (-1)], Box pdone [.func (.yield l3) #[] #[]], MkA (D2 :: []), Box pkey [.func (.func 49) #[] #[]], Box pv [.slice none 0 0], Box pv2 [.bool false], Box pv3 [.bool false], Box pqueue [vSl al7 l8 cl7], Box pseen [.map (some bv)], Box p [iV x], MkA (D :: dl), LA .busy none, OwnSl 113 3 a17 ((l8 ++ ([(⟨r10.2, x, (-1)⟩ : Entry)] : List Entry)).length) c11 (csl6 ++ [vSl a15 r10.2 c10, iV x, iV (-1)]), OwnMap bv (upd m6 r12 1)] ?_
      refine st (p := pqueue) (off := 0) (k := 7) (vs := [.slice a17 ((l8 ++ ([(⟨r10.2, x, (-1)⟩ : Entry)] : List Entry)).length) c11]) rfl rfl rfl (fun w => (tO114 w).2) rfl rfl rfl rfl ?_
      refine .KA [OwnSl 113 3 a16 (([(⟨r10.2, x, (-1)⟩ : Entry)] : List Entry).length) 1 [vSl a15 r10.2 c10, iV x, iV (-1)], Box pdone [.func (.yield l3) #[] #[]], MkA (D2 :: []), Box pkey [.func (.func 49) #[] #[]], Box pv [.slice none 0 0], Box pv2 [.bool false], Box pv3 [.bool false], Box pqueue [.slice a17 ((l8 ++ ([(⟨r10.2, x, (-1)⟩ : Entry)] : List Entry)).length) c11], Box pseen [.map (some bv)], Box p [iV x], MkA (D :: dl), LA .busy none, OwnSl 113 3 a17 ((l8 ++ ([(⟨r10.2, x, (-1)⟩ : Entry)] : List Entry)).length) c11 (csl6 ++ [vSl a15 r10.2 c10, iV x, iV (-1)]), OwnMap bv (upd m6 r12 1)] ?_
      refine .nil (.blkN ?_)
      refine .rdN (k := 11) q15076 rfl q15722 rfl ?_
      refine .KA [OwnSl 113 3 a16 (([(⟨r10.2, x, (-1)⟩ : Entry)] : List Entry).length) 1 [vSl a15 r10.2 c10, iV x, iV (-1)], Box pdone [.func (.yield l3) #[] #[]], MkA (D2 :: []), Box pkey [.func (.func 49) #[] #[]], Box pv [.slice none 0 0], Box pv2 [.bool false], Box pv3 [.bool false], Box pqueue [.slice a17 ((l8 ++ ([(⟨r10.2, x, (-1)⟩ : Entry)] : List Entry)).length) c11], Box pseen [.map (some bv)], Box p [iV x], MkA (D :: dl), LA .ready none, OwnSl 113 3 a17 ((l8 ++ ([(⟨r10.2, x, (-1)⟩ : Entry)] : List Entry)).length) c11 (csl6 ++ [vSl a15 r10.2 c10, iV x, iV (-1)]), OwnMap bv (upd m6 r12 1)] ?_
      refine .gv (nt rfl) rfl rfl rfl rfl rfl rfl ?_
      refine .GV (pkF rfl rfl rfl) q15716 ?_
      refine .V (pkT rfl q15716 rfl) ?_
      refine .nil (.seqN ?_)
      refine .cond rfl (fun e => absurd (e.symm.trans rfl) (by decide)) (fun _ => ?_)
      refine .skip (.blkN ?_)
      refine .sel0 [1, 2, 3, 4, 5, 6, 7, 8, 9, 10, 11, 12, 13] (by decide) rfl ?_
      exact .US q15707 ((l8 ++ ([(⟨r10.2, x, (-1)⟩ : Entry)] : List Entry)), (upd m6 r12 1), a17, c11, (csl6 ++ [vSl a15 r10.2 c10, iV x, iV (-1)]), h782) ⟨hF, q15732, (le782)⟩
     replace hF := hF.2 q15721
     refine .skip (.seqN (.seq (.seq (.region (.V (ld1 rfl tO114 (cellB (off := 0) (k := 6) rfl rfl)) ?_)))))
     refine .V (ln rfl tS114.is) ?_
     refine .V bi0 ?_
     refine .nil (.seqN ?_)
     refine .cond rfl (fun q15734 => ?_) (fun q15734 => ?_)
     ·replace hF := hF.1 q15734
      refine .seq (.region ?_)
      refine st (p := pv) (off := 0) (k := 3) (vs := [.slice none 0 0]) rfl rfl rfl (fun w => (tO22 w).2) rfl rfl rfl rfl ?_
      refine .KA [Box pdone [.func (.yield l3) #[] #[]], MkA (D2 :: []), Box pkey [.func (.func 49) #[] #[]], Box pv [.slice none 0 0], Box pv2 [.bool false], Box pv3 [.bool false], Box pqueue [vSl al7 l8 cl7], Box pseen [.map (some bv)], Box p [iV x], MkA (D :: dl), LA .busy none, OwnSl 113 3 al7 l8.length cl7 csl6, OwnMap bv m6] ?_
      refine st (p := pv2) (off := 0) (k := 4) (vs := [.bool false]) rfl rfl rfl (fun w => (tO4 w).2) rfl rfl rfl rfl ?_
      refine .KA [Box pdone [.func (.yield l3) #[] #[]], MkA (D2 :: []), Box pkey [.func (.func 49) #[] #[]], Box pv [.slice none 0 0], Box pv2 [.bool false], Box pv3 [.bool false], Box pqueue [vSl al7 l8 cl7], Box pseen [.map (some bv)], Box p [iV x], MkA (D :: dl), LA .busy none, OwnSl 113 3 al7 l8.length cl7 csl6, OwnMap bv m6] ?_
      refine st (p := pv3) (off := 0) (k := 5) (vs := [.bool false]) rfl rfl rfl (fun w => (tO4 w).2) rfl rfl rfl rfl ?_
      refine .KA [Box pdone [.func (.yield l3) #[] #[]], MkA (D2 :: []), Box pkey [.func (.func 49) #[] #[]], Box pv [.slice none 0 0], Box pv2 [.bool false], Box pv3 [.bool false], Box pqueue [vSl al7 l8 cl7], Box pseen [.map (some bv)], Box p [iV x], MkA (D :: dl), LA .busy none, OwnSl 113 3 al7 l8.length cl7 csl6, OwnMap bv m6] ?_
      refine .nil (.seqN (.ret (.seqR (.blkR ?_))))
      refine .rdR (k := 10) q15076 rfl q15717 rfl ?_
      refine .KA [Box pdone [.func (.yield l3) #[] #[]], MkA (D2 :: []), Box pkey [.func (.func 49) #[] #[]], Box pv [.slice none 0 0], Box pv2 [.bool false], Box pv3 [.bool false], Box pqueue [vSl al7 l8 cl7], Box pseen [.map (some bv)], Box p [iV x], MkA (D :: dl), LA .done (some .ret), OwnSl 113 3 al7 l8.length cl7 csl6, OwnMap bv m6] ?_
      refine .GV (nt rfl) q15716 ?_
      refine .GV mv0 q15716 ?_
      refine .gS rfl rfl rfl rfl rfl rfl ?_
      refine .gS rfl rfl rfl rfl rfl rfl ?_
      refine .gS rfl rfl rfl rfl rfl rfl ?_
      refine .gS rfl rfl rfl rfl rfl rfl ?_
      refine .GV (pkT rfl rfl rfl) q15716 ?_
      refine .V (pkT rfl q15716 rfl) ?_
      refine .nil (.seqN ?_)
      refine .cond rfl (fun _ => ?_) (fun e => absurd (e.symm.trans rfl) (by decide))
      refine .ret (.blkR (.seqR (.seqR (.blkR ?_))))
      refine .resMN (.inl rfl) (k := 1) rfl ?_
      refine .res0 (.inl rfl) rfl (range_jump (k := 10) q15076 rfl q15077 ?_)
      refine .KA [Box pdone [.func (.yield l3) #[] #[]], tru, Box pkey [.func (.func 49) #[] #[]], Box pv [.slice none 0 0], Box pv2 [.bool false], Box pv3 [.bool false], Box pqueue [vSl al7 l8 cl7], Box pseen [.map (some bv)], Box p [iV x], MkA (D :: dl), tru, OwnSl 113 3 al7 l8.length cl7 csl6, OwnMap bv m6] ?_
      refine .ret (.blkR (.blkR (.seqR (.seqR (.blkR (.seqR ?_))))))
      refine .resM (k := 9) rfl ?_
      refine .res3 rfl (rvC1 rfl tO22 (k := 3) rfl) (rvC1 rfl tO4 (k := 4) rfl) (rvC1 rfl tO4 (k := 5) rfl) (fun w' S => ⟨(([] : List Int), false, false), (none, 0), h782, hF, rfl, (FH.le_trans (FH.le_trans (FH.le_trans (FH.le_trans (FH.le_trans (q10540) (le742)) (le743)) (q15340)) (q15562)) (le782)), ⟨RSl.nil_, (Nat.le_refl 0)⟩, S.none⟩)
     replace hF := hF.2 q15734
     refine .skip (.seqN (.seq (.region (.V (ld1 rfl tO97 (cellB (off := 0) (k := 7) rfl rfl)) ?_))))
     refine .V mv0 ?_
     refine mu tM97 rfl rfl rfl (kk := 12) rfl ?_
     refine .KA [Box pdone [.func (.yield l3) #[] #[]], MkA (D2 :: []), Box pkey [.func (.func 49) #[] #[]], Box pv [.slice none 0 0], Box pv2 [.bool false], Box pv3 [.bool false], Box pqueue [vSl al7 l8 cl7], Box pseen [.map (some bv)], Box p [iV x], MkA (D :: dl), LA .busy none, OwnSl 113 3 al7 l8.length cl7 csl6, OwnMap bv (upd m6 r11 1)] ?_
     refine .nil (.seqN (.region (.V (ld1 rfl tO114 (cellB (off := 0) (k := 6) rfl rfl)) ?_)))
     refine .V mv0 ?_
     refine .V (ld1 rfl tO3 (cellB (off := 0) (k := 8) rfl rfl)) ?_
     refine .V mv0 ?_
     refine .V (bld (cs := #[vSl a14 r10.1 c9, iV x, iV (-1)]) (pv := [(0, vSl a14 r10.1 c9), (1, iV x), (2, iV (-1))]) tB113 rfl rfl) ?_
     refine bs2 (cs := #[vSl a14 r10.1 c9, iV x, iV (-1)]) (pv := [(0, .agg #[vSl a14 r10.1 c9, iV x, iV (-1)])]) tS114 rfl rfl (by decide) (by decide) rfl rfl rfl (fun a18 _ => ?_)
     refine .KA [OwnSl 113 3 a18 (([(⟨r10.1, x, (-1)⟩ : Entry)] : List Entry).length) 1 [vSl a14 r10.1 c9, iV x, iV (-1)], Box pdone [.func (.yield l3) #[] #[]], MkA (D2 :: []), Box pkey [.func (.func 49) #[] #[]], Box pv [.slice none 0 0], Box pv2 [.bool false], Box pv3 [.bool false], Box pqueue [vSl al7 l8 cl7], Box pseen [.map (some bv)], Box p [iV x], MkA (D :: dl), LA .busy none, OwnSl 113 3 al7 l8.length cl7 csl6, OwnMap bv (upd m6 r11 1)] ?_
     obtain ⟨q15736, hF⟩ := hF
     have q15737 : l8.length + ([(⟨r10.1, x, (-1)⟩ : Entry)] : List Entry).length = ((l8 ++ ([(⟨r10.1, x, (-1)⟩ : Entry)] : List Entry))).length := len_app rfl rfl
     have q15738 := RepL.append (RepL.mono (le782) q15561) (show RepL h782 ([(⟨r10.1, x, (-1)⟩ : Entry)] : List Entry) [.slice a14 r10.1.length c9, iV x, iV (-1)] from ⟨[.slice a14 r10.1.length c9, iV x, iV (-1)], _, rfl, ⟨a14, c9, rfl, ⟨q15712, q15711⟩⟩, rfl⟩)
     refine app (k := 12) (news := [vSl a14 r10.1 c9, iV x, iV (-1)]) (cs' := (csl6 ++ [vSl a14 r10.1 c9, iV x, iV (-1)])) (nm := ((l8 ++ ([(⟨r10.1, x, (-1)⟩ : Entry)] : List Entry))).length) tS114 rfl (by decide) rfl rfl rfl (RepL.len (show RepL h782 ([(⟨r10.1, x, (-1)⟩ : Entry)] : List Entry) [vSl a14 r10.1 c9, iV x, iV (-1)] from ⟨[vSl a14 r10.1 c9, iV x, iV (-1)], _, rfl, ⟨a14, c9, rfl, ⟨q15712, q15711⟩⟩, rfl⟩)) (srcS (k := 0) rfl) (RepL.one (show RepL h782 ([(⟨r10.1, x, (-1)⟩ : Entry)] : List Entry) [vSl a14 r10.1 c9, iV x, iV (-1)] from ⟨[vSl a14 r10.1 c9, iV x, iV (-1)], _, rfl, ⟨a14, c9, rfl, ⟨q15712, q15711⟩⟩, rfl⟩)) (room_of q15737 q15736).1 (room_of q15737 q15736).2 q15737 rfl rfl (fun a19 c12 => ?_)
     refine .KA [OwnSl 113 3 a18 (([(⟨r10.1, x, (-1)⟩ : Entry)] : List Entry).length) 1 [vSl a14 r10.1 c9, iV x, iV (-1)], Box pdone [.func (.yield l3) #[] #[]], MkA (D2 :: []), Box pkey [.func (.func 49) #[] #[]], Box pv [.slice none 0 0], Box pv2 [.bool false], Box pv3 [.bool false], Box pqueue [vSl al7 l8 cl7], Box pseen [.map (some bv)], Box p [iV x], MkA (D :: dl), LA .busy none, OwnSl 113 3 a19 ((l8 ++ ([(⟨r10.1, x, (-1)⟩ : Entry)] : List Entry)).length) c12 (csl6 ++ [vSl a14 r10.1 c9, iV x, iV (-1)]), OwnMap bv (upd m6 r11 1)] ?_
     refine st (p := pqueue) (off := 0) (k := 7) (vs := [.slice a19 ((l8 ++ ([(⟨r10.1, x, (-1)⟩ : Entry)] : List Entry)).length) c12]) rfl rfl rfl (fun w => (tO114 w).2) rfl rfl rfl rfl ?_
     refine .KA [OwnSl 113 3 a18 (([(⟨r10.1, x, (-1)⟩ : Entry)] : List Entry).length) 1 [vSl a14 r10.1 c9, iV x, iV (-1)], Box pdone [.func (.yield l3) #[] #[]], MkA (D2 :: []), Box pkey [.func (.func 49) #[] #[]], Box pv [.slice none 0 0], Box pv2 [.bool false], Box pv3 [.bool false], Box pqueue [.slice a19 ((l8 ++ ([(⟨r10.1, x, (-1)⟩ : Entry)] : List Entry)).length) c12], Box pseen [.map (some bv)], Box p [iV x], MkA (D :: dl), LA .busy none, OwnSl 113 3 a19 ((l8 ++ ([(⟨r10.1, x, (-1)⟩ : Entry)] : List Entry)).length) c12 (csl6 ++ [vSl a14 r10.1 c9, iV x, iV (-1)]), OwnMap bv (upd m6 r11 1)] ?_
     refine .nil (.blkN ?_)
     refine .rdN (k := 11) q15076 rfl q15717 rfl ?_
     refine .KA [OwnSl 113 3 a18 (([(⟨r10.1, x, (-1)⟩ : Entry)] : List Entry).length) 1 [vSl a14 r10.1 c9, iV x, iV (-1)], Box pdone [.func (.yield l3) #[] #[]], MkA (D2 :: []), Box pkey [.func (.func 49) #[] #[]], Box pv [.slice none 0 0], Box pv2 [.bool false], Box pv3 [.bool false], Box pqueue [.slice a19 ((l8 ++ ([(⟨r10.1, x, (-1)⟩ : Entry)] : List Entry)).length) c12], Box pseen [.map (some bv)], Box p [iV x], MkA (D :: dl), LA .ready none, OwnSl 113 3 a19 ((l8 ++ ([(⟨r10.1, x, (-1)⟩ : Entry)] : List Entry)).length) c12 (csl6 ++ [vSl a14 r10.1 c9, iV x, iV (-1)]), OwnMap bv (upd m6 r11 1)] ?_
     refine .GV (nt rfl) q15716 ?_
     refine .GV mv0 q15716 ?_
     refine .gv (ld1 rfl tO119 (cellB (off := 0) (k := 1) rfl rfl)) rfl rfl rfl rfl rfl rfl ?_
     refine .gv mv0 rfl rfl rfl rfl rfl rfl ?_
     refine .gR rfl rfl rfl rfl ?_
     refine .yld (k := 11) (vs := [iV (-1), vSl a15 r10.2 c10]) q15076 rfl rfl rfl rfl rfl (fun aG5 q15739 => ?_)
     refine .sub (s' := [(5, .pointer (some pkey)), (8, .pointer (some pv)), (9, .pointer (some pv2)), (10, .pointer (some pv3)), (11, .pointer (some pqueue)), (12, .pointer (some pseen)), (13, .pointer (some p)), (70, iV (-1)), (71, vSl a15 r10.2 c10)]) sb ?_
     refine .seq (.region (.V ag0 ?_))
     refine .nil (.seqN (.region (.V ag0 ?_)))
     refine .nil ?_
     refine .begin_ (k := 11) q15076 rfl ?_
     refine .KA [OwnSl 113 3 a18 (([(⟨r10.1, x, (-1)⟩ : Entry)] : List Entry).length) 1 [vSl a14 r10.1 c9, iV x, iV (-1)], Box pdone [.func (.yield l3) #[] #[]], MkA (D2 :: []), Box pkey [.func (.func 49) #[] #[]], Box pv [.slice none 0 0], Box pv2 [.bool false], Box pv3 [.bool false], Box pqueue [.slice a19 ((l8 ++ ([(⟨r10.1, x, (-1)⟩ : Entry)] : List Entry)).length) c12], Box pseen [.map (some bv)], Box p [iV x], MkA (D :: dl), LA .busy none, OwnSl 113 3 a19 ((l8 ++ ([(⟨r10.1, x, (-1)⟩ : Entry)] : List Entry)).length) c12 (csl6 ++ [vSl a14 r10.1 c9, iV x, iV (-1)]), OwnMap bv (upd m6 r11 1)] ?_
     refine .block (.seq (.region (.V (ld1 rfl tO80 (cellB (off := 0) (k := 3) rfl rfl)) ?_)))
     refine .V mv0 ?_
     obtain ⟨q15740, hF⟩ := hF
     obtain ⟨r13, q15741⟩ : ∃ y_ : List UInt8, y_ = sp_key r10.2 := ⟨_, rfl⟩
     replace hF := hF r13 q15741
     refine .C (cl (v := strV r13) Tryz.call49 rfl rfl (fun w S => (by rw [q15741]; exact c_key S.sub (ht.mono (FH.le_trans (FH.le_trans (FH.le_trans (FH.le_trans (FH.le_trans (q10540) (le742)) (le743)) (q15340)) (q15562)) (le782))) r10.2 a15 c10 q15713 q15714 q15740))) ?_
     refine .V ag0 ?_
     refine .nil (.seqN (.seq (.seq (.region (.V (ld1 rfl tO97 (cellB (off := 0) (k := 8) rfl rfl)) ?_)))))
     refine .V mv0 ?_
     refine .V (lk tM97 rfl rfl (kk := 13) rfl) ?_
     refine .V bi0 ?_
     refine .nil (.seqN ?_)
     refine .cond rfl (fun q15743 => ?_) (fun q15743 => ?_)
     ·replace hF := hF.1 q15743
      refine .exit (.seqX (.blkX ?_))
      refine .rdN (k := 11) q15076 rfl q15739 rfl ?_
      refine .KA [OwnSl 113 3 a18 (([(⟨r10.1, x, (-1)⟩ : Entry)] : List Entry).length) 1 [vSl a14 r10.1 c9, iV x, iV (-1)], Box pdone [.func (.yield l3) #[] #[]], MkA (D2 :: []), Box pkey [.func (.func 49) #[] #[]], Box pv [.slice none 0 0], Box pv2 [.bool false], Box pv3 [.bool false], Box pqueue [.slice a19 ((l8 ++ ([(⟨r10.1, x, (-1)⟩ : Entry)] : List Entry)).length) c12], Box pseen [.map (some bv)], Box p [iV x], MkA (D :: dl), LA .ready none, OwnSl 113 3 a19 ((l8 ++ ([(⟨r10.1, x, (-1)⟩ : Entry)] : List Entry)).length) c12 (csl6 ++ [vSl a14 r10.1 c9, iV x, iV (-1)]), OwnMap bv (upd m6 r11 1)] ?_
      refine .gv (nt rfl) rfl rfl rfl rfl rfl rfl ?_
      refine .GV (pkF rfl rfl rfl) q15716 ?_
      refine .V (pkT rfl q15716 rfl) ?_
      refine .nil (.seqN ?_)
      refine .cond rfl (fun e => absurd (e.symm.trans rfl) (by decide)) (fun _ => ?_)
      refine .skip (.blkN ?_)
      refine .sel0 [1, 2, 3, 4, 5, 6, 7, 8, 9, 10, 11, 12, 13] (by decide) rfl ?_
      exact .US q15707 ((l8 ++ ([(⟨r10.1, x, (-1)⟩ : Entry)] : List Entry)), (upd m6 r11 1), a19, c12, (csl6 ++ [vSl a14 r10.1 c9, iV x, iV (-1)]), h782) ⟨hF, q15738, (le782)⟩
     replace hF := hF.2 q15743
     refine .skip (.seqN (.seq (.seq (.region (.V (ld1 rfl tO114 (cellB (off := 0) (k := 7) rfl rfl)) ?_)))))
     obtain ⟨x3, q15744⟩ : ∃ y_ : Int, y_ = (((l8 ++ ([(⟨r10.1, x, (-1)⟩ : Entry)] : List Entry)).length : Nat) : Int) := ⟨_, rfl⟩
     replace hF := hF x3 q15744
     refine .v (v := iV x3) (by rw [q15744]; exact ln rfl tS114.is) rfl rfl rfl ?_
     refine .V bi0 ?_
     refine .nil (.seqN ?_)
     refine .cond rfl (fun q15746 => ?_) (fun q15746 => ?_)
     ·replace hF := hF.1 q15746
      refine .seq (.region ?_)
      refine st (p := pv) (off := 0) (k := 4) (vs := [.slice none 0 0]) rfl rfl rfl (fun w => (tO22 w).2) rfl rfl rfl rfl ?_
      refine .KA [OwnSl 113 3 a18 (([(⟨r10.1, x, (-1)⟩ : Entry)] : List Entry).length) 1 [vSl a14 r10.1 c9, iV x, iV (-1)], Box pdone [.func (.yield l3) #[] #[]], MkA (D2 :: []), Box pkey [.func (.func 49) #[] #[]], Box pv [.slice none 0 0], Box pv2 [.bool false], Box pv3 [.bool false], Box pqueue [.slice a19 ((l8 ++ ([(⟨r10.1, x, (-1)⟩ : Entry)] : List Entry)).length) c12], Box pseen [.map (some bv)], Box p [iV x], MkA (D :: dl), LA .busy none, OwnSl 113 3 a19 ((l8 ++ ([(⟨r10.1, x, (-1)⟩ : Entry)] : List Entry)).length) c12 (csl6 ++ [vSl a14 r10.1 c9, iV x, iV (-1)]), OwnMap bv (upd m6 r11 1)] ?_
      refine st (p := pv2) (off := 0) (k := 5) (vs := [.bool false]) rfl rfl rfl (fun w => (tO4 w).2) rfl rfl rfl rfl ?_
      refine .KA [OwnSl 113 3 a18 (([(⟨r10.1, x, (-1)⟩ : Entry)] : List Entry).length) 1 [vSl a14 r10.1 c9, iV x, iV (-1)], Box pdone [.func (.yield l3) #[] #[]], MkA (D2 :: []), Box pkey [.func (.func 49) #[] #[]], Box pv [.slice none 0 0], Box pv2 [.bool false], Box pv3 [.bool false], Box pqueue [.slice a19 ((l8 ++ ([(⟨r10.1, x, (-1)⟩ : Entry)] : List Entry)).length) c12], Box pseen [.map (some bv)], Box p [iV x], MkA (D :: dl), LA .busy none, OwnSl 113 3 a19 ((l8 ++ ([(⟨r10.1, x, (-1)⟩ : Entry)] : List Entry)).length) c12 (csl6 ++ [vSl a14 r10.1 c9, iV x, iV (-1)]), OwnMap bv (upd m6 r11 1)] ?_
      refine st (p := pv3) (off := 0) (k := 6) (vs := [.bool false]) rfl rfl rfl (fun w => (tO4 w).2) rfl rfl rfl rfl ?_
      refine .KA [OwnSl 113 3 a18 (([(⟨r10.1, x, (-1)⟩ : Entry)] : List Entry).length) 1 [vSl a14 r10.1 c9, iV x, iV (-1)], Box pdone [.func (.yield l3) #[] #[]], MkA (D2 :: []), Box pkey [.func (.func 49) #[] #[]], Box pv [.slice none 0 0], Box pv2 [.bool false], Box pv3 [.bool false], Box pqueue [.slice a19 ((l8 ++ ([(⟨r10.1, x, (-1)⟩ : Entry)] : List Entry)).length) c12], Box pseen [.map (some bv)], Box p [iV x], MkA (D :: dl), LA .busy none, OwnSl 113 3 a19 ((l8 ++ ([(⟨r10.1, x, (-1)⟩ : Entry)] : List Entry)).length) c12 (csl6 ++ [vSl a14 r10.1 c9, iV x, iV (-1)]), OwnMap bv (upd m6 r11 1)] ?_
      refine .nil (.seqN (.ret (.seqR (.blkR ?_))))
      refine .rdR (k := 11) q15076 rfl q15739 rfl ?_
      refine .KA [OwnSl 113 3 a18 (([(⟨r10.1, x, (-1)⟩ : Entry)] : List Entry).length) 1 [vSl a14 r10.1 c9, iV x, iV (-1)], Box pdone [.func (.yield l3) #[] #[]], MkA (D2 :: []), Box pkey [.func (.func 49) #[] #[]], Box pv [.slice none 0 0], Box pv2 [.bool false], Box pv3 [.bool false], Box pqueue [.slice a19 ((l8 ++ ([(⟨r10.1, x, (-1)⟩ : Entry)] : List Entry)).length) c12], Box pseen [.map (some bv)], Box p [iV x], MkA (D :: dl), LA .done (some .ret), OwnSl 113 3 a19 ((l8 ++ ([(⟨r10.1, x, (-1)⟩ : Entry)] : List Entry)).length) c12 (csl6 ++ [vSl a14 r10.1 c9, iV x, iV (-1)]), OwnMap bv (upd m6 r11 1)] ?_
      refine .gv (nt rfl) rfl rfl rfl rfl rfl rfl ?_
      refine .GV (pkF rfl rfl rfl) q15716 ?_
      refine .V (pkT rfl q15716 rfl) ?_
      refine .nil (.seqN ?_)
      refine .cond rfl (fun _ => ?_) (fun e => absurd (e.symm.trans rfl) (by decide))
      refine .ret (.blkR (.seqR (.seqR (.blkR ?_))))
      refine .resMN (.inl rfl) (k := 2) rfl ?_
      refine .res0 (.inl rfl) rfl (range_jump (k := 11) q15076 rfl q15077 ?_)
      refine .KA [OwnSl 113 3 a18 (([(⟨r10.1, x, (-1)⟩ : Entry)] : List Entry).length) 1 [vSl a14 r10.1 c9, iV x, iV (-1)], Box pdone [.func (.yield l3) #[] #[]], tru, Box pkey [.func (.func 49) #[] #[]], Box pv [.slice none 0 0], Box pv2 [.bool false], Box pv3 [.bool false], Box pqueue [.slice a19 ((l8 ++ ([(⟨r10.1, x, (-1)⟩ : Entry)] : List Entry)).length) c12], Box pseen [.map (some bv)], Box p [iV x], MkA (D :: dl), tru, OwnSl 113 3 a19 ((l8 ++ ([(⟨r10.1, x, (-1)⟩ : Entry)] : List Entry)).length) c12 (csl6 ++ [vSl a14 r10.1 c9, iV x, iV (-1)]), OwnMap bv (upd m6 r11 1)] ?_
      refine .ret (.blkR (.blkR (.seqR (.seqR (.blkR (.seqR ?_))))))
      refine .resM (k := 10) rfl ?_
      refine .res3 rfl (rvC1 rfl tO22 (k := 4) rfl) (rvC1 rfl tO4 (k := 5) rfl) (rvC1 rfl tO4 (k := 6) rfl) (fun w' S => ⟨(([] : List Int), false, false), (none, 0), h782, hF, rfl, (FH.le_trans (FH.le_trans (FH.le_trans (FH.le_trans (FH.le_trans (q10540) (le742)) (le743)) (q15340)) (q15562)) (le782)), ⟨RSl.nil_, (Nat.le_refl 0)⟩, S.none⟩)
     replace hF := hF.2 q15746
     refine .skip (.seqN (.seq (.region (.V (ld1 rfl tO97 (cellB (off := 0) (k := 8) rfl rfl)) ?_))))
     refine .V mv0 ?_
     refine mu tM97 rfl rfl rfl (kk := 13) rfl ?_
     refine .KA [OwnSl 113 3 a18 (([(⟨r10.1, x, (-1)⟩ : Entry)] : List Entry).length) 1 [vSl a14 r10.1 c9, iV x, iV (-1)], Box pdone [.func (.yield l3) #[] #[]], MkA (D2 :: []), Box pkey [.func (.func 49) #[] #[]], Box pv [.slice none 0 0], Box pv2 [.bool false], Box pv3 [.bool false], Box pqueue [.slice a19 ((l8 ++ ([(⟨r10.1, x, (-1)⟩ : Entry)] : List Entry)).length) c12], Box pseen [.map (some bv)], Box p [iV x], MkA (D :: dl), LA .busy none, OwnSl 113 3 a19 ((l8 ++ ([(⟨r10.1, x, (-1)⟩ : Entry)] : List Entry)).length) c12 (csl6 ++ [vSl a14 r10.1 c9, iV x, iV (-1)]), OwnMap bv (upd (upd m6 r11 1) r13 1)] ?_
     refine .nil (.seqN (.region (.V (ld1 rfl tO114 (cellB (off := 0) (k := 7) rfl rfl)) ?_)))
     refine .V mv0 ?_
     refine .V (ld1 rfl tO3 (cellB (off := 0) (k := 9) rfl rfl)) ?_
     refine .V mv0 ?_
     refine .V (bld (cs := #[vSl a15 r10.2 c10, iV x, iV (-1)]) (pv := [(0, vSl a15 r10.2 c10), (1, iV x), (2, iV (-1))]) tB113 rfl rfl) ?_
     refine bs2 (cs := #[vSl a15 r10.2 c10, iV x, iV (-1)]) (pv := [(0, .agg #[vSl a15 r10.2 c10, iV x, iV (-1)])]) tS114 rfl rfl (by decide) (by decide) rfl rfl rfl (fun a20 _ => ?_)
     refine .KA [OwnSl 113 3 a20 (([(⟨r10.2, x, (-1)⟩ : Entry)] : List Entry).length) 1 [vSl a15 r10.2 c10, iV x, iV (-1)], OwnSl 113 3 a18 (([(⟨r10.1, x, (-1)⟩ : Entry)] : List Entry).length) 1 [vSl a14 r10.1 c9, iV x, iV (-1)], Box pdone [.func (.yield l3) #[] #[]], MkA (D2 :: []), Box pkey [.func (.func 49) #[] #[]], Box pv [.slice none 0 0], Box pv2 [.bool false], Box pv3 [.bool false], Box pqueue [.slice a19 ((l8 ++ ([(⟨r10.1, x, (-1)⟩ : Entry)] : List Entry)).length) c12], Box pseen [.map (some bv)], Box p [iV x], MkA (D :: dl), LA .busy none, OwnSl 113 3 a19 ((l8 ++ ([(⟨r10.1, x, (-1)⟩ : Entry)] : List Entry)).length) c12 (csl6 ++ [vSl a14 r10.1 c9, iV x, iV (-1)]), OwnMap bv (upd (upd m6 r11 1) r13 1)] ?_
     obtain ⟨q15748, hF⟩ := hF
     have q15749 : (l8 ++ ([(⟨r10.1, x, (-1)⟩ : Entry)] : List Entry)).length + ([(⟨r10.2, x, (-1)⟩ : Entry)] : List Entry).length = (((l8 ++ ([(⟨r10.1, x, (-1)⟩ : Entry)] : List Entry)) ++ ([(⟨r10.2, x, (-1)⟩ : Entry)] : List Entry))).length := len_app rfl rfl
     have q15750 := RepL.append q15738 (show RepL h782 ([(⟨r10.2, x, (-1)⟩ : Entry)] : List Entry) [.slice a15 r10.2.length c10, iV x, iV (-1)] from ⟨[.slice a15 r10.2.length c10, iV x, iV (-1)], _, rfl, ⟨a15, c10, rfl, ⟨q15714, q15713⟩⟩, rfl⟩)
     refine app (k := 13) (news := [vSl a15 r10.2 c10, iV x, iV (-1)]) (cs' := ((csl6 ++ [vSl a14 r10.1 c9, iV x, iV (-1)]) ++ [vSl a15 r10.2 c10, iV x, iV (-1)])) (nm := (((l8 ++ ([(⟨r10.1, x, (-1)⟩ : Entry)] : List Entry)) ++ ([(⟨r10.2, x, (-1)⟩ : Entry)] : List Entry))).length) tS114 rfl (by decide) rfl rfl rfl (RepL.len (show RepL h782 ([(⟨r10.2, x, (-1)⟩ : Entry)] : List Entry) [vSl a15 r10.2 c10, iV x, iV (-1)] from ⟨[vSl a15 r10.2 c10, iV x, iV (-1)], _, rfl, ⟨a15, c10, rfl, ⟨q15714, q15713⟩⟩, rfl⟩)) (srcS (k := 0) rfl) (RepL.one (show RepL h782 ([(⟨r10.2, x, (-1)⟩ : Entry)] : List Entry) [vSl a15 r10.2 c10, iV x, iV (-1)] from ⟨[vSl a15 r10.2 c10, iV x, iV (-1)], _, rfl, ⟨a15, c10, rfl, ⟨q15714, q15713⟩⟩, rfl⟩)) (room_of q15749 q15748).1 (room_of q15749 q15748).2 q15749 rfl rfl (fun a21 c13 => ?_)
     refine .KA [OwnSl 113 3 a20 (([(⟨r10.2, x, (-1)⟩ : Entry)] : List Entry).length) 1 [vSl a15 r10.2 c10, iV x, iV (-1)], OwnSl 113 3 a18 (([(⟨r10.1, x, (-1)⟩ : Entry)] : List Entry).length) 1 [vSl a14 r10.1 c9, iV x, iV (-1)], Box pdone [.func (.yield l3) #[] #[]], MkA (D2 :: []), Box pkey [.func (.func 49) #[] #[]], Box pv [.slice none 0 0], Box pv2 [.bool false], Box pv3 [.bool false], Box pqueue [.slice a19 ((l8 ++ ([(⟨r10.1, x, (-1)⟩ : Entry)] : List Entry)).length) c12], Box pseen [.map (some bv)], Box p [iV x], MkA (D :: dl), LA .busy none, OwnSl 113 3 a21 (((l8 ++ ([(⟨r10.1, x, (-1)⟩ : Entry)] : List Entry)) ++ ([(⟨r10.2, x, (-1)⟩ : Entry)] : List Entry)).length) c13 ((csl6 ++ [vSl a14 r10.1 c9, iV x, iV (-1)]) ++ [vSl a15 r10.2 c10, iV x, iV (-1)]), OwnMap bv (upd (upd m6 r11 1) r13 1)] ?_
     refine st (p := pqueue) (off := 0) (k := 8) (vs := [.slice a21 (((l8 ++ ([(⟨r10.1, x, (-1)⟩ : Entry)] : List Entry)) ++ ([(⟨r10.2, x, (-1)⟩ : Entry)] : List Entry)).length) c13]) rfl rfl rfl (fun w => (tO114 w).2) rfl rfl rfl rfl ?_
     refine .KA [OwnSl 113 3 a20 (([(⟨r10.2, x, (-1)⟩ : Entry)] : List Entry).length) 1 [vSl a15 r10.2 c10, iV x, iV (-1)], OwnSl 113 3 a18 (([(⟨r10.1, x, (-1)⟩ : Entry)] : List Entry).length) 1 [vSl a14 r10.1 c9, iV x, iV (-1)], Box pdone [.func (.yield l3) #[] #[]], MkA (D2 :: []), Box pkey [.func (.func 49) #[] #[]], Box pv [.slice none 0 0], Box pv2 [.bool false], Box pv3 [.bool false], Box pqueue [.slice a21 (((l8 ++ ([(⟨r10.1, x, (-1)⟩ : Entry)] : List Entry)) ++ ([(⟨r10.2, x, (-1)⟩ : Entry)] : List Entry)).length) c13], Box pseen [.map (some bv)], Box p [iV x], MkA (D :: dl), LA .busy none, OwnSl 113 3 a21 (((l8 ++ ([(⟨r10.1, x, (-1)⟩ : Entry)] : List Entry)) ++ ([(⟨r10.2, x, (-1)⟩ : Entry)] : List Entry)).length) c13 ((csl6 ++ [vSl a14 r10.1 c9, iV x, iV (-1)]) ++ [vSl a15 r10.2 c10, iV x, iV (-1)]), OwnMap bv (upd (upd m6 r11 1) r13 1)] ?_
     refine .nil (.blkN ?_)
     refine .rdN (k := 12) q15076 rfl q15739 rfl ?_
     refine .KA [OwnSl 113 3 a20 (([(⟨r10.2, x, (-1)⟩ : Entry)] : List Entry).length) 1 [vSl a15 r10.2 c10, iV x, iV (-1)], OwnSl 113 3 a18 (([(⟨r10.1, x, (-1)⟩ : Entry)] : List Entry).length) 1 [vSl a14 r10.1 c9, iV x, iV (-1)], Box pdone [.func (.yield l3) #[] #[]], MkA (D2 :: []), Box pkey [.func (.func 49) #[] #[]], Box pv [.slice none 0 0], Box pv2 [.bool false], Box pv3 [.bool false], Box pqueue [.slice a21 (((l8 ++ ([(⟨r10.1, x, (-1)⟩ : Entry)] : List Entry)) ++ ([(⟨r10.2, x, (-1)⟩ : Entry)] : List Entry)).length) c13], Box pseen [.map (some bv)], Box p [iV x], MkA (D :: dl), LA .ready none, OwnSl 113 3 a21 (((l8 ++ ([(⟨r10.1, x, (-1)⟩ : Entry)] : List Entry)) ++ ([(⟨r10.2, x, (-1)⟩ : Entry)] : List Entry)).length) c13 ((csl6 ++ [vSl a14 r10.1 c9, iV x, iV (-1)]) ++ [vSl a15 r10.2 c10, iV x, iV (-1)]), OwnMap bv (upd (upd m6 r11 1) r13 1)] ?_
     refine .gv (nt rfl) rfl rfl rfl rfl rfl rfl ?_
     refine .GV (pkF rfl rfl rfl) q15716 ?_
     refine .V (pkT rfl q15716 rfl) ?_
     refine .nil (.seqN ?_)
     refine .cond rfl (fun e => absurd (e.symm.trans rfl) (by decide)) (fun _ => ?_)
     refine .skip (.blkN ?_)
     refine .sel0 [2, 3, 4, 5, 6, 7, 8, 9, 10, 11, 12, 13, 14] (by decide) rfl ?_
     exact .US q15707 (((l8 ++ ([(⟨r10.1, x, (-1)⟩ : Entry)] : List Entry)) ++ ([(⟨r10.2, x, (-1)⟩ : Entry)] : List Entry)), (upd (upd m6 r11 1) r13 1), a21, c13, ((csl6 ++ [vSl a14 r10.1 c9, iV x, iV (-1)]) ++ [vSl a15 r10.2 c10, iV x, iV (-1)]), h782) ⟨hF, q15750, (le782)⟩
    replace hF := hF.2 q15716
    refine .GS q15716 ?_
    refine .GS q15716 ?_
    refine .GS q15716 ?_
    refine .GS q15716 ?_
    refine .GS q15716 ?_
    refine .GU ?_
    refine .GU ?_
    refine .GU ?_
    refine .GU ?_
    refine .GS q15716 ?_
    refine .V (pkF rfl q15716 rfl) ?_
    refine .nil (.seqN ?_)
    refine .cond rfl (fun e => absurd (e.symm.trans rfl) (by decide)) (fun _ => ?_)
    refine .skip (.blkN ?_)
    exact .US q15707 (l8, m6, al7, cl7, csl6, h782) ⟨hF, (RepL.mono (le782) q15561), (le782)⟩
   replace hF := hF.2 q15715
   refine .GS q15715 ?_
   refine .GS q15715 ?_
   refine .GS q15715 ?_
   refine .V (pkF rfl q15715 rfl) ?_
   refine .V mv0 ?_
   refine .gS rfl rfl rfl rfl rfl rfl ?_
   refine .gS rfl rfl rfl rfl rfl rfl ?_
   refine .gS rfl rfl rfl rfl rfl rfl ?_
   refine .gS rfl rfl rfl rfl rfl rfl ?_
   refine .gS rfl rfl rfl rfl rfl rfl ?_
   refine .GU ?_
   refine .GU ?_
   refine .GU ?_
   refine .GU ?_
   refine .gS rfl rfl rfl rfl rfl rfl ?_
   refine .V (pkF rfl rfl rfl) ?_
   refine .nil (.seqN ?_)
   refine .cond rfl (fun e => absurd (e.symm.trans rfl) (by decide)) (fun _ => ?_)
   refine .skip (.blkN ?_)
   exact .US q15707 (l8, m6, al7, cl7, csl6, h782) ⟨hF, (RepL.mono (le782) q15561), (le782)⟩
  replace hF := hF.2 q15661
  refine .exit (.seqX (.seqX (.blkX ?_)))
  refine .resMN (.inr rfl) (k := 1) rfl ?_
  refine .res0 (.inl rfl) rfl (range_done (k := 10) q15076 rfl q15077 ?_)
  refine .KA [Box pdone [.func (.yield l3) #[] #[]], tru, Box pkey [.func (.func 49) #[] #[]], Box pv [.slice none 0 0], Box pv2 [.bool false], Box pv3 [.bool false], Box pqueue [vSl al7 l8 cl7], Box pseen [.map (some bv)], Box p [iV x], MkA (D :: dl), tru, OwnSl 113 3 al7 l8.length cl7 csl6, OwnMap bv m6] ?_
  refine .blkN (.blkN (.seqN (.seq (.seq (.region (.V (ld1 rfl tO3 (cellB (off := 0) (k := 8) rfl rfl)) ?_))))))
  refine .nil (.seqN (.region ?_))
  refine al tZ3 rfl (fun pat2 => ?_)
  refine st (p := pat2) (off := 0) (k := 0) (vs := [iV x]) rfl rfl rfl (fun w => (tO3 w).2) rfl rfl rfl rfl ?_
  refine .KA [Box pat2 [iV x], Box pdone [.func (.yield l3) #[] #[]], tru, Box pkey [.func (.func 49) #[] #[]], Box pv [.slice none 0 0], Box pv2 [.bool false], Box pv3 [.bool false], Box pqueue [vSl al7 l8 cl7], Box pseen [.map (some bv)], Box p [iV x], MkA (D :: dl), tru, OwnSl 113 3 al7 l8.length cl7 csl6, OwnMap bv m6] ?_
  refine .nil (.seqN (.region (.V (ld1 rfl tO3 (cellB (off := 0) (k := 0) rfl rfl)) ?_)))
  refine .V bi0 ?_
  refine st (p := pat2) (off := 0) (k := 0) (vs := [iV (wr (x + 1))]) rfl rfl rfl (fun w => (tO3 w).2) rfl rfl rfl rfl ?_
  refine .KA [Box pat2 [iV (wr (x + 1))], Box pdone [.func (.yield l3) #[] #[]], tru, Box pkey [.func (.func 49) #[] #[]], Box pv [.slice none 0 0], Box pv2 [.bool false], Box pv3 [.bool false], Box pqueue [vSl al7 l8 cl7], Box pseen [.map (some bv)], Box p [iV x], MkA (D :: dl), tru, OwnSl 113 3 al7 l8.length cl7 csl6, OwnMap bv m6] ?_
  refine .nil ?_
  refine .sel0 [3, 4, 5, 6, 7, 8, 0, 10, 12, 13] (by decide) rfl ?_
  exact .roundN (wr (x + 1), l8, m6, pat2, D :: dl, al7, cl7, csl6, h775) ⟨hF.1, q15561, (FH.le_trans (FH.le_trans (FH.le_trans (FH.le_trans (q10540) (le742)) (le743)) (q15340)) (q15562))⟩ hF.2 rfl sb rfl (FH.le_refl _)
 replace hF := hF.2 q13149
 refine .exit (.seqX (.seqX (.blkX (.seqN (.seq (.region ?_))))))
 refine st (p := pv) (off := 0) (k := 1) (vs := [.slice none 0 0]) rfl rfl rfl (fun w => (tO22 w).2) rfl rfl rfl rfl ?_
 refine .KA [Box pkey [.func (.func 49) #[] #[]], Box pv [.slice none 0 0], Box pv2 [.bool false], Box pv3 [.bool false], Box pqueue [vSl al2 l cl2], Box pseen [.map (some bv)], Box p [iV x], MkA dl, OwnSl 113 3 al2 l.length cl2 csl, OwnMap bv m] ?_
 refine st (p := pv2) (off := 0) (k := 2) (vs := [.bool false]) rfl rfl rfl (fun w => (tO4 w).2) rfl rfl rfl rfl ?_
 refine .KA [Box pkey [.func (.func 49) #[] #[]], Box pv [.slice none 0 0], Box pv2 [.bool false], Box pv3 [.bool false], Box pqueue [vSl al2 l cl2], Box pseen [.map (some bv)], Box p [iV x], MkA dl, OwnSl 113 3 al2 l.length cl2 csl, OwnMap bv m] ?_
 refine st (p := pv3) (off := 0) (k := 3) (vs := [.bool true]) rfl rfl rfl (fun w => (tO4 w).2) rfl rfl rfl rfl ?_
 refine .KA [Box pkey [.func (.func 49) #[] #[]], Box pv [.slice none 0 0], Box pv2 [.bool false], Box pv3 [.bool true], Box pqueue [vSl al2 l cl2], Box pseen [.map (some bv)], Box p [iV x], MkA dl, OwnSl 113 3 al2 l.length cl2 csl, OwnMap bv m] ?_
 refine .nil (.seqN (.ret ?_))
 refine .resM (k := 7) rfl ?_
 refine .res3 rfl (rvC1 rfl tO22 (k := 1) rfl) (rvC1 rfl tO4 (k := 2) rfl) (rvC1 rfl tO4 (k := 3) rfl) (fun w' S => ⟨(([] : List Int), false, true), (none, 0), h523, hF, rfl, (q10540), ⟨RSl.nil_, (Nat.le_refl 0)⟩, S.none⟩)
theorem c_breadthC {h : FH} {w : World} (hs : Sub h w) (ht : TabH Tryz.prog h) (start2 : List (List Int)) (astart2 : Option Addr) (cstart2 : Nat) (_q1 : RSl h astart2 start2) (_q2 : start2.length ≤ cstart2) (k : Srch) (ak : Option Addr) (ck : Nat) (_q3 : RSl h ak k.t.init) (_q4 : k.t.init.length ≤ ck) (ak2 : Option Addr) (ck2 : Nat) (_q5 : RSl h ak2 k.t.goal) (_q6 : k.t.goal.length ≤ ck2) (ak3 : Option Addr) (ck3 : Nat) (_q7 : RSl h ak3 k.t.ops) (_q8 : k.t.ops.length ≤ ck3) (ak4 : Option Addr) (ck4 : Nat) (_q9 : RSl h ak4 k.sN) (_q10 : k.sN.length ≤ ck4) (pk : Addr) (bk : Nat) (ta : Option Addr) (tn tc : Nat) (_q11 : CellsAt h pk [iV k.t.facts, .slice ak k.t.init.length ck, .slice ak2 k.t.goal.length ck2, .slice ak3 k.t.ops.length ck3, .slice ak4 k.sN.length ck4, .map (some bk), .slice ta tn tc]) (hp : pre_breadthC start2 k) : Calls Tryz.prog 50 #[.slice astart2 start2.length cstart2, .func (.func 49) #[] #[], .func (.func 71) #[.pointer (some pk)] #[], .func (.func 82) #[] #[]] w fun e w' => ∃ (z : Option Addr × Nat) (h1 : FH), e = .returned (.tuple #[.slice z.1 (sp_breadthC start2 k).1.length z.2, .bool (sp_breadthC start2 k).2.1, .bool (sp_breadthC start2 k).2.2]) ∧ FH.le h h1 ∧ (RSl h1 z.1 (sp_breadthC start2 k).1 ∧ (sp_breadthC start2 k).1.length ≤ z.2) ∧ SH (Kp.all w h) h1 w' [] :=
 (w_breadthC hs ht start2 astart2 cstart2 _q1 _q2  k ak ck _q3 _q4 ak2 ck2 _q5 _q6 ak3 ck3 _q7 _q8 ak4 ck4 _q9 _q10 pk bk ta tn tc _q11  (fun r => r = sp_breadthC start2 k) (ok_breadthC start2 k hp)).mono fun _ _ ⟨r, z, h1, hk, he, hl, hf, hS⟩ => by subst hk; exact ⟨z, h1, he, hl, hf, hS⟩
theorem w_smallC {h : FH} {w : World} (hs : Sub h w) (ht : TabH Tryz.prog h) (start2 : List (List Int)) (astart2 : Option Addr) (cstart2 : Nat) (_q1 : RSl h astart2 start2) (_q2 : start2.length ≤ cstart2) (k : Srch) (ak : Option Addr) (ck : Nat) (_q3 : RSl h ak k.t.init) (_q4 : k.t.init.length ≤ ck) (ak2 : Option Addr) (ck2 : Nat) (_q5 : RSl h ak2 k.t.goal) (_q6 : k.t.goal.length ≤ ck2) (ak3 : Option Addr) (ck3 : Nat) (_q7 : RSl h ak3 k.t.ops) (_q8 : k.t.ops.length ≤ ck3) (ak4 : Option Addr) (ck4 : Nat) (_q9 : RSl h ak4 k.sN) (_q10 : k.sN.length ≤ ck4) (pk : Addr) (bk : Nat) (ta : Option Addr) (tn tc : Nat) (_q11 : CellsAt h pk [iV k.t.facts, .slice ak k.t.init.length ck, .slice ak2 k.t.goal.length ck2, .slice ak3 k.t.ops.length ck3, .slice ak4 k.sN.length ck4, .map (some bk), .slice ta tn tc]) (K : Bool → Prop) (hF : F_smallC start2 k K) : Calls Tryz.prog 47 #[.slice astart2 start2.length cstart2, .func (.func 49) #[] #[], .func (.func 71) #[.pointer (some pk)] #[]] w fun e w' => ∃ r : Bool, K r ∧ e = .returned (.bool r) ∧ Below w.heap.size w w' := by
 refine enter (args := [vSl astart2 start2 cstart2, .func (.func 49) #[] #[], .func (.func 71) #[.pointer (some pk)] #[]]) Tryz.func47 rfl Tryz.ntmps47 rfl hs ?_
 refine .seq (.region (.V ag0 ?_))
 refine .nil (.seqN (.seq (.region (.V mv0 ?_))))
 refine .V mv0 ?_
 refine .V mv0 ?_
 obtain ⟨q12, hF⟩ := hF
 obtain ⟨r2, q13⟩ : ∃ y_ : List Int × Bool × Bool, y_ = sp_breadthC start2 k := ⟨_, rfl⟩
 replace hF := hF r2 q13
 refine clR (α := Option Addr × Nat) (Φ := fun h1 z => RSl h1 z.1 r2.1 ∧ r2.1.length ≤ z.2) (V := fun z => .tuple #[vSl z.1 r2.1 z.2, .bool r2.2.1, .bool r2.2.2]) Tryz.call50 rfl rfl (fun w S => (by rw [q13]; exact c_breadthC S.sub (ht.mono (FH.le_refl _)) start2 astart2 cstart2 _q1 _q2 k ak ck _q3 _q4 ak2 ck2 _q5 _q6 ak3 ck3 _q7 _q8 ak4 ck4 _q9 _q10 pk bk ta tn tc (CellsAt.mono (FH.le_refl _) _q11) q12)) rfl (fun z h1 le1 hz => ?_)
 obtain ⟨a, c⟩ := z
 obtain ⟨q14, q15⟩ := hz
 refine .V mv0 ?_
 refine .V (ext rfl rfl) ?_
 refine .V (ext rfl rfl) ?_
 refine .V (ext rfl rfl) ?_
 refine .V ag0 ?_
 refine .V ag0 ?_
 refine .V ag0 ?_
 refine .nil (.seqN (.seq (.region (.V mv0 ?_))))
 refine .V ag0 ?_
 refine .nil (.seqN (.ret ?_))
 refine .res1 rfl (rvT rfl) (fun w' S => ⟨r2.2.2, hF, rfl, S.below⟩)
theorem c_smallC {h : FH} {w : World} (hs : Sub h w) (ht : TabH Tryz.prog h) (start2 : List (List Int)) (astart2 : Option Addr) (cstart2 : Nat) (_q1 : RSl h astart2 start2) (_q2 : start2.length ≤ cstart2) (k : Srch) (ak : Option Addr) (ck : Nat) (_q3 : RSl h ak k.t.init) (_q4 : k.t.init.length ≤ ck) (ak2 : Option Addr) (ck2 : Nat) (_q5 : RSl h ak2 k.t.goal) (_q6 : k.t.goal.length ≤ ck2) (ak3 : Option Addr) (ck3 : Nat) (_q7 : RSl h ak3 k.t.ops) (_q8 : k.t.ops.length ≤ ck3) (ak4 : Option Addr) (ck4 : Nat) (_q9 : RSl h ak4 k.sN) (_q10 : k.sN.length ≤ ck4) (pk : Addr) (bk : Nat) (ta : Option Addr) (tn tc : Nat) (_q11 : CellsAt h pk [iV k.t.facts, .slice ak k.t.init.length ck, .slice ak2 k.t.goal.length ck2, .slice ak3 k.t.ops.length ck3, .slice ak4 k.sN.length ck4, .map (some bk), .slice ta tn tc]) (hp : pre_smallC start2 k) : Calls Tryz.prog 47 #[.slice astart2 start2.length cstart2, .func (.func 49) #[] #[], .func (.func 71) #[.pointer (some pk)] #[]] w fun e w' => e = .returned (.bool (sp_smallC start2 k)) ∧ Below w.heap.size w w' :=
 (w_smallC hs ht start2 astart2 cstart2 _q1 _q2  k ak ck _q3 _q4 ak2 ck2 _q5 _q6 ak3 ck3 _q7 _q8 ak4 ck4 _q9 _q10 pk bk ta tn tc _q11 (fun r => r = sp_smallC start2 k) (ok_smallC start2 k hp)).mono fun _ _ ⟨_, hk, he, hb⟩ => ⟨by rw [he, hk], hb⟩
set_option maxHeartbeats 8000000 in
theorem w_scan {h : FH} {w : World} (hs : Sub h w) (ht : TabH Tryz.prog h) (k : Srch) (ak : Option Addr) (ck : Nat) (_q1 : RSl h ak k.t.init) (_q2 : k.t.init.length ≤ ck) (ak2 : Option Addr) (ck2 : Nat) (_q3 : RSl h ak2 k.t.goal) (_q4 : k.t.goal.length ≤ ck2) (ak3 : Option Addr) (ck3 : Nat) (_q5 : RSl h ak3 k.t.ops) (_q6 : k.t.ops.length ≤ ck3) (ak4 : Option Addr) (ck4 : Nat) (_q7 : RSl h ak4 k.sN) (_q8 : k.sN.length ≤ ck4) (pk : Addr) (bk : Nat) (tr : List TNode) (ta : Option Addr) (tc : Nat) {gX : FH} (ownX : SrX (srInv k) pk [iV k.t.facts, .slice ak k.t.init.length ck, .slice ak2 k.t.goal.length ck2, .slice ak3 k.t.ops.length ck3, .slice ak4 k.sN.length ck4] bk 102 ta tc tr gX) (subX : Sub gX w) (disX : Disj h gX) (worlds : List (List Int)) (aworlds : Option Addr) (cworlds : Nat) (_q9 : RSl h aworlds worlds) (_q10 : worlds.length ≤ cworlds) (depth : Int) (mM : Nat) (hm : mu_scan k worlds depth = mM) (ih : ∀ {h : FH} {w : World} (_ : Sub h w) (_ : TabH Tryz.prog h) (k : Srch) (ak : Option Addr) (ck : Nat) (_ : RSl h ak k.t.init) (_ : k.t.init.length ≤ ck) (ak2 : Option Addr) (ck2 : Nat) (_ : RSl h ak2 k.t.goal) (_ : k.t.goal.length ≤ ck2) (ak3 : Option Addr) (ck3 : Nat) (_ : RSl h ak3 k.t.ops) (_ : k.t.ops.length ≤ ck3) (ak4 : Option Addr) (ck4 : Nat) (_ : RSl h ak4 k.sN) (_ : k.sN.length ≤ ck4) (pk : Addr) (bk : Nat) (tr : List TNode) (ta : Option Addr) (tc : Nat) {gX : FH} (_ : SrX (srInv k) pk [iV k.t.facts, .slice ak k.t.init.length ck, .slice ak2 k.t.goal.length ck2, .slice ak3 k.t.ops.length ck3, .slice ak4 k.sN.length ck4] bk 102 ta tc tr gX) (_ : Sub gX w) (_ : Disj h gX) (worlds : List (List Int)) (aworlds : Option Addr) (cworlds : Nat) (_ : RSl h aworlds worlds) (_ : worlds.length ≤ cworlds) (depth : Int) (_ : mu_scan k worlds depth < mM) (_ : pre_scan k worlds depth), Calls Tryz.prog 98 #[.pointer (some pk), .slice aworlds worlds.length cworlds, iV depth] w fun e w' => e = .returned (.bool (sp_scan k worlds depth)) ∧ SH (Kp.ex w h gX) h w' [SrX (srInv k) pk [iV k.t.facts, .slice ak k.t.init.length ck, .slice ak2 k.t.goal.length ck2, .slice ak3 k.t.ops.length ck3, .slice ak4 k.sN.length ck4] bk 102 ta tc tr]) (K : Bool → Prop) (hF : F_scan k worlds depth K) : Calls Tryz.prog 98 #[.pointer (some pk), .slice aworlds worlds.length cworlds, iV depth] w fun e w' => ∃ r : Bool, K r ∧ e = .returned (.bool r) ∧ SH (Kp.ex w h gX) h w' [SrX (srInv k) pk [iV k.t.facts, .slice ak k.t.init.length ck, .slice ak2 k.t.goal.length ck2, .slice ak3 k.t.ops.length ck3, .slice ak4 k.sN.length ck4] bk 102 ta tc tr] := by
 refine enterXM (X := SrX (srInv k) pk (tF k.t ak ck ak2 ck2 ak3 ck3 [vSl ak4 k.sN ck4]) bk 102 ta tc tr) (args := [.pointer (some pk), vSl aworlds worlds cworlds, iV depth]) Tryz.func98 rfl Tryz.ntmps98 rfl hs subX disX ownX ?_
 refine .open1 rfl (fun m q11 => ?_)
 replace hF := hF m q11
 refine .mk0 ?_
 refine .KA [MkA [], Box pk (tF k.t ak ck ak2 ck2 ak3 ck3 [vSl ak4 k.sN ck4, .map (some bk), vSl ta tr tc]), OwnMap bk m, oL 102 5 ta tr tc] ?_
 refine .seq (.region ?_)
 refine bx (vs := [.pointer (some pk)]) rfl rfl rfl (fun pk2 => ?_)
 refine bx (vs := [iV depth]) rfl rfl rfl (fun pdepth => ?_)
 refine al tZ4 rfl (fun pv => ?_)
 refine .nil (.seqN (.seq (.seq (.region (.V mv0 ?_)))))
 refine .V (ld1 rfl tO96 (cellB (off := 0) (k := 2) rfl rfl)) ?_
 refine .V (nck rfl) ?_
 refine .V (fa rfl tF99_0) ?_
 refine .V (faa (p := pk) (o1 := 0) rfl tF25_2 rfl) ?_
 refine .V (ld1 rfl tO22 (cellB (off := 2) (k := 4) rfl rfl)) ?_
 obtain ⟨q12, hF⟩ := hF
 obtain ⟨r2, q13⟩ : ∃ y_ : Bool, y_ = sp_sure worlds k.t.goal := ⟨_, rfl⟩
 replace hF := hF r2 q13
 refine .C (cl (v := .bool r2) Tryz.call52 rfl rfl (fun w S => (by rw [q13]; exact c_sure S.sub worlds aworlds cworlds _q9 _q10 k.t.goal ak2 ck2 _q3 _q4 q12))) ?_
 refine .nil (.seqN ?_)
 refine .cond rfl (fun q15 => ?_) (fun q15 => ?_)
 ·replace hF := hF.1 q15
  refine .seq (.region ?_)
  refine st (p := pv) (off := 0) (k := 0) (vs := [.bool true]) rfl rfl rfl (fun w => (tO4 w).2) rfl rfl rfl rfl ?_
  refine .KA [Box pv [.bool true], Box pdepth [iV depth], Box pk2 [.pointer (some pk)], MkA [], Box pk (tF k.t ak ck ak2 ck2 ak3 ck3 [vSl ak4 k.sN ck4, .map (some bk), vSl ta tr tc]), OwnMap bk m, oL 102 5 ta tr tc] ?_
  refine .nil (.seqN (.ret (.seqR ?_)))
  refine .resM (k := 3) rfl ?_
  refine .closeX (i := 4) (j := 5) (k := 6) (inv := srInv k) (pre := (tF k.t ak ck ak2 ck2 ak3 ck3 [vSl ak4 k.sN ck4])) (xs := tr) rfl rfl rfl rfl rfl rfl rfl rfl q11 ?_
  refine .res1 rfl (rvC1 rfl tO4 (k := 1) rfl) (fun w' S => ⟨true, hF, rfl, (S.pick (k := 0) rfl)⟩)
 replace hF := hF.2 q15
 refine .skip (.seqN (.seq (.seq (.region (.V (ld1 rfl tO3 (cellB (off := 0) (k := 1) rfl rfl)) ?_)))))
 refine .V bi0 ?_
 refine .nil (.seqN ?_)
 refine .cond rfl (fun q17 => ?_) (fun q17 => ?_)
 ·replace hF := hF.1 q17
  refine .seq (.region ?_)
  refine st (p := pv) (off := 0) (k := 0) (vs := [.bool false]) rfl rfl rfl (fun w => (tO4 w).2) rfl rfl rfl rfl ?_
  refine .KA [Box pv [.bool false], Box pdepth [iV depth], Box pk2 [.pointer (some pk)], MkA [], Box pk (tF k.t ak ck ak2 ck2 ak3 ck3 [vSl ak4 k.sN ck4, .map (some bk), vSl ta tr tc]), OwnMap bk m, oL 102 5 ta tr tc] ?_
  refine .nil (.seqN (.ret (.seqR ?_)))
  refine .resM (k := 3) rfl ?_
  refine .closeX (i := 4) (j := 5) (k := 6) (inv := srInv k) (pre := (tF k.t ak ck ak2 ck2 ak3 ck3 [vSl ak4 k.sN ck4])) (xs := tr) rfl rfl rfl rfl rfl rfl rfl rfl q11 ?_
  refine .res1 rfl (rvC1 rfl tO4 (k := 1) rfl) (fun w' S => ⟨false, hF, rfl, (S.pick (k := 0) rfl)⟩)
 replace hF := hF.2 q17
 refine .skip (.seqN (.seq (.region (.V (ld1 rfl tO3 (cellB (off := 0) (k := 1) rfl rfl)) ?_))))
 obtain ⟨q18, hF⟩ := hF
 obtain ⟨r3, q19⟩ : ∃ y_ : List UInt8, y_ = sp_itoa depth := ⟨_, rfl⟩
 replace hF := hF r3 q19
 refine .C (cl (v := strV r3) Tryz.call113 rfl rfl (fun w S => (by rw [q19]; exact c_itoa S.sub depth q18))) ?_
 obtain ⟨q20, hF⟩ := hF
 refine .V (sad rfl rfl q20) ?_
 refine .V mv0 ?_
 obtain ⟨q21, hF⟩ := hF
 obtain ⟨r4, q22⟩ : ∃ y_ : List UInt8, y_ = sp_key worlds := ⟨_, rfl⟩
 replace hF := hF r4 q22
 refine .C (cl (v := strV r4) Tryz.call49 rfl rfl (fun w S => (by rw [q22]; exact c_key S.sub (ht.mono (FH.le_refl _)) worlds aworlds cworlds _q9 _q10 q21))) ?_
 obtain ⟨q23, hF⟩ := hF
 refine .V (sad rfl rfl q23) ?_
 refine .V ag0 ?_
 refine .nil (.seqN (.seq (.seq (.region (.V (ld1 rfl tO96 (cellB (off := 0) (k := 2) rfl rfl)) ?_)))))
 refine .V (nck rfl) ?_
 refine .V (fa rfl tF99_2) ?_
 refine .V (ld1 rfl tO97 (cellB (off := 5) (k := 4) rfl rfl)) ?_
 refine .V mv0 ?_
 refine .V (lk tM97 rfl rfl (kk := 5) rfl) ?_
 refine .V bi0 ?_
 refine .nil (.seqN ?_)
 refine .cond rfl (fun q25 => ?_) (fun q25 => ?_)
 ·replace hF := hF.1 q25
  refine .seq (.region ?_)
  refine st (p := pv) (off := 0) (k := 0) (vs := [.bool false]) rfl rfl rfl (fun w => (tO4 w).2) rfl rfl rfl rfl ?_
  refine .KA [Box pv [.bool false], Box pdepth [iV depth], Box pk2 [.pointer (some pk)], MkA [], Box pk (tF k.t ak ck ak2 ck2 ak3 ck3 [vSl ak4 k.sN ck4, .map (some bk), vSl ta tr tc]), OwnMap bk m, oL 102 5 ta tr tc] ?_
  refine .nil (.seqN (.ret (.seqR ?_)))
  refine .resM (k := 3) rfl ?_
  refine .closeX (i := 4) (j := 5) (k := 6) (inv := srInv k) (pre := (tF k.t ak ck ak2 ck2 ak3 ck3 [vSl ak4 k.sN ck4])) (xs := tr) rfl rfl rfl rfl rfl rfl rfl rfl q11 ?_
  refine .res1 rfl (rvC1 rfl tO4 (k := 1) rfl) (fun w' S => ⟨false, hF, rfl, (S.pick (k := 0) rfl)⟩)
 replace hF := hF.2 q25
 refine .skip (.seqN (.seq (.seq (.region (.V (ld1 rfl tO96 (cellB (off := 0) (k := 2) rfl rfl)) ?_)))))
 refine .V (nck rfl) ?_
 refine .V (fa rfl tF99_0) ?_
 refine .V (ldA (cs := (tF k.t ak ck ak2 ck2 ak3 ck3)) rfl tA25 rfl (cellsB (off := 0) (k := 4) rfl (m := 4) rfl)) ?_
 refine .V mv0 ?_
 obtain ⟨r5, q26⟩ : ∃ y_ : Unit, y_ = sp_succ k.t worlds := ⟨_, rfl⟩
 replace hF := hF r5 q26
 refine clR (α := Addr × Addr) (Φ := fun h1 z => CellsAt h1 z.1 (tF k.t ak ck ak2 ck2 ak3 ck3) ∧ CellsAt h1 z.2 [vSl aworlds worlds cworlds]) (V := fun z => .func (.func 103) #[] #[.pointer (some z.1), .pointer (some z.2)]) Tryz.call81 rfl rfl (fun w S => (by exact c_succ S.sub k.t ak ck _q1 _q2 ak2 ck2 _q3 _q4 ak3 ck3 _q5 _q6 worlds aworlds cworlds _q9 _q10 )) rfl (fun z h1 le1 hz => ?_)
 obtain ⟨p, p2⟩ := z
 obtain ⟨q27, q28⟩ := hz
 refine .nil (.seqN (.block ?_))
 refine .sub (s' := [(1, vSl aworlds worlds cworlds), (3, .pointer (some pk2)), (5, .pointer (some pdepth)), (6, .pointer (some pv)), (7, strV ((r3 ++ ([58] : List UInt8)) ++ r4)), (41, .func (.func 103) #[] #[.pointer (some p), .pointer (some p2)])]) sb ?_
 refine .rangeF (k := 3) (caps := [.pointer (some p), .pointer (some p2)]) rfl rfl Tryz.func103 rfl Tryz.ntmps103 rfl Tryz.call103 (fun l D LA a q177 q178 => ?_)
 refine .KA [LA .ready none, Box pv [.bool false], Box pdepth [iV depth], Box pk2 [.pointer (some pk)], MkA (D :: []), Box pk (tF k.t ak ck ak2 ck2 ak3 ck3 [vSl ak4 k.sN ck4, .map (some bk), vSl ta tr tc]), OwnMap bk m, oL 102 5 ta tr tc] ?_
 refine .seq (.region (.V (fa rfl tF25_3) ?_))
 refine .V (ld1 (v := vSl ak3 k.t.ops ck3) rfl tO23 (cellH (CellsAt.mono (FH.le_refl _) q27 3 _ rfl))) ?_
 refine .V (ln rfl tS23.is) ?_
 refine .V mv0 ?_
 refine .nil (.seqN (.block ?_))
 refine .sel0 [0, 3, 2, 1, 4, 5, 6, 7] (by decide) rfl ?_
 obtain ⟨I1, μ1, q275, q276⟩ := hF
 refine .loop' (σ := Int × (List UInt8 → Int)) (fun z => I1 z.1 z.2) (fun z => μ1 z.1 z.2) (fun z => [(0, .func (.yield l) #[] #[]), (1, .pointer (some p)), (2, .pointer (some p2)), (7, vSl ak3 k.t.ops ck3), (8, iV ((k.t.ops.length : Nat) : Int)), (9, iV z.1)]) (fun z => [LA .ready none, Box pk2 [.pointer (some pk)], Box pdepth [iV depth], Box pv [.bool false], MkA (D :: []), Box pk (tF k.t ak ck ak2 ck2 ak3 ck3 [vSl ak4 k.sN ck4, .map (some bk), vSl ta tr tc]), OwnMap bk z.2, oL 102 5 ta tr tc]) (fun _ => h1) (0, m) q275 sb rfl (FH.le_refl _) ?_
 rintro ⟨next, m2⟩ q275
 have hF := q276 next m2 q275
 show J _ _ _ _ _ [(0, .func (.yield l) #[] #[]), (1, .pointer (some p)), (2, .pointer (some p2)), (7, vSl ak3 k.t.ops ck3), (8, iV ((k.t.ops.length : Nat) : Int)), (9, iV next)] [LA .ready none, Box pk2 [.pointer (some pk)], Box pdepth [iV depth], Box pv [.bool false], MkA (D :: []), Box pk (tF k.t ak ck ak2 ck2 ak3 ck3 [vSl ak4 k.sN ck4, .map (some bk), vSl ta tr tc]), OwnMap bk m2, oL 102 5 ta tr tc] h1
 refine .seq (.region (.V bi0 ?_))
 refine .nil (.seqN (.seq ?_))
 refine .cond rfl (fun q279 => ?_) (fun q279 => ?_)
 ·replace hF := hF.1 q279
  refine .skip (.seqN ?_)
  refine .share (σ := (List UInt8 → Int)) (fun z => F_scan_J1 m2 next z I1 μ1) (fun _ => [(0, .func (.yield l) #[] #[]), (1, .pointer (some p)), (2, .pointer (some p2)), (7, vSl ak3 k.t.ops ck3), (8, iV ((k.t.ops.length : Nat) : Int)), (9, iV next)]) (fun z => [LA .ready none, Box pk2 [.pointer (some pk)], Box pdepth [iV depth], Box pv [.bool false], MkA (D :: []), Box pk (tF k.t ak ck ak2 ck2 ak3 ck3 [vSl ak4 k.sN ck4, .map (some bk), vSl ta tr tc]), OwnMap bk z, oL 102 5 ta tr tc]) (fun _ => h1) ?_ (fun q302 => ?_)
  ·rintro m4 hF
   show J _ _ _ _ _ [(0, .func (.yield l) #[] #[]), (1, .pointer (some p)), (2, .pointer (some p2)), (7, vSl ak3 k.t.ops ck3), (8, iV ((k.t.ops.length : Nat) : Int)), (9, iV next)] [LA .ready none, Box pk2 [.pointer (some pk)], Box pdepth [iV depth], Box pv [.bool false], MkA (D :: []), Box pk (tF k.t ak ck ak2 ck2 ak3 ck3 [vSl ak4 k.sN ck4, .map (some bk), vSl ta tr tc]), OwnMap bk m4, oL 102 5 ta tr tc] h1
   refine .region (.V bi0 ?_)
   refine .V mv0 ?_
   refine .nil ?_
   exact .RO (wr (next + 1), m4) hF.1 hF.2
  refine .block (.seq (.region (.V mv0 ?_)))
  obtain ⟨q303, hF⟩ := hF
  refine .V (ix rfl rfl tS23 (_q5.ne (by decide) (inb_pos q303)) q303) ?_
  obtain ⟨_, ⟨a2, c, a3, c2, a4, c3, rfl, ⟨q304, q305⟩, ⟨q306, q307⟩, q308, q309⟩, q310⟩ := _q5.elem q303
  refine .V (ldA (cs := [.slice a2 ((gt k.t.ops next).pre.length) c, .slice a3 ((gt k.t.ops next).add.length) c2, .slice a4 ((gt k.t.ops next).del.length) c3, iV ((gt k.t.ops next).cost)]) rfl tA54 rfl (cellsH ((fun q => (q310 q).mono (le1)) (by decide)))) ?_
  refine al tZ54 rfl (fun pdepth2 => ?_)
  refine .V ag0 ?_
  refine st (p := pdepth2) (off := 0) (k := 0) (vs := [.slice a2 ((gt k.t.ops next).pre.length) c, .slice a3 ((gt k.t.ops next).add.length) c2, .slice a4 ((gt k.t.ops next).del.length) c3, iV ((gt k.t.ops next).cost)]) rfl rfl rfl (fun w => (tA54 w).2) rfl rfl rfl rfl ?_
  refine .KA [Box pdepth2 [.slice a2 ((gt k.t.ops next).pre.length) c, .slice a3 ((gt k.t.ops next).add.length) c2, .slice a4 ((gt k.t.ops next).del.length) c3, iV ((gt k.t.ops next).cost)], LA .ready none, Box pk2 [.pointer (some pk)], Box pdepth [iV depth], Box pv [.bool false], MkA (D :: []), Box pk (tF k.t ak ck ak2 ck2 ak3 ck3 [vSl ak4 k.sN ck4, .map (some bk), vSl ta tr tc]), OwnMap bk m2, oL 102 5 ta tr tc] ?_
  refine .nil (.seqN (.seq (.region (.V (ld1 (v := vSl aworlds worlds cworlds) rfl tO35 (cellH (CellsAt.mono (FH.le_refl _) q28 0 _ rfl))) ?_))))
  refine .V (fa rfl tF54_0) ?_
  refine .V (ld1 rfl tO22 (cellB (off := 0) (k := 0) rfl rfl)) ?_
  obtain ⟨q311, hF⟩ := hF
  obtain ⟨r6, q312⟩ : ∃ y_ : Bool, y_ = sp_sure worlds ((gt k.t.ops next).pre) := ⟨_, rfl⟩
  replace hF := hF r6 q312
  refine .C (cl (v := .bool r6) Tryz.call52 rfl rfl (fun w S => (by rw [q312]; exact c_sure S.sub worlds aworlds cworlds (_q9.mono (le1)) _q10 ((gt k.t.ops next).pre) a2 c (q305.mono (le1)) q304 q311))) ?_
  refine .V mv0 ?_
  rcases Bool.eq_false_or_eq_true (r6) with q313 | q313
  ·replace hF := hF.1 q313
   refine .GV mv0 q313 ?_
   refine .GV mv0 q313 ?_
   refine .GV (ldA (cs := (tF k.t ak ck ak2 ck2 ak3 ck3)) rfl tA25 rfl (cellsH (q27.mono (FH.le_refl _)))) q313 ?_
   refine .GV (ld1 (v := vSl aworlds worlds cworlds) rfl tO35 (cellH (CellsAt.mono (FH.le_refl _) q28 0 _ rfl))) q313 ?_
   refine .GV mv0 q313 ?_
   obtain ⟨q314, hF⟩ := hF
   obtain ⟨r7, q315⟩ : ∃ y_ : List (List Int), y_ = sp_bafter k.t worlds next := ⟨_, rfl⟩
   replace hF := hF r7 q315
   refine .gR rfl rfl rfl q313 ?_
   refine clR (α := Option Addr × Nat) (Φ := fun h1 z => RSl h1 z.1 r7 ∧ r7.length ≤ z.2) (V := fun z => vSl z.1 r7 z.2) Tryz.call60 rfl rfl (fun w S => (by rw [q315]; exact c_bafter S.sub k.t ak ck (_q1.mono (le1)) _q2 ak2 ck2 (_q3.mono (le1)) _q4 ak3 ck3 (_q5.mono (le1)) _q6 worlds aworlds cworlds (_q9.mono (le1)) _q10 next q314)) rfl (fun z h13 le13 hz => ?_)
   obtain ⟨a5, c4⟩ := z
   obtain ⟨q316, q317⟩ := hz
   refine .gR rfl rfl rfl q313 ?_
   refine .yld (k := 1) (vs := [iV next, vSl a5 r7 c4]) q177 rfl rfl rfl rfl rfl (fun aG q318 => ?_)
   refine .sub (s' := [(3, .pointer (some pk2)), (5, .pointer (some pdepth)), (6, .pointer (some pv)), (43, vSl a5 r7 c4)]) sb ?_
   refine .region (.V ag0 ?_)
   refine .nil ?_
   refine .begin_ (k := 1) q177 rfl ?_
   refine .KA [Box pdepth2 [.slice a2 ((gt k.t.ops next).pre.length) c, .slice a3 ((gt k.t.ops next).add.length) c2, .slice a4 ((gt k.t.ops next).del.length) c3, iV ((gt k.t.ops next).cost)], LA .busy none, Box pk2 [.pointer (some pk)], Box pdepth [iV depth], Box pv [.bool false], MkA (D :: []), Box pk (tF k.t ak ck ak2 ck2 ak3 ck3 [vSl ak4 k.sN ck4, .map (some bk), vSl ta tr tc]), OwnMap bk m2, oL 102 5 ta tr tc] ?_
   refine .block (.seq (.region (.V (ld1 rfl tO96 (cellB (off := 0) (k := 2) rfl rfl)) ?_)))
   refine .V mv0 ?_
   refine .V (ld1 rfl tO3 (cellB (off := 0) (k := 3) rfl rfl)) ?_
   refine .V bi0 ?_
   obtain ⟨q319, q320, q321, hF⟩ := hF
   obtain ⟨r8, q322⟩ : ∃ y_ : Bool, y_ = sp_scan k r7 (wr (depth - 1)) := ⟨_, rfl⟩
   replace hF := hF r8 q322
   refine callS (i := 6) (j := 7) (k := 8) (inv := srInv k) (pre := (tF k.t ak ck ak2 ck2 ak3 ck3 [vSl ak4 k.sN ck4])) (xs := tr) (v := .bool r8) rfl rfl rfl rfl rfl rfl rfl rfl q319 Tryz.call98 rfl rfl (fun w g hx sg hd hs' => ?_) rfl (fun m5 q323 => ?_)
   ·rw [q322]; exact ih hs' (ht.mono (FH.le_trans (le1) (le13))) k ak ck (_q1.mono (FH.le_trans (le1) (le13))) _q2 ak2 ck2 (_q3.mono (FH.le_trans (le1) (le13))) _q4 ak3 ck3 (_q5.mono (FH.le_trans (le1) (le13))) _q6 ak4 ck4 (_q7.mono (FH.le_trans (le1) (le13))) _q8 pk bk tr ta tc hx sg hd r7 a5 c4 q316 q317 (wr (depth - 1)) (by rw [← hm]; exact q321) q320
   replace hF := hF m5 q323
   refine .KA [Box pdepth2 [.slice a2 ((gt k.t.ops next).pre.length) c, .slice a3 ((gt k.t.ops next).add.length) c2, .slice a4 ((gt k.t.ops next).del.length) c3, iV ((gt k.t.ops next).cost)], LA .busy none, Box pk2 [.pointer (some pk)], Box pdepth [iV depth], Box pv [.bool false], MkA (D :: []), Box pk (tF k.t ak ck ak2 ck2 ak3 ck3 [vSl ak4 k.sN ck4, .map (some bk), vSl ta tr tc]), OwnMap bk m5, oL 102 5 ta tr tc] ?_
   refine .nil (.seqN ?_)
   refine .cond rfl (fun q324 => ?_) (fun q324 => ?_)
   ·replace hF := hF.1 q324
    refine .seq (.region ?_)
    refine st (p := pv) (off := 0) (k := 4) (vs := [.bool true]) rfl rfl rfl (fun w => (tO4 w).2) rfl rfl rfl rfl ?_
    refine .KA [Box pdepth2 [.slice a2 ((gt k.t.ops next).pre.length) c, .slice a3 ((gt k.t.ops next).add.length) c2, .slice a4 ((gt k.t.ops next).del.length) c3, iV ((gt k.t.ops next).cost)], LA .busy none, Box pk2 [.pointer (some pk)], Box pdepth [iV depth], Box pv [.bool true], MkA (D :: []), Box pk (tF k.t ak ck ak2 ck2 ak3 ck3 [vSl ak4 k.sN ck4, .map (some bk), vSl ta tr tc]), OwnMap bk m5, oL 102 5 ta tr tc] ?_
    refine .nil (.seqN (.ret (.blkR ?_)))
    refine .rdR (k := 1) q177 rfl q318 rfl ?_
    refine .KA [Box pdepth2 [.slice a2 ((gt k.t.ops next).pre.length) c, .slice a3 ((gt k.t.ops next).add.length) c2, .slice a4 ((gt k.t.ops next).del.length) c3, iV ((gt k.t.ops next).cost)], LA .done (some .ret), Box pk2 [.pointer (some pk)], Box pdepth [iV depth], Box pv [.bool true], MkA (D :: []), Box pk (tF k.t ak ck ak2 ck2 ak3 ck3 [vSl ak4 k.sN ck4, .map (some bk), vSl ta tr tc]), OwnMap bk m5, oL 102 5 ta tr tc] ?_
    refine .GV (nt rfl) q313 ?_
    refine .V (pkT rfl q313 rfl) ?_
    refine .nil (.seqN ?_)
    refine .cond rfl (fun _ => ?_) (fun e => absurd (e.symm.trans rfl) (by decide))
    refine .ret (.blkR (.seqR (.seqR (.blkR ?_))))
    refine .res0 (.inl rfl) rfl (range_jump (k := 1) q177 rfl q178 ?_)
    refine .KA [Box pdepth2 [.slice a2 ((gt k.t.ops next).pre.length) c, .slice a3 ((gt k.t.ops next).add.length) c2, .slice a4 ((gt k.t.ops next).del.length) c3, iV ((gt k.t.ops next).cost)], tru, Box pk2 [.pointer (some pk)], Box pdepth [iV depth], Box pv [.bool true], MkA (D :: []), Box pk (tF k.t ak ck ak2 ck2 ak3 ck3 [vSl ak4 k.sN ck4, .map (some bk), vSl ta tr tc]), OwnMap bk m5, oL 102 5 ta tr tc] ?_
    refine .ret (.blkR (.seqR ?_))
    refine .resM (k := 5) rfl ?_
    refine .closeX (i := 6) (j := 7) (k := 8) (inv := srInv k) (pre := (tF k.t ak ck ak2 ck2 ak3 ck3 [vSl ak4 k.sN ck4])) (xs := tr) rfl rfl rfl rfl rfl rfl rfl rfl q323 ?_
    refine .res1 rfl (rvC1 rfl tO4 (k := 5) rfl) (fun w' S => ⟨true, hF, rfl, (S.pick (k := 0) rfl).anti (FH.le_trans (le1) (le13))⟩)
   replace hF := hF.2 q324
   refine .skip (.blkN ?_)
   refine .rdN (k := 1) q177 rfl q318 rfl ?_
   refine .KA [Box pdepth2 [.slice a2 ((gt k.t.ops next).pre.length) c, .slice a3 ((gt k.t.ops next).add.length) c2, .slice a4 ((gt k.t.ops next).del.length) c3, iV ((gt k.t.ops next).cost)], LA .ready none, Box pk2 [.pointer (some pk)], Box pdepth [iV depth], Box pv [.bool false], MkA (D :: []), Box pk (tF k.t ak ck ak2 ck2 ak3 ck3 [vSl ak4 k.sN ck4, .map (some bk), vSl ta tr tc]), OwnMap bk m5, oL 102 5 ta tr tc] ?_
   refine .GV (nt rfl) q313 ?_
   refine .V (pkT rfl q313 rfl) ?_
   refine .nil (.seqN ?_)
   refine .cond rfl (fun e => absurd (e.symm.trans rfl) (by decide)) (fun _ => ?_)
   refine .skip (.blkN ?_)
   refine .sel0 [1, 2, 3, 4, 5, 6, 7, 8] (by decide) rfl ?_
   exact .use q302 m5 hF sb rfl (le13)
  replace hF := hF.2 q313
  refine .GS q313 ?_
  refine .GS q313 ?_
  refine .GS q313 ?_
  refine .GS q313 ?_
  refine .GS q313 ?_
  refine .GS q313 ?_
  refine .GS q313 ?_
  refine .GS q313 ?_
  refine .V (pkF rfl q313 rfl) ?_
  refine .nil (.seqN ?_)
  refine .cond rfl (fun e => absurd (e.symm.trans rfl) (by decide)) (fun _ => ?_)
  refine .skip (.blkN ?_)
  refine .sel0 [1, 2, 3, 4, 5, 6, 7, 8] (by decide) rfl ?_
  exact .US q302 m2 hF
 replace hF := hF.2 q279
 refine .exit (.seqX (.seqX (.blkX ?_)))
 refine .res0 (.inr rfl) rfl (range_done (k := 0) q177 rfl q178 ?_)
 refine .KA [tru, Box pk2 [.pointer (some pk)], Box pdepth [iV depth], Box pv [.bool false], MkA (D :: []), Box pk (tF k.t ak ck ak2 ck2 ak3 ck3 [vSl ak4 k.sN ck4, .map (some bk), vSl ta tr tc]), OwnMap bk m2, oL 102 5 ta tr tc] ?_
 refine .blkN (.seqN (.seq (.seq (.region (.V (ld1 rfl tO96 (cellB (off := 0) (k := 1) rfl rfl)) ?_)))))
 refine .V (nck rfl) ?_
 refine .V (fa rfl tF99_1) ?_
 refine .V (ld1 rfl tO22 (cellB (off := 4) (k := 5) rfl rfl)) ?_
 refine .V (ln rfl tS22.is) ?_
 refine .V mv0 ?_
 refine .nil (.seqN (.block ?_))
 refine .sel0 [1, 2, 3, 4, 5, 6, 7] (by decide) rfl ?_
 obtain ⟨I2, μ2, q837, q838⟩ := hF
 refine .loop' (σ := Int × (List UInt8 → Int)) (fun z => I2 z.1 z.2) (fun z => μ2 z.1 z.2) (fun z => [(1, vSl aworlds worlds cworlds), (3, .pointer (some pk2)), (5, .pointer (some pdepth)), (6, .pointer (some pv)), (7, strV ((r3 ++ ([58] : List UInt8)) ++ r4)), (52, vSl ak4 k.sN ck4), (53, iV ((k.sN.length : Nat) : Int)), (54, iV z.1)]) (fun z => [Box pk2 [.pointer (some pk)], Box pdepth [iV depth], Box pv [.bool false], MkA (D :: []), Box pk (tF k.t ak ck ak2 ck2 ak3 ck3 [vSl ak4 k.sN ck4, .map (some bk), vSl ta tr tc]), OwnMap bk z.2, oL 102 5 ta tr tc]) (fun _ => h1) (0, m2) q837 sb rfl (FH.le_refl _) ?_
 rintro ⟨t54, m6⟩ q837
 have hF := q838 t54 m6 q837
 show J _ _ _ _ _ [(1, vSl aworlds worlds cworlds), (3, .pointer (some pk2)), (5, .pointer (some pdepth)), (6, .pointer (some pv)), (7, strV ((r3 ++ ([58] : List UInt8)) ++ r4)), (52, vSl ak4 k.sN ck4), (53, iV ((k.sN.length : Nat) : Int)), (54, iV t54)] [Box pk2 [.pointer (some pk)], Box pdepth [iV depth], Box pv [.bool false], MkA (D :: []), Box pk (tF k.t ak ck ak2 ck2 ak3 ck3 [vSl ak4 k.sN ck4, .map (some bk), vSl ta tr tc]), OwnMap bk m6, oL 102 5 ta tr tc] h1
 refine .seq (.region (.V bi0 ?_))
 refine .nil (.seqN (.seq ?_))
 refine .cond rfl (fun q841 => ?_) (fun q841 => ?_)
 ·replace hF := hF.1 q841
  refine .skip (.seqN (.seq (.block (.seq (.region ?_)))))
  obtain ⟨q908, hF⟩ := hF
  refine .V (ix rfl rfl tS22 (_q7.ne (by decide) (inb_pos q908)) q908) ?_
  refine .V (ld1 (v := iV (gt k.sN t54)) rfl tO3 (cellH ((_q7.mono (le1)).elemF q908 (by decide) 0 _ rfl))) ?_
  refine .V ag0 ?_
  refine .nil (.seqN (.seq (.region (.V mv0 ?_))))
  refine .V mv0 ?_
  obtain ⟨q909, hF⟩ := hF
  obtain ⟨r9, q910⟩ : ∃ y_ : List (List Int) × List (List Int), y_ = sp_split worlds (gt k.sN t54) := ⟨_, rfl⟩
  replace hF := hF r9 q910
  refine clR (α := Option Addr × Nat × Option Addr × Nat) (Φ := fun h1 z => RSl h1 z.1 r9.1 ∧ r9.1.length ≤ z.2.1 ∧ RSl h1 z.2.2.1 r9.2 ∧ r9.2.length ≤ z.2.2.2) (V := fun z => .tuple #[vSl z.1 r9.1 z.2.1, vSl z.2.2.1 r9.2 z.2.2.2]) Tryz.call97 rfl rfl (fun w S => (by rw [q910]; exact c_split S.sub worlds aworlds cworlds (_q9.mono (le1)) _q10 (gt k.sN t54) q909)) rfl (fun z h31 le31 hz => ?_)
  obtain ⟨a6, c5, a7, c6⟩ := z
  obtain ⟨q911, q912, q913, q914⟩ := hz
  refine .V mv0 ?_
  refine .V (ext rfl rfl) ?_
  refine .V (ext rfl rfl) ?_
  refine .V ag0 ?_
  refine .V ag0 ?_
  refine .nil (.seqN ?_)
  refine .share (σ := Bool × (List UInt8 → Int)) (fun z => F_scan_J2 k K m6 z.1 z.2 t54 I2 μ2) (fun z => [(1, vSl aworlds worlds cworlds), (3, .pointer (some pk2)), (5, .pointer (some pdepth)), (6, .pointer (some pv)), (7, strV ((r3 ++ ([58] : List UInt8)) ++ r4)), (52, vSl ak4 k.sN ck4), (53, iV ((k.sN.length : Nat) : Int)), (54, iV t54), (85, .bool z.1)]) (fun z => [Box pk2 [.pointer (some pk)], Box pdepth [iV depth], Box pv [.bool false], MkA (D :: []), Box pk (tF k.t ak ck ak2 ck2 ak3 ck3 [vSl ak4 k.sN ck4, .map (some bk), vSl ta tr tc]), OwnMap bk z.2, oL 102 5 ta tr tc]) (fun _ => h31) ?_ (fun q927 => ?_)
  ·rintro ⟨t85, m8⟩ hF
   show J _ _ _ _ _ [(1, vSl aworlds worlds cworlds), (3, .pointer (some pk2)), (5, .pointer (some pdepth)), (6, .pointer (some pv)), (7, strV ((r3 ++ ([58] : List UInt8)) ++ r4)), (52, vSl ak4 k.sN ck4), (53, iV ((k.sN.length : Nat) : Int)), (54, iV t54), (85, .bool t85)] [Box pk2 [.pointer (some pk)], Box pdepth [iV depth], Box pv [.bool false], MkA (D :: []), Box pk (tF k.t ak ck ak2 ck2 ak3 ck3 [vSl ak4 k.sN ck4, .map (some bk), vSl ta tr tc]), OwnMap bk m8, oL 102 5 ta tr tc] h31
   refine .cond rfl (fun q928 => ?_) (fun q928 => ?_)
   ·replace hF := hF.1 q928
    refine .seq (.region ?_)
    refine st (p := pv) (off := 0) (k := 2) (vs := [.bool true]) rfl rfl rfl (fun w => (tO4 w).2) rfl rfl rfl rfl ?_
    refine .KA [Box pk2 [.pointer (some pk)], Box pdepth [iV depth], Box pv [.bool true], MkA (D :: []), Box pk (tF k.t ak ck ak2 ck2 ak3 ck3 [vSl ak4 k.sN ck4, .map (some bk), vSl ta tr tc]), OwnMap bk m8, oL 102 5 ta tr tc] ?_
    refine .nil (.seqN (.ret (.blkR (.seqR (.seqR (.blkR (.seqR ?_)))))))
    refine .resM (k := 3) rfl ?_
    obtain ⟨q929, hF⟩ := hF
    refine .closeX (i := 4) (j := 5) (k := 6) (inv := srInv k) (pre := (tF k.t ak ck ak2 ck2 ak3 ck3 [vSl ak4 k.sN ck4])) (xs := tr) rfl rfl rfl rfl rfl rfl rfl rfl q929 ?_
    refine .res1 rfl (rvC1 rfl tO4 (k := 3) rfl) (fun w' S => ⟨true, hF, rfl, (S.pick (k := 0) rfl).anti (FH.le_trans (le1) (le31))⟩)
   replace hF := hF.2 q928
   refine .skip (.blkN (.seqN (.region (.V bi0 ?_))))
   refine .V mv0 ?_
   refine .nil ?_
   exact .round (wr (t54 + 1), m8) hF.1 hF.2 sb rfl (le31)
  refine .region (.V mv0 ?_)
  refine .V (ln rfl tS35.is) ?_
  refine .V bi0 ?_
  refine .V mv0 ?_
  rcases Bool.eq_false_or_eq_true (decide (0 < ((r9.1.length : Nat) : Int))) with q930 | q930
  ·replace hF := hF.1 q930
   refine .GV mv0 q930 ?_
   refine .GV (ln rfl tS35.is) q930 ?_
   refine .GV bi0 q930 ?_
   refine .V (pkT rfl q930 rfl) ?_
   refine .V mv0 ?_
   rcases Bool.eq_false_or_eq_true (decide (0 < ((r9.2.length : Nat) : Int))) with q931 | q931
   ·replace hF := hF.1 q931
    refine .GV (ld1 rfl tO96 (cellB (off := 0) (k := 0) rfl rfl)) q931 ?_
    refine .GV mv0 q931 ?_
    refine .GV (ld1 rfl tO3 (cellB (off := 0) (k := 1) rfl rfl)) q931 ?_
    refine .GV bi0 q931 ?_
    refine .gR rfl rfl rfl q931 ?_
    obtain ⟨q932, q933, q934, hF⟩ := hF
    obtain ⟨r10, q935⟩ : ∃ y_ : Bool, y_ = sp_scan k r9.1 (wr (depth - 1)) := ⟨_, rfl⟩
    replace hF := hF r10 q935
    refine callS (i := 4) (j := 5) (k := 6) (inv := srInv k) (pre := (tF k.t ak ck ak2 ck2 ak3 ck3 [vSl ak4 k.sN ck4])) (xs := tr) (v := .bool r10) rfl rfl rfl rfl rfl rfl rfl rfl q932 Tryz.call98 rfl rfl (fun w g hx sg hd hs' => ?_) rfl (fun m9 q936 => ?_)
    ·rw [q935]; exact ih hs' (ht.mono (FH.le_trans (le1) (le31))) k ak ck (_q1.mono (FH.le_trans (le1) (le31))) _q2 ak2 ck2 (_q3.mono (FH.le_trans (le1) (le31))) _q4 ak3 ck3 (_q5.mono (FH.le_trans (le1) (le31))) _q6 ak4 ck4 (_q7.mono (FH.le_trans (le1) (le31))) _q8 pk bk tr ta tc hx sg hd r9.1 a6 c5 q911 q912 (wr (depth - 1)) (by rw [← hm]; exact q934) q933
    replace hF := hF m9 q936
    refine .KA [Box pk2 [.pointer (some pk)], Box pdepth [iV depth], Box pv [.bool false], MkA (D :: []), Box pk (tF k.t ak ck ak2 ck2 ak3 ck3 [vSl ak4 k.sN ck4, .map (some bk), vSl ta tr tc]), OwnMap bk m9, oL 102 5 ta tr tc] ?_
    refine .V (pkT rfl q931 rfl) ?_
    refine .V mv0 ?_
    rcases Bool.eq_false_or_eq_true (r10) with q937 | q937
    ·replace hF := hF.1 q937
     refine .GV (ld1 rfl tO96 (cellB (off := 0) (k := 0) rfl rfl)) q937 ?_
     refine .GV mv0 q937 ?_
     refine .GV (ld1 rfl tO3 (cellB (off := 0) (k := 1) rfl rfl)) q937 ?_
     refine .GV bi0 q937 ?_
     refine .gR rfl rfl rfl q937 ?_
     obtain ⟨q938, q939, hF⟩ := hF
     obtain ⟨r11, q940⟩ : ∃ y_ : Bool, y_ = sp_scan k r9.2 (wr (depth - 1)) := ⟨_, rfl⟩
     replace hF := hF r11 q940
     refine callS (i := 4) (j := 5) (k := 6) (inv := srInv k) (pre := (tF k.t ak ck ak2 ck2 ak3 ck3 [vSl ak4 k.sN ck4])) (xs := tr) (v := .bool r11) rfl rfl rfl rfl rfl rfl rfl rfl q936 Tryz.call98 rfl rfl (fun w g hx sg hd hs' => ?_) rfl (fun m10 q941 => ?_)
     ·rw [q940]; exact ih hs' (ht.mono (FH.le_trans (le1) (le31))) k ak ck (_q1.mono (FH.le_trans (le1) (le31))) _q2 ak2 ck2 (_q3.mono (FH.le_trans (le1) (le31))) _q4 ak3 ck3 (_q5.mono (FH.le_trans (le1) (le31))) _q6 ak4 ck4 (_q7.mono (FH.le_trans (le1) (le31))) _q8 pk bk tr ta tc hx sg hd r9.2 a7 c6 q913 q914 (wr (depth - 1)) (by rw [← hm]; exact q939) q938
     replace hF := hF m10 q941
     refine .KA [Box pk2 [.pointer (some pk)], Box pdepth [iV depth], Box pv [.bool false], MkA (D :: []), Box pk (tF k.t ak ck ak2 ck2 ak3 ck3 [vSl ak4 k.sN ck4, .map (some bk), vSl ta tr tc]), OwnMap bk m10, oL 102 5 ta tr tc] ?_
     refine .V (pkT rfl q937 rfl) ?_
     refine .nil ?_
     exact .US q927 (r11, m10) hF
    replace hF := hF.2 q937
    refine .GS q937 ?_
    refine .GS q937 ?_
    refine .GS q937 ?_
    refine .GS q937 ?_
    refine .GS q937 ?_
    refine .V (pkF rfl q937 rfl) ?_
    refine .nil ?_
    exact .US q927 (false, m9) hF
   replace hF := hF.2 q931
   refine .GS q931 ?_
   refine .GS q931 ?_
   refine .GS q931 ?_
   refine .GS q931 ?_
   refine .GS q931 ?_
   refine .V (pkF rfl q931 rfl) ?_
   refine .V mv0 ?_
   refine .gS rfl rfl rfl rfl rfl rfl ?_
   refine .gS rfl rfl rfl rfl rfl rfl ?_
   refine .gS rfl rfl rfl rfl rfl rfl ?_
   refine .gS rfl rfl rfl rfl rfl rfl ?_
   refine .gS rfl rfl rfl rfl rfl rfl ?_
   refine .V (pkF rfl rfl rfl) ?_
   refine .nil ?_
   exact .US q927 (false, m6) hF
  replace hF := hF.2 q930
  refine .GS q930 ?_
  refine .GS q930 ?_
  refine .GS q930 ?_
  refine .V (pkF rfl q930 rfl) ?_
  refine .V mv0 ?_
  refine .gS rfl rfl rfl rfl rfl rfl ?_
  refine .gS rfl rfl rfl rfl rfl rfl ?_
  refine .gS rfl rfl rfl rfl rfl rfl ?_
  refine .gS rfl rfl rfl rfl rfl rfl ?_
  refine .gS rfl rfl rfl rfl rfl rfl ?_
  refine .V (pkF rfl rfl rfl) ?_
  refine .V mv0 ?_
  refine .gS rfl rfl rfl rfl rfl rfl ?_
  refine .gS rfl rfl rfl rfl rfl rfl ?_
  refine .gS rfl rfl rfl rfl rfl rfl ?_
  refine .gS rfl rfl rfl rfl rfl rfl ?_
  refine .gS rfl rfl rfl rfl rfl rfl ?_
  refine .V (pkF rfl rfl rfl) ?_
  refine .nil ?_
  exact .US q927 (false, m6) hF
 replace hF := hF.2 q841
 refine .exit (.seqX (.seqX (.blkX (.seqN (.seq (.region (.V (ld1 rfl tO96 (cellB (off := 0) (k := 0) rfl rfl)) ?_)))))))
 refine .V (nck rfl) ?_
 refine .V (fa rfl tF99_2) ?_
 refine .V (ld1 rfl tO97 (cellB (off := 5) (k := 4) rfl rfl)) ?_
 refine .V mv0 ?_
 refine mu tM97 rfl rfl rfl (kk := 5) rfl ?_
 refine .KA [Box pk2 [.pointer (some pk)], Box pdepth [iV depth], Box pv [.bool false], MkA (D :: []), Box pk (tF k.t ak ck ak2 ck2 ak3 ck3 [vSl ak4 k.sN ck4, .map (some bk), vSl ta tr tc]), OwnMap bk (upd m6 ((r3 ++ ([58] : List UInt8)) ++ r4) 1), oL 102 5 ta tr tc] ?_
 refine .nil (.seqN (.seq (.region ?_)))
 refine st (p := pv) (off := 0) (k := 2) (vs := [.bool false]) rfl rfl rfl (fun w => (tO4 w).2) rfl rfl rfl rfl ?_
 refine .KA [Box pk2 [.pointer (some pk)], Box pdepth [iV depth], Box pv [.bool false], MkA (D :: []), Box pk (tF k.t ak ck ak2 ck2 ak3 ck3 [vSl ak4 k.sN ck4, .map (some bk), vSl ta tr tc]), OwnMap bk (upd m6 ((r3 ++ ([58] : List UInt8)) ++ r4) 1), oL 102 5 ta tr tc] ?_
 refine .nil (.seqN (.ret ?_))
 refine .resM (k := 3) rfl ?_
 obtain ⟨q942, hF⟩ := hF
 refine .closeX (i := 4) (j := 5) (k := 6) (inv := srInv k) (pre := (tF k.t ak ck ak2 ck2 ak3 ck3 [vSl ak4 k.sN ck4])) (xs := tr) rfl rfl rfl rfl rfl rfl rfl rfl q942 ?_
 refine .res1 rfl (rvC1 rfl tO4 (k := 3) rfl) (fun w' S => ⟨false, hF, rfl, (S.pick (k := 0) rfl).anti (le1)⟩)
theorem c_scan_ : ∀ (mM : Nat) {h : FH} {w : World} (_ : Sub h w) (_ : TabH Tryz.prog h) (k : Srch) (ak : Option Addr) (ck : Nat) (_q1 : RSl h ak k.t.init) (_q2 : k.t.init.length ≤ ck) (ak2 : Option Addr) (ck2 : Nat) (_q3 : RSl h ak2 k.t.goal) (_q4 : k.t.goal.length ≤ ck2) (ak3 : Option Addr) (ck3 : Nat) (_q5 : RSl h ak3 k.t.ops) (_q6 : k.t.ops.length ≤ ck3) (ak4 : Option Addr) (ck4 : Nat) (_q7 : RSl h ak4 k.sN) (_q8 : k.sN.length ≤ ck4) (pk : Addr) (bk : Nat) (tr : List TNode) (ta : Option Addr) (tc : Nat) {gX : FH} (_ : SrX (srInv k) pk [iV k.t.facts, .slice ak k.t.init.length ck, .slice ak2 k.t.goal.length ck2, .slice ak3 k.t.ops.length ck3, .slice ak4 k.sN.length ck4] bk 102 ta tc tr gX) (_ : Sub gX w) (_ : Disj h gX) (worlds : List (List Int)) (aworlds : Option Addr) (cworlds : Nat) (_q9 : RSl h aworlds worlds) (_q10 : worlds.length ≤ cworlds) (depth : Int) (_ : mu_scan k worlds depth = mM) (_ : pre_scan k worlds depth), Calls Tryz.prog 98 #[.pointer (some pk), .slice aworlds worlds.length cworlds, iV depth] w fun e w' => e = .returned (.bool (sp_scan k worlds depth)) ∧ SH (Kp.ex w h gX) h w' [SrX (srInv k) pk [iV k.t.facts, .slice ak k.t.init.length ck, .slice ak2 k.t.goal.length ck2, .slice ak3 k.t.ops.length ck3, .slice ak4 k.sN.length ck4] bk 102 ta tc tr] := by
 intro mM
 induction mM using Nat.strongRecOn with
 | _ mM ih =>
  intro h w hs ht k ak ck _q1 _q2 ak2 ck2 _q3 _q4 ak3 ck3 _q5 _q6 ak4 ck4 _q7 _q8 pk bk tr ta tc gX ownX subX disX worlds aworlds cworlds _q9 _q10 depth hm hp
  exact (w_scan hs ht k ak ck _q1 _q2 ak2 ck2 _q3 _q4 ak3 ck3 _q5 _q6 ak4 ck4 _q7 _q8 pk bk tr ta tc ownX subX disX worlds aworlds cworlds _q9 _q10 depth _ rfl (fun hs' ht k ak ck _q1 _q2 ak2 ck2 _q3 _q4 ak3 ck3 _q5 _q6 ak4 ck4 _q7 _q8 pk bk tr ta tc gX ownX subX disX worlds aworlds cworlds _q9 _q10 depth hlt hp => ih _ (hm ▸ hlt) hs' ht k ak ck _q1 _q2 ak2 ck2 _q3 _q4 ak3 ck3 _q5 _q6 ak4 ck4 _q7 _q8 pk bk tr ta tc ownX subX disX worlds aworlds cworlds _q9 _q10 depth rfl hp) (fun r => r = sp_scan k worlds depth) (ok_scan k worlds depth hp)).mono fun _ _ ⟨r, hk, he, hS⟩ => by subst hk; exact ⟨he, hS⟩
theorem c_scan {h : FH} {w : World} (hs : Sub h w) (ht : TabH Tryz.prog h) (k : Srch) (ak : Option Addr) (ck : Nat) (_q1 : RSl h ak k.t.init) (_q2 : k.t.init.length ≤ ck) (ak2 : Option Addr) (ck2 : Nat) (_q3 : RSl h ak2 k.t.goal) (_q4 : k.t.goal.length ≤ ck2) (ak3 : Option Addr) (ck3 : Nat) (_q5 : RSl h ak3 k.t.ops) (_q6 : k.t.ops.length ≤ ck3) (ak4 : Option Addr) (ck4 : Nat) (_q7 : RSl h ak4 k.sN) (_q8 : k.sN.length ≤ ck4) (pk : Addr) (bk : Nat) (tr : List TNode) (ta : Option Addr) (tc : Nat) {gX : FH} (ownX : SrX (srInv k) pk [iV k.t.facts, .slice ak k.t.init.length ck, .slice ak2 k.t.goal.length ck2, .slice ak3 k.t.ops.length ck3, .slice ak4 k.sN.length ck4] bk 102 ta tc tr gX) (subX : Sub gX w) (disX : Disj h gX) (worlds : List (List Int)) (aworlds : Option Addr) (cworlds : Nat) (_q9 : RSl h aworlds worlds) (_q10 : worlds.length ≤ cworlds) (depth : Int) (hp : pre_scan k worlds depth) : Calls Tryz.prog 98 #[.pointer (some pk), .slice aworlds worlds.length cworlds, iV depth] w fun e w' => e = .returned (.bool (sp_scan k worlds depth)) ∧ SH (Kp.ex w h gX) h w' [SrX (srInv k) pk [iV k.t.facts, .slice ak k.t.init.length ck, .slice ak2 k.t.goal.length ck2, .slice ak3 k.t.ops.length ck3, .slice ak4 k.sN.length ck4] bk 102 ta tc tr] :=
 c_scan_ _ hs ht k ak ck _q1 _q2 ak2 ck2 _q3 _q4 ak3 ck3 _q5 _q6 ak4 ck4 _q7 _q8 pk bk tr ta tc ownX subX disX worlds aworlds cworlds _q9 _q10 depth rfl hp
end Go.Proofs.YtojoehfldbimpaaGreatDoor.Pl

