import Derived.Test.YtimillpakjgnoaaGreatDoorM1
import Derived.Test.YtimillpakjgnoaaGreatDoorM4
import Derived.Test.YtimillpakjgnoaaGreatDoorM2
import Derived.Test.YtimillpakjgnoaaGreatDoorRows
import Derived.ProofKit
import Derived.OpenShut
import Derived.JoinedCond
import Derived.Carry
import Derived.Below
import Derived.ChangeSame
import Derived.Deep.Slices
import Derived.Deep.Fields
import Derived.Lib.SmallJoins
import Derived.SizedLaws
namespace Go.Proofs.YtimillpakjgnoaaGreatDoor.Pl
open Go Go.RowKit
set_option maxHeartbeats 8000000 in
theorem w_optimalL {h : FH} {w : World} (hs : Sub h w) (t : Task) (at_ : Option Addr) (ct : Nat) (_q1 : RSl h at_ t.init) (_q2 : t.init.length ≤ ct) (at_2 : Option Addr) (ct2 : Nat) (_q3 : RSl h at_2 t.goal) (_q4 : t.goal.length ≤ ct2) (at_3 : Option Addr) (ct3 : Nat) (_q5 : RSl h at_3 t.ops) (_q6 : t.ops.length ≤ ct3) (K : (Int × Fault) → Prop) (hF : F_optimalL t K) : Calls Tryz.prog 56 #[.agg #[iV t.facts, .slice at_ t.init.length ct, .slice at_2 t.goal.length ct2, .slice at_3 t.ops.length ct3]] w fun e w' => ∃ r : Int × Fault, K r ∧ e = .returned (.tuple #[iV r.1, .agg #[iV r.2.code, iV r.2.index]]) ∧ Below w.heap.size w w' := by
 refine enter (args := [.agg (tF t at_ ct at_2 ct2 at_3 ct3).toArray]) Tryz.func56 rfl Tryz.ntmps56 rfl hs ?_
 obtain ⟨q7, hF⟩ := hF
 subst q7
 refine .seq (.region ?_)
 refine bx (vs := [iV 2, .slice at_ 0 ct, .slice at_2 2 ct2, .slice at_3 1 ct3]) rfl rfl rfl (fun pt => ?_)
 refine .V ag0 ?_
 refine al tZ27 rfl (fun pv => ?_)
 refine .nil (.seqN (.seq (.region (.V (ldA (cs := [iV 2, .slice at_ 0 ct, .slice at_2 2 ct2, .slice at_3 1 ct3]) rfl tA25 rfl (cellsB (off := 0) (k := 1) rfl (m := 4) rfl)) ?_))))
 refine .inl Tryz.func21 rfl Tryz.ntmps21 Tryz.call21 rfl rfl rfl rfl (fun a q8 => ?_)
 refine .sel0 [0] (by decide) rfl ?_
 refine .KA [Box pv [iV 0, iV 0]] ?_
 refine .seq (.region ?_)
 refine bx (vs := [iV 2, .slice at_ 0 ct, .slice at_2 2 ct2, .slice at_3 1 ct3]) rfl rfl rfl (fun pt2 => ?_)
 refine .V ag0 ?_
 refine .V ag0 ?_
 refine al tZ27 rfl (fun pv2 => ?_)
 refine .nil (.seqN (.seq (.seq (.region (.V (ldA (cs := [iV 2, .slice at_ 0 ct, .slice at_2 2 ct2, .slice at_3 1 ct3]) rfl tA25 rfl (cellsB (off := 0) (k := 1) rfl (m := 4) rfl)) ?_)))))
 obtain ⟨r2, q9⟩ : ∃ y_ : Fault, y_ = sp_validate (⟨2, ([] : List Int), ([0, 1] : List Int), ([(⟨([] : List Int), ([0, 1] : List Int), ([] : List Int), 2⟩ : Operator)] : List Operator)⟩ : Task) := ⟨_, rfl⟩
 replace hF := hF r2 q9
 have q10 : sp_validate (⟨2, ([] : List Int), ([0, 1] : List Int), ([(⟨([] : List Int), ([0, 1] : List Int), ([] : List Int), 2⟩ : Operator)] : List Operator)⟩ : Task) = (⟨0, 0⟩ : Fault) := by decide +kernel
 refine .C (cl (v := .agg #[iV 0, iV 0]) Tryz.call37 rfl rfl (fun w S => (by have h_ := c_validate S.sub (⟨2, ([] : List Int), ([0, 1] : List Int), ([(⟨([] : List Int), ([0, 1] : List Int), ([] : List Int), 2⟩ : Operator)] : List Operator)⟩ : Task) at_ ct _q1 _q2 at_2 ct2 _q3 _q4 at_3 ct3 _q5 _q6 ; rw [q10] at h_; exact h_))) ?_
 refine al tZ27 rfl (fun pf => ?_)
 refine st (p := pf) (off := 0) (k := 0) (vs := [iV 0, iV 0]) rfl rfl rfl (fun w => (tA27 w).2) rfl rfl rfl rfl ?_
 refine .nil (.seqN (.seq (.region (.V (ldA (cs := [iV 0, iV 0]) rfl tA27 rfl (cellsB (off := 0) (k := 0) rfl (m := 2) rfl)) ?_))))
 refine .V (bld (cs := #[iV 0, iV 0]) (pv := []) tB27 rfl rfl) ?_
 refine .V (ne2 tE27 rfl rfl) ?_
 refine .nil (.seqN ?_)
 refine .cond rfl (fun e => absurd (e.symm.trans rfl) (by decide)) (fun _ => ?_)
 refine .skip (.seqN (.seq (.region (.V (ldA (cs := [iV 2, .slice at_ 0 ct, .slice at_2 2 ct2, .slice at_3 1 ct3]) rfl tA25 rfl (cellsB (off := 0) (k := 2) rfl (m := 4) rfl)) ?_))))
 refine .inl Tryz.func47 rfl Tryz.ntmps47 Tryz.call47 rfl rfl rfl rfl (fun a2 q11 => ?_)
 refine .sel0 [1, 3] (by decide) rfl ?_
 refine .KA [Box pv2 [iV 0, iV 0], Box pv [iV 0, iV 0]] ?_
 refine .seq (.region ?_)
 refine bx (vs := [iV 2, .slice at_ 0 ct, .slice at_2 2 ct2, .slice at_3 1 ct3]) rfl rfl rfl (fun pt3 => ?_)
 refine .V ag0 ?_
 refine .nil (.seqN (.seq ?_))
 obtain ⟨q12, hF⟩ := hF
 obtain ⟨r3, q13⟩ : ∃ y_ : Int, y_ = sp_word ([] : List Int) := ⟨_, rfl⟩
 replace hF := hF r3 q13
 have q14 : sp_word ([] : List Int) = 0 := by decide +kernel
 obtain ⟨q15, hF⟩ := hF
 obtain ⟨r4, q16⟩ : ∃ y_ : Int, y_ = sp_word ([0, 1] : List Int) := ⟨_, rfl⟩
 replace hF := hF r4 q16
 have q17 : sp_word ([0, 1] : List Int) = 3 := by decide +kernel
 refine .openA (s0 := [(1, .pointer (some pt3))]) [0, 1, 2, 3, 4, 5, 6] [(0, .pointer (some (pt3.add 1))), (1, .slice at_ 0 ct), (2, .int .u32 0), (3, .pointer (some (pt3.add 2))), (4, .slice at_2 2 ct2), (5, .int .u32 3), (6, .agg #[.int .u32 0, .int .u32 3, .slice none 0 0])] (by kernel_rfl) sb [1] [] rfl (by kernel_rfl) ?_
 refine .step [7] 7 rfl (by kernel_rfl) (by kernel_rfl) (.v [] rfl rfl rfl rfl rfl rfl (fun _ => fa rfl tF25_1) (.v [(6, .pointer (some (pt3.add 1)))] rfl rfl rfl rfl rfl rfl (fun _ => ld1 rfl tO22 (cellB (off := 1) (k := 0) rfl rfl)) (.c [(7, .slice at_ 0 ct)] rfl rfl rfl rfl rfl rfl (fun _ => cl (v := .int .u32 0) Tryz.call73 rfl rfl (fun w S => (by have h_ := c_word S.sub ([] : List Int) at_ ct _q1 _q2 q12; rw [q14] at h_; exact h_))) (.v [] rfl rfl rfl rfl rfl rfl (fun _ => fa rfl tF25_2) (.v [(9, .pointer (some (pt3.add 2)))] rfl rfl rfl rfl rfl rfl (fun _ => ld1 rfl tO22 (cellB (off := 2) (k := 0) rfl rfl)) (.c [(10, .slice at_2 2 ct2), (8, .int .u32 0)] rfl rfl rfl rfl rfl rfl (fun _ => cl (v := .int .u32 3) Tryz.call73 rfl rfl (fun w S => (by have h_ := c_word S.sub ([0, 1] : List Int) at_2 ct2 _q3 _q4 q15; rw [q17] at h_; exact h_))) (.v [(8, .int .u32 0), (11, .int .u32 3)] rfl rfl rfl rfl rfl rfl (fun _ => bld (cs := #[.int .u32 0, .int .u32 3, .slice none 0 0]) (pv := [(0, .int .u32 0), (1, .int .u32 3)]) tB112 rfl rfl) (.nil)))))))) (.cons [(12, .agg #[.int .u32 0, .int .u32 3, .slice none 0 0])] rfl rfl (fun sL hL => ?_) (.nil))
 refine bx (vs := [.int .u32 0, .int .u32 3, .slice none 0 0]) rfl rfl rfl (fun pv3 => ?_)
 refine .nil ?_
 refine .ja (M := [6, 2, 5, 1, 4, 0, 3]) (C' := [8]) (pre := [(7, .pointer (some pv3)), (8, .pointer (some pv3))]) [(1, .pointer (some pt3))] [1] hL rfl rfl rfl rfl rfl sb rfl rfl (by kernel_rfl) ?_
 refine .last [(6, .pointer (some (pt3.add 1))), (7, .slice at_ 0 ct), (8, .int .u32 0), (9, .pointer (some (pt3.add 2))), (10, .slice at_2 2 ct2), (11, .int .u32 3), (12, .agg #[.int .u32 0, .int .u32 3, .slice none 0 0]), (13, .pointer (some pv3)), (3, .pointer (some pv3))] rfl (by kernel_rfl) (.v [(13, .pointer (some pv3)), (11, .int .u32 3), (6, .pointer (some (pt3.add 1))), (7, .slice at_ 0 ct), (8, .int .u32 0), (9, .pointer (some (pt3.add 2))), (10, .slice at_2 2 ct2), (11, .int .u32 3), (12, .agg #[.int .u32 0, .int .u32 3, .slice none 0 0]), (13, .pointer (some pv3))] rfl rfl rfl rfl rfl rfl (fun _ => asg rfl) (.nil)) rfl ?_
 refine .seqN (.seq (.seq (.region (.V (fa rfl tF25_3) ?_))))
 refine .V (ld1 rfl tO23 (cellB (off := 3) (k := 1) rfl rfl)) ?_
 refine .V (ln rfl tS23.is) ?_
 refine .V mv0 ?_
 refine .nil (.seqN (.block ?_))
 refine .rounds 90 ?_
 refine .seq (.region (.V bi0 ?_))
 refine .nil (.seqN (.seq ?_))
 refine .cond rfl (fun _ => ?_) (fun e => absurd (e.symm.trans rfl) (by decide))
 refine .skip (.seqN (.seq (.block (.seq (.region (.V (ix rfl rfl tS23 (_q5.ne (by decide) (inb_pos (show inb ([(⟨([] : List Int), ([0, 1] : List Int), ([] : List Int), 2⟩ : Operator)] : List Operator) (0 : Int) from And.intro (by decide) (by decide)))) (show inb ([(⟨([] : List Int), ([0, 1] : List Int), ([] : List Int), 2⟩ : Operator)] : List Operator) (0 : Int) from And.intro (by decide) (by decide))) ?_))))))
 obtain ⟨_, ⟨a3, c, a4, c2, a5, c3, rfl, ⟨q18, q19⟩, ⟨q20, q21⟩, q22, q23⟩, q24⟩ := _q5.elem (show inb ([(⟨([] : List Int), ([0, 1] : List Int), ([] : List Int), 2⟩ : Operator)] : List Operator) (0 : Int) from And.intro (by decide) (by decide))
 refine .V (ldA (cs := [.slice a3 0 c, .slice a4 2 c2, .slice a5 0 c3, iV 2]) rfl tA114 rfl (cellsH (q24 (by decide)))) ?_
 refine al tZ114 rfl (fun po => ?_)
 refine st (p := po) (off := 0) (k := 0) (vs := [.slice a3 0 c, .slice a4 2 c2, .slice a5 0 c3, iV 2]) rfl rfl rfl (fun w => (tA114 w).2) rfl rfl rfl rfl ?_
 refine .nil (.seqN ?_)
 obtain ⟨r5, q25⟩ : ∃ y_ : Int, y_ = sp_word ([] : List Int) := ⟨_, rfl⟩
 replace hF := hF r5 q25
 have q26 : sp_word ([] : List Int) = 0 := by decide +kernel
 obtain ⟨r6, q27⟩ : ∃ y_ : Int, y_ = sp_word ([0, 1] : List Int) := ⟨_, rfl⟩
 replace hF := hF r6 q27
 have q28 : sp_word ([0, 1] : List Int) = 3 := by decide +kernel
 obtain ⟨r7, q29⟩ : ∃ y_ : Int, y_ = sp_word ([] : List Int) := ⟨_, rfl⟩
 replace hF := hF r7 q29
 have q30 : sp_word ([] : List Int) = 0 := by decide +kernel
 refine .openA (s0 := [(3, .pointer (some pv3)), (5, .pointer (some po)), (15, .slice at_3 1 ct3), (16, iV 1), (17, iV 0)]) [0, 1, 2, 3, 4, 5, 6, 7, 8, 9, 10, 11, 12, 13, 14, 15, 16] [(0, .pointer (some pv3)), (1, .pointer (some pv3)), (2, .pointer (some pv3)), (3, .pointer (some (pv3.add 2))), (4, .slice none 0 0), (5, .pointer (some (po.add 0))), (6, .slice a3 0 c), (7, .int .u32 0), (8, .pointer (some (po.add 1))), (9, .slice a4 2 c2), (10, .int .u32 3), (11, .pointer (some (po.add 2))), (12, .slice a5 0 c3), (13, .int .u32 0), (14, .pointer (some (po.add 3))), (15, iV 2), (16, .agg #[.int .u32 0, .int .u32 3, .int .u32 0, iV 2])] (by kernel_rfl) sb [3, 5, 15, 16, 17] [] rfl (by kernel_rfl) ?_
 refine .step [17] 17 rfl (by kernel_rfl) (by kernel_rfl) (.v [] rfl rfl rfl rfl rfl rfl (fun _ => mv rfl) (.v [] rfl rfl rfl rfl rfl rfl (fun _ => mv rfl) (.v [(22, .pointer (some pv3))] rfl rfl rfl rfl rfl rfl (fun _ => nck rfl) (.v [(23, .pointer (some pv3))] rfl rfl rfl rfl rfl rfl (fun _ => fa rfl tF112_2) (.v [(24, .pointer (some (pv3.add 2)))] rfl rfl rfl rfl rfl rfl (fun _ => ld1 rfl tO110 (cellB (off := 2) (k := 1) rfl rfl)) (.v [] rfl rfl rfl rfl rfl rfl (fun _ => fa rfl tF114_0) (.v [(26, .pointer (some (po.add 0)))] rfl rfl rfl rfl rfl rfl (fun _ => ld1 rfl tO22 (cellB (off := 0) (k := 0) rfl rfl)) (.c [(27, .slice a3 0 c)] rfl rfl rfl rfl rfl rfl (fun _ => cl (v := .int .u32 0) Tryz.call73 rfl rfl (fun w S => (by have h_ := c_word S.sub ([] : List Int) a3 c q19 q18 q12; rw [q26] at h_; exact h_))) (.v [] rfl rfl rfl rfl rfl rfl (fun _ => fa rfl tF114_1) (.v [(29, .pointer (some (po.add 1)))] rfl rfl rfl rfl rfl rfl (fun _ => ld1 rfl tO22 (cellB (off := 1) (k := 0) rfl rfl)) (.c [(30, .slice a4 2 c2), (28, .int .u32 0)] rfl rfl rfl rfl rfl rfl (fun _ => cl (v := .int .u32 3) Tryz.call73 rfl rfl (fun w S => (by have h_ := c_word S.sub ([0, 1] : List Int) a4 c2 q21 q20 q15; rw [q28] at h_; exact h_))) (.v [] rfl rfl rfl rfl rfl rfl (fun _ => fa rfl tF114_2) (.v [(32, .pointer (some (po.add 2)))] rfl rfl rfl rfl rfl rfl (fun _ => ld1 rfl tO22 (cellB (off := 2) (k := 0) rfl rfl)) (.c [(33, .slice a5 0 c3), (31, .int .u32 3)] rfl rfl rfl rfl rfl rfl (fun _ => cl (v := .int .u32 0) Tryz.call73 rfl rfl (fun w S => (by have h_ := c_word S.sub ([] : List Int) a5 c3 q23 q22 q12; rw [q30] at h_; exact h_))) (.v [] rfl rfl rfl rfl rfl rfl (fun _ => fa rfl tF114_3) (.v [(35, .pointer (some (po.add 3)))] rfl rfl rfl rfl rfl rfl (fun _ => ld1 rfl tO3 (cellB (off := 3) (k := 0) rfl rfl)) (.v [(28, .int .u32 0), (31, .int .u32 3), (34, .int .u32 0), (36, iV 2)] rfl rfl rfl rfl rfl rfl (fun _ => bld (cs := #[.int .u32 0, .int .u32 3, .int .u32 0, iV 2]) (pv := [(0, .int .u32 0), (1, .int .u32 3), (2, .int .u32 0), (3, iV 2)]) tB132 rfl rfl) (.nil)))))))))))))))))) (.cons [(37, .agg #[.int .u32 0, .int .u32 3, .int .u32 0, iV 2])] rfl rfl (fun sL hL => ?_) (.nil))
 refine bs2 (cs := #[.int .u32 0, .int .u32 3, .int .u32 0, iV 2]) (pv := [(0, .agg #[.int .u32 0, .int .u32 3, .int .u32 0, iV 2])]) tS110 rfl rfl (by decide) (by decide) rfl rfl rfl (fun a6 q31 => ?_)
 refine .nil ?_
 refine .ja (M := [16, 7, 10, 13, 15, 6, 9, 12, 14, 5, 8, 11]) (C' := [0, 1, 2, 3, 4]) (pre := [(17, .slice a6 1 1)]) [(3, .pointer (some pv3)), (5, .pointer (some po)), (15, .slice at_3 1 ct3), (16, iV 1), (17, iV 0)] [3, 5, 15, 16, 17] hL rfl rfl rfl rfl rfl sb rfl rfl (by kernel_rfl) ?_
 refine .step [18] 18 rfl (by kernel_rfl) (by kernel_rfl) (.v [] rfl rfl rfl rfl rfl rfl (fun _ => mv rfl) (.v [] rfl rfl rfl rfl rfl rfl (fun _ => mv rfl) (.v [(22, .pointer (some pv3))] rfl rfl rfl rfl rfl rfl (fun _ => nck rfl) (.v [(23, .pointer (some pv3))] rfl rfl rfl rfl rfl rfl (fun _ => fa rfl tF112_2) (.v [(24, .pointer (some (pv3.add 2)))] rfl rfl rfl rfl rfl rfl (fun _ => ld1 rfl tO110 (cellB (off := 2) (k := 2) rfl rfl)) (.nil)))))) (.cons [(25, .slice none 0 0), (38, .slice a6 1 1), (34, .int .u32 0)] rfl rfl (fun sL hL => ?_) (.nil))
 refine .nilSl 132 4 ?_
 refine app (k := 0) (news := [.int .u32 0, .int .u32 3, .int .u32 0, iV 2]) (cs' := [.int .u32 0, .int .u32 3, .int .u32 0, iV 2]) (nm := 1) tS110 rfl (by decide) rfl rfl rfl rfl (srcS (k := 1) rfl) (oneAll rfl) (by decide) (by decide) rfl rfl rfl (fun a7 c4 => ?_)
 refine .nil ?_
 refine .ja (M := [4, 3, 2, 1]) (C' := [0, 19, 20]) (pre := [(18, .slice a7 1 c4), (19, .pointer (some pv3)), (20, .pointer (some (pv3.add 2)))]) [(3, .pointer (some pv3)), (5, .pointer (some po)), (15, .slice at_3 1 ct3), (16, iV 1), (17, iV 0)] [3, 5, 15, 16, 17] hL rfl rfl rfl rfl rfl sb rfl rfl (by kernel_rfl) ?_
 refine .step [21] 21 rfl (by kernel_rfl) (by kernel_rfl) (.v [] rfl rfl rfl rfl rfl rfl (fun _ => mv rfl) (.v [(21, .pointer (some pv3)), (21, .pointer (some pv3)), (22, .pointer (some pv3)), (23, .pointer (some pv3)), (24, .pointer (some (pv3.add 2))), (25, .slice none 0 0), (26, .pointer (some (po.add 0))), (27, .slice a3 0 c), (28, .int .u32 0), (29, .pointer (some (po.add 1))), (30, .slice a4 2 c2), (31, .int .u32 3), (32, .pointer (some (po.add 2))), (33, .slice a5 0 c3), (34, .int .u32 0), (35, .pointer (some (po.add 3))), (36, iV 2), (37, .agg #[.int .u32 0, .int .u32 3, .int .u32 0, iV 2]), (38, .slice a6 1 1), (39, .slice a7 1 c4)] rfl rfl rfl rfl rfl rfl (fun _ => nck rfl) (.v [(40, .pointer (some pv3)), (21, .pointer (some pv3)), (22, .pointer (some pv3)), (23, .pointer (some pv3)), (24, .pointer (some (pv3.add 2))), (25, .slice none 0 0), (26, .pointer (some (po.add 0))), (27, .slice a3 0 c), (28, .int .u32 0), (29, .pointer (some (po.add 1))), (30, .slice a4 2 c2), (31, .int .u32 3), (32, .pointer (some (po.add 2))), (33, .slice a5 0 c3), (34, .int .u32 0), (35, .pointer (some (po.add 3))), (36, iV 2), (37, .agg #[.int .u32 0, .int .u32 3, .int .u32 0, iV 2]), (38, .slice a6 1 1), (39, .slice a7 1 c4)] rfl rfl rfl rfl rfl rfl (fun _ => fa rfl tF112_2) (.nil)))) (.cons [(41, .pointer (some (pv3.add 2))), (39, .slice a7 1 c4), (39, .slice a7 1 c4), (21, .pointer (some pv3)), (22, .pointer (some pv3)), (23, .pointer (some pv3)), (24, .pointer (some (pv3.add 2))), (25, .slice none 0 0), (26, .pointer (some (po.add 0))), (27, .slice a3 0 c), (28, .int .u32 0), (29, .pointer (some (po.add 1))), (30, .slice a4 2 c2), (31, .int .u32 3), (32, .pointer (some (po.add 2))), (33, .slice a5 0 c3), (34, .int .u32 0), (35, .pointer (some (po.add 3))), (36, iV 2), (37, .agg #[.int .u32 0, .int .u32 3, .int .u32 0, iV 2]), (38, .slice a6 1 1), (39, .slice a7 1 c4)] rfl rfl (fun sL hL => ?_) (.nil))
 refine st (p := pv3) (off := 2) (k := 3) (vs := [.slice a7 1 c4]) rfl rfl rfl (fun w => (tO110 w).2) rfl rfl rfl rfl ?_
 refine .nil ?_
 refine .jaN (M := [20, 0, 19]) (C' := []) (pre := []) [3, 5, 15, 16, 17] hL rfl rfl rfl rfl rfl (by kernel_rfl) ?_
 refine .last [(21, .pointer (some pv3)), (22, .pointer (some pv3)), (23, .pointer (some pv3)), (24, .pointer (some (pv3.add 2))), (25, .slice none 0 0), (26, .pointer (some (po.add 0))), (27, .slice a3 0 c), (28, .int .u32 0), (29, .pointer (some (po.add 1))), (30, .slice a4 2 c2), (31, .int .u32 3), (32, .pointer (some (po.add 2))), (33, .slice a5 0 c3), (34, .int .u32 0), (35, .pointer (some (po.add 3))), (36, iV 2), (37, .agg #[.int .u32 0, .int .u32 3, .int .u32 0, iV 2]), (38, .slice a6 1 1), (39, .slice a7 1 c4), (40, .pointer (some pv3)), (41, .pointer (some (pv3.add 2)))] rfl (by kernel_rfl) (.nil) rfl ?_
 refine .blkN (.seqN (.region (.V bi0 ?_)))
 refine .V mv0 ?_
 refine .nil ?_
 refine .more ?_
 refine .sub (s' := [(3, .pointer (some pv3)), (15, .slice at_3 1 ct3), (16, iV 1), (17, iV 1)]) sb ?_
 refine .sel0 [0, 3, 5, 6] (by decide) rfl ?_
 refine .KA [OwnSl 132 4 a7 1 c4 [.int .u32 0, .int .u32 3, .int .u32 0, iV 2], Box pv3 [.int .u32 0, .int .u32 3, .slice a7 1 c4], Box pv2 [iV 0, iV 0], Box pv [iV 0, iV 0]] ?_
 refine .seq (.region (.V bi0 ?_))
 refine .nil (.seqN (.seq ?_))
 refine .cond rfl (fun e => absurd (e.symm.trans rfl) (by decide)) (fun _ => ?_)
 refine .exit (.seqX (.seqX (.blkX (.seqN (.seq (.region (.V mv0 ?_)))))))
 refine .V ag0 ?_
 refine .nil (.seqN (.ret ?_))
 refine .res1 rfl (rvT rfl) (inl_back (v := .pointer (some pv3)) q11 rfl ?_)
 refine .V ag0 ?_
 refine .nil (.seqN (.seq (.region (.V mv0 ?_))))
 refine .V (mkI tC53 rfl) ?_
 refine .freezeL (k := 0) rfl (fun h1 le1 q33 q32 => ?_)
 have q34 : RSl h1 a7 ([(⟨0, 3, 0, 2⟩ : Masks)] : List Masks) := (RSl.of (xs := ([(⟨0, 3, 0, 2⟩ : Masks)] : List Masks)) q32)
 refine .freezeBx (k := 1) rfl (fun h2 le2 q35 => ?_)
 obtain ⟨q36, hF⟩ := hF
 obtain ⟨r8, q37⟩ : ∃ y_ : List Int × Bool, y_ = sp_all (⟨0, 3, ([(⟨0, 3, 0, 2⟩ : Masks)] : List Masks)⟩ : WordsT) := ⟨_, rfl⟩
 replace hF := hF r8 q37
 refine clO (α := Option Addr × Nat) (V := fun z => .tuple #[vSl z.1 r8.1 z.2, .bool r8.2]) (Ψ := fun z => True) (B := fun z => [OwnSl 60 1 z.1 r8.1.length z.2 (flL (α := W32) r8.1)]) Tryz.call48 rfl rfl (fun w S => (by rw [q37]; exact c_all S.sub (⟨0, 3, ([(⟨0, 3, 0, 2⟩ : Masks)] : List Masks)⟩ : WordsT) a7 c4 (q34.mono (le2)) (show ([(⟨0, 3, 0, 2⟩ : Masks)] : List Masks).length ≤ c4 from q33) pv3 (CellsAt.mono (FH.le_refl _) q35) q36)) rfl (fun z _ => ?_)
 obtain ⟨a8, c5⟩ := z
 obtain rfl : r8 = (([0, 3] : List Int), true) := q37.trans (by decide +kernel)
 refine .V mv0 ?_
 refine .V (ext rfl rfl) ?_
 refine .V (ext rfl rfl) ?_
 refine .V ag0 ?_
 refine .V ag0 ?_
 refine .nil (.seqN (.seq (.seq (.region (.V mv0 ?_)))))
 refine .V (nt rfl) ?_
 refine .nil (.seqN ?_)
 refine .cond rfl (fun e => absurd (e.symm.trans rfl) (by decide)) (fun _ => ?_)
 refine .skip (.seqN (.seq (.region (.V mv0 ?_))))
 obtain ⟨q38, hF⟩ := hF
 obtain ⟨r9, q39⟩ : ∃ y_ : List Int, y_ = sp_sortW ([0, 3] : List Int) := ⟨_, rfl⟩
 replace hF := hF r9 q39
 refine callX (k := 0) (v := .tuple #[]) (X' := OwnSl 60 1 a8 (([0, 3] : List Int).length) c5 (flL (α := W32) r9)) rfl Tryz.call49 rfl rfl (fun w g hx sg hd hs' => ?_) rfl ?_
 ·rw [q39]; exact c_sortW hs' ([0, 3] : List Int) a8 c5 hx sg hd q38
 obtain rfl : r9 = ([0, 3] : List Int) := q39.trans (sortW_two (by decide +kernel))
 refine .nil (.seqN (.seq (.region (.V mv0 ?_))))
 refine .V mv0 ?_
 refine .V (bld (cs := #[iV 0, iV 0]) (pv := []) tB27 rfl rfl) ?_
 refine .V ag0 ?_
 refine .V ag0 ?_
 refine st (p := pv2) (off := 0) (k := 3) (vs := [iV 0, iV 0]) rfl rfl rfl (fun w => (tA27 w).2) rfl rfl rfl rfl ?_
 refine .KA [OwnSl 60 1 a8 2 c5 [.int .u32 0, .int .u32 3], tru, tru, Box pv2 [iV 0, iV 0], Box pv [iV 0, iV 0]] ?_
 refine .nil (.seqN (.ret ?_))
 refine .res3 rfl (rvT rfl) (rvT rfl) (rvC rfl tA27 (k := 3) rfl rfl) (inl_back (v := .tuple #[.pointer (some pv3), .slice a8 2 c5, .agg #[iV 0, iV 0]]) q8 rfl ?_)
 refine .V mv0 ?_
 refine .V (ext rfl rfl) ?_
 refine .V (ext rfl rfl) ?_
 refine .V (ext rfl rfl) ?_
 refine al tZ27 rfl (fun pf2 => ?_)
 refine .V ag0 ?_
 refine .V ag0 ?_
 refine st (p := pf2) (off := 0) (k := 0) (vs := [iV 0, iV 0]) rfl rfl rfl (fun w => (tA27 w).2) rfl rfl rfl rfl ?_
 refine .nil (.seqN (.seq (.seq (.region (.V (ldA (cs := [iV 0, iV 0]) rfl tA27 rfl (cellsB (off := 0) (k := 0) rfl (m := 2) rfl)) ?_)))))
 refine .V (bld (cs := #[iV 0, iV 0]) (pv := []) tB27 rfl rfl) ?_
 refine .V (ne2 tE27 rfl rfl) ?_
 refine .nil (.seqN ?_)
 refine .cond rfl (fun e => absurd (e.symm.trans rfl) (by decide)) (fun _ => ?_)
 refine .skip (.seqN (.seq (.region (.V mv0 ?_))))
 refine .V mv0 ?_
 refine .inlM Tryz.func79 rfl Tryz.ntmps79 Tryz.call79 rfl rfl rfl rfl (fun a9 q40 => ?_)
 refine .mk0 ?_
 refine .KA [MkA [], Box pf2 [iV 0, iV 0], OwnSl 60 1 a8 2 c5 [.int .u32 0, .int .u32 3], tru, tru, Box pv2 [iV 0, iV 0], Box pv [iV 0, iV 0]] ?_
 refine .sel0 [0, 2, 6] (by decide) rfl ?_
 refine .KA [MkA [], OwnSl 60 1 a8 2 c5 [.int .u32 0, .int .u32 3], Box pv [iV 0, iV 0]] ?_
 refine .seq (.region (.V ag0 ?_))
 refine .nil (.seqN (.seq (.region ?_)))
 refine mmI .u32 (fun v : Value => v) rfl (fun bv => ?_)
 refine al tZ159 rfl (fun pback => ?_)
 refine st (p := pback) (off := 0) (k := 0) (vs := [.map (some bv)]) rfl rfl rfl (fun w => (tO159 w).2) rfl rfl rfl rfl ?_
 refine .nil (.seqN (.seq (.region ?_)))
 refine mmI .u32 (fun v : Value => v) rfl (fun bv2 => ?_)
 refine .V ag0 ?_
 refine .nil (.seqN (.seq (.region ?_)))
 refine .inl Tryz.func99 rfl Tryz.ntmps99 Tryz.call99 rfl rfl rfl rfl (fun a10 q41 => ?_)
 refine .KA [OwnMapI bv2 .u32 (fun v : Value => v) ([] : List (Int × Value)), Box pback [.map (some bv)], OwnMapI bv .u32 (fun v : Value => v) ([] : List (Int × Value)), MkA [], OwnSl 60 1 a8 2 c5 [.int .u32 0, .int .u32 3], Box pv [iV 0, iV 0]] ?_
 refine .seq (.region (.V ag0 ?_))
 refine .nil (.seqN (.seq (.region ?_)))
 refine mmI .u32 (fun v : Value => v) rfl (fun bv3 => ?_)
 refine .V (bld (cs := #[.slice none 0 0, .map (some bv3), iV 0]) (pv := [(1, .map (some bv3))]) tB195 rfl rfl) ?_
 refine bx (vs := [.slice none 0 0, .map (some bv3), iV 0]) rfl rfl rfl (fun pv4 => ?_)
 refine .V ag0 ?_
 refine .nil (.seqN (.ret ?_))
 refine .res1 rfl (rvT rfl) (inl_back (v := .pointer (some pv4)) q41 rfl ?_)
 refine .V ag0 ?_
 refine .nil (.seqN (.seq (.seq (.region (.V mv0 ?_)))))
 refine .V (ln rfl tS54.is) ?_
 refine .V mv0 ?_
 refine .nil (.seqN (.block ?_))
 refine .rounds 90 ?_
 refine .seq (.region (.V bi0 ?_))
 refine .nil (.seqN (.seq ?_))
 refine .cond rfl (fun _ => ?_) (fun e => absurd (e.symm.trans rfl) (by decide))
 refine .skip (.seqN (.seq (.block (.seq (.region (.V (ixS rfl rfl tS54 (k := 6) rfl (And.intro (by decide) (by decide))) ?_))))))
 refine .V (ld1 (v := .int .u32 0) rfl tO60 (cellS (k := 6) rfl rfl)) ?_
 refine al tZ60 rfl (fun ps => ?_)
 refine st (p := ps) (off := 0) (k := 0) (vs := [.int .u32 0]) rfl rfl rfl (fun w => (tO60 w).2) rfl rfl rfl rfl ?_
 refine .nil (.seqN (.seq (.region (.V mv0 ?_))))
 refine .V (ld1 rfl tO60 (cellB (off := 0) (k := 0) rfl rfl)) ?_
 refine muI (enc := fun v : Value => v) (iV 1000000000) tMR141 rfl rfl rfl (q := 3) rfl ?_
 refine .nil (.seqN (.seq (.seq (.region (.V mv0 ?_)))))
 refine .V (ld1 rfl tO60 (cellB (off := 0) (k := 0) rfl rfl)) ?_
 refine .inl Tryz.func24 rfl Tryz.ntmps24 Tryz.call24 rfl rfl rfl rfl (fun a11 q42 => ?_)
 refine .KA [Box ps [.int .u32 0], Box pv4 [.slice none 0 0, .map (some bv3), iV 0], OwnMapI bv3 .u32 (fun v : Value => v) ([] : List (Int × Value)), OwnMapI bv2 .u32 (fun v : Value => v) ([(0, iV 1000000000)] : List (Int × Value)), Box pback [.map (some bv)], OwnMapI bv .u32 (fun v : Value => v) ([] : List (Int × Value)), MkA [], OwnSl 60 1 a8 2 c5 [.int .u32 0, .int .u32 3], Box pv [iV 0, iV 0]] ?_
 refine .seq (.region (.V ag0 ?_))
 refine .nil (.seqN (.seq ?_))
 refine .openA (s0 := [(0, .pointer (some pv3)), (1, .int .u32 0)]) [0, 1, 2, 3, 4, 5, 6, 7, 8, 9, 10, 11] [(0, .int .u32 0), (1, .pointer (some pv3)), (2, .pointer (some pv3)), (3, .pointer (some (pv3.add 1))), (4, .int .u32 3), (5, .int .u32 0), (6, .pointer (some pv3)), (7, .pointer (some pv3)), (8, .pointer (some (pv3.add 1))), (9, .int .u32 3), (10, .bool false), (11, .bool false)] (by kernel_rfl) sb [0, 1] [] rfl (by kernel_rfl) ?_
 refine .last [(5, .int .u32 0), (6, .pointer (some pv3)), (7, .pointer (some pv3)), (8, .pointer (some (pv3.add 1))), (9, .int .u32 3), (10, .int .u32 0), (11, .pointer (some pv3)), (12, .pointer (some pv3)), (13, .pointer (some (pv3.add 1))), (14, .int .u32 3), (15, .bool false), (4, .bool false)] rfl (by kernel_rfl) (.v [] rfl rfl rfl rfl rfl rfl (fun _ => mv rfl) (.v [] rfl rfl rfl rfl rfl rfl (fun _ => mv rfl) (.v [(6, .pointer (some pv3))] rfl rfl rfl rfl rfl rfl (fun _ => nck rfl) (.v [(7, .pointer (some pv3))] rfl rfl rfl rfl rfl rfl (fun _ => fa rfl tF112_1) (.v [(8, .pointer (some (pv3.add 1)))] rfl rfl rfl rfl rfl rfl (fun _ => ld1 (v := .int .u32 3) rfl tO60 (cellH (CellsAt.mono (FH.le_refl _) q35 1 _ rfl))) (.v [(5, .int .u32 0), (9, .int .u32 3)] rfl rfl rfl rfl rfl rfl (fun _ => bi rfl rfl rfl) (.v [] rfl rfl rfl rfl rfl rfl (fun _ => mv rfl) (.v [(11, .pointer (some pv3))] rfl rfl rfl rfl rfl rfl (fun _ => nck rfl) (.v [(12, .pointer (some pv3))] rfl rfl rfl rfl rfl rfl (fun _ => fa rfl tF112_1) (.v [(13, .pointer (some (pv3.add 1)))] rfl rfl rfl rfl rfl rfl (fun _ => ld1 (v := .int .u32 3) rfl tO60 (cellH (CellsAt.mono (FH.le_refl _) q35 1 _ rfl))) (.v [(10, .int .u32 0), (14, .int .u32 3)] rfl rfl rfl rfl rfl rfl (fun _ => bi rfl rfl rfl) (.v [(15, .bool false), (5, .int .u32 0), (6, .pointer (some pv3)), (7, .pointer (some pv3)), (8, .pointer (some (pv3.add 1))), (9, .int .u32 3), (10, .int .u32 0), (11, .pointer (some pv3)), (12, .pointer (some pv3)), (13, .pointer (some (pv3.add 1))), (14, .int .u32 3), (15, .bool false)] rfl rfl rfl rfl rfl rfl (fun _ => asg rfl) (.nil))))))))))))) rfl ?_
 refine .seqN (.ret ?_)
 refine .res1 rfl (rvT rfl) (inl_back (v := .bool false) q42 rfl ?_)
 refine .nil (.seqN ?_)
 refine .cond rfl (fun e => absurd (e.symm.trans rfl) (by decide)) (fun _ => ?_)
 refine .skip (.seqN (.seq (.region (.V mv0 ?_))))
 refine .V (ld1 rfl tO60 (cellB (off := 0) (k := 0) rfl rfl)) ?_
 refine .inl Tryz.func101 rfl Tryz.ntmps101 Tryz.call101 rfl rfl rfl rfl (fun a12 q43 => ?_)
 refine .KA [Box ps [.int .u32 0], Box pv4 [.slice none 0 0, .map (some bv3), iV 0], OwnMapI bv3 .u32 (fun v : Value => v) ([] : List (Int × Value)), OwnMapI bv2 .u32 (fun v : Value => v) ([(0, iV 1000000000)] : List (Int × Value)), Box pback [.map (some bv)], OwnMapI bv .u32 (fun v : Value => v) ([] : List (Int × Value)), MkA [], OwnSl 60 1 a8 2 c5 [.int .u32 0, .int .u32 3], Box pv [iV 0, iV 0]] ?_
 refine .seq (.region ?_)
 refine bx (vs := [.pointer (some pv3)]) rfl rfl rfl (fun pw => ?_)
 refine bx (vs := [.int .u32 0]) rfl rfl rfl (fun ps2 => ?_)
 refine .V ag0 ?_
 refine .nil (.seqN (.seq (.region (.V (mkf (vf := []) (vc := [.pointer (some pw), .pointer (some ps2)]) rfl rfl) ?_))))
 refine .V ag0 ?_
 refine .nil (.seqN (.ret ?_))
 refine .res1 rfl (rvT rfl) (inl_back (v := .func (.func 132) #[] #[.pointer (some pw), .pointer (some ps2)]) q43 rfl ?_)
 refine .nil (.seqN (.block ?_))
 refine .sub (s' := [(0, .pointer (some pv3)), (5, .pointer (some pback)), (6, .map (some bv2)), (7, .pointer (some pv4)), (9, .pointer (some ps)), (19, .slice a8 2 c5), (20, iV 2), (21, iV 0), (37, .func (.func 132) #[] #[.pointer (some pw), .pointer (some ps2)])]) sb ?_
 refine .rangeF (k := 8) (caps := [.pointer (some pw), .pointer (some ps2)]) rfl rfl Tryz.func132 rfl Tryz.ntmps132 rfl Tryz.call132 (fun l D LA a13 q44 q45 => ?_)
 refine .KA [LA .ready none, Box ps2 [.int .u32 0], Box pw [.pointer (some pv3)], Box ps [.int .u32 0], Box pv4 [.slice none 0 0, .map (some bv3), iV 0], OwnMapI bv3 .u32 (fun v : Value => v) ([] : List (Int × Value)), OwnMapI bv2 .u32 (fun v : Value => v) ([(0, iV 1000000000)] : List (Int × Value)), Box pback [.map (some bv)], OwnMapI bv .u32 (fun v : Value => v) ([] : List (Int × Value)), MkA (D :: []), OwnSl 60 1 a8 2 c5 [.int .u32 0, .int .u32 3], Box pv [iV 0, iV 0]] ?_
 refine .seq (.region (.V (ld1 rfl tO53 (cellB (off := 0) (k := 2) rfl rfl)) ?_))
 refine .V (nck rfl) ?_
 refine .V (fa rfl tF112_2) ?_
 refine .V (ld1 (v := .slice a7 1 c4) rfl tO110 (cellH (CellsAt.mono (FH.le_refl _) q35 2 _ rfl))) ?_
 refine .V (ln rfl tS110.is) ?_
 refine .V mv0 ?_
 refine .nil (.seqN (.block ?_))
 refine .rounds 90 ?_
 refine .seq (.region (.V bi0 ?_))
 refine .nil (.seqN (.seq ?_))
 refine .cond rfl (fun _ => ?_) (fun e => absurd (e.symm.trans rfl) (by decide))
 refine .skip (.seqN (.seq (.block (.seq (.region (.V mv0 ?_))))))
 refine .V (ix rfl rfl tS110 (q34.ne (by decide) (inb_pos (show inb ([(⟨0, 3, 0, 2⟩ : Masks)] : List Masks) (0 : Int) from And.intro (by decide) (by decide)))) (show inb ([(⟨0, 3, 0, 2⟩ : Masks)] : List Masks) (0 : Int) from And.intro (by decide) (by decide))) ?_
 refine .V (ldA (cs := [.int .u32 0, .int .u32 3, .int .u32 0, iV 2]) rfl tA132 rfl (cellsH ((q34.mono (le2)).elemF (show inb ([(⟨0, 3, 0, 2⟩ : Masks)] : List Masks) (0 : Int) from And.intro (by decide) (by decide)) (by decide)))) ?_
 refine al tZ132 rfl (fun pback2 => ?_)
 refine .V ag0 ?_
 refine st (p := pback2) (off := 0) (k := 0) (vs := [.int .u32 0, .int .u32 3, .int .u32 0, iV 2]) rfl rfl rfl (fun w => (tA132 w).2) rfl rfl rfl rfl ?_
 refine .nil (.seqN (.seq (.region (.V (ld1 rfl tO60 (cellB (off := 0) (k := 2) rfl rfl)) ?_))))
 refine .V (fa rfl tF132_0) ?_
 refine .V (ld1 rfl tO60 (cellB (off := 0) (k := 0) rfl rfl)) ?_
 refine .V bi0 ?_
 refine .V (fa rfl tF132_0) ?_
 refine .V (ld1 rfl tO60 (cellB (off := 0) (k := 0) rfl rfl)) ?_
 refine .V bi0 ?_
 refine .V mv0 ?_
 refine .gv mv0 rfl rfl rfl rfl rfl rfl ?_
 refine .gv mv0 rfl rfl rfl rfl rfl rfl ?_
 refine .gv (fa rfl tF132_3) rfl rfl rfl rfl rfl rfl ?_
 refine .gv (ld1 rfl tO3 (cellB (off := 3) (k := 0) rfl rfl)) rfl rfl rfl rfl rfl rfl ?_
 refine .gv (ld1 rfl tO60 (cellB (off := 0) (k := 2) rfl rfl)) rfl rfl rfl rfl rfl rfl ?_
 refine .gv (fa rfl tF132_2) rfl rfl rfl rfl rfl rfl ?_
 refine .gv (ld1 rfl tO60 (cellB (off := 2) (k := 0) rfl rfl)) rfl rfl rfl rfl rfl rfl ?_
 refine .gv bi0 rfl rfl rfl rfl rfl rfl ?_
 refine .gv (fa rfl tF132_1) rfl rfl rfl rfl rfl rfl ?_
 refine .gv (ld1 rfl tO60 (cellB (off := 1) (k := 0) rfl rfl)) rfl rfl rfl rfl rfl rfl ?_
 refine .gv bi0 rfl rfl rfl rfl rfl rfl ?_
 refine .gv (bld (cs := #[iV 0, iV 2, .int .u32 3]) (pv := [(0, iV 0), (1, iV 2), (2, .int .u32 3)]) tB108 rfl rfl) rfl rfl rfl rfl rfl rfl ?_
 refine .gR rfl rfl rfl rfl ?_
 refine .yld (k := 1) (vs := [.agg #[iV 0, iV 2, .int .u32 3]]) q44 rfl rfl rfl rfl rfl (fun aG q46 => ?_)
 refine .sub (s' := [(5, .pointer (some pback)), (9, .pointer (some ps)), (38, .agg #[iV 0, iV 2, .int .u32 3])]) sb ?_
 refine .region ?_
 refine al tZ108 rfl (fun pe => ?_)
 refine st (p := pe) (off := 0) (k := 0) (vs := [iV 0, iV 2, .int .u32 3]) rfl rfl rfl (fun w => (tA108 w).2) rfl rfl rfl rfl ?_
 refine .nil ?_
 refine .begin_ (k := 2) q44 rfl ?_
 refine .block ?_
 refine .openA (s0 := [(5, .pointer (some pback)), (9, .pointer (some ps)), (10, .pointer (some pe))]) [0, 1, 2, 3, 4, 5, 6, 7, 8, 9, 10] [(0, .map (some bv)), (1, .pointer (some (pe.add 2))), (2, .int .u32 3), (3, .map (some bv)), (4, .pointer (some (pe.add 2))), (5, .int .u32 3), (6, .slice none 0 0), (7, .int .u32 0), (8, .pointer (some (pe.add 1))), (9, iV 2), (10, .agg #[.int .u32 0, iV 2])] (by kernel_rfl) sb [5, 9, 10] [] rfl (by kernel_rfl) ?_
 refine .step [11] 11 rfl (by kernel_rfl) (by kernel_rfl) (.v [] rfl rfl rfl rfl rfl rfl (fun _ => ld1 rfl tO159 (cellB (off := 0) (k := 9) rfl rfl)) (.v [] rfl rfl rfl rfl rfl rfl (fun _ => fa rfl tF108_2) (.v [(40, .pointer (some (pe.add 2)))] rfl rfl rfl rfl rfl rfl (fun _ => ld1 rfl tO60 (cellB (off := 2) (k := 0) rfl rfl)) (.v [] rfl rfl rfl rfl rfl rfl (fun _ => ld1 rfl tO159 (cellB (off := 0) (k := 9) rfl rfl)) (.v [] rfl rfl rfl rfl rfl rfl (fun _ => fa rfl tF108_2) (.v [(43, .pointer (some (pe.add 2)))] rfl rfl rfl rfl rfl rfl (fun _ => ld1 rfl tO60 (cellB (off := 2) (k := 0) rfl rfl)) (.v [(42, .map (some bv)), (44, .int .u32 3)] rfl rfl rfl rfl rfl rfl (fun _ => lkI (enc := fun v : Value => v) (m := ([] : List (Int × Value))) (k := 3) (.slice none 0 0) tMR159 rfl rfl (q := 10) rfl) (.v [] rfl rfl rfl rfl rfl rfl (fun _ => ld1 rfl tO60 (cellB (off := 0) (k := 5) rfl rfl)) (.v [] rfl rfl rfl rfl rfl rfl (fun _ => fa rfl tF108_1) (.v [(47, .pointer (some (pe.add 1)))] rfl rfl rfl rfl rfl rfl (fun _ => ld1 rfl tO3 (cellB (off := 1) (k := 0) rfl rfl)) (.v [(46, .int .u32 0), (48, iV 2)] rfl rfl rfl rfl rfl rfl (fun _ => bld (cs := #[.int .u32 0, iV 2]) (pv := [(0, .int .u32 0), (1, iV 2)]) tB165 rfl rfl) (.nil)))))))))))) (.cons [(49, .agg #[.int .u32 0, iV 2])] rfl rfl (fun sL hL => ?_) (.nil))
 refine bs2 (cs := #[.int .u32 0, iV 2]) (pv := [(0, .agg #[.int .u32 0, iV 2])]) tS163 rfl rfl (by decide) (by decide) rfl rfl rfl (fun a14 q47 => ?_)
 refine .nil ?_
 refine .ja (M := [10, 7, 9, 8]) (C' := [0, 1, 2, 3, 4, 5, 6]) (pre := [(11, .slice a14 1 1)]) [(5, .pointer (some pback)), (9, .pointer (some ps)), (10, .pointer (some pe))] [5, 9, 10] hL rfl rfl rfl rfl rfl sb rfl rfl (by kernel_rfl) ?_
 refine .step [12] 12 rfl (by kernel_rfl) (by kernel_rfl) (.v [] rfl rfl rfl rfl rfl rfl (fun _ => ld1 rfl tO159 (cellB (off := 0) (k := 10) rfl rfl)) (.v [] rfl rfl rfl rfl rfl rfl (fun _ => fa rfl tF108_2) (.v [(40, .pointer (some (pe.add 2)))] rfl rfl rfl rfl rfl rfl (fun _ => ld1 rfl tO60 (cellB (off := 2) (k := 1) rfl rfl)) (.v [] rfl rfl rfl rfl rfl rfl (fun _ => ld1 rfl tO159 (cellB (off := 0) (k := 10) rfl rfl)) (.v [] rfl rfl rfl rfl rfl rfl (fun _ => fa rfl tF108_2) (.v [(43, .pointer (some (pe.add 2)))] rfl rfl rfl rfl rfl rfl (fun _ => ld1 rfl tO60 (cellB (off := 2) (k := 1) rfl rfl)) (.v [(42, .map (some bv)), (44, .int .u32 3)] rfl rfl rfl rfl rfl rfl (fun _ => lkI (enc := fun v : Value => v) (m := ([] : List (Int × Value))) (k := 3) (.slice none 0 0) tMR159 rfl rfl (q := 11) rfl) (.nil)))))))) (.cons [(45, .slice none 0 0), (50, .slice a14 1 1)] rfl rfl (fun sL hL => ?_) (.nil))
 refine .nilSl 165 2 ?_
 refine app (k := 0) (news := [.int .u32 0, iV 2]) (cs' := [.int .u32 0, iV 2]) (nm := 1) tS163 rfl (by decide) rfl rfl rfl rfl (srcS (k := 1) rfl) (oneAll rfl) (by decide) (by decide) rfl rfl rfl (fun a15 c6 => ?_)
 refine .nil ?_
 refine .ja (M := [6, 3, 5, 4]) (C' := [0, 1, 2]) (pre := [(12, .slice a15 1 c6)]) [(5, .pointer (some pback)), (9, .pointer (some ps)), (10, .pointer (some pe))] [5, 9, 10] hL rfl rfl rfl rfl rfl sb rfl rfl (by kernel_rfl) ?_
 refine .step [13] 13 rfl (by kernel_rfl) (by kernel_rfl) (.v [] rfl rfl rfl rfl rfl rfl (fun _ => ld1 rfl tO159 (cellB (off := 0) (k := 11) rfl rfl)) (.v [] rfl rfl rfl rfl rfl rfl (fun _ => fa rfl tF108_2) (.v [(40, .pointer (some (pe.add 2)))] rfl rfl rfl rfl rfl rfl (fun _ => ld1 rfl tO60 (cellB (off := 2) (k := 2) rfl rfl)) (.nil)))) (.cons [(39, .map (some bv)), (41, .int .u32 3), (51, .slice a15 1 c6), (51, .slice a15 1 c6), (39, .map (some bv)), (40, .pointer (some (pe.add 2))), (41, .int .u32 3), (42, .map (some bv)), (43, .pointer (some (pe.add 2))), (44, .int .u32 3), (45, .slice none 0 0), (46, .int .u32 0), (47, .pointer (some (pe.add 1))), (48, iV 2), (49, .agg #[.int .u32 0, iV 2]), (50, .slice a14 1 1), (51, .slice a15 1 c6)] rfl rfl (fun sL hL => ?_) (.nil))
 refine muI (enc := fun v : Value => v) (.slice a15 1 c6) tMR159 rfl rfl rfl (q := 12) rfl ?_
 refine .KA [OwnSl 165 2 a15 1 c6 [.int .u32 0, iV 2], OwnSl 165 2 a14 1 1 [.int .u32 0, iV 2], Box pe [iV 0, iV 2, .int .u32 3], Box pback2 [.int .u32 0, .int .u32 3, .int .u32 0, iV 2], LA .busy none, Box ps2 [.int .u32 0], Box pw [.pointer (some pv3)], Box ps [.int .u32 0], Box pv4 [.slice none 0 0, .map (some bv3), iV 0], OwnMapI bv3 .u32 (fun v : Value => v) ([] : List (Int × Value)), OwnMapI bv2 .u32 (fun v : Value => v) ([(0, iV 1000000000)] : List (Int × Value)), Box pback [.map (some bv)], OwnMapI bv .u32 (fun v : Value => v) ([(3, .slice a15 1 c6)] : List (Int × Value)), MkA (D :: []), OwnSl 60 1 a8 2 c5 [.int .u32 0, .int .u32 3], Box pv [iV 0, iV 0]] ?_
 refine .nil ?_
 refine .jaN (M := [0, 2, 1]) (C' := []) (pre := []) [5, 9, 10] hL rfl rfl rfl rfl rfl (by kernel_rfl) ?_
 refine .last [(39, .map (some bv)), (40, .pointer (some (pe.add 2))), (41, .int .u32 3), (42, .map (some bv)), (43, .pointer (some (pe.add 2))), (44, .int .u32 3), (45, .slice none 0 0), (46, .int .u32 0), (47, .pointer (some (pe.add 1))), (48, iV 2), (49, .agg #[.int .u32 0, iV 2]), (50, .slice a14 1 1), (51, .slice a15 1 c6)] rfl (by kernel_rfl) (.nil) rfl ?_
 refine .blkN ?_
 refine .rdN (k := 4) q44 rfl q46 rfl ?_
 refine .gv (nt rfl) rfl rfl rfl rfl rfl rfl ?_
 refine .V (pkT rfl rfl rfl) ?_
 refine .nil (.seqN ?_)
 refine .cond rfl (fun e => absurd (e.symm.trans rfl) (by decide)) (fun _ => ?_)
 refine .skip (.blkN (.seqN (.region (.V bi0 ?_))))
 refine .V mv0 ?_
 refine .nil ?_
 refine .more ?_
 refine .sub (s' := [(0, .func (.yield l) #[] #[]), (2, .pointer (some ps2)), (9, .slice a7 1 c4), (10, iV 1), (11, iV 1)]) sb ?_
 refine .sel0 [0, 4, 5, 6, 7, 8, 9, 10, 11, 12, 13, 14, 15] (by decide) rfl ?_
 refine .KA [OwnSl 165 2 a15 1 c6 [.int .u32 0, iV 2], LA .ready none, Box ps2 [.int .u32 0], Box pw [.pointer (some pv3)], Box ps [.int .u32 0], Box pv4 [.slice none 0 0, .map (some bv3), iV 0], OwnMapI bv3 .u32 (fun v : Value => v) ([] : List (Int × Value)), OwnMapI bv2 .u32 (fun v : Value => v) ([(0, iV 1000000000)] : List (Int × Value)), Box pback [.map (some bv)], OwnMapI bv .u32 (fun v : Value => v) ([(3, .slice a15 1 c6)] : List (Int × Value)), MkA (D :: []), OwnSl 60 1 a8 2 c5 [.int .u32 0, .int .u32 3], Box pv [iV 0, iV 0]] ?_
 refine .seq (.region (.V bi0 ?_))
 refine .nil (.seqN (.seq ?_))
 refine .cond rfl (fun e => absurd (e.symm.trans rfl) (by decide)) (fun _ => ?_)
 refine .exit (.seqX (.seqX (.blkX ?_)))
 refine .res0 (.inr rfl) rfl (range_done (k := 1) q44 rfl q45 ?_)
 refine .KA [OwnSl 165 2 a15 1 c6 [.int .u32 0, iV 2], tru, Box ps2 [.int .u32 0], Box pw [.pointer (some pv3)], Box ps [.int .u32 0], Box pv4 [.slice none 0 0, .map (some bv3), iV 0], OwnMapI bv3 .u32 (fun v : Value => v) ([] : List (Int × Value)), OwnMapI bv2 .u32 (fun v : Value => v) ([(0, iV 1000000000)] : List (Int × Value)), Box pback [.map (some bv)], OwnMapI bv .u32 (fun v : Value => v) ([(3, .slice a15 1 c6)] : List (Int × Value)), MkA (D :: []), OwnSl 60 1 a8 2 c5 [.int .u32 0, .int .u32 3], Box pv [iV 0, iV 0]] ?_
 refine .blkN (.blkN (.seqN (.region (.V bi0 ?_))))
 refine .V mv0 ?_
 refine .nil ?_
 refine .more ?_
 refine .sub (s' := [(0, .pointer (some pv3)), (5, .pointer (some pback)), (6, .map (some bv2)), (7, .pointer (some pv4)), (19, .slice a8 2 c5), (20, iV 2), (21, iV 1)]) sb ?_
 refine .sel0 [0, 5, 6, 7, 8, 9, 10, 11, 12] (by decide) rfl ?_
 refine .KA [OwnSl 165 2 a15 1 c6 [.int .u32 0, iV 2], Box pv4 [.slice none 0 0, .map (some bv3), iV 0], OwnMapI bv3 .u32 (fun v : Value => v) ([] : List (Int × Value)), OwnMapI bv2 .u32 (fun v : Value => v) ([(0, iV 1000000000)] : List (Int × Value)), Box pback [.map (some bv)], OwnMapI bv .u32 (fun v : Value => v) ([(3, .slice a15 1 c6)] : List (Int × Value)), MkA (D :: []), OwnSl 60 1 a8 2 c5 [.int .u32 0, .int .u32 3], Box pv [iV 0, iV 0]] ?_
 refine .seq (.region (.V bi0 ?_))
 refine .nil (.seqN (.seq ?_))
 refine .cond rfl (fun _ => ?_) (fun e => absurd (e.symm.trans rfl) (by decide))
 refine .skip (.seqN (.seq (.block (.seq (.region (.V (ixS rfl rfl tS54 (k := 7) rfl (And.intro (by decide) (by decide))) ?_))))))
 refine .V (ld1 (v := .int .u32 3) rfl tO60 (cellS (k := 7) rfl rfl)) ?_
 refine al tZ60 rfl (fun ps3 => ?_)
 refine st (p := ps3) (off := 0) (k := 0) (vs := [.int .u32 3]) rfl rfl rfl (fun w => (tO60 w).2) rfl rfl rfl rfl ?_
 refine .nil (.seqN (.seq (.region (.V mv0 ?_))))
 refine .V (ld1 rfl tO60 (cellB (off := 0) (k := 0) rfl rfl)) ?_
 refine muI (enc := fun v : Value => v) (iV 1000000000) tMR141 rfl rfl rfl (q := 4) rfl ?_
 refine .nil (.seqN (.seq (.seq (.region (.V mv0 ?_)))))
 refine .V (ld1 rfl tO60 (cellB (off := 0) (k := 0) rfl rfl)) ?_
 refine .inl Tryz.func24 rfl Tryz.ntmps24 Tryz.call24 rfl rfl rfl rfl (fun a16 q48 => ?_)
 refine .KA [Box ps3 [.int .u32 3], OwnSl 165 2 a15 1 c6 [.int .u32 0, iV 2], Box pv4 [.slice none 0 0, .map (some bv3), iV 0], OwnMapI bv3 .u32 (fun v : Value => v) ([] : List (Int × Value)), OwnMapI bv2 .u32 (fun v : Value => v) ([(0, iV 1000000000), (3, iV 1000000000)] : List (Int × Value)), Box pback [.map (some bv)], OwnMapI bv .u32 (fun v : Value => v) ([(3, .slice a15 1 c6)] : List (Int × Value)), MkA (D :: []), OwnSl 60 1 a8 2 c5 [.int .u32 0, .int .u32 3], Box pv [iV 0, iV 0]] ?_
 refine .seq (.region (.V ag0 ?_))
 refine .nil (.seqN (.seq ?_))
 refine .openA (s0 := [(0, .pointer (some pv3)), (1, .int .u32 3)]) [0, 1, 2, 3, 4, 5, 6, 7, 8, 9, 10, 11] [(0, .int .u32 3), (1, .pointer (some pv3)), (2, .pointer (some pv3)), (3, .pointer (some (pv3.add 1))), (4, .int .u32 3), (5, .int .u32 3), (6, .pointer (some pv3)), (7, .pointer (some pv3)), (8, .pointer (some (pv3.add 1))), (9, .int .u32 3), (10, .bool true), (11, .bool true)] (by kernel_rfl) sb [0, 1] [] rfl (by kernel_rfl) ?_
 refine .last [(5, .int .u32 3), (6, .pointer (some pv3)), (7, .pointer (some pv3)), (8, .pointer (some (pv3.add 1))), (9, .int .u32 3), (10, .int .u32 3), (11, .pointer (some pv3)), (12, .pointer (some pv3)), (13, .pointer (some (pv3.add 1))), (14, .int .u32 3), (15, .bool true), (4, .bool true)] rfl (by kernel_rfl) (.v [] rfl rfl rfl rfl rfl rfl (fun _ => mv rfl) (.v [] rfl rfl rfl rfl rfl rfl (fun _ => mv rfl) (.v [(6, .pointer (some pv3))] rfl rfl rfl rfl rfl rfl (fun _ => nck rfl) (.v [(7, .pointer (some pv3))] rfl rfl rfl rfl rfl rfl (fun _ => fa rfl tF112_1) (.v [(8, .pointer (some (pv3.add 1)))] rfl rfl rfl rfl rfl rfl (fun _ => ld1 (v := .int .u32 3) rfl tO60 (cellH (CellsAt.mono (FH.le_refl _) q35 1 _ rfl))) (.v [(5, .int .u32 3), (9, .int .u32 3)] rfl rfl rfl rfl rfl rfl (fun _ => bi rfl rfl rfl) (.v [] rfl rfl rfl rfl rfl rfl (fun _ => mv rfl) (.v [(11, .pointer (some pv3))] rfl rfl rfl rfl rfl rfl (fun _ => nck rfl) (.v [(12, .pointer (some pv3))] rfl rfl rfl rfl rfl rfl (fun _ => fa rfl tF112_1) (.v [(13, .pointer (some (pv3.add 1)))] rfl rfl rfl rfl rfl rfl (fun _ => ld1 (v := .int .u32 3) rfl tO60 (cellH (CellsAt.mono (FH.le_refl _) q35 1 _ rfl))) (.v [(10, .int .u32 3), (14, .int .u32 3)] rfl rfl rfl rfl rfl rfl (fun _ => bi rfl rfl rfl) (.v [(15, .bool true), (5, .int .u32 3), (6, .pointer (some pv3)), (7, .pointer (some pv3)), (8, .pointer (some (pv3.add 1))), (9, .int .u32 3), (10, .int .u32 3), (11, .pointer (some pv3)), (12, .pointer (some pv3)), (13, .pointer (some (pv3.add 1))), (14, .int .u32 3), (15, .bool true)] rfl rfl rfl rfl rfl rfl (fun _ => asg rfl) (.nil))))))))))))) rfl ?_
 refine .seqN (.ret ?_)
 refine .res1 rfl (rvT rfl) (inl_back (v := .bool true) q48 rfl ?_)
 refine .nil (.seqN ?_)
 refine .cond rfl (fun _ => ?_) (fun e => absurd (e.symm.trans rfl) (by decide))
 refine .seq (.region (.V mv0 ?_))
 refine .V (ld1 rfl tO60 (cellB (off := 0) (k := 0) rfl rfl)) ?_
 refine muI (enc := fun v : Value => v) (iV 0) tMR141 rfl rfl rfl (q := 4) rfl ?_
 refine .nil (.seqN (.region (.V mv0 ?_)))
 refine .V (ld1 rfl tO60 (cellB (off := 0) (k := 0) rfl rfl)) ?_
 refine .inl Tryz.func100 rfl Tryz.ntmps100 Tryz.call100 rfl rfl rfl rfl (fun a17 q49 => ?_)
 refine .KA [Box ps3 [.int .u32 3], OwnSl 165 2 a15 1 c6 [.int .u32 0, iV 2], Box pv4 [.slice none 0 0, .map (some bv3), iV 0], OwnMapI bv3 .u32 (fun v : Value => v) ([] : List (Int × Value)), OwnMapI bv2 .u32 (fun v : Value => v) ([(0, iV 1000000000), (3, iV 0)] : List (Int × Value)), Box pback [.map (some bv)], OwnMapI bv .u32 (fun v : Value => v) ([(3, .slice a15 1 c6)] : List (Int × Value)), MkA (D :: []), OwnSl 60 1 a8 2 c5 [.int .u32 0, .int .u32 3], Box pv [iV 0, iV 0]] ?_
 refine .seq (.region (.V mv0 ?_))
 refine .V (nck rfl) ?_
 refine .V (fa rfl tF195_2) ?_
 refine .V (ld1 rfl tO3 (cellB (off := 2) (k := 2) rfl rfl)) ?_
 refine .V bi0 ?_
 refine .V (nck rfl) ?_
 refine .V (fa rfl tF195_2) ?_
 refine st (p := pv4) (off := 2) (k := 2) (vs := [iV 1]) rfl rfl rfl (fun w => (tO3 w).2) rfl rfl rfl rfl ?_
 refine .nil (.seqN (.seq (.seq (.region (.V mv0 ?_)))))
 refine .V (nck rfl) ?_
 refine .V (fa rfl tF195_1) ?_
 refine .V (ld1 rfl tO191 (cellB (off := 1) (k := 2) rfl rfl)) ?_
 refine .V mv0 ?_
 refine .V (lkI2 (enc := fun v : Value => v) (m := ([] : List (Int × Value))) (k := 3) (.pointer none) tMR191 rfl rfl (q := 3) rfl) ?_
 refine .V mv0 ?_
 refine .V (ext rfl rfl) ?_
 refine .V (ext rfl rfl) ?_
 refine .V ag0 ?_
 refine .V ag0 ?_
 refine .nil (.seqN (.seq (.region (.V mv0 ?_))))
 refine .nil (.seqN ?_)
 refine .cond rfl (fun e => absurd (e.symm.trans rfl) (by decide)) (fun _ => ?_)
 refine .skip (.seqN (.seq (.region (.V mv0 ?_))))
 refine .V mv0 ?_
 refine .V mv0 ?_
 refine .V (nck rfl) ?_
 refine .V (fa rfl tF195_2) ?_
 refine .V (ld1 rfl tO3 (cellB (off := 2) (k := 2) rfl rfl)) ?_
 refine .V (bld (cs := #[.int .u32 3, iV 0, iV 1, iV 0]) (pv := [(0, .int .u32 3), (1, iV 0), (2, iV 1)]) tB199 rfl rfl) ?_
 refine bx (vs := [.int .u32 3, iV 0, iV 1, iV 0]) rfl rfl rfl (fun pv5 => ?_)
 refine .V ag0 ?_
 refine .nil (.seqN (.seq (.region (.V mv0 ?_))))
 refine .V (nck rfl) ?_
 refine .V (fa rfl tF195_1) ?_
 refine .V (ld1 rfl tO191 (cellB (off := 1) (k := 3) rfl rfl)) ?_
 refine .V mv0 ?_
 refine .V mv0 ?_
 refine muI (enc := fun v : Value => v) (.pointer (some pv5)) tMR191 rfl rfl rfl (q := 4) rfl ?_
 refine .nil (.seqN (.region (.V mv0 ?_)))
 refine .V (nck rfl) ?_
 refine .V (fa rfl tF195_0) ?_
 refine .V (mkI tC201 rfl) ?_
 refine .V mv0 ?_
 refine .V (mkI tC196 rfl) ?_
 refine .inl Tryz.func131 rfl Tryz.ntmps131 Tryz.call131 rfl rfl rfl rfl (fun a18 q50 => ?_)
 refine .KA [Box pv5 [.int .u32 3, iV 0, iV 1, iV 0], Box ps3 [.int .u32 3], OwnSl 165 2 a15 1 c6 [.int .u32 0, iV 2], Box pv4 [.slice none 0 0, .map (some bv3), iV 1], OwnMapI bv3 .u32 (fun v : Value => v) ([(3, .pointer (some pv5))] : List (Int × Value)), OwnMapI bv2 .u32 (fun v : Value => v) ([(0, iV 1000000000), (3, iV 0)] : List (Int × Value)), Box pback [.map (some bv)], OwnMapI bv .u32 (fun v : Value => v) ([(3, .slice a15 1 c6)] : List (Int × Value)), MkA (D :: []), OwnSl 60 1 a8 2 c5 [.int .u32 0, .int .u32 3], Box pv [iV 0, iV 0]] ?_
 refine .seq (.region (.V mv0 ?_))
 refine .V mv0 ?_
 refine .inlI Tryz.func171 rfl Tryz.ntmps171 Tryz.call171 tm201_Push rfl rfl rfl (fun a19 q51 => ?_)
 refine .KA [Box pv5 [.int .u32 3, iV 0, iV 1, iV 0], Box ps3 [.int .u32 3], OwnSl 165 2 a15 1 c6 [.int .u32 0, iV 2], Box pv4 [.slice none 0 0, .map (some bv3), iV 1], OwnMapI bv3 .u32 (fun v : Value => v) ([(3, .pointer (some pv5))] : List (Int × Value)), OwnMapI bv2 .u32 (fun v : Value => v) ([(0, iV 1000000000), (3, iV 0)] : List (Int × Value)), Box pback [.map (some bv)], OwnMapI bv .u32 (fun v : Value => v) ([(3, .slice a15 1 c6)] : List (Int × Value)), MkA (D :: []), OwnSl 60 1 a8 2 c5 [.int .u32 0, .int .u32 3], Box pv [iV 0, iV 0]] ?_
 refine .seq (.region (.V mv0 ?_))
 refine .V (tas tC196 rfl) ?_
 refine .V ag0 ?_
 refine .nil (.seqN (.seq (.region (.V mv0 ?_))))
 refine .V mv0 ?_
 refine .V (nck rfl) ?_
 refine .V (ld1 rfl tO193 (cellB (off := 0) (k := 3) rfl rfl)) ?_
 refine .V (ln rfl tS193.is) ?_
 refine .V (nck rfl) ?_
 refine .V (fa rfl tF199_3) ?_
 refine st (p := pv5) (off := 3) (k := 0) (vs := [iV 0]) rfl rfl rfl (fun w => (tO3 w).2) rfl rfl rfl rfl ?_
 refine .nil (.seqN (.region (.V mv0 ?_)))
 refine .V mv0 ?_
 refine .V (nck rfl) ?_
 refine .V (ld1 rfl tO193 (cellB (off := 0) (k := 3) rfl rfl)) ?_
 refine .V mv0 ?_
 refine bs2 (cs := #[.pointer (some pv5)]) (pv := [(0, .pointer (some pv5))]) tS193 rfl rfl (by decide) (by decide) rfl rfl rfl (fun a20 q52 => ?_)
 refine .nilSl 196 1 ?_
 refine app (k := 0) (news := [.pointer (some pv5)]) (cs' := [.pointer (some pv5)]) (nm := 1) tS193 rfl (by decide) rfl rfl rfl rfl (srcS (k := 1) rfl) (oneAll rfl) (by decide) (by decide) rfl rfl rfl (fun a21 c7 => ?_)
 refine .V (nck rfl) ?_
 refine st (p := pv4) (off := 0) (k := 5) (vs := [.slice a21 1 c7]) rfl rfl rfl (fun w => (tO193 w).2) rfl rfl rfl rfl ?_
 refine .nil ?_
 refine .res0 (.inr rfl) rfl (inl_back (v := .tuple #[]) q51 rfl ?_)
 refine .nil (.seqN (.region (.V mv0 ?_)))
 refine .V mv0 ?_
 refine .inlV Tryz.func167 rfl Tryz.ntmps167 Tryz.call167 tm201_Len rfl (cellB (off := 0) (k := 5) rfl rfl) rfl rfl (fun a22 q53 => ?_)
 refine .sel0 [0, 2, 3, 4, 5, 6, 7, 8, 9, 10, 11, 12] (by decide) rfl ?_
 refine .KA [OwnSl 196 1 a21 1 c7 [.pointer (some pv5)], Box pv5 [.int .u32 3, iV 0, iV 1, iV 0], Box ps3 [.int .u32 3], OwnSl 165 2 a15 1 c6 [.int .u32 0, iV 2], Box pv4 [.slice a21 1 c7, .map (some bv3), iV 1], OwnMapI bv3 .u32 (fun v : Value => v) ([(3, .pointer (some pv5))] : List (Int × Value)), OwnMapI bv2 .u32 (fun v : Value => v) ([(0, iV 1000000000), (3, iV 0)] : List (Int × Value)), Box pback [.map (some bv)], OwnMapI bv .u32 (fun v : Value => v) ([(3, .slice a15 1 c6)] : List (Int × Value)), MkA (D :: []), OwnSl 60 1 a8 2 c5 [.int .u32 0, .int .u32 3], Box pv [iV 0, iV 0]] ?_
 refine .seq (.region (.V ag0 ?_))
 refine .nil (.seqN (.seq (.region (.V mv0 ?_))))
 refine .V (ln rfl tS193.is) ?_
 refine .V ag0 ?_
 refine .nil (.seqN (.ret ?_))
 refine .res1 rfl (rvT rfl) (inl_back (v := iV 1) q53 rfl ?_)
 refine .V bi0 ?_
 refine .inl Tryz.func146 rfl Tryz.ntmps146 Tryz.call146 rfl rfl rfl rfl (fun a23 q54 => ?_)
 refine .KA [OwnSl 196 1 a21 1 c7 [.pointer (some pv5)], Box pv5 [.int .u32 3, iV 0, iV 1, iV 0], Box ps3 [.int .u32 3], OwnSl 165 2 a15 1 c6 [.int .u32 0, iV 2], Box pv4 [.slice a21 1 c7, .map (some bv3), iV 1], OwnMapI bv3 .u32 (fun v : Value => v) ([(3, .pointer (some pv5))] : List (Int × Value)), OwnMapI bv2 .u32 (fun v : Value => v) ([(0, iV 1000000000), (3, iV 0)] : List (Int × Value)), Box pback [.map (some bv)], OwnMapI bv .u32 (fun v : Value => v) ([(3, .slice a15 1 c6)] : List (Int × Value)), MkA (D :: []), OwnSl 60 1 a8 2 c5 [.int .u32 0, .int .u32 3], Box pv [iV 0, iV 0]] ?_
 refine .block ?_
 refine .rounds 90 ?_
 refine .block (.seq (.region (.V mv0 ?_)))
 refine .V bi0 ?_
 refine .V (bq rfl rfl (by decide)) ?_
 refine .V ag0 ?_
 refine .nil (.seqN (.seq (.seq (.region (.V mv0 ?_)))))
 refine .V mv0 ?_
 refine .V bi0 ?_
 refine .V mv0 ?_
 refine .gS rfl rfl rfl rfl rfl rfl ?_
 refine .gS rfl rfl rfl rfl rfl rfl ?_
 refine .gS rfl rfl rfl rfl rfl rfl ?_
 refine .gS rfl rfl rfl rfl rfl rfl ?_
 refine .gS rfl rfl rfl rfl rfl rfl ?_
 refine .V (pkT rfl rfl rfl) ?_
 refine .nil (.seqN ?_)
 refine .cond rfl (fun _ => ?_) (fun e => absurd (e.symm.trans rfl) (by decide))
 refine .exit (.seqX ?_)
 refine .blkY rfl ?_
 refine .seqX (.blkX ?_)
 refine .res0 (.inr rfl) rfl (inl_back (v := .tuple #[]) q54 rfl ?_)
 refine .nil ?_
 refine .res0 (.inr rfl) rfl (inl_back (v := .tuple #[]) q50 rfl ?_)
 refine .nil ?_
 refine .res0 (.inr rfl) rfl (inl_back (v := .tuple #[]) q49 rfl ?_)
 refine .nil (.seqN (.seq (.region (.V mv0 ?_))))
 refine .V (ld1 rfl tO60 (cellB (off := 0) (k := 2) rfl rfl)) ?_
 refine .inl Tryz.func101 rfl Tryz.ntmps101 Tryz.call101 rfl rfl rfl rfl (fun a24 q55 => ?_)
 refine .KA [OwnSl 196 1 a21 1 c7 [.pointer (some pv5)], Box pv5 [.int .u32 3, iV 0, iV 1, iV 0], Box ps3 [.int .u32 3], OwnSl 165 2 a15 1 c6 [.int .u32 0, iV 2], Box pv4 [.slice a21 1 c7, .map (some bv3), iV 1], OwnMapI bv3 .u32 (fun v : Value => v) ([(3, .pointer (some pv5))] : List (Int × Value)), OwnMapI bv2 .u32 (fun v : Value => v) ([(0, iV 1000000000), (3, iV 0)] : List (Int × Value)), Box pback [.map (some bv)], OwnMapI bv .u32 (fun v : Value => v) ([(3, .slice a15 1 c6)] : List (Int × Value)), MkA (D :: []), OwnSl 60 1 a8 2 c5 [.int .u32 0, .int .u32 3], Box pv [iV 0, iV 0]] ?_
 refine .seq (.region ?_)
 refine bx (vs := [.pointer (some pv3)]) rfl rfl rfl (fun pw2 => ?_)
 refine bx (vs := [.int .u32 3]) rfl rfl rfl (fun ps4 => ?_)
 refine .V ag0 ?_
 refine .nil (.seqN (.seq (.region (.V (mkf (vf := []) (vc := [.pointer (some pw2), .pointer (some ps4)]) rfl rfl) ?_))))
 refine .V ag0 ?_
 refine .nil (.seqN (.ret ?_))
 refine .res1 rfl (rvT rfl) (inl_back (v := .func (.func 132) #[] #[.pointer (some pw2), .pointer (some ps4)]) q55 rfl ?_)
 refine .nil (.seqN (.block ?_))
 refine .sub (s' := [(0, .pointer (some pv3)), (5, .pointer (some pback)), (6, .map (some bv2)), (7, .pointer (some pv4)), (9, .pointer (some ps3)), (19, .slice a8 2 c5), (20, iV 2), (21, iV 1), (37, .func (.func 132) #[] #[.pointer (some pw2), .pointer (some ps4)])]) sb ?_
 refine .rangeF (k := 11) (caps := [.pointer (some pw2), .pointer (some ps4)]) rfl rfl Tryz.func132 rfl Tryz.ntmps132 rfl Tryz.call132 (fun l2 D2 LA2 a25 q56 q57 => ?_)
 refine .KA [LA2 .ready none, Box ps4 [.int .u32 3], Box pw2 [.pointer (some pv3)], OwnSl 196 1 a21 1 c7 [.pointer (some pv5)], Box pv5 [.int .u32 3, iV 0, iV 1, iV 0], Box ps3 [.int .u32 3], OwnSl 165 2 a15 1 c6 [.int .u32 0, iV 2], Box pv4 [.slice a21 1 c7, .map (some bv3), iV 1], OwnMapI bv3 .u32 (fun v : Value => v) ([(3, .pointer (some pv5))] : List (Int × Value)), OwnMapI bv2 .u32 (fun v : Value => v) ([(0, iV 1000000000), (3, iV 0)] : List (Int × Value)), Box pback [.map (some bv)], OwnMapI bv .u32 (fun v : Value => v) ([(3, .slice a15 1 c6)] : List (Int × Value)), MkA (D2 :: D :: []), OwnSl 60 1 a8 2 c5 [.int .u32 0, .int .u32 3], Box pv [iV 0, iV 0]] ?_
 refine .seq (.region (.V (ld1 rfl tO53 (cellB (off := 0) (k := 2) rfl rfl)) ?_))
 refine .V (nck rfl) ?_
 refine .V (fa rfl tF112_2) ?_
 refine .V (ld1 (v := .slice a7 1 c4) rfl tO110 (cellH (CellsAt.mono (FH.le_refl _) q35 2 _ rfl))) ?_
 refine .V (ln rfl tS110.is) ?_
 refine .V mv0 ?_
 refine .nil (.seqN (.block ?_))
 refine .rounds 90 ?_
 refine .seq (.region (.V bi0 ?_))
 refine .nil (.seqN (.seq ?_))
 refine .cond rfl (fun _ => ?_) (fun e => absurd (e.symm.trans rfl) (by decide))
 refine .skip (.seqN (.seq (.block (.seq (.region (.V mv0 ?_))))))
 refine .V (ix rfl rfl tS110 (q34.ne (by decide) (inb_pos (show inb ([(⟨0, 3, 0, 2⟩ : Masks)] : List Masks) (0 : Int) from And.intro (by decide) (by decide)))) (show inb ([(⟨0, 3, 0, 2⟩ : Masks)] : List Masks) (0 : Int) from And.intro (by decide) (by decide))) ?_
 refine .V (ldA (cs := [.int .u32 0, .int .u32 3, .int .u32 0, iV 2]) rfl tA132 rfl (cellsH ((q34.mono (le2)).elemF (show inb ([(⟨0, 3, 0, 2⟩ : Masks)] : List Masks) (0 : Int) from And.intro (by decide) (by decide)) (by decide)))) ?_
 refine al tZ132 rfl (fun pback3 => ?_)
 refine .V ag0 ?_
 refine st (p := pback3) (off := 0) (k := 0) (vs := [.int .u32 0, .int .u32 3, .int .u32 0, iV 2]) rfl rfl rfl (fun w => (tA132 w).2) rfl rfl rfl rfl ?_
 refine .nil (.seqN (.seq (.region (.V (ld1 rfl tO60 (cellB (off := 0) (k := 2) rfl rfl)) ?_))))
 refine .V (fa rfl tF132_0) ?_
 refine .V (ld1 rfl tO60 (cellB (off := 0) (k := 0) rfl rfl)) ?_
 refine .V bi0 ?_
 refine .V (fa rfl tF132_0) ?_
 refine .V (ld1 rfl tO60 (cellB (off := 0) (k := 0) rfl rfl)) ?_
 refine .V bi0 ?_
 refine .V mv0 ?_
 refine .gv mv0 rfl rfl rfl rfl rfl rfl ?_
 refine .gv mv0 rfl rfl rfl rfl rfl rfl ?_
 refine .gv (fa rfl tF132_3) rfl rfl rfl rfl rfl rfl ?_
 refine .gv (ld1 rfl tO3 (cellB (off := 3) (k := 0) rfl rfl)) rfl rfl rfl rfl rfl rfl ?_
 refine .gv (ld1 rfl tO60 (cellB (off := 0) (k := 2) rfl rfl)) rfl rfl rfl rfl rfl rfl ?_
 refine .gv (fa rfl tF132_2) rfl rfl rfl rfl rfl rfl ?_
 refine .gv (ld1 rfl tO60 (cellB (off := 2) (k := 0) rfl rfl)) rfl rfl rfl rfl rfl rfl ?_
 refine .gv bi0 rfl rfl rfl rfl rfl rfl ?_
 refine .gv (fa rfl tF132_1) rfl rfl rfl rfl rfl rfl ?_
 refine .gv (ld1 rfl tO60 (cellB (off := 1) (k := 0) rfl rfl)) rfl rfl rfl rfl rfl rfl ?_
 refine .gv bi0 rfl rfl rfl rfl rfl rfl ?_
 refine .gv (bld (cs := #[iV 0, iV 2, .int .u32 3]) (pv := [(0, iV 0), (1, iV 2), (2, .int .u32 3)]) tB108 rfl rfl) rfl rfl rfl rfl rfl rfl ?_
 refine .gR rfl rfl rfl rfl ?_
 refine .yld (k := 1) (vs := [.agg #[iV 0, iV 2, .int .u32 3]]) q56 rfl rfl rfl rfl rfl (fun aG2 q58 => ?_)
 refine .sub (s' := [(5, .pointer (some pback)), (9, .pointer (some ps3)), (38, .agg #[iV 0, iV 2, .int .u32 3])]) sb ?_
 refine .region ?_
 refine al tZ108 rfl (fun pe2 => ?_)
 refine st (p := pe2) (off := 0) (k := 0) (vs := [iV 0, iV 2, .int .u32 3]) rfl rfl rfl (fun w => (tA108 w).2) rfl rfl rfl rfl ?_
 refine .nil ?_
 refine .begin_ (k := 2) q56 rfl ?_
 refine .block ?_
 refine .openA (s0 := [(5, .pointer (some pback)), (9, .pointer (some ps3)), (10, .pointer (some pe2))]) [0, 1, 2, 3, 4, 5, 6, 7, 8, 9, 10] [(0, .map (some bv)), (1, .pointer (some (pe2.add 2))), (2, .int .u32 3), (3, .map (some bv)), (4, .pointer (some (pe2.add 2))), (5, .int .u32 3), (6, .slice a15 1 c6), (7, .int .u32 3), (8, .pointer (some (pe2.add 1))), (9, iV 2), (10, .agg #[.int .u32 3, iV 2])] (by kernel_rfl) sb [5, 9, 10] [] rfl (by kernel_rfl) ?_
 refine .step [11] 11 rfl (by kernel_rfl) (by kernel_rfl) (.v [] rfl rfl rfl rfl rfl rfl (fun _ => ld1 rfl tO159 (cellB (off := 0) (k := 12) rfl rfl)) (.v [] rfl rfl rfl rfl rfl rfl (fun _ => fa rfl tF108_2) (.v [(40, .pointer (some (pe2.add 2)))] rfl rfl rfl rfl rfl rfl (fun _ => ld1 rfl tO60 (cellB (off := 2) (k := 0) rfl rfl)) (.v [] rfl rfl rfl rfl rfl rfl (fun _ => ld1 rfl tO159 (cellB (off := 0) (k := 12) rfl rfl)) (.v [] rfl rfl rfl rfl rfl rfl (fun _ => fa rfl tF108_2) (.v [(43, .pointer (some (pe2.add 2)))] rfl rfl rfl rfl rfl rfl (fun _ => ld1 rfl tO60 (cellB (off := 2) (k := 0) rfl rfl)) (.v [(42, .map (some bv)), (44, .int .u32 3)] rfl rfl rfl rfl rfl rfl (fun _ => lkI (enc := fun v : Value => v) (m := ([(3, .slice a15 1 c6)] : List (Int × Value))) (k := 3) (.slice none 0 0) tMR159 rfl rfl (q := 13) rfl) (.v [] rfl rfl rfl rfl rfl rfl (fun _ => ld1 rfl tO60 (cellB (off := 0) (k := 7) rfl rfl)) (.v [] rfl rfl rfl rfl rfl rfl (fun _ => fa rfl tF108_1) (.v [(47, .pointer (some (pe2.add 1)))] rfl rfl rfl rfl rfl rfl (fun _ => ld1 rfl tO3 (cellB (off := 1) (k := 0) rfl rfl)) (.v [(46, .int .u32 3), (48, iV 2)] rfl rfl rfl rfl rfl rfl (fun _ => bld (cs := #[.int .u32 3, iV 2]) (pv := [(0, .int .u32 3), (1, iV 2)]) tB165 rfl rfl) (.nil)))))))))))) (.cons [(49, .agg #[.int .u32 3, iV 2])] rfl rfl (fun sL hL => ?_) (.nil))
 refine bs2 (cs := #[.int .u32 3, iV 2]) (pv := [(0, .agg #[.int .u32 3, iV 2])]) tS163 rfl rfl (by decide) (by decide) rfl rfl rfl (fun a26 q59 => ?_)
 refine .nil ?_
 refine .ja (M := [10, 7, 9, 8]) (C' := [0, 1, 2, 3, 4, 5, 6]) (pre := [(11, .slice a26 1 1)]) [(5, .pointer (some pback)), (9, .pointer (some ps3)), (10, .pointer (some pe2))] [5, 9, 10] hL rfl rfl rfl rfl rfl sb rfl rfl (by kernel_rfl) ?_
 refine .step [12] 12 rfl (by kernel_rfl) (by kernel_rfl) (.v [] rfl rfl rfl rfl rfl rfl (fun _ => ld1 rfl tO159 (cellB (off := 0) (k := 13) rfl rfl)) (.v [] rfl rfl rfl rfl rfl rfl (fun _ => fa rfl tF108_2) (.v [(40, .pointer (some (pe2.add 2)))] rfl rfl rfl rfl rfl rfl (fun _ => ld1 rfl tO60 (cellB (off := 2) (k := 1) rfl rfl)) (.v [] rfl rfl rfl rfl rfl rfl (fun _ => ld1 rfl tO159 (cellB (off := 0) (k := 13) rfl rfl)) (.v [] rfl rfl rfl rfl rfl rfl (fun _ => fa rfl tF108_2) (.v [(43, .pointer (some (pe2.add 2)))] rfl rfl rfl rfl rfl rfl (fun _ => ld1 rfl tO60 (cellB (off := 2) (k := 1) rfl rfl)) (.v [(42, .map (some bv)), (44, .int .u32 3)] rfl rfl rfl rfl rfl rfl (fun _ => lkI (enc := fun v : Value => v) (m := ([(3, .slice a15 1 c6)] : List (Int × Value))) (k := 3) (.slice none 0 0) tMR159 rfl rfl (q := 14) rfl) (.nil)))))))) (.cons [(45, .slice a15 1 c6), (50, .slice a26 1 1)] rfl rfl (fun sL hL => ?_) (.nil))
 refine app (k := 9) (news := [.int .u32 3, iV 2]) (cs' := [.int .u32 0, iV 2, .int .u32 3, iV 2]) (nm := 2) tS163 rfl (by decide) rfl rfl rfl rfl (srcS (k := 0) rfl) (oneAll rfl) (by decide) (by decide) rfl rfl rfl (fun a27 c8 => ?_)
 refine .nil ?_
 refine .ja (M := [6, 3, 5, 4]) (C' := [0, 1, 2]) (pre := [(12, .slice a27 2 c8)]) [(5, .pointer (some pback)), (9, .pointer (some ps3)), (10, .pointer (some pe2))] [5, 9, 10] hL rfl rfl rfl rfl rfl sb rfl rfl (by kernel_rfl) ?_
 refine .step [13] 13 rfl (by kernel_rfl) (by kernel_rfl) (.v [] rfl rfl rfl rfl rfl rfl (fun _ => ld1 rfl tO159 (cellB (off := 0) (k := 13) rfl rfl)) (.v [] rfl rfl rfl rfl rfl rfl (fun _ => fa rfl tF108_2) (.v [(40, .pointer (some (pe2.add 2)))] rfl rfl rfl rfl rfl rfl (fun _ => ld1 rfl tO60 (cellB (off := 2) (k := 1) rfl rfl)) (.nil)))) (.cons [(39, .map (some bv)), (41, .int .u32 3), (51, .slice a27 2 c8), (51, .slice a27 2 c8), (39, .map (some bv)), (40, .pointer (some (pe2.add 2))), (41, .int .u32 3), (42, .map (some bv)), (43, .pointer (some (pe2.add 2))), (44, .int .u32 3), (45, .slice a15 1 c6), (46, .int .u32 3), (47, .pointer (some (pe2.add 1))), (48, iV 2), (49, .agg #[.int .u32 3, iV 2]), (50, .slice a26 1 1), (51, .slice a27 2 c8)] rfl rfl (fun sL hL => ?_) (.nil))
 refine muI (enc := fun v : Value => v) (.slice a27 2 c8) tMR159 rfl rfl rfl (q := 14) rfl ?_
 refine .nil ?_
 refine .jaN (M := [0, 2, 1]) (C' := []) (pre := []) [5, 9, 10] hL rfl rfl rfl rfl rfl (by kernel_rfl) ?_
 refine .last [(39, .map (some bv)), (40, .pointer (some (pe2.add 2))), (41, .int .u32 3), (42, .map (some bv)), (43, .pointer (some (pe2.add 2))), (44, .int .u32 3), (45, .slice a15 1 c6), (46, .int .u32 3), (47, .pointer (some (pe2.add 1))), (48, iV 2), (49, .agg #[.int .u32 3, iV 2]), (50, .slice a26 1 1), (51, .slice a27 2 c8)] rfl (by kernel_rfl) (.nil) rfl ?_
 refine .blkN ?_
 refine .rdN (k := 3) q56 rfl q58 rfl ?_
 refine .KA [OwnSl 165 2 a26 1 1 [.int .u32 3, iV 2], Box pe2 [iV 0, iV 2, .int .u32 3], Box pback3 [.int .u32 0, .int .u32 3, .int .u32 0, iV 2], LA2 .ready none, Box ps4 [.int .u32 3], Box pw2 [.pointer (some pv3)], OwnSl 196 1 a21 1 c7 [.pointer (some pv5)], Box pv5 [.int .u32 3, iV 0, iV 1, iV 0], Box ps3 [.int .u32 3], OwnSl 165 2 a27 2 c8 [.int .u32 0, iV 2, .int .u32 3, iV 2], Box pv4 [.slice a21 1 c7, .map (some bv3), iV 1], OwnMapI bv3 .u32 (fun v : Value => v) ([(3, .pointer (some pv5))] : List (Int × Value)), OwnMapI bv2 .u32 (fun v : Value => v) ([(0, iV 1000000000), (3, iV 0)] : List (Int × Value)), Box pback [.map (some bv)], OwnMapI bv .u32 (fun v : Value => v) ([(3, .slice a27 2 c8)] : List (Int × Value)), MkA (D2 :: D :: []), OwnSl 60 1 a8 2 c5 [.int .u32 0, .int .u32 3], Box pv [iV 0, iV 0]] ?_
 refine .gv (nt rfl) rfl rfl rfl rfl rfl rfl ?_
 refine .V (pkT rfl rfl rfl) ?_
 refine .nil (.seqN ?_)
 refine .cond rfl (fun e => absurd (e.symm.trans rfl) (by decide)) (fun _ => ?_)
 refine .skip (.blkN (.seqN (.region (.V bi0 ?_))))
 refine .V mv0 ?_
 refine .nil ?_
 refine .more ?_
 refine .sub (s' := [(0, .func (.yield l2) #[] #[]), (2, .pointer (some ps4)), (9, .slice a7 1 c4), (10, iV 1), (11, iV 1)]) sb ?_
 refine .sel0 [3, 4, 5, 6, 7, 8, 9, 10, 11, 12, 13, 14, 15, 16, 17] (by decide) rfl ?_
 refine .KA [LA2 .ready none, Box ps4 [.int .u32 3], Box pw2 [.pointer (some pv3)], OwnSl 196 1 a21 1 c7 [.pointer (some pv5)], Box pv5 [.int .u32 3, iV 0, iV 1, iV 0], Box ps3 [.int .u32 3], OwnSl 165 2 a27 2 c8 [.int .u32 0, iV 2, .int .u32 3, iV 2], Box pv4 [.slice a21 1 c7, .map (some bv3), iV 1], OwnMapI bv3 .u32 (fun v : Value => v) ([(3, .pointer (some pv5))] : List (Int × Value)), OwnMapI bv2 .u32 (fun v : Value => v) ([(0, iV 1000000000), (3, iV 0)] : List (Int × Value)), Box pback [.map (some bv)], OwnMapI bv .u32 (fun v : Value => v) ([(3, .slice a27 2 c8)] : List (Int × Value)), MkA (D2 :: D :: []), OwnSl 60 1 a8 2 c5 [.int .u32 0, .int .u32 3], Box pv [iV 0, iV 0]] ?_
 refine .seq (.region (.V bi0 ?_))
 refine .nil (.seqN (.seq ?_))
 refine .cond rfl (fun e => absurd (e.symm.trans rfl) (by decide)) (fun _ => ?_)
 refine .exit (.seqX (.seqX (.blkX ?_)))
 refine .res0 (.inr rfl) rfl (range_done (k := 0) q56 rfl q57 ?_)
 refine .KA [tru, Box ps4 [.int .u32 3], Box pw2 [.pointer (some pv3)], OwnSl 196 1 a21 1 c7 [.pointer (some pv5)], Box pv5 [.int .u32 3, iV 0, iV 1, iV 0], Box ps3 [.int .u32 3], OwnSl 165 2 a27 2 c8 [.int .u32 0, iV 2, .int .u32 3, iV 2], Box pv4 [.slice a21 1 c7, .map (some bv3), iV 1], OwnMapI bv3 .u32 (fun v : Value => v) ([(3, .pointer (some pv5))] : List (Int × Value)), OwnMapI bv2 .u32 (fun v : Value => v) ([(0, iV 1000000000), (3, iV 0)] : List (Int × Value)), Box pback [.map (some bv)], OwnMapI bv .u32 (fun v : Value => v) ([(3, .slice a27 2 c8)] : List (Int × Value)), MkA (D2 :: D :: []), OwnSl 60 1 a8 2 c5 [.int .u32 0, .int .u32 3], Box pv [iV 0, iV 0]] ?_
 refine .blkN (.blkN (.seqN (.region (.V bi0 ?_))))
 refine .V mv0 ?_
 refine .nil ?_
 refine .more ?_
 refine .sub (s' := [(0, .pointer (some pv3)), (5, .pointer (some pback)), (6, .map (some bv2)), (7, .pointer (some pv4)), (19, .slice a8 2 c5), (20, iV 2), (21, iV 2)]) sb ?_
 refine .sel0 [3, 4, 6, 7, 8, 9, 10, 11, 12, 13, 14] (by decide) rfl ?_
 refine .KA [OwnSl 196 1 a21 1 c7 [.pointer (some pv5)], Box pv5 [.int .u32 3, iV 0, iV 1, iV 0], OwnSl 165 2 a27 2 c8 [.int .u32 0, iV 2, .int .u32 3, iV 2], Box pv4 [.slice a21 1 c7, .map (some bv3), iV 1], OwnMapI bv3 .u32 (fun v : Value => v) ([(3, .pointer (some pv5))] : List (Int × Value)), OwnMapI bv2 .u32 (fun v : Value => v) ([(0, iV 1000000000), (3, iV 0)] : List (Int × Value)), Box pback [.map (some bv)], OwnMapI bv .u32 (fun v : Value => v) ([(3, .slice a27 2 c8)] : List (Int × Value)), MkA (D2 :: D :: []), OwnSl 60 1 a8 2 c5 [.int .u32 0, .int .u32 3], Box pv [iV 0, iV 0]] ?_
 refine .seq (.region (.V bi0 ?_))
 refine .nil (.seqN (.seq ?_))
 refine .cond rfl (fun e => absurd (e.symm.trans rfl) (by decide)) (fun _ => ?_)
 refine .exit (.seqX (.seqX (.blkX (.seqN (.seq (.block ?_))))))
 refine .rounds 90 ?_
 refine .seq (.seq (.region (.V mv0 ?_)))
 refine .inl Tryz.func102 rfl Tryz.ntmps102 Tryz.call102 rfl rfl rfl rfl (fun a28 q60 => ?_)
 refine .sel0 [0, 1, 2, 3, 4, 5, 6, 7, 8, 10] (by decide) rfl ?_
 refine .KA [OwnSl 196 1 a21 1 c7 [.pointer (some pv5)], Box pv5 [.int .u32 3, iV 0, iV 1, iV 0], OwnSl 165 2 a27 2 c8 [.int .u32 0, iV 2, .int .u32 3, iV 2], Box pv4 [.slice a21 1 c7, .map (some bv3), iV 1], OwnMapI bv3 .u32 (fun v : Value => v) ([(3, .pointer (some pv5))] : List (Int × Value)), OwnMapI bv2 .u32 (fun v : Value => v) ([(0, iV 1000000000), (3, iV 0)] : List (Int × Value)), Box pback [.map (some bv)], OwnMapI bv .u32 (fun v : Value => v) ([(3, .slice a27 2 c8)] : List (Int × Value)), MkA (D2 :: D :: []), Box pv [iV 0, iV 0]] ?_
 refine .seq (.region (.V ag0 ?_))
 refine .nil (.seqN (.seq (.region (.V mv0 ?_))))
 refine .V (nck rfl) ?_
 refine .V (fa rfl tF195_0) ?_
 refine .V (ld1 rfl tO193 (cellB (off := 0) (k := 3) rfl rfl)) ?_
 refine .V (ln rfl tS193.is) ?_
 refine .V ag0 ?_
 refine .nil (.seqN (.ret ?_))
 refine .res1 rfl (rvT rfl) (inl_back (v := iV 1) q60 rfl ?_)
 refine .V bi0 ?_
 refine .nil (.seqN ?_)
 refine .cond rfl (fun _ => ?_) (fun e => absurd (e.symm.trans rfl) (by decide))
 refine .skip (.seqN (.block (.seq (.region (.V mv0 ?_)))))
 refine .inl Tryz.func103 rfl Tryz.ntmps103 Tryz.call103 rfl rfl rfl rfl (fun a29 q61 => ?_)
 refine .KA [OwnSl 196 1 a21 1 c7 [.pointer (some pv5)], Box pv5 [.int .u32 3, iV 0, iV 1, iV 0], OwnSl 165 2 a27 2 c8 [.int .u32 0, iV 2, .int .u32 3, iV 2], Box pv4 [.slice a21 1 c7, .map (some bv3), iV 1], OwnMapI bv3 .u32 (fun v : Value => v) ([(3, .pointer (some pv5))] : List (Int × Value)), OwnMapI bv2 .u32 (fun v : Value => v) ([(0, iV 1000000000), (3, iV 0)] : List (Int × Value)), Box pback [.map (some bv)], OwnMapI bv .u32 (fun v : Value => v) ([(3, .slice a27 2 c8)] : List (Int × Value)), MkA (D2 :: D :: []), Box pv [iV 0, iV 0]] ?_
 refine .seq (.region (.V ag0 ?_))
 refine .V ag0 ?_
 refine .V ag0 ?_
 refine .nil (.seqN (.seq (.seq (.region (.V mv0 ?_)))))
 refine .V (nck rfl) ?_
 refine .V (fa rfl tF195_0) ?_
 refine .V (ld1 rfl tO193 (cellB (off := 0) (k := 3) rfl rfl)) ?_
 refine .V (ln rfl tS193.is) ?_
 refine .V bi0 ?_
 refine .nil (.seqN ?_)
 refine .cond rfl (fun e => absurd (e.symm.trans rfl) (by decide)) (fun _ => ?_)
 refine .skip (.seqN (.seq (.region (.V mv0 ?_))))
 refine .V (nck rfl) ?_
 refine .V (fa rfl tF195_0) ?_
 refine .V (mkI tC201 rfl) ?_
 refine .inl Tryz.func133 rfl Tryz.ntmps133 Tryz.call133 rfl rfl rfl rfl (fun a30 q62 => ?_)
 refine .KA [OwnSl 196 1 a21 1 c7 [.pointer (some pv5)], Box pv5 [.int .u32 3, iV 0, iV 1, iV 0], OwnSl 165 2 a27 2 c8 [.int .u32 0, iV 2, .int .u32 3, iV 2], Box pv4 [.slice a21 1 c7, .map (some bv3), iV 1], OwnMapI bv3 .u32 (fun v : Value => v) ([(3, .pointer (some pv5))] : List (Int × Value)), OwnMapI bv2 .u32 (fun v : Value => v) ([(0, iV 1000000000), (3, iV 0)] : List (Int × Value)), Box pback [.map (some bv)], OwnMapI bv .u32 (fun v : Value => v) ([(3, .slice a27 2 c8)] : List (Int × Value)), MkA (D2 :: D :: []), Box pv [iV 0, iV 0]] ?_
 refine .seq (.region (.V ag0 ?_))
 refine .nil (.seqN (.seq (.region (.V mv0 ?_))))
 refine .inlV Tryz.func167 rfl Tryz.ntmps167 Tryz.call167 tm201_Len rfl (cellB (off := 0) (k := 3) rfl rfl) rfl rfl (fun a31 q63 => ?_)
 refine .KA [OwnSl 196 1 a21 1 c7 [.pointer (some pv5)], Box pv5 [.int .u32 3, iV 0, iV 1, iV 0], OwnSl 165 2 a27 2 c8 [.int .u32 0, iV 2, .int .u32 3, iV 2], Box pv4 [.slice a21 1 c7, .map (some bv3), iV 1], OwnMapI bv3 .u32 (fun v : Value => v) ([(3, .pointer (some pv5))] : List (Int × Value)), OwnMapI bv2 .u32 (fun v : Value => v) ([(0, iV 1000000000), (3, iV 0)] : List (Int × Value)), Box pback [.map (some bv)], OwnMapI bv .u32 (fun v : Value => v) ([(3, .slice a27 2 c8)] : List (Int × Value)), MkA (D2 :: D :: []), Box pv [iV 0, iV 0]] ?_
 refine .seq (.region (.V ag0 ?_))
 refine .nil (.seqN (.seq (.region (.V mv0 ?_))))
 refine .V (ln rfl tS193.is) ?_
 refine .V ag0 ?_
 refine .nil (.seqN (.ret ?_))
 refine .res1 rfl (rvT rfl) (inl_back (v := iV 1) q63 rfl ?_)
 refine .V bi0 ?_
 refine .V ag0 ?_
 refine .nil (.seqN (.seq (.region (.V mv0 ?_))))
 refine .V mv0 ?_
 refine .inlV Tryz.func169 rfl Tryz.ntmps169 Tryz.call169 tm201_Swap rfl (cellB (off := 0) (k := 3) rfl rfl) rfl rfl (fun a32 q64 => ?_)
 refine .KA [OwnSl 196 1 a21 1 c7 [.pointer (some pv5)], Box pv5 [.int .u32 3, iV 0, iV 1, iV 0], OwnSl 165 2 a27 2 c8 [.int .u32 0, iV 2, .int .u32 3, iV 2], Box pv4 [.slice a21 1 c7, .map (some bv3), iV 1], OwnMapI bv3 .u32 (fun v : Value => v) ([(3, .pointer (some pv5))] : List (Int × Value)), OwnMapI bv2 .u32 (fun v : Value => v) ([(0, iV 1000000000), (3, iV 0)] : List (Int × Value)), Box pback [.map (some bv)], OwnMapI bv .u32 (fun v : Value => v) ([(3, .slice a27 2 c8)] : List (Int × Value)), MkA (D2 :: D :: []), Box pv [iV 0, iV 0]] ?_
 refine .seq ?_
 refine .openA (s0 := [(0, .slice a21 1 c7), (1, iV 0), (2, iV 0)]) [0, 1, 2, 3, 4, 5, 6, 7, 8, 9, 10, 11, 12] [(0, .slice a21 1 c7), (1, iV 0), (2, .slice a21 1 c7), (3, iV 0), (4, .slice a21 1 c7), (5, iV 0), (6, .pointer (some (ead a21 ((0 : Int).toNat * 1)))), (7, .pointer (some pv5)), (8, .slice a21 1 c7), (9, iV 0), (10, .pointer (some (ead a21 ((0 : Int).toNat * 1)))), (11, .pointer (some pv5)), (12, .pointer (some (ead a21 ((0 : Int).toNat * 1))))] (by kernel_rfl) sb [0, 1, 2] [] rfl (by kernel_rfl) ?_
 refine .step [13] 13 rfl (by kernel_rfl) (by kernel_rfl) (.v [] rfl rfl rfl rfl rfl rfl (fun _ => mv rfl) (.v [] rfl rfl rfl rfl rfl rfl (fun _ => mv rfl) (.v [] rfl rfl rfl rfl rfl rfl (fun _ => mv rfl) (.v [] rfl rfl rfl rfl rfl rfl (fun _ => mv rfl) (.v [] rfl rfl rfl rfl rfl rfl (fun _ => mv rfl) (.v [] rfl rfl rfl rfl rfl rfl (fun _ => mv rfl) (.v [(10, .slice a21 1 c7), (11, iV 0)] rfl rfl rfl rfl rfl rfl (fun _ => ixS rfl rfl tS193 (k := 0) rfl (And.intro (by decide) (by decide))) (.v [(12, .pointer (some (ead a21 ((0 : Int).toNat * 1))))] rfl rfl rfl rfl rfl rfl (fun _ => ld1 (v := .pointer (some pv5)) rfl tO196 (cellS (k := 0) rfl rfl)) (.v [] rfl rfl rfl rfl rfl rfl (fun _ => mv rfl) (.v [] rfl rfl rfl rfl rfl rfl (fun _ => mv rfl) (.v [(14, .slice a21 1 c7), (15, iV 0)] rfl rfl rfl rfl rfl rfl (fun _ => ixS rfl rfl tS193 (k := 0) rfl (And.intro (by decide) (by decide))) (.v [(16, .pointer (some (ead a21 ((0 : Int).toNat * 1))))] rfl rfl rfl rfl rfl rfl (fun _ => ld1 (v := .pointer (some pv5)) rfl tO196 (cellS (k := 0) rfl rfl)) (.v [(6, .slice a21 1 c7), (7, iV 0), (6, .slice a21 1 c7), (7, iV 0), (10, .slice a21 1 c7), (11, iV 0), (12, .pointer (some (ead a21 ((0 : Int).toNat * 1)))), (13, .pointer (some pv5)), (17, .pointer (some pv5))] rfl rfl rfl rfl rfl rfl (fun _ => ixS rfl rfl tS193 (k := 0) rfl (And.intro (by decide) (by decide))) (.nil)))))))))))))) (.cons [(18, .pointer (some (ead a21 ((0 : Int).toNat * 1)))), (13, .pointer (some pv5)), (6, .slice a21 1 c7), (7, iV 0), (10, .slice a21 1 c7), (11, iV 0), (12, .pointer (some (ead a21 ((0 : Int).toNat * 1)))), (13, .pointer (some pv5)), (17, .pointer (some pv5))] rfl rfl (fun sL hL => ?_) (.nil))
 refine stS (k := 0) (cs' := [.pointer (some pv5)]) rfl (fun _ => rfl) rfl rfl (fun w => (tO196 w).2) rfl rfl rfl (by decide) (Nat.le_of_ble_eq_true rfl) rfl ?_
 refine .nil ?_
 refine .jaN (M := [12, 7, 0, 1, 4, 5, 6, 11, 10, 8, 9]) (C' := [2, 3, 14]) (pre := [(14, .pointer (some (ead a21 ((0 : Int).toNat * 1))))]) [0, 1, 2] hL rfl rfl rfl rfl rfl (by kernel_rfl) ?_
 refine .step [15] 15 rfl (by kernel_rfl) (by kernel_rfl) (.v [] rfl rfl rfl rfl rfl rfl (fun _ => mv rfl) (.v [] rfl rfl rfl rfl rfl rfl (fun _ => mv rfl) (.v [(8, .slice a21 1 c7), (9, iV 0), (6, .slice a21 1 c7), (7, iV 0), (8, .slice a21 1 c7), (9, iV 0), (10, .slice a21 1 c7), (11, iV 0), (12, .pointer (some (ead a21 ((0 : Int).toNat * 1)))), (13, .pointer (some pv5)), (14, .slice a21 1 c7), (15, iV 0), (16, .pointer (some (ead a21 ((0 : Int).toNat * 1)))), (17, .pointer (some pv5)), (18, .pointer (some (ead a21 ((0 : Int).toNat * 1))))] rfl rfl rfl rfl rfl rfl (fun _ => ixS rfl rfl tS193 (k := 0) rfl (And.intro (by decide) (by decide))) (.nil)))) (.cons [(19, .pointer (some (ead a21 ((0 : Int).toNat * 1)))), (17, .pointer (some pv5)), (6, .slice a21 1 c7), (7, iV 0), (8, .slice a21 1 c7), (9, iV 0), (10, .slice a21 1 c7), (11, iV 0), (12, .pointer (some (ead a21 ((0 : Int).toNat * 1)))), (13, .pointer (some pv5)), (14, .slice a21 1 c7), (15, iV 0), (16, .pointer (some (ead a21 ((0 : Int).toNat * 1)))), (17, .pointer (some pv5)), (18, .pointer (some (ead a21 ((0 : Int).toNat * 1))))] rfl rfl (fun sL hL => ?_) (.nil))
 refine stS (k := 0) (cs' := [.pointer (some pv5)]) rfl (fun _ => rfl) rfl rfl (fun w => (tO196 w).2) rfl rfl rfl (by decide) (Nat.le_of_ble_eq_true rfl) rfl ?_
 refine .nil ?_
 refine .jaN (M := [14, 2, 3]) (C' := []) (pre := []) [0, 1, 2] hL rfl rfl rfl rfl rfl (by kernel_rfl) ?_
 refine .last [(6, .slice a21 1 c7), (7, iV 0), (8, .slice a21 1 c7), (9, iV 0), (10, .slice a21 1 c7), (11, iV 0), (12, .pointer (some (ead a21 ((0 : Int).toNat * 1)))), (13, .pointer (some pv5)), (14, .slice a21 1 c7), (15, iV 0), (16, .pointer (some (ead a21 ((0 : Int).toNat * 1)))), (17, .pointer (some pv5)), (18, .pointer (some (ead a21 ((0 : Int).toNat * 1)))), (19, .pointer (some (ead a21 ((0 : Int).toNat * 1))))] rfl (by kernel_rfl) (.nil) rfl ?_
 refine .seqN ?_
 refine .openA (s0 := [(0, .slice a21 1 c7), (1, iV 0), (2, iV 0)]) [0, 1, 2, 3, 4, 5, 6, 7, 8, 9, 10, 11] [(0, .slice a21 1 c7), (1, iV 0), (2, .pointer (some (ead a21 ((0 : Int).toNat * 1)))), (3, .pointer (some pv5)), (4, .slice a21 1 c7), (5, iV 0), (6, .pointer (some (ead a21 ((0 : Int).toNat * 1)))), (7, .pointer (some pv5)), (8, iV 0), (9, iV 0), (10, .pointer (some pv5)), (11, .pointer (some (pv5.add 3)))] (by kernel_rfl) sb [0, 1, 2] [] rfl (by kernel_rfl) ?_
 refine .step [12] 12 rfl (by kernel_rfl) (by kernel_rfl) (.v [] rfl rfl rfl rfl rfl rfl (fun _ => mv rfl) (.v [] rfl rfl rfl rfl rfl rfl (fun _ => mv rfl) (.v [(20, .slice a21 1 c7), (21, iV 0)] rfl rfl rfl rfl rfl rfl (fun _ => ixS rfl rfl tS193 (k := 0) rfl (And.intro (by decide) (by decide))) (.v [(22, .pointer (some (ead a21 ((0 : Int).toNat * 1))))] rfl rfl rfl rfl rfl rfl (fun _ => ld1 (v := .pointer (some pv5)) rfl tO196 (cellS (k := 0) rfl rfl)) (.v [] rfl rfl rfl rfl rfl rfl (fun _ => mv rfl) (.v [] rfl rfl rfl rfl rfl rfl (fun _ => mv rfl) (.v [(24, .slice a21 1 c7), (25, iV 0)] rfl rfl rfl rfl rfl rfl (fun _ => ixS rfl rfl tS193 (k := 0) rfl (And.intro (by decide) (by decide))) (.v [(26, .pointer (some (ead a21 ((0 : Int).toNat * 1))))] rfl rfl rfl rfl rfl rfl (fun _ => ld1 (v := .pointer (some pv5)) rfl tO196 (cellS (k := 0) rfl rfl)) (.v [] rfl rfl rfl rfl rfl rfl (fun _ => mv rfl) (.v [] rfl rfl rfl rfl rfl rfl (fun _ => mv rfl) (.v [(23, .pointer (some pv5)), (20, .slice a21 1 c7), (21, iV 0), (22, .pointer (some (ead a21 ((0 : Int).toNat * 1)))), (23, .pointer (some pv5)), (27, .pointer (some pv5)), (28, iV 0)] rfl rfl rfl rfl rfl rfl (fun _ => nck rfl) (.v [(30, .pointer (some pv5)), (20, .slice a21 1 c7), (21, iV 0), (22, .pointer (some (ead a21 ((0 : Int).toNat * 1)))), (23, .pointer (some pv5)), (27, .pointer (some pv5)), (28, iV 0)] rfl rfl rfl rfl rfl rfl (fun _ => fa rfl tF199_3) (.nil))))))))))))) (.cons [(31, .pointer (some (pv5.add 3))), (28, iV 0), (20, .slice a21 1 c7), (21, iV 0), (22, .pointer (some (ead a21 ((0 : Int).toNat * 1)))), (23, .pointer (some pv5)), (27, .pointer (some pv5)), (28, iV 0)] rfl rfl (fun sL hL => ?_) (.nil))
 refine st (p := pv5) (off := 3) (k := 1) (vs := [iV 0]) rfl rfl rfl (fun w => (tO3 w).2) rfl rfl rfl rfl ?_
 refine .nil ?_
 refine .jaN (M := [11, 8, 0, 1, 2, 3, 7, 10, 6, 4, 5]) (C' := [9, 13, 14]) (pre := [(13, .pointer (some pv5)), (14, .pointer (some (pv5.add 3)))]) [0, 1, 2] hL rfl rfl rfl rfl rfl (by kernel_rfl) ?_
 refine .step [15] 15 rfl (by kernel_rfl) (by kernel_rfl) (.v [] rfl rfl rfl rfl rfl rfl (fun _ => mv rfl) (.v [(27, .pointer (some pv5)), (20, .slice a21 1 c7), (21, iV 0), (22, .pointer (some (ead a21 ((0 : Int).toNat * 1)))), (23, .pointer (some pv5)), (24, .slice a21 1 c7), (25, iV 0), (26, .pointer (some (ead a21 ((0 : Int).toNat * 1)))), (27, .pointer (some pv5)), (28, iV 0), (29, iV 0), (30, .pointer (some pv5)), (31, .pointer (some (pv5.add 3)))] rfl rfl rfl rfl rfl rfl (fun _ => nck rfl) (.v [(32, .pointer (some pv5)), (20, .slice a21 1 c7), (21, iV 0), (22, .pointer (some (ead a21 ((0 : Int).toNat * 1)))), (23, .pointer (some pv5)), (24, .slice a21 1 c7), (25, iV 0), (26, .pointer (some (ead a21 ((0 : Int).toNat * 1)))), (27, .pointer (some pv5)), (28, iV 0), (29, iV 0), (30, .pointer (some pv5)), (31, .pointer (some (pv5.add 3)))] rfl rfl rfl rfl rfl rfl (fun _ => fa rfl tF199_3) (.nil)))) (.cons [(33, .pointer (some (pv5.add 3))), (29, iV 0), (20, .slice a21 1 c7), (21, iV 0), (22, .pointer (some (ead a21 ((0 : Int).toNat * 1)))), (23, .pointer (some pv5)), (24, .slice a21 1 c7), (25, iV 0), (26, .pointer (some (ead a21 ((0 : Int).toNat * 1)))), (27, .pointer (some pv5)), (28, iV 0), (29, iV 0), (30, .pointer (some pv5)), (31, .pointer (some (pv5.add 3)))] rfl rfl (fun sL hL => ?_) (.nil))
 refine st (p := pv5) (off := 3) (k := 1) (vs := [iV 0]) rfl rfl rfl (fun w => (tO3 w).2) rfl rfl rfl rfl ?_
 refine .nil ?_
 refine .jaN (M := [14, 9, 13]) (C' := []) (pre := []) [0, 1, 2] hL rfl rfl rfl rfl rfl (by kernel_rfl) ?_
 refine .last [(20, .slice a21 1 c7), (21, iV 0), (22, .pointer (some (ead a21 ((0 : Int).toNat * 1)))), (23, .pointer (some pv5)), (24, .slice a21 1 c7), (25, iV 0), (26, .pointer (some (ead a21 ((0 : Int).toNat * 1)))), (27, .pointer (some pv5)), (28, iV 0), (29, iV 0), (30, .pointer (some pv5)), (31, .pointer (some (pv5.add 3))), (32, .pointer (some pv5)), (33, .pointer (some (pv5.add 3)))] rfl (by kernel_rfl) (.nil) rfl ?_
 refine .res0 (.inr rfl) rfl (inl_back (v := .tuple #[]) q64 rfl ?_)
 refine .nil (.seqN (.seq (.region (.V mv0 ?_))))
 refine .V mv0 ?_
 refine .inl Tryz.func145 rfl Tryz.ntmps145 Tryz.call145 rfl rfl rfl rfl (fun a33 q65 => ?_)
 refine .KA [OwnSl 196 1 a21 1 c7 [.pointer (some pv5)], Box pv5 [.int .u32 3, iV 0, iV 1, iV 0], OwnSl 165 2 a27 2 c8 [.int .u32 0, iV 2, .int .u32 3, iV 2], Box pv4 [.slice a21 1 c7, .map (some bv3), iV 1], OwnMapI bv3 .u32 (fun v : Value => v) ([(3, .pointer (some pv5))] : List (Int × Value)), OwnMapI bv2 .u32 (fun v : Value => v) ([(0, iV 1000000000), (3, iV 0)] : List (Int × Value)), Box pback [.map (some bv)], OwnMapI bv .u32 (fun v : Value => v) ([(3, .slice a27 2 c8)] : List (Int × Value)), MkA (D2 :: D :: []), Box pv [iV 0, iV 0]] ?_
 refine .seq (.region (.V ag0 ?_))
 refine .nil (.seqN (.seq (.region (.V mv0 ?_))))
 refine .V ag0 ?_
 refine .nil (.seqN (.seq (.block ?_)))
 refine .rounds 90 ?_
 refine .block (.seq (.region (.V mv0 ?_)))
 refine .V bi0 ?_
 refine .V bi0 ?_
 refine .V ag0 ?_
 refine .nil (.seqN (.seq (.seq (.region (.V mv0 ?_)))))
 refine .V mv0 ?_
 refine .V bi0 ?_
 refine .V mv0 ?_
 refine .gS rfl rfl rfl rfl rfl rfl ?_
 refine .gS rfl rfl rfl rfl rfl rfl ?_
 refine .V (pkT rfl rfl rfl) ?_
 refine .nil (.seqN ?_)
 refine .cond rfl (fun _ => ?_) (fun e => absurd (e.symm.trans rfl) (by decide))
 refine .exit (.seqX ?_)
 refine .blkY rfl ?_
 refine .seqX (.blkX (.seqN (.seq (.region (.V mv0 ?_)))))
 refine .V mv0 ?_
 refine .V bi0 ?_
 refine .V ag0 ?_
 refine .nil (.seqN (.ret ?_))
 refine .res1 rfl (rvT rfl) (inl_back (v := .bool false) q65 rfl ?_)
 refine .nil (.seqN (.seq (.region (.V mv0 ?_))))
 refine .inlI Tryz.func170 rfl Tryz.ntmps170 Tryz.call170 tm201_Pop rfl rfl rfl (fun a34 q66 => ?_)
 refine .KA [OwnSl 196 1 a21 1 c7 [.pointer (some pv5)], Box pv5 [.int .u32 3, iV 0, iV 1, iV 0], OwnSl 165 2 a27 2 c8 [.int .u32 0, iV 2, .int .u32 3, iV 2], Box pv4 [.slice a21 1 c7, .map (some bv3), iV 1], OwnMapI bv3 .u32 (fun v : Value => v) ([(3, .pointer (some pv5))] : List (Int × Value)), OwnMapI bv2 .u32 (fun v : Value => v) ([(0, iV 1000000000), (3, iV 0)] : List (Int × Value)), Box pback [.map (some bv)], OwnMapI bv .u32 (fun v : Value => v) ([(3, .slice a27 2 c8)] : List (Int × Value)), MkA (D2 :: D :: []), Box pv [iV 0, iV 0]] ?_
 refine .seq (.region (.V ag0 ?_))
 refine .nil (.seqN (.seq (.region (.V mv0 ?_))))
 refine .V (nck rfl) ?_
 refine .V (ld1 rfl tO193 (cellB (off := 0) (k := 3) rfl rfl)) ?_
 refine .V ag0 ?_
 refine .nil (.seqN (.seq (.region (.V mv0 ?_))))
 refine .V mv0 ?_
 refine .V (ln rfl tS193.is) ?_
 refine .V bi0 ?_
 refine .V (ixS rfl rfl tS193 (k := 0) rfl (And.intro (by decide) (by decide))) ?_
 refine .V (ld1 (v := .pointer (some pv5)) rfl tO196 (cellS (k := 0) rfl rfl)) ?_
 refine .V ag0 ?_
 refine .nil (.seqN (.seq ?_))
 refine .fact (fun w S => look_len S (k := 0) rfl) (fun q67 => ?_)
 refine .fact (fun w S => look_len S (k := 2) rfl) (fun q68 => ?_)
 refine .region (.V mv0 ?_)
 refine .V mv0 ?_
 refine .V mv0 ?_
 refine .V (ln rfl tS193.is) ?_
 refine .V bi0 ?_
 refine .V (slH tS193 rfl rfl (by decide) rfl (Nat.le_trans (show 0 ≤ 1 by decide) q67)) ?_
 refine .shrink (k := 0) (cs' := []) rfl (show 0 ≤ 1 by decide) rfl ?_
 refine .V (nck rfl) ?_
 refine st (p := pv4) (off := 0) (k := 3) (vs := [.slice a21 0 c7]) rfl rfl rfl (fun w => (tO193 w).2) rfl rfl rfl rfl ?_
 refine .nil (.seqN (.seq (.region (.V mv0 ?_))))
 refine .V (mkI tC196 rfl) ?_
 refine .V ag0 ?_
 refine .nil (.seqN (.ret ?_))
 refine .res1 rfl (rvT rfl) (inl_back (v := .iface 196 (.pointer (some pv5))) q66 rfl ?_)
 refine .V ag0 ?_
 refine .nil (.seqN (.ret ?_))
 refine .res1 rfl (rvT rfl) (inl_back (v := .iface 196 (.pointer (some pv5))) q62 rfl ?_)
 refine .V (tas tC196 rfl) ?_
 refine .V ag0 ?_
 refine .nil (.seqN (.seq ?_))
 refine .openA (s0 := [(0, .pointer (some pv4)), (5, .pointer (some pv5))]) [0, 1, 2, 3, 4, 5, 6, 7] [(0, .pointer (some pv4)), (1, .pointer (some pv4)), (2, .pointer (some (pv4.add 1))), (3, .map (some bv3)), (4, .pointer (some pv5)), (5, .pointer (some pv5)), (6, .pointer (some (pv5.add 0))), (7, .int .u32 3)] (by kernel_rfl) sb [0, 5] [] rfl (by kernel_rfl) ?_
 refine .step [8] 8 rfl (by kernel_rfl) (by kernel_rfl) (.v [] rfl rfl rfl rfl rfl rfl (fun _ => mv rfl) (.v [(19, .pointer (some pv4))] rfl rfl rfl rfl rfl rfl (fun _ => nck rfl) (.v [(20, .pointer (some pv4))] rfl rfl rfl rfl rfl rfl (fun _ => fa rfl tF195_1) (.v [(21, .pointer (some (pv4.add 1)))] rfl rfl rfl rfl rfl rfl (fun _ => ld1 rfl tO191 (cellB (off := 1) (k := 3) rfl rfl)) (.v [] rfl rfl rfl rfl rfl rfl (fun _ => mv rfl) (.v [(23, .pointer (some pv5))] rfl rfl rfl rfl rfl rfl (fun _ => nck rfl) (.v [(24, .pointer (some pv5))] rfl rfl rfl rfl rfl rfl (fun _ => fa rfl tF199_0) (.v [(25, .pointer (some (pv5.add 0)))] rfl rfl rfl rfl rfl rfl (fun _ => ld1 rfl tO60 (cellB (off := 0) (k := 1) rfl rfl)) (.nil))))))))) (.cons [(22, .map (some bv3)), (26, .int .u32 3)] rfl rfl (fun sL hL => ?_) (.nil))
 refine dlI tMR191 rfl rfl (q := 4) rfl rfl ?_
 refine .nil ?_
 refine .jaN (M := [3, 7, 2, 6, 1, 5, 0, 4]) (C' := []) (pre := []) [0, 5] hL rfl rfl rfl rfl rfl (by kernel_rfl) ?_
 refine .last [(19, .pointer (some pv4)), (20, .pointer (some pv4)), (21, .pointer (some (pv4.add 1))), (22, .map (some bv3)), (23, .pointer (some pv5)), (24, .pointer (some pv5)), (25, .pointer (some (pv5.add 0))), (26, .int .u32 3)] rfl (by kernel_rfl) (.nil) rfl ?_
 refine .seqN (.seq ?_)
 refine .openA (s0 := [(5, .pointer (some pv5))]) [0, 1, 2, 3, 4, 5, 6, 7, 8, 9, 10] [(0, .pointer (some pv5)), (1, .pointer (some pv5)), (2, .pointer (some (pv5.add 0))), (3, .int .u32 3), (4, .pointer (some pv5)), (5, .pointer (some pv5)), (6, .pointer (some (pv5.add 1))), (7, iV 0), (8, .int .u32 3), (9, iV 0), (10, .bool true)] (by kernel_rfl) sb [5] [] rfl (by kernel_rfl) ?_
 refine .last [(27, .pointer (some pv5)), (28, .pointer (some pv5)), (29, .pointer (some (pv5.add 0))), (30, .int .u32 3), (31, .pointer (some pv5)), (32, .pointer (some pv5)), (33, .pointer (some (pv5.add 1))), (34, iV 0), (2, .int .u32 3), (3, iV 0), (4, .bool true)] rfl (by kernel_rfl) (.v [] rfl rfl rfl rfl rfl rfl (fun _ => mv rfl) (.v [(27, .pointer (some pv5))] rfl rfl rfl rfl rfl rfl (fun _ => nck rfl) (.v [(28, .pointer (some pv5))] rfl rfl rfl rfl rfl rfl (fun _ => fa rfl tF199_0) (.v [(29, .pointer (some (pv5.add 0)))] rfl rfl rfl rfl rfl rfl (fun _ => ld1 rfl tO60 (cellB (off := 0) (k := 1) rfl rfl)) (.v [] rfl rfl rfl rfl rfl rfl (fun _ => mv rfl) (.v [(31, .pointer (some pv5))] rfl rfl rfl rfl rfl rfl (fun _ => nck rfl) (.v [(32, .pointer (some pv5))] rfl rfl rfl rfl rfl rfl (fun _ => fa rfl tF199_1) (.v [(33, .pointer (some (pv5.add 1)))] rfl rfl rfl rfl rfl rfl (fun _ => ld1 rfl tO3 (cellB (off := 1) (k := 1) rfl rfl)) (.v [(30, .int .u32 3), (27, .pointer (some pv5)), (28, .pointer (some pv5)), (29, .pointer (some (pv5.add 0))), (30, .int .u32 3)] rfl rfl rfl rfl rfl rfl (fun _ => asg rfl) (.v [(34, iV 0), (2, .int .u32 3), (27, .pointer (some pv5)), (28, .pointer (some pv5)), (29, .pointer (some (pv5.add 0))), (30, .int .u32 3), (31, .pointer (some pv5)), (32, .pointer (some pv5)), (33, .pointer (some (pv5.add 1))), (34, iV 0), (2, .int .u32 3)] rfl rfl rfl rfl rfl rfl (fun _ => asg rfl) (.v [(3, iV 0), (27, .pointer (some pv5)), (28, .pointer (some pv5)), (29, .pointer (some (pv5.add 0))), (30, .int .u32 3), (31, .pointer (some pv5)), (32, .pointer (some pv5)), (33, .pointer (some (pv5.add 1))), (34, iV 0), (2, .int .u32 3), (3, iV 0)] rfl rfl rfl rfl rfl rfl (fun _ => asg rfl) (.nil)))))))))))) rfl ?_
 refine .seqN (.ret ?_)
 refine .res3 rfl (rvT rfl) (rvT rfl) (rvT rfl) (inl_back (v := .tuple #[.int .u32 3, iV 0, .bool true]) q61 rfl ?_)
 refine .V mv0 ?_
 refine .V (ext rfl rfl) ?_
 refine .V (ext rfl rfl) ?_
 refine .V (ext rfl rfl) ?_
 refine .V ag0 ?_
 refine .V ag0 ?_
 refine .V ag0 ?_
 refine .nil (.seqN (.seq (.region (.V (ld1 rfl tO159 (cellB (off := 0) (k := 6) rfl rfl)) ?_))))
 refine .V mv0 ?_
 refine .V (lkI (enc := fun v : Value => v) (m := ([(3, .slice a27 2 c8)] : List (Int × Value))) (k := 3) (.slice none 0 0) tMR159 rfl rfl (q := 7) rfl) ?_
 refine .V (ln rfl tS163.is) ?_
 refine .V mv0 ?_
 refine .nil (.seqN (.block ?_))
 refine .rounds 90 ?_
 refine .seq (.region (.V bi0 ?_))
 refine .nil (.seqN (.seq ?_))
 refine .cond rfl (fun _ => ?_) (fun e => absurd (e.symm.trans rfl) (by decide))
 refine .skip (.seqN (.seq (.block (.seq (.region (.V (ixS rfl rfl tS163 (k := 2) rfl (And.intro (by decide) (by decide))) ?_))))))
 refine .V (ldA (cs := [.int .u32 0, iV 2]) rfl tA165 rfl (cellsO (k := 2) rfl (rawE rfl))) ?_
 refine al tZ165 rfl (fun pa => ?_)
 refine st (p := pa) (off := 0) (k := 0) (vs := [.int .u32 0, iV 2]) rfl rfl rfl (fun w => (tA165 w).2) rfl rfl rfl rfl ?_
 refine .nil (.seqN (.seq (.region (.V mv0 ?_))))
 refine .V (fa rfl tF165_1) ?_
 refine .V (ld1 rfl tO3 (cellB (off := 1) (k := 0) rfl rfl)) ?_
 refine .V bi0 ?_
 refine .V mv0 ?_
 refine .V (fa rfl tF165_0) ?_
 refine .V (ld1 rfl tO60 (cellB (off := 0) (k := 0) rfl rfl)) ?_
 refine .V (lkI (enc := fun v : Value => v) (m := ([(0, iV 1000000000), (3, iV 0)] : List (Int × Value))) (k := 0) (iV 0) tMR141 rfl rfl (q := 6) rfl) ?_
 refine .V bi0 ?_
 refine .nil (.seqN ?_)
 refine .cond rfl (fun _ => ?_) (fun e => absurd (e.symm.trans rfl) (by decide))
 refine .seq (.region (.V mv0 ?_))
 refine .V (fa rfl tF165_0) ?_
 refine .V (ld1 rfl tO60 (cellB (off := 0) (k := 0) rfl rfl)) ?_
 refine .V mv0 ?_
 refine .V (fa rfl tF165_1) ?_
 refine .V (ld1 rfl tO3 (cellB (off := 1) (k := 0) rfl rfl)) ?_
 refine .V bi0 ?_
 refine muI (enc := fun v : Value => v) (iV 2) tMR141 rfl rfl rfl (q := 6) rfl ?_
 refine .KA [Box pa [.int .u32 0, iV 2], OwnSl 196 1 a21 0 c7 [], Box pv5 [.int .u32 3, iV 0, iV 1, iV 0], OwnSl 165 2 a27 2 c8 [.int .u32 0, iV 2, .int .u32 3, iV 2], Box pv4 [.slice a21 0 c7, .map (some bv3), iV 1], OwnMapI bv3 .u32 (fun v : Value => v) ([] : List (Int × Value)), OwnMapI bv2 .u32 (fun v : Value => v) ([(0, iV 2), (3, iV 0)] : List (Int × Value)), Box pback [.map (some bv)], OwnMapI bv .u32 (fun v : Value => v) ([(3, .slice a27 2 c8)] : List (Int × Value)), MkA (D2 :: D :: []), Box pv [iV 0, iV 0]] ?_
 refine .nil (.seqN (.region (.V mv0 ?_)))
 refine .V (fa rfl tF165_0) ?_
 refine .V (ld1 rfl tO60 (cellB (off := 0) (k := 0) rfl rfl)) ?_
 refine .V mv0 ?_
 refine .V (fa rfl tF165_1) ?_
 refine .V (ld1 rfl tO3 (cellB (off := 1) (k := 0) rfl rfl)) ?_
 refine .V bi0 ?_
 refine .inl Tryz.func100 rfl Tryz.ntmps100 Tryz.call100 rfl rfl rfl rfl (fun a35 q69 => ?_)
 refine .sel0 [1, 3, 4, 5, 6, 7, 8, 9, 10] (by decide) rfl ?_
 refine .KA [OwnSl 196 1 a21 0 c7 [], OwnSl 165 2 a27 2 c8 [.int .u32 0, iV 2, .int .u32 3, iV 2], Box pv4 [.slice a21 0 c7, .map (some bv3), iV 1], OwnMapI bv3 .u32 (fun v : Value => v) ([] : List (Int × Value)), OwnMapI bv2 .u32 (fun v : Value => v) ([(0, iV 2), (3, iV 0)] : List (Int × Value)), Box pback [.map (some bv)], OwnMapI bv .u32 (fun v : Value => v) ([(3, .slice a27 2 c8)] : List (Int × Value)), MkA (D2 :: D :: []), Box pv [iV 0, iV 0]] ?_
 refine .seq (.region (.V mv0 ?_))
 refine .V (nck rfl) ?_
 refine .V (fa rfl tF195_2) ?_
 refine .V (ld1 rfl tO3 (cellB (off := 2) (k := 2) rfl rfl)) ?_
 refine .V bi0 ?_
 refine .V (nck rfl) ?_
 refine .V (fa rfl tF195_2) ?_
 refine st (p := pv4) (off := 2) (k := 2) (vs := [iV 2]) rfl rfl rfl (fun w => (tO3 w).2) rfl rfl rfl rfl ?_
 refine .nil (.seqN (.seq (.seq (.region (.V mv0 ?_)))))
 refine .V (nck rfl) ?_
 refine .V (fa rfl tF195_1) ?_
 refine .V (ld1 rfl tO191 (cellB (off := 1) (k := 2) rfl rfl)) ?_
 refine .V mv0 ?_
 refine .V (lkI2 (enc := fun v : Value => v) (m := ([] : List (Int × Value))) (k := 0) (.pointer none) tMR191 rfl rfl (q := 3) rfl) ?_
 refine .V mv0 ?_
 refine .V (ext rfl rfl) ?_
 refine .V (ext rfl rfl) ?_
 refine .V ag0 ?_
 refine .V ag0 ?_
 refine .nil (.seqN (.seq (.region (.V mv0 ?_))))
 refine .nil (.seqN ?_)
 refine .cond rfl (fun e => absurd (e.symm.trans rfl) (by decide)) (fun _ => ?_)
 refine .skip (.seqN (.seq (.region (.V mv0 ?_))))
 refine .V mv0 ?_
 refine .V mv0 ?_
 refine .V (nck rfl) ?_
 refine .V (fa rfl tF195_2) ?_
 refine .V (ld1 rfl tO3 (cellB (off := 2) (k := 2) rfl rfl)) ?_
 refine .V (bld (cs := #[.int .u32 0, iV 2, iV 2, iV 0]) (pv := [(0, .int .u32 0), (1, iV 2), (2, iV 2)]) tB199 rfl rfl) ?_
 refine bx (vs := [.int .u32 0, iV 2, iV 2, iV 0]) rfl rfl rfl (fun pv6 => ?_)
 refine .V ag0 ?_
 refine .nil (.seqN (.seq (.region (.V mv0 ?_))))
 refine .V (nck rfl) ?_
 refine .V (fa rfl tF195_1) ?_
 refine .V (ld1 rfl tO191 (cellB (off := 1) (k := 3) rfl rfl)) ?_
 refine .V mv0 ?_
 refine .V mv0 ?_
 refine muI (enc := fun v : Value => v) (.pointer (some pv6)) tMR191 rfl rfl rfl (q := 4) rfl ?_
 refine .nil (.seqN (.region (.V mv0 ?_)))
 refine .V (nck rfl) ?_
 refine .V (fa rfl tF195_0) ?_
 refine .V (mkI tC201 rfl) ?_
 refine .V mv0 ?_
 refine .V (mkI tC196 rfl) ?_
 refine .inl Tryz.func131 rfl Tryz.ntmps131 Tryz.call131 rfl rfl rfl rfl (fun a36 q70 => ?_)
 refine .KA [Box pv6 [.int .u32 0, iV 2, iV 2, iV 0], OwnSl 196 1 a21 0 c7 [], OwnSl 165 2 a27 2 c8 [.int .u32 0, iV 2, .int .u32 3, iV 2], Box pv4 [.slice a21 0 c7, .map (some bv3), iV 2], OwnMapI bv3 .u32 (fun v : Value => v) ([(0, .pointer (some pv6))] : List (Int × Value)), OwnMapI bv2 .u32 (fun v : Value => v) ([(0, iV 2), (3, iV 0)] : List (Int × Value)), Box pback [.map (some bv)], OwnMapI bv .u32 (fun v : Value => v) ([(3, .slice a27 2 c8)] : List (Int × Value)), MkA (D2 :: D :: []), Box pv [iV 0, iV 0]] ?_
 refine .seq (.region (.V mv0 ?_))
 refine .V mv0 ?_
 refine .inlI Tryz.func171 rfl Tryz.ntmps171 Tryz.call171 tm201_Push rfl rfl rfl (fun a37 q71 => ?_)
 refine .KA [Box pv6 [.int .u32 0, iV 2, iV 2, iV 0], OwnSl 196 1 a21 0 c7 [], OwnSl 165 2 a27 2 c8 [.int .u32 0, iV 2, .int .u32 3, iV 2], Box pv4 [.slice a21 0 c7, .map (some bv3), iV 2], OwnMapI bv3 .u32 (fun v : Value => v) ([(0, .pointer (some pv6))] : List (Int × Value)), OwnMapI bv2 .u32 (fun v : Value => v) ([(0, iV 2), (3, iV 0)] : List (Int × Value)), Box pback [.map (some bv)], OwnMapI bv .u32 (fun v : Value => v) ([(3, .slice a27 2 c8)] : List (Int × Value)), MkA (D2 :: D :: []), Box pv [iV 0, iV 0]] ?_
 refine .seq (.region (.V mv0 ?_))
 refine .V (tas tC196 rfl) ?_
 refine .V ag0 ?_
 refine .nil (.seqN (.seq (.region (.V mv0 ?_))))
 refine .V mv0 ?_
 refine .V (nck rfl) ?_
 refine .V (ld1 rfl tO193 (cellB (off := 0) (k := 3) rfl rfl)) ?_
 refine .V (ln rfl tS193.is) ?_
 refine .V (nck rfl) ?_
 refine .V (fa rfl tF199_3) ?_
 refine st (p := pv6) (off := 3) (k := 0) (vs := [iV 0]) rfl rfl rfl (fun w => (tO3 w).2) rfl rfl rfl rfl ?_
 refine .nil (.seqN (.region (.V mv0 ?_)))
 refine .V mv0 ?_
 refine .V (nck rfl) ?_
 refine .V (ld1 rfl tO193 (cellB (off := 0) (k := 3) rfl rfl)) ?_
 refine .V mv0 ?_
 refine bs2 (cs := #[.pointer (some pv6)]) (pv := [(0, .pointer (some pv6))]) tS193 rfl rfl (by decide) (by decide) rfl rfl rfl (fun a38 q72 => ?_)
 refine app (k := 2) (news := [.pointer (some pv6)]) (cs' := [.pointer (some pv6)]) (nm := 1) tS193 rfl (by decide) rfl rfl rfl rfl (srcS (k := 0) rfl) (oneAll rfl) (by decide) (by decide) rfl rfl rfl (fun a39 c9 => ?_)
 refine .V (nck rfl) ?_
 refine st (p := pv4) (off := 0) (k := 4) (vs := [.slice a39 1 c9]) rfl rfl rfl (fun w => (tO193 w).2) rfl rfl rfl rfl ?_
 refine .nil ?_
 refine .res0 (.inr rfl) rfl (inl_back (v := .tuple #[]) q71 rfl ?_)
 refine .nil (.seqN (.region (.V mv0 ?_)))
 refine .V mv0 ?_
 refine .inlV Tryz.func167 rfl Tryz.ntmps167 Tryz.call167 tm201_Len rfl (cellB (off := 0) (k := 4) rfl rfl) rfl rfl (fun a40 q73 => ?_)
 refine .sel0 [1, 2, 3, 4, 5, 6, 7, 8, 9, 10] (by decide) rfl ?_
 refine .KA [Box pv6 [.int .u32 0, iV 2, iV 2, iV 0], OwnSl 196 1 a39 1 c9 [.pointer (some pv6)], OwnSl 165 2 a27 2 c8 [.int .u32 0, iV 2, .int .u32 3, iV 2], Box pv4 [.slice a39 1 c9, .map (some bv3), iV 2], OwnMapI bv3 .u32 (fun v : Value => v) ([(0, .pointer (some pv6))] : List (Int × Value)), OwnMapI bv2 .u32 (fun v : Value => v) ([(0, iV 2), (3, iV 0)] : List (Int × Value)), Box pback [.map (some bv)], OwnMapI bv .u32 (fun v : Value => v) ([(3, .slice a27 2 c8)] : List (Int × Value)), MkA (D2 :: D :: []), Box pv [iV 0, iV 0]] ?_
 refine .seq (.region (.V ag0 ?_))
 refine .nil (.seqN (.seq (.region (.V mv0 ?_))))
 refine .V (ln rfl tS193.is) ?_
 refine .V ag0 ?_
 refine .nil (.seqN (.ret ?_))
 refine .res1 rfl (rvT rfl) (inl_back (v := iV 1) q73 rfl ?_)
 refine .V bi0 ?_
 refine .inl Tryz.func146 rfl Tryz.ntmps146 Tryz.call146 rfl rfl rfl rfl (fun a41 q74 => ?_)
 refine .KA [Box pv6 [.int .u32 0, iV 2, iV 2, iV 0], OwnSl 196 1 a39 1 c9 [.pointer (some pv6)], OwnSl 165 2 a27 2 c8 [.int .u32 0, iV 2, .int .u32 3, iV 2], Box pv4 [.slice a39 1 c9, .map (some bv3), iV 2], OwnMapI bv3 .u32 (fun v : Value => v) ([(0, .pointer (some pv6))] : List (Int × Value)), OwnMapI bv2 .u32 (fun v : Value => v) ([(0, iV 2), (3, iV 0)] : List (Int × Value)), Box pback [.map (some bv)], OwnMapI bv .u32 (fun v : Value => v) ([(3, .slice a27 2 c8)] : List (Int × Value)), MkA (D2 :: D :: []), Box pv [iV 0, iV 0]] ?_
 refine .block ?_
 refine .rounds 90 ?_
 refine .block (.seq (.region (.V mv0 ?_)))
 refine .V bi0 ?_
 refine .V (bq rfl rfl (by decide)) ?_
 refine .V ag0 ?_
 refine .nil (.seqN (.seq (.seq (.region (.V mv0 ?_)))))
 refine .V mv0 ?_
 refine .V bi0 ?_
 refine .V mv0 ?_
 refine .gS rfl rfl rfl rfl rfl rfl ?_
 refine .gS rfl rfl rfl rfl rfl rfl ?_
 refine .gS rfl rfl rfl rfl rfl rfl ?_
 refine .gS rfl rfl rfl rfl rfl rfl ?_
 refine .gS rfl rfl rfl rfl rfl rfl ?_
 refine .V (pkT rfl rfl rfl) ?_
 refine .nil (.seqN ?_)
 refine .cond rfl (fun _ => ?_) (fun e => absurd (e.symm.trans rfl) (by decide))
 refine .exit (.seqX ?_)
 refine .blkY rfl ?_
 refine .seqX (.blkX ?_)
 refine .res0 (.inr rfl) rfl (inl_back (v := .tuple #[]) q74 rfl ?_)
 refine .nil ?_
 refine .res0 (.inr rfl) rfl (inl_back (v := .tuple #[]) q70 rfl ?_)
 refine .nil ?_
 refine .res0 (.inr rfl) rfl (inl_back (v := .tuple #[]) q69 rfl ?_)
 refine .nil (.blkN (.seqN (.region (.V bi0 ?_))))
 refine .V mv0 ?_
 refine .nil ?_
 refine .more ?_
 refine .sub (s' := [(5, .pointer (some pback)), (6, .map (some bv2)), (7, .pointer (some pv4)), (12, iV 0), (64, .slice a27 2 c8), (65, iV 2), (66, iV 1)]) sb ?_
 refine .KA [Box pv6 [.int .u32 0, iV 2, iV 2, iV 0], OwnSl 196 1 a39 1 c9 [.pointer (some pv6)], OwnSl 165 2 a27 2 c8 [.int .u32 0, iV 2, .int .u32 3, iV 2], Box pv4 [.slice a39 1 c9, .map (some bv3), iV 2], OwnMapI bv3 .u32 (fun v : Value => v) ([(0, .pointer (some pv6))] : List (Int × Value)), OwnMapI bv2 .u32 (fun v : Value => v) ([(0, iV 2), (3, iV 0)] : List (Int × Value)), Box pback [.map (some bv)], OwnMapI bv .u32 (fun v : Value => v) ([(3, .slice a27 2 c8)] : List (Int × Value)), MkA (D2 :: D :: []), Box pv [iV 0, iV 0]] ?_
 refine .seq (.region (.V bi0 ?_))
 refine .nil (.seqN (.seq ?_))
 refine .cond rfl (fun _ => ?_) (fun e => absurd (e.symm.trans rfl) (by decide))
 refine .skip (.seqN (.seq (.block (.seq (.region (.V (ixS rfl rfl tS163 (k := 2) rfl (And.intro (by decide) (by decide))) ?_))))))
 refine .V (ldA (cs := [.int .u32 3, iV 2]) rfl tA165 rfl (cellsO (k := 2) rfl (rawE rfl))) ?_
 refine al tZ165 rfl (fun pa2 => ?_)
 refine st (p := pa2) (off := 0) (k := 0) (vs := [.int .u32 3, iV 2]) rfl rfl rfl (fun w => (tA165 w).2) rfl rfl rfl rfl ?_
 refine .nil (.seqN (.seq (.region (.V mv0 ?_))))
 refine .V (fa rfl tF165_1) ?_
 refine .V (ld1 rfl tO3 (cellB (off := 1) (k := 0) rfl rfl)) ?_
 refine .V bi0 ?_
 refine .V mv0 ?_
 refine .V (fa rfl tF165_0) ?_
 refine .V (ld1 rfl tO60 (cellB (off := 0) (k := 0) rfl rfl)) ?_
 refine .V (lkI (enc := fun v : Value => v) (m := ([(0, iV 2), (3, iV 0)] : List (Int × Value))) (k := 3) (iV 0) tMR141 rfl rfl (q := 6) rfl) ?_
 refine .V bi0 ?_
 refine .nil (.seqN ?_)
 refine .cond rfl (fun e => absurd (e.symm.trans rfl) (by decide)) (fun _ => ?_)
 refine .skip (.blkN (.seqN (.region (.V bi0 ?_))))
 refine .V mv0 ?_
 refine .nil ?_
 refine .more ?_
 refine .sub (s' := [(5, .pointer (some pback)), (6, .map (some bv2)), (7, .pointer (some pv4)), (12, iV 0), (64, .slice a27 2 c8), (65, iV 2), (66, iV 2)]) sb ?_
 refine .sel0 [1, 2, 3, 4, 5, 6, 7, 8, 9, 10] (by decide) rfl ?_
 refine .KA [Box pv6 [.int .u32 0, iV 2, iV 2, iV 0], OwnSl 196 1 a39 1 c9 [.pointer (some pv6)], OwnSl 165 2 a27 2 c8 [.int .u32 0, iV 2, .int .u32 3, iV 2], Box pv4 [.slice a39 1 c9, .map (some bv3), iV 2], OwnMapI bv3 .u32 (fun v : Value => v) ([(0, .pointer (some pv6))] : List (Int × Value)), OwnMapI bv2 .u32 (fun v : Value => v) ([(0, iV 2), (3, iV 0)] : List (Int × Value)), Box pback [.map (some bv)], OwnMapI bv .u32 (fun v : Value => v) ([(3, .slice a27 2 c8)] : List (Int × Value)), MkA (D2 :: D :: []), Box pv [iV 0, iV 0]] ?_
 refine .seq (.region (.V bi0 ?_))
 refine .nil (.seqN (.seq ?_))
 refine .cond rfl (fun e => absurd (e.symm.trans rfl) (by decide)) (fun _ => ?_)
 refine .exit (.seqX (.seqX (.blkX (.blkN ?_))))
 refine .more ?_
 refine .sub (s' := [(5, .pointer (some pback)), (6, .map (some bv2)), (7, .pointer (some pv4))]) sb ?_
 refine .KA [Box pv6 [.int .u32 0, iV 2, iV 2, iV 0], OwnSl 196 1 a39 1 c9 [.pointer (some pv6)], OwnSl 165 2 a27 2 c8 [.int .u32 0, iV 2, .int .u32 3, iV 2], Box pv4 [.slice a39 1 c9, .map (some bv3), iV 2], OwnMapI bv3 .u32 (fun v : Value => v) ([(0, .pointer (some pv6))] : List (Int × Value)), OwnMapI bv2 .u32 (fun v : Value => v) ([(0, iV 2), (3, iV 0)] : List (Int × Value)), Box pback [.map (some bv)], OwnMapI bv .u32 (fun v : Value => v) ([(3, .slice a27 2 c8)] : List (Int × Value)), MkA (D2 :: D :: []), Box pv [iV 0, iV 0]] ?_
 refine .seq (.seq (.region (.V mv0 ?_)))
 refine .inl Tryz.func102 rfl Tryz.ntmps102 Tryz.call102 rfl rfl rfl rfl (fun a42 q75 => ?_)
 refine .KA [Box pv6 [.int .u32 0, iV 2, iV 2, iV 0], OwnSl 196 1 a39 1 c9 [.pointer (some pv6)], OwnSl 165 2 a27 2 c8 [.int .u32 0, iV 2, .int .u32 3, iV 2], Box pv4 [.slice a39 1 c9, .map (some bv3), iV 2], OwnMapI bv3 .u32 (fun v : Value => v) ([(0, .pointer (some pv6))] : List (Int × Value)), OwnMapI bv2 .u32 (fun v : Value => v) ([(0, iV 2), (3, iV 0)] : List (Int × Value)), Box pback [.map (some bv)], OwnMapI bv .u32 (fun v : Value => v) ([(3, .slice a27 2 c8)] : List (Int × Value)), MkA (D2 :: D :: []), Box pv [iV 0, iV 0]] ?_
 refine .seq (.region (.V ag0 ?_))
 refine .nil (.seqN (.seq (.region (.V mv0 ?_))))
 refine .V (nck rfl) ?_
 refine .V (fa rfl tF195_0) ?_
 refine .V (ld1 rfl tO193 (cellB (off := 0) (k := 3) rfl rfl)) ?_
 refine .V (ln rfl tS193.is) ?_
 refine .V ag0 ?_
 refine .nil (.seqN (.ret ?_))
 refine .res1 rfl (rvT rfl) (inl_back (v := iV 1) q75 rfl ?_)
 refine .V bi0 ?_
 refine .nil (.seqN ?_)
 refine .cond rfl (fun _ => ?_) (fun e => absurd (e.symm.trans rfl) (by decide))
 refine .skip (.seqN (.block (.seq (.region (.V mv0 ?_)))))
 refine .inl Tryz.func103 rfl Tryz.ntmps103 Tryz.call103 rfl rfl rfl rfl (fun a43 q76 => ?_)
 refine .KA [Box pv6 [.int .u32 0, iV 2, iV 2, iV 0], OwnSl 196 1 a39 1 c9 [.pointer (some pv6)], OwnSl 165 2 a27 2 c8 [.int .u32 0, iV 2, .int .u32 3, iV 2], Box pv4 [.slice a39 1 c9, .map (some bv3), iV 2], OwnMapI bv3 .u32 (fun v : Value => v) ([(0, .pointer (some pv6))] : List (Int × Value)), OwnMapI bv2 .u32 (fun v : Value => v) ([(0, iV 2), (3, iV 0)] : List (Int × Value)), Box pback [.map (some bv)], OwnMapI bv .u32 (fun v : Value => v) ([(3, .slice a27 2 c8)] : List (Int × Value)), MkA (D2 :: D :: []), Box pv [iV 0, iV 0]] ?_
 refine .seq (.region (.V ag0 ?_))
 refine .V ag0 ?_
 refine .V ag0 ?_
 refine .nil (.seqN (.seq (.seq (.region (.V mv0 ?_)))))
 refine .V (nck rfl) ?_
 refine .V (fa rfl tF195_0) ?_
 refine .V (ld1 rfl tO193 (cellB (off := 0) (k := 3) rfl rfl)) ?_
 refine .V (ln rfl tS193.is) ?_
 refine .V bi0 ?_
 refine .nil (.seqN ?_)
 refine .cond rfl (fun e => absurd (e.symm.trans rfl) (by decide)) (fun _ => ?_)
 refine .skip (.seqN (.seq (.region (.V mv0 ?_))))
 refine .V (nck rfl) ?_
 refine .V (fa rfl tF195_0) ?_
 refine .V (mkI tC201 rfl) ?_
 refine .inl Tryz.func133 rfl Tryz.ntmps133 Tryz.call133 rfl rfl rfl rfl (fun a44 q77 => ?_)
 refine .KA [Box pv6 [.int .u32 0, iV 2, iV 2, iV 0], OwnSl 196 1 a39 1 c9 [.pointer (some pv6)], OwnSl 165 2 a27 2 c8 [.int .u32 0, iV 2, .int .u32 3, iV 2], Box pv4 [.slice a39 1 c9, .map (some bv3), iV 2], OwnMapI bv3 .u32 (fun v : Value => v) ([(0, .pointer (some pv6))] : List (Int × Value)), OwnMapI bv2 .u32 (fun v : Value => v) ([(0, iV 2), (3, iV 0)] : List (Int × Value)), Box pback [.map (some bv)], OwnMapI bv .u32 (fun v : Value => v) ([(3, .slice a27 2 c8)] : List (Int × Value)), MkA (D2 :: D :: []), Box pv [iV 0, iV 0]] ?_
 refine .seq (.region (.V ag0 ?_))
 refine .nil (.seqN (.seq (.region (.V mv0 ?_))))
 refine .inlV Tryz.func167 rfl Tryz.ntmps167 Tryz.call167 tm201_Len rfl (cellB (off := 0) (k := 3) rfl rfl) rfl rfl (fun a45 q78 => ?_)
 refine .KA [Box pv6 [.int .u32 0, iV 2, iV 2, iV 0], OwnSl 196 1 a39 1 c9 [.pointer (some pv6)], OwnSl 165 2 a27 2 c8 [.int .u32 0, iV 2, .int .u32 3, iV 2], Box pv4 [.slice a39 1 c9, .map (some bv3), iV 2], OwnMapI bv3 .u32 (fun v : Value => v) ([(0, .pointer (some pv6))] : List (Int × Value)), OwnMapI bv2 .u32 (fun v : Value => v) ([(0, iV 2), (3, iV 0)] : List (Int × Value)), Box pback [.map (some bv)], OwnMapI bv .u32 (fun v : Value => v) ([(3, .slice a27 2 c8)] : List (Int × Value)), MkA (D2 :: D :: []), Box pv [iV 0, iV 0]] ?_
 refine .seq (.region (.V ag0 ?_))
 refine .nil (.seqN (.seq (.region (.V mv0 ?_))))
 refine .V (ln rfl tS193.is) ?_
 refine .V ag0 ?_
 refine .nil (.seqN (.ret ?_))
 refine .res1 rfl (rvT rfl) (inl_back (v := iV 1) q78 rfl ?_)
 refine .V bi0 ?_
 refine .V ag0 ?_
 refine .nil (.seqN (.seq (.region (.V mv0 ?_))))
 refine .V mv0 ?_
 refine .inlV Tryz.func169 rfl Tryz.ntmps169 Tryz.call169 tm201_Swap rfl (cellB (off := 0) (k := 3) rfl rfl) rfl rfl (fun a46 q79 => ?_)
 refine .KA [Box pv6 [.int .u32 0, iV 2, iV 2, iV 0], OwnSl 196 1 a39 1 c9 [.pointer (some pv6)], OwnSl 165 2 a27 2 c8 [.int .u32 0, iV 2, .int .u32 3, iV 2], Box pv4 [.slice a39 1 c9, .map (some bv3), iV 2], OwnMapI bv3 .u32 (fun v : Value => v) ([(0, .pointer (some pv6))] : List (Int × Value)), OwnMapI bv2 .u32 (fun v : Value => v) ([(0, iV 2), (3, iV 0)] : List (Int × Value)), Box pback [.map (some bv)], OwnMapI bv .u32 (fun v : Value => v) ([(3, .slice a27 2 c8)] : List (Int × Value)), MkA (D2 :: D :: []), Box pv [iV 0, iV 0]] ?_
 refine .seq ?_
 refine .openA (s0 := [(0, .slice a39 1 c9), (1, iV 0), (2, iV 0)]) [0, 1, 2, 3, 4, 5, 6, 7, 8, 9, 10, 11, 12] [(0, .slice a39 1 c9), (1, iV 0), (2, .slice a39 1 c9), (3, iV 0), (4, .slice a39 1 c9), (5, iV 0), (6, .pointer (some (ead a39 ((0 : Int).toNat * 1)))), (7, .pointer (some pv6)), (8, .slice a39 1 c9), (9, iV 0), (10, .pointer (some (ead a39 ((0 : Int).toNat * 1)))), (11, .pointer (some pv6)), (12, .pointer (some (ead a39 ((0 : Int).toNat * 1))))] (by kernel_rfl) sb [0, 1, 2] [] rfl (by kernel_rfl) ?_
 refine .step [13] 13 rfl (by kernel_rfl) (by kernel_rfl) (.v [] rfl rfl rfl rfl rfl rfl (fun _ => mv rfl) (.v [] rfl rfl rfl rfl rfl rfl (fun _ => mv rfl) (.v [] rfl rfl rfl rfl rfl rfl (fun _ => mv rfl) (.v [] rfl rfl rfl rfl rfl rfl (fun _ => mv rfl) (.v [] rfl rfl rfl rfl rfl rfl (fun _ => mv rfl) (.v [] rfl rfl rfl rfl rfl rfl (fun _ => mv rfl) (.v [(10, .slice a39 1 c9), (11, iV 0)] rfl rfl rfl rfl rfl rfl (fun _ => ixS rfl rfl tS193 (k := 1) rfl (And.intro (by decide) (by decide))) (.v [(12, .pointer (some (ead a39 ((0 : Int).toNat * 1))))] rfl rfl rfl rfl rfl rfl (fun _ => ld1 (v := .pointer (some pv6)) rfl tO196 (cellS (k := 1) rfl rfl)) (.v [] rfl rfl rfl rfl rfl rfl (fun _ => mv rfl) (.v [] rfl rfl rfl rfl rfl rfl (fun _ => mv rfl) (.v [(14, .slice a39 1 c9), (15, iV 0)] rfl rfl rfl rfl rfl rfl (fun _ => ixS rfl rfl tS193 (k := 1) rfl (And.intro (by decide) (by decide))) (.v [(16, .pointer (some (ead a39 ((0 : Int).toNat * 1))))] rfl rfl rfl rfl rfl rfl (fun _ => ld1 (v := .pointer (some pv6)) rfl tO196 (cellS (k := 1) rfl rfl)) (.v [(6, .slice a39 1 c9), (7, iV 0), (6, .slice a39 1 c9), (7, iV 0), (10, .slice a39 1 c9), (11, iV 0), (12, .pointer (some (ead a39 ((0 : Int).toNat * 1)))), (13, .pointer (some pv6)), (17, .pointer (some pv6))] rfl rfl rfl rfl rfl rfl (fun _ => ixS rfl rfl tS193 (k := 1) rfl (And.intro (by decide) (by decide))) (.nil)))))))))))))) (.cons [(18, .pointer (some (ead a39 ((0 : Int).toNat * 1)))), (13, .pointer (some pv6)), (6, .slice a39 1 c9), (7, iV 0), (10, .slice a39 1 c9), (11, iV 0), (12, .pointer (some (ead a39 ((0 : Int).toNat * 1)))), (13, .pointer (some pv6)), (17, .pointer (some pv6))] rfl rfl (fun sL hL => ?_) (.nil))
 refine stS (k := 1) (cs' := [.pointer (some pv6)]) rfl (fun _ => rfl) rfl rfl (fun w => (tO196 w).2) rfl rfl rfl (by decide) (Nat.le_of_ble_eq_true rfl) rfl ?_
 refine .nil ?_
 refine .jaN (M := [12, 7, 0, 1, 4, 5, 6, 11, 10, 8, 9]) (C' := [2, 3, 14]) (pre := [(14, .pointer (some (ead a39 ((0 : Int).toNat * 1))))]) [0, 1, 2] hL rfl rfl rfl rfl rfl (by kernel_rfl) ?_
 refine .step [15] 15 rfl (by kernel_rfl) (by kernel_rfl) (.v [] rfl rfl rfl rfl rfl rfl (fun _ => mv rfl) (.v [] rfl rfl rfl rfl rfl rfl (fun _ => mv rfl) (.v [(8, .slice a39 1 c9), (9, iV 0), (6, .slice a39 1 c9), (7, iV 0), (8, .slice a39 1 c9), (9, iV 0), (10, .slice a39 1 c9), (11, iV 0), (12, .pointer (some (ead a39 ((0 : Int).toNat * 1)))), (13, .pointer (some pv6)), (14, .slice a39 1 c9), (15, iV 0), (16, .pointer (some (ead a39 ((0 : Int).toNat * 1)))), (17, .pointer (some pv6)), (18, .pointer (some (ead a39 ((0 : Int).toNat * 1))))] rfl rfl rfl rfl rfl rfl (fun _ => ixS rfl rfl tS193 (k := 1) rfl (And.intro (by decide) (by decide))) (.nil)))) (.cons [(19, .pointer (some (ead a39 ((0 : Int).toNat * 1)))), (17, .pointer (some pv6)), (6, .slice a39 1 c9), (7, iV 0), (8, .slice a39 1 c9), (9, iV 0), (10, .slice a39 1 c9), (11, iV 0), (12, .pointer (some (ead a39 ((0 : Int).toNat * 1)))), (13, .pointer (some pv6)), (14, .slice a39 1 c9), (15, iV 0), (16, .pointer (some (ead a39 ((0 : Int).toNat * 1)))), (17, .pointer (some pv6)), (18, .pointer (some (ead a39 ((0 : Int).toNat * 1))))] rfl rfl (fun sL hL => ?_) (.nil))
 refine stS (k := 1) (cs' := [.pointer (some pv6)]) rfl (fun _ => rfl) rfl rfl (fun w => (tO196 w).2) rfl rfl rfl (by decide) (Nat.le_of_ble_eq_true rfl) rfl ?_
 refine .nil ?_
 refine .jaN (M := [14, 2, 3]) (C' := []) (pre := []) [0, 1, 2] hL rfl rfl rfl rfl rfl (by kernel_rfl) ?_
 refine .last [(6, .slice a39 1 c9), (7, iV 0), (8, .slice a39 1 c9), (9, iV 0), (10, .slice a39 1 c9), (11, iV 0), (12, .pointer (some (ead a39 ((0 : Int).toNat * 1)))), (13, .pointer (some pv6)), (14, .slice a39 1 c9), (15, iV 0), (16, .pointer (some (ead a39 ((0 : Int).toNat * 1)))), (17, .pointer (some pv6)), (18, .pointer (some (ead a39 ((0 : Int).toNat * 1)))), (19, .pointer (some (ead a39 ((0 : Int).toNat * 1))))] rfl (by kernel_rfl) (.nil) rfl ?_
 refine .seqN ?_
 refine .openA (s0 := [(0, .slice a39 1 c9), (1, iV 0), (2, iV 0)]) [0, 1, 2, 3, 4, 5, 6, 7, 8, 9, 10, 11] [(0, .slice a39 1 c9), (1, iV 0), (2, .pointer (some (ead a39 ((0 : Int).toNat * 1)))), (3, .pointer (some pv6)), (4, .slice a39 1 c9), (5, iV 0), (6, .pointer (some (ead a39 ((0 : Int).toNat * 1)))), (7, .pointer (some pv6)), (8, iV 0), (9, iV 0), (10, .pointer (some pv6)), (11, .pointer (some (pv6.add 3)))] (by kernel_rfl) sb [0, 1, 2] [] rfl (by kernel_rfl) ?_
 refine .step [12] 12 rfl (by kernel_rfl) (by kernel_rfl) (.v [] rfl rfl rfl rfl rfl rfl (fun _ => mv rfl) (.v [] rfl rfl rfl rfl rfl rfl (fun _ => mv rfl) (.v [(20, .slice a39 1 c9), (21, iV 0)] rfl rfl rfl rfl rfl rfl (fun _ => ixS rfl rfl tS193 (k := 1) rfl (And.intro (by decide) (by decide))) (.v [(22, .pointer (some (ead a39 ((0 : Int).toNat * 1))))] rfl rfl rfl rfl rfl rfl (fun _ => ld1 (v := .pointer (some pv6)) rfl tO196 (cellS (k := 1) rfl rfl)) (.v [] rfl rfl rfl rfl rfl rfl (fun _ => mv rfl) (.v [] rfl rfl rfl rfl rfl rfl (fun _ => mv rfl) (.v [(24, .slice a39 1 c9), (25, iV 0)] rfl rfl rfl rfl rfl rfl (fun _ => ixS rfl rfl tS193 (k := 1) rfl (And.intro (by decide) (by decide))) (.v [(26, .pointer (some (ead a39 ((0 : Int).toNat * 1))))] rfl rfl rfl rfl rfl rfl (fun _ => ld1 (v := .pointer (some pv6)) rfl tO196 (cellS (k := 1) rfl rfl)) (.v [] rfl rfl rfl rfl rfl rfl (fun _ => mv rfl) (.v [] rfl rfl rfl rfl rfl rfl (fun _ => mv rfl) (.v [(23, .pointer (some pv6)), (20, .slice a39 1 c9), (21, iV 0), (22, .pointer (some (ead a39 ((0 : Int).toNat * 1)))), (23, .pointer (some pv6)), (27, .pointer (some pv6)), (28, iV 0)] rfl rfl rfl rfl rfl rfl (fun _ => nck rfl) (.v [(30, .pointer (some pv6)), (20, .slice a39 1 c9), (21, iV 0), (22, .pointer (some (ead a39 ((0 : Int).toNat * 1)))), (23, .pointer (some pv6)), (27, .pointer (some pv6)), (28, iV 0)] rfl rfl rfl rfl rfl rfl (fun _ => fa rfl tF199_3) (.nil))))))))))))) (.cons [(31, .pointer (some (pv6.add 3))), (28, iV 0), (20, .slice a39 1 c9), (21, iV 0), (22, .pointer (some (ead a39 ((0 : Int).toNat * 1)))), (23, .pointer (some pv6)), (27, .pointer (some pv6)), (28, iV 0)] rfl rfl (fun sL hL => ?_) (.nil))
 refine st (p := pv6) (off := 3) (k := 0) (vs := [iV 0]) rfl rfl rfl (fun w => (tO3 w).2) rfl rfl rfl rfl ?_
 refine .nil ?_
 refine .jaN (M := [11, 8, 0, 1, 2, 3, 7, 10, 6, 4, 5]) (C' := [9, 13, 14]) (pre := [(13, .pointer (some pv6)), (14, .pointer (some (pv6.add 3)))]) [0, 1, 2] hL rfl rfl rfl rfl rfl (by kernel_rfl) ?_
 refine .step [15] 15 rfl (by kernel_rfl) (by kernel_rfl) (.v [] rfl rfl rfl rfl rfl rfl (fun _ => mv rfl) (.v [(27, .pointer (some pv6)), (20, .slice a39 1 c9), (21, iV 0), (22, .pointer (some (ead a39 ((0 : Int).toNat * 1)))), (23, .pointer (some pv6)), (24, .slice a39 1 c9), (25, iV 0), (26, .pointer (some (ead a39 ((0 : Int).toNat * 1)))), (27, .pointer (some pv6)), (28, iV 0), (29, iV 0), (30, .pointer (some pv6)), (31, .pointer (some (pv6.add 3)))] rfl rfl rfl rfl rfl rfl (fun _ => nck rfl) (.v [(32, .pointer (some pv6)), (20, .slice a39 1 c9), (21, iV 0), (22, .pointer (some (ead a39 ((0 : Int).toNat * 1)))), (23, .pointer (some pv6)), (24, .slice a39 1 c9), (25, iV 0), (26, .pointer (some (ead a39 ((0 : Int).toNat * 1)))), (27, .pointer (some pv6)), (28, iV 0), (29, iV 0), (30, .pointer (some pv6)), (31, .pointer (some (pv6.add 3)))] rfl rfl rfl rfl rfl rfl (fun _ => fa rfl tF199_3) (.nil)))) (.cons [(33, .pointer (some (pv6.add 3))), (29, iV 0), (20, .slice a39 1 c9), (21, iV 0), (22, .pointer (some (ead a39 ((0 : Int).toNat * 1)))), (23, .pointer (some pv6)), (24, .slice a39 1 c9), (25, iV 0), (26, .pointer (some (ead a39 ((0 : Int).toNat * 1)))), (27, .pointer (some pv6)), (28, iV 0), (29, iV 0), (30, .pointer (some pv6)), (31, .pointer (some (pv6.add 3)))] rfl rfl (fun sL hL => ?_) (.nil))
 refine st (p := pv6) (off := 3) (k := 0) (vs := [iV 0]) rfl rfl rfl (fun w => (tO3 w).2) rfl rfl rfl rfl ?_
 refine .nil ?_
 refine .jaN (M := [14, 9, 13]) (C' := []) (pre := []) [0, 1, 2] hL rfl rfl rfl rfl rfl (by kernel_rfl) ?_
 refine .last [(20, .slice a39 1 c9), (21, iV 0), (22, .pointer (some (ead a39 ((0 : Int).toNat * 1)))), (23, .pointer (some pv6)), (24, .slice a39 1 c9), (25, iV 0), (26, .pointer (some (ead a39 ((0 : Int).toNat * 1)))), (27, .pointer (some pv6)), (28, iV 0), (29, iV 0), (30, .pointer (some pv6)), (31, .pointer (some (pv6.add 3))), (32, .pointer (some pv6)), (33, .pointer (some (pv6.add 3)))] rfl (by kernel_rfl) (.nil) rfl ?_
 refine .res0 (.inr rfl) rfl (inl_back (v := .tuple #[]) q79 rfl ?_)
 refine .nil (.seqN (.seq (.region (.V mv0 ?_))))
 refine .V mv0 ?_
 refine .inl Tryz.func145 rfl Tryz.ntmps145 Tryz.call145 rfl rfl rfl rfl (fun a47 q80 => ?_)
 refine .KA [Box pv6 [.int .u32 0, iV 2, iV 2, iV 0], OwnSl 196 1 a39 1 c9 [.pointer (some pv6)], OwnSl 165 2 a27 2 c8 [.int .u32 0, iV 2, .int .u32 3, iV 2], Box pv4 [.slice a39 1 c9, .map (some bv3), iV 2], OwnMapI bv3 .u32 (fun v : Value => v) ([(0, .pointer (some pv6))] : List (Int × Value)), OwnMapI bv2 .u32 (fun v : Value => v) ([(0, iV 2), (3, iV 0)] : List (Int × Value)), Box pback [.map (some bv)], OwnMapI bv .u32 (fun v : Value => v) ([(3, .slice a27 2 c8)] : List (Int × Value)), MkA (D2 :: D :: []), Box pv [iV 0, iV 0]] ?_
 refine .seq (.region (.V ag0 ?_))
 refine .nil (.seqN (.seq (.region (.V mv0 ?_))))
 refine .V ag0 ?_
 refine .nil (.seqN (.seq (.block ?_)))
 refine .rounds 90 ?_
 refine .block (.seq (.region (.V mv0 ?_)))
 refine .V bi0 ?_
 refine .V bi0 ?_
 refine .V ag0 ?_
 refine .nil (.seqN (.seq (.seq (.region (.V mv0 ?_)))))
 refine .V mv0 ?_
 refine .V bi0 ?_
 refine .V mv0 ?_
 refine .gS rfl rfl rfl rfl rfl rfl ?_
 refine .gS rfl rfl rfl rfl rfl rfl ?_
 refine .V (pkT rfl rfl rfl) ?_
 refine .nil (.seqN ?_)
 refine .cond rfl (fun _ => ?_) (fun e => absurd (e.symm.trans rfl) (by decide))
 refine .exit (.seqX ?_)
 refine .blkY rfl ?_
 refine .seqX (.blkX (.seqN (.seq (.region (.V mv0 ?_)))))
 refine .V mv0 ?_
 refine .V bi0 ?_
 refine .V ag0 ?_
 refine .nil (.seqN (.ret ?_))
 refine .res1 rfl (rvT rfl) (inl_back (v := .bool false) q80 rfl ?_)
 refine .nil (.seqN (.seq (.region (.V mv0 ?_))))
 refine .inlI Tryz.func170 rfl Tryz.ntmps170 Tryz.call170 tm201_Pop rfl rfl rfl (fun a48 q81 => ?_)
 refine .KA [Box pv6 [.int .u32 0, iV 2, iV 2, iV 0], OwnSl 196 1 a39 1 c9 [.pointer (some pv6)], OwnSl 165 2 a27 2 c8 [.int .u32 0, iV 2, .int .u32 3, iV 2], Box pv4 [.slice a39 1 c9, .map (some bv3), iV 2], OwnMapI bv3 .u32 (fun v : Value => v) ([(0, .pointer (some pv6))] : List (Int × Value)), OwnMapI bv2 .u32 (fun v : Value => v) ([(0, iV 2), (3, iV 0)] : List (Int × Value)), Box pback [.map (some bv)], OwnMapI bv .u32 (fun v : Value => v) ([(3, .slice a27 2 c8)] : List (Int × Value)), MkA (D2 :: D :: []), Box pv [iV 0, iV 0]] ?_
 refine .seq (.region (.V ag0 ?_))
 refine .nil (.seqN (.seq (.region (.V mv0 ?_))))
 refine .V (nck rfl) ?_
 refine .V (ld1 rfl tO193 (cellB (off := 0) (k := 3) rfl rfl)) ?_
 refine .V ag0 ?_
 refine .nil (.seqN (.seq (.region (.V mv0 ?_))))
 refine .V mv0 ?_
 refine .V (ln rfl tS193.is) ?_
 refine .V bi0 ?_
 refine .V (ixS rfl rfl tS193 (k := 1) rfl (And.intro (by decide) (by decide))) ?_
 refine .V (ld1 (v := .pointer (some pv6)) rfl tO196 (cellS (k := 1) rfl rfl)) ?_
 refine .V ag0 ?_
 refine .nil (.seqN (.seq ?_))
 refine .fact (fun w S => look_len S (k := 1) rfl) (fun q82 => ?_)
 refine .region (.V mv0 ?_)
 refine .V mv0 ?_
 refine .V mv0 ?_
 refine .V (ln rfl tS193.is) ?_
 refine .V bi0 ?_
 refine .V (slH tS193 rfl rfl (by decide) rfl (Nat.le_trans (show 0 ≤ 1 by decide) q82)) ?_
 refine .shrink (k := 1) (cs' := []) rfl (show 0 ≤ 1 by decide) rfl ?_
 refine .V (nck rfl) ?_
 refine st (p := pv4) (off := 0) (k := 3) (vs := [.slice a39 0 c9]) rfl rfl rfl (fun w => (tO193 w).2) rfl rfl rfl rfl ?_
 refine .nil (.seqN (.seq (.region (.V mv0 ?_))))
 refine .V (mkI tC196 rfl) ?_
 refine .V ag0 ?_
 refine .nil (.seqN (.ret ?_))
 refine .res1 rfl (rvT rfl) (inl_back (v := .iface 196 (.pointer (some pv6))) q81 rfl ?_)
 refine .V ag0 ?_
 refine .nil (.seqN (.ret ?_))
 refine .res1 rfl (rvT rfl) (inl_back (v := .iface 196 (.pointer (some pv6))) q77 rfl ?_)
 refine .V (tas tC196 rfl) ?_
 refine .V ag0 ?_
 refine .nil (.seqN (.seq ?_))
 refine .openA (s0 := [(0, .pointer (some pv4)), (5, .pointer (some pv6))]) [0, 1, 2, 3, 4, 5, 6, 7] [(0, .pointer (some pv4)), (1, .pointer (some pv4)), (2, .pointer (some (pv4.add 1))), (3, .map (some bv3)), (4, .pointer (some pv6)), (5, .pointer (some pv6)), (6, .pointer (some (pv6.add 0))), (7, .int .u32 0)] (by kernel_rfl) sb [0, 5] [] rfl (by kernel_rfl) ?_
 refine .step [8] 8 rfl (by kernel_rfl) (by kernel_rfl) (.v [] rfl rfl rfl rfl rfl rfl (fun _ => mv rfl) (.v [(19, .pointer (some pv4))] rfl rfl rfl rfl rfl rfl (fun _ => nck rfl) (.v [(20, .pointer (some pv4))] rfl rfl rfl rfl rfl rfl (fun _ => fa rfl tF195_1) (.v [(21, .pointer (some (pv4.add 1)))] rfl rfl rfl rfl rfl rfl (fun _ => ld1 rfl tO191 (cellB (off := 1) (k := 3) rfl rfl)) (.v [] rfl rfl rfl rfl rfl rfl (fun _ => mv rfl) (.v [(23, .pointer (some pv6))] rfl rfl rfl rfl rfl rfl (fun _ => nck rfl) (.v [(24, .pointer (some pv6))] rfl rfl rfl rfl rfl rfl (fun _ => fa rfl tF199_0) (.v [(25, .pointer (some (pv6.add 0)))] rfl rfl rfl rfl rfl rfl (fun _ => ld1 rfl tO60 (cellB (off := 0) (k := 0) rfl rfl)) (.nil))))))))) (.cons [(22, .map (some bv3)), (26, .int .u32 0)] rfl rfl (fun sL hL => ?_) (.nil))
 refine dlI tMR191 rfl rfl (q := 4) rfl rfl ?_
 refine .nil ?_
 refine .jaN (M := [3, 7, 2, 6, 1, 5, 0, 4]) (C' := []) (pre := []) [0, 5] hL rfl rfl rfl rfl rfl (by kernel_rfl) ?_
 refine .last [(19, .pointer (some pv4)), (20, .pointer (some pv4)), (21, .pointer (some (pv4.add 1))), (22, .map (some bv3)), (23, .pointer (some pv6)), (24, .pointer (some pv6)), (25, .pointer (some (pv6.add 0))), (26, .int .u32 0)] rfl (by kernel_rfl) (.nil) rfl ?_
 refine .seqN (.seq ?_)
 refine .openA (s0 := [(5, .pointer (some pv6))]) [0, 1, 2, 3, 4, 5, 6, 7, 8, 9, 10] [(0, .pointer (some pv6)), (1, .pointer (some pv6)), (2, .pointer (some (pv6.add 0))), (3, .int .u32 0), (4, .pointer (some pv6)), (5, .pointer (some pv6)), (6, .pointer (some (pv6.add 1))), (7, iV 2), (8, .int .u32 0), (9, iV 2), (10, .bool true)] (by kernel_rfl) sb [5] [] rfl (by kernel_rfl) ?_
 refine .last [(27, .pointer (some pv6)), (28, .pointer (some pv6)), (29, .pointer (some (pv6.add 0))), (30, .int .u32 0), (31, .pointer (some pv6)), (32, .pointer (some pv6)), (33, .pointer (some (pv6.add 1))), (34, iV 2), (2, .int .u32 0), (3, iV 2), (4, .bool true)] rfl (by kernel_rfl) (.v [] rfl rfl rfl rfl rfl rfl (fun _ => mv rfl) (.v [(27, .pointer (some pv6))] rfl rfl rfl rfl rfl rfl (fun _ => nck rfl) (.v [(28, .pointer (some pv6))] rfl rfl rfl rfl rfl rfl (fun _ => fa rfl tF199_0) (.v [(29, .pointer (some (pv6.add 0)))] rfl rfl rfl rfl rfl rfl (fun _ => ld1 rfl tO60 (cellB (off := 0) (k := 0) rfl rfl)) (.v [] rfl rfl rfl rfl rfl rfl (fun _ => mv rfl) (.v [(31, .pointer (some pv6))] rfl rfl rfl rfl rfl rfl (fun _ => nck rfl) (.v [(32, .pointer (some pv6))] rfl rfl rfl rfl rfl rfl (fun _ => fa rfl tF199_1) (.v [(33, .pointer (some (pv6.add 1)))] rfl rfl rfl rfl rfl rfl (fun _ => ld1 rfl tO3 (cellB (off := 1) (k := 0) rfl rfl)) (.v [(30, .int .u32 0), (27, .pointer (some pv6)), (28, .pointer (some pv6)), (29, .pointer (some (pv6.add 0))), (30, .int .u32 0)] rfl rfl rfl rfl rfl rfl (fun _ => asg rfl) (.v [(34, iV 2), (2, .int .u32 0), (27, .pointer (some pv6)), (28, .pointer (some pv6)), (29, .pointer (some (pv6.add 0))), (30, .int .u32 0), (31, .pointer (some pv6)), (32, .pointer (some pv6)), (33, .pointer (some (pv6.add 1))), (34, iV 2), (2, .int .u32 0)] rfl rfl rfl rfl rfl rfl (fun _ => asg rfl) (.v [(3, iV 2), (27, .pointer (some pv6)), (28, .pointer (some pv6)), (29, .pointer (some (pv6.add 0))), (30, .int .u32 0), (31, .pointer (some pv6)), (32, .pointer (some pv6)), (33, .pointer (some (pv6.add 1))), (34, iV 2), (2, .int .u32 0), (3, iV 2)] rfl rfl rfl rfl rfl rfl (fun _ => asg rfl) (.nil)))))))))))) rfl ?_
 refine .seqN (.ret ?_)
 refine .res3 rfl (rvT rfl) (rvT rfl) (rvT rfl) (inl_back (v := .tuple #[.int .u32 0, iV 2, .bool true]) q76 rfl ?_)
 refine .V mv0 ?_
 refine .V (ext rfl rfl) ?_
 refine .V (ext rfl rfl) ?_
 refine .V (ext rfl rfl) ?_
 refine .V ag0 ?_
 refine .V ag0 ?_
 refine .V ag0 ?_
 refine .nil (.seqN (.seq (.region (.V (ld1 rfl tO159 (cellB (off := 0) (k := 6) rfl rfl)) ?_))))
 refine .V mv0 ?_
 refine .V (lkI (enc := fun v : Value => v) (m := ([(3, .slice a27 2 c8)] : List (Int × Value))) (k := 0) (.slice none 0 0) tMR159 rfl rfl (q := 7) rfl) ?_
 refine .V (ln rfl tS163.is) ?_
 refine .V mv0 ?_
 refine .nil (.seqN (.block ?_))
 refine .rounds 90 ?_
 refine .seq (.region (.V bi0 ?_))
 refine .nil (.seqN (.seq ?_))
 refine .cond rfl (fun e => absurd (e.symm.trans rfl) (by decide)) (fun _ => ?_)
 refine .exit (.seqX (.seqX (.blkX (.blkN ?_))))
 refine .more ?_
 refine .sub (s' := [(5, .pointer (some pback)), (6, .map (some bv2)), (7, .pointer (some pv4))]) sb ?_
 refine .sel0 [1, 2, 3, 4, 5, 6, 7, 8, 9] (by decide) rfl ?_
 refine .KA [OwnSl 196 1 a39 0 c9 [], OwnSl 165 2 a27 2 c8 [.int .u32 0, iV 2, .int .u32 3, iV 2], Box pv4 [.slice a39 0 c9, .map (some bv3), iV 2], OwnMapI bv3 .u32 (fun v : Value => v) ([] : List (Int × Value)), OwnMapI bv2 .u32 (fun v : Value => v) ([(0, iV 2), (3, iV 0)] : List (Int × Value)), Box pback [.map (some bv)], OwnMapI bv .u32 (fun v : Value => v) ([(3, .slice a27 2 c8)] : List (Int × Value)), MkA (D2 :: D :: []), Box pv [iV 0, iV 0]] ?_
 refine .seq (.seq (.region (.V mv0 ?_)))
 refine .inl Tryz.func102 rfl Tryz.ntmps102 Tryz.call102 rfl rfl rfl rfl (fun a49 q83 => ?_)
 refine .KA [OwnSl 196 1 a39 0 c9 [], OwnSl 165 2 a27 2 c8 [.int .u32 0, iV 2, .int .u32 3, iV 2], Box pv4 [.slice a39 0 c9, .map (some bv3), iV 2], OwnMapI bv3 .u32 (fun v : Value => v) ([] : List (Int × Value)), OwnMapI bv2 .u32 (fun v : Value => v) ([(0, iV 2), (3, iV 0)] : List (Int × Value)), Box pback [.map (some bv)], OwnMapI bv .u32 (fun v : Value => v) ([(3, .slice a27 2 c8)] : List (Int × Value)), MkA (D2 :: D :: []), Box pv [iV 0, iV 0]] ?_
 refine .seq (.region (.V ag0 ?_))
 refine .nil (.seqN (.seq (.region (.V mv0 ?_))))
 refine .V (nck rfl) ?_
 refine .V (fa rfl tF195_0) ?_
 refine .V (ld1 rfl tO193 (cellB (off := 0) (k := 2) rfl rfl)) ?_
 refine .V (ln rfl tS193.is) ?_
 refine .V ag0 ?_
 refine .nil (.seqN (.ret ?_))
 refine .res1 rfl (rvT rfl) (inl_back (v := iV 0) q83 rfl ?_)
 refine .V bi0 ?_
 refine .nil (.seqN ?_)
 refine .cond rfl (fun e => absurd (e.symm.trans rfl) (by decide)) (fun _ => ?_)
 refine .exit (.seqX (.seqX (.blkX (.seqN (.seq (.region (.V mv0 ?_)))))))
 refine .V ag0 ?_
 refine .nil (.seqN (.ret ?_))
 refine .resM (k := 7) rfl ?_
 refine .res1 rfl (rvT rfl) (inl_back (v := .map (some bv2)) q40 rfl ?_)
 refine .V mv0 ?_
 refine .inl Tryz.func80 rfl Tryz.ntmps80 Tryz.call80 rfl rfl rfl rfl (fun a50 q84 => ?_)
 refine .sel0 [4, 8] (by decide) rfl ?_
 refine .KA [OwnMapI bv2 .u32 (fun v : Value => v) ([(0, iV 2), (3, iV 0)] : List (Int × Value)), Box pv [iV 0, iV 0]] ?_
 refine .seq (.region (.V ag0 ?_))
 refine .nil (.seqN (.seq (.region (.V mv0 ?_))))
 refine .V (nck rfl) ?_
 refine .V (fa rfl tF112_0) ?_
 refine .V (ld1 (v := .int .u32 0) rfl tO60 (cellH (CellsAt.mono (FH.le_refl _) q35 0 _ rfl))) ?_
 refine .V ag0 ?_
 refine .nil (.seqN (.ret ?_))
 refine .res1 rfl (rvT rfl) (inl_back (v := .int .u32 0) q84 rfl ?_)
 refine .V (lkI (enc := fun v : Value => v) (m := ([(0, iV 2), (3, iV 0)] : List (Int × Value))) (k := 0) (iV 0) tMR141 rfl rfl (q := 0) rfl) ?_
 refine .V (bld (cs := #[iV 0, iV 0]) (pv := []) tB27 rfl rfl) ?_
 refine .V ag0 ?_
 refine st (p := pv) (off := 0) (k := 1) (vs := [iV 0, iV 0]) rfl rfl rfl (fun w => (tA27 w).2) rfl rfl rfl rfl ?_
 refine .nil (.seqN (.ret ?_))
 refine .res2 rfl (rvT rfl) (rvC rfl tA27 (k := 1) rfl rfl) (fun w' S => ⟨(2, (⟨0, 0⟩ : Fault)), hF, rfl, S.below⟩)
theorem c_optimalL {h : FH} {w : World} (hs : Sub h w) (t : Task) (at_ : Option Addr) (ct : Nat) (_q1 : RSl h at_ t.init) (_q2 : t.init.length ≤ ct) (at_2 : Option Addr) (ct2 : Nat) (_q3 : RSl h at_2 t.goal) (_q4 : t.goal.length ≤ ct2) (at_3 : Option Addr) (ct3 : Nat) (_q5 : RSl h at_3 t.ops) (_q6 : t.ops.length ≤ ct3) (hp : pre_optimalL t) : Calls Tryz.prog 56 #[.agg #[iV t.facts, .slice at_ t.init.length ct, .slice at_2 t.goal.length ct2, .slice at_3 t.ops.length ct3]] w fun e w' => e = .returned (.tuple #[iV (sp_optimalL t).1, .agg #[iV (sp_optimalL t).2.code, iV (sp_optimalL t).2.index]]) ∧ Below w.heap.size w w' :=
 (w_optimalL hs t at_ ct _q1 _q2 at_2 ct2 _q3 _q4 at_3 ct3 _q5 _q6 (fun r => r = sp_optimalL t) (ok_optimalL t hp)).mono fun _ _ ⟨_, hk, he, hb⟩ => ⟨by rw [he, hk], hb⟩
end Go.Proofs.YtimillpakjgnoaaGreatDoor.Pl

namespace Go.Proofs.YtimillpakjgnoaaGreatDoor.Pl
open Go Go.RowKit
set_option maxHeartbeats 8000000 in
theorem w_h11Solved {h : FH} {w : World} (hs : Sub h w) (ht : TabH Tryz.prog h) (K : Bool → Prop) (hF : F_h11Solved  K) : Calls Tryz.prog 7 #[] w fun e w' => ∃ r : Bool, K r ∧ e = .returned (.bool r) ∧ Below w.heap.size w w' := by
 refine enter (args := []) Tryz.func7 rfl Tryz.ntmps7 rfl hs ?_
 refine .seq (.region (.V ag0 ?_))
 refine .nil (.seqN (.seq (.region ?_)))
 refine .inl Tryz.func25 rfl Tryz.ntmps25 Tryz.call25 rfl rfl rfl rfl (fun a q1 => ?_)
 refine .KA [] ?_
 refine .seq (.region ?_)
 refine al tZ25 rfl (fun pv => ?_)
 refine .nil (.seqN (.seq (.region ?_)))
 refine bs2 (cs := #[iV 0]) (pv := [(0, iV 0)]) tS22 rfl rfl (by decide) (by decide) rfl rfl rfl (fun a2 q2 => ?_)
 refine bs2 (cs := #[iV 0]) (pv := [(0, iV 0)]) tS22 rfl rfl (by decide) (by decide) rfl rfl rfl (fun a3 q3 => ?_)
 refine .V (bld (cs := #[.slice none 0 0, .slice a3 1 1, .slice none 0 0, iV 2]) (pv := [(1, .slice a3 1 1), (3, iV 2)]) tB114 rfl rfl) ?_
 refine bs2 (cs := #[.slice none 0 0, .slice a3 1 1, .slice none 0 0, iV 2]) (pv := [(0, .agg #[.slice none 0 0, .slice a3 1 1, .slice none 0 0, iV 2])]) tS23 rfl rfl (by decide) (by decide) rfl rfl rfl (fun a4 q4 => ?_)
 refine .V (bld (cs := #[iV 1, .slice none 0 0, .slice a2 1 1, .slice a4 1 1]) (pv := [(0, iV 1), (2, .slice a2 1 1), (3, .slice a4 1 1)]) tB25 rfl rfl) ?_
 refine st (p := pv) (off := 0) (k := 3) (vs := [iV 1, .slice none 0 0, .slice a2 1 1, .slice a4 1 1]) rfl rfl rfl (fun w => (tA25 w).2) rfl rfl rfl rfl ?_
 refine .nil (.seqN (.ret ?_))
 refine .res1 rfl (rvC rfl tA25 (k := 3) rfl rfl) (inl_back (v := .agg #[iV 1, .slice none 0 0, .slice a2 1 1, .slice a4 1 1]) q1 rfl ?_)
 refine .freezeL (k := 2) rfl (fun h1 le1 q6 q5 => ?_)
 have q7 : RSl h1 a2 ([0] : List Int) := (RSl.of (xs := ([0] : List Int)) q5)
 refine .freezeL (k := 1) rfl (fun h2 le2 q9 q8 => ?_)
 have q10 : RSl h2 a3 ([0] : List Int) := (RSl.of (xs := ([0] : List Int)) q8)
 refine .freezeL (k := 0) rfl (fun h3 le3 q12 q11 => ?_)
 have q13 : RSl h3 a4 ([(⟨[], ([0] : List Int), [], 2⟩ : Operator)] : List Operator) := (show RSl h3 a4 ([(⟨[], ([0] : List Int), [], 2⟩ : Operator)] : List Operator) from ⟨_, RepL.mono (le3) (show RepL h2 ([(⟨[], ([0] : List Int), [], 2⟩ : Operator)] : List Operator) [.slice none 0 0, .slice a3 1 1, .slice none 0 0, iV 2] from ⟨[.slice none 0 0, .slice a3 1 1, .slice none 0 0, iV 2], _, rfl, ⟨none, 0, a3, 1, none, 0, rfl, ⟨Nat.le_refl 0, RSl.nil_⟩, ⟨(show ([0] : List Int).length ≤ 1 from q9), q10⟩, ⟨Nat.le_refl 0, RSl.nil_⟩⟩, rfl⟩), q11⟩)
 refine .KA [tru, tru, tru, Box pv [iV 1, .slice none 0 0, .slice a2 1 1, .slice a4 1 1]] ?_
 obtain ⟨r2, q14⟩ : ∃ y_ : List Int × Bool × Fault, y_ = sp_bplan (⟨1, [], ([0] : List Int), ([(⟨[], ([0] : List Int), [], 2⟩ : Operator)] : List Operator)⟩ : Task) [] := ⟨_, rfl⟩
 replace hF := hF r2 q14
 refine clR (α := Option Addr × Nat) (Φ := fun h1 z => RSl h1 z.1 r2.1 ∧ r2.1.length ≤ z.2) (V := fun z => .tuple #[vSl z.1 r2.1 z.2, .bool r2.2.1, .agg #[iV r2.2.2.code, iV r2.2.2.index]]) Tryz.call5 rfl rfl (fun w S => (by rw [q14]; exact c_bplan S.sub (ht.mono (FH.le_trans (FH.le_trans (le1) (le2)) (le3))) (⟨1, [], ([0] : List Int), ([(⟨[], ([0] : List Int), [], 2⟩ : Operator)] : List Operator)⟩ : Task) none 0 RSl.nil_ (Nat.le_refl 0) a2 1 (q7.mono (FH.le_trans (le2) (le3))) (show ([0] : List Int).length ≤ 1 from q6) a4 1 q13 (show ([(⟨[], ([0] : List Int), [], 2⟩ : Operator)] : List Operator).length ≤ 1 from q12) [] none 0 RSl.nil_ (Nat.le_refl 0) )) rfl (fun z h4 le4 hz => ?_)
 obtain ⟨a5, c⟩ := z
 obtain ⟨q15, q16⟩ := hz
 obtain rfl : r2 = (([0] : List Int), true, (⟨0, 0⟩ : Fault)) := q14.trans (by decide +kernel)
 refine .V mv0 ?_
 refine .V (ext rfl rfl) ?_
 refine .V (ext rfl rfl) ?_
 refine .V (ext rfl rfl) ?_
 refine al tZ27 rfl (fun pf => ?_)
 refine .V ag0 ?_
 refine .V ag0 ?_
 refine st (p := pf) (off := 0) (k := 0) (vs := [iV 0, iV 0]) rfl rfl rfl (fun w => (tA27 w).2) rfl rfl rfl rfl ?_
 refine .nil (.seqN (.seq (.region ?_)))
 refine .inl Tryz.func25 rfl Tryz.ntmps25 Tryz.call25 rfl rfl rfl rfl (fun a6 q17 => ?_)
 refine .sel0 [0] (by decide) rfl ?_
 refine .KA [Box pf [iV 0, iV 0]] ?_
 refine .seq (.region ?_)
 refine al tZ25 rfl (fun pv2 => ?_)
 refine .nil (.seqN (.seq (.region ?_)))
 refine bs2 (cs := #[iV 0]) (pv := [(0, iV 0)]) tS22 rfl rfl (by decide) (by decide) rfl rfl rfl (fun a7 q18 => ?_)
 refine bs2 (cs := #[iV 0]) (pv := [(0, iV 0)]) tS22 rfl rfl (by decide) (by decide) rfl rfl rfl (fun a8 q19 => ?_)
 refine .V (bld (cs := #[.slice none 0 0, .slice a8 1 1, .slice none 0 0, iV 2]) (pv := [(1, .slice a8 1 1), (3, iV 2)]) tB114 rfl rfl) ?_
 refine bs2 (cs := #[.slice none 0 0, .slice a8 1 1, .slice none 0 0, iV 2]) (pv := [(0, .agg #[.slice none 0 0, .slice a8 1 1, .slice none 0 0, iV 2])]) tS23 rfl rfl (by decide) (by decide) rfl rfl rfl (fun a9 q20 => ?_)
 refine .V (bld (cs := #[iV 1, .slice none 0 0, .slice a7 1 1, .slice a9 1 1]) (pv := [(0, iV 1), (2, .slice a7 1 1), (3, .slice a9 1 1)]) tB25 rfl rfl) ?_
 refine st (p := pv2) (off := 0) (k := 3) (vs := [iV 1, .slice none 0 0, .slice a7 1 1, .slice a9 1 1]) rfl rfl rfl (fun w => (tA25 w).2) rfl rfl rfl rfl ?_
 refine .nil (.seqN (.ret ?_))
 refine .res1 rfl (rvC rfl tA25 (k := 3) rfl rfl) (inl_back (v := .agg #[iV 1, .slice none 0 0, .slice a7 1 1, .slice a9 1 1]) q17 rfl ?_)
 refine .inl Tryz.func26 rfl Tryz.ntmps26 Tryz.call26 rfl rfl rfl rfl (fun a10 q21 => ?_)
 refine .sel0 [0, 1, 2, 4] (by decide) rfl ?_
 refine .KA [OwnSl 114 4 a9 1 1 [.slice none 0 0, .slice a8 1 1, .slice none 0 0, iV 2], OwnSl 3 1 a8 1 1 [iV 0], OwnSl 3 1 a7 1 1 [iV 0], Box pf [iV 0, iV 0]] ?_
 refine .seq (.region ?_)
 refine bx (vs := [iV 1, .slice none 0 0, .slice a7 1 1, .slice a9 1 1]) rfl rfl rfl (fun pt => ?_)
 refine .V ag0 ?_
 refine al tZ27 rfl (fun pv3 => ?_)
 refine .nil (.seqN (.seq (.seq (.region (.V (ldA (cs := [iV 1, .slice none 0 0, .slice a7 1 1, .slice a9 1 1]) rfl tA25 rfl (cellsB (off := 0) (k := 1) rfl (m := 4) rfl)) ?_)))))
 refine .V mv0 ?_
 refine .inl Tryz.func54 rfl Tryz.ntmps54 Tryz.call54 rfl rfl rfl rfl (fun a11 q22 => ?_)
 refine .KA [Box pv3 [iV 0, iV 0], Box pt [iV 1, .slice none 0 0, .slice a7 1 1, .slice a9 1 1], OwnSl 114 4 a9 1 1 [.slice none 0 0, .slice a8 1 1, .slice none 0 0, iV 2], OwnSl 3 1 a8 1 1 [iV 0], OwnSl 3 1 a7 1 1 [iV 0], Box pf [iV 0, iV 0]] ?_
 refine .seq (.region ?_)
 refine bx (vs := [iV 1, .slice none 0 0, .slice a7 1 1, .slice a9 1 1]) rfl rfl rfl (fun pt2 => ?_)
 refine al tZ27 rfl (fun pv4 => ?_)
 refine .nil (.seqN (.seq (.seq (.region (.V (ldA (cs := [iV 1, .slice none 0 0, .slice a7 1 1, .slice a9 1 1]) rfl tA25 rfl (cellsB (off := 0) (k := 1) rfl (m := 4) rfl)) ?_)))))
 refine .freezeL (k := 6) rfl (fun h5 le5 q24 q23 => ?_)
 have q25 : RSl h5 a7 ([0] : List Int) := (RSl.of (xs := ([0] : List Int)) q23)
 refine .freezeL (k := 5) rfl (fun h6 le6 q27 q26 => ?_)
 have q28 : RSl h6 a8 ([0] : List Int) := (RSl.of (xs := ([0] : List Int)) q26)
 refine .freezeL (k := 4) rfl (fun h7 le7 q30 q29 => ?_)
 have q31 : RSl h7 a9 ([(⟨[], ([0] : List Int), [], 2⟩ : Operator)] : List Operator) := (show RSl h7 a9 ([(⟨[], ([0] : List Int), [], 2⟩ : Operator)] : List Operator) from ⟨_, RepL.mono (le7) (show RepL h6 ([(⟨[], ([0] : List Int), [], 2⟩ : Operator)] : List Operator) [.slice none 0 0, .slice a8 1 1, .slice none 0 0, iV 2] from ⟨[.slice none 0 0, .slice a8 1 1, .slice none 0 0, iV 2], _, rfl, ⟨none, 0, a8, 1, none, 0, rfl, ⟨Nat.le_refl 0, RSl.nil_⟩, ⟨(show ([0] : List Int).length ≤ 1 from q27), q28⟩, ⟨Nat.le_refl 0, RSl.nil_⟩⟩, rfl⟩), q29⟩)
 obtain ⟨r3, q32⟩ : ∃ y_ : Fault, y_ = sp_validate (⟨1, [], ([0] : List Int), ([(⟨[], ([0] : List Int), [], 2⟩ : Operator)] : List Operator)⟩ : Task) := ⟨_, rfl⟩
 replace hF := hF r3 q32
 have q33 : sp_validate (⟨1, [], ([0] : List Int), ([(⟨[], ([0] : List Int), [], 2⟩ : Operator)] : List Operator)⟩ : Task) = (⟨0, 0⟩ : Fault) := by decide +kernel
 refine .C (cl (v := .agg #[iV 0, iV 0]) Tryz.call37 rfl rfl (fun w S => (by have h_ := c_validate S.sub (⟨1, [], ([0] : List Int), ([(⟨[], ([0] : List Int), [], 2⟩ : Operator)] : List Operator)⟩ : Task) none 0 RSl.nil_ (Nat.le_refl 0) a7 1 (q25.mono (FH.le_trans (le6) (le7))) (show ([0] : List Int).length ≤ 1 from q24) a9 1 q31 (show ([(⟨[], ([0] : List Int), [], 2⟩ : Operator)] : List Operator).length ≤ 1 from q30) ; rw [q33] at h_; exact h_))) ?_
 refine al tZ27 rfl (fun pf2 => ?_)
 refine st (p := pf2) (off := 0) (k := 0) (vs := [iV 0, iV 0]) rfl rfl rfl (fun w => (tA27 w).2) rfl rfl rfl rfl ?_
 refine .nil (.seqN (.seq (.region (.V (ldA (cs := [iV 0, iV 0]) rfl tA27 rfl (cellsB (off := 0) (k := 0) rfl (m := 2) rfl)) ?_))))
 refine .V (bld (cs := #[iV 0, iV 0]) (pv := []) tB27 rfl rfl) ?_
 refine .V (ne2 tE27 rfl rfl) ?_
 refine .nil (.seqN ?_)
 refine .cond rfl (fun e => absurd (e.symm.trans rfl) (by decide)) (fun _ => ?_)
 refine .skip (.seqN (.seq (.seq (.region (.V mv0 ?_)))))
 refine .V bi0 ?_
 refine .V mv0 ?_
 refine .gv mv0 rfl rfl rfl rfl rfl rfl ?_
 refine .gv (fa rfl tF25_3) rfl rfl rfl rfl rfl rfl ?_
 refine .gv (ld1 rfl tO23 (cellB (off := 3) (k := 2) rfl rfl)) rfl rfl rfl rfl rfl rfl ?_
 refine .gv (ln rfl tS23.is) rfl rfl rfl rfl rfl rfl ?_
 refine .gv bi0 rfl rfl rfl rfl rfl rfl ?_
 refine .V (pkF rfl rfl rfl) ?_
 refine .nil (.seqN ?_)
 refine .cond rfl (fun e => absurd (e.symm.trans rfl) (by decide)) (fun _ => ?_)
 refine .skip (.seqN (.seq (.region (.V (bld (cs := #[iV 0, iV 0]) (pv := []) tB27 rfl rfl) ?_))))
 refine st (p := pv4) (off := 0) (k := 1) (vs := [iV 0, iV 0]) rfl rfl rfl (fun w => (tA27 w).2) rfl rfl rfl rfl ?_
 refine .nil (.seqN (.ret ?_))
 refine .res1 rfl (rvC rfl tA27 (k := 1) rfl rfl) (inl_back (v := .agg #[iV 0, iV 0]) q22 rfl ?_)
 refine al tZ27 rfl (fun pf3 => ?_)
 refine st (p := pf3) (off := 0) (k := 0) (vs := [iV 0, iV 0]) rfl rfl rfl (fun w => (tA27 w).2) rfl rfl rfl rfl ?_
 refine .nil (.seqN (.seq (.region (.V (ldA (cs := [iV 0, iV 0]) rfl tA27 rfl (cellsB (off := 0) (k := 0) rfl (m := 2) rfl)) ?_))))
 refine .V (bld (cs := #[iV 0, iV 0]) (pv := []) tB27 rfl rfl) ?_
 refine .V (ne2 tE27 rfl rfl) ?_
 refine .nil (.seqN ?_)
 refine .cond rfl (fun e => absurd (e.symm.trans rfl) (by decide)) (fun _ => ?_)
 refine .skip (.seqN (.seq (.region (.V (ldA (cs := [iV 1, .slice none 0 0, .slice a7 1 1, .slice a9 1 1]) rfl tA25 rfl (cellsB (off := 0) (k := 5) rfl (m := 4) rfl)) ?_))))
 refine .V mv0 ?_
 refine .inl Tryz.func55 rfl Tryz.ntmps55 Tryz.call55 rfl rfl rfl rfl (fun a12 q34 => ?_)
 refine .sel0 [4, 9] (by decide) rfl ?_
 refine .KA [Box pv3 [iV 0, iV 0], Box pf [iV 0, iV 0]] ?_
 refine .seq (.region ?_)
 refine bx (vs := [iV 1, .slice none 0 0, .slice a7 1 1, .slice a9 1 1]) rfl rfl rfl (fun pt3 => ?_)
 refine al tZ25 rfl (fun pv5 => ?_)
 refine al tZ27 rfl (fun pv6 => ?_)
 refine .nil (.seqN (.seq (.seq (.region (.V (ldA (cs := [iV 1, .slice none 0 0, .slice a7 1 1, .slice a9 1 1]) rfl tA25 rfl (cellsB (off := 0) (k := 2) rfl (m := 4) rfl)) ?_)))))
 refine .V mv0 ?_
 refine .inl Tryz.func77 rfl Tryz.ntmps77 Tryz.call77 rfl rfl rfl rfl (fun a13 q35 => ?_)
 refine .KA [Box pv6 [iV 0, iV 0], Box pv5 [iV 0, .slice none 0 0, .slice none 0 0, .slice none 0 0], Box pt3 [iV 1, .slice none 0 0, .slice a7 1 1, .slice a9 1 1], Box pv3 [iV 0, iV 0], Box pf [iV 0, iV 0]] ?_
 refine .seq (.region ?_)
 refine bx (vs := [iV 1, .slice none 0 0, .slice a7 1 1, .slice a9 1 1]) rfl rfl rfl (fun pt4 => ?_)
 refine al tZ27 rfl (fun pv7 => ?_)
 refine .nil (.seqN (.seq (.seq (.region (.V (ldA (cs := [iV 1, .slice none 0 0, .slice a7 1 1, .slice a9 1 1]) rfl tA25 rfl (cellsB (off := 0) (k := 1) rfl (m := 4) rfl)) ?_)))))
 obtain ⟨r4, q36⟩ : ∃ y_ : Fault, y_ = sp_validate (⟨1, [], ([0] : List Int), ([(⟨[], ([0] : List Int), [], 2⟩ : Operator)] : List Operator)⟩ : Task) := ⟨_, rfl⟩
 replace hF := hF r4 q36
 have q37 : sp_validate (⟨1, [], ([0] : List Int), ([(⟨[], ([0] : List Int), [], 2⟩ : Operator)] : List Operator)⟩ : Task) = (⟨0, 0⟩ : Fault) := by decide +kernel
 refine .C (cl (v := .agg #[iV 0, iV 0]) Tryz.call37 rfl rfl (fun w S => (by have h_ := c_validate S.sub (⟨1, [], ([0] : List Int), ([(⟨[], ([0] : List Int), [], 2⟩ : Operator)] : List Operator)⟩ : Task) none 0 RSl.nil_ (Nat.le_refl 0) a7 1 (q25.mono (FH.le_trans (le6) (le7))) (show ([0] : List Int).length ≤ 1 from q24) a9 1 q31 (show ([(⟨[], ([0] : List Int), [], 2⟩ : Operator)] : List Operator).length ≤ 1 from q30) ; rw [q37] at h_; exact h_))) ?_
 refine al tZ27 rfl (fun pf4 => ?_)
 refine st (p := pf4) (off := 0) (k := 0) (vs := [iV 0, iV 0]) rfl rfl rfl (fun w => (tA27 w).2) rfl rfl rfl rfl ?_
 refine .nil (.seqN (.seq (.region (.V (ldA (cs := [iV 0, iV 0]) rfl tA27 rfl (cellsB (off := 0) (k := 0) rfl (m := 2) rfl)) ?_))))
 refine .V (bld (cs := #[iV 0, iV 0]) (pv := []) tB27 rfl rfl) ?_
 refine .V (ne2 tE27 rfl rfl) ?_
 refine .nil (.seqN ?_)
 refine .cond rfl (fun e => absurd (e.symm.trans rfl) (by decide)) (fun _ => ?_)
 refine .skip (.seqN (.seq (.seq (.region (.V mv0 ?_)))))
 refine .V bi0 ?_
 refine .V mv0 ?_
 refine .gv mv0 rfl rfl rfl rfl rfl rfl ?_
 refine .gv (fa rfl tF25_3) rfl rfl rfl rfl rfl rfl ?_
 refine .gv (ld1 rfl tO23 (cellB (off := 3) (k := 2) rfl rfl)) rfl rfl rfl rfl rfl rfl ?_
 refine .gv (ln rfl tS23.is) rfl rfl rfl rfl rfl rfl ?_
 refine .gv bi0 rfl rfl rfl rfl rfl rfl ?_
 refine .V (pkF rfl rfl rfl) ?_
 refine .nil (.seqN ?_)
 refine .cond rfl (fun e => absurd (e.symm.trans rfl) (by decide)) (fun _ => ?_)
 refine .skip (.seqN (.seq (.region (.V (bld (cs := #[iV 0, iV 0]) (pv := []) tB27 rfl rfl) ?_))))
 refine st (p := pv7) (off := 0) (k := 1) (vs := [iV 0, iV 0]) rfl rfl rfl (fun w => (tA27 w).2) rfl rfl rfl rfl ?_
 refine .nil (.seqN (.ret ?_))
 refine .res1 rfl (rvC rfl tA27 (k := 1) rfl rfl) (inl_back (v := .agg #[iV 0, iV 0]) q35 rfl ?_)
 refine al tZ27 rfl (fun pf5 => ?_)
 refine st (p := pf5) (off := 0) (k := 0) (vs := [iV 0, iV 0]) rfl rfl rfl (fun w => (tA27 w).2) rfl rfl rfl rfl ?_
 refine .nil (.seqN (.seq (.region (.V (ldA (cs := [iV 0, iV 0]) rfl tA27 rfl (cellsB (off := 0) (k := 0) rfl (m := 2) rfl)) ?_))))
 refine .V (bld (cs := #[iV 0, iV 0]) (pv := []) tB27 rfl rfl) ?_
 refine .V (ne2 tE27 rfl rfl) ?_
 refine .nil (.seqN ?_)
 refine .cond rfl (fun e => absurd (e.symm.trans rfl) (by decide)) (fun _ => ?_)
 refine .skip (.seqN (.seq (.seq (.region (.V (fa rfl tF25_0) ?_)))))
 refine .V (ld1 rfl tO3 (cellB (off := 0) (k := 6) rfl rfl)) ?_
 refine .V bi0 ?_
 refine .nil (.seqN ?_)
 refine .cond rfl (fun e => absurd (e.symm.trans rfl) (by decide)) (fun _ => ?_)
 refine .skip (.seqN (.seq (.region (.V (ldA (cs := [iV 1, .slice none 0 0, .slice a7 1 1, .slice a9 1 1]) rfl tA25 rfl (cellsB (off := 0) (k := 6) rfl (m := 4) rfl)) ?_))))
 refine .inl Tryz.func78 rfl Tryz.ntmps78 Tryz.call78 rfl rfl rfl rfl (fun a14 q38 => ?_)
 refine .sel0 [4, 5, 7, 8] (by decide) rfl ?_
 refine .KA [Box pv6 [iV 0, iV 0], Box pv5 [iV 0, .slice none 0 0, .slice none 0 0, .slice none 0 0], Box pv3 [iV 0, iV 0], Box pf [iV 0, iV 0]] ?_
 refine .seq (.region ?_)
 refine bx (vs := [iV 1, .slice none 0 0, .slice a7 1 1, .slice a9 1 1]) rfl rfl rfl (fun pt5 => ?_)
 refine al tZ25 rfl (fun pv8 => ?_)
 refine .nil (.seqN (.seq ?_))
 refine .openA (s0 := [(1, .pointer (some pt5)), (2, .pointer (some pv8))]) [0, 1, 2, 3, 5, 6] [(0, .pointer (some (pt5.add 0))), (1, iV 1), (2, .pointer (some (pt5.add 1))), (3, .slice none 0 0), (5, .pointer (some (pt5.add 2))), (6, .slice a7 1 1)] (by kernel_rfl) sb [1, 2] [] rfl (by kernel_rfl) ?_
 refine .step [4, 9] 4 rfl (by kernel_rfl) (by kernel_rfl) (.v [] rfl rfl rfl rfl rfl rfl (fun _ => fa rfl tF25_0) (.v [(6, .pointer (some (pt5.add 0)))] rfl rfl rfl rfl rfl rfl (fun _ => ld1 rfl tO3 (cellB (off := 0) (k := 1) rfl rfl)) (.v [] rfl rfl rfl rfl rfl rfl (fun _ => fa rfl tF25_1) (.v [(8, .pointer (some (pt5.add 1)))] rfl rfl rfl rfl rfl rfl (fun _ => ld1 rfl tO22 (cellB (off := 1) (k := 1) rfl rfl)) (.v [] rfl rfl rfl rfl rfl rfl (fun _ => fa rfl tF25_2) (.v [(11, .pointer (some (pt5.add 2)))] rfl rfl rfl rfl rfl rfl (fun _ => ld1 rfl tO22 (cellB (off := 2) (k := 1) rfl rfl)) (.nil))))))) (.cons [(9, .slice none 0 0)] rfl rfl (fun sL hL => ?_) (.cons [] rfl rfl (fun sL hL => ?_) (.nil)))
 ·obtain ⟨q39, hF⟩ := hF
  obtain ⟨r5, q40⟩ : ∃ y_ : List Int, y_ = sp_clone [] := ⟨_, rfl⟩
  replace hF := hF r5 q40
  refine clO (α := Option Addr × Nat) (V := fun z => vSl z.1 r5 z.2) (Ψ := fun z => True) (B := fun z => [oL 3 1 z.1 r5 z.2]) Tryz.call57 rfl rfl (fun w S => (by rw [q40]; exact c_cloneO S.sub [] none 0 RSl.nil_ (Nat.le_refl 0) q39)) rfl (fun z _ => ?_)
  obtain ⟨a15, c2⟩ := z
  obtain rfl : r5 = ([] : List Int) := q40.trans (by decide +kernel)
  refine .nil ?_
  refine .ja (M := [3, 2]) (C' := [0, 1, 5, 6]) (pre := [(4, .slice a15 0 c2)]) [(1, .pointer (some pt5)), (2, .pointer (some pv8))] [1, 2] hL rfl rfl rfl rfl rfl sb rfl rfl (by kernel_rfl) ?_
  refine .step [7, 9] 7 rfl (by kernel_rfl) (by kernel_rfl) (.v [] rfl rfl rfl rfl rfl rfl (fun _ => fa rfl tF25_0) (.v [(6, .pointer (some (pt5.add 0)))] rfl rfl rfl rfl rfl rfl (fun _ => ld1 rfl tO3 (cellB (off := 0) (k := 2) rfl rfl)) (.v [] rfl rfl rfl rfl rfl rfl (fun _ => fa rfl tF25_2) (.v [(11, .pointer (some (pt5.add 2)))] rfl rfl rfl rfl rfl rfl (fun _ => ld1 rfl tO22 (cellB (off := 2) (k := 2) rfl rfl)) (.nil))))) (.cons [(12, .slice a7 1 1), (10, .slice a15 0 c2)] rfl rfl (fun sL hL => ?_) (.cons [] rfl rfl (fun sL hL => ?_) (.nil)))
  ·obtain ⟨q41, hF⟩ := hF
   obtain ⟨r6, q42⟩ : ∃ y_ : List Int, y_ = sp_clone ([0] : List Int) := ⟨_, rfl⟩
   replace hF := hF r6 q42
   refine clO (α := Option Addr × Nat) (V := fun z => vSl z.1 r6 z.2) (Ψ := fun z => True) (B := fun z => [oL 3 1 z.1 r6 z.2]) Tryz.call57 rfl rfl (fun w S => (by rw [q42]; exact c_cloneO S.sub ([0] : List Int) a7 1 (q25.mono (FH.le_trans (le6) (le7))) (show ([0] : List Int).length ≤ 1 from q24) q41)) rfl (fun z _ => ?_)
   obtain ⟨a16, c3⟩ := z
   obtain rfl : r6 = ([0] : List Int) := q42.trans (by decide +kernel)
   refine .nil ?_
   refine .ja (M := [6, 5]) (C' := [0, 1, 8]) (pre := [(7, .slice a16 1 c3), (8, .agg #[iV 1, .slice a15 0 c2, .slice a16 1 c3, .slice none 0 0])]) [(1, .pointer (some pt5)), (2, .pointer (some pv8))] [1, 2] hL rfl rfl rfl rfl rfl sb rfl rfl (by kernel_rfl) ?_
   refine .step [9] 9 rfl (by kernel_rfl) (by kernel_rfl) (.v [] rfl rfl rfl rfl rfl rfl (fun _ => fa rfl tF25_0) (.v [(6, .pointer (some (pt5.add 0)))] rfl rfl rfl rfl rfl rfl (fun _ => ld1 rfl tO3 (cellB (off := 0) (k := 3) rfl rfl)) (.v [(7, iV 1), (10, .slice a15 0 c2), (13, .slice a16 1 c3)] rfl rfl rfl rfl rfl rfl (fun _ => bld (cs := #[iV 1, .slice a15 0 c2, .slice a16 1 c3, .slice none 0 0]) (pv := [(0, iV 1), (1, .slice a15 0 c2), (2, .slice a16 1 c3)]) tB25 rfl rfl) (.nil)))) (.cons [] rfl rfl (fun sL hL => ?_) (.nil))
   refine al tZ25 rfl (fun pout => ?_)
   refine .nil ?_
   refine .ja (M := []) (C' := [0, 1, 8]) (pre := [(9, .pointer (some pout))]) [(1, .pointer (some pt5)), (2, .pointer (some pv8))] [1, 2] hL rfl rfl rfl rfl rfl sb rfl rfl (by kernel_rfl) ?_
   refine .step [10] 10 rfl (by kernel_rfl) (by kernel_rfl) (.v [] rfl rfl rfl rfl rfl rfl (fun _ => fa rfl tF25_0) (.v [(6, .pointer (some (pt5.add 0)))] rfl rfl rfl rfl rfl rfl (fun _ => ld1 rfl tO3 (cellB (off := 0) (k := 4) rfl rfl)) (.v [(7, iV 1), (10, .slice a15 0 c2), (13, .slice a16 1 c3)] rfl rfl rfl rfl rfl rfl (fun _ => bld (cs := #[iV 1, .slice a15 0 c2, .slice a16 1 c3, .slice none 0 0]) (pv := [(0, iV 1), (1, .slice a15 0 c2), (2, .slice a16 1 c3)]) tB25 rfl rfl) (.nil)))) (.cons [(3, .pointer (some pout)), (14, .agg #[iV 1, .slice a15 0 c2, .slice a16 1 c3, .slice none 0 0]), (13, .slice a16 1 c3), (6, .pointer (some (pt5.add 0))), (7, iV 1), (8, .pointer (some (pt5.add 1))), (9, .slice none 0 0), (10, .slice a15 0 c2), (11, .pointer (some (pt5.add 2))), (12, .slice a7 1 1), (13, .slice a16 1 c3), (14, .agg #[iV 1, .slice a15 0 c2, .slice a16 1 c3, .slice none 0 0]), (3, .pointer (some pout))] rfl rfl (fun sL hL => ?_) (.nil))
   refine st (p := pout) (off := 0) (k := 0) (vs := [iV 1, .slice a15 0 c2, .slice a16 1 c3, .slice none 0 0]) rfl rfl rfl (fun w => (tA25 w).2) rfl rfl rfl rfl ?_
   refine .nil ?_
   refine .jaN (M := [8, 0, 1]) (C' := []) (pre := []) [1, 2] hL rfl rfl rfl rfl rfl (by kernel_rfl) ?_
   refine .last [(6, .pointer (some (pt5.add 0))), (7, iV 1), (8, .pointer (some (pt5.add 1))), (9, .slice none 0 0), (10, .slice a15 0 c2), (11, .pointer (some (pt5.add 2))), (12, .slice a7 1 1), (13, .slice a16 1 c3), (14, .agg #[iV 1, .slice a15 0 c2, .slice a16 1 c3, .slice none 0 0]), (3, .pointer (some pout))] rfl (by kernel_rfl) (.nil) rfl ?_
   refine .seqN (.seq (.seq (.region (.V (fa rfl tF25_3) ?_))))
   refine .V (ld1 rfl tO23 (cellB (off := 3) (k := 4) rfl rfl)) ?_
   refine .V (ln rfl tS23.is) ?_
   refine .V mv0 ?_
   refine .nil (.seqN (.block ?_))
   refine .rounds 90 ?_
   refine .seq (.region (.V bi0 ?_))
   refine .nil (.seqN (.seq ?_))
   refine .cond rfl (fun _ => ?_) (fun e => absurd (e.symm.trans rfl) (by decide))
   refine .skip (.seqN (.seq (.block (.seq (.region (.V (ix rfl rfl tS23 (q31.ne (by decide) (inb_pos (show inb ([(⟨[], ([0] : List Int), [], 2⟩ : Operator)] : List Operator) (0 : Int) from And.intro (by decide) (by decide)))) (show inb ([(⟨[], ([0] : List Int), [], 2⟩ : Operator)] : List Operator) (0 : Int) from And.intro (by decide) (by decide))) ?_))))))
   obtain ⟨_, ⟨a17, c4, a18, c5, a19, c6, rfl, ⟨q43, q44⟩, ⟨q45, q46⟩, q47, q48⟩, q49⟩ := q31.elem (show inb ([(⟨[], ([0] : List Int), [], 2⟩ : Operator)] : List Operator) (0 : Int) from And.intro (by decide) (by decide))
   refine .V (ldA (cs := [.slice a17 0 c4, .slice a18 1 c5, .slice a19 0 c6, iV 2]) rfl tA114 rfl (cellsH (q49 (by decide)))) ?_
   refine al tZ114 rfl (fun po => ?_)
   refine st (p := po) (off := 0) (k := 0) (vs := [.slice a17 0 c4, .slice a18 1 c5, .slice a19 0 c6, iV 2]) rfl rfl rfl (fun w => (tA114 w).2) rfl rfl rfl rfl ?_
   refine .nil (.seqN ?_)
   refine .openA (s0 := [(2, .pointer (some pv8)), (3, .pointer (some pout)), (5, .pointer (some po)), (16, .slice a9 1 1), (17, iV 1), (18, iV 0)]) [0, 1, 2, 3, 5, 6, 8, 9, 11, 12] [(0, .pointer (some (pout.add 3))), (1, .slice none 0 0), (2, .pointer (some (po.add 0))), (3, .slice a17 0 c4), (5, .pointer (some (po.add 1))), (6, .slice a18 1 c5), (8, .pointer (some (po.add 2))), (9, .slice a19 0 c6), (11, .pointer (some (po.add 3))), (12, iV 2)] (by kernel_rfl) sb [2, 3, 5, 16, 17, 18] [] rfl (by kernel_rfl) ?_
   refine .step [4] 4 rfl (by kernel_rfl) (by kernel_rfl) (.v [] rfl rfl rfl rfl rfl rfl (fun _ => fa rfl tF25_3) (.v [(22, .pointer (some (pout.add 3)))] rfl rfl rfl rfl rfl rfl (fun _ => ld1 rfl tO23 (cellB (off := 3) (k := 1) rfl rfl)) (.v [] rfl rfl rfl rfl rfl rfl (fun _ => fa rfl tF114_0) (.v [(24, .pointer (some (po.add 0)))] rfl rfl rfl rfl rfl rfl (fun _ => ld1 rfl tO22 (cellB (off := 0) (k := 0) rfl rfl)) (.v [] rfl rfl rfl rfl rfl rfl (fun _ => fa rfl tF114_1) (.v [(27, .pointer (some (po.add 1)))] rfl rfl rfl rfl rfl rfl (fun _ => ld1 rfl tO22 (cellB (off := 1) (k := 0) rfl rfl)) (.v [] rfl rfl rfl rfl rfl rfl (fun _ => fa rfl tF114_2) (.v [(30, .pointer (some (po.add 2)))] rfl rfl rfl rfl rfl rfl (fun _ => ld1 rfl tO22 (cellB (off := 2) (k := 0) rfl rfl)) (.v [] rfl rfl rfl rfl rfl rfl (fun _ => fa rfl tF114_3) (.v [(33, .pointer (some (po.add 3)))] rfl rfl rfl rfl rfl rfl (fun _ => ld1 rfl tO3 (cellB (off := 3) (k := 0) rfl rfl)) (.nil))))))))))) (.cons [(25, .slice a17 0 c4)] rfl rfl (fun sL hL => ?_) (.nil))
   obtain ⟨q50, hF⟩ := hF
   obtain ⟨r7, q51⟩ : ∃ y_ : List Int, y_ = sp_clone ([] : List Int) := ⟨_, rfl⟩
   replace hF := hF r7 q51
   refine clO (α := Option Addr × Nat) (V := fun z => vSl z.1 r7 z.2) (Ψ := fun z => True) (B := fun z => [oL 3 1 z.1 r7 z.2]) Tryz.call57 rfl rfl (fun w S => (by rw [q51]; exact c_cloneO S.sub ([] : List Int) a17 c4 q44 q43 q50)) rfl (fun z _ => ?_)
   obtain ⟨a20, c7⟩ := z
   obtain rfl : r7 = ([] : List Int) := q51.trans (by decide +kernel)
   refine .KA [OwnSl 3 1 a20 0 c7 [], Box po [.slice a17 0 c4, .slice a18 1 c5, .slice a19 0 c6, iV 2], Box pout [iV 1, .slice a15 0 c2, .slice a16 1 c3, .slice none 0 0], OwnSl 3 1 a16 1 c3 [iV 0], OwnSl 3 1 a15 0 c2 [], Box pv8 [iV 0, .slice none 0 0, .slice none 0 0, .slice none 0 0], Box pt5 [iV 1, .slice none 0 0, .slice a7 1 1, .slice a9 1 1], Box pv6 [iV 0, iV 0], Box pv5 [iV 0, .slice none 0 0, .slice none 0 0, .slice none 0 0], Box pv3 [iV 0, iV 0], Box pf [iV 0, iV 0]] ?_
   refine .nil ?_
   refine .ja (M := [3, 2]) (C' := [0, 1, 5, 6, 8, 9, 11, 12]) (pre := [(4, .slice a20 0 c7)]) [(2, .pointer (some pv8)), (3, .pointer (some pout)), (5, .pointer (some po)), (16, .slice a9 1 1), (17, iV 1), (18, iV 0)] [2, 3, 5, 16, 17, 18] hL rfl rfl rfl rfl rfl sb rfl rfl (by kernel_rfl) ?_
   refine .step [7] 7 rfl (by kernel_rfl) (by kernel_rfl) (.v [] rfl rfl rfl rfl rfl rfl (fun _ => fa rfl tF25_3) (.v [(22, .pointer (some (pout.add 3)))] rfl rfl rfl rfl rfl rfl (fun _ => ld1 rfl tO23 (cellB (off := 3) (k := 2) rfl rfl)) (.v [] rfl rfl rfl rfl rfl rfl (fun _ => fa rfl tF114_1) (.v [(27, .pointer (some (po.add 1)))] rfl rfl rfl rfl rfl rfl (fun _ => ld1 rfl tO22 (cellB (off := 1) (k := 1) rfl rfl)) (.v [] rfl rfl rfl rfl rfl rfl (fun _ => fa rfl tF114_2) (.v [(30, .pointer (some (po.add 2)))] rfl rfl rfl rfl rfl rfl (fun _ => ld1 rfl tO22 (cellB (off := 2) (k := 1) rfl rfl)) (.v [] rfl rfl rfl rfl rfl rfl (fun _ => fa rfl tF114_3) (.v [(33, .pointer (some (po.add 3)))] rfl rfl rfl rfl rfl rfl (fun _ => ld1 rfl tO3 (cellB (off := 3) (k := 1) rfl rfl)) (.nil))))))))) (.cons [(28, .slice a18 1 c5), (26, .slice a20 0 c7)] rfl rfl (fun sL hL => ?_) (.nil))
   obtain ⟨r8, q52⟩ : ∃ y_ : List Int, y_ = sp_clone ([0] : List Int) := ⟨_, rfl⟩
   replace hF := hF r8 q52
   refine clO (α := Option Addr × Nat) (V := fun z => vSl z.1 r8 z.2) (Ψ := fun z => True) (B := fun z => [oL 3 1 z.1 r8 z.2]) Tryz.call57 rfl rfl (fun w S => (by rw [q52]; exact c_cloneO S.sub ([0] : List Int) a18 c5 q46 q45 q41)) rfl (fun z _ => ?_)
   obtain ⟨a21, c8⟩ := z
   obtain rfl : r8 = ([0] : List Int) := q52.trans (by decide +kernel)
   refine .nil ?_
   refine .ja (M := [6, 5]) (C' := [0, 1, 8, 9, 11, 12]) (pre := [(7, .slice a21 1 c8)]) [(2, .pointer (some pv8)), (3, .pointer (some pout)), (5, .pointer (some po)), (16, .slice a9 1 1), (17, iV 1), (18, iV 0)] [2, 3, 5, 16, 17, 18] hL rfl rfl rfl rfl rfl sb rfl rfl (by kernel_rfl) ?_
   refine .step [10] 10 rfl (by kernel_rfl) (by kernel_rfl) (.v [] rfl rfl rfl rfl rfl rfl (fun _ => fa rfl tF25_3) (.v [(22, .pointer (some (pout.add 3)))] rfl rfl rfl rfl rfl rfl (fun _ => ld1 rfl tO23 (cellB (off := 3) (k := 3) rfl rfl)) (.v [] rfl rfl rfl rfl rfl rfl (fun _ => fa rfl tF114_2) (.v [(30, .pointer (some (po.add 2)))] rfl rfl rfl rfl rfl rfl (fun _ => ld1 rfl tO22 (cellB (off := 2) (k := 2) rfl rfl)) (.v [] rfl rfl rfl rfl rfl rfl (fun _ => fa rfl tF114_3) (.v [(33, .pointer (some (po.add 3)))] rfl rfl rfl rfl rfl rfl (fun _ => ld1 rfl tO3 (cellB (off := 3) (k := 2) rfl rfl)) (.nil))))))) (.cons [(31, .slice a19 0 c6), (29, .slice a21 1 c8)] rfl rfl (fun sL hL => ?_) (.nil))
   obtain ⟨r9, q53⟩ : ∃ y_ : List Int, y_ = sp_clone ([] : List Int) := ⟨_, rfl⟩
   replace hF := hF r9 q53
   refine clO (α := Option Addr × Nat) (V := fun z => vSl z.1 r9 z.2) (Ψ := fun z => True) (B := fun z => [oL 3 1 z.1 r9 z.2]) Tryz.call57 rfl rfl (fun w S => (by rw [q53]; exact c_cloneO S.sub ([] : List Int) a19 c6 q48 q47 q50)) rfl (fun z _ => ?_)
   obtain ⟨a22, c9⟩ := z
   obtain rfl : r9 = ([] : List Int) := q53.trans (by decide +kernel)
   refine .nil ?_
   refine .ja (M := [9, 8]) (C' := [0, 1, 11, 12, 13]) (pre := [(10, .slice a22 0 c9), (13, .agg #[.slice a20 0 c7, .slice a21 1 c8, .slice a22 0 c9, iV 2])]) [(2, .pointer (some pv8)), (3, .pointer (some pout)), (5, .pointer (some po)), (16, .slice a9 1 1), (17, iV 1), (18, iV 0)] [2, 3, 5, 16, 17, 18] hL rfl rfl rfl rfl rfl sb rfl rfl (by kernel_rfl) ?_
   refine .step [14] 14 rfl (by kernel_rfl) (by kernel_rfl) (.v [] rfl rfl rfl rfl rfl rfl (fun _ => fa rfl tF25_3) (.v [(22, .pointer (some (pout.add 3)))] rfl rfl rfl rfl rfl rfl (fun _ => ld1 rfl tO23 (cellB (off := 3) (k := 4) rfl rfl)) (.v [] rfl rfl rfl rfl rfl rfl (fun _ => fa rfl tF114_3) (.v [(33, .pointer (some (po.add 3)))] rfl rfl rfl rfl rfl rfl (fun _ => ld1 rfl tO3 (cellB (off := 3) (k := 3) rfl rfl)) (.v [(26, .slice a20 0 c7), (29, .slice a21 1 c8), (32, .slice a22 0 c9), (34, iV 2)] rfl rfl rfl rfl rfl rfl (fun _ => bld (cs := #[.slice a20 0 c7, .slice a21 1 c8, .slice a22 0 c9, iV 2]) (pv := [(0, .slice a20 0 c7), (1, .slice a21 1 c8), (2, .slice a22 0 c9), (3, iV 2)]) tB114 rfl rfl) (.nil)))))) (.cons [(35, .agg #[.slice a20 0 c7, .slice a21 1 c8, .slice a22 0 c9, iV 2])] rfl rfl (fun sL hL => ?_) (.nil))
   refine bs2 (cs := #[.slice a20 0 c7, .slice a21 1 c8, .slice a22 0 c9, iV 2]) (pv := [(0, .agg #[.slice a20 0 c7, .slice a21 1 c8, .slice a22 0 c9, iV 2])]) tS23 rfl rfl (by decide) (by decide) rfl rfl rfl (fun a23 q54 => ?_)
   refine .nil ?_
   refine .ja (M := [13, 12, 11]) (C' := [0, 1]) (pre := [(14, .slice a23 1 1)]) [(2, .pointer (some pv8)), (3, .pointer (some pout)), (5, .pointer (some po)), (16, .slice a9 1 1), (17, iV 1), (18, iV 0)] [2, 3, 5, 16, 17, 18] hL rfl rfl rfl rfl rfl sb rfl rfl (by kernel_rfl) ?_
   refine .step [15] 15 rfl (by kernel_rfl) (by kernel_rfl) (.v [] rfl rfl rfl rfl rfl rfl (fun _ => fa rfl tF25_3) (.v [(22, .pointer (some (pout.add 3)))] rfl rfl rfl rfl rfl rfl (fun _ => ld1 rfl tO23 (cellB (off := 3) (k := 5) rfl rfl)) (.nil))) (.cons [(23, .slice none 0 0), (36, .slice a23 1 1), (32, .slice a22 0 c9)] rfl rfl (fun sL hL => ?_) (.nil))
   refine .nilSl 114 4 ?_
   refine app (k := 0) (news := [.slice a20 0 c7, .slice a21 1 c8, .slice a22 0 c9, iV 2]) (cs' := [.slice a20 0 c7, .slice a21 1 c8, .slice a22 0 c9, iV 2]) (nm := 1) tS23 rfl (by decide) rfl rfl rfl rfl (srcS (k := 1) rfl) (oneAll rfl) (by decide) (by decide) rfl rfl rfl (fun a24 c10 => ?_)
   refine .nil ?_
   refine .ja (M := [1, 0]) (C' := [16]) (pre := [(15, .slice a24 1 c10), (16, .pointer (some (pout.add 3)))]) [(2, .pointer (some pv8)), (3, .pointer (some pout)), (5, .pointer (some po)), (16, .slice a9 1 1), (17, iV 1), (18, iV 0)] [2, 3, 5, 16, 17, 18] hL rfl rfl rfl rfl rfl sb rfl rfl (by kernel_rfl) ?_
   refine .step [17] 17 rfl (by kernel_rfl) (by kernel_rfl) (.v [(22, .pointer (some (pout.add 3))), (23, .slice none 0 0), (24, .pointer (some (po.add 0))), (25, .slice a17 0 c4), (26, .slice a20 0 c7), (27, .pointer (some (po.add 1))), (28, .slice a18 1 c5), (29, .slice a21 1 c8), (30, .pointer (some (po.add 2))), (31, .slice a19 0 c6), (32, .slice a22 0 c9), (33, .pointer (some (po.add 3))), (34, iV 2), (35, .agg #[.slice a20 0 c7, .slice a21 1 c8, .slice a22 0 c9, iV 2]), (36, .slice a23 1 1), (37, .slice a24 1 c10)] rfl rfl rfl rfl rfl rfl (fun _ => fa rfl tF25_3) (.nil)) (.cons [(38, .pointer (some (pout.add 3))), (37, .slice a24 1 c10), (37, .slice a24 1 c10), (22, .pointer (some (pout.add 3))), (23, .slice none 0 0), (24, .pointer (some (po.add 0))), (25, .slice a17 0 c4), (26, .slice a20 0 c7), (27, .pointer (some (po.add 1))), (28, .slice a18 1 c5), (29, .slice a21 1 c8), (30, .pointer (some (po.add 2))), (31, .slice a19 0 c6), (32, .slice a22 0 c9), (33, .pointer (some (po.add 3))), (34, iV 2), (35, .agg #[.slice a20 0 c7, .slice a21 1 c8, .slice a22 0 c9, iV 2]), (36, .slice a23 1 1), (37, .slice a24 1 c10)] rfl rfl (fun sL hL => ?_) (.nil))
   refine st (p := pout) (off := 3) (k := 6) (vs := [.slice a24 1 c10]) rfl rfl rfl (fun w => (tO23 w).2) rfl rfl rfl rfl ?_
   refine .KA [OwnSl 114 4 a24 1 c10 [.slice a20 0 c7, .slice a21 1 c8, .slice a22 0 c9, iV 2], OwnSl 114 4 a23 1 1 [.slice a20 0 c7, .slice a21 1 c8, .slice a22 0 c9, iV 2], OwnSl 3 1 a22 0 c9 [], OwnSl 3 1 a21 1 c8 [iV 0], OwnSl 3 1 a20 0 c7 [], Box po [.slice a17 0 c4, .slice a18 1 c5, .slice a19 0 c6, iV 2], Box pout [iV 1, .slice a15 0 c2, .slice a16 1 c3, .slice a24 1 c10], OwnSl 3 1 a16 1 c3 [iV 0], OwnSl 3 1 a15 0 c2 [], Box pv8 [iV 0, .slice none 0 0, .slice none 0 0, .slice none 0 0], Box pt5 [iV 1, .slice none 0 0, .slice a7 1 1, .slice a9 1 1], Box pv6 [iV 0, iV 0], Box pv5 [iV 0, .slice none 0 0, .slice none 0 0, .slice none 0 0], Box pv3 [iV 0, iV 0], Box pf [iV 0, iV 0]] ?_
   refine .nil ?_
   refine .jaN (M := [16]) (C' := []) (pre := []) [2, 3, 5, 16, 17, 18] hL rfl rfl rfl rfl rfl (by kernel_rfl) ?_
   refine .last [(22, .pointer (some (pout.add 3))), (23, .slice none 0 0), (24, .pointer (some (po.add 0))), (25, .slice a17 0 c4), (26, .slice a20 0 c7), (27, .pointer (some (po.add 1))), (28, .slice a18 1 c5), (29, .slice a21 1 c8), (30, .pointer (some (po.add 2))), (31, .slice a19 0 c6), (32, .slice a22 0 c9), (33, .pointer (some (po.add 3))), (34, iV 2), (35, .agg #[.slice a20 0 c7, .slice a21 1 c8, .slice a22 0 c9, iV 2]), (36, .slice a23 1 1), (37, .slice a24 1 c10), (38, .pointer (some (pout.add 3)))] rfl (by kernel_rfl) (.nil) rfl ?_
   refine .blkN (.seqN (.region (.V bi0 ?_)))
   refine .V mv0 ?_
   refine .nil ?_
   refine .more ?_
   refine .sub (s' := [(2, .pointer (some pv8)), (3, .pointer (some pout)), (16, .slice a9 1 1), (17, iV 1), (18, iV 1)]) sb ?_
   refine .sel0 [0, 2, 3, 4, 6, 7, 8, 9, 11, 12, 13, 14] (by decide) rfl ?_
   refine .KA [OwnSl 114 4 a24 1 c10 [.slice a20 0 c7, .slice a21 1 c8, .slice a22 0 c9, iV 2], OwnSl 3 1 a22 0 c9 [], OwnSl 3 1 a21 1 c8 [iV 0], OwnSl 3 1 a20 0 c7 [], Box pout [iV 1, .slice a15 0 c2, .slice a16 1 c3, .slice a24 1 c10], OwnSl 3 1 a16 1 c3 [iV 0], OwnSl 3 1 a15 0 c2 [], Box pv8 [iV 0, .slice none 0 0, .slice none 0 0, .slice none 0 0], Box pv6 [iV 0, iV 0], Box pv5 [iV 0, .slice none 0 0, .slice none 0 0, .slice none 0 0], Box pv3 [iV 0, iV 0], Box pf [iV 0, iV 0]] ?_
   refine .seq (.region (.V bi0 ?_))
   refine .nil (.seqN (.seq ?_))
   refine .cond rfl (fun e => absurd (e.symm.trans rfl) (by decide)) (fun _ => ?_)
   refine .exit (.seqX (.seqX (.blkX (.seqN (.seq (.region (.V (ldA (cs := [iV 1, .slice a15 0 c2, .slice a16 1 c3, .slice a24 1 c10]) rfl tA25 rfl (cellsB (off := 0) (k := 4) rfl (m := 4) rfl)) ?_)))))))
   refine st (p := pv8) (off := 0) (k := 7) (vs := [iV 1, .slice a15 0 c2, .slice a16 1 c3, .slice a24 1 c10]) rfl rfl rfl (fun w => (tA25 w).2) rfl rfl rfl rfl ?_
   refine .nil (.seqN (.ret ?_))
   refine .res1 rfl (rvC rfl tA25 (k := 7) rfl rfl) (inl_back (v := .agg #[iV 1, .slice a15 0 c2, .slice a16 1 c3, .slice a24 1 c10]) q38 rfl ?_)
   refine al tZ25 rfl (fun pout2 => ?_)
   refine st (p := pout2) (off := 0) (k := 0) (vs := [iV 1, .slice a15 0 c2, .slice a16 1 c3, .slice a24 1 c10]) rfl rfl rfl (fun w => (tA25 w).2) rfl rfl rfl rfl ?_
   refine .nil (.seqN (.seq (.region (.V (fa rfl tF25_2) ?_))))
   refine .V (ld1 rfl tO22 (cellB (off := 2) (k := 0) rfl rfl)) ?_
   refine .V (fa rfl tF25_0) ?_
   refine .V (ld1 rfl tO3 (cellB (off := 0) (k := 0) rfl rfl)) ?_
   refine bs2 (cs := #[iV 1]) (pv := [(0, iV 1)]) tS22 rfl rfl (by decide) (by decide) rfl rfl rfl (fun a25 q55 => ?_)
   refine app (k := 7) (news := [iV 1]) (cs' := [iV 0, iV 1]) (nm := 2) tS22 rfl (by decide) rfl rfl rfl rfl (srcS (k := 0) rfl) (oneAll rfl) (by decide) (by decide) rfl rfl rfl (fun a26 c11 => ?_)
   refine .V (fa rfl tF25_2) ?_
   refine st (p := pout2) (off := 2) (k := 1) (vs := [.slice a26 2 c11]) rfl rfl rfl (fun w => (tO22 w).2) rfl rfl rfl rfl ?_
   refine .nil (.seqN (.seq ?_))
   refine .openA (s0 := [(1, iV 0), (4, .pointer (some pv5)), (5, .pointer (some pv6)), (7, .pointer (some pout2))]) [0, 1, 2, 3, 4, 5, 6, 7, 8, 9, 10] [(0, .pointer (some (pout2.add 3))), (1, .slice a24 1 c10), (2, iV 0), (3, .pointer (some (pout2.add 3))), (4, .slice a24 1 c10), (5, iV 0), (6, .pointer (some (ead a24 ((0 : Int).toNat * 4)))), (7, .pointer (some ((ead a24 ((0 : Int).toNat * 4)).add 1))), (8, .slice a21 1 c8), (9, .pointer (some (pout2.add 0))), (10, iV 1)] (by kernel_rfl) sb [1, 4, 5, 7] [] rfl (by kernel_rfl) ?_
   refine .step [11] 11 rfl (by kernel_rfl) (by kernel_rfl) (.v [] rfl rfl rfl rfl rfl rfl (fun _ => fa rfl tF25_3) (.v [(30, .pointer (some (pout2.add 3)))] rfl rfl rfl rfl rfl rfl (fun _ => ld1 rfl tO23 (cellB (off := 3) (k := 1) rfl rfl)) (.v [] rfl rfl rfl rfl rfl rfl (fun _ => mv rfl) (.v [] rfl rfl rfl rfl rfl rfl (fun _ => fa rfl tF25_3) (.v [(33, .pointer (some (pout2.add 3)))] rfl rfl rfl rfl rfl rfl (fun _ => ld1 rfl tO23 (cellB (off := 3) (k := 1) rfl rfl)) (.v [] rfl rfl rfl rfl rfl rfl (fun _ => mv rfl) (.v [(34, .slice a24 1 c10), (35, iV 0)] rfl rfl rfl rfl rfl rfl (fun _ => ixS rfl rfl tS23 (k := 2) rfl (And.intro (by decide) (by decide))) (.v [(36, .pointer (some (ead a24 ((0 : Int).toNat * 4))))] rfl rfl rfl rfl rfl rfl (fun _ => fa rfl tF114_1) (.v [(37, .pointer (some ((ead a24 ((0 : Int).toNat * 4)).add 1)))] rfl rfl rfl rfl rfl rfl (fun _ => ld1 (v := .slice a21 1 c8) rfl tO22 (cellF (k := 2) rfl rfl)) (.v [] rfl rfl rfl rfl rfl rfl (fun _ => fa rfl tF25_0) (.v [(39, .pointer (some (pout2.add 0)))] rfl rfl rfl rfl rfl rfl (fun _ => ld1 rfl tO3 (cellB (off := 0) (k := 1) rfl rfl)) (.nil)))))))))))) (.cons [(40, iV 1)] rfl rfl (fun sL hL => ?_) (.nil))
   refine bs2 (cs := #[iV 1]) (pv := [(0, iV 1)]) tS22 rfl rfl (by decide) (by decide) rfl rfl rfl (fun a27 q56 => ?_)
   refine .nil ?_
   refine .ja (M := [10, 9]) (C' := [0, 1, 2, 3, 4, 5, 6, 7, 8]) (pre := [(11, .slice a27 1 1)]) [(1, iV 0), (4, .pointer (some pv5)), (5, .pointer (some pv6)), (7, .pointer (some pout2))] [1, 4, 5, 7] hL rfl rfl rfl rfl rfl sb rfl rfl (by kernel_rfl) ?_
   refine .step [12] 12 rfl (by kernel_rfl) (by kernel_rfl) (.v [] rfl rfl rfl rfl rfl rfl (fun _ => fa rfl tF25_3) (.v [(30, .pointer (some (pout2.add 3)))] rfl rfl rfl rfl rfl rfl (fun _ => ld1 rfl tO23 (cellB (off := 3) (k := 2) rfl rfl)) (.v [] rfl rfl rfl rfl rfl rfl (fun _ => mv rfl) (.v [] rfl rfl rfl rfl rfl rfl (fun _ => fa rfl tF25_3) (.v [(33, .pointer (some (pout2.add 3)))] rfl rfl rfl rfl rfl rfl (fun _ => ld1 rfl tO23 (cellB (off := 3) (k := 2) rfl rfl)) (.v [] rfl rfl rfl rfl rfl rfl (fun _ => mv rfl) (.v [(34, .slice a24 1 c10), (35, iV 0)] rfl rfl rfl rfl rfl rfl (fun _ => ixS rfl rfl tS23 (k := 3) rfl (And.intro (by decide) (by decide))) (.v [(36, .pointer (some (ead a24 ((0 : Int).toNat * 4))))] rfl rfl rfl rfl rfl rfl (fun _ => fa rfl tF114_1) (.v [(37, .pointer (some ((ead a24 ((0 : Int).toNat * 4)).add 1)))] rfl rfl rfl rfl rfl rfl (fun _ => ld1 (v := .slice a21 1 c8) rfl tO22 (cellF (k := 3) rfl rfl)) (.nil)))))))))) (.cons [(38, .slice a21 1 c8), (41, .slice a27 1 1)] rfl rfl (fun sL hL => ?_) (.nil))
   refine app (k := 5) (news := [iV 1]) (cs' := [iV 0, iV 1]) (nm := 2) tS22 rfl (by decide) rfl rfl rfl rfl (srcS (k := 0) rfl) (oneAll rfl) (by decide) (by decide) rfl rfl rfl (fun a28 c12 => ?_)
   refine .KA [OwnSl 3 1 a27 1 1 [iV 1], OwnSl 3 1 a25 1 1 [iV 1], Box pout2 [iV 1, .slice a15 0 c2, .slice a26 2 c11, .slice a24 1 c10], OwnSl 114 4 a24 1 c10 [.slice a20 0 c7, .slice a21 1 c8, .slice a22 0 c9, iV 2], OwnSl 3 1 a22 0 c9 [], OwnSl 3 1 a28 2 c12 [iV 0, iV 1], OwnSl 3 1 a20 0 c7 [], Box pout [iV 1, .slice a15 0 c2, .slice a16 1 c3, .slice a24 1 c10], OwnSl 3 1 a26 2 c11 [iV 0, iV 1], OwnSl 3 1 a15 0 c2 [], Box pv8 [iV 1, .slice a15 0 c2, .slice a16 1 c3, .slice a24 1 c10], Box pv6 [iV 0, iV 0], Box pv5 [iV 0, .slice none 0 0, .slice none 0 0, .slice none 0 0], Box pv3 [iV 0, iV 0], Box pf [iV 0, iV 0]] ?_
   refine .nil ?_
   refine .ja (M := [8, 7, 6, 4, 5, 3]) (C' := [0, 1, 2, 13, 14]) (pre := [(12, .slice a28 2 c12), (13, .pointer (some (ead a24 ((0 : Int).toNat * 4)))), (14, .pointer (some ((ead a24 ((0 : Int).toNat * 4)).add 1)))]) [(1, iV 0), (4, .pointer (some pv5)), (5, .pointer (some pv6)), (7, .pointer (some pout2))] [1, 4, 5, 7] hL rfl rfl rfl rfl rfl sb rfl rfl (by kernel_rfl) ?_
   refine .step [15] 15 rfl (by kernel_rfl) (by kernel_rfl) (.v [] rfl rfl rfl rfl rfl rfl (fun _ => fa rfl tF25_3) (.v [(30, .pointer (some (pout2.add 3)))] rfl rfl rfl rfl rfl rfl (fun _ => ld1 rfl tO23 (cellB (off := 3) (k := 2) rfl rfl)) (.v [] rfl rfl rfl rfl rfl rfl (fun _ => mv rfl) (.v [(31, .slice a24 1 c10), (32, iV 0), (30, .pointer (some (pout2.add 3))), (31, .slice a24 1 c10), (32, iV 0), (33, .pointer (some (pout2.add 3))), (34, .slice a24 1 c10), (35, iV 0), (36, .pointer (some (ead a24 ((0 : Int).toNat * 4)))), (37, .pointer (some ((ead a24 ((0 : Int).toNat * 4)).add 1))), (38, .slice a21 1 c8), (39, .pointer (some (pout2.add 0))), (40, iV 1), (41, .slice a27 1 1), (42, .slice a28 2 c12)] rfl rfl rfl rfl rfl rfl (fun _ => ixS rfl rfl tS23 (k := 3) rfl (And.intro (by decide) (by decide))) (.v [(43, .pointer (some (ead a24 ((0 : Int).toNat * 4)))), (30, .pointer (some (pout2.add 3))), (31, .slice a24 1 c10), (32, iV 0), (33, .pointer (some (pout2.add 3))), (34, .slice a24 1 c10), (35, iV 0), (36, .pointer (some (ead a24 ((0 : Int).toNat * 4)))), (37, .pointer (some ((ead a24 ((0 : Int).toNat * 4)).add 1))), (38, .slice a21 1 c8), (39, .pointer (some (pout2.add 0))), (40, iV 1), (41, .slice a27 1 1), (42, .slice a28 2 c12)] rfl rfl rfl rfl rfl rfl (fun _ => fa rfl tF114_1) (.nil)))))) (.cons [(44, .pointer (some ((ead a24 ((0 : Int).toNat * 4)).add 1))), (42, .slice a28 2 c12), (42, .slice a28 2 c12), (30, .pointer (some (pout2.add 3))), (31, .slice a24 1 c10), (32, iV 0), (33, .pointer (some (pout2.add 3))), (34, .slice a24 1 c10), (35, iV 0), (36, .pointer (some (ead a24 ((0 : Int).toNat * 4)))), (37, .pointer (some ((ead a24 ((0 : Int).toNat * 4)).add 1))), (38, .slice a21 1 c8), (39, .pointer (some (pout2.add 0))), (40, iV 1), (41, .slice a27 1 1), (42, .slice a28 2 c12)] rfl rfl (fun sL hL => ?_) (.nil))
   refine stS (k := 3) (off := 0 * 4 + 1) (cs' := [.slice a20 0 c7, .slice a28 2 c12, .slice a22 0 c9, iV 2]) rfl (fun q => ead_add q _ _) rfl rfl (fun w => (tO22 w).2) rfl rfl rfl (by decide) (Nat.le_of_ble_eq_true rfl) rfl ?_
   refine .nil ?_
   refine .jaN (M := [14, 0, 1, 2, 13]) (C' := []) (pre := []) [1, 4, 5, 7] hL rfl rfl rfl rfl rfl (by kernel_rfl) ?_
   refine .last [(30, .pointer (some (pout2.add 3))), (31, .slice a24 1 c10), (32, iV 0), (33, .pointer (some (pout2.add 3))), (34, .slice a24 1 c10), (35, iV 0), (36, .pointer (some (ead a24 ((0 : Int).toNat * 4)))), (37, .pointer (some ((ead a24 ((0 : Int).toNat * 4)).add 1))), (38, .slice a21 1 c8), (39, .pointer (some (pout2.add 0))), (40, iV 1), (41, .slice a27 1 1), (42, .slice a28 2 c12), (43, .pointer (some (ead a24 ((0 : Int).toNat * 4)))), (44, .pointer (some ((ead a24 ((0 : Int).toNat * 4)).add 1)))] rfl (by kernel_rfl) (.nil) rfl ?_
   refine .seqN (.seq (.region (.V (fa rfl tF25_0) ?_)))
   refine .V (ld1 rfl tO3 (cellB (off := 0) (k := 2) rfl rfl)) ?_
   refine .V bi0 ?_
   refine .V (fa rfl tF25_0) ?_
   refine st (p := pout2) (off := 0) (k := 2) (vs := [iV 2]) rfl rfl rfl (fun w => (tO3 w).2) rfl rfl rfl rfl ?_
   refine .nil (.seqN (.seq (.region (.V (ldA (cs := [iV 2, .slice a15 0 c2, .slice a26 2 c11, .slice a24 1 c10]) rfl tA25 rfl (cellsB (off := 0) (k := 2) rfl (m := 4) rfl)) ?_))))
   refine .V (bld (cs := #[iV 0, iV 0]) (pv := []) tB27 rfl rfl) ?_
   refine st (p := pv5) (off := 0) (k := 12) (vs := [iV 2, .slice a15 0 c2, .slice a26 2 c11, .slice a24 1 c10]) rfl rfl rfl (fun w => (tA25 w).2) rfl rfl rfl rfl ?_
   refine st (p := pv6) (off := 0) (k := 11) (vs := [iV 0, iV 0]) rfl rfl rfl (fun w => (tA27 w).2) rfl rfl rfl rfl ?_
   refine .nil (.seqN (.ret ?_))
   refine .res2 rfl (rvC rfl tA25 (k := 12) rfl rfl) (rvC rfl tA27 (k := 11) rfl rfl) (inl_back (v := .tuple #[.agg #[iV 2, .slice a15 0 c2, .slice a26 2 c11, .slice a24 1 c10], .agg #[iV 0, iV 0]]) q34 rfl ?_)
   refine .V mv0 ?_
   refine .V (ext rfl rfl) ?_
   refine .V (ext rfl rfl) ?_
   refine al tZ25 rfl (fun pu => ?_)
   refine al tZ27 rfl (fun pf6 => ?_)
   refine st (p := pu) (off := 0) (k := 1) (vs := [iV 2, .slice a15 0 c2, .slice a26 2 c11, .slice a24 1 c10]) rfl rfl rfl (fun w => (tA25 w).2) rfl rfl rfl rfl ?_
   refine st (p := pf6) (off := 0) (k := 0) (vs := [iV 0, iV 0]) rfl rfl rfl (fun w => (tA27 w).2) rfl rfl rfl rfl ?_
   refine .nil (.seqN (.seq (.seq (.region (.V (ldA (cs := [iV 0, iV 0]) rfl tA27 rfl (cellsB (off := 0) (k := 0) rfl (m := 2) rfl)) ?_)))))
   refine .V (bld (cs := #[iV 0, iV 0]) (pv := []) tB27 rfl rfl) ?_
   refine .V (ne2 tE27 rfl rfl) ?_
   refine .nil (.seqN ?_)
   refine .cond rfl (fun e => absurd (e.symm.trans rfl) (by decide)) (fun _ => ?_)
   refine .skip (.seqN (.seq (.region (.V (ldA (cs := [iV 2, .slice a15 0 c2, .slice a26 2 c11, .slice a24 1 c10]) rfl tA25 rfl (cellsB (off := 0) (k := 1) rfl (m := 4) rfl)) ?_))))
   refine .freezeL (k := 11) rfl (fun h8 le8 q58 q57 => ?_)
   have q59 : RSl h8 a15 ([] : List Int) := (RSl.of (xs := ([] : List Int)) q57)
   refine .KA [Box pf6 [iV 0, iV 0], Box pu [iV 2, .slice a15 0 c2, .slice a26 2 c11, .slice a24 1 c10], OwnSl 3 1 a27 1 1 [iV 1], OwnSl 3 1 a25 1 1 [iV 1], Box pout2 [iV 2, .slice a15 0 c2, .slice a26 2 c11, .slice a24 1 c10], OwnSl 114 4 a24 1 c10 [.slice a20 0 c7, .slice a28 2 c12, .slice a22 0 c9, iV 2], OwnSl 3 1 a22 0 c9 [], OwnSl 3 1 a28 2 c12 [iV 0, iV 1], OwnSl 3 1 a20 0 c7 [], Box pout [iV 1, .slice a15 0 c2, .slice a16 1 c3, .slice a24 1 c10], OwnSl 3 1 a26 2 c11 [iV 0, iV 1], tru, Box pv8 [iV 1, .slice a15 0 c2, .slice a16 1 c3, .slice a24 1 c10], Box pv6 [iV 0, iV 0], Box pv5 [iV 2, .slice a15 0 c2, .slice a26 2 c11, .slice a24 1 c10], Box pv3 [iV 0, iV 0], Box pf [iV 0, iV 0]] ?_
   refine .freezeL (k := 10) rfl (fun h9 le9 q61 q60 => ?_)
   have q62 : RSl h9 a26 ([0, 1] : List Int) := (RSl.of (xs := ([0, 1] : List Int)) q60)
   refine .freezeL (k := 8) rfl (fun h10 le10 q64 q63 => ?_)
   have q65 : RSl h10 a20 ([] : List Int) := (RSl.of (xs := ([] : List Int)) q63)
   refine .freezeL (k := 7) rfl (fun h11 le11 q67 q66 => ?_)
   have q68 : RSl h11 a28 ([0, 1] : List Int) := (RSl.of (xs := ([0, 1] : List Int)) q66)
   refine .freezeL (k := 6) rfl (fun h12 le12 q70 q69 => ?_)
   have q71 : RSl h12 a22 ([] : List Int) := (RSl.of (xs := ([] : List Int)) q69)
   refine .freezeL (k := 5) rfl (fun h13 le13 q73 q72 => ?_)
   have q74 : RSl h13 a24 ([(⟨([] : List Int), ([0, 1] : List Int), ([] : List Int), 2⟩ : Operator)] : List Operator) := (show RSl h13 a24 ([(⟨([] : List Int), ([0, 1] : List Int), ([] : List Int), 2⟩ : Operator)] : List Operator) from ⟨_, RepL.mono (le13) (show RepL h12 ([(⟨([] : List Int), ([0, 1] : List Int), ([] : List Int), 2⟩ : Operator)] : List Operator) [.slice a20 0 c7, .slice a28 2 c12, .slice a22 0 c9, iV 2] from ⟨[.slice a20 0 c7, .slice a28 2 c12, .slice a22 0 c9, iV 2], _, rfl, ⟨a20, c7, a28, c12, a22, c9, rfl, ⟨(show ([] : List Int).length ≤ c7 from q64), (q65.mono (FH.le_trans (le11) (le12)))⟩, ⟨(show ([0, 1] : List Int).length ≤ c12 from q67), (q68.mono (le12))⟩, ⟨(show ([] : List Int).length ≤ c9 from q70), q71⟩⟩, rfl⟩), q72⟩)
   obtain ⟨q75, hF⟩ := hF
   obtain ⟨r10, q76⟩ : ∃ y_ : Int × Fault, y_ = sp_optimalL (⟨2, ([] : List Int), ([0, 1] : List Int), ([(⟨([] : List Int), ([0, 1] : List Int), ([] : List Int), 2⟩ : Operator)] : List Operator)⟩ : Task) := ⟨_, rfl⟩
   replace hF := hF r10 q76
   have q77 : sp_optimalL (⟨2, ([] : List Int), ([0, 1] : List Int), ([(⟨([] : List Int), ([0, 1] : List Int), ([] : List Int), 2⟩ : Operator)] : List Operator)⟩ : Task) = (2, (⟨0, 0⟩ : Fault)) := by decide +kernel
   refine .C (cl (v := .tuple #[iV 2, .agg #[iV 0, iV 0]]) Tryz.call56 rfl rfl (fun w S => (by have h_ := c_optimalL S.sub (⟨2, ([] : List Int), ([0, 1] : List Int), ([(⟨([] : List Int), ([0, 1] : List Int), ([] : List Int), 2⟩ : Operator)] : List Operator)⟩ : Task) a15 c2 (q59.mono (FH.le_trans (FH.le_trans (FH.le_trans (FH.le_trans (le9) (le10)) (le11)) (le12)) (le13))) (show ([] : List Int).length ≤ c2 from q58) a26 c11 (q62.mono (FH.le_trans (FH.le_trans (FH.le_trans (le10) (le11)) (le12)) (le13))) (show ([0, 1] : List Int).length ≤ c11 from q61) a24 c10 q74 (show ([(⟨([] : List Int), ([0, 1] : List Int), ([] : List Int), 2⟩ : Operator)] : List Operator).length ≤ c10 from q73) q75; rw [q77] at h_; exact h_))) ?_
   refine .V (ext rfl rfl) ?_
   refine .V (ext rfl rfl) ?_
   refine .V ag0 ?_
   refine st (p := pv3) (off := 0) (k := 15) (vs := [iV 0, iV 0]) rfl rfl rfl (fun w => (tA27 w).2) rfl rfl rfl rfl ?_
   refine .nil (.seqN (.ret ?_))
   refine .res2 rfl (rvT rfl) (rvC rfl tA27 (k := 15) rfl rfl) (inl_back (v := .tuple #[iV 2, .agg #[iV 0, iV 0]]) q21 rfl ?_)
   refine .V mv0 ?_
   refine .V (ext rfl rfl) ?_
   refine .V (ext rfl rfl) ?_
   refine al tZ27 rfl (fun pg => ?_)
   refine .V ag0 ?_
   refine st (p := pg) (off := 0) (k := 0) (vs := [iV 0, iV 0]) rfl rfl rfl (fun w => (tA27 w).2) rfl rfl rfl rfl ?_
   refine .KA [Box pg [iV 0, iV 0], Box pf6 [iV 0, iV 0], Box pu [iV 2, .slice a15 0 c2, .slice a26 2 c11, .slice a24 1 c10], OwnSl 3 1 a27 1 1 [iV 1], OwnSl 3 1 a25 1 1 [iV 1], Box pout2 [iV 2, .slice a15 0 c2, .slice a26 2 c11, .slice a24 1 c10], tru, tru, tru, tru, Box pout [iV 1, .slice a15 0 c2, .slice a16 1 c3, .slice a24 1 c10], tru, tru, Box pv8 [iV 1, .slice a15 0 c2, .slice a16 1 c3, .slice a24 1 c10], Box pv6 [iV 0, iV 0], Box pv5 [iV 2, .slice a15 0 c2, .slice a26 2 c11, .slice a24 1 c10], Box pv3 [iV 0, iV 0], Box pf [iV 0, iV 0]] ?_
   refine .nil (.seqN (.seq (.region (.V (fa rfl tF27_0) ?_))))
   refine .V (ld1 rfl tO3 (cellB (off := 0) (k := 17) rfl rfl)) ?_
   refine .V bi0 ?_
   refine .V mv0 ?_
   refine .gv (fa rfl tF27_0) rfl rfl rfl rfl rfl rfl ?_
   refine .gv (ld1 rfl tO3 (cellB (off := 0) (k := 0) rfl rfl)) rfl rfl rfl rfl rfl rfl ?_
   refine .gv bi0 rfl rfl rfl rfl rfl rfl ?_
   refine .V (pkT rfl rfl rfl) ?_
   refine .V mv0 ?_
   refine .gv mv0 rfl rfl rfl rfl rfl rfl ?_
   refine .V (pkT rfl rfl rfl) ?_
   refine .V mv0 ?_
   refine .gv mv0 rfl rfl rfl rfl rfl rfl ?_
   refine .gR rfl rfl rfl rfl ?_
   refine bs2 (cs := #[iV 0]) (pv := [(0, iV 0)]) tS22 rfl rfl (by decide) (by decide) rfl rfl rfl (fun a29 q78 => ?_)
   refine .freezeL (k := 0) rfl (fun h14 le14 q80 q79 => ?_)
   have q81 : RSl h14 a29 ([0] : List Int) := (RSl.of (xs := ([0] : List Int)) q79)
   obtain ⟨q82, hF⟩ := hF
   obtain ⟨r11, q83⟩ : ∃ y_ : Bool, y_ = sp_ints ([0] : List Int) ([0] : List Int) := ⟨_, rfl⟩
   replace hF := hF r11 q83
   have q84 : sp_ints ([0] : List Int) ([0] : List Int) = true := by decide +kernel
   refine .gc (cl (v := .bool true) Tryz.call27 rfl rfl (fun w S => (by have h_ := c_ints S.sub ([0] : List Int) a5 c (q15.mono (FH.le_trans (FH.le_trans (FH.le_trans (FH.le_trans (FH.le_trans (FH.le_trans (FH.le_trans (FH.le_trans (FH.le_trans (le5) (le6)) (le7)) (le8)) (le9)) (le10)) (le11)) (le12)) (le13)) (le14))) q16 ([0] : List Int) a29 1 q81 (show ([0] : List Int).length ≤ 1 from q80) q82; rw [q84] at h_; exact h_))) rfl rfl rfl rfl rfl rfl ?_
   refine .V (pkT rfl rfl rfl) ?_
   refine .V mv0 ?_
   refine .gv mv0 rfl rfl rfl rfl rfl rfl ?_
   refine .gv bi0 rfl rfl rfl rfl rfl rfl ?_
   refine .V (pkT rfl rfl rfl) ?_
   refine .V ag0 ?_
   refine .nil (.seqN (.ret ?_))
   refine .res1 rfl (rvT rfl) (fun w' S => ⟨true, hF, rfl, S.below⟩)
  ·refine al tZ25 rfl (fun pout => ?_)
   refine .nil ?_
   refine .ja (M := []) (C' := [0, 1, 5, 6]) (pre := [(9, .pointer (some pout))]) [(1, .pointer (some pt5)), (2, .pointer (some pv8))] [1, 2] hL rfl rfl rfl rfl rfl sb rfl rfl (by kernel_rfl) ?_
   refine .step [7] 7 rfl (by kernel_rfl) (by kernel_rfl) (.v [] rfl rfl rfl rfl rfl rfl (fun _ => fa rfl tF25_0) (.v [(6, .pointer (some (pt5.add 0)))] rfl rfl rfl rfl rfl rfl (fun _ => ld1 rfl tO3 (cellB (off := 0) (k := 3) rfl rfl)) (.v [] rfl rfl rfl rfl rfl rfl (fun _ => fa rfl tF25_2) (.v [(11, .pointer (some (pt5.add 2)))] rfl rfl rfl rfl rfl rfl (fun _ => ld1 rfl tO22 (cellB (off := 2) (k := 3) rfl rfl)) (.nil))))) (.cons [(12, .slice a7 1 1), (10, .slice a15 0 c2)] rfl rfl (fun sL hL => ?_) (.nil))
   obtain ⟨q85, hF⟩ := hF
   obtain ⟨r6, q86⟩ : ∃ y_ : List Int, y_ = sp_clone ([0] : List Int) := ⟨_, rfl⟩
   replace hF := hF r6 q86
   refine clO (α := Option Addr × Nat) (V := fun z => vSl z.1 r6 z.2) (Ψ := fun z => True) (B := fun z => [oL 3 1 z.1 r6 z.2]) Tryz.call57 rfl rfl (fun w S => (by rw [q86]; exact c_cloneO S.sub ([0] : List Int) a7 1 (q25.mono (FH.le_trans (le6) (le7))) (show ([0] : List Int).length ≤ 1 from q24) q85)) rfl (fun z _ => ?_)
   obtain ⟨a16, c3⟩ := z
   obtain rfl : r6 = ([0] : List Int) := q86.trans (by decide +kernel)
   refine .nil ?_
   refine .ja (M := [6, 5]) (C' := [0, 1, 8]) (pre := [(7, .slice a16 1 c3), (8, .agg #[iV 1, .slice a15 0 c2, .slice a16 1 c3, .slice none 0 0])]) [(1, .pointer (some pt5)), (2, .pointer (some pv8))] [1, 2] hL rfl rfl rfl rfl rfl sb rfl rfl (by kernel_rfl) ?_
   refine .step [10] 10 rfl (by kernel_rfl) (by kernel_rfl) (.v [] rfl rfl rfl rfl rfl rfl (fun _ => fa rfl tF25_0) (.v [(6, .pointer (some (pt5.add 0)))] rfl rfl rfl rfl rfl rfl (fun _ => ld1 rfl tO3 (cellB (off := 0) (k := 4) rfl rfl)) (.v [(7, iV 1), (10, .slice a15 0 c2), (13, .slice a16 1 c3)] rfl rfl rfl rfl rfl rfl (fun _ => bld (cs := #[iV 1, .slice a15 0 c2, .slice a16 1 c3, .slice none 0 0]) (pv := [(0, iV 1), (1, .slice a15 0 c2), (2, .slice a16 1 c3)]) tB25 rfl rfl) (.nil)))) (.cons [(3, .pointer (some pout)), (14, .agg #[iV 1, .slice a15 0 c2, .slice a16 1 c3, .slice none 0 0]), (13, .slice a16 1 c3), (6, .pointer (some (pt5.add 0))), (7, iV 1), (8, .pointer (some (pt5.add 1))), (9, .slice none 0 0), (10, .slice a15 0 c2), (11, .pointer (some (pt5.add 2))), (12, .slice a7 1 1), (13, .slice a16 1 c3), (14, .agg #[iV 1, .slice a15 0 c2, .slice a16 1 c3, .slice none 0 0]), (3, .pointer (some pout))] rfl rfl (fun sL hL => ?_) (.nil))
   refine st (p := pout) (off := 0) (k := 1) (vs := [iV 1, .slice a15 0 c2, .slice a16 1 c3, .slice none 0 0]) rfl rfl rfl (fun w => (tA25 w).2) rfl rfl rfl rfl ?_
   refine .nil ?_
   refine .jaN (M := [8, 0, 1]) (C' := []) (pre := []) [1, 2] hL rfl rfl rfl rfl rfl (by kernel_rfl) ?_
   refine .last [(6, .pointer (some (pt5.add 0))), (7, iV 1), (8, .pointer (some (pt5.add 1))), (9, .slice none 0 0), (10, .slice a15 0 c2), (11, .pointer (some (pt5.add 2))), (12, .slice a7 1 1), (13, .slice a16 1 c3), (14, .agg #[iV 1, .slice a15 0 c2, .slice a16 1 c3, .slice none 0 0]), (3, .pointer (some pout))] rfl (by kernel_rfl) (.nil) rfl ?_
   refine .seqN (.seq (.seq (.region (.V (fa rfl tF25_3) ?_))))
   refine .V (ld1 rfl tO23 (cellB (off := 3) (k := 4) rfl rfl)) ?_
   refine .V (ln rfl tS23.is) ?_
   refine .V mv0 ?_
   refine .nil (.seqN (.block ?_))
   refine .rounds 90 ?_
   refine .seq (.region (.V bi0 ?_))
   refine .nil (.seqN (.seq ?_))
   refine .cond rfl (fun _ => ?_) (fun e => absurd (e.symm.trans rfl) (by decide))
   refine .skip (.seqN (.seq (.block (.seq (.region (.V (ix rfl rfl tS23 (q31.ne (by decide) (inb_pos (show inb ([(⟨[], ([0] : List Int), [], 2⟩ : Operator)] : List Operator) (0 : Int) from And.intro (by decide) (by decide)))) (show inb ([(⟨[], ([0] : List Int), [], 2⟩ : Operator)] : List Operator) (0 : Int) from And.intro (by decide) (by decide))) ?_))))))
   obtain ⟨_, ⟨a17, c4, a18, c5, a19, c6, rfl, ⟨q87, q88⟩, ⟨q89, q90⟩, q91, q92⟩, q93⟩ := q31.elem (show inb ([(⟨[], ([0] : List Int), [], 2⟩ : Operator)] : List Operator) (0 : Int) from And.intro (by decide) (by decide))
   refine .V (ldA (cs := [.slice a17 0 c4, .slice a18 1 c5, .slice a19 0 c6, iV 2]) rfl tA114 rfl (cellsH (q93 (by decide)))) ?_
   refine al tZ114 rfl (fun po => ?_)
   refine st (p := po) (off := 0) (k := 0) (vs := [.slice a17 0 c4, .slice a18 1 c5, .slice a19 0 c6, iV 2]) rfl rfl rfl (fun w => (tA114 w).2) rfl rfl rfl rfl ?_
   refine .nil (.seqN ?_)
   refine .openA (s0 := [(2, .pointer (some pv8)), (3, .pointer (some pout)), (5, .pointer (some po)), (16, .slice a9 1 1), (17, iV 1), (18, iV 0)]) [0, 1, 2, 3, 5, 6, 8, 9, 11, 12] [(0, .pointer (some (pout.add 3))), (1, .slice none 0 0), (2, .pointer (some (po.add 0))), (3, .slice a17 0 c4), (5, .pointer (some (po.add 1))), (6, .slice a18 1 c5), (8, .pointer (some (po.add 2))), (9, .slice a19 0 c6), (11, .pointer (some (po.add 3))), (12, iV 2)] (by kernel_rfl) sb [2, 3, 5, 16, 17, 18] [] rfl (by kernel_rfl) ?_
   refine .step [4] 4 rfl (by kernel_rfl) (by kernel_rfl) (.v [] rfl rfl rfl rfl rfl rfl (fun _ => fa rfl tF25_3) (.v [(22, .pointer (some (pout.add 3)))] rfl rfl rfl rfl rfl rfl (fun _ => ld1 rfl tO23 (cellB (off := 3) (k := 2) rfl rfl)) (.v [] rfl rfl rfl rfl rfl rfl (fun _ => fa rfl tF114_0) (.v [(24, .pointer (some (po.add 0)))] rfl rfl rfl rfl rfl rfl (fun _ => ld1 rfl tO22 (cellB (off := 0) (k := 0) rfl rfl)) (.v [] rfl rfl rfl rfl rfl rfl (fun _ => fa rfl tF114_1) (.v [(27, .pointer (some (po.add 1)))] rfl rfl rfl rfl rfl rfl (fun _ => ld1 rfl tO22 (cellB (off := 1) (k := 0) rfl rfl)) (.v [] rfl rfl rfl rfl rfl rfl (fun _ => fa rfl tF114_2) (.v [(30, .pointer (some (po.add 2)))] rfl rfl rfl rfl rfl rfl (fun _ => ld1 rfl tO22 (cellB (off := 2) (k := 0) rfl rfl)) (.v [] rfl rfl rfl rfl rfl rfl (fun _ => fa rfl tF114_3) (.v [(33, .pointer (some (po.add 3)))] rfl rfl rfl rfl rfl rfl (fun _ => ld1 rfl tO3 (cellB (off := 3) (k := 0) rfl rfl)) (.nil))))))))))) (.cons [(25, .slice a17 0 c4)] rfl rfl (fun sL hL => ?_) (.nil))
   obtain ⟨q94, hF⟩ := hF
   obtain ⟨r7, q95⟩ : ∃ y_ : List Int, y_ = sp_clone ([] : List Int) := ⟨_, rfl⟩
   replace hF := hF r7 q95
   refine clO (α := Option Addr × Nat) (V := fun z => vSl z.1 r7 z.2) (Ψ := fun z => True) (B := fun z => [oL 3 1 z.1 r7 z.2]) Tryz.call57 rfl rfl (fun w S => (by rw [q95]; exact c_cloneO S.sub ([] : List Int) a17 c4 q88 q87 q94)) rfl (fun z _ => ?_)
   obtain ⟨a20, c7⟩ := z
   obtain rfl : r7 = ([] : List Int) := q95.trans (by decide +kernel)
   refine .KA [OwnSl 3 1 a20 0 c7 [], Box po [.slice a17 0 c4, .slice a18 1 c5, .slice a19 0 c6, iV 2], OwnSl 3 1 a16 1 c3 [iV 0], Box pout [iV 1, .slice a15 0 c2, .slice a16 1 c3, .slice none 0 0], OwnSl 3 1 a15 0 c2 [], Box pv8 [iV 0, .slice none 0 0, .slice none 0 0, .slice none 0 0], Box pt5 [iV 1, .slice none 0 0, .slice a7 1 1, .slice a9 1 1], Box pv6 [iV 0, iV 0], Box pv5 [iV 0, .slice none 0 0, .slice none 0 0, .slice none 0 0], Box pv3 [iV 0, iV 0], Box pf [iV 0, iV 0]] ?_
   refine .nil ?_
   refine .ja (M := [3, 2]) (C' := [0, 1, 5, 6, 8, 9, 11, 12]) (pre := [(4, .slice a20 0 c7)]) [(2, .pointer (some pv8)), (3, .pointer (some pout)), (5, .pointer (some po)), (16, .slice a9 1 1), (17, iV 1), (18, iV 0)] [2, 3, 5, 16, 17, 18] hL rfl rfl rfl rfl rfl sb rfl rfl (by kernel_rfl) ?_
   refine .step [7] 7 rfl (by kernel_rfl) (by kernel_rfl) (.v [] rfl rfl rfl rfl rfl rfl (fun _ => fa rfl tF25_3) (.v [(22, .pointer (some (pout.add 3)))] rfl rfl rfl rfl rfl rfl (fun _ => ld1 rfl tO23 (cellB (off := 3) (k := 3) rfl rfl)) (.v [] rfl rfl rfl rfl rfl rfl (fun _ => fa rfl tF114_1) (.v [(27, .pointer (some (po.add 1)))] rfl rfl rfl rfl rfl rfl (fun _ => ld1 rfl tO22 (cellB (off := 1) (k := 1) rfl rfl)) (.v [] rfl rfl rfl rfl rfl rfl (fun _ => fa rfl tF114_2) (.v [(30, .pointer (some (po.add 2)))] rfl rfl rfl rfl rfl rfl (fun _ => ld1 rfl tO22 (cellB (off := 2) (k := 1) rfl rfl)) (.v [] rfl rfl rfl rfl rfl rfl (fun _ => fa rfl tF114_3) (.v [(33, .pointer (some (po.add 3)))] rfl rfl rfl rfl rfl rfl (fun _ => ld1 rfl tO3 (cellB (off := 3) (k := 1) rfl rfl)) (.nil))))))))) (.cons [(28, .slice a18 1 c5), (26, .slice a20 0 c7)] rfl rfl (fun sL hL => ?_) (.nil))
   obtain ⟨r8, q96⟩ : ∃ y_ : List Int, y_ = sp_clone ([0] : List Int) := ⟨_, rfl⟩
   replace hF := hF r8 q96
   refine clO (α := Option Addr × Nat) (V := fun z => vSl z.1 r8 z.2) (Ψ := fun z => True) (B := fun z => [oL 3 1 z.1 r8 z.2]) Tryz.call57 rfl rfl (fun w S => (by rw [q96]; exact c_cloneO S.sub ([0] : List Int) a18 c5 q90 q89 q85)) rfl (fun z _ => ?_)
   obtain ⟨a21, c8⟩ := z
   obtain rfl : r8 = ([0] : List Int) := q96.trans (by decide +kernel)
   refine .nil ?_
   refine .ja (M := [6, 5]) (C' := [0, 1, 8, 9, 11, 12]) (pre := [(7, .slice a21 1 c8)]) [(2, .pointer (some pv8)), (3, .pointer (some pout)), (5, .pointer (some po)), (16, .slice a9 1 1), (17, iV 1), (18, iV 0)] [2, 3, 5, 16, 17, 18] hL rfl rfl rfl rfl rfl sb rfl rfl (by kernel_rfl) ?_
   refine .step [10] 10 rfl (by kernel_rfl) (by kernel_rfl) (.v [] rfl rfl rfl rfl rfl rfl (fun _ => fa rfl tF25_3) (.v [(22, .pointer (some (pout.add 3)))] rfl rfl rfl rfl rfl rfl (fun _ => ld1 rfl tO23 (cellB (off := 3) (k := 4) rfl rfl)) (.v [] rfl rfl rfl rfl rfl rfl (fun _ => fa rfl tF114_2) (.v [(30, .pointer (some (po.add 2)))] rfl rfl rfl rfl rfl rfl (fun _ => ld1 rfl tO22 (cellB (off := 2) (k := 2) rfl rfl)) (.v [] rfl rfl rfl rfl rfl rfl (fun _ => fa rfl tF114_3) (.v [(33, .pointer (some (po.add 3)))] rfl rfl rfl rfl rfl rfl (fun _ => ld1 rfl tO3 (cellB (off := 3) (k := 2) rfl rfl)) (.nil))))))) (.cons [(31, .slice a19 0 c6), (29, .slice a21 1 c8)] rfl rfl (fun sL hL => ?_) (.nil))
   obtain ⟨r9, q97⟩ : ∃ y_ : List Int, y_ = sp_clone ([] : List Int) := ⟨_, rfl⟩
   replace hF := hF r9 q97
   refine clO (α := Option Addr × Nat) (V := fun z => vSl z.1 r9 z.2) (Ψ := fun z => True) (B := fun z => [oL 3 1 z.1 r9 z.2]) Tryz.call57 rfl rfl (fun w S => (by rw [q97]; exact c_cloneO S.sub ([] : List Int) a19 c6 q92 q91 q94)) rfl (fun z _ => ?_)
   obtain ⟨a22, c9⟩ := z
   obtain rfl : r9 = ([] : List Int) := q97.trans (by decide +kernel)
   refine .nil ?_
   refine .ja (M := [9, 8]) (C' := [0, 1, 11, 12, 13]) (pre := [(10, .slice a22 0 c9), (13, .agg #[.slice a20 0 c7, .slice a21 1 c8, .slice a22 0 c9, iV 2])]) [(2, .pointer (some pv8)), (3, .pointer (some pout)), (5, .pointer (some po)), (16, .slice a9 1 1), (17, iV 1), (18, iV 0)] [2, 3, 5, 16, 17, 18] hL rfl rfl rfl rfl rfl sb rfl rfl (by kernel_rfl) ?_
   refine .step [14] 14 rfl (by kernel_rfl) (by kernel_rfl) (.v [] rfl rfl rfl rfl rfl rfl (fun _ => fa rfl tF25_3) (.v [(22, .pointer (some (pout.add 3)))] rfl rfl rfl rfl rfl rfl (fun _ => ld1 rfl tO23 (cellB (off := 3) (k := 5) rfl rfl)) (.v [] rfl rfl rfl rfl rfl rfl (fun _ => fa rfl tF114_3) (.v [(33, .pointer (some (po.add 3)))] rfl rfl rfl rfl rfl rfl (fun _ => ld1 rfl tO3 (cellB (off := 3) (k := 3) rfl rfl)) (.v [(26, .slice a20 0 c7), (29, .slice a21 1 c8), (32, .slice a22 0 c9), (34, iV 2)] rfl rfl rfl rfl rfl rfl (fun _ => bld (cs := #[.slice a20 0 c7, .slice a21 1 c8, .slice a22 0 c9, iV 2]) (pv := [(0, .slice a20 0 c7), (1, .slice a21 1 c8), (2, .slice a22 0 c9), (3, iV 2)]) tB114 rfl rfl) (.nil)))))) (.cons [(35, .agg #[.slice a20 0 c7, .slice a21 1 c8, .slice a22 0 c9, iV 2])] rfl rfl (fun sL hL => ?_) (.nil))
   refine bs2 (cs := #[.slice a20 0 c7, .slice a21 1 c8, .slice a22 0 c9, iV 2]) (pv := [(0, .agg #[.slice a20 0 c7, .slice a21 1 c8, .slice a22 0 c9, iV 2])]) tS23 rfl rfl (by decide) (by decide) rfl rfl rfl (fun a23 q98 => ?_)
   refine .nil ?_
   refine .ja (M := [13, 12, 11]) (C' := [0, 1]) (pre := [(14, .slice a23 1 1)]) [(2, .pointer (some pv8)), (3, .pointer (some pout)), (5, .pointer (some po)), (16, .slice a9 1 1), (17, iV 1), (18, iV 0)] [2, 3, 5, 16, 17, 18] hL rfl rfl rfl rfl rfl sb rfl rfl (by kernel_rfl) ?_
   refine .step [15] 15 rfl (by kernel_rfl) (by kernel_rfl) (.v [] rfl rfl rfl rfl rfl rfl (fun _ => fa rfl tF25_3) (.v [(22, .pointer (some (pout.add 3)))] rfl rfl rfl rfl rfl rfl (fun _ => ld1 rfl tO23 (cellB (off := 3) (k := 6) rfl rfl)) (.nil))) (.cons [(23, .slice none 0 0), (36, .slice a23 1 1), (32, .slice a22 0 c9)] rfl rfl (fun sL hL => ?_) (.nil))
   refine .nilSl 114 4 ?_
   refine app (k := 0) (news := [.slice a20 0 c7, .slice a21 1 c8, .slice a22 0 c9, iV 2]) (cs' := [.slice a20 0 c7, .slice a21 1 c8, .slice a22 0 c9, iV 2]) (nm := 1) tS23 rfl (by decide) rfl rfl rfl rfl (srcS (k := 1) rfl) (oneAll rfl) (by decide) (by decide) rfl rfl rfl (fun a24 c10 => ?_)
   refine .nil ?_
   refine .ja (M := [1, 0]) (C' := [16]) (pre := [(15, .slice a24 1 c10), (16, .pointer (some (pout.add 3)))]) [(2, .pointer (some pv8)), (3, .pointer (some pout)), (5, .pointer (some po)), (16, .slice a9 1 1), (17, iV 1), (18, iV 0)] [2, 3, 5, 16, 17, 18] hL rfl rfl rfl rfl rfl sb rfl rfl (by kernel_rfl) ?_
   refine .step [17] 17 rfl (by kernel_rfl) (by kernel_rfl) (.v [(22, .pointer (some (pout.add 3))), (23, .slice none 0 0), (24, .pointer (some (po.add 0))), (25, .slice a17 0 c4), (26, .slice a20 0 c7), (27, .pointer (some (po.add 1))), (28, .slice a18 1 c5), (29, .slice a21 1 c8), (30, .pointer (some (po.add 2))), (31, .slice a19 0 c6), (32, .slice a22 0 c9), (33, .pointer (some (po.add 3))), (34, iV 2), (35, .agg #[.slice a20 0 c7, .slice a21 1 c8, .slice a22 0 c9, iV 2]), (36, .slice a23 1 1), (37, .slice a24 1 c10)] rfl rfl rfl rfl rfl rfl (fun _ => fa rfl tF25_3) (.nil)) (.cons [(38, .pointer (some (pout.add 3))), (37, .slice a24 1 c10), (37, .slice a24 1 c10), (22, .pointer (some (pout.add 3))), (23, .slice none 0 0), (24, .pointer (some (po.add 0))), (25, .slice a17 0 c4), (26, .slice a20 0 c7), (27, .pointer (some (po.add 1))), (28, .slice a18 1 c5), (29, .slice a21 1 c8), (30, .pointer (some (po.add 2))), (31, .slice a19 0 c6), (32, .slice a22 0 c9), (33, .pointer (some (po.add 3))), (34, iV 2), (35, .agg #[.slice a20 0 c7, .slice a21 1 c8, .slice a22 0 c9, iV 2]), (36, .slice a23 1 1), (37, .slice a24 1 c10)] rfl rfl (fun sL hL => ?_) (.nil))
   refine st (p := pout) (off := 3) (k := 7) (vs := [.slice a24 1 c10]) rfl rfl rfl (fun w => (tO23 w).2) rfl rfl rfl rfl ?_
   refine .KA [OwnSl 114 4 a24 1 c10 [.slice a20 0 c7, .slice a21 1 c8, .slice a22 0 c9, iV 2], OwnSl 114 4 a23 1 1 [.slice a20 0 c7, .slice a21 1 c8, .slice a22 0 c9, iV 2], OwnSl 3 1 a22 0 c9 [], OwnSl 3 1 a21 1 c8 [iV 0], OwnSl 3 1 a20 0 c7 [], Box po [.slice a17 0 c4, .slice a18 1 c5, .slice a19 0 c6, iV 2], OwnSl 3 1 a16 1 c3 [iV 0], Box pout [iV 1, .slice a15 0 c2, .slice a16 1 c3, .slice a24 1 c10], OwnSl 3 1 a15 0 c2 [], Box pv8 [iV 0, .slice none 0 0, .slice none 0 0, .slice none 0 0], Box pt5 [iV 1, .slice none 0 0, .slice a7 1 1, .slice a9 1 1], Box pv6 [iV 0, iV 0], Box pv5 [iV 0, .slice none 0 0, .slice none 0 0, .slice none 0 0], Box pv3 [iV 0, iV 0], Box pf [iV 0, iV 0]] ?_
   refine .nil ?_
   refine .jaN (M := [16]) (C' := []) (pre := []) [2, 3, 5, 16, 17, 18] hL rfl rfl rfl rfl rfl (by kernel_rfl) ?_
   refine .last [(22, .pointer (some (pout.add 3))), (23, .slice none 0 0), (24, .pointer (some (po.add 0))), (25, .slice a17 0 c4), (26, .slice a20 0 c7), (27, .pointer (some (po.add 1))), (28, .slice a18 1 c5), (29, .slice a21 1 c8), (30, .pointer (some (po.add 2))), (31, .slice a19 0 c6), (32, .slice a22 0 c9), (33, .pointer (some (po.add 3))), (34, iV 2), (35, .agg #[.slice a20 0 c7, .slice a21 1 c8, .slice a22 0 c9, iV 2]), (36, .slice a23 1 1), (37, .slice a24 1 c10), (38, .pointer (some (pout.add 3)))] rfl (by kernel_rfl) (.nil) rfl ?_
   refine .blkN (.seqN (.region (.V bi0 ?_)))
   refine .V mv0 ?_
   refine .nil ?_
   refine .more ?_
   refine .sub (s' := [(2, .pointer (some pv8)), (3, .pointer (some pout)), (16, .slice a9 1 1), (17, iV 1), (18, iV 1)]) sb ?_
   refine .sel0 [0, 2, 3, 4, 6, 7, 8, 9, 11, 12, 13, 14] (by decide) rfl ?_
   refine .KA [OwnSl 114 4 a24 1 c10 [.slice a20 0 c7, .slice a21 1 c8, .slice a22 0 c9, iV 2], OwnSl 3 1 a22 0 c9 [], OwnSl 3 1 a21 1 c8 [iV 0], OwnSl 3 1 a20 0 c7 [], OwnSl 3 1 a16 1 c3 [iV 0], Box pout [iV 1, .slice a15 0 c2, .slice a16 1 c3, .slice a24 1 c10], OwnSl 3 1 a15 0 c2 [], Box pv8 [iV 0, .slice none 0 0, .slice none 0 0, .slice none 0 0], Box pv6 [iV 0, iV 0], Box pv5 [iV 0, .slice none 0 0, .slice none 0 0, .slice none 0 0], Box pv3 [iV 0, iV 0], Box pf [iV 0, iV 0]] ?_
   refine .seq (.region (.V bi0 ?_))
   refine .nil (.seqN (.seq ?_))
   refine .cond rfl (fun e => absurd (e.symm.trans rfl) (by decide)) (fun _ => ?_)
   refine .exit (.seqX (.seqX (.blkX (.seqN (.seq (.region (.V (ldA (cs := [iV 1, .slice a15 0 c2, .slice a16 1 c3, .slice a24 1 c10]) rfl tA25 rfl (cellsB (off := 0) (k := 5) rfl (m := 4) rfl)) ?_)))))))
   refine st (p := pv8) (off := 0) (k := 7) (vs := [iV 1, .slice a15 0 c2, .slice a16 1 c3, .slice a24 1 c10]) rfl rfl rfl (fun w => (tA25 w).2) rfl rfl rfl rfl ?_
   refine .nil (.seqN (.ret ?_))
   refine .res1 rfl (rvC rfl tA25 (k := 7) rfl rfl) (inl_back (v := .agg #[iV 1, .slice a15 0 c2, .slice a16 1 c3, .slice a24 1 c10]) q38 rfl ?_)
   refine al tZ25 rfl (fun pout2 => ?_)
   refine st (p := pout2) (off := 0) (k := 0) (vs := [iV 1, .slice a15 0 c2, .slice a16 1 c3, .slice a24 1 c10]) rfl rfl rfl (fun w => (tA25 w).2) rfl rfl rfl rfl ?_
   refine .nil (.seqN (.seq (.region (.V (fa rfl tF25_2) ?_))))
   refine .V (ld1 rfl tO22 (cellB (off := 2) (k := 0) rfl rfl)) ?_
   refine .V (fa rfl tF25_0) ?_
   refine .V (ld1 rfl tO3 (cellB (off := 0) (k := 0) rfl rfl)) ?_
   refine bs2 (cs := #[iV 1]) (pv := [(0, iV 1)]) tS22 rfl rfl (by decide) (by decide) rfl rfl rfl (fun a25 q99 => ?_)
   refine app (k := 6) (news := [iV 1]) (cs' := [iV 0, iV 1]) (nm := 2) tS22 rfl (by decide) rfl rfl rfl rfl (srcS (k := 0) rfl) (oneAll rfl) (by decide) (by decide) rfl rfl rfl (fun a26 c11 => ?_)
   refine .V (fa rfl tF25_2) ?_
   refine st (p := pout2) (off := 2) (k := 1) (vs := [.slice a26 2 c11]) rfl rfl rfl (fun w => (tO22 w).2) rfl rfl rfl rfl ?_
   refine .nil (.seqN (.seq ?_))
   refine .openA (s0 := [(1, iV 0), (4, .pointer (some pv5)), (5, .pointer (some pv6)), (7, .pointer (some pout2))]) [0, 1, 2, 3, 4, 5, 6, 7, 8, 9, 10] [(0, .pointer (some (pout2.add 3))), (1, .slice a24 1 c10), (2, iV 0), (3, .pointer (some (pout2.add 3))), (4, .slice a24 1 c10), (5, iV 0), (6, .pointer (some (ead a24 ((0 : Int).toNat * 4)))), (7, .pointer (some ((ead a24 ((0 : Int).toNat * 4)).add 1))), (8, .slice a21 1 c8), (9, .pointer (some (pout2.add 0))), (10, iV 1)] (by kernel_rfl) sb [1, 4, 5, 7] [] rfl (by kernel_rfl) ?_
   refine .step [11] 11 rfl (by kernel_rfl) (by kernel_rfl) (.v [] rfl rfl rfl rfl rfl rfl (fun _ => fa rfl tF25_3) (.v [(30, .pointer (some (pout2.add 3)))] rfl rfl rfl rfl rfl rfl (fun _ => ld1 rfl tO23 (cellB (off := 3) (k := 1) rfl rfl)) (.v [] rfl rfl rfl rfl rfl rfl (fun _ => mv rfl) (.v [] rfl rfl rfl rfl rfl rfl (fun _ => fa rfl tF25_3) (.v [(33, .pointer (some (pout2.add 3)))] rfl rfl rfl rfl rfl rfl (fun _ => ld1 rfl tO23 (cellB (off := 3) (k := 1) rfl rfl)) (.v [] rfl rfl rfl rfl rfl rfl (fun _ => mv rfl) (.v [(34, .slice a24 1 c10), (35, iV 0)] rfl rfl rfl rfl rfl rfl (fun _ => ixS rfl rfl tS23 (k := 2) rfl (And.intro (by decide) (by decide))) (.v [(36, .pointer (some (ead a24 ((0 : Int).toNat * 4))))] rfl rfl rfl rfl rfl rfl (fun _ => fa rfl tF114_1) (.v [(37, .pointer (some ((ead a24 ((0 : Int).toNat * 4)).add 1)))] rfl rfl rfl rfl rfl rfl (fun _ => ld1 (v := .slice a21 1 c8) rfl tO22 (cellF (k := 2) rfl rfl)) (.v [] rfl rfl rfl rfl rfl rfl (fun _ => fa rfl tF25_0) (.v [(39, .pointer (some (pout2.add 0)))] rfl rfl rfl rfl rfl rfl (fun _ => ld1 rfl tO3 (cellB (off := 0) (k := 1) rfl rfl)) (.nil)))))))))))) (.cons [(40, iV 1)] rfl rfl (fun sL hL => ?_) (.nil))
   refine bs2 (cs := #[iV 1]) (pv := [(0, iV 1)]) tS22 rfl rfl (by decide) (by decide) rfl rfl rfl (fun a27 q100 => ?_)
   refine .nil ?_
   refine .ja (M := [10, 9]) (C' := [0, 1, 2, 3, 4, 5, 6, 7, 8]) (pre := [(11, .slice a27 1 1)]) [(1, iV 0), (4, .pointer (some pv5)), (5, .pointer (some pv6)), (7, .pointer (some pout2))] [1, 4, 5, 7] hL rfl rfl rfl rfl rfl sb rfl rfl (by kernel_rfl) ?_
   refine .step [12] 12 rfl (by kernel_rfl) (by kernel_rfl) (.v [] rfl rfl rfl rfl rfl rfl (fun _ => fa rfl tF25_3) (.v [(30, .pointer (some (pout2.add 3)))] rfl rfl rfl rfl rfl rfl (fun _ => ld1 rfl tO23 (cellB (off := 3) (k := 2) rfl rfl)) (.v [] rfl rfl rfl rfl rfl rfl (fun _ => mv rfl) (.v [] rfl rfl rfl rfl rfl rfl (fun _ => fa rfl tF25_3) (.v [(33, .pointer (some (pout2.add 3)))] rfl rfl rfl rfl rfl rfl (fun _ => ld1 rfl tO23 (cellB (off := 3) (k := 2) rfl rfl)) (.v [] rfl rfl rfl rfl rfl rfl (fun _ => mv rfl) (.v [(34, .slice a24 1 c10), (35, iV 0)] rfl rfl rfl rfl rfl rfl (fun _ => ixS rfl rfl tS23 (k := 3) rfl (And.intro (by decide) (by decide))) (.v [(36, .pointer (some (ead a24 ((0 : Int).toNat * 4))))] rfl rfl rfl rfl rfl rfl (fun _ => fa rfl tF114_1) (.v [(37, .pointer (some ((ead a24 ((0 : Int).toNat * 4)).add 1)))] rfl rfl rfl rfl rfl rfl (fun _ => ld1 (v := .slice a21 1 c8) rfl tO22 (cellF (k := 3) rfl rfl)) (.nil)))))))))) (.cons [(38, .slice a21 1 c8), (41, .slice a27 1 1)] rfl rfl (fun sL hL => ?_) (.nil))
   refine app (k := 5) (news := [iV 1]) (cs' := [iV 0, iV 1]) (nm := 2) tS22 rfl (by decide) rfl rfl rfl rfl (srcS (k := 0) rfl) (oneAll rfl) (by decide) (by decide) rfl rfl rfl (fun a28 c12 => ?_)
   refine .KA [OwnSl 3 1 a27 1 1 [iV 1], OwnSl 3 1 a25 1 1 [iV 1], Box pout2 [iV 1, .slice a15 0 c2, .slice a26 2 c11, .slice a24 1 c10], OwnSl 114 4 a24 1 c10 [.slice a20 0 c7, .slice a21 1 c8, .slice a22 0 c9, iV 2], OwnSl 3 1 a22 0 c9 [], OwnSl 3 1 a28 2 c12 [iV 0, iV 1], OwnSl 3 1 a20 0 c7 [], OwnSl 3 1 a26 2 c11 [iV 0, iV 1], Box pout [iV 1, .slice a15 0 c2, .slice a16 1 c3, .slice a24 1 c10], OwnSl 3 1 a15 0 c2 [], Box pv8 [iV 1, .slice a15 0 c2, .slice a16 1 c3, .slice a24 1 c10], Box pv6 [iV 0, iV 0], Box pv5 [iV 0, .slice none 0 0, .slice none 0 0, .slice none 0 0], Box pv3 [iV 0, iV 0], Box pf [iV 0, iV 0]] ?_
   refine .nil ?_
   refine .ja (M := [8, 7, 6, 4, 5, 3]) (C' := [0, 1, 2, 13, 14]) (pre := [(12, .slice a28 2 c12), (13, .pointer (some (ead a24 ((0 : Int).toNat * 4)))), (14, .pointer (some ((ead a24 ((0 : Int).toNat * 4)).add 1)))]) [(1, iV 0), (4, .pointer (some pv5)), (5, .pointer (some pv6)), (7, .pointer (some pout2))] [1, 4, 5, 7] hL rfl rfl rfl rfl rfl sb rfl rfl (by kernel_rfl) ?_
   refine .step [15] 15 rfl (by kernel_rfl) (by kernel_rfl) (.v [] rfl rfl rfl rfl rfl rfl (fun _ => fa rfl tF25_3) (.v [(30, .pointer (some (pout2.add 3)))] rfl rfl rfl rfl rfl rfl (fun _ => ld1 rfl tO23 (cellB (off := 3) (k := 2) rfl rfl)) (.v [] rfl rfl rfl rfl rfl rfl (fun _ => mv rfl) (.v [(31, .slice a24 1 c10), (32, iV 0), (30, .pointer (some (pout2.add 3))), (31, .slice a24 1 c10), (32, iV 0), (33, .pointer (some (pout2.add 3))), (34, .slice a24 1 c10), (35, iV 0), (36, .pointer (some (ead a24 ((0 : Int).toNat * 4)))), (37, .pointer (some ((ead a24 ((0 : Int).toNat * 4)).add 1))), (38, .slice a21 1 c8), (39, .pointer (some (pout2.add 0))), (40, iV 1), (41, .slice a27 1 1), (42, .slice a28 2 c12)] rfl rfl rfl rfl rfl rfl (fun _ => ixS rfl rfl tS23 (k := 3) rfl (And.intro (by decide) (by decide))) (.v [(43, .pointer (some (ead a24 ((0 : Int).toNat * 4)))), (30, .pointer (some (pout2.add 3))), (31, .slice a24 1 c10), (32, iV 0), (33, .pointer (some (pout2.add 3))), (34, .slice a24 1 c10), (35, iV 0), (36, .pointer (some (ead a24 ((0 : Int).toNat * 4)))), (37, .pointer (some ((ead a24 ((0 : Int).toNat * 4)).add 1))), (38, .slice a21 1 c8), (39, .pointer (some (pout2.add 0))), (40, iV 1), (41, .slice a27 1 1), (42, .slice a28 2 c12)] rfl rfl rfl rfl rfl rfl (fun _ => fa rfl tF114_1) (.nil)))))) (.cons [(44, .pointer (some ((ead a24 ((0 : Int).toNat * 4)).add 1))), (42, .slice a28 2 c12), (42, .slice a28 2 c12), (30, .pointer (some (pout2.add 3))), (31, .slice a24 1 c10), (32, iV 0), (33, .pointer (some (pout2.add 3))), (34, .slice a24 1 c10), (35, iV 0), (36, .pointer (some (ead a24 ((0 : Int).toNat * 4)))), (37, .pointer (some ((ead a24 ((0 : Int).toNat * 4)).add 1))), (38, .slice a21 1 c8), (39, .pointer (some (pout2.add 0))), (40, iV 1), (41, .slice a27 1 1), (42, .slice a28 2 c12)] rfl rfl (fun sL hL => ?_) (.nil))
   refine stS (k := 3) (off := 0 * 4 + 1) (cs' := [.slice a20 0 c7, .slice a28 2 c12, .slice a22 0 c9, iV 2]) rfl (fun q => ead_add q _ _) rfl rfl (fun w => (tO22 w).2) rfl rfl rfl (by decide) (Nat.le_of_ble_eq_true rfl) rfl ?_
   refine .nil ?_
   refine .jaN (M := [14, 0, 1, 2, 13]) (C' := []) (pre := []) [1, 4, 5, 7] hL rfl rfl rfl rfl rfl (by kernel_rfl) ?_
   refine .last [(30, .pointer (some (pout2.add 3))), (31, .slice a24 1 c10), (32, iV 0), (33, .pointer (some (pout2.add 3))), (34, .slice a24 1 c10), (35, iV 0), (36, .pointer (some (ead a24 ((0 : Int).toNat * 4)))), (37, .pointer (some ((ead a24 ((0 : Int).toNat * 4)).add 1))), (38, .slice a21 1 c8), (39, .pointer (some (pout2.add 0))), (40, iV 1), (41, .slice a27 1 1), (42, .slice a28 2 c12), (43, .pointer (some (ead a24 ((0 : Int).toNat * 4)))), (44, .pointer (some ((ead a24 ((0 : Int).toNat * 4)).add 1)))] rfl (by kernel_rfl) (.nil) rfl ?_
   refine .seqN (.seq (.region (.V (fa rfl tF25_0) ?_)))
   refine .V (ld1 rfl tO3 (cellB (off := 0) (k := 2) rfl rfl)) ?_
   refine .V bi0 ?_
   refine .V (fa rfl tF25_0) ?_
   refine st (p := pout2) (off := 0) (k := 2) (vs := [iV 2]) rfl rfl rfl (fun w => (tO3 w).2) rfl rfl rfl rfl ?_
   refine .nil (.seqN (.seq (.region (.V (ldA (cs := [iV 2, .slice a15 0 c2, .slice a26 2 c11, .slice a24 1 c10]) rfl tA25 rfl (cellsB (off := 0) (k := 2) rfl (m := 4) rfl)) ?_))))
   refine .V (bld (cs := #[iV 0, iV 0]) (pv := []) tB27 rfl rfl) ?_
   refine st (p := pv5) (off := 0) (k := 12) (vs := [iV 2, .slice a15 0 c2, .slice a26 2 c11, .slice a24 1 c10]) rfl rfl rfl (fun w => (tA25 w).2) rfl rfl rfl rfl ?_
   refine st (p := pv6) (off := 0) (k := 11) (vs := [iV 0, iV 0]) rfl rfl rfl (fun w => (tA27 w).2) rfl rfl rfl rfl ?_
   refine .nil (.seqN (.ret ?_))
   refine .res2 rfl (rvC rfl tA25 (k := 12) rfl rfl) (rvC rfl tA27 (k := 11) rfl rfl) (inl_back (v := .tuple #[.agg #[iV 2, .slice a15 0 c2, .slice a26 2 c11, .slice a24 1 c10], .agg #[iV 0, iV 0]]) q34 rfl ?_)
   refine .V mv0 ?_
   refine .V (ext rfl rfl) ?_
   refine .V (ext rfl rfl) ?_
   refine al tZ25 rfl (fun pu => ?_)
   refine al tZ27 rfl (fun pf6 => ?_)
   refine st (p := pu) (off := 0) (k := 1) (vs := [iV 2, .slice a15 0 c2, .slice a26 2 c11, .slice a24 1 c10]) rfl rfl rfl (fun w => (tA25 w).2) rfl rfl rfl rfl ?_
   refine st (p := pf6) (off := 0) (k := 0) (vs := [iV 0, iV 0]) rfl rfl rfl (fun w => (tA27 w).2) rfl rfl rfl rfl ?_
   refine .nil (.seqN (.seq (.seq (.region (.V (ldA (cs := [iV 0, iV 0]) rfl tA27 rfl (cellsB (off := 0) (k := 0) rfl (m := 2) rfl)) ?_)))))
   refine .V (bld (cs := #[iV 0, iV 0]) (pv := []) tB27 rfl rfl) ?_
   refine .V (ne2 tE27 rfl rfl) ?_
   refine .nil (.seqN ?_)
   refine .cond rfl (fun e => absurd (e.symm.trans rfl) (by decide)) (fun _ => ?_)
   refine .skip (.seqN (.seq (.region (.V (ldA (cs := [iV 2, .slice a15 0 c2, .slice a26 2 c11, .slice a24 1 c10]) rfl tA25 rfl (cellsB (off := 0) (k := 1) rfl (m := 4) rfl)) ?_))))
   refine .freezeL (k := 11) rfl (fun h15 le15 q102 q101 => ?_)
   have q103 : RSl h15 a15 ([] : List Int) := (RSl.of (xs := ([] : List Int)) q101)
   refine .KA [Box pf6 [iV 0, iV 0], Box pu [iV 2, .slice a15 0 c2, .slice a26 2 c11, .slice a24 1 c10], OwnSl 3 1 a27 1 1 [iV 1], OwnSl 3 1 a25 1 1 [iV 1], Box pout2 [iV 2, .slice a15 0 c2, .slice a26 2 c11, .slice a24 1 c10], OwnSl 114 4 a24 1 c10 [.slice a20 0 c7, .slice a28 2 c12, .slice a22 0 c9, iV 2], OwnSl 3 1 a22 0 c9 [], OwnSl 3 1 a28 2 c12 [iV 0, iV 1], OwnSl 3 1 a20 0 c7 [], OwnSl 3 1 a26 2 c11 [iV 0, iV 1], Box pout [iV 1, .slice a15 0 c2, .slice a16 1 c3, .slice a24 1 c10], tru, Box pv8 [iV 1, .slice a15 0 c2, .slice a16 1 c3, .slice a24 1 c10], Box pv6 [iV 0, iV 0], Box pv5 [iV 2, .slice a15 0 c2, .slice a26 2 c11, .slice a24 1 c10], Box pv3 [iV 0, iV 0], Box pf [iV 0, iV 0]] ?_
   refine .freezeL (k := 9) rfl (fun h16 le16 q105 q104 => ?_)
   have q106 : RSl h16 a26 ([0, 1] : List Int) := (RSl.of (xs := ([0, 1] : List Int)) q104)
   refine .freezeL (k := 8) rfl (fun h17 le17 q108 q107 => ?_)
   have q109 : RSl h17 a20 ([] : List Int) := (RSl.of (xs := ([] : List Int)) q107)
   refine .freezeL (k := 7) rfl (fun h18 le18 q111 q110 => ?_)
   have q112 : RSl h18 a28 ([0, 1] : List Int) := (RSl.of (xs := ([0, 1] : List Int)) q110)
   refine .freezeL (k := 6) rfl (fun h19 le19 q114 q113 => ?_)
   have q115 : RSl h19 a22 ([] : List Int) := (RSl.of (xs := ([] : List Int)) q113)
   refine .freezeL (k := 5) rfl (fun h20 le20 q117 q116 => ?_)
   have q118 : RSl h20 a24 ([(⟨([] : List Int), ([0, 1] : List Int), ([] : List Int), 2⟩ : Operator)] : List Operator) := (show RSl h20 a24 ([(⟨([] : List Int), ([0, 1] : List Int), ([] : List Int), 2⟩ : Operator)] : List Operator) from ⟨_, RepL.mono (le20) (show RepL h19 ([(⟨([] : List Int), ([0, 1] : List Int), ([] : List Int), 2⟩ : Operator)] : List Operator) [.slice a20 0 c7, .slice a28 2 c12, .slice a22 0 c9, iV 2] from ⟨[.slice a20 0 c7, .slice a28 2 c12, .slice a22 0 c9, iV 2], _, rfl, ⟨a20, c7, a28, c12, a22, c9, rfl, ⟨(show ([] : List Int).length ≤ c7 from q108), (q109.mono (FH.le_trans (le18) (le19)))⟩, ⟨(show ([0, 1] : List Int).length ≤ c12 from q111), (q112.mono (le19))⟩, ⟨(show ([] : List Int).length ≤ c9 from q114), q115⟩⟩, rfl⟩), q116⟩)
   obtain ⟨q119, hF⟩ := hF
   obtain ⟨r10, q120⟩ : ∃ y_ : Int × Fault, y_ = sp_optimalL (⟨2, ([] : List Int), ([0, 1] : List Int), ([(⟨([] : List Int), ([0, 1] : List Int), ([] : List Int), 2⟩ : Operator)] : List Operator)⟩ : Task) := ⟨_, rfl⟩
   replace hF := hF r10 q120
   have q121 : sp_optimalL (⟨2, ([] : List Int), ([0, 1] : List Int), ([(⟨([] : List Int), ([0, 1] : List Int), ([] : List Int), 2⟩ : Operator)] : List Operator)⟩ : Task) = (2, (⟨0, 0⟩ : Fault)) := by decide +kernel
   refine .C (cl (v := .tuple #[iV 2, .agg #[iV 0, iV 0]]) Tryz.call56 rfl rfl (fun w S => (by have h_ := c_optimalL S.sub (⟨2, ([] : List Int), ([0, 1] : List Int), ([(⟨([] : List Int), ([0, 1] : List Int), ([] : List Int), 2⟩ : Operator)] : List Operator)⟩ : Task) a15 c2 (q103.mono (FH.le_trans (FH.le_trans (FH.le_trans (FH.le_trans (le16) (le17)) (le18)) (le19)) (le20))) (show ([] : List Int).length ≤ c2 from q102) a26 c11 (q106.mono (FH.le_trans (FH.le_trans (FH.le_trans (le17) (le18)) (le19)) (le20))) (show ([0, 1] : List Int).length ≤ c11 from q105) a24 c10 q118 (show ([(⟨([] : List Int), ([0, 1] : List Int), ([] : List Int), 2⟩ : Operator)] : List Operator).length ≤ c10 from q117) q119; rw [q121] at h_; exact h_))) ?_
   refine .V (ext rfl rfl) ?_
   refine .V (ext rfl rfl) ?_
   refine .V ag0 ?_
   refine st (p := pv3) (off := 0) (k := 15) (vs := [iV 0, iV 0]) rfl rfl rfl (fun w => (tA27 w).2) rfl rfl rfl rfl ?_
   refine .nil (.seqN (.ret ?_))
   refine .res2 rfl (rvT rfl) (rvC rfl tA27 (k := 15) rfl rfl) (inl_back (v := .tuple #[iV 2, .agg #[iV 0, iV 0]]) q21 rfl ?_)
   refine .V mv0 ?_
   refine .V (ext rfl rfl) ?_
   refine .V (ext rfl rfl) ?_
   refine al tZ27 rfl (fun pg => ?_)
   refine .V ag0 ?_
   refine st (p := pg) (off := 0) (k := 0) (vs := [iV 0, iV 0]) rfl rfl rfl (fun w => (tA27 w).2) rfl rfl rfl rfl ?_
   refine .KA [Box pg [iV 0, iV 0], Box pf6 [iV 0, iV 0], Box pu [iV 2, .slice a15 0 c2, .slice a26 2 c11, .slice a24 1 c10], OwnSl 3 1 a27 1 1 [iV 1], OwnSl 3 1 a25 1 1 [iV 1], Box pout2 [iV 2, .slice a15 0 c2, .slice a26 2 c11, .slice a24 1 c10], tru, tru, tru, tru, tru, Box pout [iV 1, .slice a15 0 c2, .slice a16 1 c3, .slice a24 1 c10], tru, Box pv8 [iV 1, .slice a15 0 c2, .slice a16 1 c3, .slice a24 1 c10], Box pv6 [iV 0, iV 0], Box pv5 [iV 2, .slice a15 0 c2, .slice a26 2 c11, .slice a24 1 c10], Box pv3 [iV 0, iV 0], Box pf [iV 0, iV 0]] ?_
   refine .nil (.seqN (.seq (.region (.V (fa rfl tF27_0) ?_))))
   refine .V (ld1 rfl tO3 (cellB (off := 0) (k := 17) rfl rfl)) ?_
   refine .V bi0 ?_
   refine .V mv0 ?_
   refine .gv (fa rfl tF27_0) rfl rfl rfl rfl rfl rfl ?_
   refine .gv (ld1 rfl tO3 (cellB (off := 0) (k := 0) rfl rfl)) rfl rfl rfl rfl rfl rfl ?_
   refine .gv bi0 rfl rfl rfl rfl rfl rfl ?_
   refine .V (pkT rfl rfl rfl) ?_
   refine .V mv0 ?_
   refine .gv mv0 rfl rfl rfl rfl rfl rfl ?_
   refine .V (pkT rfl rfl rfl) ?_
   refine .V mv0 ?_
   refine .gv mv0 rfl rfl rfl rfl rfl rfl ?_
   refine .gR rfl rfl rfl rfl ?_
   refine bs2 (cs := #[iV 0]) (pv := [(0, iV 0)]) tS22 rfl rfl (by decide) (by decide) rfl rfl rfl (fun a29 q122 => ?_)
   refine .freezeL (k := 0) rfl (fun h21 le21 q124 q123 => ?_)
   have q125 : RSl h21 a29 ([0] : List Int) := (RSl.of (xs := ([0] : List Int)) q123)
   obtain ⟨q126, hF⟩ := hF
   obtain ⟨r11, q127⟩ : ∃ y_ : Bool, y_ = sp_ints ([0] : List Int) ([0] : List Int) := ⟨_, rfl⟩
   replace hF := hF r11 q127
   have q128 : sp_ints ([0] : List Int) ([0] : List Int) = true := by decide +kernel
   refine .gc (cl (v := .bool true) Tryz.call27 rfl rfl (fun w S => (by have h_ := c_ints S.sub ([0] : List Int) a5 c (q15.mono (FH.le_trans (FH.le_trans (FH.le_trans (FH.le_trans (FH.le_trans (FH.le_trans (FH.le_trans (FH.le_trans (FH.le_trans (le5) (le6)) (le7)) (le15)) (le16)) (le17)) (le18)) (le19)) (le20)) (le21))) q16 ([0] : List Int) a29 1 q125 (show ([0] : List Int).length ≤ 1 from q124) q126; rw [q128] at h_; exact h_))) rfl rfl rfl rfl rfl rfl ?_
   refine .V (pkT rfl rfl rfl) ?_
   refine .V mv0 ?_
   refine .gv mv0 rfl rfl rfl rfl rfl rfl ?_
   refine .gv bi0 rfl rfl rfl rfl rfl rfl ?_
   refine .V (pkT rfl rfl rfl) ?_
   refine .V ag0 ?_
   refine .nil (.seqN (.ret ?_))
   refine .res1 rfl (rvT rfl) (fun w' S => ⟨true, hF, rfl, S.below⟩)
 ·refine al tZ25 rfl (fun pout => ?_)
  refine .nil ?_
  refine .ja (M := []) (C' := [0, 1, 2, 3, 5, 6]) (pre := [(9, .pointer (some pout))]) [(1, .pointer (some pt5)), (2, .pointer (some pv8))] [1, 2] hL rfl rfl rfl rfl rfl sb rfl rfl (by kernel_rfl) ?_
  refine .step [4] 4 rfl (by kernel_rfl) (by kernel_rfl) (.v [] rfl rfl rfl rfl rfl rfl (fun _ => fa rfl tF25_0) (.v [(6, .pointer (some (pt5.add 0)))] rfl rfl rfl rfl rfl rfl (fun _ => ld1 rfl tO3 (cellB (off := 0) (k := 2) rfl rfl)) (.v [] rfl rfl rfl rfl rfl rfl (fun _ => fa rfl tF25_1) (.v [(8, .pointer (some (pt5.add 1)))] rfl rfl rfl rfl rfl rfl (fun _ => ld1 rfl tO22 (cellB (off := 1) (k := 2) rfl rfl)) (.v [] rfl rfl rfl rfl rfl rfl (fun _ => fa rfl tF25_2) (.v [(11, .pointer (some (pt5.add 2)))] rfl rfl rfl rfl rfl rfl (fun _ => ld1 rfl tO22 (cellB (off := 2) (k := 2) rfl rfl)) (.nil))))))) (.cons [(9, .slice none 0 0)] rfl rfl (fun sL hL => ?_) (.nil))
  obtain ⟨q129, hF⟩ := hF
  obtain ⟨r5, q130⟩ : ∃ y_ : List Int, y_ = sp_clone [] := ⟨_, rfl⟩
  replace hF := hF r5 q130
  refine clO (α := Option Addr × Nat) (V := fun z => vSl z.1 r5 z.2) (Ψ := fun z => True) (B := fun z => [oL 3 1 z.1 r5 z.2]) Tryz.call57 rfl rfl (fun w S => (by rw [q130]; exact c_cloneO S.sub [] none 0 RSl.nil_ (Nat.le_refl 0) q129)) rfl (fun z _ => ?_)
  obtain ⟨a15, c2⟩ := z
  obtain rfl : r5 = ([] : List Int) := q130.trans (by decide +kernel)
  refine .nil ?_
  refine .ja (M := [3, 2]) (C' := [0, 1, 5, 6]) (pre := [(4, .slice a15 0 c2)]) [(1, .pointer (some pt5)), (2, .pointer (some pv8))] [1, 2] hL rfl rfl rfl rfl rfl sb rfl rfl (by kernel_rfl) ?_
  refine .step [7] 7 rfl (by kernel_rfl) (by kernel_rfl) (.v [] rfl rfl rfl rfl rfl rfl (fun _ => fa rfl tF25_0) (.v [(6, .pointer (some (pt5.add 0)))] rfl rfl rfl rfl rfl rfl (fun _ => ld1 rfl tO3 (cellB (off := 0) (k := 3) rfl rfl)) (.v [] rfl rfl rfl rfl rfl rfl (fun _ => fa rfl tF25_2) (.v [(11, .pointer (some (pt5.add 2)))] rfl rfl rfl rfl rfl rfl (fun _ => ld1 rfl tO22 (cellB (off := 2) (k := 3) rfl rfl)) (.nil))))) (.cons [(12, .slice a7 1 1), (10, .slice a15 0 c2)] rfl rfl (fun sL hL => ?_) (.nil))
  obtain ⟨q131, hF⟩ := hF
  obtain ⟨r6, q132⟩ : ∃ y_ : List Int, y_ = sp_clone ([0] : List Int) := ⟨_, rfl⟩
  replace hF := hF r6 q132
  refine clO (α := Option Addr × Nat) (V := fun z => vSl z.1 r6 z.2) (Ψ := fun z => True) (B := fun z => [oL 3 1 z.1 r6 z.2]) Tryz.call57 rfl rfl (fun w S => (by rw [q132]; exact c_cloneO S.sub ([0] : List Int) a7 1 (q25.mono (FH.le_trans (le6) (le7))) (show ([0] : List Int).length ≤ 1 from q24) q131)) rfl (fun z _ => ?_)
  obtain ⟨a16, c3⟩ := z
  obtain rfl : r6 = ([0] : List Int) := q132.trans (by decide +kernel)
  refine .nil ?_
  refine .ja (M := [6, 5]) (C' := [0, 1, 8]) (pre := [(7, .slice a16 1 c3), (8, .agg #[iV 1, .slice a15 0 c2, .slice a16 1 c3, .slice none 0 0])]) [(1, .pointer (some pt5)), (2, .pointer (some pv8))] [1, 2] hL rfl rfl rfl rfl rfl sb rfl rfl (by kernel_rfl) ?_
  refine .step [10] 10 rfl (by kernel_rfl) (by kernel_rfl) (.v [] rfl rfl rfl rfl rfl rfl (fun _ => fa rfl tF25_0) (.v [(6, .pointer (some (pt5.add 0)))] rfl rfl rfl rfl rfl rfl (fun _ => ld1 rfl tO3 (cellB (off := 0) (k := 4) rfl rfl)) (.v [(7, iV 1), (10, .slice a15 0 c2), (13, .slice a16 1 c3)] rfl rfl rfl rfl rfl rfl (fun _ => bld (cs := #[iV 1, .slice a15 0 c2, .slice a16 1 c3, .slice none 0 0]) (pv := [(0, iV 1), (1, .slice a15 0 c2), (2, .slice a16 1 c3)]) tB25 rfl rfl) (.nil)))) (.cons [(3, .pointer (some pout)), (14, .agg #[iV 1, .slice a15 0 c2, .slice a16 1 c3, .slice none 0 0]), (13, .slice a16 1 c3), (6, .pointer (some (pt5.add 0))), (7, iV 1), (8, .pointer (some (pt5.add 1))), (9, .slice none 0 0), (10, .slice a15 0 c2), (11, .pointer (some (pt5.add 2))), (12, .slice a7 1 1), (13, .slice a16 1 c3), (14, .agg #[iV 1, .slice a15 0 c2, .slice a16 1 c3, .slice none 0 0]), (3, .pointer (some pout))] rfl rfl (fun sL hL => ?_) (.nil))
  refine st (p := pout) (off := 0) (k := 2) (vs := [iV 1, .slice a15 0 c2, .slice a16 1 c3, .slice none 0 0]) rfl rfl rfl (fun w => (tA25 w).2) rfl rfl rfl rfl ?_
  refine .nil ?_
  refine .jaN (M := [8, 0, 1]) (C' := []) (pre := []) [1, 2] hL rfl rfl rfl rfl rfl (by kernel_rfl) ?_
  refine .last [(6, .pointer (some (pt5.add 0))), (7, iV 1), (8, .pointer (some (pt5.add 1))), (9, .slice none 0 0), (10, .slice a15 0 c2), (11, .pointer (some (pt5.add 2))), (12, .slice a7 1 1), (13, .slice a16 1 c3), (14, .agg #[iV 1, .slice a15 0 c2, .slice a16 1 c3, .slice none 0 0]), (3, .pointer (some pout))] rfl (by kernel_rfl) (.nil) rfl ?_
  refine .seqN (.seq (.seq (.region (.V (fa rfl tF25_3) ?_))))
  refine .V (ld1 rfl tO23 (cellB (off := 3) (k := 4) rfl rfl)) ?_
  refine .V (ln rfl tS23.is) ?_
  refine .V mv0 ?_
  refine .nil (.seqN (.block ?_))
  refine .rounds 90 ?_
  refine .seq (.region (.V bi0 ?_))
  refine .nil (.seqN (.seq ?_))
  refine .cond rfl (fun _ => ?_) (fun e => absurd (e.symm.trans rfl) (by decide))
  refine .skip (.seqN (.seq (.block (.seq (.region (.V (ix rfl rfl tS23 (q31.ne (by decide) (inb_pos (show inb ([(⟨[], ([0] : List Int), [], 2⟩ : Operator)] : List Operator) (0 : Int) from And.intro (by decide) (by decide)))) (show inb ([(⟨[], ([0] : List Int), [], 2⟩ : Operator)] : List Operator) (0 : Int) from And.intro (by decide) (by decide))) ?_))))))
  obtain ⟨_, ⟨a17, c4, a18, c5, a19, c6, rfl, ⟨q133, q134⟩, ⟨q135, q136⟩, q137, q138⟩, q139⟩ := q31.elem (show inb ([(⟨[], ([0] : List Int), [], 2⟩ : Operator)] : List Operator) (0 : Int) from And.intro (by decide) (by decide))
  refine .V (ldA (cs := [.slice a17 0 c4, .slice a18 1 c5, .slice a19 0 c6, iV 2]) rfl tA114 rfl (cellsH (q139 (by decide)))) ?_
  refine al tZ114 rfl (fun po => ?_)
  refine st (p := po) (off := 0) (k := 0) (vs := [.slice a17 0 c4, .slice a18 1 c5, .slice a19 0 c6, iV 2]) rfl rfl rfl (fun w => (tA114 w).2) rfl rfl rfl rfl ?_
  refine .nil (.seqN ?_)
  refine .openA (s0 := [(2, .pointer (some pv8)), (3, .pointer (some pout)), (5, .pointer (some po)), (16, .slice a9 1 1), (17, iV 1), (18, iV 0)]) [0, 1, 2, 3, 5, 6, 8, 9, 11, 12] [(0, .pointer (some (pout.add 3))), (1, .slice none 0 0), (2, .pointer (some (po.add 0))), (3, .slice a17 0 c4), (5, .pointer (some (po.add 1))), (6, .slice a18 1 c5), (8, .pointer (some (po.add 2))), (9, .slice a19 0 c6), (11, .pointer (some (po.add 3))), (12, iV 2)] (by kernel_rfl) sb [2, 3, 5, 16, 17, 18] [] rfl (by kernel_rfl) ?_
  refine .step [4] 4 rfl (by kernel_rfl) (by kernel_rfl) (.v [] rfl rfl rfl rfl rfl rfl (fun _ => fa rfl tF25_3) (.v [(22, .pointer (some (pout.add 3)))] rfl rfl rfl rfl rfl rfl (fun _ => ld1 rfl tO23 (cellB (off := 3) (k := 3) rfl rfl)) (.v [] rfl rfl rfl rfl rfl rfl (fun _ => fa rfl tF114_0) (.v [(24, .pointer (some (po.add 0)))] rfl rfl rfl rfl rfl rfl (fun _ => ld1 rfl tO22 (cellB (off := 0) (k := 0) rfl rfl)) (.v [] rfl rfl rfl rfl rfl rfl (fun _ => fa rfl tF114_1) (.v [(27, .pointer (some (po.add 1)))] rfl rfl rfl rfl rfl rfl (fun _ => ld1 rfl tO22 (cellB (off := 1) (k := 0) rfl rfl)) (.v [] rfl rfl rfl rfl rfl rfl (fun _ => fa rfl tF114_2) (.v [(30, .pointer (some (po.add 2)))] rfl rfl rfl rfl rfl rfl (fun _ => ld1 rfl tO22 (cellB (off := 2) (k := 0) rfl rfl)) (.v [] rfl rfl rfl rfl rfl rfl (fun _ => fa rfl tF114_3) (.v [(33, .pointer (some (po.add 3)))] rfl rfl rfl rfl rfl rfl (fun _ => ld1 rfl tO3 (cellB (off := 3) (k := 0) rfl rfl)) (.nil))))))))))) (.cons [(25, .slice a17 0 c4)] rfl rfl (fun sL hL => ?_) (.nil))
  obtain ⟨q140, hF⟩ := hF
  obtain ⟨r7, q141⟩ : ∃ y_ : List Int, y_ = sp_clone ([] : List Int) := ⟨_, rfl⟩
  replace hF := hF r7 q141
  refine clO (α := Option Addr × Nat) (V := fun z => vSl z.1 r7 z.2) (Ψ := fun z => True) (B := fun z => [oL 3 1 z.1 r7 z.2]) Tryz.call57 rfl rfl (fun w S => (by rw [q141]; exact c_cloneO S.sub ([] : List Int) a17 c4 q134 q133 q140)) rfl (fun z _ => ?_)
  obtain ⟨a20, c7⟩ := z
  obtain rfl : r7 = ([] : List Int) := q141.trans (by decide +kernel)
  refine .KA [OwnSl 3 1 a20 0 c7 [], Box po [.slice a17 0 c4, .slice a18 1 c5, .slice a19 0 c6, iV 2], OwnSl 3 1 a16 1 c3 [iV 0], OwnSl 3 1 a15 0 c2 [], Box pout [iV 1, .slice a15 0 c2, .slice a16 1 c3, .slice none 0 0], Box pv8 [iV 0, .slice none 0 0, .slice none 0 0, .slice none 0 0], Box pt5 [iV 1, .slice none 0 0, .slice a7 1 1, .slice a9 1 1], Box pv6 [iV 0, iV 0], Box pv5 [iV 0, .slice none 0 0, .slice none 0 0, .slice none 0 0], Box pv3 [iV 0, iV 0], Box pf [iV 0, iV 0]] ?_
  refine .nil ?_
  refine .ja (M := [3, 2]) (C' := [0, 1, 5, 6, 8, 9, 11, 12]) (pre := [(4, .slice a20 0 c7)]) [(2, .pointer (some pv8)), (3, .pointer (some pout)), (5, .pointer (some po)), (16, .slice a9 1 1), (17, iV 1), (18, iV 0)] [2, 3, 5, 16, 17, 18] hL rfl rfl rfl rfl rfl sb rfl rfl (by kernel_rfl) ?_
  refine .step [7] 7 rfl (by kernel_rfl) (by kernel_rfl) (.v [] rfl rfl rfl rfl rfl rfl (fun _ => fa rfl tF25_3) (.v [(22, .pointer (some (pout.add 3)))] rfl rfl rfl rfl rfl rfl (fun _ => ld1 rfl tO23 (cellB (off := 3) (k := 4) rfl rfl)) (.v [] rfl rfl rfl rfl rfl rfl (fun _ => fa rfl tF114_1) (.v [(27, .pointer (some (po.add 1)))] rfl rfl rfl rfl rfl rfl (fun _ => ld1 rfl tO22 (cellB (off := 1) (k := 1) rfl rfl)) (.v [] rfl rfl rfl rfl rfl rfl (fun _ => fa rfl tF114_2) (.v [(30, .pointer (some (po.add 2)))] rfl rfl rfl rfl rfl rfl (fun _ => ld1 rfl tO22 (cellB (off := 2) (k := 1) rfl rfl)) (.v [] rfl rfl rfl rfl rfl rfl (fun _ => fa rfl tF114_3) (.v [(33, .pointer (some (po.add 3)))] rfl rfl rfl rfl rfl rfl (fun _ => ld1 rfl tO3 (cellB (off := 3) (k := 1) rfl rfl)) (.nil))))))))) (.cons [(28, .slice a18 1 c5), (26, .slice a20 0 c7)] rfl rfl (fun sL hL => ?_) (.nil))
  obtain ⟨r8, q142⟩ : ∃ y_ : List Int, y_ = sp_clone ([0] : List Int) := ⟨_, rfl⟩
  replace hF := hF r8 q142
  refine clO (α := Option Addr × Nat) (V := fun z => vSl z.1 r8 z.2) (Ψ := fun z => True) (B := fun z => [oL 3 1 z.1 r8 z.2]) Tryz.call57 rfl rfl (fun w S => (by rw [q142]; exact c_cloneO S.sub ([0] : List Int) a18 c5 q136 q135 q131)) rfl (fun z _ => ?_)
  obtain ⟨a21, c8⟩ := z
  obtain rfl : r8 = ([0] : List Int) := q142.trans (by decide +kernel)
  refine .nil ?_
  refine .ja (M := [6, 5]) (C' := [0, 1, 8, 9, 11, 12]) (pre := [(7, .slice a21 1 c8)]) [(2, .pointer (some pv8)), (3, .pointer (some pout)), (5, .pointer (some po)), (16, .slice a9 1 1), (17, iV 1), (18, iV 0)] [2, 3, 5, 16, 17, 18] hL rfl rfl rfl rfl rfl sb rfl rfl (by kernel_rfl) ?_
  refine .step [10] 10 rfl (by kernel_rfl) (by kernel_rfl) (.v [] rfl rfl rfl rfl rfl rfl (fun _ => fa rfl tF25_3) (.v [(22, .pointer (some (pout.add 3)))] rfl rfl rfl rfl rfl rfl (fun _ => ld1 rfl tO23 (cellB (off := 3) (k := 5) rfl rfl)) (.v [] rfl rfl rfl rfl rfl rfl (fun _ => fa rfl tF114_2) (.v [(30, .pointer (some (po.add 2)))] rfl rfl rfl rfl rfl rfl (fun _ => ld1 rfl tO22 (cellB (off := 2) (k := 2) rfl rfl)) (.v [] rfl rfl rfl rfl rfl rfl (fun _ => fa rfl tF114_3) (.v [(33, .pointer (some (po.add 3)))] rfl rfl rfl rfl rfl rfl (fun _ => ld1 rfl tO3 (cellB (off := 3) (k := 2) rfl rfl)) (.nil))))))) (.cons [(31, .slice a19 0 c6), (29, .slice a21 1 c8)] rfl rfl (fun sL hL => ?_) (.nil))
  obtain ⟨r9, q143⟩ : ∃ y_ : List Int, y_ = sp_clone ([] : List Int) := ⟨_, rfl⟩
  replace hF := hF r9 q143
  refine clO (α := Option Addr × Nat) (V := fun z => vSl z.1 r9 z.2) (Ψ := fun z => True) (B := fun z => [oL 3 1 z.1 r9 z.2]) Tryz.call57 rfl rfl (fun w S => (by rw [q143]; exact c_cloneO S.sub ([] : List Int) a19 c6 q138 q137 q140)) rfl (fun z _ => ?_)
  obtain ⟨a22, c9⟩ := z
  obtain rfl : r9 = ([] : List Int) := q143.trans (by decide +kernel)
  refine .nil ?_
  refine .ja (M := [9, 8]) (C' := [0, 1, 11, 12, 13]) (pre := [(10, .slice a22 0 c9), (13, .agg #[.slice a20 0 c7, .slice a21 1 c8, .slice a22 0 c9, iV 2])]) [(2, .pointer (some pv8)), (3, .pointer (some pout)), (5, .pointer (some po)), (16, .slice a9 1 1), (17, iV 1), (18, iV 0)] [2, 3, 5, 16, 17, 18] hL rfl rfl rfl rfl rfl sb rfl rfl (by kernel_rfl) ?_
  refine .step [14] 14 rfl (by kernel_rfl) (by kernel_rfl) (.v [] rfl rfl rfl rfl rfl rfl (fun _ => fa rfl tF25_3) (.v [(22, .pointer (some (pout.add 3)))] rfl rfl rfl rfl rfl rfl (fun _ => ld1 rfl tO23 (cellB (off := 3) (k := 6) rfl rfl)) (.v [] rfl rfl rfl rfl rfl rfl (fun _ => fa rfl tF114_3) (.v [(33, .pointer (some (po.add 3)))] rfl rfl rfl rfl rfl rfl (fun _ => ld1 rfl tO3 (cellB (off := 3) (k := 3) rfl rfl)) (.v [(26, .slice a20 0 c7), (29, .slice a21 1 c8), (32, .slice a22 0 c9), (34, iV 2)] rfl rfl rfl rfl rfl rfl (fun _ => bld (cs := #[.slice a20 0 c7, .slice a21 1 c8, .slice a22 0 c9, iV 2]) (pv := [(0, .slice a20 0 c7), (1, .slice a21 1 c8), (2, .slice a22 0 c9), (3, iV 2)]) tB114 rfl rfl) (.nil)))))) (.cons [(35, .agg #[.slice a20 0 c7, .slice a21 1 c8, .slice a22 0 c9, iV 2])] rfl rfl (fun sL hL => ?_) (.nil))
  refine bs2 (cs := #[.slice a20 0 c7, .slice a21 1 c8, .slice a22 0 c9, iV 2]) (pv := [(0, .agg #[.slice a20 0 c7, .slice a21 1 c8, .slice a22 0 c9, iV 2])]) tS23 rfl rfl (by decide) (by decide) rfl rfl rfl (fun a23 q144 => ?_)
  refine .nil ?_
  refine .ja (M := [13, 12, 11]) (C' := [0, 1]) (pre := [(14, .slice a23 1 1)]) [(2, .pointer (some pv8)), (3, .pointer (some pout)), (5, .pointer (some po)), (16, .slice a9 1 1), (17, iV 1), (18, iV 0)] [2, 3, 5, 16, 17, 18] hL rfl rfl rfl rfl rfl sb rfl rfl (by kernel_rfl) ?_
  refine .step [15] 15 rfl (by kernel_rfl) (by kernel_rfl) (.v [] rfl rfl rfl rfl rfl rfl (fun _ => fa rfl tF25_3) (.v [(22, .pointer (some (pout.add 3)))] rfl rfl rfl rfl rfl rfl (fun _ => ld1 rfl tO23 (cellB (off := 3) (k := 7) rfl rfl)) (.nil))) (.cons [(23, .slice none 0 0), (36, .slice a23 1 1), (32, .slice a22 0 c9)] rfl rfl (fun sL hL => ?_) (.nil))
  refine .nilSl 114 4 ?_
  refine app (k := 0) (news := [.slice a20 0 c7, .slice a21 1 c8, .slice a22 0 c9, iV 2]) (cs' := [.slice a20 0 c7, .slice a21 1 c8, .slice a22 0 c9, iV 2]) (nm := 1) tS23 rfl (by decide) rfl rfl rfl rfl (srcS (k := 1) rfl) (oneAll rfl) (by decide) (by decide) rfl rfl rfl (fun a24 c10 => ?_)
  refine .nil ?_
  refine .ja (M := [1, 0]) (C' := [16]) (pre := [(15, .slice a24 1 c10), (16, .pointer (some (pout.add 3)))]) [(2, .pointer (some pv8)), (3, .pointer (some pout)), (5, .pointer (some po)), (16, .slice a9 1 1), (17, iV 1), (18, iV 0)] [2, 3, 5, 16, 17, 18] hL rfl rfl rfl rfl rfl sb rfl rfl (by kernel_rfl) ?_
  refine .step [17] 17 rfl (by kernel_rfl) (by kernel_rfl) (.v [(22, .pointer (some (pout.add 3))), (23, .slice none 0 0), (24, .pointer (some (po.add 0))), (25, .slice a17 0 c4), (26, .slice a20 0 c7), (27, .pointer (some (po.add 1))), (28, .slice a18 1 c5), (29, .slice a21 1 c8), (30, .pointer (some (po.add 2))), (31, .slice a19 0 c6), (32, .slice a22 0 c9), (33, .pointer (some (po.add 3))), (34, iV 2), (35, .agg #[.slice a20 0 c7, .slice a21 1 c8, .slice a22 0 c9, iV 2]), (36, .slice a23 1 1), (37, .slice a24 1 c10)] rfl rfl rfl rfl rfl rfl (fun _ => fa rfl tF25_3) (.nil)) (.cons [(38, .pointer (some (pout.add 3))), (37, .slice a24 1 c10), (37, .slice a24 1 c10), (22, .pointer (some (pout.add 3))), (23, .slice none 0 0), (24, .pointer (some (po.add 0))), (25, .slice a17 0 c4), (26, .slice a20 0 c7), (27, .pointer (some (po.add 1))), (28, .slice a18 1 c5), (29, .slice a21 1 c8), (30, .pointer (some (po.add 2))), (31, .slice a19 0 c6), (32, .slice a22 0 c9), (33, .pointer (some (po.add 3))), (34, iV 2), (35, .agg #[.slice a20 0 c7, .slice a21 1 c8, .slice a22 0 c9, iV 2]), (36, .slice a23 1 1), (37, .slice a24 1 c10)] rfl rfl (fun sL hL => ?_) (.nil))
  refine st (p := pout) (off := 3) (k := 8) (vs := [.slice a24 1 c10]) rfl rfl rfl (fun w => (tO23 w).2) rfl rfl rfl rfl ?_
  refine .KA [OwnSl 114 4 a24 1 c10 [.slice a20 0 c7, .slice a21 1 c8, .slice a22 0 c9, iV 2], OwnSl 114 4 a23 1 1 [.slice a20 0 c7, .slice a21 1 c8, .slice a22 0 c9, iV 2], OwnSl 3 1 a22 0 c9 [], OwnSl 3 1 a21 1 c8 [iV 0], OwnSl 3 1 a20 0 c7 [], Box po [.slice a17 0 c4, .slice a18 1 c5, .slice a19 0 c6, iV 2], OwnSl 3 1 a16 1 c3 [iV 0], OwnSl 3 1 a15 0 c2 [], Box pout [iV 1, .slice a15 0 c2, .slice a16 1 c3, .slice a24 1 c10], Box pv8 [iV 0, .slice none 0 0, .slice none 0 0, .slice none 0 0], Box pt5 [iV 1, .slice none 0 0, .slice a7 1 1, .slice a9 1 1], Box pv6 [iV 0, iV 0], Box pv5 [iV 0, .slice none 0 0, .slice none 0 0, .slice none 0 0], Box pv3 [iV 0, iV 0], Box pf [iV 0, iV 0]] ?_
  refine .nil ?_
  refine .jaN (M := [16]) (C' := []) (pre := []) [2, 3, 5, 16, 17, 18] hL rfl rfl rfl rfl rfl (by kernel_rfl) ?_
  refine .last [(22, .pointer (some (pout.add 3))), (23, .slice none 0 0), (24, .pointer (some (po.add 0))), (25, .slice a17 0 c4), (26, .slice a20 0 c7), (27, .pointer (some (po.add 1))), (28, .slice a18 1 c5), (29, .slice a21 1 c8), (30, .pointer (some (po.add 2))), (31, .slice a19 0 c6), (32, .slice a22 0 c9), (33, .pointer (some (po.add 3))), (34, iV 2), (35, .agg #[.slice a20 0 c7, .slice a21 1 c8, .slice a22 0 c9, iV 2]), (36, .slice a23 1 1), (37, .slice a24 1 c10), (38, .pointer (some (pout.add 3)))] rfl (by kernel_rfl) (.nil) rfl ?_
  refine .blkN (.seqN (.region (.V bi0 ?_)))
  refine .V mv0 ?_
  refine .nil ?_
  refine .more ?_
  refine .sub (s' := [(2, .pointer (some pv8)), (3, .pointer (some pout)), (16, .slice a9 1 1), (17, iV 1), (18, iV 1)]) sb ?_
  refine .sel0 [0, 2, 3, 4, 6, 7, 8, 9, 11, 12, 13, 14] (by decide) rfl ?_
  refine .KA [OwnSl 114 4 a24 1 c10 [.slice a20 0 c7, .slice a21 1 c8, .slice a22 0 c9, iV 2], OwnSl 3 1 a22 0 c9 [], OwnSl 3 1 a21 1 c8 [iV 0], OwnSl 3 1 a20 0 c7 [], OwnSl 3 1 a16 1 c3 [iV 0], OwnSl 3 1 a15 0 c2 [], Box pout [iV 1, .slice a15 0 c2, .slice a16 1 c3, .slice a24 1 c10], Box pv8 [iV 0, .slice none 0 0, .slice none 0 0, .slice none 0 0], Box pv6 [iV 0, iV 0], Box pv5 [iV 0, .slice none 0 0, .slice none 0 0, .slice none 0 0], Box pv3 [iV 0, iV 0], Box pf [iV 0, iV 0]] ?_
  refine .seq (.region (.V bi0 ?_))
  refine .nil (.seqN (.seq ?_))
  refine .cond rfl (fun e => absurd (e.symm.trans rfl) (by decide)) (fun _ => ?_)
  refine .exit (.seqX (.seqX (.blkX (.seqN (.seq (.region (.V (ldA (cs := [iV 1, .slice a15 0 c2, .slice a16 1 c3, .slice a24 1 c10]) rfl tA25 rfl (cellsB (off := 0) (k := 6) rfl (m := 4) rfl)) ?_)))))))
  refine st (p := pv8) (off := 0) (k := 7) (vs := [iV 1, .slice a15 0 c2, .slice a16 1 c3, .slice a24 1 c10]) rfl rfl rfl (fun w => (tA25 w).2) rfl rfl rfl rfl ?_
  refine .nil (.seqN (.ret ?_))
  refine .res1 rfl (rvC rfl tA25 (k := 7) rfl rfl) (inl_back (v := .agg #[iV 1, .slice a15 0 c2, .slice a16 1 c3, .slice a24 1 c10]) q38 rfl ?_)
  refine al tZ25 rfl (fun pout2 => ?_)
  refine st (p := pout2) (off := 0) (k := 0) (vs := [iV 1, .slice a15 0 c2, .slice a16 1 c3, .slice a24 1 c10]) rfl rfl rfl (fun w => (tA25 w).2) rfl rfl rfl rfl ?_
  refine .nil (.seqN (.seq (.region (.V (fa rfl tF25_2) ?_))))
  refine .V (ld1 rfl tO22 (cellB (off := 2) (k := 0) rfl rfl)) ?_
  refine .V (fa rfl tF25_0) ?_
  refine .V (ld1 rfl tO3 (cellB (off := 0) (k := 0) rfl rfl)) ?_
  refine bs2 (cs := #[iV 1]) (pv := [(0, iV 1)]) tS22 rfl rfl (by decide) (by decide) rfl rfl rfl (fun a25 q145 => ?_)
  refine app (k := 6) (news := [iV 1]) (cs' := [iV 0, iV 1]) (nm := 2) tS22 rfl (by decide) rfl rfl rfl rfl (srcS (k := 0) rfl) (oneAll rfl) (by decide) (by decide) rfl rfl rfl (fun a26 c11 => ?_)
  refine .V (fa rfl tF25_2) ?_
  refine st (p := pout2) (off := 2) (k := 1) (vs := [.slice a26 2 c11]) rfl rfl rfl (fun w => (tO22 w).2) rfl rfl rfl rfl ?_
  refine .nil (.seqN (.seq ?_))
  refine .openA (s0 := [(1, iV 0), (4, .pointer (some pv5)), (5, .pointer (some pv6)), (7, .pointer (some pout2))]) [0, 1, 2, 3, 4, 5, 6, 7, 8, 9, 10] [(0, .pointer (some (pout2.add 3))), (1, .slice a24 1 c10), (2, iV 0), (3, .pointer (some (pout2.add 3))), (4, .slice a24 1 c10), (5, iV 0), (6, .pointer (some (ead a24 ((0 : Int).toNat * 4)))), (7, .pointer (some ((ead a24 ((0 : Int).toNat * 4)).add 1))), (8, .slice a21 1 c8), (9, .pointer (some (pout2.add 0))), (10, iV 1)] (by kernel_rfl) sb [1, 4, 5, 7] [] rfl (by kernel_rfl) ?_
  refine .step [11] 11 rfl (by kernel_rfl) (by kernel_rfl) (.v [] rfl rfl rfl rfl rfl rfl (fun _ => fa rfl tF25_3) (.v [(30, .pointer (some (pout2.add 3)))] rfl rfl rfl rfl rfl rfl (fun _ => ld1 rfl tO23 (cellB (off := 3) (k := 1) rfl rfl)) (.v [] rfl rfl rfl rfl rfl rfl (fun _ => mv rfl) (.v [] rfl rfl rfl rfl rfl rfl (fun _ => fa rfl tF25_3) (.v [(33, .pointer (some (pout2.add 3)))] rfl rfl rfl rfl rfl rfl (fun _ => ld1 rfl tO23 (cellB (off := 3) (k := 1) rfl rfl)) (.v [] rfl rfl rfl rfl rfl rfl (fun _ => mv rfl) (.v [(34, .slice a24 1 c10), (35, iV 0)] rfl rfl rfl rfl rfl rfl (fun _ => ixS rfl rfl tS23 (k := 2) rfl (And.intro (by decide) (by decide))) (.v [(36, .pointer (some (ead a24 ((0 : Int).toNat * 4))))] rfl rfl rfl rfl rfl rfl (fun _ => fa rfl tF114_1) (.v [(37, .pointer (some ((ead a24 ((0 : Int).toNat * 4)).add 1)))] rfl rfl rfl rfl rfl rfl (fun _ => ld1 (v := .slice a21 1 c8) rfl tO22 (cellF (k := 2) rfl rfl)) (.v [] rfl rfl rfl rfl rfl rfl (fun _ => fa rfl tF25_0) (.v [(39, .pointer (some (pout2.add 0)))] rfl rfl rfl rfl rfl rfl (fun _ => ld1 rfl tO3 (cellB (off := 0) (k := 1) rfl rfl)) (.nil)))))))))))) (.cons [(40, iV 1)] rfl rfl (fun sL hL => ?_) (.nil))
  refine bs2 (cs := #[iV 1]) (pv := [(0, iV 1)]) tS22 rfl rfl (by decide) (by decide) rfl rfl rfl (fun a27 q146 => ?_)
  refine .nil ?_
  refine .ja (M := [10, 9]) (C' := [0, 1, 2, 3, 4, 5, 6, 7, 8]) (pre := [(11, .slice a27 1 1)]) [(1, iV 0), (4, .pointer (some pv5)), (5, .pointer (some pv6)), (7, .pointer (some pout2))] [1, 4, 5, 7] hL rfl rfl rfl rfl rfl sb rfl rfl (by kernel_rfl) ?_
  refine .step [12] 12 rfl (by kernel_rfl) (by kernel_rfl) (.v [] rfl rfl rfl rfl rfl rfl (fun _ => fa rfl tF25_3) (.v [(30, .pointer (some (pout2.add 3)))] rfl rfl rfl rfl rfl rfl (fun _ => ld1 rfl tO23 (cellB (off := 3) (k := 2) rfl rfl)) (.v [] rfl rfl rfl rfl rfl rfl (fun _ => mv rfl) (.v [] rfl rfl rfl rfl rfl rfl (fun _ => fa rfl tF25_3) (.v [(33, .pointer (some (pout2.add 3)))] rfl rfl rfl rfl rfl rfl (fun _ => ld1 rfl tO23 (cellB (off := 3) (k := 2) rfl rfl)) (.v [] rfl rfl rfl rfl rfl rfl (fun _ => mv rfl) (.v [(34, .slice a24 1 c10), (35, iV 0)] rfl rfl rfl rfl rfl rfl (fun _ => ixS rfl rfl tS23 (k := 3) rfl (And.intro (by decide) (by decide))) (.v [(36, .pointer (some (ead a24 ((0 : Int).toNat * 4))))] rfl rfl rfl rfl rfl rfl (fun _ => fa rfl tF114_1) (.v [(37, .pointer (some ((ead a24 ((0 : Int).toNat * 4)).add 1)))] rfl rfl rfl rfl rfl rfl (fun _ => ld1 (v := .slice a21 1 c8) rfl tO22 (cellF (k := 3) rfl rfl)) (.nil)))))))))) (.cons [(38, .slice a21 1 c8), (41, .slice a27 1 1)] rfl rfl (fun sL hL => ?_) (.nil))
  refine app (k := 5) (news := [iV 1]) (cs' := [iV 0, iV 1]) (nm := 2) tS22 rfl (by decide) rfl rfl rfl rfl (srcS (k := 0) rfl) (oneAll rfl) (by decide) (by decide) rfl rfl rfl (fun a28 c12 => ?_)
  refine .KA [OwnSl 3 1 a27 1 1 [iV 1], OwnSl 3 1 a25 1 1 [iV 1], Box pout2 [iV 1, .slice a15 0 c2, .slice a26 2 c11, .slice a24 1 c10], OwnSl 114 4 a24 1 c10 [.slice a20 0 c7, .slice a21 1 c8, .slice a22 0 c9, iV 2], OwnSl 3 1 a22 0 c9 [], OwnSl 3 1 a28 2 c12 [iV 0, iV 1], OwnSl 3 1 a20 0 c7 [], OwnSl 3 1 a26 2 c11 [iV 0, iV 1], OwnSl 3 1 a15 0 c2 [], Box pout [iV 1, .slice a15 0 c2, .slice a16 1 c3, .slice a24 1 c10], Box pv8 [iV 1, .slice a15 0 c2, .slice a16 1 c3, .slice a24 1 c10], Box pv6 [iV 0, iV 0], Box pv5 [iV 0, .slice none 0 0, .slice none 0 0, .slice none 0 0], Box pv3 [iV 0, iV 0], Box pf [iV 0, iV 0]] ?_
  refine .nil ?_
  refine .ja (M := [8, 7, 6, 4, 5, 3]) (C' := [0, 1, 2, 13, 14]) (pre := [(12, .slice a28 2 c12), (13, .pointer (some (ead a24 ((0 : Int).toNat * 4)))), (14, .pointer (some ((ead a24 ((0 : Int).toNat * 4)).add 1)))]) [(1, iV 0), (4, .pointer (some pv5)), (5, .pointer (some pv6)), (7, .pointer (some pout2))] [1, 4, 5, 7] hL rfl rfl rfl rfl rfl sb rfl rfl (by kernel_rfl) ?_
  refine .step [15] 15 rfl (by kernel_rfl) (by kernel_rfl) (.v [] rfl rfl rfl rfl rfl rfl (fun _ => fa rfl tF25_3) (.v [(30, .pointer (some (pout2.add 3)))] rfl rfl rfl rfl rfl rfl (fun _ => ld1 rfl tO23 (cellB (off := 3) (k := 2) rfl rfl)) (.v [] rfl rfl rfl rfl rfl rfl (fun _ => mv rfl) (.v [(31, .slice a24 1 c10), (32, iV 0), (30, .pointer (some (pout2.add 3))), (31, .slice a24 1 c10), (32, iV 0), (33, .pointer (some (pout2.add 3))), (34, .slice a24 1 c10), (35, iV 0), (36, .pointer (some (ead a24 ((0 : Int).toNat * 4)))), (37, .pointer (some ((ead a24 ((0 : Int).toNat * 4)).add 1))), (38, .slice a21 1 c8), (39, .pointer (some (pout2.add 0))), (40, iV 1), (41, .slice a27 1 1), (42, .slice a28 2 c12)] rfl rfl rfl rfl rfl rfl (fun _ => ixS rfl rfl tS23 (k := 3) rfl (And.intro (by decide) (by decide))) (.v [(43, .pointer (some (ead a24 ((0 : Int).toNat * 4)))), (30, .pointer (some (pout2.add 3))), (31, .slice a24 1 c10), (32, iV 0), (33, .pointer (some (pout2.add 3))), (34, .slice a24 1 c10), (35, iV 0), (36, .pointer (some (ead a24 ((0 : Int).toNat * 4)))), (37, .pointer (some ((ead a24 ((0 : Int).toNat * 4)).add 1))), (38, .slice a21 1 c8), (39, .pointer (some (pout2.add 0))), (40, iV 1), (41, .slice a27 1 1), (42, .slice a28 2 c12)] rfl rfl rfl rfl rfl rfl (fun _ => fa rfl tF114_1) (.nil)))))) (.cons [(44, .pointer (some ((ead a24 ((0 : Int).toNat * 4)).add 1))), (42, .slice a28 2 c12), (42, .slice a28 2 c12), (30, .pointer (some (pout2.add 3))), (31, .slice a24 1 c10), (32, iV 0), (33, .pointer (some (pout2.add 3))), (34, .slice a24 1 c10), (35, iV 0), (36, .pointer (some (ead a24 ((0 : Int).toNat * 4)))), (37, .pointer (some ((ead a24 ((0 : Int).toNat * 4)).add 1))), (38, .slice a21 1 c8), (39, .pointer (some (pout2.add 0))), (40, iV 1), (41, .slice a27 1 1), (42, .slice a28 2 c12)] rfl rfl (fun sL hL => ?_) (.nil))
  refine stS (k := 3) (off := 0 * 4 + 1) (cs' := [.slice a20 0 c7, .slice a28 2 c12, .slice a22 0 c9, iV 2]) rfl (fun q => ead_add q _ _) rfl rfl (fun w => (tO22 w).2) rfl rfl rfl (by decide) (Nat.le_of_ble_eq_true rfl) rfl ?_
  refine .nil ?_
  refine .jaN (M := [14, 0, 1, 2, 13]) (C' := []) (pre := []) [1, 4, 5, 7] hL rfl rfl rfl rfl rfl (by kernel_rfl) ?_
  refine .last [(30, .pointer (some (pout2.add 3))), (31, .slice a24 1 c10), (32, iV 0), (33, .pointer (some (pout2.add 3))), (34, .slice a24 1 c10), (35, iV 0), (36, .pointer (some (ead a24 ((0 : Int).toNat * 4)))), (37, .pointer (some ((ead a24 ((0 : Int).toNat * 4)).add 1))), (38, .slice a21 1 c8), (39, .pointer (some (pout2.add 0))), (40, iV 1), (41, .slice a27 1 1), (42, .slice a28 2 c12), (43, .pointer (some (ead a24 ((0 : Int).toNat * 4)))), (44, .pointer (some ((ead a24 ((0 : Int).toNat * 4)).add 1)))] rfl (by kernel_rfl) (.nil) rfl ?_
  refine .seqN (.seq (.region (.V (fa rfl tF25_0) ?_)))
  refine .V (ld1 rfl tO3 (cellB (off := 0) (k := 2) rfl rfl)) ?_
  refine .V bi0 ?_
  refine .V (fa rfl tF25_0) ?_
  refine st (p := pout2) (off := 0) (k := 2) (vs := [iV 2]) rfl rfl rfl (fun w => (tO3 w).2) rfl rfl rfl rfl ?_
  refine .nil (.seqN (.seq (.region (.V (ldA (cs := [iV 2, .slice a15 0 c2, .slice a26 2 c11, .slice a24 1 c10]) rfl tA25 rfl (cellsB (off := 0) (k := 2) rfl (m := 4) rfl)) ?_))))
  refine .V (bld (cs := #[iV 0, iV 0]) (pv := []) tB27 rfl rfl) ?_
  refine st (p := pv5) (off := 0) (k := 12) (vs := [iV 2, .slice a15 0 c2, .slice a26 2 c11, .slice a24 1 c10]) rfl rfl rfl (fun w => (tA25 w).2) rfl rfl rfl rfl ?_
  refine st (p := pv6) (off := 0) (k := 11) (vs := [iV 0, iV 0]) rfl rfl rfl (fun w => (tA27 w).2) rfl rfl rfl rfl ?_
  refine .nil (.seqN (.ret ?_))
  refine .res2 rfl (rvC rfl tA25 (k := 12) rfl rfl) (rvC rfl tA27 (k := 11) rfl rfl) (inl_back (v := .tuple #[.agg #[iV 2, .slice a15 0 c2, .slice a26 2 c11, .slice a24 1 c10], .agg #[iV 0, iV 0]]) q34 rfl ?_)
  refine .V mv0 ?_
  refine .V (ext rfl rfl) ?_
  refine .V (ext rfl rfl) ?_
  refine al tZ25 rfl (fun pu => ?_)
  refine al tZ27 rfl (fun pf6 => ?_)
  refine st (p := pu) (off := 0) (k := 1) (vs := [iV 2, .slice a15 0 c2, .slice a26 2 c11, .slice a24 1 c10]) rfl rfl rfl (fun w => (tA25 w).2) rfl rfl rfl rfl ?_
  refine st (p := pf6) (off := 0) (k := 0) (vs := [iV 0, iV 0]) rfl rfl rfl (fun w => (tA27 w).2) rfl rfl rfl rfl ?_
  refine .nil (.seqN (.seq (.seq (.region (.V (ldA (cs := [iV 0, iV 0]) rfl tA27 rfl (cellsB (off := 0) (k := 0) rfl (m := 2) rfl)) ?_)))))
  refine .V (bld (cs := #[iV 0, iV 0]) (pv := []) tB27 rfl rfl) ?_
  refine .V (ne2 tE27 rfl rfl) ?_
  refine .nil (.seqN ?_)
  refine .cond rfl (fun e => absurd (e.symm.trans rfl) (by decide)) (fun _ => ?_)
  refine .skip (.seqN (.seq (.region (.V (ldA (cs := [iV 2, .slice a15 0 c2, .slice a26 2 c11, .slice a24 1 c10]) rfl tA25 rfl (cellsB (off := 0) (k := 1) rfl (m := 4) rfl)) ?_))))
  refine .freezeL (k := 10) rfl (fun h22 le22 q148 q147 => ?_)
  have q149 : RSl h22 a15 ([] : List Int) := (RSl.of (xs := ([] : List Int)) q147)
  refine .KA [Box pf6 [iV 0, iV 0], Box pu [iV 2, .slice a15 0 c2, .slice a26 2 c11, .slice a24 1 c10], OwnSl 3 1 a27 1 1 [iV 1], OwnSl 3 1 a25 1 1 [iV 1], Box pout2 [iV 2, .slice a15 0 c2, .slice a26 2 c11, .slice a24 1 c10], OwnSl 114 4 a24 1 c10 [.slice a20 0 c7, .slice a28 2 c12, .slice a22 0 c9, iV 2], OwnSl 3 1 a22 0 c9 [], OwnSl 3 1 a28 2 c12 [iV 0, iV 1], OwnSl 3 1 a20 0 c7 [], OwnSl 3 1 a26 2 c11 [iV 0, iV 1], tru, Box pout [iV 1, .slice a15 0 c2, .slice a16 1 c3, .slice a24 1 c10], Box pv8 [iV 1, .slice a15 0 c2, .slice a16 1 c3, .slice a24 1 c10], Box pv6 [iV 0, iV 0], Box pv5 [iV 2, .slice a15 0 c2, .slice a26 2 c11, .slice a24 1 c10], Box pv3 [iV 0, iV 0], Box pf [iV 0, iV 0]] ?_
  refine .freezeL (k := 9) rfl (fun h23 le23 q151 q150 => ?_)
  have q152 : RSl h23 a26 ([0, 1] : List Int) := (RSl.of (xs := ([0, 1] : List Int)) q150)
  refine .freezeL (k := 8) rfl (fun h24 le24 q154 q153 => ?_)
  have q155 : RSl h24 a20 ([] : List Int) := (RSl.of (xs := ([] : List Int)) q153)
  refine .freezeL (k := 7) rfl (fun h25 le25 q157 q156 => ?_)
  have q158 : RSl h25 a28 ([0, 1] : List Int) := (RSl.of (xs := ([0, 1] : List Int)) q156)
  refine .freezeL (k := 6) rfl (fun h26 le26 q160 q159 => ?_)
  have q161 : RSl h26 a22 ([] : List Int) := (RSl.of (xs := ([] : List Int)) q159)
  refine .freezeL (k := 5) rfl (fun h27 le27 q163 q162 => ?_)
  have q164 : RSl h27 a24 ([(⟨([] : List Int), ([0, 1] : List Int), ([] : List Int), 2⟩ : Operator)] : List Operator) := (show RSl h27 a24 ([(⟨([] : List Int), ([0, 1] : List Int), ([] : List Int), 2⟩ : Operator)] : List Operator) from ⟨_, RepL.mono (le27) (show RepL h26 ([(⟨([] : List Int), ([0, 1] : List Int), ([] : List Int), 2⟩ : Operator)] : List Operator) [.slice a20 0 c7, .slice a28 2 c12, .slice a22 0 c9, iV 2] from ⟨[.slice a20 0 c7, .slice a28 2 c12, .slice a22 0 c9, iV 2], _, rfl, ⟨a20, c7, a28, c12, a22, c9, rfl, ⟨(show ([] : List Int).length ≤ c7 from q154), (q155.mono (FH.le_trans (le25) (le26)))⟩, ⟨(show ([0, 1] : List Int).length ≤ c12 from q157), (q158.mono (le26))⟩, ⟨(show ([] : List Int).length ≤ c9 from q160), q161⟩⟩, rfl⟩), q162⟩)
  obtain ⟨q165, hF⟩ := hF
  obtain ⟨r10, q166⟩ : ∃ y_ : Int × Fault, y_ = sp_optimalL (⟨2, ([] : List Int), ([0, 1] : List Int), ([(⟨([] : List Int), ([0, 1] : List Int), ([] : List Int), 2⟩ : Operator)] : List Operator)⟩ : Task) := ⟨_, rfl⟩
  replace hF := hF r10 q166
  have q167 : sp_optimalL (⟨2, ([] : List Int), ([0, 1] : List Int), ([(⟨([] : List Int), ([0, 1] : List Int), ([] : List Int), 2⟩ : Operator)] : List Operator)⟩ : Task) = (2, (⟨0, 0⟩ : Fault)) := by decide +kernel
  refine .C (cl (v := .tuple #[iV 2, .agg #[iV 0, iV 0]]) Tryz.call56 rfl rfl (fun w S => (by have h_ := c_optimalL S.sub (⟨2, ([] : List Int), ([0, 1] : List Int), ([(⟨([] : List Int), ([0, 1] : List Int), ([] : List Int), 2⟩ : Operator)] : List Operator)⟩ : Task) a15 c2 (q149.mono (FH.le_trans (FH.le_trans (FH.le_trans (FH.le_trans (le23) (le24)) (le25)) (le26)) (le27))) (show ([] : List Int).length ≤ c2 from q148) a26 c11 (q152.mono (FH.le_trans (FH.le_trans (FH.le_trans (le24) (le25)) (le26)) (le27))) (show ([0, 1] : List Int).length ≤ c11 from q151) a24 c10 q164 (show ([(⟨([] : List Int), ([0, 1] : List Int), ([] : List Int), 2⟩ : Operator)] : List Operator).length ≤ c10 from q163) q165; rw [q167] at h_; exact h_))) ?_
  refine .V (ext rfl rfl) ?_
  refine .V (ext rfl rfl) ?_
  refine .V ag0 ?_
  refine st (p := pv3) (off := 0) (k := 15) (vs := [iV 0, iV 0]) rfl rfl rfl (fun w => (tA27 w).2) rfl rfl rfl rfl ?_
  refine .nil (.seqN (.ret ?_))
  refine .res2 rfl (rvT rfl) (rvC rfl tA27 (k := 15) rfl rfl) (inl_back (v := .tuple #[iV 2, .agg #[iV 0, iV 0]]) q21 rfl ?_)
  refine .V mv0 ?_
  refine .V (ext rfl rfl) ?_
  refine .V (ext rfl rfl) ?_
  refine al tZ27 rfl (fun pg => ?_)
  refine .V ag0 ?_
  refine st (p := pg) (off := 0) (k := 0) (vs := [iV 0, iV 0]) rfl rfl rfl (fun w => (tA27 w).2) rfl rfl rfl rfl ?_
  refine .KA [Box pg [iV 0, iV 0], Box pf6 [iV 0, iV 0], Box pu [iV 2, .slice a15 0 c2, .slice a26 2 c11, .slice a24 1 c10], OwnSl 3 1 a27 1 1 [iV 1], OwnSl 3 1 a25 1 1 [iV 1], Box pout2 [iV 2, .slice a15 0 c2, .slice a26 2 c11, .slice a24 1 c10], tru, tru, tru, tru, tru, tru, Box pout [iV 1, .slice a15 0 c2, .slice a16 1 c3, .slice a24 1 c10], Box pv8 [iV 1, .slice a15 0 c2, .slice a16 1 c3, .slice a24 1 c10], Box pv6 [iV 0, iV 0], Box pv5 [iV 2, .slice a15 0 c2, .slice a26 2 c11, .slice a24 1 c10], Box pv3 [iV 0, iV 0], Box pf [iV 0, iV 0]] ?_
  refine .nil (.seqN (.seq (.region (.V (fa rfl tF27_0) ?_))))
  refine .V (ld1 rfl tO3 (cellB (off := 0) (k := 17) rfl rfl)) ?_
  refine .V bi0 ?_
  refine .V mv0 ?_
  refine .gv (fa rfl tF27_0) rfl rfl rfl rfl rfl rfl ?_
  refine .gv (ld1 rfl tO3 (cellB (off := 0) (k := 0) rfl rfl)) rfl rfl rfl rfl rfl rfl ?_
  refine .gv bi0 rfl rfl rfl rfl rfl rfl ?_
  refine .V (pkT rfl rfl rfl) ?_
  refine .V mv0 ?_
  refine .gv mv0 rfl rfl rfl rfl rfl rfl ?_
  refine .V (pkT rfl rfl rfl) ?_
  refine .V mv0 ?_
  refine .gv mv0 rfl rfl rfl rfl rfl rfl ?_
  refine .gR rfl rfl rfl rfl ?_
  refine bs2 (cs := #[iV 0]) (pv := [(0, iV 0)]) tS22 rfl rfl (by decide) (by decide) rfl rfl rfl (fun a29 q168 => ?_)
  refine .freezeL (k := 0) rfl (fun h28 le28 q170 q169 => ?_)
  have q171 : RSl h28 a29 ([0] : List Int) := (RSl.of (xs := ([0] : List Int)) q169)
  obtain ⟨q172, hF⟩ := hF
  obtain ⟨r11, q173⟩ : ∃ y_ : Bool, y_ = sp_ints ([0] : List Int) ([0] : List Int) := ⟨_, rfl⟩
  replace hF := hF r11 q173
  have q174 : sp_ints ([0] : List Int) ([0] : List Int) = true := by decide +kernel
  refine .gc (cl (v := .bool true) Tryz.call27 rfl rfl (fun w S => (by have h_ := c_ints S.sub ([0] : List Int) a5 c (q15.mono (FH.le_trans (FH.le_trans (FH.le_trans (FH.le_trans (FH.le_trans (FH.le_trans (FH.le_trans (FH.le_trans (FH.le_trans (le5) (le6)) (le7)) (le22)) (le23)) (le24)) (le25)) (le26)) (le27)) (le28))) q16 ([0] : List Int) a29 1 q171 (show ([0] : List Int).length ≤ 1 from q170) q172; rw [q174] at h_; exact h_))) rfl rfl rfl rfl rfl rfl ?_
  refine .V (pkT rfl rfl rfl) ?_
  refine .V mv0 ?_
  refine .gv mv0 rfl rfl rfl rfl rfl rfl ?_
  refine .gv bi0 rfl rfl rfl rfl rfl rfl ?_
  refine .V (pkT rfl rfl rfl) ?_
  refine .V ag0 ?_
  refine .nil (.seqN (.ret ?_))
  refine .res1 rfl (rvT rfl) (fun w' S => ⟨true, hF, rfl, S.below⟩)
theorem c_h11Solved {h : FH} {w : World} (hs : Sub h w) (ht : TabH Tryz.prog h) : Calls Tryz.prog 7 #[] w fun e w' => e = .returned (.bool (sp_h11Solved)) ∧ Below w.heap.size w w' :=
 (w_h11Solved hs ht  (fun r => r = sp_h11Solved) (ok_h11Solved )).mono fun _ _ ⟨_, hk, he, hb⟩ => ⟨by rw [he, hk], hb⟩
end Go.Proofs.YtimillpakjgnoaaGreatDoor.Pl

namespace Go.Proofs.YtimillpakjgnoaaGreatDoor.Pl
open Go Go.RowKit
theorem w_lawKnownBeliefs {h : FH} {w : World} (hs : Sub h w) (ht : TabH Tryz.prog h) (t : Task) (at_ : Option Addr) (ct : Nat) (_q1 : RSl h at_ t.init) (_q2 : t.init.length ≤ ct) (at_2 : Option Addr) (ct2 : Nat) (_q3 : RSl h at_2 t.goal) (_q4 : t.goal.length ≤ ct2) (at_3 : Option Addr) (ct3 : Nat) (_q5 : RSl h at_3 t.ops) (_q6 : t.ops.length ≤ ct3) (K : Bool → Prop) (hF : F_lawKnownBeliefs t K) : Calls Tryz.prog 3 #[.agg #[iV t.facts, .slice at_ t.init.length ct, .slice at_2 t.goal.length ct2, .slice at_3 t.ops.length ct3]] w fun e w' => ∃ r : Bool, K r ∧ e = .returned (.bool r) ∧ Below w.heap.size w w' := by
 refine enter (args := [.agg (tF t at_ ct at_2 ct2 at_3 ct3).toArray]) Tryz.func3 rfl Tryz.ntmps3 rfl hs ?_
 refine .seq (.region ?_)
 refine bx (vs := (tF t at_ ct at_2 ct2 at_3 ct3)) rfl rfl rfl (fun pt => ?_)
 refine .V ag0 ?_
 refine .nil (.seqN (.seq (.region (.V (ldA (cs := (tF t at_ ct at_2 ct2 at_3 ct3)) rfl tA25 rfl (cellsB (off := 0) (k := 0) rfl (m := 4) rfl)) ?_))))
 obtain ⟨r2, q7⟩ : ∃ y_ : List Int × Bool × Fault, y_ = sp_bplan t [] := ⟨_, rfl⟩
 replace hF := hF r2 q7
 refine clR (α := Option Addr × Nat) (Φ := fun h1 z => RSl h1 z.1 r2.1 ∧ r2.1.length ≤ z.2) (V := fun z => .tuple #[vSl z.1 r2.1 z.2, .bool r2.2.1, .agg #[iV r2.2.2.code, iV r2.2.2.index]]) Tryz.call5 rfl rfl (fun w S => (by rw [q7]; exact c_bplan S.sub (ht.mono (FH.le_refl _)) t at_ ct _q1 _q2 at_2 ct2 _q3 _q4 at_3 ct3 _q5 _q6 [] none 0 RSl.nil_ (Nat.le_refl 0) )) rfl (fun z h1 le1 hz => ?_)
 obtain ⟨a, c⟩ := z
 obtain ⟨q8, q9⟩ := hz
 refine .V mv0 ?_
 refine .V (ext rfl rfl) ?_
 refine .V (ext rfl rfl) ?_
 refine .V (ext rfl rfl) ?_
 refine al tZ27 rfl (fun pf => ?_)
 refine .V ag0 ?_
 refine .V ag0 ?_
 refine st (p := pf) (off := 0) (k := 0) (vs := [iV r2.2.2.code, iV r2.2.2.index]) rfl rfl rfl (fun w => (tA27 w).2) rfl rfl rfl rfl ?_
 refine .KA [Box pf [iV r2.2.2.code, iV r2.2.2.index], Box pt (tF t at_ ct at_2 ct2 at_3 ct3)] ?_
 refine .nil (.seqN (.seq (.region (.V (ldA (cs := (tF t at_ ct at_2 ct2 at_3 ct3)) rfl tA25 rfl (cellsB (off := 0) (k := 1) rfl (m := 4) rfl)) ?_))))
 obtain ⟨r3, q10⟩ : ∃ y_ : List Int × Bool × Fault, y_ = sp_brplan t := ⟨_, rfl⟩
 replace hF := hF r3 q10
 refine clR (α := Option Addr × Nat) (Φ := fun h1 z => RSl h1 z.1 r3.1 ∧ r3.1.length ≤ z.2) (V := fun z => .tuple #[vSl z.1 r3.1 z.2, .bool r3.2.1, .agg #[iV r3.2.2.code, iV r3.2.2.index]]) Tryz.call6 rfl rfl (fun w S => (by rw [q10]; exact c_brplan S.sub t at_ ct (_q1.mono (le1)) _q2 at_2 ct2 (_q3.mono (le1)) _q4 at_3 ct3 (_q5.mono (le1)) _q6 )) rfl (fun z h2 le2 hz => ?_)
 obtain ⟨a2, c2⟩ := z
 obtain ⟨q11, q12⟩ := hz
 refine .V mv0 ?_
 refine .V (ext rfl rfl) ?_
 refine .V (ext rfl rfl) ?_
 refine .V (ext rfl rfl) ?_
 refine al tZ27 rfl (fun pg => ?_)
 refine .V ag0 ?_
 refine .V ag0 ?_
 refine st (p := pg) (off := 0) (k := 0) (vs := [iV r3.2.2.code, iV r3.2.2.index]) rfl rfl rfl (fun w => (tA27 w).2) rfl rfl rfl rfl ?_
 refine .KA [Box pg [iV r3.2.2.code, iV r3.2.2.index], Box pf [iV r2.2.2.code, iV r2.2.2.index], Box pt (tF t at_ ct at_2 ct2 at_3 ct3)] ?_
 refine .nil (.seqN (.seq ?_))
 refine .share (σ := Bool) (fun z => F_lawKnownBeliefs_J1 K r2 r3 z) (fun z => [(3, vSl a r2.1 c), (4, .bool r2.2.1), (6, vSl a2 r3.1 c2), (7, .bool r3.2.1), (28, .bool z)]) (fun _ => []) (fun _ => h2) ?_ (fun q14 => ?_)
 ·rintro t28 hF
  show J _ _ _ _ _ [(3, vSl a r2.1 c), (4, .bool r2.2.1), (6, vSl a2 r3.1 c2), (7, .bool r3.2.1), (28, .bool t28)] [] h2
  refine .cond rfl (fun q17 => ?_) (fun q17 => ?_)
  ·replace hF := hF.1 q17
   refine .seq (.region ?_)
   obtain ⟨r4, q18⟩ : ∃ y_ : Bool, y_ = sp_h11Solved := ⟨_, rfl⟩
   replace hF := hF r4 q18
   refine .C (cl (v := .bool r4) Tryz.call7 rfl rfl (fun w S => (by rw [q18]; exact c_h11Solved S.sub (ht.mono (FH.le_trans (le1) (le2))) ))) ?_
   refine .V ag0 ?_
   refine .nil (.seqN (.ret (.seqR ?_)))
   refine .res1 rfl (rvT rfl) (fun w' S => ⟨r4, hF, rfl, S.below⟩)
  replace hF := hF.2 q17
  refine .skip (.seqN (.seq (.region (.V mv0 ?_))))
  refine .V mv0 ?_
  refine .V (beql Tryz.underlying4 rfl rfl) ?_
  refine .V mv0 ?_
  rcases Bool.eq_false_or_eq_true (r2.2.1 == r3.2.1) with q22 | q22
  ·replace hF := hF.1 q22
   refine .GV mv0 q22 ?_
   refine .GV (ln rfl tS22.is) q22 ?_
   refine .GV mv0 q22 ?_
   refine .GV (ln rfl tS22.is) q22 ?_
   refine .GV bi0 q22 ?_
   refine .V (pkT rfl q22 rfl) ?_
   refine .V mv0 ?_
   rcases Bool.eq_false_or_eq_true (((r2.1.length : Nat) : Int) == ((r3.1.length : Nat) : Int)) with q23 | q23
   ·replace hF := hF.1 q23
    obtain ⟨r5, q24⟩ : ∃ y_ : Bool, y_ = sp_h11Solved := ⟨_, rfl⟩
    replace hF := hF r5 q24
    refine .gc (cl (v := .bool r5) Tryz.call7 rfl rfl (fun w S => (by rw [q24]; exact c_h11Solved S.sub (ht.mono (FH.le_trans (le1) (le2))) ))) rfl rfl rfl q23 rfl rfl ?_
    refine .V (pkT rfl q23 rfl) ?_
    refine .V ag0 ?_
    refine .nil (.seqN (.ret ?_))
    refine .res1 rfl (rvT rfl) (fun w' S => ⟨r5, hF, rfl, S.below⟩)
   replace hF := hF.2 q23
   refine .GS q23 ?_
   refine .V (pkF rfl q23 rfl) ?_
   refine .V ag0 ?_
   refine .nil (.seqN (.ret ?_))
   refine .res1 rfl (rvT rfl) (fun w' S => ⟨false, hF, rfl, S.below⟩)
  replace hF := hF.2 q22
  refine .GS q22 ?_
  refine .GS q22 ?_
  refine .GS q22 ?_
  refine .GS q22 ?_
  refine .GS q22 ?_
  refine .V (pkF rfl q22 rfl) ?_
  refine .V mv0 ?_
  refine .gS rfl rfl rfl rfl rfl rfl ?_
  refine .V (pkF rfl rfl rfl) ?_
  refine .V ag0 ?_
  refine .nil (.seqN (.ret ?_))
  refine .res1 rfl (rvT rfl) (fun w' S => ⟨false, hF, rfl, S.below⟩)
 refine .region (.V (fa rfl tF27_0) ?_)
 refine .V (ld1 rfl tO3 (cellB (off := 0) (k := 1) rfl rfl)) ?_
 refine .V bi0 ?_
 refine .V mv0 ?_
 rcases Bool.eq_false_or_eq_true (r2.2.2.code != 0) with q25 | q25
 ·replace hF := hF.1 q25
  refine .GS q25 ?_
  refine .GS q25 ?_
  refine .GS q25 ?_
  refine .V (pkT rfl q25 rfl) ?_
  refine .nil ?_
  refine .sel0 [] (by decide) rfl ?_
  exact .US q14 true hF
 replace hF := hF.2 q25
 refine .GV (fa rfl tF27_0) q25 ?_
 refine .GV (ld1 rfl tO3 (cellB (off := 0) (k := 0) rfl rfl)) q25 ?_
 refine .GV bi0 q25 ?_
 refine .V (pkF rfl q25 rfl) ?_
 refine .nil ?_
 refine .sel0 [] (by decide) rfl ?_
 exact .US q14 (r3.2.2.code != 0) hF
theorem c_lawKnownBeliefs {h : FH} {w : World} (hs : Sub h w) (ht : TabH Tryz.prog h) (t : Task) (at_ : Option Addr) (ct : Nat) (_q1 : RSl h at_ t.init) (_q2 : t.init.length ≤ ct) (at_2 : Option Addr) (ct2 : Nat) (_q3 : RSl h at_2 t.goal) (_q4 : t.goal.length ≤ ct2) (at_3 : Option Addr) (ct3 : Nat) (_q5 : RSl h at_3 t.ops) (_q6 : t.ops.length ≤ ct3) : Calls Tryz.prog 3 #[.agg #[iV t.facts, .slice at_ t.init.length ct, .slice at_2 t.goal.length ct2, .slice at_3 t.ops.length ct3]] w fun e w' => e = .returned (.bool (sp_lawKnownBeliefs t)) ∧ Below w.heap.size w w' :=
 (w_lawKnownBeliefs hs ht t at_ ct _q1 _q2 at_2 ct2 _q3 _q4 at_3 ct3 _q5 _q6 (fun r => r = sp_lawKnownBeliefs t) (ok_lawKnownBeliefs t)).mono fun _ _ ⟨_, hk, he, hb⟩ => ⟨by rw [he, hk], hb⟩
end Go.Proofs.YtimillpakjgnoaaGreatDoor.Pl

namespace Go.Proofs.YtimillpakjgnoaaGreatDoor.Pl
open Go Go.RowKit Go.WideShapes Go.ChangeShapes Go.ChangeAt Go.Joins Go.Deep
section
variable {H : Type} {enc : TypeId × Value → H} {P : Program}
theorem all_stays (hl : laidOutB P = true) {W W' : World} (hb : Go.RowKit.Below W.heap.size W W') {sp : Nat → Bool} : ∀ (ts : List TypeId) (vs : List Value) (ds : List (DataW H)) (ps : List MemPlace),
  (ts.all fun t => P.readableRec t && decide (t < P.types.size)) = true → DataW.TrodAll enc P W 0 (fun _ => true) true ts vs ds ps → (∀ x ∈ ps, x.block < W.heap.size) → (∀ x ∈ ps, sp x.block = true) → DataW.TrodAll enc P W' 0 sp true ts vs ds ps
 | [], vs, ds, ps, _, h, _, _ => by
  cases vs with
  | nil => cases ds with
   | nil => exact h
   | cons _ _ => exact h.elim
  | cons _ _ => exact h.elim
 | t :: ts, vs, ds, ps, hr, h, hlt, hsp => by
  obtain ⟨v0, vs0, d0, ds0, p0, q0, rfl, rfl, rfl, h0, r0⟩ := trodAll_cons h
  simp only [List.all_cons, Bool.and_eq_true, decide_eq_true_eq] at hr
  refine trodAll_cons_mk (WideElems.Trod_stays hl hr.1.1 hr.1.2 h0 (fun x hx => hb.same (hlt x (by simp [hx]))) (fun x hx => hsp x (by simp [hx]))) ?_
  exact all_stays hl hb ts vs0 ds0 q0 (by simpa using hr.2) r0 (fun x hx => hlt x (by simp [hx])) (fun x hx => hsp x (by simp [hx]))
def hold (W : World) : FH := fun b => W.heap[b]?
theorem hold_sub (W : World) : Sub (hold W) W := fun _ _ e => e
theorem hold_cell {W : World} {a : Addr} {v : Value} (e : W.cell? a = some v) : (hold W).cell a = some v := by
 unfold World.cell? at e
 unfold FH.cell hold
 cases hb : W.heap[a.block]? with
 | none => rw [hb] at e; cases e
 | some o => rw [hb] at e; cases o <;> simp_all
theorem rsl_of {α : Type} [Rep α] {h : FH} : ∀ (xs : List α) (a : Addr), (∀ (i : Nat) (x : α), xs[i]? = some x → ∃ cs, Rep.rep h x cs ∧ CellsAt h (a.add (i * Rep.sz α)) cs) → RSl h (some a) xs
 | [], a, _ => RSl.nil_
 | x :: r, a, hx => by
  obtain ⟨cs, h1, h2⟩ := hx 0 x rfl
  obtain ⟨ds, g1, g2⟩ := rsl_of r (a.add (Rep.sz α)) fun i y hy => by
   obtain ⟨c, k1, k2⟩ := hx (i + 1) y (by simpa using hy)
   refine ⟨c, k1, ?_⟩
   rw [add_add, show Rep.sz α + i * Rep.sz α = (i + 1) * Rep.sz α by rw [Nat.add_mul]; omega]
   exact k2
  have hl := Rep.len h1
  refine ⟨cs ++ ds, ⟨cs, ds, rfl, h1, g1⟩, fun j v e => ⟨by simp, ?_⟩⟩
  show h.cell (a.add j) = some v
  by_cases hj : j < cs.length
  ·rw [List.getElem?_append_left hj] at e
   have := h2 j v e
   rwa [add_add, Nat.zero_mul, Nat.zero_add] at this
  ·rw [List.getElem?_append_right (by omega)] at e
   have := (g2 (j - cs.length) v e).2
   have e2 : ead (some (a.add (Rep.sz α))) (j - cs.length) = a.add j := by
    show (a.add (Rep.sz α)).add (j - cs.length) = a.add j
    rw [add_add, hl]; congr 1; omega
   rwa [e2] at this
class Bytes (α : Type) where
 n : Nat
instance : Bytes Int := ⟨8⟩
instance {α : Type} : Bytes (List α) := ⟨24⟩
class Siz (α : Type) where
 siz : α → Prop
instance : Siz Int := ⟨fun _ => True⟩
instance : Siz Bool := ⟨fun _ => True⟩
instance {α : Type} [Bytes α] [Siz α] : Siz (List α) := ⟨fun xs => xs.length * Bytes.n α ≤ reachBytes ∧ ∀ x ∈ xs, Siz.siz x⟩
def Reads (P : Program) (α : Type) [Rep α] [Siz α] (t : TypeId) : Prop := ∀ (H : Type) (enc : TypeId × Value → H) (w : World) (b : Nat) (sp : Nat → Bool) (hd : Bool) (n : Nat) (cs : List Value) (z : DataW H × List MemPlace), DataW.trod enc P w b sp hd n t cs = some z →
 ∃ x : α, Rep.rep (hold w) x cs ∧ ((∀ m ∈ z.1.weights P t, m ≤ reachBytes) → Siz.siz x)
theorem reads_int {t : TypeId} (ht : P.underlying t = some (.int .i64)) : Reads P Int t := fun H enc w b sp hd n cs z h => by
 obtain ⟨x, e, _⟩ := DataW.trod_int ht h
 exact ⟨x, e, fun _ => trivial⟩
theorem listed_ {α : Type} {p : Nat → α → Prop} : ∀ (m : Nat), (∀ i, i < m → ∃ x : α, p i x) → ∃ xs : List α, xs.length = m ∧ ∀ (i : Nat) (x : α), xs[i]? = some x → p i x
 | 0, _ => ⟨[], rfl, fun i x e => by simp at e⟩
 | k + 1, hx => by
  obtain ⟨xs, h1, h2⟩ := listed_ k fun i hi => hx i (by omega)
  obtain ⟨x, h3⟩ := hx k (by omega)
  refine ⟨xs ++ [x], by simp [h1], fun i y e => ?_⟩
  by_cases hik : i < xs.length
  ·rw [List.getElem?_append_left hik] at e; exact h2 i y e
  ·rw [List.getElem?_append_right (by omega)] at e
   have e0 : i - xs.length = 0 := by have := (List.getElem?_eq_some_iff.1 e).1; simp at this; omega
   rw [e0] at e
   simp at e; subst e
   have : i = k := by omega
   subst this
   exact h3
theorem weights_all {e : TypeId} : ∀ {l : List (DataW H)} {d : DataW H}, d ∈ l → ∀ n ∈ d.weights P e, n ∈ DataW.weightsAll P e l
 | [], _, h, _, _ => by cases h
 | x :: r, d, h, n, hn => by
  simp only [DataW.weightsAll, List.mem_append]
  rcases List.mem_cons.1 h with rfl | h
  ·exact .inl hn
  ·exact .inr (weights_all h n hn)
theorem reads_slice {α : Type} [Rep α] [Bytes α] [Siz α] {t e : TypeId} (ht : P.underlying t = some (.slice e)) (hc : P.cellsOf e = Rep.sz α) (hby : P.bytesOf e = Bytes.n α) (he : Reads P α e) : Reads P (List α) t := fun H enc w b sp hd n cs z h => by
 rcases open_slice ht h with ⟨rfl, _⟩ | ⟨a, len, cap, m, n', D, Q, rfl, _, hl, _, hm, hz, hi⟩
 ·exact ⟨[], ⟨none, 0, rfl, Nat.le_refl _, RSl.nil_⟩, fun _ => ⟨by simp, fun x hx => by cases hx⟩⟩
 ·have hx : ∀ i, i < len → ∃ x : α, (∃ cs, Rep.rep (hold w) x cs ∧ CellsAt (hold w) (a.add (i * Rep.sz α)) cs) ∧ ((∀ m ∈ (D i).weights P e, m ≤ reachBytes) → Siz.siz x) := fun i hlt => by
   have hlm : len ≤ m := by rw [hm]; split <;> omega
   obtain ⟨cs', hcs, ht'⟩ := hi i (by omega)
   obtain ⟨x, hx, hsz⟩ := he H enc w b sp hd n' cs' _ ht'
   obtain ⟨_, hcl, hat⟩ := World.cells?_some hcs
   refine ⟨x, ⟨cs', hx, fun j v e => hold_cell ?_⟩, hsz⟩
   rw [hc] at hat hcl
   rw [hat j (by rw [← hcl]; exact (List.getElem?_eq_some_iff.1 e).1)]
   exact e
  obtain ⟨xs, hxl, hxs⟩ := listed_ len hx
  refine ⟨xs, ⟨some a, cap, by rw [hxl], by omega, rsl_of xs a fun i x hix => (hxs i x hix).1⟩, fun hw => ⟨?_, fun x hx => ?_⟩⟩
  ·have := hw ((((List.range len).map D).length + ((List.range (m - len)).map fun j => D (len + j)).length) * P.bytesOf e) (by rw [hz]; simp [DataW.weights, ht])
   simp only [List.length_map, List.length_range] at this
   rw [hxl, ← hby]
   refine Nat.le_trans (Nat.mul_le_mul_right _ ?_) this
   omega
  ·obtain ⟨i, hi', hix⟩ := List.mem_iff_getElem.1 hx
   refine (hxs i x (by rw [List.getElem?_eq_getElem hi', hix])).2 fun k hk => hw k ?_
   rw [hz]
   simp only [DataW.weights, ht, List.mem_cons, List.mem_append]
   refine .inr (.inl (weights_all (d := D i) ?_ k hk))
   exact List.mem_map.2 ⟨i, List.mem_range.2 (by omega), rfl⟩
theorem reads_field {α : Type} [Rep α] [Siz α] {fs : Array Field} {t : TypeId} {w : World} {b : Nat} {sp : Nat → Bool} {hd : Bool} {n : Nat} {cs : List Value} {xs : List (DataW H × List MemPlace)} (hs : P.underlying t = some (.struct fs)) (hlen : xs.length = fs.size) (hf : ∀ (i : Nat) (f : Field), fs[i]? = some f → DataW.trod enc P w b sp hd n f.type ((cs.drop f.offset).take (P.cellsOf f.type)) = xs[i]?)
  (i : Nat) {f : Field} (hi : fs[i]? = some f) (r : Reads P α f.type) : ∃ x : α, Rep.rep (hold w) x ((cs.drop f.offset).take (P.cellsOf f.type)) ∧ ((∀ m ∈ (DataW.agg (xs.map (·.1))).weights P t, m ≤ reachBytes) → Siz.siz x) := by
 have h1 := hf i f hi
 have hlt : i < xs.length := by rw [hlen]; exact (Array.getElem?_eq_some_iff.1 hi).1
 rw [List.getElem?_eq_getElem hlt] at h1
 obtain ⟨x, hx, hw⟩ := r H enc w b sp hd n _ _ h1
 refine ⟨x, hx, fun hm => hw fun m hm' => hm m ?_⟩
 simp only [DataW.weights, hs]
 refine DataW.weights_mem_each (j := i) (t := f.type) (d := xs[i].1) ?_ ?_ m hm'
 ·rw [List.getElem?_map, Array.getElem?_toList, hi]; rfl
 ·rw [List.getElem?_map, List.getElem?_eq_getElem hlt]; rfl
theorem open_aggR {α : Type} [Rep α] [Siz α] {r : Reach} {b0 b : Nat} {sp : Nat → Bool} {hd : Bool} {t : TypeId} {fs : Array Field} {w : World} {v : Value} {d : DataW H} {p : List MemPlace} (hs : P.underlying t = some (.struct fs)) (hr : Reads P α t) (hv : Value.okWide P w r b0 t v) (h : DataW.Trod enc P w b sp hd t v d p) :
  ∃ (x : α) (cs : List Value), v = .agg cs.toArray ∧ Rep.rep (hold w) x cs ∧ ((∀ m ∈ d.weights P t, m ≤ reachBytes) → Siz.siz x) := by
 obtain ⟨cs, rfl, _⟩ := okWide_struct hs hv
 obtain ⟨fuel, hf⟩ := h
 obtain ⟨x, hx, hz⟩ := hr H enc w b sp hd fuel _ _ hf
 exact ⟨x, cs.toList, by simp, hx, hz⟩
end
end Go.Proofs.YtimillpakjgnoaaGreatDoor.Pl

namespace Go.Proofs.YtimillpakjgnoaaGreatDoor.Pl
open Go Go.RowKit Go.WideShapes Go.ChangeShapes Go.ChangeAt Go.Joins Go.Deep
instance : Bytes Operator := ⟨80⟩
instance : Siz Operator := ⟨fun x => Siz.siz x.pre ∧ Siz.siz x.add ∧ Siz.siz x.del ∧ Siz.siz x.cost⟩
instance : Bytes Task := ⟨80⟩
instance : Siz Task := ⟨fun x => Siz.siz x.facts ∧ Siz.siz x.init ∧ Siz.siz x.goal ∧ Siz.siz x.ops⟩
theorem cells3 : Tryz.prog.cellsOf 3 = 1 := by kernel_rfl
theorem cells22 : Tryz.prog.cellsOf 22 = 1 := by kernel_rfl
theorem cells23 : Tryz.prog.cellsOf 23 = 1 := by kernel_rfl
theorem cells25 : Tryz.prog.cellsOf 25 = 4 := by kernel_rfl
theorem cells114 : Tryz.prog.cellsOf 114 = 4 := by kernel_rfl
theorem list4 {β : Type} {l : List β} (h : l.length = 4) : ∃ c0 c1 c2 c3, l = [c0, c1, c2, c3] := by
 match l, h with
 | [c0, c1, c2, c3], _ => exact ⟨c0, c1, c2, c3, rfl⟩
theorem reads_3 : Reads Tryz.prog Int 3 := reads_int Tryz.underlying3
theorem reads_22 : Reads Tryz.prog (List Int) 22 := reads_slice Tryz.underlying22 cells3 (by kernel_rfl) reads_3
theorem reads_114 : Reads Tryz.prog Operator 114 := fun H enc w b sp hd n cs z h => by
 obtain ⟨xs, n', _, rfl, hl, hlen, hf⟩ := DataW.trod_struct Tryz.underlying114 h
 obtain ⟨x0, r0, s0⟩ := reads_field Tryz.underlying114 hlen hf 0 rfl reads_22
 obtain ⟨x1, r1, s1⟩ := reads_field Tryz.underlying114 hlen hf 1 rfl reads_22
 obtain ⟨x2, r2, s2⟩ := reads_field Tryz.underlying114 hlen hf 2 rfl reads_22
 obtain ⟨x3, r3, s3⟩ := reads_field Tryz.underlying114 hlen hf 3 rfl reads_3
 rw [cells114] at hl
 obtain ⟨c0, c1, c2, c3, rfl⟩ := list4 hl
 replace r0 : Rep.rep (hold w) x0 (([c0, c1, c2, c3] : List Value).drop 0 |>.take (Tryz.prog.cellsOf 22)) := r0
 rw [cells22] at r0
 replace r1 : Rep.rep (hold w) x1 (([c0, c1, c2, c3] : List Value).drop 1 |>.take (Tryz.prog.cellsOf 22)) := r1
 rw [cells22] at r1
 replace r2 : Rep.rep (hold w) x2 (([c0, c1, c2, c3] : List Value).drop 2 |>.take (Tryz.prog.cellsOf 22)) := r2
 rw [cells22] at r2
 replace r3 : Rep.rep (hold w) x3 (([c0, c1, c2, c3] : List Value).drop 3 |>.take (Tryz.prog.cellsOf 3)) := r3
 rw [cells3] at r3
 obtain ⟨a0_0, k0_0, e0, l0_0, q0_0⟩ := r0
 replace e0 : ([c0] : List Value) = _ := e0
 simp only [List.cons.injEq, and_true] at e0
 obtain rfl := e0
 obtain ⟨a1_0, k1_0, e1, l1_0, q1_0⟩ := r1
 replace e1 : ([c1] : List Value) = _ := e1
 simp only [List.cons.injEq, and_true] at e1
 obtain rfl := e1
 obtain ⟨a2_0, k2_0, e2, l2_0, q2_0⟩ := r2
 replace e2 : ([c2] : List Value) = _ := e2
 simp only [List.cons.injEq, and_true] at e2
 obtain rfl := e2
 have e3 : ([c3] : List Value) = [.int .i64 x3] := r3
 simp only [List.cons.injEq, and_true] at e3
 obtain rfl := e3
 exact ⟨⟨x0, x1, x2, x3⟩, ⟨a0_0, k0_0, a1_0, k1_0, a2_0, k2_0, rfl, ⟨l0_0, q0_0⟩, ⟨l1_0, q1_0⟩, ⟨l2_0, q2_0⟩⟩, fun hw => ⟨s0 hw, s1 hw, s2 hw, s3 hw⟩⟩
theorem reads_23 : Reads Tryz.prog (List Operator) 23 := reads_slice Tryz.underlying23 cells114 (by kernel_rfl) reads_114
theorem reads_25 : Reads Tryz.prog Task 25 := fun H enc w b sp hd n cs z h => by
 obtain ⟨xs, n', _, rfl, hl, hlen, hf⟩ := DataW.trod_struct Tryz.underlying25 h
 obtain ⟨x0, r0, s0⟩ := reads_field Tryz.underlying25 hlen hf 0 rfl reads_3
 obtain ⟨x1, r1, s1⟩ := reads_field Tryz.underlying25 hlen hf 1 rfl reads_22
 obtain ⟨x2, r2, s2⟩ := reads_field Tryz.underlying25 hlen hf 2 rfl reads_22
 obtain ⟨x3, r3, s3⟩ := reads_field Tryz.underlying25 hlen hf 3 rfl reads_23
 rw [cells25] at hl
 obtain ⟨c0, c1, c2, c3, rfl⟩ := list4 hl
 replace r0 : Rep.rep (hold w) x0 (([c0, c1, c2, c3] : List Value).drop 0 |>.take (Tryz.prog.cellsOf 3)) := r0
 rw [cells3] at r0
 replace r1 : Rep.rep (hold w) x1 (([c0, c1, c2, c3] : List Value).drop 1 |>.take (Tryz.prog.cellsOf 22)) := r1
 rw [cells22] at r1
 replace r2 : Rep.rep (hold w) x2 (([c0, c1, c2, c3] : List Value).drop 2 |>.take (Tryz.prog.cellsOf 22)) := r2
 rw [cells22] at r2
 replace r3 : Rep.rep (hold w) x3 (([c0, c1, c2, c3] : List Value).drop 3 |>.take (Tryz.prog.cellsOf 23)) := r3
 rw [cells23] at r3
 have e0 : ([c0] : List Value) = [.int .i64 x0] := r0
 simp only [List.cons.injEq, and_true] at e0
 obtain rfl := e0
 obtain ⟨a1_0, k1_0, e1, l1_0, q1_0⟩ := r1
 replace e1 : ([c1] : List Value) = _ := e1
 simp only [List.cons.injEq, and_true] at e1
 obtain rfl := e1
 obtain ⟨a2_0, k2_0, e2, l2_0, q2_0⟩ := r2
 replace e2 : ([c2] : List Value) = _ := e2
 simp only [List.cons.injEq, and_true] at e2
 obtain rfl := e2
 obtain ⟨a3_0, k3_0, e3, l3_0, q3_0⟩ := r3
 replace e3 : ([c3] : List Value) = _ := e3
 simp only [List.cons.injEq, and_true] at e3
 obtain rfl := e3
 exact ⟨⟨x0, x1, x2, x3⟩, ⟨a1_0, k1_0, a2_0, k2_0, a3_0, k3_0, rfl, ⟨l1_0, q1_0⟩, ⟨l2_0, q2_0⟩, ⟨l3_0, q3_0⟩⟩, fun hw => ⟨s0 hw, s1 hw, s2 hw, s3 hw⟩⟩
end Go.Proofs.YtimillpakjgnoaaGreatDoor.Pl

