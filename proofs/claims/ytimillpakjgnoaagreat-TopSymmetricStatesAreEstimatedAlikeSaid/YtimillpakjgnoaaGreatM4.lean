import Derived.Test.YtimillpakjgnoaaGreatM1
import Derived.Test.YtimillpakjgnoaaGreatM3
namespace Go.Proofs.YtimillpakjgnoaaGreat.Pl
open Go Go.RowKit
set_option maxHeartbeats 8000000 in
theorem w_optimalK {h : FH} {w : World} (hs : Sub h w) (t : Task) (at_ : Option Addr) (ct : Nat) (_q1 : RSl h at_ t.init) (_q2 : t.init.length ≤ ct) (at_2 : Option Addr) (ct2 : Nat) (_q3 : RSl h at_2 t.goal) (_q4 : t.goal.length ≤ ct2) (at_3 : Option Addr) (ct3 : Nat) (_q5 : RSl h at_3 t.ops) (_q6 : t.ops.length ≤ ct3) (K : (Int × Fault) → Prop) (hF : F_optimalK t K) : Calls Tryz.prog 7 #[.agg #[iV t.facts, .slice at_ t.init.length ct, .slice at_2 t.goal.length ct2, .slice at_3 t.ops.length ct3]] w fun e w' => ∃ r : Int × Fault, K r ∧ e = .returned (.tuple #[iV r.1, .agg #[iV r.2.code, iV r.2.index]]) ∧ Below w.heap.size w w' := by
 refine enter (args := [.agg (tF t at_ ct at_2 ct2 at_3 ct3).toArray]) Tryz.func7 rfl Tryz.ntmps7 rfl hs ?_
 obtain ⟨q7, hF⟩ := hF
 subst q7
 refine .seq (.region ?_)
 refine bx (vs := [iV 2, .slice at_ 1 ct, .slice at_2 1 ct2, .slice at_3 1 ct3]) rfl rfl rfl (fun pt => ?_)
 refine .V ag0 ?_
 refine al tZ27 rfl (fun pv => ?_)
 refine .nil (.seqN (.seq (.region (.V (ldA (cs := [iV 2, .slice at_ 1 ct, .slice at_2 1 ct2, .slice at_3 1 ct3]) rfl tA25 rfl (cellsB (off := 0) (k := 1) rfl (m := 4) rfl)) ?_))))
 refine .inl Tryz.func20 rfl Tryz.ntmps20 Tryz.call20 rfl rfl rfl rfl (fun a q8 => ?_)
 refine .sel0 [0] (by decide) rfl ?_
 refine .KA [Box pv [iV 0, iV 0]] ?_
 refine .seq (.region ?_)
 refine bx (vs := [iV 2, .slice at_ 1 ct, .slice at_2 1 ct2, .slice at_3 1 ct3]) rfl rfl rfl (fun pt2 => ?_)
 refine .V ag0 ?_
 refine .V ag0 ?_
 refine al tZ27 rfl (fun pv2 => ?_)
 refine .nil (.seqN (.seq (.seq (.region (.V (ldA (cs := [iV 2, .slice at_ 1 ct, .slice at_2 1 ct2, .slice at_3 1 ct3]) rfl tA25 rfl (cellsB (off := 0) (k := 1) rfl (m := 4) rfl)) ?_)))))
 obtain ⟨r2, q9⟩ : ∃ y_ : Fault, y_ = sp_validate (⟨2, ([0] : List Int), ([1] : List Int), ([(⟨([0] : List Int), ([1] : List Int), ([0] : List Int), 3⟩ : Operator)] : List Operator)⟩ : Task) := ⟨_, rfl⟩
 replace hF := hF r2 q9
 have q10 : sp_validate (⟨2, ([0] : List Int), ([1] : List Int), ([(⟨([0] : List Int), ([1] : List Int), ([0] : List Int), 3⟩ : Operator)] : List Operator)⟩ : Task) = (⟨0, 0⟩ : Fault) := by decide +kernel
 refine .C (cl (v := .agg #[iV 0, iV 0]) Tryz.call15 rfl rfl (fun w S => (by have h_ := c_validate S.sub (⟨2, ([0] : List Int), ([1] : List Int), ([(⟨([0] : List Int), ([1] : List Int), ([0] : List Int), 3⟩ : Operator)] : List Operator)⟩ : Task) at_ ct _q1 _q2 at_2 ct2 _q3 _q4 at_3 ct3 _q5 _q6 ; rw [q10] at h_; exact h_))) ?_
 refine al tZ27 rfl (fun pf => ?_)
 refine st (p := pf) (off := 0) (k := 0) (vs := [iV 0, iV 0]) rfl rfl rfl (fun w => (tA27 w).2) rfl rfl rfl rfl ?_
 refine .nil (.seqN (.seq (.region (.V (ldA (cs := [iV 0, iV 0]) rfl tA27 rfl (cellsB (off := 0) (k := 0) rfl (m := 2) rfl)) ?_))))
 refine .V (bld (cs := #[iV 0, iV 0]) (pv := []) tB27 rfl rfl) ?_
 refine .V (ne2 tE27 rfl rfl) ?_
 refine .nil (.seqN ?_)
 refine .cond rfl (fun e => absurd (e.symm.trans rfl) (by decide)) (fun _ => ?_)
 refine .skip (.seqN (.seq (.region (.V (ldA (cs := [iV 2, .slice at_ 1 ct, .slice at_2 1 ct2, .slice at_3 1 ct3]) rfl tA25 rfl (cellsB (off := 0) (k := 2) rfl (m := 4) rfl)) ?_))))
 refine .inl Tryz.func40 rfl Tryz.ntmps40 Tryz.call40 rfl rfl rfl rfl (fun a2 q11 => ?_)
 refine .sel0 [1, 3] (by decide) rfl ?_
 refine .KA [Box pv2 [iV 0, iV 0], Box pv [iV 0, iV 0]] ?_
 refine .seq (.region ?_)
 refine bx (vs := [iV 2, .slice at_ 1 ct, .slice at_2 1 ct2, .slice at_3 1 ct3]) rfl rfl rfl (fun pt3 => ?_)
 refine .V ag0 ?_
 refine .nil (.seqN (.seq ?_))
 obtain ⟨q12, hF⟩ := hF
 obtain ⟨r3, q13⟩ : ∃ y_ : Int, y_ = sp_word ([0] : List Int) := ⟨_, rfl⟩
 replace hF := hF r3 q13
 have q14 : sp_word ([0] : List Int) = 1 := by decide +kernel
 obtain ⟨q15, hF⟩ := hF
 obtain ⟨r4, q16⟩ : ∃ y_ : Int, y_ = sp_word ([1] : List Int) := ⟨_, rfl⟩
 replace hF := hF r4 q16
 have q17 : sp_word ([1] : List Int) = 2 := by decide +kernel
 refine .openA (s0 := [(1, .pointer (some pt3))]) [0, 1, 2, 3, 4, 5, 6] [(0, .pointer (some (pt3.add 1))), (1, .slice at_ 1 ct), (2, .int .u32 1), (3, .pointer (some (pt3.add 2))), (4, .slice at_2 1 ct2), (5, .int .u32 2), (6, .agg #[.int .u32 1, .int .u32 2, .slice none 0 0])] (by kernel_rfl) sb [1] [] rfl (by kernel_rfl) ?_
 refine .step [7] 7 rfl (by kernel_rfl) (by kernel_rfl) (.v [] rfl rfl rfl rfl rfl rfl (fun _ => fa rfl tF25_1) (.v [(6, .pointer (some (pt3.add 1)))] rfl rfl rfl rfl rfl rfl (fun _ => ld1 rfl tO22 (cellB (off := 1) (k := 0) rfl rfl)) (.c [(7, .slice at_ 1 ct)] rfl rfl rfl rfl rfl rfl (fun _ => cl (v := .int .u32 1) Tryz.call76 rfl rfl (fun w S => (by have h_ := c_word S.sub ([0] : List Int) at_ ct _q1 _q2 q12; rw [q14] at h_; exact h_))) (.v [] rfl rfl rfl rfl rfl rfl (fun _ => fa rfl tF25_2) (.v [(9, .pointer (some (pt3.add 2)))] rfl rfl rfl rfl rfl rfl (fun _ => ld1 rfl tO22 (cellB (off := 2) (k := 0) rfl rfl)) (.c [(10, .slice at_2 1 ct2), (8, .int .u32 1)] rfl rfl rfl rfl rfl rfl (fun _ => cl (v := .int .u32 2) Tryz.call76 rfl rfl (fun w S => (by have h_ := c_word S.sub ([1] : List Int) at_2 ct2 _q3 _q4 q15; rw [q17] at h_; exact h_))) (.v [(8, .int .u32 1), (11, .int .u32 2)] rfl rfl rfl rfl rfl rfl (fun _ => bld (cs := #[.int .u32 1, .int .u32 2, .slice none 0 0]) (pv := [(0, .int .u32 1), (1, .int .u32 2)]) tB105 rfl rfl) (.nil)))))))) (.cons [(12, .agg #[.int .u32 1, .int .u32 2, .slice none 0 0])] rfl rfl (fun sL hL => ?_) (.nil))
 refine bx (vs := [.int .u32 1, .int .u32 2, .slice none 0 0]) rfl rfl rfl (fun pv3 => ?_)
 refine .nil ?_
 refine .ja (M := [6, 2, 5, 1, 4, 0, 3]) (C' := [8]) (pre := [(7, .pointer (some pv3)), (8, .pointer (some pv3))]) [(1, .pointer (some pt3))] [1] hL rfl rfl rfl rfl rfl sb rfl rfl (by kernel_rfl) ?_
 refine .last [(6, .pointer (some (pt3.add 1))), (7, .slice at_ 1 ct), (8, .int .u32 1), (9, .pointer (some (pt3.add 2))), (10, .slice at_2 1 ct2), (11, .int .u32 2), (12, .agg #[.int .u32 1, .int .u32 2, .slice none 0 0]), (13, .pointer (some pv3)), (3, .pointer (some pv3))] rfl (by kernel_rfl) (.v [(13, .pointer (some pv3)), (11, .int .u32 2), (6, .pointer (some (pt3.add 1))), (7, .slice at_ 1 ct), (8, .int .u32 1), (9, .pointer (some (pt3.add 2))), (10, .slice at_2 1 ct2), (11, .int .u32 2), (12, .agg #[.int .u32 1, .int .u32 2, .slice none 0 0]), (13, .pointer (some pv3))] rfl rfl rfl rfl rfl rfl (fun _ => asg rfl) (.nil)) rfl ?_
 refine .seqN (.seq (.seq (.region (.V (fa rfl tF25_3) ?_))))
 refine .V (ld1 rfl tO23 (cellB (off := 3) (k := 1) rfl rfl)) ?_
 refine .V (ln rfl tS23.is) ?_
 refine .V mv0 ?_
 refine .nil (.seqN (.block ?_))
 refine .rounds 90 ?_
 refine .seq (.region (.V bi0 ?_))
 refine .nil (.seqN (.seq ?_))
 refine .cond rfl (fun _ => ?_) (fun e => absurd (e.symm.trans rfl) (by decide))
 refine .skip (.seqN (.seq (.block (.seq (.region (.V (ix rfl rfl tS23 (_q5.ne (by decide) (inb_pos (show inb ([(⟨([0] : List Int), ([1] : List Int), ([0] : List Int), 3⟩ : Operator)] : List Operator) (0 : Int) from And.intro (by decide) (by decide)))) (show inb ([(⟨([0] : List Int), ([1] : List Int), ([0] : List Int), 3⟩ : Operator)] : List Operator) (0 : Int) from And.intro (by decide) (by decide))) ?_))))))
 obtain ⟨_, ⟨a3, c, a4, c2, a5, c3, rfl, ⟨q18, q19⟩, ⟨q20, q21⟩, q22, q23⟩, q24⟩ := _q5.elem (show inb ([(⟨([0] : List Int), ([1] : List Int), ([0] : List Int), 3⟩ : Operator)] : List Operator) (0 : Int) from And.intro (by decide) (by decide))
 refine .V (ldA (cs := [.slice a3 1 c, .slice a4 1 c2, .slice a5 1 c3, iV 3]) rfl tA52 rfl (cellsH (q24 (by decide)))) ?_
 refine al tZ52 rfl (fun po => ?_)
 refine st (p := po) (off := 0) (k := 0) (vs := [.slice a3 1 c, .slice a4 1 c2, .slice a5 1 c3, iV 3]) rfl rfl rfl (fun w => (tA52 w).2) rfl rfl rfl rfl ?_
 refine .nil (.seqN ?_)
 obtain ⟨r5, q25⟩ : ∃ y_ : Int, y_ = sp_word ([0] : List Int) := ⟨_, rfl⟩
 replace hF := hF r5 q25
 have q26 : sp_word ([0] : List Int) = 1 := by decide +kernel
 obtain ⟨r6, q27⟩ : ∃ y_ : Int, y_ = sp_word ([1] : List Int) := ⟨_, rfl⟩
 replace hF := hF r6 q27
 have q28 : sp_word ([1] : List Int) = 2 := by decide +kernel
 obtain ⟨r7, q29⟩ : ∃ y_ : Int, y_ = sp_word ([0] : List Int) := ⟨_, rfl⟩
 replace hF := hF r7 q29
 have q30 : sp_word ([0] : List Int) = 1 := by decide +kernel
 refine .openA (s0 := [(3, .pointer (some pv3)), (5, .pointer (some po)), (15, .slice at_3 1 ct3), (16, iV 1), (17, iV 0)]) [0, 1, 2, 3, 4, 5, 6, 7, 8, 9, 10, 11, 12, 13, 14, 15, 16] [(0, .pointer (some pv3)), (1, .pointer (some pv3)), (2, .pointer (some pv3)), (3, .pointer (some (pv3.add 2))), (4, .slice none 0 0), (5, .pointer (some (po.add 0))), (6, .slice a3 1 c), (7, .int .u32 1), (8, .pointer (some (po.add 1))), (9, .slice a4 1 c2), (10, .int .u32 2), (11, .pointer (some (po.add 2))), (12, .slice a5 1 c3), (13, .int .u32 1), (14, .pointer (some (po.add 3))), (15, iV 3), (16, .agg #[.int .u32 1, .int .u32 2, .int .u32 1, iV 3])] (by kernel_rfl) sb [3, 5, 15, 16, 17] [] rfl (by kernel_rfl) ?_
 refine .step [17] 17 rfl (by kernel_rfl) (by kernel_rfl) (.v [] rfl rfl rfl rfl rfl rfl (fun _ => mv rfl) (.v [] rfl rfl rfl rfl rfl rfl (fun _ => mv rfl) (.v [(22, .pointer (some pv3))] rfl rfl rfl rfl rfl rfl (fun _ => nck rfl) (.v [(23, .pointer (some pv3))] rfl rfl rfl rfl rfl rfl (fun _ => fa rfl tF105_2) (.v [(24, .pointer (some (pv3.add 2)))] rfl rfl rfl rfl rfl rfl (fun _ => ld1 rfl tO103 (cellB (off := 2) (k := 1) rfl rfl)) (.v [] rfl rfl rfl rfl rfl rfl (fun _ => fa rfl tF52_0) (.v [(26, .pointer (some (po.add 0)))] rfl rfl rfl rfl rfl rfl (fun _ => ld1 rfl tO22 (cellB (off := 0) (k := 0) rfl rfl)) (.c [(27, .slice a3 1 c)] rfl rfl rfl rfl rfl rfl (fun _ => cl (v := .int .u32 1) Tryz.call76 rfl rfl (fun w S => (by have h_ := c_word S.sub ([0] : List Int) a3 c q19 q18 q12; rw [q26] at h_; exact h_))) (.v [] rfl rfl rfl rfl rfl rfl (fun _ => fa rfl tF52_1) (.v [(29, .pointer (some (po.add 1)))] rfl rfl rfl rfl rfl rfl (fun _ => ld1 rfl tO22 (cellB (off := 1) (k := 0) rfl rfl)) (.c [(30, .slice a4 1 c2), (28, .int .u32 1)] rfl rfl rfl rfl rfl rfl (fun _ => cl (v := .int .u32 2) Tryz.call76 rfl rfl (fun w S => (by have h_ := c_word S.sub ([1] : List Int) a4 c2 q21 q20 q15; rw [q28] at h_; exact h_))) (.v [] rfl rfl rfl rfl rfl rfl (fun _ => fa rfl tF52_2) (.v [(32, .pointer (some (po.add 2)))] rfl rfl rfl rfl rfl rfl (fun _ => ld1 rfl tO22 (cellB (off := 2) (k := 0) rfl rfl)) (.c [(33, .slice a5 1 c3), (31, .int .u32 2)] rfl rfl rfl rfl rfl rfl (fun _ => cl (v := .int .u32 1) Tryz.call76 rfl rfl (fun w S => (by have h_ := c_word S.sub ([0] : List Int) a5 c3 q23 q22 q12; rw [q30] at h_; exact h_))) (.v [] rfl rfl rfl rfl rfl rfl (fun _ => fa rfl tF52_3) (.v [(35, .pointer (some (po.add 3)))] rfl rfl rfl rfl rfl rfl (fun _ => ld1 rfl tO3 (cellB (off := 3) (k := 0) rfl rfl)) (.v [(28, .int .u32 1), (31, .int .u32 2), (34, .int .u32 1), (36, iV 3)] rfl rfl rfl rfl rfl rfl (fun _ => bld (cs := #[.int .u32 1, .int .u32 2, .int .u32 1, iV 3]) (pv := [(0, .int .u32 1), (1, .int .u32 2), (2, .int .u32 1), (3, iV 3)]) tB144 rfl rfl) (.nil)))))))))))))))))) (.cons [(37, .agg #[.int .u32 1, .int .u32 2, .int .u32 1, iV 3])] rfl rfl (fun sL hL => ?_) (.nil))
 refine bs2 (cs := #[.int .u32 1, .int .u32 2, .int .u32 1, iV 3]) (pv := [(0, .agg #[.int .u32 1, .int .u32 2, .int .u32 1, iV 3])]) tS103 rfl rfl (by decide) (by decide) rfl rfl rfl (fun a6 q31 => ?_)
 refine .nil ?_
 refine .ja (M := [16, 7, 10, 13, 15, 6, 9, 12, 14, 5, 8, 11]) (C' := [0, 1, 2, 3, 4]) (pre := [(17, .slice a6 1 1)]) [(3, .pointer (some pv3)), (5, .pointer (some po)), (15, .slice at_3 1 ct3), (16, iV 1), (17, iV 0)] [3, 5, 15, 16, 17] hL rfl rfl rfl rfl rfl sb rfl rfl (by kernel_rfl) ?_
 refine .step [18] 18 rfl (by kernel_rfl) (by kernel_rfl) (.v [] rfl rfl rfl rfl rfl rfl (fun _ => mv rfl) (.v [] rfl rfl rfl rfl rfl rfl (fun _ => mv rfl) (.v [(22, .pointer (some pv3))] rfl rfl rfl rfl rfl rfl (fun _ => nck rfl) (.v [(23, .pointer (some pv3))] rfl rfl rfl rfl rfl rfl (fun _ => fa rfl tF105_2) (.v [(24, .pointer (some (pv3.add 2)))] rfl rfl rfl rfl rfl rfl (fun _ => ld1 rfl tO103 (cellB (off := 2) (k := 2) rfl rfl)) (.nil)))))) (.cons [(25, .slice none 0 0), (38, .slice a6 1 1), (34, .int .u32 1)] rfl rfl (fun sL hL => ?_) (.nil))
 refine .nilSl 144 4 ?_
 refine app (k := 0) (news := [.int .u32 1, .int .u32 2, .int .u32 1, iV 3]) (cs' := [.int .u32 1, .int .u32 2, .int .u32 1, iV 3]) (nm := 1) tS103 rfl (by decide) rfl rfl rfl rfl (srcS (k := 1) rfl) (oneAll rfl) (by decide) (by decide) rfl rfl rfl (fun a7 c4 => ?_)
 refine .nil ?_
 refine .ja (M := [4, 3, 2, 1]) (C' := [0, 19, 20]) (pre := [(18, .slice a7 1 c4), (19, .pointer (some pv3)), (20, .pointer (some (pv3.add 2)))]) [(3, .pointer (some pv3)), (5, .pointer (some po)), (15, .slice at_3 1 ct3), (16, iV 1), (17, iV 0)] [3, 5, 15, 16, 17] hL rfl rfl rfl rfl rfl sb rfl rfl (by kernel_rfl) ?_
 refine .step [21] 21 rfl (by kernel_rfl) (by kernel_rfl) (.v [] rfl rfl rfl rfl rfl rfl (fun _ => mv rfl) (.v [(21, .pointer (some pv3)), (21, .pointer (some pv3)), (22, .pointer (some pv3)), (23, .pointer (some pv3)), (24, .pointer (some (pv3.add 2))), (25, .slice none 0 0), (26, .pointer (some (po.add 0))), (27, .slice a3 1 c), (28, .int .u32 1), (29, .pointer (some (po.add 1))), (30, .slice a4 1 c2), (31, .int .u32 2), (32, .pointer (some (po.add 2))), (33, .slice a5 1 c3), (34, .int .u32 1), (35, .pointer (some (po.add 3))), (36, iV 3), (37, .agg #[.int .u32 1, .int .u32 2, .int .u32 1, iV 3]), (38, .slice a6 1 1), (39, .slice a7 1 c4)] rfl rfl rfl rfl rfl rfl (fun _ => nck rfl) (.v [(40, .pointer (some pv3)), (21, .pointer (some pv3)), (22, .pointer (some pv3)), (23, .pointer (some pv3)), (24, .pointer (some (pv3.add 2))), (25, .slice none 0 0), (26, .pointer (some (po.add 0))), (27, .slice a3 1 c), (28, .int .u32 1), (29, .pointer (some (po.add 1))), (30, .slice a4 1 c2), (31, .int .u32 2), (32, .pointer (some (po.add 2))), (33, .slice a5 1 c3), (34, .int .u32 1), (35, .pointer (some (po.add 3))), (36, iV 3), (37, .agg #[.int .u32 1, .int .u32 2, .int .u32 1, iV 3]), (38, .slice a6 1 1), (39, .slice a7 1 c4)] rfl rfl rfl rfl rfl rfl (fun _ => fa rfl tF105_2) (.nil)))) (.cons [(41, .pointer (some (pv3.add 2))), (39, .slice a7 1 c4), (39, .slice a7 1 c4), (21, .pointer (some pv3)), (22, .pointer (some pv3)), (23, .pointer (some pv3)), (24, .pointer (some (pv3.add 2))), (25, .slice none 0 0), (26, .pointer (some (po.add 0))), (27, .slice a3 1 c), (28, .int .u32 1), (29, .pointer (some (po.add 1))), (30, .slice a4 1 c2), (31, .int .u32 2), (32, .pointer (some (po.add 2))), (33, .slice a5 1 c3), (34, .int .u32 1), (35, .pointer (some (po.add 3))), (36, iV 3), (37, .agg #[.int .u32 1, .int .u32 2, .int .u32 1, iV 3]), (38, .slice a6 1 1), (39, .slice a7 1 c4)] rfl rfl (fun sL hL => ?_) (.nil))
 refine st (p := pv3) (off := 2) (k := 3) (vs := [.slice a7 1 c4]) rfl rfl rfl (fun w => (tO103 w).2) rfl rfl rfl rfl ?_
 refine .nil ?_
 refine .jaN (M := [20, 0, 19]) (C' := []) (pre := []) [3, 5, 15, 16, 17] hL rfl rfl rfl rfl rfl (by kernel_rfl) ?_
 refine .last [(21, .pointer (some pv3)), (22, .pointer (some pv3)), (23, .pointer (some pv3)), (24, .pointer (some (pv3.add 2))), (25, .slice none 0 0), (26, .pointer (some (po.add 0))), (27, .slice a3 1 c), (28, .int .u32 1), (29, .pointer (some (po.add 1))), (30, .slice a4 1 c2), (31, .int .u32 2), (32, .pointer (some (po.add 2))), (33, .slice a5 1 c3), (34, .int .u32 1), (35, .pointer (some (po.add 3))), (36, iV 3), (37, .agg #[.int .u32 1, .int .u32 2, .int .u32 1, iV 3]), (38, .slice a6 1 1), (39, .slice a7 1 c4), (40, .pointer (some pv3)), (41, .pointer (some (pv3.add 2)))] rfl (by kernel_rfl) (.nil) rfl ?_
 refine .blkN (.seqN (.region (.V bi0 ?_)))
 refine .V mv0 ?_
 refine .nil ?_
 refine .more ?_
 refine .sub (s' := [(3, .pointer (some pv3)), (15, .slice at_3 1 ct3), (16, iV 1), (17, iV 1)]) sb ?_
 refine .sel0 [0, 3, 5, 6] (by decide) rfl ?_
 refine .KA [OwnSl 144 4 a7 1 c4 [.int .u32 1, .int .u32 2, .int .u32 1, iV 3], Box pv3 [.int .u32 1, .int .u32 2, .slice a7 1 c4], Box pv2 [iV 0, iV 0], Box pv [iV 0, iV 0]] ?_
 refine .seq (.region (.V bi0 ?_))
 refine .nil (.seqN (.seq ?_))
 refine .cond rfl (fun e => absurd (e.symm.trans rfl) (by decide)) (fun _ => ?_)
 refine .exit (.seqX (.seqX (.blkX (.seqN (.seq (.region (.V mv0 ?_)))))))
 refine .V ag0 ?_
 refine .nil (.seqN (.ret ?_))
 refine .res1 rfl (rvT rfl) (inl_back (v := .pointer (some pv3)) q11 rfl ?_)
 refine .V ag0 ?_
 refine .nil (.seqN (.seq (.region (.V mv0 ?_))))
 refine .V (mkI tC56 rfl) ?_
 refine .freezeL (k := 0) rfl (fun h1 le1 q33 q32 => ?_)
 have q34 : RSl h1 a7 ([(⟨1, 2, 1, 3⟩ : Masks)] : List Masks) := (RSl.of (xs := ([(⟨1, 2, 1, 3⟩ : Masks)] : List Masks)) q32)
 refine .freezeBx (k := 1) rfl (fun h2 le2 q35 => ?_)
 obtain ⟨q36, hF⟩ := hF
 obtain ⟨r8, q37⟩ : ∃ y_ : List Int × Bool, y_ = sp_all (⟨1, 2, ([(⟨1, 2, 1, 3⟩ : Masks)] : List Masks)⟩ : WordsT) := ⟨_, rfl⟩
 replace hF := hF r8 q37
 refine clO (α := Option Addr × Nat) (V := fun z => .tuple #[vSl z.1 r8.1 z.2, .bool r8.2]) (Ψ := fun z => True) (B := fun z => [OwnSl 62 1 z.1 r8.1.length z.2 (flL (α := W32) r8.1)]) Tryz.call41 rfl rfl (fun w S => (by rw [q37]; exact c_all S.sub (⟨1, 2, ([(⟨1, 2, 1, 3⟩ : Masks)] : List Masks)⟩ : WordsT) a7 c4 (q34.mono (le2)) (show ([(⟨1, 2, 1, 3⟩ : Masks)] : List Masks).length ≤ c4 from q33) pv3 (CellsAt.mono (FH.le_refl _) q35) q36)) rfl (fun z _ => ?_)
 obtain ⟨a8, c5⟩ := z
 obtain rfl : r8 = (([1, 2] : List Int), true) := q37.trans (by decide +kernel)
 refine .V mv0 ?_
 refine .V (ext rfl rfl) ?_
 refine .V (ext rfl rfl) ?_
 refine .V ag0 ?_
 refine .V ag0 ?_
 refine .nil (.seqN (.seq (.seq (.region (.V mv0 ?_)))))
 refine .V (nt rfl) ?_
 refine .nil (.seqN ?_)
 refine .cond rfl (fun e => absurd (e.symm.trans rfl) (by decide)) (fun _ => ?_)
 refine .skip (.seqN (.seq (.region (.V mv0 ?_))))
 obtain ⟨q38, hF⟩ := hF
 obtain ⟨r9, q39⟩ : ∃ y_ : List Int, y_ = sp_sortW ([1, 2] : List Int) := ⟨_, rfl⟩
 replace hF := hF r9 q39
 refine callX (k := 0) (v := .tuple #[]) (X' := OwnSl 62 1 a8 (([1, 2] : List Int).length) c5 (flL (α := W32) r9)) rfl Tryz.call42 rfl rfl (fun w g hx sg hd hs' => ?_) rfl ?_
 ·rw [q39]; exact c_sortW hs' ([1, 2] : List Int) a8 c5 hx sg hd q38
 obtain rfl : r9 = ([1, 2] : List Int) := q39.trans (sortW_two (by decide +kernel))
 refine .nil (.seqN (.seq (.region (.V mv0 ?_))))
 refine .V mv0 ?_
 refine .V (bld (cs := #[iV 0, iV 0]) (pv := []) tB27 rfl rfl) ?_
 refine .V ag0 ?_
 refine .V ag0 ?_
 refine st (p := pv2) (off := 0) (k := 3) (vs := [iV 0, iV 0]) rfl rfl rfl (fun w => (tA27 w).2) rfl rfl rfl rfl ?_
 refine .KA [OwnSl 62 1 a8 2 c5 [.int .u32 1, .int .u32 2], tru, tru, Box pv2 [iV 0, iV 0], Box pv [iV 0, iV 0]] ?_
 refine .nil (.seqN (.ret ?_))
 refine .res3 rfl (rvT rfl) (rvT rfl) (rvC rfl tA27 (k := 3) rfl rfl) (inl_back (v := .tuple #[.pointer (some pv3), .slice a8 2 c5, .agg #[iV 0, iV 0]]) q8 rfl ?_)
 refine .V mv0 ?_
 refine .V (ext rfl rfl) ?_
 refine .V (ext rfl rfl) ?_
 refine .V (ext rfl rfl) ?_
 refine al tZ27 rfl (fun pf2 => ?_)
 refine .V ag0 ?_
 refine .V ag0 ?_
 refine st (p := pf2) (off := 0) (k := 0) (vs := [iV 0, iV 0]) rfl rfl rfl (fun w => (tA27 w).2) rfl rfl rfl rfl ?_
 refine .nil (.seqN (.seq (.seq (.region (.V (ldA (cs := [iV 0, iV 0]) rfl tA27 rfl (cellsB (off := 0) (k := 0) rfl (m := 2) rfl)) ?_)))))
 refine .V (bld (cs := #[iV 0, iV 0]) (pv := []) tB27 rfl rfl) ?_
 refine .V (ne2 tE27 rfl rfl) ?_
 refine .nil (.seqN ?_)
 refine .cond rfl (fun e => absurd (e.symm.trans rfl) (by decide)) (fun _ => ?_)
 refine .skip (.seqN (.seq (.region (.V mv0 ?_))))
 refine .V mv0 ?_
 refine .inlM Tryz.func21 rfl Tryz.ntmps21 Tryz.call21 rfl rfl rfl rfl (fun a9 q40 => ?_)
 refine .mk0 ?_
 refine .KA [MkA [], Box pf2 [iV 0, iV 0], OwnSl 62 1 a8 2 c5 [.int .u32 1, .int .u32 2], tru, tru, Box pv2 [iV 0, iV 0], Box pv [iV 0, iV 0]] ?_
 refine .sel0 [0, 2, 6] (by decide) rfl ?_
 refine .KA [MkA [], OwnSl 62 1 a8 2 c5 [.int .u32 1, .int .u32 2], Box pv [iV 0, iV 0]] ?_
 refine .seq (.region (.V ag0 ?_))
 refine .nil (.seqN (.seq (.region ?_)))
 refine mmI .u32 (fun v : Value => v) rfl (fun bv => ?_)
 refine al tZ87 rfl (fun pback => ?_)
 refine st (p := pback) (off := 0) (k := 0) (vs := [.map (some bv)]) rfl rfl rfl (fun w => (tO87 w).2) rfl rfl rfl rfl ?_
 refine .nil (.seqN (.seq (.region ?_)))
 refine mmI .u32 (fun v : Value => v) rfl (fun bv2 => ?_)
 refine .V ag0 ?_
 refine .nil (.seqN (.seq (.region ?_)))
 refine .inl Tryz.func45 rfl Tryz.ntmps45 Tryz.call45 rfl rfl rfl rfl (fun a10 q41 => ?_)
 refine .KA [OwnMapI bv2 .u32 (fun v : Value => v) ([] : List (Int × Value)), Box pback [.map (some bv)], OwnMapI bv .u32 (fun v : Value => v) ([] : List (Int × Value)), MkA [], OwnSl 62 1 a8 2 c5 [.int .u32 1, .int .u32 2], Box pv [iV 0, iV 0]] ?_
 refine .seq (.region (.V ag0 ?_))
 refine .nil (.seqN (.seq (.region ?_)))
 refine mmI .u32 (fun v : Value => v) rfl (fun bv3 => ?_)
 refine .V (bld (cs := #[.slice none 0 0, .map (some bv3), iV 0]) (pv := [(1, .map (some bv3))]) tB157 rfl rfl) ?_
 refine bx (vs := [.slice none 0 0, .map (some bv3), iV 0]) rfl rfl rfl (fun pv4 => ?_)
 refine .V ag0 ?_
 refine .nil (.seqN (.ret ?_))
 refine .res1 rfl (rvT rfl) (inl_back (v := .pointer (some pv4)) q41 rfl ?_)
 refine .V ag0 ?_
 refine .nil (.seqN (.seq (.seq (.region (.V mv0 ?_)))))
 refine .V (ln rfl tS57.is) ?_
 refine .V mv0 ?_
 refine .nil (.seqN (.block ?_))
 refine .rounds 90 ?_
 refine .seq (.region (.V bi0 ?_))
 refine .nil (.seqN (.seq ?_))
 refine .cond rfl (fun _ => ?_) (fun e => absurd (e.symm.trans rfl) (by decide))
 refine .skip (.seqN (.seq (.block (.seq (.region (.V (ixS rfl rfl tS57 (k := 6) rfl (And.intro (by decide) (by decide))) ?_))))))
 refine .V (ld1 (v := .int .u32 1) rfl tO62 (cellS (k := 6) rfl rfl)) ?_
 refine al tZ62 rfl (fun ps => ?_)
 refine st (p := ps) (off := 0) (k := 0) (vs := [.int .u32 1]) rfl rfl rfl (fun w => (tO62 w).2) rfl rfl rfl rfl ?_
 refine .nil (.seqN (.seq (.region (.V mv0 ?_))))
 refine .V (ld1 rfl tO62 (cellB (off := 0) (k := 0) rfl rfl)) ?_
 refine muI (enc := fun v : Value => v) (iV 1000000000) tMR60 rfl rfl rfl (q := 3) rfl ?_
 refine .nil (.seqN (.seq (.seq (.region (.V mv0 ?_)))))
 refine .V (ld1 rfl tO62 (cellB (off := 0) (k := 0) rfl rfl)) ?_
 refine .inl Tryz.func46 rfl Tryz.ntmps46 Tryz.call46 rfl rfl rfl rfl (fun a11 q42 => ?_)
 refine .KA [Box ps [.int .u32 1], Box pv4 [.slice none 0 0, .map (some bv3), iV 0], OwnMapI bv3 .u32 (fun v : Value => v) ([] : List (Int × Value)), OwnMapI bv2 .u32 (fun v : Value => v) ([(1, iV 1000000000)] : List (Int × Value)), Box pback [.map (some bv)], OwnMapI bv .u32 (fun v : Value => v) ([] : List (Int × Value)), MkA [], OwnSl 62 1 a8 2 c5 [.int .u32 1, .int .u32 2], Box pv [iV 0, iV 0]] ?_
 refine .seq (.region (.V ag0 ?_))
 refine .nil (.seqN (.seq ?_))
 refine .openA (s0 := [(0, .pointer (some pv3)), (1, .int .u32 1)]) [0, 1, 2, 3, 4, 5, 6, 7, 8, 9, 10, 11] [(0, .int .u32 1), (1, .pointer (some pv3)), (2, .pointer (some pv3)), (3, .pointer (some (pv3.add 1))), (4, .int .u32 2), (5, .int .u32 0), (6, .pointer (some pv3)), (7, .pointer (some pv3)), (8, .pointer (some (pv3.add 1))), (9, .int .u32 2), (10, .bool false), (11, .bool false)] (by kernel_rfl) sb [0, 1] [] rfl (by kernel_rfl) ?_
 refine .last [(5, .int .u32 1), (6, .pointer (some pv3)), (7, .pointer (some pv3)), (8, .pointer (some (pv3.add 1))), (9, .int .u32 2), (10, .int .u32 0), (11, .pointer (some pv3)), (12, .pointer (some pv3)), (13, .pointer (some (pv3.add 1))), (14, .int .u32 2), (15, .bool false), (4, .bool false)] rfl (by kernel_rfl) (.v [] rfl rfl rfl rfl rfl rfl (fun _ => mv rfl) (.v [] rfl rfl rfl rfl rfl rfl (fun _ => mv rfl) (.v [(6, .pointer (some pv3))] rfl rfl rfl rfl rfl rfl (fun _ => nck rfl) (.v [(7, .pointer (some pv3))] rfl rfl rfl rfl rfl rfl (fun _ => fa rfl tF105_1) (.v [(8, .pointer (some (pv3.add 1)))] rfl rfl rfl rfl rfl rfl (fun _ => ld1 (v := .int .u32 2) rfl tO62 (cellH (CellsAt.mono (FH.le_refl _) q35 1 _ rfl))) (.v [(5, .int .u32 1), (9, .int .u32 2)] rfl rfl rfl rfl rfl rfl (fun _ => bi rfl rfl rfl) (.v [] rfl rfl rfl rfl rfl rfl (fun _ => mv rfl) (.v [(11, .pointer (some pv3))] rfl rfl rfl rfl rfl rfl (fun _ => nck rfl) (.v [(12, .pointer (some pv3))] rfl rfl rfl rfl rfl rfl (fun _ => fa rfl tF105_1) (.v [(13, .pointer (some (pv3.add 1)))] rfl rfl rfl rfl rfl rfl (fun _ => ld1 (v := .int .u32 2) rfl tO62 (cellH (CellsAt.mono (FH.le_refl _) q35 1 _ rfl))) (.v [(10, .int .u32 0), (14, .int .u32 2)] rfl rfl rfl rfl rfl rfl (fun _ => bi rfl rfl rfl) (.v [(15, .bool false), (5, .int .u32 1), (6, .pointer (some pv3)), (7, .pointer (some pv3)), (8, .pointer (some (pv3.add 1))), (9, .int .u32 2), (10, .int .u32 0), (11, .pointer (some pv3)), (12, .pointer (some pv3)), (13, .pointer (some (pv3.add 1))), (14, .int .u32 2), (15, .bool false)] rfl rfl rfl rfl rfl rfl (fun _ => asg rfl) (.nil))))))))))))) rfl ?_
 refine .seqN (.ret ?_)
 refine .res1 rfl (rvT rfl) (inl_back (v := .bool false) q42 rfl ?_)
 refine .nil (.seqN ?_)
 refine .cond rfl (fun e => absurd (e.symm.trans rfl) (by decide)) (fun _ => ?_)
 refine .skip (.seqN (.seq (.region (.V mv0 ?_))))
 refine .V (ld1 rfl tO62 (cellB (off := 0) (k := 0) rfl rfl)) ?_
 refine .inl Tryz.func48 rfl Tryz.ntmps48 Tryz.call48 rfl rfl rfl rfl (fun a12 q43 => ?_)
 refine .KA [Box ps [.int .u32 1], Box pv4 [.slice none 0 0, .map (some bv3), iV 0], OwnMapI bv3 .u32 (fun v : Value => v) ([] : List (Int × Value)), OwnMapI bv2 .u32 (fun v : Value => v) ([(1, iV 1000000000)] : List (Int × Value)), Box pback [.map (some bv)], OwnMapI bv .u32 (fun v : Value => v) ([] : List (Int × Value)), MkA [], OwnSl 62 1 a8 2 c5 [.int .u32 1, .int .u32 2], Box pv [iV 0, iV 0]] ?_
 refine .seq (.region ?_)
 refine bx (vs := [.pointer (some pv3)]) rfl rfl rfl (fun pw => ?_)
 refine bx (vs := [.int .u32 1]) rfl rfl rfl (fun ps2 => ?_)
 refine .V ag0 ?_
 refine .nil (.seqN (.seq (.region (.V (mkf (vf := []) (vc := [.pointer (some pw), .pointer (some ps2)]) rfl rfl) ?_))))
 refine .V ag0 ?_
 refine .nil (.seqN (.ret ?_))
 refine .res1 rfl (rvT rfl) (inl_back (v := .func (.func 80) #[] #[.pointer (some pw), .pointer (some ps2)]) q43 rfl ?_)
 refine .nil (.seqN (.block ?_))
 refine .sub (s' := [(0, .pointer (some pv3)), (5, .pointer (some pback)), (6, .map (some bv2)), (7, .pointer (some pv4)), (9, .pointer (some ps)), (19, .slice a8 2 c5), (20, iV 2), (21, iV 0), (37, .func (.func 80) #[] #[.pointer (some pw), .pointer (some ps2)])]) sb ?_
 refine .rangeF (k := 8) (caps := [.pointer (some pw), .pointer (some ps2)]) rfl rfl Tryz.func80 rfl Tryz.ntmps80 rfl Tryz.call80 (fun l D LA a13 q44 q45 => ?_)
 refine .KA [LA .ready none, Box ps2 [.int .u32 1], Box pw [.pointer (some pv3)], Box ps [.int .u32 1], Box pv4 [.slice none 0 0, .map (some bv3), iV 0], OwnMapI bv3 .u32 (fun v : Value => v) ([] : List (Int × Value)), OwnMapI bv2 .u32 (fun v : Value => v) ([(1, iV 1000000000)] : List (Int × Value)), Box pback [.map (some bv)], OwnMapI bv .u32 (fun v : Value => v) ([] : List (Int × Value)), MkA (D :: []), OwnSl 62 1 a8 2 c5 [.int .u32 1, .int .u32 2], Box pv [iV 0, iV 0]] ?_
 refine .seq (.region (.V (ld1 rfl tO56 (cellB (off := 0) (k := 2) rfl rfl)) ?_))
 refine .V (nck rfl) ?_
 refine .V (fa rfl tF105_2) ?_
 refine .V (ld1 (v := .slice a7 1 c4) rfl tO103 (cellH (CellsAt.mono (FH.le_refl _) q35 2 _ rfl))) ?_
 refine .V (ln rfl tS103.is) ?_
 refine .V mv0 ?_
 refine .nil (.seqN (.block ?_))
 refine .rounds 90 ?_
 refine .seq (.region (.V bi0 ?_))
 refine .nil (.seqN (.seq ?_))
 refine .cond rfl (fun _ => ?_) (fun e => absurd (e.symm.trans rfl) (by decide))
 refine .skip (.seqN (.seq (.block (.seq (.region (.V mv0 ?_))))))
 refine .V (ix rfl rfl tS103 (q34.ne (by decide) (inb_pos (show inb ([(⟨1, 2, 1, 3⟩ : Masks)] : List Masks) (0 : Int) from And.intro (by decide) (by decide)))) (show inb ([(⟨1, 2, 1, 3⟩ : Masks)] : List Masks) (0 : Int) from And.intro (by decide) (by decide))) ?_
 refine .V (ldA (cs := [.int .u32 1, .int .u32 2, .int .u32 1, iV 3]) rfl tA144 rfl (cellsH ((q34.mono (le2)).elemF (show inb ([(⟨1, 2, 1, 3⟩ : Masks)] : List Masks) (0 : Int) from And.intro (by decide) (by decide)) (by decide)))) ?_
 refine al tZ144 rfl (fun pback2 => ?_)
 refine .V ag0 ?_
 refine st (p := pback2) (off := 0) (k := 0) (vs := [.int .u32 1, .int .u32 2, .int .u32 1, iV 3]) rfl rfl rfl (fun w => (tA144 w).2) rfl rfl rfl rfl ?_
 refine .nil (.seqN (.seq (.region (.V (ld1 rfl tO62 (cellB (off := 0) (k := 2) rfl rfl)) ?_))))
 refine .V (fa rfl tF144_0) ?_
 refine .V (ld1 rfl tO62 (cellB (off := 0) (k := 0) rfl rfl)) ?_
 refine .V bi0 ?_
 refine .V (fa rfl tF144_0) ?_
 refine .V (ld1 rfl tO62 (cellB (off := 0) (k := 0) rfl rfl)) ?_
 refine .V bi0 ?_
 refine .V mv0 ?_
 refine .gv mv0 rfl rfl rfl rfl rfl rfl ?_
 refine .gv mv0 rfl rfl rfl rfl rfl rfl ?_
 refine .gv (fa rfl tF144_3) rfl rfl rfl rfl rfl rfl ?_
 refine .gv (ld1 rfl tO3 (cellB (off := 3) (k := 0) rfl rfl)) rfl rfl rfl rfl rfl rfl ?_
 refine .gv (ld1 rfl tO62 (cellB (off := 0) (k := 2) rfl rfl)) rfl rfl rfl rfl rfl rfl ?_
 refine .gv (fa rfl tF144_2) rfl rfl rfl rfl rfl rfl ?_
 refine .gv (ld1 rfl tO62 (cellB (off := 2) (k := 0) rfl rfl)) rfl rfl rfl rfl rfl rfl ?_
 refine .gv bi0 rfl rfl rfl rfl rfl rfl ?_
 refine .gv (fa rfl tF144_1) rfl rfl rfl rfl rfl rfl ?_
 refine .gv (ld1 rfl tO62 (cellB (off := 1) (k := 0) rfl rfl)) rfl rfl rfl rfl rfl rfl ?_
 refine .gv bi0 rfl rfl rfl rfl rfl rfl ?_
 refine .gv (bld (cs := #[iV 0, iV 3, .int .u32 2]) (pv := [(0, iV 0), (1, iV 3), (2, .int .u32 2)]) tB96 rfl rfl) rfl rfl rfl rfl rfl rfl ?_
 refine .gR rfl rfl rfl rfl ?_
 refine .yld (k := 1) (vs := [.agg #[iV 0, iV 3, .int .u32 2]]) q44 rfl rfl rfl rfl rfl (fun aG q46 => ?_)
 refine .sub (s' := [(5, .pointer (some pback)), (9, .pointer (some ps)), (38, .agg #[iV 0, iV 3, .int .u32 2])]) sb ?_
 refine .region ?_
 refine al tZ96 rfl (fun pe => ?_)
 refine st (p := pe) (off := 0) (k := 0) (vs := [iV 0, iV 3, .int .u32 2]) rfl rfl rfl (fun w => (tA96 w).2) rfl rfl rfl rfl ?_
 refine .nil ?_
 refine .begin_ (k := 2) q44 rfl ?_
 refine .block ?_
 refine .openA (s0 := [(5, .pointer (some pback)), (9, .pointer (some ps)), (10, .pointer (some pe))]) [0, 1, 2, 3, 4, 5, 6, 7, 8, 9, 10] [(0, .map (some bv)), (1, .pointer (some (pe.add 2))), (2, .int .u32 2), (3, .map (some bv)), (4, .pointer (some (pe.add 2))), (5, .int .u32 2), (6, .slice none 0 0), (7, .int .u32 1), (8, .pointer (some (pe.add 1))), (9, iV 3), (10, .agg #[.int .u32 1, iV 3])] (by kernel_rfl) sb [5, 9, 10] [] rfl (by kernel_rfl) ?_
 refine .step [11] 11 rfl (by kernel_rfl) (by kernel_rfl) (.v [] rfl rfl rfl rfl rfl rfl (fun _ => ld1 rfl tO87 (cellB (off := 0) (k := 9) rfl rfl)) (.v [] rfl rfl rfl rfl rfl rfl (fun _ => fa rfl tF96_2) (.v [(40, .pointer (some (pe.add 2)))] rfl rfl rfl rfl rfl rfl (fun _ => ld1 rfl tO62 (cellB (off := 2) (k := 0) rfl rfl)) (.v [] rfl rfl rfl rfl rfl rfl (fun _ => ld1 rfl tO87 (cellB (off := 0) (k := 9) rfl rfl)) (.v [] rfl rfl rfl rfl rfl rfl (fun _ => fa rfl tF96_2) (.v [(43, .pointer (some (pe.add 2)))] rfl rfl rfl rfl rfl rfl (fun _ => ld1 rfl tO62 (cellB (off := 2) (k := 0) rfl rfl)) (.v [(42, .map (some bv)), (44, .int .u32 2)] rfl rfl rfl rfl rfl rfl (fun _ => lkI (enc := fun v : Value => v) (m := ([] : List (Int × Value))) (k := 2) (.slice none 0 0) tMR87 rfl rfl (q := 10) rfl) (.v [] rfl rfl rfl rfl rfl rfl (fun _ => ld1 rfl tO62 (cellB (off := 0) (k := 5) rfl rfl)) (.v [] rfl rfl rfl rfl rfl rfl (fun _ => fa rfl tF96_1) (.v [(47, .pointer (some (pe.add 1)))] rfl rfl rfl rfl rfl rfl (fun _ => ld1 rfl tO3 (cellB (off := 1) (k := 0) rfl rfl)) (.v [(46, .int .u32 1), (48, iV 3)] rfl rfl rfl rfl rfl rfl (fun _ => bld (cs := #[.int .u32 1, iV 3]) (pv := [(0, .int .u32 1), (1, iV 3)]) tB99 rfl rfl) (.nil)))))))))))) (.cons [(49, .agg #[.int .u32 1, iV 3])] rfl rfl (fun sL hL => ?_) (.nil))
 refine bs2 (cs := #[.int .u32 1, iV 3]) (pv := [(0, .agg #[.int .u32 1, iV 3])]) tS97 rfl rfl (by decide) (by decide) rfl rfl rfl (fun a14 q47 => ?_)
 refine .nil ?_
 refine .ja (M := [10, 7, 9, 8]) (C' := [0, 1, 2, 3, 4, 5, 6]) (pre := [(11, .slice a14 1 1)]) [(5, .pointer (some pback)), (9, .pointer (some ps)), (10, .pointer (some pe))] [5, 9, 10] hL rfl rfl rfl rfl rfl sb rfl rfl (by kernel_rfl) ?_
 refine .step [12] 12 rfl (by kernel_rfl) (by kernel_rfl) (.v [] rfl rfl rfl rfl rfl rfl (fun _ => ld1 rfl tO87 (cellB (off := 0) (k := 10) rfl rfl)) (.v [] rfl rfl rfl rfl rfl rfl (fun _ => fa rfl tF96_2) (.v [(40, .pointer (some (pe.add 2)))] rfl rfl rfl rfl rfl rfl (fun _ => ld1 rfl tO62 (cellB (off := 2) (k := 1) rfl rfl)) (.v [] rfl rfl rfl rfl rfl rfl (fun _ => ld1 rfl tO87 (cellB (off := 0) (k := 10) rfl rfl)) (.v [] rfl rfl rfl rfl rfl rfl (fun _ => fa rfl tF96_2) (.v [(43, .pointer (some (pe.add 2)))] rfl rfl rfl rfl rfl rfl (fun _ => ld1 rfl tO62 (cellB (off := 2) (k := 1) rfl rfl)) (.v [(42, .map (some bv)), (44, .int .u32 2)] rfl rfl rfl rfl rfl rfl (fun _ => lkI (enc := fun v : Value => v) (m := ([] : List (Int × Value))) (k := 2) (.slice none 0 0) tMR87 rfl rfl (q := 11) rfl) (.nil)))))))) (.cons [(45, .slice none 0 0), (50, .slice a14 1 1)] rfl rfl (fun sL hL => ?_) (.nil))
 refine .nilSl 99 2 ?_
 refine app (k := 0) (news := [.int .u32 1, iV 3]) (cs' := [.int .u32 1, iV 3]) (nm := 1) tS97 rfl (by decide) rfl rfl rfl rfl (srcS (k := 1) rfl) (oneAll rfl) (by decide) (by decide) rfl rfl rfl (fun a15 c6 => ?_)
 refine .nil ?_
 refine .ja (M := [6, 3, 5, 4]) (C' := [0, 1, 2]) (pre := [(12, .slice a15 1 c6)]) [(5, .pointer (some pback)), (9, .pointer (some ps)), (10, .pointer (some pe))] [5, 9, 10] hL rfl rfl rfl rfl rfl sb rfl rfl (by kernel_rfl) ?_
 refine .step [13] 13 rfl (by kernel_rfl) (by kernel_rfl) (.v [] rfl rfl rfl rfl rfl rfl (fun _ => ld1 rfl tO87 (cellB (off := 0) (k := 11) rfl rfl)) (.v [] rfl rfl rfl rfl rfl rfl (fun _ => fa rfl tF96_2) (.v [(40, .pointer (some (pe.add 2)))] rfl rfl rfl rfl rfl rfl (fun _ => ld1 rfl tO62 (cellB (off := 2) (k := 2) rfl rfl)) (.nil)))) (.cons [(39, .map (some bv)), (41, .int .u32 2), (51, .slice a15 1 c6), (51, .slice a15 1 c6), (39, .map (some bv)), (40, .pointer (some (pe.add 2))), (41, .int .u32 2), (42, .map (some bv)), (43, .pointer (some (pe.add 2))), (44, .int .u32 2), (45, .slice none 0 0), (46, .int .u32 1), (47, .pointer (some (pe.add 1))), (48, iV 3), (49, .agg #[.int .u32 1, iV 3]), (50, .slice a14 1 1), (51, .slice a15 1 c6)] rfl rfl (fun sL hL => ?_) (.nil))
 refine muI (enc := fun v : Value => v) (.slice a15 1 c6) tMR87 rfl rfl rfl (q := 12) rfl ?_
 refine .KA [OwnSl 99 2 a15 1 c6 [.int .u32 1, iV 3], OwnSl 99 2 a14 1 1 [.int .u32 1, iV 3], Box pe [iV 0, iV 3, .int .u32 2], Box pback2 [.int .u32 1, .int .u32 2, .int .u32 1, iV 3], LA .busy none, Box ps2 [.int .u32 1], Box pw [.pointer (some pv3)], Box ps [.int .u32 1], Box pv4 [.slice none 0 0, .map (some bv3), iV 0], OwnMapI bv3 .u32 (fun v : Value => v) ([] : List (Int × Value)), OwnMapI bv2 .u32 (fun v : Value => v) ([(1, iV 1000000000)] : List (Int × Value)), Box pback [.map (some bv)], OwnMapI bv .u32 (fun v : Value => v) ([(2, .slice a15 1 c6)] : List (Int × Value)), MkA (D :: []), OwnSl 62 1 a8 2 c5 [.int .u32 1, .int .u32 2], Box pv [iV 0, iV 0]] ?_
 refine .nil ?_
 refine .jaN (M := [0, 2, 1]) (C' := []) (pre := []) [5, 9, 10] hL rfl rfl rfl rfl rfl (by kernel_rfl) ?_
 refine .last [(39, .map (some bv)), (40, .pointer (some (pe.add 2))), (41, .int .u32 2), (42, .map (some bv)), (43, .pointer (some (pe.add 2))), (44, .int .u32 2), (45, .slice none 0 0), (46, .int .u32 1), (47, .pointer (some (pe.add 1))), (48, iV 3), (49, .agg #[.int .u32 1, iV 3]), (50, .slice a14 1 1), (51, .slice a15 1 c6)] rfl (by kernel_rfl) (.nil) rfl ?_
 refine .blkN ?_
 refine .rdN (k := 4) q44 rfl q46 rfl ?_
 refine .gv (nt rfl) rfl rfl rfl rfl rfl rfl ?_
 refine .V (pkT rfl rfl rfl) ?_
 refine .nil (.seqN ?_)
 refine .cond rfl (fun e => absurd (e.symm.trans rfl) (by decide)) (fun _ => ?_)
 refine .skip (.blkN (.seqN (.region (.V bi0 ?_))))
 refine .V mv0 ?_
 refine .nil ?_
 refine .more ?_
 refine .sub (s' := [(0, .func (.yield l) #[] #[]), (2, .pointer (some ps2)), (9, .slice a7 1 c4), (10, iV 1), (11, iV 1)]) sb ?_
 refine .sel0 [0, 4, 5, 6, 7, 8, 9, 10, 11, 12, 13, 14, 15] (by decide) rfl ?_
 refine .KA [OwnSl 99 2 a15 1 c6 [.int .u32 1, iV 3], LA .ready none, Box ps2 [.int .u32 1], Box pw [.pointer (some pv3)], Box ps [.int .u32 1], Box pv4 [.slice none 0 0, .map (some bv3), iV 0], OwnMapI bv3 .u32 (fun v : Value => v) ([] : List (Int × Value)), OwnMapI bv2 .u32 (fun v : Value => v) ([(1, iV 1000000000)] : List (Int × Value)), Box pback [.map (some bv)], OwnMapI bv .u32 (fun v : Value => v) ([(2, .slice a15 1 c6)] : List (Int × Value)), MkA (D :: []), OwnSl 62 1 a8 2 c5 [.int .u32 1, .int .u32 2], Box pv [iV 0, iV 0]] ?_
 refine .seq (.region (.V bi0 ?_))
 refine .nil (.seqN (.seq ?_))
 refine .cond rfl (fun e => absurd (e.symm.trans rfl) (by decide)) (fun _ => ?_)
 refine .exit (.seqX (.seqX (.blkX ?_)))
 refine .res0 (.inr rfl) rfl (range_done (k := 1) q44 rfl q45 ?_)
 refine .KA [OwnSl 99 2 a15 1 c6 [.int .u32 1, iV 3], tru, Box ps2 [.int .u32 1], Box pw [.pointer (some pv3)], Box ps [.int .u32 1], Box pv4 [.slice none 0 0, .map (some bv3), iV 0], OwnMapI bv3 .u32 (fun v : Value => v) ([] : List (Int × Value)), OwnMapI bv2 .u32 (fun v : Value => v) ([(1, iV 1000000000)] : List (Int × Value)), Box pback [.map (some bv)], OwnMapI bv .u32 (fun v : Value => v) ([(2, .slice a15 1 c6)] : List (Int × Value)), MkA (D :: []), OwnSl 62 1 a8 2 c5 [.int .u32 1, .int .u32 2], Box pv [iV 0, iV 0]] ?_
 refine .blkN (.blkN (.seqN (.region (.V bi0 ?_))))
 refine .V mv0 ?_
 refine .nil ?_
 refine .more ?_
 refine .sub (s' := [(0, .pointer (some pv3)), (5, .pointer (some pback)), (6, .map (some bv2)), (7, .pointer (some pv4)), (19, .slice a8 2 c5), (20, iV 2), (21, iV 1)]) sb ?_
 refine .sel0 [0, 5, 6, 7, 8, 9, 10, 11, 12] (by decide) rfl ?_
 refine .KA [OwnSl 99 2 a15 1 c6 [.int .u32 1, iV 3], Box pv4 [.slice none 0 0, .map (some bv3), iV 0], OwnMapI bv3 .u32 (fun v : Value => v) ([] : List (Int × Value)), OwnMapI bv2 .u32 (fun v : Value => v) ([(1, iV 1000000000)] : List (Int × Value)), Box pback [.map (some bv)], OwnMapI bv .u32 (fun v : Value => v) ([(2, .slice a15 1 c6)] : List (Int × Value)), MkA (D :: []), OwnSl 62 1 a8 2 c5 [.int .u32 1, .int .u32 2], Box pv [iV 0, iV 0]] ?_
 refine .seq (.region (.V bi0 ?_))
 refine .nil (.seqN (.seq ?_))
 refine .cond rfl (fun _ => ?_) (fun e => absurd (e.symm.trans rfl) (by decide))
 refine .skip (.seqN (.seq (.block (.seq (.region (.V (ixS rfl rfl tS57 (k := 7) rfl (And.intro (by decide) (by decide))) ?_))))))
 refine .V (ld1 (v := .int .u32 2) rfl tO62 (cellS (k := 7) rfl rfl)) ?_
 refine al tZ62 rfl (fun ps3 => ?_)
 refine st (p := ps3) (off := 0) (k := 0) (vs := [.int .u32 2]) rfl rfl rfl (fun w => (tO62 w).2) rfl rfl rfl rfl ?_
 refine .nil (.seqN (.seq (.region (.V mv0 ?_))))
 refine .V (ld1 rfl tO62 (cellB (off := 0) (k := 0) rfl rfl)) ?_
 refine muI (enc := fun v : Value => v) (iV 1000000000) tMR60 rfl rfl rfl (q := 4) rfl ?_
 refine .nil (.seqN (.seq (.seq (.region (.V mv0 ?_)))))
 refine .V (ld1 rfl tO62 (cellB (off := 0) (k := 0) rfl rfl)) ?_
 refine .inl Tryz.func46 rfl Tryz.ntmps46 Tryz.call46 rfl rfl rfl rfl (fun a16 q48 => ?_)
 refine .KA [Box ps3 [.int .u32 2], OwnSl 99 2 a15 1 c6 [.int .u32 1, iV 3], Box pv4 [.slice none 0 0, .map (some bv3), iV 0], OwnMapI bv3 .u32 (fun v : Value => v) ([] : List (Int × Value)), OwnMapI bv2 .u32 (fun v : Value => v) ([(1, iV 1000000000), (2, iV 1000000000)] : List (Int × Value)), Box pback [.map (some bv)], OwnMapI bv .u32 (fun v : Value => v) ([(2, .slice a15 1 c6)] : List (Int × Value)), MkA (D :: []), OwnSl 62 1 a8 2 c5 [.int .u32 1, .int .u32 2], Box pv [iV 0, iV 0]] ?_
 refine .seq (.region (.V ag0 ?_))
 refine .nil (.seqN (.seq ?_))
 refine .openA (s0 := [(0, .pointer (some pv3)), (1, .int .u32 2)]) [0, 1, 2, 3, 4, 5, 6, 7, 8, 9, 10, 11] [(0, .int .u32 2), (1, .pointer (some pv3)), (2, .pointer (some pv3)), (3, .pointer (some (pv3.add 1))), (4, .int .u32 2), (5, .int .u32 2), (6, .pointer (some pv3)), (7, .pointer (some pv3)), (8, .pointer (some (pv3.add 1))), (9, .int .u32 2), (10, .bool true), (11, .bool true)] (by kernel_rfl) sb [0, 1] [] rfl (by kernel_rfl) ?_
 refine .last [(5, .int .u32 2), (6, .pointer (some pv3)), (7, .pointer (some pv3)), (8, .pointer (some (pv3.add 1))), (9, .int .u32 2), (10, .int .u32 2), (11, .pointer (some pv3)), (12, .pointer (some pv3)), (13, .pointer (some (pv3.add 1))), (14, .int .u32 2), (15, .bool true), (4, .bool true)] rfl (by kernel_rfl) (.v [] rfl rfl rfl rfl rfl rfl (fun _ => mv rfl) (.v [] rfl rfl rfl rfl rfl rfl (fun _ => mv rfl) (.v [(6, .pointer (some pv3))] rfl rfl rfl rfl rfl rfl (fun _ => nck rfl) (.v [(7, .pointer (some pv3))] rfl rfl rfl rfl rfl rfl (fun _ => fa rfl tF105_1) (.v [(8, .pointer (some (pv3.add 1)))] rfl rfl rfl rfl rfl rfl (fun _ => ld1 (v := .int .u32 2) rfl tO62 (cellH (CellsAt.mono (FH.le_refl _) q35 1 _ rfl))) (.v [(5, .int .u32 2), (9, .int .u32 2)] rfl rfl rfl rfl rfl rfl (fun _ => bi rfl rfl rfl) (.v [] rfl rfl rfl rfl rfl rfl (fun _ => mv rfl) (.v [(11, .pointer (some pv3))] rfl rfl rfl rfl rfl rfl (fun _ => nck rfl) (.v [(12, .pointer (some pv3))] rfl rfl rfl rfl rfl rfl (fun _ => fa rfl tF105_1) (.v [(13, .pointer (some (pv3.add 1)))] rfl rfl rfl rfl rfl rfl (fun _ => ld1 (v := .int .u32 2) rfl tO62 (cellH (CellsAt.mono (FH.le_refl _) q35 1 _ rfl))) (.v [(10, .int .u32 2), (14, .int .u32 2)] rfl rfl rfl rfl rfl rfl (fun _ => bi rfl rfl rfl) (.v [(15, .bool true), (5, .int .u32 2), (6, .pointer (some pv3)), (7, .pointer (some pv3)), (8, .pointer (some (pv3.add 1))), (9, .int .u32 2), (10, .int .u32 2), (11, .pointer (some pv3)), (12, .pointer (some pv3)), (13, .pointer (some (pv3.add 1))), (14, .int .u32 2), (15, .bool true)] rfl rfl rfl rfl rfl rfl (fun _ => asg rfl) (.nil))))))))))))) rfl ?_
 refine .seqN (.ret ?_)
 refine .res1 rfl (rvT rfl) (inl_back (v := .bool true) q48 rfl ?_)
 refine .nil (.seqN ?_)
 refine .cond rfl (fun _ => ?_) (fun e => absurd (e.symm.trans rfl) (by decide))
 refine .seq (.region (.V mv0 ?_))
 refine .V (ld1 rfl tO62 (cellB (off := 0) (k := 0) rfl rfl)) ?_
 refine muI (enc := fun v : Value => v) (iV 0) tMR60 rfl rfl rfl (q := 4) rfl ?_
 refine .nil (.seqN (.region (.V mv0 ?_)))
 refine .V (ld1 rfl tO62 (cellB (off := 0) (k := 0) rfl rfl)) ?_
 refine .inl Tryz.func47 rfl Tryz.ntmps47 Tryz.call47 rfl rfl rfl rfl (fun a17 q49 => ?_)
 refine .KA [Box ps3 [.int .u32 2], OwnSl 99 2 a15 1 c6 [.int .u32 1, iV 3], Box pv4 [.slice none 0 0, .map (some bv3), iV 0], OwnMapI bv3 .u32 (fun v : Value => v) ([] : List (Int × Value)), OwnMapI bv2 .u32 (fun v : Value => v) ([(1, iV 1000000000), (2, iV 0)] : List (Int × Value)), Box pback [.map (some bv)], OwnMapI bv .u32 (fun v : Value => v) ([(2, .slice a15 1 c6)] : List (Int × Value)), MkA (D :: []), OwnSl 62 1 a8 2 c5 [.int .u32 1, .int .u32 2], Box pv [iV 0, iV 0]] ?_
 refine .seq (.region (.V mv0 ?_))
 refine .V (nck rfl) ?_
 refine .V (fa rfl tF157_2) ?_
 refine .V (ld1 rfl tO3 (cellB (off := 2) (k := 2) rfl rfl)) ?_
 refine .V bi0 ?_
 refine .V (nck rfl) ?_
 refine .V (fa rfl tF157_2) ?_
 refine st (p := pv4) (off := 2) (k := 2) (vs := [iV 1]) rfl rfl rfl (fun w => (tO3 w).2) rfl rfl rfl rfl ?_
 refine .nil (.seqN (.seq (.seq (.region (.V mv0 ?_)))))
 refine .V (nck rfl) ?_
 refine .V (fa rfl tF157_1) ?_
 refine .V (ld1 rfl tO153 (cellB (off := 1) (k := 2) rfl rfl)) ?_
 refine .V mv0 ?_
 refine .V (lkI2 (enc := fun v : Value => v) (m := ([] : List (Int × Value))) (k := 2) (.pointer none) tMR153 rfl rfl (q := 3) rfl) ?_
 refine .V mv0 ?_
 refine .V (ext rfl rfl) ?_
 refine .V (ext rfl rfl) ?_
 refine .V ag0 ?_
 refine .V ag0 ?_
 refine .nil (.seqN (.seq (.region (.V mv0 ?_))))
 refine .nil (.seqN ?_)
 refine .cond rfl (fun e => absurd (e.symm.trans rfl) (by decide)) (fun _ => ?_)
 refine .skip (.seqN (.seq (.region (.V mv0 ?_))))
 refine .V mv0 ?_
 refine .V mv0 ?_
 refine .V (nck rfl) ?_
 refine .V (fa rfl tF157_2) ?_
 refine .V (ld1 rfl tO3 (cellB (off := 2) (k := 2) rfl rfl)) ?_
 refine .V (bld (cs := #[.int .u32 2, iV 0, iV 1, iV 0]) (pv := [(0, .int .u32 2), (1, iV 0), (2, iV 1)]) tB161 rfl rfl) ?_
 refine bx (vs := [.int .u32 2, iV 0, iV 1, iV 0]) rfl rfl rfl (fun pv5 => ?_)
 refine .V ag0 ?_
 refine .nil (.seqN (.seq (.region (.V mv0 ?_))))
 refine .V (nck rfl) ?_
 refine .V (fa rfl tF157_1) ?_
 refine .V (ld1 rfl tO153 (cellB (off := 1) (k := 3) rfl rfl)) ?_
 refine .V mv0 ?_
 refine .V mv0 ?_
 refine muI (enc := fun v : Value => v) (.pointer (some pv5)) tMR153 rfl rfl rfl (q := 4) rfl ?_
 refine .nil (.seqN (.region (.V mv0 ?_)))
 refine .V (nck rfl) ?_
 refine .V (fa rfl tF157_0) ?_
 refine .V (mkI tC163 rfl) ?_
 refine .V mv0 ?_
 refine .V (mkI tC158 rfl) ?_
 refine .inl Tryz.func59 rfl Tryz.ntmps59 Tryz.call59 rfl rfl rfl rfl (fun a18 q50 => ?_)
 refine .KA [Box pv5 [.int .u32 2, iV 0, iV 1, iV 0], Box ps3 [.int .u32 2], OwnSl 99 2 a15 1 c6 [.int .u32 1, iV 3], Box pv4 [.slice none 0 0, .map (some bv3), iV 1], OwnMapI bv3 .u32 (fun v : Value => v) ([(2, .pointer (some pv5))] : List (Int × Value)), OwnMapI bv2 .u32 (fun v : Value => v) ([(1, iV 1000000000), (2, iV 0)] : List (Int × Value)), Box pback [.map (some bv)], OwnMapI bv .u32 (fun v : Value => v) ([(2, .slice a15 1 c6)] : List (Int × Value)), MkA (D :: []), OwnSl 62 1 a8 2 c5 [.int .u32 1, .int .u32 2], Box pv [iV 0, iV 0]] ?_
 refine .seq (.region (.V mv0 ?_))
 refine .V mv0 ?_
 refine .inlI Tryz.func164 rfl Tryz.ntmps164 Tryz.call164 tm163_Push rfl rfl rfl (fun a19 q51 => ?_)
 refine .KA [Box pv5 [.int .u32 2, iV 0, iV 1, iV 0], Box ps3 [.int .u32 2], OwnSl 99 2 a15 1 c6 [.int .u32 1, iV 3], Box pv4 [.slice none 0 0, .map (some bv3), iV 1], OwnMapI bv3 .u32 (fun v : Value => v) ([(2, .pointer (some pv5))] : List (Int × Value)), OwnMapI bv2 .u32 (fun v : Value => v) ([(1, iV 1000000000), (2, iV 0)] : List (Int × Value)), Box pback [.map (some bv)], OwnMapI bv .u32 (fun v : Value => v) ([(2, .slice a15 1 c6)] : List (Int × Value)), MkA (D :: []), OwnSl 62 1 a8 2 c5 [.int .u32 1, .int .u32 2], Box pv [iV 0, iV 0]] ?_
 refine .seq (.region (.V mv0 ?_))
 refine .V (tas tC158 rfl) ?_
 refine .V ag0 ?_
 refine .nil (.seqN (.seq (.region (.V mv0 ?_))))
 refine .V mv0 ?_
 refine .V (nck rfl) ?_
 refine .V (ld1 rfl tO155 (cellB (off := 0) (k := 3) rfl rfl)) ?_
 refine .V (ln rfl tS155.is) ?_
 refine .V (nck rfl) ?_
 refine .V (fa rfl tF161_3) ?_
 refine st (p := pv5) (off := 3) (k := 0) (vs := [iV 0]) rfl rfl rfl (fun w => (tO3 w).2) rfl rfl rfl rfl ?_
 refine .nil (.seqN (.region (.V mv0 ?_)))
 refine .V mv0 ?_
 refine .V (nck rfl) ?_
 refine .V (ld1 rfl tO155 (cellB (off := 0) (k := 3) rfl rfl)) ?_
 refine .V mv0 ?_
 refine bs2 (cs := #[.pointer (some pv5)]) (pv := [(0, .pointer (some pv5))]) tS155 rfl rfl (by decide) (by decide) rfl rfl rfl (fun a20 q52 => ?_)
 refine .nilSl 158 1 ?_
 refine app (k := 0) (news := [.pointer (some pv5)]) (cs' := [.pointer (some pv5)]) (nm := 1) tS155 rfl (by decide) rfl rfl rfl rfl (srcS (k := 1) rfl) (oneAll rfl) (by decide) (by decide) rfl rfl rfl (fun a21 c7 => ?_)
 refine .V (nck rfl) ?_
 refine st (p := pv4) (off := 0) (k := 5) (vs := [.slice a21 1 c7]) rfl rfl rfl (fun w => (tO155 w).2) rfl rfl rfl rfl ?_
 refine .nil ?_
 refine .res0 (.inr rfl) rfl (inl_back (v := .tuple #[]) q51 rfl ?_)
 refine .nil (.seqN (.region (.V mv0 ?_)))
 refine .V mv0 ?_
 refine .inlV Tryz.func160 rfl Tryz.ntmps160 Tryz.call160 tm163_Len rfl (cellB (off := 0) (k := 5) rfl rfl) rfl rfl (fun a22 q53 => ?_)
 refine .sel0 [0, 2, 3, 4, 5, 6, 7, 8, 9, 10, 11, 12] (by decide) rfl ?_
 refine .KA [OwnSl 158 1 a21 1 c7 [.pointer (some pv5)], Box pv5 [.int .u32 2, iV 0, iV 1, iV 0], Box ps3 [.int .u32 2], OwnSl 99 2 a15 1 c6 [.int .u32 1, iV 3], Box pv4 [.slice a21 1 c7, .map (some bv3), iV 1], OwnMapI bv3 .u32 (fun v : Value => v) ([(2, .pointer (some pv5))] : List (Int × Value)), OwnMapI bv2 .u32 (fun v : Value => v) ([(1, iV 1000000000), (2, iV 0)] : List (Int × Value)), Box pback [.map (some bv)], OwnMapI bv .u32 (fun v : Value => v) ([(2, .slice a15 1 c6)] : List (Int × Value)), MkA (D :: []), OwnSl 62 1 a8 2 c5 [.int .u32 1, .int .u32 2], Box pv [iV 0, iV 0]] ?_
 refine .seq (.region (.V ag0 ?_))
 refine .nil (.seqN (.seq (.region (.V mv0 ?_))))
 refine .V (ln rfl tS155.is) ?_
 refine .V ag0 ?_
 refine .nil (.seqN (.ret ?_))
 refine .res1 rfl (rvT rfl) (inl_back (v := iV 1) q53 rfl ?_)
 refine .V bi0 ?_
 refine .inl Tryz.func93 rfl Tryz.ntmps93 Tryz.call93 rfl rfl rfl rfl (fun a23 q54 => ?_)
 refine .KA [OwnSl 158 1 a21 1 c7 [.pointer (some pv5)], Box pv5 [.int .u32 2, iV 0, iV 1, iV 0], Box ps3 [.int .u32 2], OwnSl 99 2 a15 1 c6 [.int .u32 1, iV 3], Box pv4 [.slice a21 1 c7, .map (some bv3), iV 1], OwnMapI bv3 .u32 (fun v : Value => v) ([(2, .pointer (some pv5))] : List (Int × Value)), OwnMapI bv2 .u32 (fun v : Value => v) ([(1, iV 1000000000), (2, iV 0)] : List (Int × Value)), Box pback [.map (some bv)], OwnMapI bv .u32 (fun v : Value => v) ([(2, .slice a15 1 c6)] : List (Int × Value)), MkA (D :: []), OwnSl 62 1 a8 2 c5 [.int .u32 1, .int .u32 2], Box pv [iV 0, iV 0]] ?_
 refine .block ?_
 refine .rounds 90 ?_
 refine .block (.seq (.region (.V mv0 ?_)))
 refine .V bi0 ?_
 refine .V (bq rfl rfl (by decide)) ?_
 refine .V ag0 ?_
 refine .nil (.seqN (.seq (.seq (.region (.V mv0 ?_)))))
 refine .V mv0 ?_
 refine .V bi0 ?_
 refine .V mv0 ?_
 refine .gS rfl rfl rfl rfl rfl rfl ?_
 refine .gS rfl rfl rfl rfl rfl rfl ?_
 refine .gS rfl rfl rfl rfl rfl rfl ?_
 refine .gS rfl rfl rfl rfl rfl rfl ?_
 refine .gS rfl rfl rfl rfl rfl rfl ?_
 refine .V (pkT rfl rfl rfl) ?_
 refine .nil (.seqN ?_)
 refine .cond rfl (fun _ => ?_) (fun e => absurd (e.symm.trans rfl) (by decide))
 refine .exit (.seqX ?_)
 refine .blkY rfl ?_
 refine .seqX (.blkX ?_)
 refine .res0 (.inr rfl) rfl (inl_back (v := .tuple #[]) q54 rfl ?_)
 refine .nil ?_
 refine .res0 (.inr rfl) rfl (inl_back (v := .tuple #[]) q50 rfl ?_)
 refine .nil ?_
 refine .res0 (.inr rfl) rfl (inl_back (v := .tuple #[]) q49 rfl ?_)
 refine .nil (.seqN (.seq (.region (.V mv0 ?_))))
 refine .V (ld1 rfl tO62 (cellB (off := 0) (k := 2) rfl rfl)) ?_
 refine .inl Tryz.func48 rfl Tryz.ntmps48 Tryz.call48 rfl rfl rfl rfl (fun a24 q55 => ?_)
 refine .KA [OwnSl 158 1 a21 1 c7 [.pointer (some pv5)], Box pv5 [.int .u32 2, iV 0, iV 1, iV 0], Box ps3 [.int .u32 2], OwnSl 99 2 a15 1 c6 [.int .u32 1, iV 3], Box pv4 [.slice a21 1 c7, .map (some bv3), iV 1], OwnMapI bv3 .u32 (fun v : Value => v) ([(2, .pointer (some pv5))] : List (Int × Value)), OwnMapI bv2 .u32 (fun v : Value => v) ([(1, iV 1000000000), (2, iV 0)] : List (Int × Value)), Box pback [.map (some bv)], OwnMapI bv .u32 (fun v : Value => v) ([(2, .slice a15 1 c6)] : List (Int × Value)), MkA (D :: []), OwnSl 62 1 a8 2 c5 [.int .u32 1, .int .u32 2], Box pv [iV 0, iV 0]] ?_
 refine .seq (.region ?_)
 refine bx (vs := [.pointer (some pv3)]) rfl rfl rfl (fun pw2 => ?_)
 refine bx (vs := [.int .u32 2]) rfl rfl rfl (fun ps4 => ?_)
 refine .V ag0 ?_
 refine .nil (.seqN (.seq (.region (.V (mkf (vf := []) (vc := [.pointer (some pw2), .pointer (some ps4)]) rfl rfl) ?_))))
 refine .V ag0 ?_
 refine .nil (.seqN (.ret ?_))
 refine .res1 rfl (rvT rfl) (inl_back (v := .func (.func 80) #[] #[.pointer (some pw2), .pointer (some ps4)]) q55 rfl ?_)
 refine .nil (.seqN (.block ?_))
 refine .sub (s' := [(0, .pointer (some pv3)), (5, .pointer (some pback)), (6, .map (some bv2)), (7, .pointer (some pv4)), (9, .pointer (some ps3)), (19, .slice a8 2 c5), (20, iV 2), (21, iV 1), (37, .func (.func 80) #[] #[.pointer (some pw2), .pointer (some ps4)])]) sb ?_
 refine .rangeF (k := 11) (caps := [.pointer (some pw2), .pointer (some ps4)]) rfl rfl Tryz.func80 rfl Tryz.ntmps80 rfl Tryz.call80 (fun l2 D2 LA2 a25 q56 q57 => ?_)
 refine .KA [LA2 .ready none, Box ps4 [.int .u32 2], Box pw2 [.pointer (some pv3)], OwnSl 158 1 a21 1 c7 [.pointer (some pv5)], Box pv5 [.int .u32 2, iV 0, iV 1, iV 0], Box ps3 [.int .u32 2], OwnSl 99 2 a15 1 c6 [.int .u32 1, iV 3], Box pv4 [.slice a21 1 c7, .map (some bv3), iV 1], OwnMapI bv3 .u32 (fun v : Value => v) ([(2, .pointer (some pv5))] : List (Int × Value)), OwnMapI bv2 .u32 (fun v : Value => v) ([(1, iV 1000000000), (2, iV 0)] : List (Int × Value)), Box pback [.map (some bv)], OwnMapI bv .u32 (fun v : Value => v) ([(2, .slice a15 1 c6)] : List (Int × Value)), MkA (D2 :: D :: []), OwnSl 62 1 a8 2 c5 [.int .u32 1, .int .u32 2], Box pv [iV 0, iV 0]] ?_
 refine .seq (.region (.V (ld1 rfl tO56 (cellB (off := 0) (k := 2) rfl rfl)) ?_))
 refine .V (nck rfl) ?_
 refine .V (fa rfl tF105_2) ?_
 refine .V (ld1 (v := .slice a7 1 c4) rfl tO103 (cellH (CellsAt.mono (FH.le_refl _) q35 2 _ rfl))) ?_
 refine .V (ln rfl tS103.is) ?_
 refine .V mv0 ?_
 refine .nil (.seqN (.block ?_))
 refine .rounds 90 ?_
 refine .seq (.region (.V bi0 ?_))
 refine .nil (.seqN (.seq ?_))
 refine .cond rfl (fun _ => ?_) (fun e => absurd (e.symm.trans rfl) (by decide))
 refine .skip (.seqN (.seq (.block (.seq (.region (.V mv0 ?_))))))
 refine .V (ix rfl rfl tS103 (q34.ne (by decide) (inb_pos (show inb ([(⟨1, 2, 1, 3⟩ : Masks)] : List Masks) (0 : Int) from And.intro (by decide) (by decide)))) (show inb ([(⟨1, 2, 1, 3⟩ : Masks)] : List Masks) (0 : Int) from And.intro (by decide) (by decide))) ?_
 refine .V (ldA (cs := [.int .u32 1, .int .u32 2, .int .u32 1, iV 3]) rfl tA144 rfl (cellsH ((q34.mono (le2)).elemF (show inb ([(⟨1, 2, 1, 3⟩ : Masks)] : List Masks) (0 : Int) from And.intro (by decide) (by decide)) (by decide)))) ?_
 refine al tZ144 rfl (fun pback3 => ?_)
 refine .V ag0 ?_
 refine st (p := pback3) (off := 0) (k := 0) (vs := [.int .u32 1, .int .u32 2, .int .u32 1, iV 3]) rfl rfl rfl (fun w => (tA144 w).2) rfl rfl rfl rfl ?_
 refine .nil (.seqN (.seq (.region (.V (ld1 rfl tO62 (cellB (off := 0) (k := 2) rfl rfl)) ?_))))
 refine .V (fa rfl tF144_0) ?_
 refine .V (ld1 rfl tO62 (cellB (off := 0) (k := 0) rfl rfl)) ?_
 refine .V bi0 ?_
 refine .V (fa rfl tF144_0) ?_
 refine .V (ld1 rfl tO62 (cellB (off := 0) (k := 0) rfl rfl)) ?_
 refine .V bi0 ?_
 refine .V mv0 ?_
 refine .gS rfl rfl rfl rfl rfl rfl ?_
 refine .gS rfl rfl rfl rfl rfl rfl ?_
 refine .gS rfl rfl rfl rfl rfl rfl ?_
 refine .gS rfl rfl rfl rfl rfl rfl ?_
 refine .gS rfl rfl rfl rfl rfl rfl ?_
 refine .gS rfl rfl rfl rfl rfl rfl ?_
 refine .gS rfl rfl rfl rfl rfl rfl ?_
 refine .gS rfl rfl rfl rfl rfl rfl ?_
 refine .gS rfl rfl rfl rfl rfl rfl ?_
 refine .gS rfl rfl rfl rfl rfl rfl ?_
 refine .gS rfl rfl rfl rfl rfl rfl ?_
 refine .gS rfl rfl rfl rfl rfl rfl ?_
 refine .gS rfl rfl rfl rfl rfl rfl ?_
 refine .gS rfl rfl rfl rfl rfl rfl ?_
 refine .V (pkF rfl rfl rfl) ?_
 refine .nil (.seqN ?_)
 refine .cond rfl (fun e => absurd (e.symm.trans rfl) (by decide)) (fun _ => ?_)
 refine .skip (.blkN (.seqN (.region (.V bi0 ?_))))
 refine .V mv0 ?_
 refine .nil ?_
 refine .more ?_
 refine .sub (s' := [(0, .func (.yield l2) #[] #[]), (2, .pointer (some ps4)), (9, .slice a7 1 c4), (10, iV 1), (11, iV 1)]) sb ?_
 refine .sel0 [1, 2, 3, 4, 5, 6, 7, 8, 9, 10, 11, 12, 13, 14, 15] (by decide) rfl ?_
 refine .KA [LA2 .ready none, Box ps4 [.int .u32 2], Box pw2 [.pointer (some pv3)], OwnSl 158 1 a21 1 c7 [.pointer (some pv5)], Box pv5 [.int .u32 2, iV 0, iV 1, iV 0], Box ps3 [.int .u32 2], OwnSl 99 2 a15 1 c6 [.int .u32 1, iV 3], Box pv4 [.slice a21 1 c7, .map (some bv3), iV 1], OwnMapI bv3 .u32 (fun v : Value => v) ([(2, .pointer (some pv5))] : List (Int × Value)), OwnMapI bv2 .u32 (fun v : Value => v) ([(1, iV 1000000000), (2, iV 0)] : List (Int × Value)), Box pback [.map (some bv)], OwnMapI bv .u32 (fun v : Value => v) ([(2, .slice a15 1 c6)] : List (Int × Value)), MkA (D2 :: D :: []), OwnSl 62 1 a8 2 c5 [.int .u32 1, .int .u32 2], Box pv [iV 0, iV 0]] ?_
 refine .seq (.region (.V bi0 ?_))
 refine .nil (.seqN (.seq ?_))
 refine .cond rfl (fun e => absurd (e.symm.trans rfl) (by decide)) (fun _ => ?_)
 refine .exit (.seqX (.seqX (.blkX ?_)))
 refine .res0 (.inr rfl) rfl (range_done (k := 0) q56 rfl q57 ?_)
 refine .KA [tru, Box ps4 [.int .u32 2], Box pw2 [.pointer (some pv3)], OwnSl 158 1 a21 1 c7 [.pointer (some pv5)], Box pv5 [.int .u32 2, iV 0, iV 1, iV 0], Box ps3 [.int .u32 2], OwnSl 99 2 a15 1 c6 [.int .u32 1, iV 3], Box pv4 [.slice a21 1 c7, .map (some bv3), iV 1], OwnMapI bv3 .u32 (fun v : Value => v) ([(2, .pointer (some pv5))] : List (Int × Value)), OwnMapI bv2 .u32 (fun v : Value => v) ([(1, iV 1000000000), (2, iV 0)] : List (Int × Value)), Box pback [.map (some bv)], OwnMapI bv .u32 (fun v : Value => v) ([(2, .slice a15 1 c6)] : List (Int × Value)), MkA (D2 :: D :: []), OwnSl 62 1 a8 2 c5 [.int .u32 1, .int .u32 2], Box pv [iV 0, iV 0]] ?_
 refine .blkN (.blkN (.seqN (.region (.V bi0 ?_))))
 refine .V mv0 ?_
 refine .nil ?_
 refine .more ?_
 refine .sub (s' := [(0, .pointer (some pv3)), (5, .pointer (some pback)), (6, .map (some bv2)), (7, .pointer (some pv4)), (19, .slice a8 2 c5), (20, iV 2), (21, iV 2)]) sb ?_
 refine .sel0 [3, 4, 6, 7, 8, 9, 10, 11, 12, 13, 14] (by decide) rfl ?_
 refine .KA [OwnSl 158 1 a21 1 c7 [.pointer (some pv5)], Box pv5 [.int .u32 2, iV 0, iV 1, iV 0], OwnSl 99 2 a15 1 c6 [.int .u32 1, iV 3], Box pv4 [.slice a21 1 c7, .map (some bv3), iV 1], OwnMapI bv3 .u32 (fun v : Value => v) ([(2, .pointer (some pv5))] : List (Int × Value)), OwnMapI bv2 .u32 (fun v : Value => v) ([(1, iV 1000000000), (2, iV 0)] : List (Int × Value)), Box pback [.map (some bv)], OwnMapI bv .u32 (fun v : Value => v) ([(2, .slice a15 1 c6)] : List (Int × Value)), MkA (D2 :: D :: []), OwnSl 62 1 a8 2 c5 [.int .u32 1, .int .u32 2], Box pv [iV 0, iV 0]] ?_
 refine .seq (.region (.V bi0 ?_))
 refine .nil (.seqN (.seq ?_))
 refine .cond rfl (fun e => absurd (e.symm.trans rfl) (by decide)) (fun _ => ?_)
 refine .exit (.seqX (.seqX (.blkX (.seqN (.seq (.block ?_))))))
 refine .rounds 90 ?_
 refine .seq (.seq (.region (.V mv0 ?_)))
 refine .inl Tryz.func49 rfl Tryz.ntmps49 Tryz.call49 rfl rfl rfl rfl (fun a26 q58 => ?_)
 refine .sel0 [0, 1, 2, 3, 4, 5, 6, 7, 8, 10] (by decide) rfl ?_
 refine .KA [OwnSl 158 1 a21 1 c7 [.pointer (some pv5)], Box pv5 [.int .u32 2, iV 0, iV 1, iV 0], OwnSl 99 2 a15 1 c6 [.int .u32 1, iV 3], Box pv4 [.slice a21 1 c7, .map (some bv3), iV 1], OwnMapI bv3 .u32 (fun v : Value => v) ([(2, .pointer (some pv5))] : List (Int × Value)), OwnMapI bv2 .u32 (fun v : Value => v) ([(1, iV 1000000000), (2, iV 0)] : List (Int × Value)), Box pback [.map (some bv)], OwnMapI bv .u32 (fun v : Value => v) ([(2, .slice a15 1 c6)] : List (Int × Value)), MkA (D2 :: D :: []), Box pv [iV 0, iV 0]] ?_
 refine .seq (.region (.V ag0 ?_))
 refine .nil (.seqN (.seq (.region (.V mv0 ?_))))
 refine .V (nck rfl) ?_
 refine .V (fa rfl tF157_0) ?_
 refine .V (ld1 rfl tO155 (cellB (off := 0) (k := 3) rfl rfl)) ?_
 refine .V (ln rfl tS155.is) ?_
 refine .V ag0 ?_
 refine .nil (.seqN (.ret ?_))
 refine .res1 rfl (rvT rfl) (inl_back (v := iV 1) q58 rfl ?_)
 refine .V bi0 ?_
 refine .nil (.seqN ?_)
 refine .cond rfl (fun _ => ?_) (fun e => absurd (e.symm.trans rfl) (by decide))
 refine .skip (.seqN (.block (.seq (.region (.V mv0 ?_)))))
 refine .inl Tryz.func50 rfl Tryz.ntmps50 Tryz.call50 rfl rfl rfl rfl (fun a27 q59 => ?_)
 refine .KA [OwnSl 158 1 a21 1 c7 [.pointer (some pv5)], Box pv5 [.int .u32 2, iV 0, iV 1, iV 0], OwnSl 99 2 a15 1 c6 [.int .u32 1, iV 3], Box pv4 [.slice a21 1 c7, .map (some bv3), iV 1], OwnMapI bv3 .u32 (fun v : Value => v) ([(2, .pointer (some pv5))] : List (Int × Value)), OwnMapI bv2 .u32 (fun v : Value => v) ([(1, iV 1000000000), (2, iV 0)] : List (Int × Value)), Box pback [.map (some bv)], OwnMapI bv .u32 (fun v : Value => v) ([(2, .slice a15 1 c6)] : List (Int × Value)), MkA (D2 :: D :: []), Box pv [iV 0, iV 0]] ?_
 refine .seq (.region (.V ag0 ?_))
 refine .V ag0 ?_
 refine .V ag0 ?_
 refine .nil (.seqN (.seq (.seq (.region (.V mv0 ?_)))))
 refine .V (nck rfl) ?_
 refine .V (fa rfl tF157_0) ?_
 refine .V (ld1 rfl tO155 (cellB (off := 0) (k := 3) rfl rfl)) ?_
 refine .V (ln rfl tS155.is) ?_
 refine .V bi0 ?_
 refine .nil (.seqN ?_)
 refine .cond rfl (fun e => absurd (e.symm.trans rfl) (by decide)) (fun _ => ?_)
 refine .skip (.seqN (.seq (.region (.V mv0 ?_))))
 refine .V (nck rfl) ?_
 refine .V (fa rfl tF157_0) ?_
 refine .V (mkI tC163 rfl) ?_
 refine .inl Tryz.func54 rfl Tryz.ntmps54 Tryz.call54 rfl rfl rfl rfl (fun a28 q60 => ?_)
 refine .KA [OwnSl 158 1 a21 1 c7 [.pointer (some pv5)], Box pv5 [.int .u32 2, iV 0, iV 1, iV 0], OwnSl 99 2 a15 1 c6 [.int .u32 1, iV 3], Box pv4 [.slice a21 1 c7, .map (some bv3), iV 1], OwnMapI bv3 .u32 (fun v : Value => v) ([(2, .pointer (some pv5))] : List (Int × Value)), OwnMapI bv2 .u32 (fun v : Value => v) ([(1, iV 1000000000), (2, iV 0)] : List (Int × Value)), Box pback [.map (some bv)], OwnMapI bv .u32 (fun v : Value => v) ([(2, .slice a15 1 c6)] : List (Int × Value)), MkA (D2 :: D :: []), Box pv [iV 0, iV 0]] ?_
 refine .seq (.region (.V ag0 ?_))
 refine .nil (.seqN (.seq (.region (.V mv0 ?_))))
 refine .inlV Tryz.func160 rfl Tryz.ntmps160 Tryz.call160 tm163_Len rfl (cellB (off := 0) (k := 3) rfl rfl) rfl rfl (fun a29 q61 => ?_)
 refine .KA [OwnSl 158 1 a21 1 c7 [.pointer (some pv5)], Box pv5 [.int .u32 2, iV 0, iV 1, iV 0], OwnSl 99 2 a15 1 c6 [.int .u32 1, iV 3], Box pv4 [.slice a21 1 c7, .map (some bv3), iV 1], OwnMapI bv3 .u32 (fun v : Value => v) ([(2, .pointer (some pv5))] : List (Int × Value)), OwnMapI bv2 .u32 (fun v : Value => v) ([(1, iV 1000000000), (2, iV 0)] : List (Int × Value)), Box pback [.map (some bv)], OwnMapI bv .u32 (fun v : Value => v) ([(2, .slice a15 1 c6)] : List (Int × Value)), MkA (D2 :: D :: []), Box pv [iV 0, iV 0]] ?_
 refine .seq (.region (.V ag0 ?_))
 refine .nil (.seqN (.seq (.region (.V mv0 ?_))))
 refine .V (ln rfl tS155.is) ?_
 refine .V ag0 ?_
 refine .nil (.seqN (.ret ?_))
 refine .res1 rfl (rvT rfl) (inl_back (v := iV 1) q61 rfl ?_)
 refine .V bi0 ?_
 refine .V ag0 ?_
 refine .nil (.seqN (.seq (.region (.V mv0 ?_))))
 refine .V mv0 ?_
 refine .inlV Tryz.func162 rfl Tryz.ntmps162 Tryz.call162 tm163_Swap rfl (cellB (off := 0) (k := 3) rfl rfl) rfl rfl (fun a30 q62 => ?_)
 refine .KA [OwnSl 158 1 a21 1 c7 [.pointer (some pv5)], Box pv5 [.int .u32 2, iV 0, iV 1, iV 0], OwnSl 99 2 a15 1 c6 [.int .u32 1, iV 3], Box pv4 [.slice a21 1 c7, .map (some bv3), iV 1], OwnMapI bv3 .u32 (fun v : Value => v) ([(2, .pointer (some pv5))] : List (Int × Value)), OwnMapI bv2 .u32 (fun v : Value => v) ([(1, iV 1000000000), (2, iV 0)] : List (Int × Value)), Box pback [.map (some bv)], OwnMapI bv .u32 (fun v : Value => v) ([(2, .slice a15 1 c6)] : List (Int × Value)), MkA (D2 :: D :: []), Box pv [iV 0, iV 0]] ?_
 refine .seq ?_
 refine .openA (s0 := [(0, .slice a21 1 c7), (1, iV 0), (2, iV 0)]) [0, 1, 2, 3, 4, 5, 6, 7, 8, 9, 10, 11, 12] [(0, .slice a21 1 c7), (1, iV 0), (2, .slice a21 1 c7), (3, iV 0), (4, .slice a21 1 c7), (5, iV 0), (6, .pointer (some (ead a21 ((0 : Int).toNat * 1)))), (7, .pointer (some pv5)), (8, .slice a21 1 c7), (9, iV 0), (10, .pointer (some (ead a21 ((0 : Int).toNat * 1)))), (11, .pointer (some pv5)), (12, .pointer (some (ead a21 ((0 : Int).toNat * 1))))] (by kernel_rfl) sb [0, 1, 2] [] rfl (by kernel_rfl) ?_
 refine .step [13] 13 rfl (by kernel_rfl) (by kernel_rfl) (.v [] rfl rfl rfl rfl rfl rfl (fun _ => mv rfl) (.v [] rfl rfl rfl rfl rfl rfl (fun _ => mv rfl) (.v [] rfl rfl rfl rfl rfl rfl (fun _ => mv rfl) (.v [] rfl rfl rfl rfl rfl rfl (fun _ => mv rfl) (.v [] rfl rfl rfl rfl rfl rfl (fun _ => mv rfl) (.v [] rfl rfl rfl rfl rfl rfl (fun _ => mv rfl) (.v [(10, .slice a21 1 c7), (11, iV 0)] rfl rfl rfl rfl rfl rfl (fun _ => ixS rfl rfl tS155 (k := 0) rfl (And.intro (by decide) (by decide))) (.v [(12, .pointer (some (ead a21 ((0 : Int).toNat * 1))))] rfl rfl rfl rfl rfl rfl (fun _ => ld1 (v := .pointer (some pv5)) rfl tO158 (cellS (k := 0) rfl rfl)) (.v [] rfl rfl rfl rfl rfl rfl (fun _ => mv rfl) (.v [] rfl rfl rfl rfl rfl rfl (fun _ => mv rfl) (.v [(14, .slice a21 1 c7), (15, iV 0)] rfl rfl rfl rfl rfl rfl (fun _ => ixS rfl rfl tS155 (k := 0) rfl (And.intro (by decide) (by decide))) (.v [(16, .pointer (some (ead a21 ((0 : Int).toNat * 1))))] rfl rfl rfl rfl rfl rfl (fun _ => ld1 (v := .pointer (some pv5)) rfl tO158 (cellS (k := 0) rfl rfl)) (.v [(6, .slice a21 1 c7), (7, iV 0), (6, .slice a21 1 c7), (7, iV 0), (10, .slice a21 1 c7), (11, iV 0), (12, .pointer (some (ead a21 ((0 : Int).toNat * 1)))), (13, .pointer (some pv5)), (17, .pointer (some pv5))] rfl rfl rfl rfl rfl rfl (fun _ => ixS rfl rfl tS155 (k := 0) rfl (And.intro (by decide) (by decide))) (.nil)))))))))))))) (.cons [(18, .pointer (some (ead a21 ((0 : Int).toNat * 1)))), (13, .pointer (some pv5)), (6, .slice a21 1 c7), (7, iV 0), (10, .slice a21 1 c7), (11, iV 0), (12, .pointer (some (ead a21 ((0 : Int).toNat * 1)))), (13, .pointer (some pv5)), (17, .pointer (some pv5))] rfl rfl (fun sL hL => ?_) (.nil))
 refine stS (k := 0) (cs' := [.pointer (some pv5)]) rfl (fun _ => rfl) rfl rfl (fun w => (tO158 w).2) rfl rfl rfl (by decide) (Nat.le_of_ble_eq_true rfl) rfl ?_
 refine .nil ?_
 refine .jaN (M := [12, 7, 0, 1, 4, 5, 6, 11, 10, 8, 9]) (C' := [2, 3, 14]) (pre := [(14, .pointer (some (ead a21 ((0 : Int).toNat * 1))))]) [0, 1, 2] hL rfl rfl rfl rfl rfl (by kernel_rfl) ?_
 refine .step [15] 15 rfl (by kernel_rfl) (by kernel_rfl) (.v [] rfl rfl rfl rfl rfl rfl (fun _ => mv rfl) (.v [] rfl rfl rfl rfl rfl rfl (fun _ => mv rfl) (.v [(8, .slice a21 1 c7), (9, iV 0), (6, .slice a21 1 c7), (7, iV 0), (8, .slice a21 1 c7), (9, iV 0), (10, .slice a21 1 c7), (11, iV 0), (12, .pointer (some (ead a21 ((0 : Int).toNat * 1)))), (13, .pointer (some pv5)), (14, .slice a21 1 c7), (15, iV 0), (16, .pointer (some (ead a21 ((0 : Int).toNat * 1)))), (17, .pointer (some pv5)), (18, .pointer (some (ead a21 ((0 : Int).toNat * 1))))] rfl rfl rfl rfl rfl rfl (fun _ => ixS rfl rfl tS155 (k := 0) rfl (And.intro (by decide) (by decide))) (.nil)))) (.cons [(19, .pointer (some (ead a21 ((0 : Int).toNat * 1)))), (17, .pointer (some pv5)), (6, .slice a21 1 c7), (7, iV 0), (8, .slice a21 1 c7), (9, iV 0), (10, .slice a21 1 c7), (11, iV 0), (12, .pointer (some (ead a21 ((0 : Int).toNat * 1)))), (13, .pointer (some pv5)), (14, .slice a21 1 c7), (15, iV 0), (16, .pointer (some (ead a21 ((0 : Int).toNat * 1)))), (17, .pointer (some pv5)), (18, .pointer (some (ead a21 ((0 : Int).toNat * 1))))] rfl rfl (fun sL hL => ?_) (.nil))
 refine stS (k := 0) (cs' := [.pointer (some pv5)]) rfl (fun _ => rfl) rfl rfl (fun w => (tO158 w).2) rfl rfl rfl (by decide) (Nat.le_of_ble_eq_true rfl) rfl ?_
 refine .nil ?_
 refine .jaN (M := [14, 2, 3]) (C' := []) (pre := []) [0, 1, 2] hL rfl rfl rfl rfl rfl (by kernel_rfl) ?_
 refine .last [(6, .slice a21 1 c7), (7, iV 0), (8, .slice a21 1 c7), (9, iV 0), (10, .slice a21 1 c7), (11, iV 0), (12, .pointer (some (ead a21 ((0 : Int).toNat * 1)))), (13, .pointer (some pv5)), (14, .slice a21 1 c7), (15, iV 0), (16, .pointer (some (ead a21 ((0 : Int).toNat * 1)))), (17, .pointer (some pv5)), (18, .pointer (some (ead a21 ((0 : Int).toNat * 1)))), (19, .pointer (some (ead a21 ((0 : Int).toNat * 1))))] rfl (by kernel_rfl) (.nil) rfl ?_
 refine .seqN ?_
 refine .openA (s0 := [(0, .slice a21 1 c7), (1, iV 0), (2, iV 0)]) [0, 1, 2, 3, 4, 5, 6, 7, 8, 9, 10, 11] [(0, .slice a21 1 c7), (1, iV 0), (2, .pointer (some (ead a21 ((0 : Int).toNat * 1)))), (3, .pointer (some pv5)), (4, .slice a21 1 c7), (5, iV 0), (6, .pointer (some (ead a21 ((0 : Int).toNat * 1)))), (7, .pointer (some pv5)), (8, iV 0), (9, iV 0), (10, .pointer (some pv5)), (11, .pointer (some (pv5.add 3)))] (by kernel_rfl) sb [0, 1, 2] [] rfl (by kernel_rfl) ?_
 refine .step [12] 12 rfl (by kernel_rfl) (by kernel_rfl) (.v [] rfl rfl rfl rfl rfl rfl (fun _ => mv rfl) (.v [] rfl rfl rfl rfl rfl rfl (fun _ => mv rfl) (.v [(20, .slice a21 1 c7), (21, iV 0)] rfl rfl rfl rfl rfl rfl (fun _ => ixS rfl rfl tS155 (k := 0) rfl (And.intro (by decide) (by decide))) (.v [(22, .pointer (some (ead a21 ((0 : Int).toNat * 1))))] rfl rfl rfl rfl rfl rfl (fun _ => ld1 (v := .pointer (some pv5)) rfl tO158 (cellS (k := 0) rfl rfl)) (.v [] rfl rfl rfl rfl rfl rfl (fun _ => mv rfl) (.v [] rfl rfl rfl rfl rfl rfl (fun _ => mv rfl) (.v [(24, .slice a21 1 c7), (25, iV 0)] rfl rfl rfl rfl rfl rfl (fun _ => ixS rfl rfl tS155 (k := 0) rfl (And.intro (by decide) (by decide))) (.v [(26, .pointer (some (ead a21 ((0 : Int).toNat * 1))))] rfl rfl rfl rfl rfl rfl (fun _ => ld1 (v := .pointer (some pv5)) rfl tO158 (cellS (k := 0) rfl rfl)) (.v [] rfl rfl rfl rfl rfl rfl (fun _ => mv rfl) (.v [] rfl rfl rfl rfl rfl rfl (fun _ => mv rfl) (.v [(23, .pointer (some pv5)), (20, .slice a21 1 c7), (21, iV 0), (22, .pointer (some (ead a21 ((0 : Int).toNat * 1)))), (23, .pointer (some pv5)), (27, .pointer (some pv5)), (28, iV 0)] rfl rfl rfl rfl rfl rfl (fun _ => nck rfl) (.v [(30, .pointer (some pv5)), (20, .slice a21 1 c7), (21, iV 0), (22, .pointer (some (ead a21 ((0 : Int).toNat * 1)))), (23, .pointer (some pv5)), (27, .pointer (some pv5)), (28, iV 0)] rfl rfl rfl rfl rfl rfl (fun _ => fa rfl tF161_3) (.nil))))))))))))) (.cons [(31, .pointer (some (pv5.add 3))), (28, iV 0), (20, .slice a21 1 c7), (21, iV 0), (22, .pointer (some (ead a21 ((0 : Int).toNat * 1)))), (23, .pointer (some pv5)), (27, .pointer (some pv5)), (28, iV 0)] rfl rfl (fun sL hL => ?_) (.nil))
 refine st (p := pv5) (off := 3) (k := 1) (vs := [iV 0]) rfl rfl rfl (fun w => (tO3 w).2) rfl rfl rfl rfl ?_
 refine .nil ?_
 refine .jaN (M := [11, 8, 0, 1, 2, 3, 7, 10, 6, 4, 5]) (C' := [9, 13, 14]) (pre := [(13, .pointer (some pv5)), (14, .pointer (some (pv5.add 3)))]) [0, 1, 2] hL rfl rfl rfl rfl rfl (by kernel_rfl) ?_
 refine .step [15] 15 rfl (by kernel_rfl) (by kernel_rfl) (.v [] rfl rfl rfl rfl rfl rfl (fun _ => mv rfl) (.v [(27, .pointer (some pv5)), (20, .slice a21 1 c7), (21, iV 0), (22, .pointer (some (ead a21 ((0 : Int).toNat * 1)))), (23, .pointer (some pv5)), (24, .slice a21 1 c7), (25, iV 0), (26, .pointer (some (ead a21 ((0 : Int).toNat * 1)))), (27, .pointer (some pv5)), (28, iV 0), (29, iV 0), (30, .pointer (some pv5)), (31, .pointer (some (pv5.add 3)))] rfl rfl rfl rfl rfl rfl (fun _ => nck rfl) (.v [(32, .pointer (some pv5)), (20, .slice a21 1 c7), (21, iV 0), (22, .pointer (some (ead a21 ((0 : Int).toNat * 1)))), (23, .pointer (some pv5)), (24, .slice a21 1 c7), (25, iV 0), (26, .pointer (some (ead a21 ((0 : Int).toNat * 1)))), (27, .pointer (some pv5)), (28, iV 0), (29, iV 0), (30, .pointer (some pv5)), (31, .pointer (some (pv5.add 3)))] rfl rfl rfl rfl rfl rfl (fun _ => fa rfl tF161_3) (.nil)))) (.cons [(33, .pointer (some (pv5.add 3))), (29, iV 0), (20, .slice a21 1 c7), (21, iV 0), (22, .pointer (some (ead a21 ((0 : Int).toNat * 1)))), (23, .pointer (some pv5)), (24, .slice a21 1 c7), (25, iV 0), (26, .pointer (some (ead a21 ((0 : Int).toNat * 1)))), (27, .pointer (some pv5)), (28, iV 0), (29, iV 0), (30, .pointer (some pv5)), (31, .pointer (some (pv5.add 3)))] rfl rfl (fun sL hL => ?_) (.nil))
 refine st (p := pv5) (off := 3) (k := 1) (vs := [iV 0]) rfl rfl rfl (fun w => (tO3 w).2) rfl rfl rfl rfl ?_
 refine .nil ?_
 refine .jaN (M := [14, 9, 13]) (C' := []) (pre := []) [0, 1, 2] hL rfl rfl rfl rfl rfl (by kernel_rfl) ?_
 refine .last [(20, .slice a21 1 c7), (21, iV 0), (22, .pointer (some (ead a21 ((0 : Int).toNat * 1)))), (23, .pointer (some pv5)), (24, .slice a21 1 c7), (25, iV 0), (26, .pointer (some (ead a21 ((0 : Int).toNat * 1)))), (27, .pointer (some pv5)), (28, iV 0), (29, iV 0), (30, .pointer (some pv5)), (31, .pointer (some (pv5.add 3))), (32, .pointer (some pv5)), (33, .pointer (some (pv5.add 3)))] rfl (by kernel_rfl) (.nil) rfl ?_
 refine .res0 (.inr rfl) rfl (inl_back (v := .tuple #[]) q62 rfl ?_)
 refine .nil (.seqN (.seq (.region (.V mv0 ?_))))
 refine .V mv0 ?_
 refine .inl Tryz.func83 rfl Tryz.ntmps83 Tryz.call83 rfl rfl rfl rfl (fun a31 q63 => ?_)
 refine .KA [OwnSl 158 1 a21 1 c7 [.pointer (some pv5)], Box pv5 [.int .u32 2, iV 0, iV 1, iV 0], OwnSl 99 2 a15 1 c6 [.int .u32 1, iV 3], Box pv4 [.slice a21 1 c7, .map (some bv3), iV 1], OwnMapI bv3 .u32 (fun v : Value => v) ([(2, .pointer (some pv5))] : List (Int × Value)), OwnMapI bv2 .u32 (fun v : Value => v) ([(1, iV 1000000000), (2, iV 0)] : List (Int × Value)), Box pback [.map (some bv)], OwnMapI bv .u32 (fun v : Value => v) ([(2, .slice a15 1 c6)] : List (Int × Value)), MkA (D2 :: D :: []), Box pv [iV 0, iV 0]] ?_
 refine .seq (.region (.V ag0 ?_))
 refine .nil (.seqN (.seq (.region (.V mv0 ?_))))
 refine .V ag0 ?_
 refine .nil (.seqN (.seq (.block ?_)))
 refine .rounds 90 ?_
 refine .block (.seq (.region (.V mv0 ?_)))
 refine .V bi0 ?_
 refine .V bi0 ?_
 refine .V ag0 ?_
 refine .nil (.seqN (.seq (.seq (.region (.V mv0 ?_)))))
 refine .V mv0 ?_
 refine .V bi0 ?_
 refine .V mv0 ?_
 refine .gS rfl rfl rfl rfl rfl rfl ?_
 refine .gS rfl rfl rfl rfl rfl rfl ?_
 refine .V (pkT rfl rfl rfl) ?_
 refine .nil (.seqN ?_)
 refine .cond rfl (fun _ => ?_) (fun e => absurd (e.symm.trans rfl) (by decide))
 refine .exit (.seqX ?_)
 refine .blkY rfl ?_
 refine .seqX (.blkX (.seqN (.seq (.region (.V mv0 ?_)))))
 refine .V mv0 ?_
 refine .V bi0 ?_
 refine .V ag0 ?_
 refine .nil (.seqN (.ret ?_))
 refine .res1 rfl (rvT rfl) (inl_back (v := .bool false) q63 rfl ?_)
 refine .nil (.seqN (.seq (.region (.V mv0 ?_))))
 refine .inlI Tryz.func163 rfl Tryz.ntmps163 Tryz.call163 tm163_Pop rfl rfl rfl (fun a32 q64 => ?_)
 refine .KA [OwnSl 158 1 a21 1 c7 [.pointer (some pv5)], Box pv5 [.int .u32 2, iV 0, iV 1, iV 0], OwnSl 99 2 a15 1 c6 [.int .u32 1, iV 3], Box pv4 [.slice a21 1 c7, .map (some bv3), iV 1], OwnMapI bv3 .u32 (fun v : Value => v) ([(2, .pointer (some pv5))] : List (Int × Value)), OwnMapI bv2 .u32 (fun v : Value => v) ([(1, iV 1000000000), (2, iV 0)] : List (Int × Value)), Box pback [.map (some bv)], OwnMapI bv .u32 (fun v : Value => v) ([(2, .slice a15 1 c6)] : List (Int × Value)), MkA (D2 :: D :: []), Box pv [iV 0, iV 0]] ?_
 refine .seq (.region (.V ag0 ?_))
 refine .nil (.seqN (.seq (.region (.V mv0 ?_))))
 refine .V (nck rfl) ?_
 refine .V (ld1 rfl tO155 (cellB (off := 0) (k := 3) rfl rfl)) ?_
 refine .V ag0 ?_
 refine .nil (.seqN (.seq (.region (.V mv0 ?_))))
 refine .V mv0 ?_
 refine .V (ln rfl tS155.is) ?_
 refine .V bi0 ?_
 refine .V (ixS rfl rfl tS155 (k := 0) rfl (And.intro (by decide) (by decide))) ?_
 refine .V (ld1 (v := .pointer (some pv5)) rfl tO158 (cellS (k := 0) rfl rfl)) ?_
 refine .V ag0 ?_
 refine .nil (.seqN (.seq ?_))
 refine .fact (fun w S => look_len S (k := 0) rfl) (fun q65 => ?_)
 refine .fact (fun w S => look_len S (k := 2) rfl) (fun q66 => ?_)
 refine .region (.V mv0 ?_)
 refine .V mv0 ?_
 refine .V mv0 ?_
 refine .V (ln rfl tS155.is) ?_
 refine .V bi0 ?_
 refine .V (slH tS155 rfl rfl (by decide) rfl (Nat.le_trans (show 0 ≤ 1 by decide) q65)) ?_
 refine .shrink (k := 0) (cs' := []) rfl (show 0 ≤ 1 by decide) rfl ?_
 refine .V (nck rfl) ?_
 refine st (p := pv4) (off := 0) (k := 3) (vs := [.slice a21 0 c7]) rfl rfl rfl (fun w => (tO155 w).2) rfl rfl rfl rfl ?_
 refine .nil (.seqN (.seq (.region (.V mv0 ?_))))
 refine .V (mkI tC158 rfl) ?_
 refine .V ag0 ?_
 refine .nil (.seqN (.ret ?_))
 refine .res1 rfl (rvT rfl) (inl_back (v := .iface 158 (.pointer (some pv5))) q64 rfl ?_)
 refine .V ag0 ?_
 refine .nil (.seqN (.ret ?_))
 refine .res1 rfl (rvT rfl) (inl_back (v := .iface 158 (.pointer (some pv5))) q60 rfl ?_)
 refine .V (tas tC158 rfl) ?_
 refine .V ag0 ?_
 refine .nil (.seqN (.seq ?_))
 refine .openA (s0 := [(0, .pointer (some pv4)), (5, .pointer (some pv5))]) [0, 1, 2, 3, 4, 5, 6, 7] [(0, .pointer (some pv4)), (1, .pointer (some pv4)), (2, .pointer (some (pv4.add 1))), (3, .map (some bv3)), (4, .pointer (some pv5)), (5, .pointer (some pv5)), (6, .pointer (some (pv5.add 0))), (7, .int .u32 2)] (by kernel_rfl) sb [0, 5] [] rfl (by kernel_rfl) ?_
 refine .step [8] 8 rfl (by kernel_rfl) (by kernel_rfl) (.v [] rfl rfl rfl rfl rfl rfl (fun _ => mv rfl) (.v [(19, .pointer (some pv4))] rfl rfl rfl rfl rfl rfl (fun _ => nck rfl) (.v [(20, .pointer (some pv4))] rfl rfl rfl rfl rfl rfl (fun _ => fa rfl tF157_1) (.v [(21, .pointer (some (pv4.add 1)))] rfl rfl rfl rfl rfl rfl (fun _ => ld1 rfl tO153 (cellB (off := 1) (k := 3) rfl rfl)) (.v [] rfl rfl rfl rfl rfl rfl (fun _ => mv rfl) (.v [(23, .pointer (some pv5))] rfl rfl rfl rfl rfl rfl (fun _ => nck rfl) (.v [(24, .pointer (some pv5))] rfl rfl rfl rfl rfl rfl (fun _ => fa rfl tF161_0) (.v [(25, .pointer (some (pv5.add 0)))] rfl rfl rfl rfl rfl rfl (fun _ => ld1 rfl tO62 (cellB (off := 0) (k := 1) rfl rfl)) (.nil))))))))) (.cons [(22, .map (some bv3)), (26, .int .u32 2)] rfl rfl (fun sL hL => ?_) (.nil))
 refine dlI tMR153 rfl rfl (q := 4) rfl rfl ?_
 refine .nil ?_
 refine .jaN (M := [3, 7, 2, 6, 1, 5, 0, 4]) (C' := []) (pre := []) [0, 5] hL rfl rfl rfl rfl rfl (by kernel_rfl) ?_
 refine .last [(19, .pointer (some pv4)), (20, .pointer (some pv4)), (21, .pointer (some (pv4.add 1))), (22, .map (some bv3)), (23, .pointer (some pv5)), (24, .pointer (some pv5)), (25, .pointer (some (pv5.add 0))), (26, .int .u32 2)] rfl (by kernel_rfl) (.nil) rfl ?_
 refine .seqN (.seq ?_)
 refine .openA (s0 := [(5, .pointer (some pv5))]) [0, 1, 2, 3, 4, 5, 6, 7, 8, 9, 10] [(0, .pointer (some pv5)), (1, .pointer (some pv5)), (2, .pointer (some (pv5.add 0))), (3, .int .u32 2), (4, .pointer (some pv5)), (5, .pointer (some pv5)), (6, .pointer (some (pv5.add 1))), (7, iV 0), (8, .int .u32 2), (9, iV 0), (10, .bool true)] (by kernel_rfl) sb [5] [] rfl (by kernel_rfl) ?_
 refine .last [(27, .pointer (some pv5)), (28, .pointer (some pv5)), (29, .pointer (some (pv5.add 0))), (30, .int .u32 2), (31, .pointer (some pv5)), (32, .pointer (some pv5)), (33, .pointer (some (pv5.add 1))), (34, iV 0), (2, .int .u32 2), (3, iV 0), (4, .bool true)] rfl (by kernel_rfl) (.v [] rfl rfl rfl rfl rfl rfl (fun _ => mv rfl) (.v [(27, .pointer (some pv5))] rfl rfl rfl rfl rfl rfl (fun _ => nck rfl) (.v [(28, .pointer (some pv5))] rfl rfl rfl rfl rfl rfl (fun _ => fa rfl tF161_0) (.v [(29, .pointer (some (pv5.add 0)))] rfl rfl rfl rfl rfl rfl (fun _ => ld1 rfl tO62 (cellB (off := 0) (k := 1) rfl rfl)) (.v [] rfl rfl rfl rfl rfl rfl (fun _ => mv rfl) (.v [(31, .pointer (some pv5))] rfl rfl rfl rfl rfl rfl (fun _ => nck rfl) (.v [(32, .pointer (some pv5))] rfl rfl rfl rfl rfl rfl (fun _ => fa rfl tF161_1) (.v [(33, .pointer (some (pv5.add 1)))] rfl rfl rfl rfl rfl rfl (fun _ => ld1 rfl tO3 (cellB (off := 1) (k := 1) rfl rfl)) (.v [(30, .int .u32 2), (27, .pointer (some pv5)), (28, .pointer (some pv5)), (29, .pointer (some (pv5.add 0))), (30, .int .u32 2)] rfl rfl rfl rfl rfl rfl (fun _ => asg rfl) (.v [(34, iV 0), (2, .int .u32 2), (27, .pointer (some pv5)), (28, .pointer (some pv5)), (29, .pointer (some (pv5.add 0))), (30, .int .u32 2), (31, .pointer (some pv5)), (32, .pointer (some pv5)), (33, .pointer (some (pv5.add 1))), (34, iV 0), (2, .int .u32 2)] rfl rfl rfl rfl rfl rfl (fun _ => asg rfl) (.v [(3, iV 0), (27, .pointer (some pv5)), (28, .pointer (some pv5)), (29, .pointer (some (pv5.add 0))), (30, .int .u32 2), (31, .pointer (some pv5)), (32, .pointer (some pv5)), (33, .pointer (some (pv5.add 1))), (34, iV 0), (2, .int .u32 2), (3, iV 0)] rfl rfl rfl rfl rfl rfl (fun _ => asg rfl) (.nil)))))))))))) rfl ?_
 refine .seqN (.ret ?_)
 refine .res3 rfl (rvT rfl) (rvT rfl) (rvT rfl) (inl_back (v := .tuple #[.int .u32 2, iV 0, .bool true]) q59 rfl ?_)
 refine .V mv0 ?_
 refine .V (ext rfl rfl) ?_
 refine .V (ext rfl rfl) ?_
 refine .V (ext rfl rfl) ?_
 refine .V ag0 ?_
 refine .V ag0 ?_
 refine .V ag0 ?_
 refine .nil (.seqN (.seq (.region (.V (ld1 rfl tO87 (cellB (off := 0) (k := 6) rfl rfl)) ?_))))
 refine .V mv0 ?_
 refine .V (lkI (enc := fun v : Value => v) (m := ([(2, .slice a15 1 c6)] : List (Int × Value))) (k := 2) (.slice none 0 0) tMR87 rfl rfl (q := 7) rfl) ?_
 refine .V (ln rfl tS97.is) ?_
 refine .V mv0 ?_
 refine .nil (.seqN (.block ?_))
 refine .rounds 90 ?_
 refine .seq (.region (.V bi0 ?_))
 refine .nil (.seqN (.seq ?_))
 refine .cond rfl (fun _ => ?_) (fun e => absurd (e.symm.trans rfl) (by decide))
 refine .skip (.seqN (.seq (.block (.seq (.region (.V (ixS rfl rfl tS97 (k := 2) rfl (And.intro (by decide) (by decide))) ?_))))))
 refine .V (ldA (cs := [.int .u32 1, iV 3]) rfl tA99 rfl (cellsO (k := 2) rfl (rawE rfl))) ?_
 refine al tZ99 rfl (fun pa => ?_)
 refine st (p := pa) (off := 0) (k := 0) (vs := [.int .u32 1, iV 3]) rfl rfl rfl (fun w => (tA99 w).2) rfl rfl rfl rfl ?_
 refine .nil (.seqN (.seq (.region (.V mv0 ?_))))
 refine .V (fa rfl tF99_1) ?_
 refine .V (ld1 rfl tO3 (cellB (off := 1) (k := 0) rfl rfl)) ?_
 refine .V bi0 ?_
 refine .V mv0 ?_
 refine .V (fa rfl tF99_0) ?_
 refine .V (ld1 rfl tO62 (cellB (off := 0) (k := 0) rfl rfl)) ?_
 refine .V (lkI (enc := fun v : Value => v) (m := ([(1, iV 1000000000), (2, iV 0)] : List (Int × Value))) (k := 1) (iV 0) tMR60 rfl rfl (q := 6) rfl) ?_
 refine .V bi0 ?_
 refine .nil (.seqN ?_)
 refine .cond rfl (fun _ => ?_) (fun e => absurd (e.symm.trans rfl) (by decide))
 refine .seq (.region (.V mv0 ?_))
 refine .V (fa rfl tF99_0) ?_
 refine .V (ld1 rfl tO62 (cellB (off := 0) (k := 0) rfl rfl)) ?_
 refine .V mv0 ?_
 refine .V (fa rfl tF99_1) ?_
 refine .V (ld1 rfl tO3 (cellB (off := 1) (k := 0) rfl rfl)) ?_
 refine .V bi0 ?_
 refine muI (enc := fun v : Value => v) (iV 3) tMR60 rfl rfl rfl (q := 6) rfl ?_
 refine .KA [Box pa [.int .u32 1, iV 3], OwnSl 158 1 a21 0 c7 [], Box pv5 [.int .u32 2, iV 0, iV 1, iV 0], OwnSl 99 2 a15 1 c6 [.int .u32 1, iV 3], Box pv4 [.slice a21 0 c7, .map (some bv3), iV 1], OwnMapI bv3 .u32 (fun v : Value => v) ([] : List (Int × Value)), OwnMapI bv2 .u32 (fun v : Value => v) ([(1, iV 3), (2, iV 0)] : List (Int × Value)), Box pback [.map (some bv)], OwnMapI bv .u32 (fun v : Value => v) ([(2, .slice a15 1 c6)] : List (Int × Value)), MkA (D2 :: D :: []), Box pv [iV 0, iV 0]] ?_
 refine .nil (.seqN (.region (.V mv0 ?_)))
 refine .V (fa rfl tF99_0) ?_
 refine .V (ld1 rfl tO62 (cellB (off := 0) (k := 0) rfl rfl)) ?_
 refine .V mv0 ?_
 refine .V (fa rfl tF99_1) ?_
 refine .V (ld1 rfl tO3 (cellB (off := 1) (k := 0) rfl rfl)) ?_
 refine .V bi0 ?_
 refine .inl Tryz.func47 rfl Tryz.ntmps47 Tryz.call47 rfl rfl rfl rfl (fun a33 q67 => ?_)
 refine .sel0 [1, 3, 4, 5, 6, 7, 8, 9, 10] (by decide) rfl ?_
 refine .KA [OwnSl 158 1 a21 0 c7 [], OwnSl 99 2 a15 1 c6 [.int .u32 1, iV 3], Box pv4 [.slice a21 0 c7, .map (some bv3), iV 1], OwnMapI bv3 .u32 (fun v : Value => v) ([] : List (Int × Value)), OwnMapI bv2 .u32 (fun v : Value => v) ([(1, iV 3), (2, iV 0)] : List (Int × Value)), Box pback [.map (some bv)], OwnMapI bv .u32 (fun v : Value => v) ([(2, .slice a15 1 c6)] : List (Int × Value)), MkA (D2 :: D :: []), Box pv [iV 0, iV 0]] ?_
 refine .seq (.region (.V mv0 ?_))
 refine .V (nck rfl) ?_
 refine .V (fa rfl tF157_2) ?_
 refine .V (ld1 rfl tO3 (cellB (off := 2) (k := 2) rfl rfl)) ?_
 refine .V bi0 ?_
 refine .V (nck rfl) ?_
 refine .V (fa rfl tF157_2) ?_
 refine st (p := pv4) (off := 2) (k := 2) (vs := [iV 2]) rfl rfl rfl (fun w => (tO3 w).2) rfl rfl rfl rfl ?_
 refine .nil (.seqN (.seq (.seq (.region (.V mv0 ?_)))))
 refine .V (nck rfl) ?_
 refine .V (fa rfl tF157_1) ?_
 refine .V (ld1 rfl tO153 (cellB (off := 1) (k := 2) rfl rfl)) ?_
 refine .V mv0 ?_
 refine .V (lkI2 (enc := fun v : Value => v) (m := ([] : List (Int × Value))) (k := 1) (.pointer none) tMR153 rfl rfl (q := 3) rfl) ?_
 refine .V mv0 ?_
 refine .V (ext rfl rfl) ?_
 refine .V (ext rfl rfl) ?_
 refine .V ag0 ?_
 refine .V ag0 ?_
 refine .nil (.seqN (.seq (.region (.V mv0 ?_))))
 refine .nil (.seqN ?_)
 refine .cond rfl (fun e => absurd (e.symm.trans rfl) (by decide)) (fun _ => ?_)
 refine .skip (.seqN (.seq (.region (.V mv0 ?_))))
 refine .V mv0 ?_
 refine .V mv0 ?_
 refine .V (nck rfl) ?_
 refine .V (fa rfl tF157_2) ?_
 refine .V (ld1 rfl tO3 (cellB (off := 2) (k := 2) rfl rfl)) ?_
 refine .V (bld (cs := #[.int .u32 1, iV 3, iV 2, iV 0]) (pv := [(0, .int .u32 1), (1, iV 3), (2, iV 2)]) tB161 rfl rfl) ?_
 refine bx (vs := [.int .u32 1, iV 3, iV 2, iV 0]) rfl rfl rfl (fun pv6 => ?_)
 refine .V ag0 ?_
 refine .nil (.seqN (.seq (.region (.V mv0 ?_))))
 refine .V (nck rfl) ?_
 refine .V (fa rfl tF157_1) ?_
 refine .V (ld1 rfl tO153 (cellB (off := 1) (k := 3) rfl rfl)) ?_
 refine .V mv0 ?_
 refine .V mv0 ?_
 refine muI (enc := fun v : Value => v) (.pointer (some pv6)) tMR153 rfl rfl rfl (q := 4) rfl ?_
 refine .nil (.seqN (.region (.V mv0 ?_)))
 refine .V (nck rfl) ?_
 refine .V (fa rfl tF157_0) ?_
 refine .V (mkI tC163 rfl) ?_
 refine .V mv0 ?_
 refine .V (mkI tC158 rfl) ?_
 refine .inl Tryz.func59 rfl Tryz.ntmps59 Tryz.call59 rfl rfl rfl rfl (fun a34 q68 => ?_)
 refine .KA [Box pv6 [.int .u32 1, iV 3, iV 2, iV 0], OwnSl 158 1 a21 0 c7 [], OwnSl 99 2 a15 1 c6 [.int .u32 1, iV 3], Box pv4 [.slice a21 0 c7, .map (some bv3), iV 2], OwnMapI bv3 .u32 (fun v : Value => v) ([(1, .pointer (some pv6))] : List (Int × Value)), OwnMapI bv2 .u32 (fun v : Value => v) ([(1, iV 3), (2, iV 0)] : List (Int × Value)), Box pback [.map (some bv)], OwnMapI bv .u32 (fun v : Value => v) ([(2, .slice a15 1 c6)] : List (Int × Value)), MkA (D2 :: D :: []), Box pv [iV 0, iV 0]] ?_
 refine .seq (.region (.V mv0 ?_))
 refine .V mv0 ?_
 refine .inlI Tryz.func164 rfl Tryz.ntmps164 Tryz.call164 tm163_Push rfl rfl rfl (fun a35 q69 => ?_)
 refine .KA [Box pv6 [.int .u32 1, iV 3, iV 2, iV 0], OwnSl 158 1 a21 0 c7 [], OwnSl 99 2 a15 1 c6 [.int .u32 1, iV 3], Box pv4 [.slice a21 0 c7, .map (some bv3), iV 2], OwnMapI bv3 .u32 (fun v : Value => v) ([(1, .pointer (some pv6))] : List (Int × Value)), OwnMapI bv2 .u32 (fun v : Value => v) ([(1, iV 3), (2, iV 0)] : List (Int × Value)), Box pback [.map (some bv)], OwnMapI bv .u32 (fun v : Value => v) ([(2, .slice a15 1 c6)] : List (Int × Value)), MkA (D2 :: D :: []), Box pv [iV 0, iV 0]] ?_
 refine .seq (.region (.V mv0 ?_))
 refine .V (tas tC158 rfl) ?_
 refine .V ag0 ?_
 refine .nil (.seqN (.seq (.region (.V mv0 ?_))))
 refine .V mv0 ?_
 refine .V (nck rfl) ?_
 refine .V (ld1 rfl tO155 (cellB (off := 0) (k := 3) rfl rfl)) ?_
 refine .V (ln rfl tS155.is) ?_
 refine .V (nck rfl) ?_
 refine .V (fa rfl tF161_3) ?_
 refine st (p := pv6) (off := 3) (k := 0) (vs := [iV 0]) rfl rfl rfl (fun w => (tO3 w).2) rfl rfl rfl rfl ?_
 refine .nil (.seqN (.region (.V mv0 ?_)))
 refine .V mv0 ?_
 refine .V (nck rfl) ?_
 refine .V (ld1 rfl tO155 (cellB (off := 0) (k := 3) rfl rfl)) ?_
 refine .V mv0 ?_
 refine bs2 (cs := #[.pointer (some pv6)]) (pv := [(0, .pointer (some pv6))]) tS155 rfl rfl (by decide) (by decide) rfl rfl rfl (fun a36 q70 => ?_)
 refine app (k := 2) (news := [.pointer (some pv6)]) (cs' := [.pointer (some pv6)]) (nm := 1) tS155 rfl (by decide) rfl rfl rfl rfl (srcS (k := 0) rfl) (oneAll rfl) (by decide) (by decide) rfl rfl rfl (fun a37 c8 => ?_)
 refine .V (nck rfl) ?_
 refine st (p := pv4) (off := 0) (k := 4) (vs := [.slice a37 1 c8]) rfl rfl rfl (fun w => (tO155 w).2) rfl rfl rfl rfl ?_
 refine .nil ?_
 refine .res0 (.inr rfl) rfl (inl_back (v := .tuple #[]) q69 rfl ?_)
 refine .nil (.seqN (.region (.V mv0 ?_)))
 refine .V mv0 ?_
 refine .inlV Tryz.func160 rfl Tryz.ntmps160 Tryz.call160 tm163_Len rfl (cellB (off := 0) (k := 4) rfl rfl) rfl rfl (fun a38 q71 => ?_)
 refine .sel0 [1, 2, 3, 4, 5, 6, 7, 8, 9, 10] (by decide) rfl ?_
 refine .KA [Box pv6 [.int .u32 1, iV 3, iV 2, iV 0], OwnSl 158 1 a37 1 c8 [.pointer (some pv6)], OwnSl 99 2 a15 1 c6 [.int .u32 1, iV 3], Box pv4 [.slice a37 1 c8, .map (some bv3), iV 2], OwnMapI bv3 .u32 (fun v : Value => v) ([(1, .pointer (some pv6))] : List (Int × Value)), OwnMapI bv2 .u32 (fun v : Value => v) ([(1, iV 3), (2, iV 0)] : List (Int × Value)), Box pback [.map (some bv)], OwnMapI bv .u32 (fun v : Value => v) ([(2, .slice a15 1 c6)] : List (Int × Value)), MkA (D2 :: D :: []), Box pv [iV 0, iV 0]] ?_
 refine .seq (.region (.V ag0 ?_))
 refine .nil (.seqN (.seq (.region (.V mv0 ?_))))
 refine .V (ln rfl tS155.is) ?_
 refine .V ag0 ?_
 refine .nil (.seqN (.ret ?_))
 refine .res1 rfl (rvT rfl) (inl_back (v := iV 1) q71 rfl ?_)
 refine .V bi0 ?_
 refine .inl Tryz.func93 rfl Tryz.ntmps93 Tryz.call93 rfl rfl rfl rfl (fun a39 q72 => ?_)
 refine .KA [Box pv6 [.int .u32 1, iV 3, iV 2, iV 0], OwnSl 158 1 a37 1 c8 [.pointer (some pv6)], OwnSl 99 2 a15 1 c6 [.int .u32 1, iV 3], Box pv4 [.slice a37 1 c8, .map (some bv3), iV 2], OwnMapI bv3 .u32 (fun v : Value => v) ([(1, .pointer (some pv6))] : List (Int × Value)), OwnMapI bv2 .u32 (fun v : Value => v) ([(1, iV 3), (2, iV 0)] : List (Int × Value)), Box pback [.map (some bv)], OwnMapI bv .u32 (fun v : Value => v) ([(2, .slice a15 1 c6)] : List (Int × Value)), MkA (D2 :: D :: []), Box pv [iV 0, iV 0]] ?_
 refine .block ?_
 refine .rounds 90 ?_
 refine .block (.seq (.region (.V mv0 ?_)))
 refine .V bi0 ?_
 refine .V (bq rfl rfl (by decide)) ?_
 refine .V ag0 ?_
 refine .nil (.seqN (.seq (.seq (.region (.V mv0 ?_)))))
 refine .V mv0 ?_
 refine .V bi0 ?_
 refine .V mv0 ?_
 refine .gS rfl rfl rfl rfl rfl rfl ?_
 refine .gS rfl rfl rfl rfl rfl rfl ?_
 refine .gS rfl rfl rfl rfl rfl rfl ?_
 refine .gS rfl rfl rfl rfl rfl rfl ?_
 refine .gS rfl rfl rfl rfl rfl rfl ?_
 refine .V (pkT rfl rfl rfl) ?_
 refine .nil (.seqN ?_)
 refine .cond rfl (fun _ => ?_) (fun e => absurd (e.symm.trans rfl) (by decide))
 refine .exit (.seqX ?_)
 refine .blkY rfl ?_
 refine .seqX (.blkX ?_)
 refine .res0 (.inr rfl) rfl (inl_back (v := .tuple #[]) q72 rfl ?_)
 refine .nil ?_
 refine .res0 (.inr rfl) rfl (inl_back (v := .tuple #[]) q68 rfl ?_)
 refine .nil ?_
 refine .res0 (.inr rfl) rfl (inl_back (v := .tuple #[]) q67 rfl ?_)
 refine .nil (.blkN (.seqN (.region (.V bi0 ?_))))
 refine .V mv0 ?_
 refine .nil ?_
 refine .more ?_
 refine .sub (s' := [(5, .pointer (some pback)), (6, .map (some bv2)), (7, .pointer (some pv4)), (12, iV 0), (64, .slice a15 1 c6), (65, iV 1), (66, iV 1)]) sb ?_
 refine .KA [Box pv6 [.int .u32 1, iV 3, iV 2, iV 0], OwnSl 158 1 a37 1 c8 [.pointer (some pv6)], OwnSl 99 2 a15 1 c6 [.int .u32 1, iV 3], Box pv4 [.slice a37 1 c8, .map (some bv3), iV 2], OwnMapI bv3 .u32 (fun v : Value => v) ([(1, .pointer (some pv6))] : List (Int × Value)), OwnMapI bv2 .u32 (fun v : Value => v) ([(1, iV 3), (2, iV 0)] : List (Int × Value)), Box pback [.map (some bv)], OwnMapI bv .u32 (fun v : Value => v) ([(2, .slice a15 1 c6)] : List (Int × Value)), MkA (D2 :: D :: []), Box pv [iV 0, iV 0]] ?_
 refine .seq (.region (.V bi0 ?_))
 refine .nil (.seqN (.seq ?_))
 refine .cond rfl (fun e => absurd (e.symm.trans rfl) (by decide)) (fun _ => ?_)
 refine .exit (.seqX (.seqX (.blkX (.blkN ?_))))
 refine .more ?_
 refine .sub (s' := [(5, .pointer (some pback)), (6, .map (some bv2)), (7, .pointer (some pv4))]) sb ?_
 refine .KA [Box pv6 [.int .u32 1, iV 3, iV 2, iV 0], OwnSl 158 1 a37 1 c8 [.pointer (some pv6)], OwnSl 99 2 a15 1 c6 [.int .u32 1, iV 3], Box pv4 [.slice a37 1 c8, .map (some bv3), iV 2], OwnMapI bv3 .u32 (fun v : Value => v) ([(1, .pointer (some pv6))] : List (Int × Value)), OwnMapI bv2 .u32 (fun v : Value => v) ([(1, iV 3), (2, iV 0)] : List (Int × Value)), Box pback [.map (some bv)], OwnMapI bv .u32 (fun v : Value => v) ([(2, .slice a15 1 c6)] : List (Int × Value)), MkA (D2 :: D :: []), Box pv [iV 0, iV 0]] ?_
 refine .seq (.seq (.region (.V mv0 ?_)))
 refine .inl Tryz.func49 rfl Tryz.ntmps49 Tryz.call49 rfl rfl rfl rfl (fun a40 q73 => ?_)
 refine .KA [Box pv6 [.int .u32 1, iV 3, iV 2, iV 0], OwnSl 158 1 a37 1 c8 [.pointer (some pv6)], OwnSl 99 2 a15 1 c6 [.int .u32 1, iV 3], Box pv4 [.slice a37 1 c8, .map (some bv3), iV 2], OwnMapI bv3 .u32 (fun v : Value => v) ([(1, .pointer (some pv6))] : List (Int × Value)), OwnMapI bv2 .u32 (fun v : Value => v) ([(1, iV 3), (2, iV 0)] : List (Int × Value)), Box pback [.map (some bv)], OwnMapI bv .u32 (fun v : Value => v) ([(2, .slice a15 1 c6)] : List (Int × Value)), MkA (D2 :: D :: []), Box pv [iV 0, iV 0]] ?_
 refine .seq (.region (.V ag0 ?_))
 refine .nil (.seqN (.seq (.region (.V mv0 ?_))))
 refine .V (nck rfl) ?_
 refine .V (fa rfl tF157_0) ?_
 refine .V (ld1 rfl tO155 (cellB (off := 0) (k := 3) rfl rfl)) ?_
 refine .V (ln rfl tS155.is) ?_
 refine .V ag0 ?_
 refine .nil (.seqN (.ret ?_))
 refine .res1 rfl (rvT rfl) (inl_back (v := iV 1) q73 rfl ?_)
 refine .V bi0 ?_
 refine .nil (.seqN ?_)
 refine .cond rfl (fun _ => ?_) (fun e => absurd (e.symm.trans rfl) (by decide))
 refine .skip (.seqN (.block (.seq (.region (.V mv0 ?_)))))
 refine .inl Tryz.func50 rfl Tryz.ntmps50 Tryz.call50 rfl rfl rfl rfl (fun a41 q74 => ?_)
 refine .KA [Box pv6 [.int .u32 1, iV 3, iV 2, iV 0], OwnSl 158 1 a37 1 c8 [.pointer (some pv6)], OwnSl 99 2 a15 1 c6 [.int .u32 1, iV 3], Box pv4 [.slice a37 1 c8, .map (some bv3), iV 2], OwnMapI bv3 .u32 (fun v : Value => v) ([(1, .pointer (some pv6))] : List (Int × Value)), OwnMapI bv2 .u32 (fun v : Value => v) ([(1, iV 3), (2, iV 0)] : List (Int × Value)), Box pback [.map (some bv)], OwnMapI bv .u32 (fun v : Value => v) ([(2, .slice a15 1 c6)] : List (Int × Value)), MkA (D2 :: D :: []), Box pv [iV 0, iV 0]] ?_
 refine .seq (.region (.V ag0 ?_))
 refine .V ag0 ?_
 refine .V ag0 ?_
 refine .nil (.seqN (.seq (.seq (.region (.V mv0 ?_)))))
 refine .V (nck rfl) ?_
 refine .V (fa rfl tF157_0) ?_
 refine .V (ld1 rfl tO155 (cellB (off := 0) (k := 3) rfl rfl)) ?_
 refine .V (ln rfl tS155.is) ?_
 refine .V bi0 ?_
 refine .nil (.seqN ?_)
 refine .cond rfl (fun e => absurd (e.symm.trans rfl) (by decide)) (fun _ => ?_)
 refine .skip (.seqN (.seq (.region (.V mv0 ?_))))
 refine .V (nck rfl) ?_
 refine .V (fa rfl tF157_0) ?_
 refine .V (mkI tC163 rfl) ?_
 refine .inl Tryz.func54 rfl Tryz.ntmps54 Tryz.call54 rfl rfl rfl rfl (fun a42 q75 => ?_)
 refine .KA [Box pv6 [.int .u32 1, iV 3, iV 2, iV 0], OwnSl 158 1 a37 1 c8 [.pointer (some pv6)], OwnSl 99 2 a15 1 c6 [.int .u32 1, iV 3], Box pv4 [.slice a37 1 c8, .map (some bv3), iV 2], OwnMapI bv3 .u32 (fun v : Value => v) ([(1, .pointer (some pv6))] : List (Int × Value)), OwnMapI bv2 .u32 (fun v : Value => v) ([(1, iV 3), (2, iV 0)] : List (Int × Value)), Box pback [.map (some bv)], OwnMapI bv .u32 (fun v : Value => v) ([(2, .slice a15 1 c6)] : List (Int × Value)), MkA (D2 :: D :: []), Box pv [iV 0, iV 0]] ?_
 refine .seq (.region (.V ag0 ?_))
 refine .nil (.seqN (.seq (.region (.V mv0 ?_))))
 refine .inlV Tryz.func160 rfl Tryz.ntmps160 Tryz.call160 tm163_Len rfl (cellB (off := 0) (k := 3) rfl rfl) rfl rfl (fun a43 q76 => ?_)
 refine .KA [Box pv6 [.int .u32 1, iV 3, iV 2, iV 0], OwnSl 158 1 a37 1 c8 [.pointer (some pv6)], OwnSl 99 2 a15 1 c6 [.int .u32 1, iV 3], Box pv4 [.slice a37 1 c8, .map (some bv3), iV 2], OwnMapI bv3 .u32 (fun v : Value => v) ([(1, .pointer (some pv6))] : List (Int × Value)), OwnMapI bv2 .u32 (fun v : Value => v) ([(1, iV 3), (2, iV 0)] : List (Int × Value)), Box pback [.map (some bv)], OwnMapI bv .u32 (fun v : Value => v) ([(2, .slice a15 1 c6)] : List (Int × Value)), MkA (D2 :: D :: []), Box pv [iV 0, iV 0]] ?_
 refine .seq (.region (.V ag0 ?_))
 refine .nil (.seqN (.seq (.region (.V mv0 ?_))))
 refine .V (ln rfl tS155.is) ?_
 refine .V ag0 ?_
 refine .nil (.seqN (.ret ?_))
 refine .res1 rfl (rvT rfl) (inl_back (v := iV 1) q76 rfl ?_)
 refine .V bi0 ?_
 refine .V ag0 ?_
 refine .nil (.seqN (.seq (.region (.V mv0 ?_))))
 refine .V mv0 ?_
 refine .inlV Tryz.func162 rfl Tryz.ntmps162 Tryz.call162 tm163_Swap rfl (cellB (off := 0) (k := 3) rfl rfl) rfl rfl (fun a44 q77 => ?_)
 refine .KA [Box pv6 [.int .u32 1, iV 3, iV 2, iV 0], OwnSl 158 1 a37 1 c8 [.pointer (some pv6)], OwnSl 99 2 a15 1 c6 [.int .u32 1, iV 3], Box pv4 [.slice a37 1 c8, .map (some bv3), iV 2], OwnMapI bv3 .u32 (fun v : Value => v) ([(1, .pointer (some pv6))] : List (Int × Value)), OwnMapI bv2 .u32 (fun v : Value => v) ([(1, iV 3), (2, iV 0)] : List (Int × Value)), Box pback [.map (some bv)], OwnMapI bv .u32 (fun v : Value => v) ([(2, .slice a15 1 c6)] : List (Int × Value)), MkA (D2 :: D :: []), Box pv [iV 0, iV 0]] ?_
 refine .seq ?_
 refine .openA (s0 := [(0, .slice a37 1 c8), (1, iV 0), (2, iV 0)]) [0, 1, 2, 3, 4, 5, 6, 7, 8, 9, 10, 11, 12] [(0, .slice a37 1 c8), (1, iV 0), (2, .slice a37 1 c8), (3, iV 0), (4, .slice a37 1 c8), (5, iV 0), (6, .pointer (some (ead a37 ((0 : Int).toNat * 1)))), (7, .pointer (some pv6)), (8, .slice a37 1 c8), (9, iV 0), (10, .pointer (some (ead a37 ((0 : Int).toNat * 1)))), (11, .pointer (some pv6)), (12, .pointer (some (ead a37 ((0 : Int).toNat * 1))))] (by kernel_rfl) sb [0, 1, 2] [] rfl (by kernel_rfl) ?_
 refine .step [13] 13 rfl (by kernel_rfl) (by kernel_rfl) (.v [] rfl rfl rfl rfl rfl rfl (fun _ => mv rfl) (.v [] rfl rfl rfl rfl rfl rfl (fun _ => mv rfl) (.v [] rfl rfl rfl rfl rfl rfl (fun _ => mv rfl) (.v [] rfl rfl rfl rfl rfl rfl (fun _ => mv rfl) (.v [] rfl rfl rfl rfl rfl rfl (fun _ => mv rfl) (.v [] rfl rfl rfl rfl rfl rfl (fun _ => mv rfl) (.v [(10, .slice a37 1 c8), (11, iV 0)] rfl rfl rfl rfl rfl rfl (fun _ => ixS rfl rfl tS155 (k := 1) rfl (And.intro (by decide) (by decide))) (.v [(12, .pointer (some (ead a37 ((0 : Int).toNat * 1))))] rfl rfl rfl rfl rfl rfl (fun _ => ld1 (v := .pointer (some pv6)) rfl tO158 (cellS (k := 1) rfl rfl)) (.v [] rfl rfl rfl rfl rfl rfl (fun _ => mv rfl) (.v [] rfl rfl rfl rfl rfl rfl (fun _ => mv rfl) (.v [(14, .slice a37 1 c8), (15, iV 0)] rfl rfl rfl rfl rfl rfl (fun _ => ixS rfl rfl tS155 (k := 1) rfl (And.intro (by decide) (by decide))) (.v [(16, .pointer (some (ead a37 ((0 : Int).toNat * 1))))] rfl rfl rfl rfl rfl rfl (fun _ => ld1 (v := .pointer (some pv6)) rfl tO158 (cellS (k := 1) rfl rfl)) (.v [(6, .slice a37 1 c8), (7, iV 0), (6, .slice a37 1 c8), (7, iV 0), (10, .slice a37 1 c8), (11, iV 0), (12, .pointer (some (ead a37 ((0 : Int).toNat * 1)))), (13, .pointer (some pv6)), (17, .pointer (some pv6))] rfl rfl rfl rfl rfl rfl (fun _ => ixS rfl rfl tS155 (k := 1) rfl (And.intro (by decide) (by decide))) (.nil)))))))))))))) (.cons [(18, .pointer (some (ead a37 ((0 : Int).toNat * 1)))), (13, .pointer (some pv6)), (6, .slice a37 1 c8), (7, iV 0), (10, .slice a37 1 c8), (11, iV 0), (12, .pointer (some (ead a37 ((0 : Int).toNat * 1)))), (13, .pointer (some pv6)), (17, .pointer (some pv6))] rfl rfl (fun sL hL => ?_) (.nil))
 refine stS (k := 1) (cs' := [.pointer (some pv6)]) rfl (fun _ => rfl) rfl rfl (fun w => (tO158 w).2) rfl rfl rfl (by decide) (Nat.le_of_ble_eq_true rfl) rfl ?_
 refine .nil ?_
 refine .jaN (M := [12, 7, 0, 1, 4, 5, 6, 11, 10, 8, 9]) (C' := [2, 3, 14]) (pre := [(14, .pointer (some (ead a37 ((0 : Int).toNat * 1))))]) [0, 1, 2] hL rfl rfl rfl rfl rfl (by kernel_rfl) ?_
 refine .step [15] 15 rfl (by kernel_rfl) (by kernel_rfl) (.v [] rfl rfl rfl rfl rfl rfl (fun _ => mv rfl) (.v [] rfl rfl rfl rfl rfl rfl (fun _ => mv rfl) (.v [(8, .slice a37 1 c8), (9, iV 0), (6, .slice a37 1 c8), (7, iV 0), (8, .slice a37 1 c8), (9, iV 0), (10, .slice a37 1 c8), (11, iV 0), (12, .pointer (some (ead a37 ((0 : Int).toNat * 1)))), (13, .pointer (some pv6)), (14, .slice a37 1 c8), (15, iV 0), (16, .pointer (some (ead a37 ((0 : Int).toNat * 1)))), (17, .pointer (some pv6)), (18, .pointer (some (ead a37 ((0 : Int).toNat * 1))))] rfl rfl rfl rfl rfl rfl (fun _ => ixS rfl rfl tS155 (k := 1) rfl (And.intro (by decide) (by decide))) (.nil)))) (.cons [(19, .pointer (some (ead a37 ((0 : Int).toNat * 1)))), (17, .pointer (some pv6)), (6, .slice a37 1 c8), (7, iV 0), (8, .slice a37 1 c8), (9, iV 0), (10, .slice a37 1 c8), (11, iV 0), (12, .pointer (some (ead a37 ((0 : Int).toNat * 1)))), (13, .pointer (some pv6)), (14, .slice a37 1 c8), (15, iV 0), (16, .pointer (some (ead a37 ((0 : Int).toNat * 1)))), (17, .pointer (some pv6)), (18, .pointer (some (ead a37 ((0 : Int).toNat * 1))))] rfl rfl (fun sL hL => ?_) (.nil))
 refine stS (k := 1) (cs' := [.pointer (some pv6)]) rfl (fun _ => rfl) rfl rfl (fun w => (tO158 w).2) rfl rfl rfl (by decide) (Nat.le_of_ble_eq_true rfl) rfl ?_
 refine .nil ?_
 refine .jaN (M := [14, 2, 3]) (C' := []) (pre := []) [0, 1, 2] hL rfl rfl rfl rfl rfl (by kernel_rfl) ?_
 refine .last [(6, .slice a37 1 c8), (7, iV 0), (8, .slice a37 1 c8), (9, iV 0), (10, .slice a37 1 c8), (11, iV 0), (12, .pointer (some (ead a37 ((0 : Int).toNat * 1)))), (13, .pointer (some pv6)), (14, .slice a37 1 c8), (15, iV 0), (16, .pointer (some (ead a37 ((0 : Int).toNat * 1)))), (17, .pointer (some pv6)), (18, .pointer (some (ead a37 ((0 : Int).toNat * 1)))), (19, .pointer (some (ead a37 ((0 : Int).toNat * 1))))] rfl (by kernel_rfl) (.nil) rfl ?_
 refine .seqN ?_
 refine .openA (s0 := [(0, .slice a37 1 c8), (1, iV 0), (2, iV 0)]) [0, 1, 2, 3, 4, 5, 6, 7, 8, 9, 10, 11] [(0, .slice a37 1 c8), (1, iV 0), (2, .pointer (some (ead a37 ((0 : Int).toNat * 1)))), (3, .pointer (some pv6)), (4, .slice a37 1 c8), (5, iV 0), (6, .pointer (some (ead a37 ((0 : Int).toNat * 1)))), (7, .pointer (some pv6)), (8, iV 0), (9, iV 0), (10, .pointer (some pv6)), (11, .pointer (some (pv6.add 3)))] (by kernel_rfl) sb [0, 1, 2] [] rfl (by kernel_rfl) ?_
 refine .step [12] 12 rfl (by kernel_rfl) (by kernel_rfl) (.v [] rfl rfl rfl rfl rfl rfl (fun _ => mv rfl) (.v [] rfl rfl rfl rfl rfl rfl (fun _ => mv rfl) (.v [(20, .slice a37 1 c8), (21, iV 0)] rfl rfl rfl rfl rfl rfl (fun _ => ixS rfl rfl tS155 (k := 1) rfl (And.intro (by decide) (by decide))) (.v [(22, .pointer (some (ead a37 ((0 : Int).toNat * 1))))] rfl rfl rfl rfl rfl rfl (fun _ => ld1 (v := .pointer (some pv6)) rfl tO158 (cellS (k := 1) rfl rfl)) (.v [] rfl rfl rfl rfl rfl rfl (fun _ => mv rfl) (.v [] rfl rfl rfl rfl rfl rfl (fun _ => mv rfl) (.v [(24, .slice a37 1 c8), (25, iV 0)] rfl rfl rfl rfl rfl rfl (fun _ => ixS rfl rfl tS155 (k := 1) rfl (And.intro (by decide) (by decide))) (.v [(26, .pointer (some (ead a37 ((0 : Int).toNat * 1))))] rfl rfl rfl rfl rfl rfl (fun _ => ld1 (v := .pointer (some pv6)) rfl tO158 (cellS (k := 1) rfl rfl)) (.v [] rfl rfl rfl rfl rfl rfl (fun _ => mv rfl) (.v [] rfl rfl rfl rfl rfl rfl (fun _ => mv rfl) (.v [(23, .pointer (some pv6)), (20, .slice a37 1 c8), (21, iV 0), (22, .pointer (some (ead a37 ((0 : Int).toNat * 1)))), (23, .pointer (some pv6)), (27, .pointer (some pv6)), (28, iV 0)] rfl rfl rfl rfl rfl rfl (fun _ => nck rfl) (.v [(30, .pointer (some pv6)), (20, .slice a37 1 c8), (21, iV 0), (22, .pointer (some (ead a37 ((0 : Int).toNat * 1)))), (23, .pointer (some pv6)), (27, .pointer (some pv6)), (28, iV 0)] rfl rfl rfl rfl rfl rfl (fun _ => fa rfl tF161_3) (.nil))))))))))))) (.cons [(31, .pointer (some (pv6.add 3))), (28, iV 0), (20, .slice a37 1 c8), (21, iV 0), (22, .pointer (some (ead a37 ((0 : Int).toNat * 1)))), (23, .pointer (some pv6)), (27, .pointer (some pv6)), (28, iV 0)] rfl rfl (fun sL hL => ?_) (.nil))
 refine st (p := pv6) (off := 3) (k := 0) (vs := [iV 0]) rfl rfl rfl (fun w => (tO3 w).2) rfl rfl rfl rfl ?_
 refine .nil ?_
 refine .jaN (M := [11, 8, 0, 1, 2, 3, 7, 10, 6, 4, 5]) (C' := [9, 13, 14]) (pre := [(13, .pointer (some pv6)), (14, .pointer (some (pv6.add 3)))]) [0, 1, 2] hL rfl rfl rfl rfl rfl (by kernel_rfl) ?_
 refine .step [15] 15 rfl (by kernel_rfl) (by kernel_rfl) (.v [] rfl rfl rfl rfl rfl rfl (fun _ => mv rfl) (.v [(27, .pointer (some pv6)), (20, .slice a37 1 c8), (21, iV 0), (22, .pointer (some (ead a37 ((0 : Int).toNat * 1)))), (23, .pointer (some pv6)), (24, .slice a37 1 c8), (25, iV 0), (26, .pointer (some (ead a37 ((0 : Int).toNat * 1)))), (27, .pointer (some pv6)), (28, iV 0), (29, iV 0), (30, .pointer (some pv6)), (31, .pointer (some (pv6.add 3)))] rfl rfl rfl rfl rfl rfl (fun _ => nck rfl) (.v [(32, .pointer (some pv6)), (20, .slice a37 1 c8), (21, iV 0), (22, .pointer (some (ead a37 ((0 : Int).toNat * 1)))), (23, .pointer (some pv6)), (24, .slice a37 1 c8), (25, iV 0), (26, .pointer (some (ead a37 ((0 : Int).toNat * 1)))), (27, .pointer (some pv6)), (28, iV 0), (29, iV 0), (30, .pointer (some pv6)), (31, .pointer (some (pv6.add 3)))] rfl rfl rfl rfl rfl rfl (fun _ => fa rfl tF161_3) (.nil)))) (.cons [(33, .pointer (some (pv6.add 3))), (29, iV 0), (20, .slice a37 1 c8), (21, iV 0), (22, .pointer (some (ead a37 ((0 : Int).toNat * 1)))), (23, .pointer (some pv6)), (24, .slice a37 1 c8), (25, iV 0), (26, .pointer (some (ead a37 ((0 : Int).toNat * 1)))), (27, .pointer (some pv6)), (28, iV 0), (29, iV 0), (30, .pointer (some pv6)), (31, .pointer (some (pv6.add 3)))] rfl rfl (fun sL hL => ?_) (.nil))
 refine st (p := pv6) (off := 3) (k := 0) (vs := [iV 0]) rfl rfl rfl (fun w => (tO3 w).2) rfl rfl rfl rfl ?_
 refine .nil ?_
 refine .jaN (M := [14, 9, 13]) (C' := []) (pre := []) [0, 1, 2] hL rfl rfl rfl rfl rfl (by kernel_rfl) ?_
 refine .last [(20, .slice a37 1 c8), (21, iV 0), (22, .pointer (some (ead a37 ((0 : Int).toNat * 1)))), (23, .pointer (some pv6)), (24, .slice a37 1 c8), (25, iV 0), (26, .pointer (some (ead a37 ((0 : Int).toNat * 1)))), (27, .pointer (some pv6)), (28, iV 0), (29, iV 0), (30, .pointer (some pv6)), (31, .pointer (some (pv6.add 3))), (32, .pointer (some pv6)), (33, .pointer (some (pv6.add 3)))] rfl (by kernel_rfl) (.nil) rfl ?_
 refine .res0 (.inr rfl) rfl (inl_back (v := .tuple #[]) q77 rfl ?_)
 refine .nil (.seqN (.seq (.region (.V mv0 ?_))))
 refine .V mv0 ?_
 refine .inl Tryz.func83 rfl Tryz.ntmps83 Tryz.call83 rfl rfl rfl rfl (fun a45 q78 => ?_)
 refine .KA [Box pv6 [.int .u32 1, iV 3, iV 2, iV 0], OwnSl 158 1 a37 1 c8 [.pointer (some pv6)], OwnSl 99 2 a15 1 c6 [.int .u32 1, iV 3], Box pv4 [.slice a37 1 c8, .map (some bv3), iV 2], OwnMapI bv3 .u32 (fun v : Value => v) ([(1, .pointer (some pv6))] : List (Int × Value)), OwnMapI bv2 .u32 (fun v : Value => v) ([(1, iV 3), (2, iV 0)] : List (Int × Value)), Box pback [.map (some bv)], OwnMapI bv .u32 (fun v : Value => v) ([(2, .slice a15 1 c6)] : List (Int × Value)), MkA (D2 :: D :: []), Box pv [iV 0, iV 0]] ?_
 refine .seq (.region (.V ag0 ?_))
 refine .nil (.seqN (.seq (.region (.V mv0 ?_))))
 refine .V ag0 ?_
 refine .nil (.seqN (.seq (.block ?_)))
 refine .rounds 90 ?_
 refine .block (.seq (.region (.V mv0 ?_)))
 refine .V bi0 ?_
 refine .V bi0 ?_
 refine .V ag0 ?_
 refine .nil (.seqN (.seq (.seq (.region (.V mv0 ?_)))))
 refine .V mv0 ?_
 refine .V bi0 ?_
 refine .V mv0 ?_
 refine .gS rfl rfl rfl rfl rfl rfl ?_
 refine .gS rfl rfl rfl rfl rfl rfl ?_
 refine .V (pkT rfl rfl rfl) ?_
 refine .nil (.seqN ?_)
 refine .cond rfl (fun _ => ?_) (fun e => absurd (e.symm.trans rfl) (by decide))
 refine .exit (.seqX ?_)
 refine .blkY rfl ?_
 refine .seqX (.blkX (.seqN (.seq (.region (.V mv0 ?_)))))
 refine .V mv0 ?_
 refine .V bi0 ?_
 refine .V ag0 ?_
 refine .nil (.seqN (.ret ?_))
 refine .res1 rfl (rvT rfl) (inl_back (v := .bool false) q78 rfl ?_)
 refine .nil (.seqN (.seq (.region (.V mv0 ?_))))
 refine .inlI Tryz.func163 rfl Tryz.ntmps163 Tryz.call163 tm163_Pop rfl rfl rfl (fun a46 q79 => ?_)
 refine .KA [Box pv6 [.int .u32 1, iV 3, iV 2, iV 0], OwnSl 158 1 a37 1 c8 [.pointer (some pv6)], OwnSl 99 2 a15 1 c6 [.int .u32 1, iV 3], Box pv4 [.slice a37 1 c8, .map (some bv3), iV 2], OwnMapI bv3 .u32 (fun v : Value => v) ([(1, .pointer (some pv6))] : List (Int × Value)), OwnMapI bv2 .u32 (fun v : Value => v) ([(1, iV 3), (2, iV 0)] : List (Int × Value)), Box pback [.map (some bv)], OwnMapI bv .u32 (fun v : Value => v) ([(2, .slice a15 1 c6)] : List (Int × Value)), MkA (D2 :: D :: []), Box pv [iV 0, iV 0]] ?_
 refine .seq (.region (.V ag0 ?_))
 refine .nil (.seqN (.seq (.region (.V mv0 ?_))))
 refine .V (nck rfl) ?_
 refine .V (ld1 rfl tO155 (cellB (off := 0) (k := 3) rfl rfl)) ?_
 refine .V ag0 ?_
 refine .nil (.seqN (.seq (.region (.V mv0 ?_))))
 refine .V mv0 ?_
 refine .V (ln rfl tS155.is) ?_
 refine .V bi0 ?_
 refine .V (ixS rfl rfl tS155 (k := 1) rfl (And.intro (by decide) (by decide))) ?_
 refine .V (ld1 (v := .pointer (some pv6)) rfl tO158 (cellS (k := 1) rfl rfl)) ?_
 refine .V ag0 ?_
 refine .nil (.seqN (.seq ?_))
 refine .fact (fun w S => look_len S (k := 1) rfl) (fun q80 => ?_)
 refine .region (.V mv0 ?_)
 refine .V mv0 ?_
 refine .V mv0 ?_
 refine .V (ln rfl tS155.is) ?_
 refine .V bi0 ?_
 refine .V (slH tS155 rfl rfl (by decide) rfl (Nat.le_trans (show 0 ≤ 1 by decide) q80)) ?_
 refine .shrink (k := 1) (cs' := []) rfl (show 0 ≤ 1 by decide) rfl ?_
 refine .V (nck rfl) ?_
 refine st (p := pv4) (off := 0) (k := 3) (vs := [.slice a37 0 c8]) rfl rfl rfl (fun w => (tO155 w).2) rfl rfl rfl rfl ?_
 refine .nil (.seqN (.seq (.region (.V mv0 ?_))))
 refine .V (mkI tC158 rfl) ?_
 refine .V ag0 ?_
 refine .nil (.seqN (.ret ?_))
 refine .res1 rfl (rvT rfl) (inl_back (v := .iface 158 (.pointer (some pv6))) q79 rfl ?_)
 refine .V ag0 ?_
 refine .nil (.seqN (.ret ?_))
 refine .res1 rfl (rvT rfl) (inl_back (v := .iface 158 (.pointer (some pv6))) q75 rfl ?_)
 refine .V (tas tC158 rfl) ?_
 refine .V ag0 ?_
 refine .nil (.seqN (.seq ?_))
 refine .openA (s0 := [(0, .pointer (some pv4)), (5, .pointer (some pv6))]) [0, 1, 2, 3, 4, 5, 6, 7] [(0, .pointer (some pv4)), (1, .pointer (some pv4)), (2, .pointer (some (pv4.add 1))), (3, .map (some bv3)), (4, .pointer (some pv6)), (5, .pointer (some pv6)), (6, .pointer (some (pv6.add 0))), (7, .int .u32 1)] (by kernel_rfl) sb [0, 5] [] rfl (by kernel_rfl) ?_
 refine .step [8] 8 rfl (by kernel_rfl) (by kernel_rfl) (.v [] rfl rfl rfl rfl rfl rfl (fun _ => mv rfl) (.v [(19, .pointer (some pv4))] rfl rfl rfl rfl rfl rfl (fun _ => nck rfl) (.v [(20, .pointer (some pv4))] rfl rfl rfl rfl rfl rfl (fun _ => fa rfl tF157_1) (.v [(21, .pointer (some (pv4.add 1)))] rfl rfl rfl rfl rfl rfl (fun _ => ld1 rfl tO153 (cellB (off := 1) (k := 3) rfl rfl)) (.v [] rfl rfl rfl rfl rfl rfl (fun _ => mv rfl) (.v [(23, .pointer (some pv6))] rfl rfl rfl rfl rfl rfl (fun _ => nck rfl) (.v [(24, .pointer (some pv6))] rfl rfl rfl rfl rfl rfl (fun _ => fa rfl tF161_0) (.v [(25, .pointer (some (pv6.add 0)))] rfl rfl rfl rfl rfl rfl (fun _ => ld1 rfl tO62 (cellB (off := 0) (k := 0) rfl rfl)) (.nil))))))))) (.cons [(22, .map (some bv3)), (26, .int .u32 1)] rfl rfl (fun sL hL => ?_) (.nil))
 refine dlI tMR153 rfl rfl (q := 4) rfl rfl ?_
 refine .nil ?_
 refine .jaN (M := [3, 7, 2, 6, 1, 5, 0, 4]) (C' := []) (pre := []) [0, 5] hL rfl rfl rfl rfl rfl (by kernel_rfl) ?_
 refine .last [(19, .pointer (some pv4)), (20, .pointer (some pv4)), (21, .pointer (some (pv4.add 1))), (22, .map (some bv3)), (23, .pointer (some pv6)), (24, .pointer (some pv6)), (25, .pointer (some (pv6.add 0))), (26, .int .u32 1)] rfl (by kernel_rfl) (.nil) rfl ?_
 refine .seqN (.seq ?_)
 refine .openA (s0 := [(5, .pointer (some pv6))]) [0, 1, 2, 3, 4, 5, 6, 7, 8, 9, 10] [(0, .pointer (some pv6)), (1, .pointer (some pv6)), (2, .pointer (some (pv6.add 0))), (3, .int .u32 1), (4, .pointer (some pv6)), (5, .pointer (some pv6)), (6, .pointer (some (pv6.add 1))), (7, iV 3), (8, .int .u32 1), (9, iV 3), (10, .bool true)] (by kernel_rfl) sb [5] [] rfl (by kernel_rfl) ?_
 refine .last [(27, .pointer (some pv6)), (28, .pointer (some pv6)), (29, .pointer (some (pv6.add 0))), (30, .int .u32 1), (31, .pointer (some pv6)), (32, .pointer (some pv6)), (33, .pointer (some (pv6.add 1))), (34, iV 3), (2, .int .u32 1), (3, iV 3), (4, .bool true)] rfl (by kernel_rfl) (.v [] rfl rfl rfl rfl rfl rfl (fun _ => mv rfl) (.v [(27, .pointer (some pv6))] rfl rfl rfl rfl rfl rfl (fun _ => nck rfl) (.v [(28, .pointer (some pv6))] rfl rfl rfl rfl rfl rfl (fun _ => fa rfl tF161_0) (.v [(29, .pointer (some (pv6.add 0)))] rfl rfl rfl rfl rfl rfl (fun _ => ld1 rfl tO62 (cellB (off := 0) (k := 0) rfl rfl)) (.v [] rfl rfl rfl rfl rfl rfl (fun _ => mv rfl) (.v [(31, .pointer (some pv6))] rfl rfl rfl rfl rfl rfl (fun _ => nck rfl) (.v [(32, .pointer (some pv6))] rfl rfl rfl rfl rfl rfl (fun _ => fa rfl tF161_1) (.v [(33, .pointer (some (pv6.add 1)))] rfl rfl rfl rfl rfl rfl (fun _ => ld1 rfl tO3 (cellB (off := 1) (k := 0) rfl rfl)) (.v [(30, .int .u32 1), (27, .pointer (some pv6)), (28, .pointer (some pv6)), (29, .pointer (some (pv6.add 0))), (30, .int .u32 1)] rfl rfl rfl rfl rfl rfl (fun _ => asg rfl) (.v [(34, iV 3), (2, .int .u32 1), (27, .pointer (some pv6)), (28, .pointer (some pv6)), (29, .pointer (some (pv6.add 0))), (30, .int .u32 1), (31, .pointer (some pv6)), (32, .pointer (some pv6)), (33, .pointer (some (pv6.add 1))), (34, iV 3), (2, .int .u32 1)] rfl rfl rfl rfl rfl rfl (fun _ => asg rfl) (.v [(3, iV 3), (27, .pointer (some pv6)), (28, .pointer (some pv6)), (29, .pointer (some (pv6.add 0))), (30, .int .u32 1), (31, .pointer (some pv6)), (32, .pointer (some pv6)), (33, .pointer (some (pv6.add 1))), (34, iV 3), (2, .int .u32 1), (3, iV 3)] rfl rfl rfl rfl rfl rfl (fun _ => asg rfl) (.nil)))))))))))) rfl ?_
 refine .seqN (.ret ?_)
 refine .res3 rfl (rvT rfl) (rvT rfl) (rvT rfl) (inl_back (v := .tuple #[.int .u32 1, iV 3, .bool true]) q74 rfl ?_)
 refine .V mv0 ?_
 refine .V (ext rfl rfl) ?_
 refine .V (ext rfl rfl) ?_
 refine .V (ext rfl rfl) ?_
 refine .V ag0 ?_
 refine .V ag0 ?_
 refine .V ag0 ?_
 refine .nil (.seqN (.seq (.region (.V (ld1 rfl tO87 (cellB (off := 0) (k := 6) rfl rfl)) ?_))))
 refine .V mv0 ?_
 refine .V (lkI (enc := fun v : Value => v) (m := ([(2, .slice a15 1 c6)] : List (Int × Value))) (k := 1) (.slice none 0 0) tMR87 rfl rfl (q := 7) rfl) ?_
 refine .V (ln rfl tS97.is) ?_
 refine .V mv0 ?_
 refine .nil (.seqN (.block ?_))
 refine .rounds 90 ?_
 refine .seq (.region (.V bi0 ?_))
 refine .nil (.seqN (.seq ?_))
 refine .cond rfl (fun e => absurd (e.symm.trans rfl) (by decide)) (fun _ => ?_)
 refine .exit (.seqX (.seqX (.blkX (.blkN ?_))))
 refine .more ?_
 refine .sub (s' := [(5, .pointer (some pback)), (6, .map (some bv2)), (7, .pointer (some pv4))]) sb ?_
 refine .sel0 [1, 2, 3, 4, 5, 6, 7, 8, 9] (by decide) rfl ?_
 refine .KA [OwnSl 158 1 a37 0 c8 [], OwnSl 99 2 a15 1 c6 [.int .u32 1, iV 3], Box pv4 [.slice a37 0 c8, .map (some bv3), iV 2], OwnMapI bv3 .u32 (fun v : Value => v) ([] : List (Int × Value)), OwnMapI bv2 .u32 (fun v : Value => v) ([(1, iV 3), (2, iV 0)] : List (Int × Value)), Box pback [.map (some bv)], OwnMapI bv .u32 (fun v : Value => v) ([(2, .slice a15 1 c6)] : List (Int × Value)), MkA (D2 :: D :: []), Box pv [iV 0, iV 0]] ?_
 refine .seq (.seq (.region (.V mv0 ?_)))
 refine .inl Tryz.func49 rfl Tryz.ntmps49 Tryz.call49 rfl rfl rfl rfl (fun a47 q81 => ?_)
 refine .KA [OwnSl 158 1 a37 0 c8 [], OwnSl 99 2 a15 1 c6 [.int .u32 1, iV 3], Box pv4 [.slice a37 0 c8, .map (some bv3), iV 2], OwnMapI bv3 .u32 (fun v : Value => v) ([] : List (Int × Value)), OwnMapI bv2 .u32 (fun v : Value => v) ([(1, iV 3), (2, iV 0)] : List (Int × Value)), Box pback [.map (some bv)], OwnMapI bv .u32 (fun v : Value => v) ([(2, .slice a15 1 c6)] : List (Int × Value)), MkA (D2 :: D :: []), Box pv [iV 0, iV 0]] ?_
 refine .seq (.region (.V ag0 ?_))
 refine .nil (.seqN (.seq (.region (.V mv0 ?_))))
 refine .V (nck rfl) ?_
 refine .V (fa rfl tF157_0) ?_
 refine .V (ld1 rfl tO155 (cellB (off := 0) (k := 2) rfl rfl)) ?_
 refine .V (ln rfl tS155.is) ?_
 refine .V ag0 ?_
 refine .nil (.seqN (.ret ?_))
 refine .res1 rfl (rvT rfl) (inl_back (v := iV 0) q81 rfl ?_)
 refine .V bi0 ?_
 refine .nil (.seqN ?_)
 refine .cond rfl (fun e => absurd (e.symm.trans rfl) (by decide)) (fun _ => ?_)
 refine .exit (.seqX (.seqX (.blkX (.seqN (.seq (.region (.V mv0 ?_)))))))
 refine .V ag0 ?_
 refine .nil (.seqN (.ret ?_))
 refine .resM (k := 7) rfl ?_
 refine .res1 rfl (rvT rfl) (inl_back (v := .map (some bv2)) q40 rfl ?_)
 refine .V mv0 ?_
 refine .inl Tryz.func22 rfl Tryz.ntmps22 Tryz.call22 rfl rfl rfl rfl (fun a48 q82 => ?_)
 refine .sel0 [4, 8] (by decide) rfl ?_
 refine .KA [OwnMapI bv2 .u32 (fun v : Value => v) ([(1, iV 3), (2, iV 0)] : List (Int × Value)), Box pv [iV 0, iV 0]] ?_
 refine .seq (.region (.V ag0 ?_))
 refine .nil (.seqN (.seq (.region (.V mv0 ?_))))
 refine .V (nck rfl) ?_
 refine .V (fa rfl tF105_0) ?_
 refine .V (ld1 (v := .int .u32 1) rfl tO62 (cellH (CellsAt.mono (FH.le_refl _) q35 0 _ rfl))) ?_
 refine .V ag0 ?_
 refine .nil (.seqN (.ret ?_))
 refine .res1 rfl (rvT rfl) (inl_back (v := .int .u32 1) q82 rfl ?_)
 refine .V (lkI (enc := fun v : Value => v) (m := ([(1, iV 3), (2, iV 0)] : List (Int × Value))) (k := 1) (iV 0) tMR60 rfl rfl (q := 0) rfl) ?_
 refine .V (bld (cs := #[iV 0, iV 0]) (pv := []) tB27 rfl rfl) ?_
 refine .V ag0 ?_
 refine st (p := pv) (off := 0) (k := 1) (vs := [iV 0, iV 0]) rfl rfl rfl (fun w => (tA27 w).2) rfl rfl rfl rfl ?_
 refine .nil (.seqN (.ret ?_))
 refine .res2 rfl (rvT rfl) (rvC rfl tA27 (k := 1) rfl rfl) (fun w' S => ⟨(3, (⟨0, 0⟩ : Fault)), hF, rfl, S.below⟩)
theorem c_optimalK {h : FH} {w : World} (hs : Sub h w) (t : Task) (at_ : Option Addr) (ct : Nat) (_q1 : RSl h at_ t.init) (_q2 : t.init.length ≤ ct) (at_2 : Option Addr) (ct2 : Nat) (_q3 : RSl h at_2 t.goal) (_q4 : t.goal.length ≤ ct2) (at_3 : Option Addr) (ct3 : Nat) (_q5 : RSl h at_3 t.ops) (_q6 : t.ops.length ≤ ct3) (hp : pre_optimalK t) : Calls Tryz.prog 7 #[.agg #[iV t.facts, .slice at_ t.init.length ct, .slice at_2 t.goal.length ct2, .slice at_3 t.ops.length ct3]] w fun e w' => e = .returned (.tuple #[iV (sp_optimalK t).1, .agg #[iV (sp_optimalK t).2.code, iV (sp_optimalK t).2.index]]) ∧ Below w.heap.size w w' :=
 (w_optimalK hs t at_ ct _q1 _q2 at_2 ct2 _q3 _q4 at_3 ct3 _q5 _q6 (fun r => r = sp_optimalK t) (ok_optimalK t hp)).mono fun _ _ ⟨_, hk, he, hb⟩ => ⟨by rw [he, hk], hb⟩
theorem w_kernWorks {h : FH} {w : World} (hs : Sub h w) (K : Bool → Prop) (hF : F_kernWorks  K) : Calls Tryz.prog 6 #[] w fun e w' => ∃ r : Bool, K r ∧ e = .returned (.bool r) ∧ Below w.heap.size w w' := by
 refine enter (args := []) Tryz.func6 rfl Tryz.ntmps6 rfl hs ?_
 refine .seq (.region (.V ag0 ?_))
 refine .nil (.seqN (.seq (.region ?_)))
 refine .inl Tryz.func18 rfl Tryz.ntmps18 Tryz.call18 rfl rfl rfl rfl (fun a q1 => ?_)
 refine .KA [] ?_
 refine .seq (.region ?_)
 refine al tZ25 rfl (fun pv => ?_)
 refine .nil (.seqN (.seq (.region ?_)))
 refine bs2 (cs := #[iV 0]) (pv := [(0, iV 0)]) tS22 rfl rfl (by decide) (by decide) rfl rfl rfl (fun a2 q2 => ?_)
 refine bs2 (cs := #[iV 1]) (pv := [(0, iV 1)]) tS22 rfl rfl (by decide) (by decide) rfl rfl rfl (fun a3 q3 => ?_)
 refine bs2 (cs := #[iV 0]) (pv := [(0, iV 0)]) tS22 rfl rfl (by decide) (by decide) rfl rfl rfl (fun a4 q4 => ?_)
 refine bs2 (cs := #[iV 1]) (pv := [(0, iV 1)]) tS22 rfl rfl (by decide) (by decide) rfl rfl rfl (fun a5 q5 => ?_)
 refine bs2 (cs := #[iV 0]) (pv := [(0, iV 0)]) tS22 rfl rfl (by decide) (by decide) rfl rfl rfl (fun a6 q6 => ?_)
 refine .V (bld (cs := #[.slice a4 1 1, .slice a5 1 1, .slice a6 1 1, iV 3]) (pv := [(0, .slice a4 1 1), (1, .slice a5 1 1), (2, .slice a6 1 1), (3, iV 3)]) tB52 rfl rfl) ?_
 refine bs2 (cs := #[.slice a4 1 1, .slice a5 1 1, .slice a6 1 1, iV 3]) (pv := [(0, .agg #[.slice a4 1 1, .slice a5 1 1, .slice a6 1 1, iV 3])]) tS23 rfl rfl (by decide) (by decide) rfl rfl rfl (fun a7 q7 => ?_)
 refine .V (bld (cs := #[iV 2, .slice a2 1 1, .slice a3 1 1, .slice a7 1 1]) (pv := [(0, iV 2), (1, .slice a2 1 1), (2, .slice a3 1 1), (3, .slice a7 1 1)]) tB25 rfl rfl) ?_
 refine st (p := pv) (off := 0) (k := 6) (vs := [iV 2, .slice a2 1 1, .slice a3 1 1, .slice a7 1 1]) rfl rfl rfl (fun w => (tA25 w).2) rfl rfl rfl rfl ?_
 refine .nil (.seqN (.ret ?_))
 refine .res1 rfl (rvC rfl tA25 (k := 6) rfl rfl) (inl_back (v := .agg #[iV 2, .slice a2 1 1, .slice a3 1 1, .slice a7 1 1]) q1 rfl ?_)
 refine .KA [OwnSl 52 4 a7 1 1 [.slice a4 1 1, .slice a5 1 1, .slice a6 1 1, iV 3], OwnSl 3 1 a6 1 1 [iV 0], OwnSl 3 1 a5 1 1 [iV 1], OwnSl 3 1 a4 1 1 [iV 0], OwnSl 3 1 a3 1 1 [iV 1], OwnSl 3 1 a2 1 1 [iV 0], Box pv [iV 2, .slice a2 1 1, .slice a3 1 1, .slice a7 1 1]] ?_
 refine .freezeL (k := 5) rfl (fun h1 le1 q9 q8 => ?_)
 have q10 : RSl h1 a2 ([0] : List Int) := (RSl.of (xs := ([0] : List Int)) q8)
 refine .freezeL (k := 4) rfl (fun h2 le2 q12 q11 => ?_)
 have q13 : RSl h2 a3 ([1] : List Int) := (RSl.of (xs := ([1] : List Int)) q11)
 refine .freezeL (k := 3) rfl (fun h3 le3 q15 q14 => ?_)
 have q16 : RSl h3 a4 ([0] : List Int) := (RSl.of (xs := ([0] : List Int)) q14)
 refine .freezeL (k := 2) rfl (fun h4 le4 q18 q17 => ?_)
 have q19 : RSl h4 a5 ([1] : List Int) := (RSl.of (xs := ([1] : List Int)) q17)
 refine .freezeL (k := 1) rfl (fun h5 le5 q21 q20 => ?_)
 have q22 : RSl h5 a6 ([0] : List Int) := (RSl.of (xs := ([0] : List Int)) q20)
 refine .freezeL (k := 0) rfl (fun h6 le6 q24 q23 => ?_)
 have q25 : RSl h6 a7 ([(⟨([0] : List Int), ([1] : List Int), ([0] : List Int), 3⟩ : Operator)] : List Operator) := (show RSl h6 a7 ([(⟨([0] : List Int), ([1] : List Int), ([0] : List Int), 3⟩ : Operator)] : List Operator) from ⟨_, RepL.mono (le6) (show RepL h5 ([(⟨([0] : List Int), ([1] : List Int), ([0] : List Int), 3⟩ : Operator)] : List Operator) [.slice a4 1 1, .slice a5 1 1, .slice a6 1 1, iV 3] from ⟨[.slice a4 1 1, .slice a5 1 1, .slice a6 1 1, iV 3], _, rfl, ⟨a4, 1, a5, 1, a6, 1, rfl, ⟨(show ([0] : List Int).length ≤ 1 from q15), (q16.mono (FH.le_trans (le4) (le5)))⟩, ⟨(show ([1] : List Int).length ≤ 1 from q18), (q19.mono (le5))⟩, ⟨(show ([0] : List Int).length ≤ 1 from q21), q22⟩⟩, rfl⟩), q23⟩)
 obtain ⟨q26, hF⟩ := hF
 obtain ⟨r2, q27⟩ : ∃ y_ : Int × Fault, y_ = sp_optimalK (⟨2, ([0] : List Int), ([1] : List Int), ([(⟨([0] : List Int), ([1] : List Int), ([0] : List Int), 3⟩ : Operator)] : List Operator)⟩ : Task) := ⟨_, rfl⟩
 replace hF := hF r2 q27
 have q28 : sp_optimalK (⟨2, ([0] : List Int), ([1] : List Int), ([(⟨([0] : List Int), ([1] : List Int), ([0] : List Int), 3⟩ : Operator)] : List Operator)⟩ : Task) = (3, (⟨0, 0⟩ : Fault)) := by decide +kernel
 refine .C (cl (v := .tuple #[iV 3, .agg #[iV 0, iV 0]]) Tryz.call7 rfl rfl (fun w S => (by have h_ := c_optimalK S.sub (⟨2, ([0] : List Int), ([1] : List Int), ([(⟨([0] : List Int), ([1] : List Int), ([0] : List Int), 3⟩ : Operator)] : List Operator)⟩ : Task) a2 1 (q10.mono (FH.le_trans (FH.le_trans (FH.le_trans (FH.le_trans (le2) (le3)) (le4)) (le5)) (le6))) (show ([0] : List Int).length ≤ 1 from q9) a3 1 (q13.mono (FH.le_trans (FH.le_trans (FH.le_trans (le3) (le4)) (le5)) (le6))) (show ([1] : List Int).length ≤ 1 from q12) a7 1 q25 (show ([(⟨([0] : List Int), ([1] : List Int), ([0] : List Int), 3⟩ : Operator)] : List Operator).length ≤ 1 from q24) q26; rw [q28] at h_; exact h_))) ?_
 refine .V mv0 ?_
 refine .V (ext rfl rfl) ?_
 refine .V (ext rfl rfl) ?_
 refine al tZ27 rfl (fun pf => ?_)
 refine .V ag0 ?_
 refine st (p := pf) (off := 0) (k := 0) (vs := [iV 0, iV 0]) rfl rfl rfl (fun w => (tA27 w).2) rfl rfl rfl rfl ?_
 refine .nil (.seqN (.seq (.region ?_)))
 refine .inl Tryz.func18 rfl Tryz.ntmps18 Tryz.call18 rfl rfl rfl rfl (fun a8 q29 => ?_)
 refine .sel0 [0] (by decide) rfl ?_
 refine .KA [Box pf [iV 0, iV 0]] ?_
 refine .seq (.region ?_)
 refine al tZ25 rfl (fun pv2 => ?_)
 refine .nil (.seqN (.seq (.region ?_)))
 refine bs2 (cs := #[iV 0]) (pv := [(0, iV 0)]) tS22 rfl rfl (by decide) (by decide) rfl rfl rfl (fun a9 q30 => ?_)
 refine bs2 (cs := #[iV 1]) (pv := [(0, iV 1)]) tS22 rfl rfl (by decide) (by decide) rfl rfl rfl (fun a10 q31 => ?_)
 refine bs2 (cs := #[iV 0]) (pv := [(0, iV 0)]) tS22 rfl rfl (by decide) (by decide) rfl rfl rfl (fun a11 q32 => ?_)
 refine bs2 (cs := #[iV 1]) (pv := [(0, iV 1)]) tS22 rfl rfl (by decide) (by decide) rfl rfl rfl (fun a12 q33 => ?_)
 refine bs2 (cs := #[iV 0]) (pv := [(0, iV 0)]) tS22 rfl rfl (by decide) (by decide) rfl rfl rfl (fun a13 q34 => ?_)
 refine .V (bld (cs := #[.slice a11 1 1, .slice a12 1 1, .slice a13 1 1, iV 3]) (pv := [(0, .slice a11 1 1), (1, .slice a12 1 1), (2, .slice a13 1 1), (3, iV 3)]) tB52 rfl rfl) ?_
 refine bs2 (cs := #[.slice a11 1 1, .slice a12 1 1, .slice a13 1 1, iV 3]) (pv := [(0, .agg #[.slice a11 1 1, .slice a12 1 1, .slice a13 1 1, iV 3])]) tS23 rfl rfl (by decide) (by decide) rfl rfl rfl (fun a14 q35 => ?_)
 refine .V (bld (cs := #[iV 2, .slice a9 1 1, .slice a10 1 1, .slice a14 1 1]) (pv := [(0, iV 2), (1, .slice a9 1 1), (2, .slice a10 1 1), (3, .slice a14 1 1)]) tB25 rfl rfl) ?_
 refine st (p := pv2) (off := 0) (k := 6) (vs := [iV 2, .slice a9 1 1, .slice a10 1 1, .slice a14 1 1]) rfl rfl rfl (fun w => (tA25 w).2) rfl rfl rfl rfl ?_
 refine .nil (.seqN (.ret ?_))
 refine .res1 rfl (rvC rfl tA25 (k := 6) rfl rfl) (inl_back (v := .agg #[iV 2, .slice a9 1 1, .slice a10 1 1, .slice a14 1 1]) q29 rfl ?_)
 refine .KA [OwnSl 52 4 a14 1 1 [.slice a11 1 1, .slice a12 1 1, .slice a13 1 1, iV 3], OwnSl 3 1 a13 1 1 [iV 0], OwnSl 3 1 a12 1 1 [iV 1], OwnSl 3 1 a11 1 1 [iV 0], OwnSl 3 1 a10 1 1 [iV 1], OwnSl 3 1 a9 1 1 [iV 0], Box pv2 [iV 2, .slice a9 1 1, .slice a10 1 1, .slice a14 1 1], Box pf [iV 0, iV 0]] ?_
 refine bs2 (cs := #[iV 0]) (pv := [(0, iV 0)]) tS22 rfl rfl (by decide) (by decide) rfl rfl rfl (fun a15 q36 => ?_)
 refine .freezeL (k := 6) rfl (fun h7 le7 q38 q37 => ?_)
 have q39 : RSl h7 a9 ([0] : List Int) := (RSl.of (xs := ([0] : List Int)) q37)
 refine .freezeL (k := 5) rfl (fun h8 le8 q41 q40 => ?_)
 have q42 : RSl h8 a10 ([1] : List Int) := (RSl.of (xs := ([1] : List Int)) q40)
 refine .freezeL (k := 4) rfl (fun h9 le9 q44 q43 => ?_)
 have q45 : RSl h9 a11 ([0] : List Int) := (RSl.of (xs := ([0] : List Int)) q43)
 refine .freezeL (k := 3) rfl (fun h10 le10 q47 q46 => ?_)
 have q48 : RSl h10 a12 ([1] : List Int) := (RSl.of (xs := ([1] : List Int)) q46)
 refine .freezeL (k := 2) rfl (fun h11 le11 q50 q49 => ?_)
 have q51 : RSl h11 a13 ([0] : List Int) := (RSl.of (xs := ([0] : List Int)) q49)
 refine .freezeL (k := 1) rfl (fun h12 le12 q53 q52 => ?_)
 have q54 : RSl h12 a14 ([(⟨([0] : List Int), ([1] : List Int), ([0] : List Int), 3⟩ : Operator)] : List Operator) := (show RSl h12 a14 ([(⟨([0] : List Int), ([1] : List Int), ([0] : List Int), 3⟩ : Operator)] : List Operator) from ⟨_, RepL.mono (le12) (show RepL h11 ([(⟨([0] : List Int), ([1] : List Int), ([0] : List Int), 3⟩ : Operator)] : List Operator) [.slice a11 1 1, .slice a12 1 1, .slice a13 1 1, iV 3] from ⟨[.slice a11 1 1, .slice a12 1 1, .slice a13 1 1, iV 3], _, rfl, ⟨a11, 1, a12, 1, a13, 1, rfl, ⟨(show ([0] : List Int).length ≤ 1 from q44), (q45.mono (FH.le_trans (le10) (le11)))⟩, ⟨(show ([1] : List Int).length ≤ 1 from q47), (q48.mono (le11))⟩, ⟨(show ([0] : List Int).length ≤ 1 from q50), q51⟩⟩, rfl⟩), q52⟩)
 refine .freezeL (k := 0) rfl (fun h13 le13 q56 q55 => ?_)
 have q57 : RSl h13 a15 ([0] : List Int) := (RSl.of (xs := ([0] : List Int)) q55)
 refine .KA [tru, tru, tru, tru, tru, tru, tru, Box pv2 [iV 2, .slice a9 1 1, .slice a10 1 1, .slice a14 1 1], Box pf [iV 0, iV 0]] ?_
 obtain ⟨r3, q58⟩ : ∃ y_ : Bool × Fault, y_ = sp_solves (⟨2, ([0] : List Int), ([1] : List Int), ([(⟨([0] : List Int), ([1] : List Int), ([0] : List Int), 3⟩ : Operator)] : List Operator)⟩ : Task) ([0] : List Int) := ⟨_, rfl⟩
 replace hF := hF r3 q58
 have q59 : sp_solves (⟨2, ([0] : List Int), ([1] : List Int), ([(⟨([0] : List Int), ([1] : List Int), ([0] : List Int), 3⟩ : Operator)] : List Operator)⟩ : Task) ([0] : List Int) = (true, (⟨0, 0⟩ : Fault)) := by decide +kernel
 refine .C (cl (v := .tuple #[.bool true, .agg #[iV 0, iV 0]]) Tryz.call19 rfl rfl (fun w S => (by have h_ := c_solves S.sub (⟨2, ([0] : List Int), ([1] : List Int), ([(⟨([0] : List Int), ([1] : List Int), ([0] : List Int), 3⟩ : Operator)] : List Operator)⟩ : Task) a9 1 (q39.mono (FH.le_trans (FH.le_trans (FH.le_trans (FH.le_trans (FH.le_trans (le8) (le9)) (le10)) (le11)) (le12)) (le13))) (show ([0] : List Int).length ≤ 1 from q38) a10 1 (q42.mono (FH.le_trans (FH.le_trans (FH.le_trans (FH.le_trans (le9) (le10)) (le11)) (le12)) (le13))) (show ([1] : List Int).length ≤ 1 from q41) a14 1 (q54.mono (le13)) (show ([(⟨([0] : List Int), ([1] : List Int), ([0] : List Int), 3⟩ : Operator)] : List Operator).length ≤ 1 from q53) ([0] : List Int) a15 1 q57 (show ([0] : List Int).length ≤ 1 from q56) ; rw [q59] at h_; exact h_))) ?_
 refine .V mv0 ?_
 refine .V (ext rfl rfl) ?_
 refine .V (ext rfl rfl) ?_
 refine al tZ27 rfl (fun pg => ?_)
 refine .V ag0 ?_
 refine st (p := pg) (off := 0) (k := 0) (vs := [iV 0, iV 0]) rfl rfl rfl (fun w => (tA27 w).2) rfl rfl rfl rfl ?_
 refine .nil (.seqN (.seq (.region (.V (fa rfl tF27_0) ?_))))
 refine .V (ld1 rfl tO3 (cellB (off := 0) (k := 9) rfl rfl)) ?_
 refine .V bi0 ?_
 refine .V mv0 ?_
 refine .gv (fa rfl tF27_0) rfl rfl rfl rfl rfl rfl ?_
 refine .gv (ld1 rfl tO3 (cellB (off := 0) (k := 0) rfl rfl)) rfl rfl rfl rfl rfl rfl ?_
 refine .gv bi0 rfl rfl rfl rfl rfl rfl ?_
 refine .V (pkT rfl rfl rfl) ?_
 refine .V mv0 ?_
 refine .gv mv0 rfl rfl rfl rfl rfl rfl ?_
 refine .gv bi0 rfl rfl rfl rfl rfl rfl ?_
 refine .V (pkT rfl rfl rfl) ?_
 refine .V mv0 ?_
 refine .gv mv0 rfl rfl rfl rfl rfl rfl ?_
 refine .V (pkT rfl rfl rfl) ?_
 refine .V ag0 ?_
 refine .nil (.seqN (.ret ?_))
 refine .res1 rfl (rvT rfl) (fun w' S => ⟨true, hF, rfl, S.below⟩)
theorem c_kernWorks {h : FH} {w : World} (hs : Sub h w) : Calls Tryz.prog 6 #[] w fun e w' => e = .returned (.bool (sp_kernWorks)) ∧ Below w.heap.size w w' :=
 (w_kernWorks hs  (fun r => r = sp_kernWorks) (ok_kernWorks )).mono fun _ _ ⟨_, hk, he, hb⟩ => ⟨by rw [he, hk], hb⟩
end Go.Proofs.YtimillpakjgnoaaGreat.Pl

namespace Go.Proofs.YtimillpakjgnoaaGreat.Pl
open Go Go.RowKit
theorem w_index {h : FH} {w : World} (hs : Sub h w) (s_ : List Int) (as_ : Option Addr) (cs_ : Nat) (_q1 : RSl h as_ s_) (_q2 : s_.length ≤ cs_) (v : Int) (K : Int → Prop) (hF : F_index s_ v K) : Calls Tryz.prog 116 #[.slice as_ s_.length cs_, iV v] w fun e w' => ∃ r : Int, K r ∧ e = .returned (iV r) ∧ Below w.heap.size w w' := by
 refine enter (args := [vSl as_ s_ cs_, iV v]) Tryz.func116 rfl Tryz.ntmps116 rfl hs ?_
 refine .seq (.region (.V ag0 ?_))
 refine .nil (.seqN (.seq (.seq (.region (.V mv0 ?_)))))
 refine .V (ln rfl tS22.is) ?_
 refine .V mv0 ?_
 refine .nil (.seqN (.block ?_))
 obtain ⟨I1, μ1, q50, q51⟩ := hF
 refine .loop' (σ := Int) (fun z => I1 z) (fun z => μ1 z) (fun z => [(0, vSl as_ s_ cs_), (1, iV v), (7, iV ((s_.length : Nat) : Int)), (8, iV z)]) (fun _ => []) (fun _ => h) 0 q50 sb rfl (FH.le_refl _) ?_
 rintro t8 q50
 have hF := q51 t8 q50
 show J _ _ _ _ _ [(0, vSl as_ s_ cs_), (1, iV v), (7, iV ((s_.length : Nat) : Int)), (8, iV t8)] [] h
 refine .seq (.region (.V bi0 ?_))
 refine .nil (.seqN (.seq ?_))
 refine .cond rfl (fun q54 => ?_) (fun q54 => ?_)
 ·replace hF := hF.1 q54
  refine .skip (.seqN (.seq (.block (.seq (.region (.V mv0 ?_))))))
  refine .V ag0 ?_
  refine .nil (.seqN (.seq (.region (.V mv0 ?_))))
  refine .V mv0 ?_
  refine .V mv0 ?_
  obtain ⟨q59, hF⟩ := hF
  refine .V (ix rfl rfl tS22 (_q1.ne (by decide) (inb_pos q59)) q59) ?_
  refine .V (ld1 (v := iV (gt s_ t8)) rfl tO3 (cellH (_q1.elemF q59 (by decide) 0 _ rfl))) ?_
  refine .V bi0 ?_
  refine .nil (.seqN ?_)
  refine .cond rfl (fun q60 => ?_) (fun q60 => ?_)
  ·replace hF := hF.1 q60
   refine .seq (.region (.V mv0 ?_))
   refine .V ag0 ?_
   refine .nil (.seqN (.ret (.blkR (.seqR (.seqR (.blkR (.seqR ?_)))))))
   refine .res1 rfl (rvT rfl) (fun w' S => ⟨t8, hF, rfl, S.below⟩)
  replace hF := hF.2 q60
  refine .skip (.blkN (.seqN (.region (.V bi0 ?_))))
  refine .V mv0 ?_
  refine .nil ?_
  exact .RO (wr (t8 + 1)) hF.1 hF.2
 replace hF := hF.2 q54
 refine .exit (.seqX (.seqX (.blkX (.seqN (.seq (.region (.V ag0 ?_)))))))
 refine .nil (.seqN (.ret ?_))
 refine .res1 rfl (rvT rfl) (fun w' S => ⟨(-1), hF, rfl, S.below⟩)
theorem c_index {h : FH} {w : World} (hs : Sub h w) (s_ : List Int) (as_ : Option Addr) (cs_ : Nat) (_q1 : RSl h as_ s_) (_q2 : s_.length ≤ cs_) (v : Int) (hp : pre_index s_ v) : Calls Tryz.prog 116 #[.slice as_ s_.length cs_, iV v] w fun e w' => e = .returned (iV (sp_index s_ v)) ∧ Below w.heap.size w w' :=
 (w_index hs s_ as_ cs_ _q1 _q2 v (fun r => r = sp_index s_ v) (ok_index s_ v hp)).mono fun _ _ ⟨_, hk, he, hb⟩ => ⟨by rw [he, hk], hb⟩
theorem w_contains {h : FH} {w : World} (hs : Sub h w) (s_ : List Int) (as_ : Option Addr) (cs_ : Nat) (_q1 : RSl h as_ s_) (_q2 : s_.length ≤ cs_) (v : Int) (K : Bool → Prop) (hF : F_contains s_ v K) : Calls Tryz.prog 89 #[.slice as_ s_.length cs_, iV v] w fun e w' => ∃ r : Bool, K r ∧ e = .returned (.bool r) ∧ Below w.heap.size w w' := by
 refine enter (args := [vSl as_ s_ cs_, iV v]) Tryz.func89 rfl Tryz.ntmps89 rfl hs ?_
 refine .seq (.region (.V ag0 ?_))
 refine .nil (.seqN (.seq (.region (.V mv0 ?_))))
 refine .V mv0 ?_
 obtain ⟨q3, hF⟩ := hF
 obtain ⟨r2, q4⟩ : ∃ y_ : Int, y_ = sp_index s_ v := ⟨_, rfl⟩
 replace hF := hF r2 q4
 refine .C (cl (v := iV r2) Tryz.call116 rfl rfl (fun w S => (by rw [q4]; exact c_index S.sub s_ as_ cs_ _q1 _q2 v q3))) ?_
 refine .V bi0 ?_
 refine .V ag0 ?_
 refine .nil (.seqN (.ret ?_))
 refine .res1 rfl (rvT rfl) (fun w' S => ⟨decide (0 ≤ r2), hF, rfl, S.below⟩)
theorem c_contains {h : FH} {w : World} (hs : Sub h w) (s_ : List Int) (as_ : Option Addr) (cs_ : Nat) (_q1 : RSl h as_ s_) (_q2 : s_.length ≤ cs_) (v : Int) (hp : pre_index s_ v) : Calls Tryz.prog 89 #[.slice as_ s_.length cs_, iV v] w fun e w' => e = .returned (.bool (sp_contains s_ v)) ∧ Below w.heap.size w w' :=
 (w_contains hs s_ as_ cs_ _q1 _q2 v (fun r => r = sp_contains s_ v) (ok_contains s_ v hp)).mono fun _ _ ⟨_, hk, he, hb⟩ => ⟨by rw [he, hk], hb⟩
theorem w_image {h : FH} {w : World} (hs : Sub h w) (perm : List Int) (aperm : Option Addr) (cperm : Nat) (_q1 : RSl h aperm perm) (_q2 : perm.length ≤ cperm) (s_ : List Int) (as_ : Option Addr) (cs_ : Nat) (_q3 : RSl h as_ s_) (_q4 : s_.length ≤ cs_) (K : (List Int) → Prop) (hF : F_image perm s_ K) : Calls Tryz.prog 28 #[.slice aperm perm.length cperm, .slice as_ s_.length cs_] w fun e w' => ∃ (r : List Int) (z : Option Addr × Nat) (h1 : FH), K r ∧ e = .returned (.slice z.1 r.length z.2) ∧ FH.le h h1 ∧ (RSl h1 z.1 r ∧ r.length ≤ z.2) ∧ SH (Kp.all w h) h1 w' [] := by
 refine enter (args := [vSl aperm perm cperm, vSl as_ s_ cs_]) Tryz.func28 rfl Tryz.ntmps28 rfl hs ?_
 refine .seq (.region (.V ag0 ?_))
 refine .nil (.seqN (.seq (.region (.V ag0 ?_))))
 refine .nil (.seqN (.seq (.seq (.region (.V mv0 ?_)))))
 refine .V (ln rfl tS22.is) ?_
 refine .V mv0 ?_
 refine .nil (.seqN (.block ?_))
 refine .nilSl 3 1 ?_
 refine .KA [oL 3 1 none ([] : List Int) 0] ?_
 obtain ⟨I1, μ1, q97, q98⟩ := hF
 refine .loop' (σ := Int × List Int × Option Addr × Nat) (fun z => I1 z.1 z.2.1) (fun z => μ1 z.1 z.2.1) (fun z => [(0, vSl aperm perm cperm), (5, vSl z.2.2.1 z.2.1 z.2.2.2), (8, vSl as_ s_ cs_), (9, iV ((s_.length : Nat) : Int)), (10, iV z.1)]) (fun z => [oL 3 1 z.2.2.1 z.2.1 z.2.2.2]) (fun _ => h) (0, ([] : List Int), none, 0) q97 sb rfl (FH.le_refl _) ?_
 rintro ⟨t10, out, aout, cout⟩ q97
 have hF := q98 t10 out q97
 show J _ _ _ _ _ [(0, vSl aperm perm cperm), (5, vSl aout out cout), (8, vSl as_ s_ cs_), (9, iV ((s_.length : Nat) : Int)), (10, iV t10)] [oL 3 1 aout out cout] h
 refine .seq (.region (.V bi0 ?_))
 refine .nil (.seqN (.seq ?_))
 refine .cond rfl (fun q101 => ?_) (fun q101 => ?_)
 ·replace hF := hF.1 q101
  refine .skip (.seqN (.seq (.block (.seq (.region ?_)))))
  obtain ⟨q112, hF⟩ := hF
  refine .V (ix rfl rfl tS22 (_q3.ne (by decide) (inb_pos q112)) q112) ?_
  refine .V (ld1 (v := iV (gt s_ t10)) rfl tO3 (cellH (_q3.elemF q112 (by decide) 0 _ rfl))) ?_
  refine .V ag0 ?_
  refine .nil (.seqN (.region (.V mv0 ?_)))
  refine .V mv0 ?_
  refine .V mv0 ?_
  obtain ⟨q113, hF⟩ := hF
  refine .V (ix rfl rfl tS22 (_q1.ne (by decide) (inb_pos q113)) q113) ?_
  refine .V (ld1 (v := iV (gt perm (gt s_ t10))) rfl tO3 (cellH (_q1.elemF q113 (by decide) 0 _ rfl))) ?_
  refine bs2 (cs := #[iV (gt perm (gt s_ t10))]) (pv := [(0, iV (gt perm (gt s_ t10)))]) tS22 rfl rfl (by decide) (by decide) rfl rfl rfl (fun a _ => ?_)
  refine .KA [oL 3 1 a ([(gt perm (gt s_ t10))] : List Int) 1, oL 3 1 aout out cout] ?_
  obtain ⟨q115, hF⟩ := hF
  have q116 : out.length + ([(gt perm (gt s_ t10))] : List Int).length = ((out ++ ([(gt perm (gt s_ t10))] : List Int))).length := len_app rfl rfl
  refine app (k := 1) (news := flL ([(gt perm (gt s_ t10))] : List Int)) (cs' := flL (out ++ ([(gt perm (gt s_ t10))] : List Int))) (nm := ((out ++ ([(gt perm (gt s_ t10))] : List Int))).length) tS22 rfl (by decide) rfl rfl rfl ((flL_len _).trans rfl) (srcS (k := 0) rfl) (flL_one _) (room_of q116 q115).1 (room_of q116 q115).2 q116 (flL_append _ _).symm rfl (fun a2 c => ?_)
  refine .KA [oL 3 1 a ([(gt perm (gt s_ t10))] : List Int) 1, oL 3 1 a2 (out ++ ([(gt perm (gt s_ t10))] : List Int)) c] ?_
  refine .V ag0 ?_
  refine .nil (.blkN (.seqN (.region (.V bi0 ?_))))
  refine .V mv0 ?_
  refine .nil ?_
  refine .sel0 [1] (by decide) rfl ?_
  exact .RO (wr (t10 + 1), (out ++ ([(gt perm (gt s_ t10))] : List Int)), a2, c) hF.1 hF.2
 replace hF := hF.2 q101
 refine .exit (.seqX (.seqX (.blkX (.seqN (.seq (.region (.V mv0 ?_)))))))
 obtain ⟨q117, hF⟩ := hF
 obtain ⟨r2, q118⟩ : ∃ y_ : List Int, y_ = sp_sort out := ⟨_, rfl⟩
 replace hF := hF r2 q118
 refine callX (k := 0) (v := .tuple #[]) (X' := OwnSl 3 1 aout out.length cout (flL r2)) rfl Tryz.call62 rfl rfl (fun w g hx sg hd hs' => ?_) rfl ?_
 ·rw [q118]; exact c_sort hs' out aout cout hx sg hd q117
 have q119 : r2.length = out.length := by rw [q118]; exact (sort_len out).trans rfl
 refine .KA [OwnSl 3 1 aout out.length cout (flL r2)] ?_
 refine .nil (.seqN (.seq (.region (.V mv0 ?_))))
 refine .V ag0 ?_
 refine .nil (.seqN ?_)
 refine .freezeL (k := 0) rfl (fun h1 le1 q121 q120 => ?_)
 refine .KA [tru] ?_
 refine .ret ?_
 refine .res1 rfl (rvT rfl) (fun w' S => ⟨r2, (aout, cout), h1, hF, (by simp only [q119] <;> rfl), (le1), ⟨(RSl.of q120), (by rw [q119]; exact q121)⟩, S.none⟩)
theorem c_image {h : FH} {w : World} (hs : Sub h w) (perm : List Int) (aperm : Option Addr) (cperm : Nat) (_q1 : RSl h aperm perm) (_q2 : perm.length ≤ cperm) (s_ : List Int) (as_ : Option Addr) (cs_ : Nat) (_q3 : RSl h as_ s_) (_q4 : s_.length ≤ cs_) (hp : pre_image perm s_) : Calls Tryz.prog 28 #[.slice aperm perm.length cperm, .slice as_ s_.length cs_] w fun e w' => ∃ (z : Option Addr × Nat) (h1 : FH), e = .returned (.slice z.1 (sp_image perm s_).length z.2) ∧ FH.le h h1 ∧ (RSl h1 z.1 (sp_image perm s_) ∧ (sp_image perm s_).length ≤ z.2) ∧ SH (Kp.all w h) h1 w' [] :=
 (w_image hs perm aperm cperm _q1 _q2 s_ as_ cs_ _q3 _q4 (fun r => r = sp_image perm s_) (ok_image perm s_ hp)).mono fun _ _ ⟨r, z, h1, hk, he, hl, hf, hS⟩ => by subst hk; exact ⟨z, h1, he, hl, hf, hS⟩
theorem w_opEqual {h : FH} {w : World} (hs : Sub h w) (a : Operator) (aa : Option Addr) (ca : Nat) (_q1 : RSl h aa a.pre) (_q2 : a.pre.length ≤ ca) (aa2 : Option Addr) (ca2 : Nat) (_q3 : RSl h aa2 a.add) (_q4 : a.add.length ≤ ca2) (aa3 : Option Addr) (ca3 : Nat) (_q5 : RSl h aa3 a.del) (_q6 : a.del.length ≤ ca3) (b : Operator) (ab : Option Addr) (cb : Nat) (_q7 : RSl h ab b.pre) (_q8 : b.pre.length ≤ cb) (ab2 : Option Addr) (cb2 : Nat) (_q9 : RSl h ab2 b.add) (_q10 : b.add.length ≤ cb2) (ab3 : Option Addr) (cb3 : Nat) (_q11 : RSl h ab3 b.del) (_q12 : b.del.length ≤ cb3) (K : Bool → Prop) (hF : F_opEqual a b K) : Calls Tryz.prog 97 #[.agg #[.slice aa a.pre.length ca, .slice aa2 a.add.length ca2, .slice aa3 a.del.length ca3, iV a.cost], .agg #[.slice ab b.pre.length cb, .slice ab2 b.add.length cb2, .slice ab3 b.del.length cb3, iV b.cost]] w fun e w' => ∃ r : Bool, K r ∧ e = .returned (.bool r) ∧ Below w.heap.size w w' := by
 refine enter (args := [.agg #[vSl aa a.pre ca, vSl aa2 a.add ca2, vSl aa3 a.del ca3, iV a.cost], .agg #[vSl ab b.pre cb, vSl ab2 b.add cb2, vSl ab3 b.del cb3, iV b.cost]]) Tryz.func97 rfl Tryz.ntmps97 rfl hs ?_
 refine .seq (.region ?_)
 refine bx (vs := [vSl aa a.pre ca, vSl aa2 a.add ca2, vSl aa3 a.del ca3, iV a.cost]) rfl rfl rfl (fun pa => ?_)
 refine bx (vs := [vSl ab b.pre cb, vSl ab2 b.add cb2, vSl ab3 b.del cb3, iV b.cost]) rfl rfl rfl (fun pb => ?_)
 refine .V ag0 ?_
 refine .nil (.seqN (.seq (.region (.V (fa rfl tF52_3) ?_))))
 refine .V (ld1 rfl tO3 (cellB (off := 3) (k := 1) rfl rfl)) ?_
 refine .V (fa rfl tF52_3) ?_
 refine .V (ld1 rfl tO3 (cellB (off := 3) (k := 0) rfl rfl)) ?_
 refine .V bi0 ?_
 refine .V mv0 ?_
 rcases Bool.eq_false_or_eq_true (a.cost == b.cost) with q22 | q22
 ·replace hF := hF.1 q22
  refine .GV (fa rfl tF52_0) q22 ?_
  refine .GV (ld1 rfl tO22 (cellB (off := 0) (k := 1) rfl rfl)) q22 ?_
  refine .GV (fa rfl tF52_0) q22 ?_
  refine .GV (ld1 rfl tO22 (cellB (off := 0) (k := 0) rfl rfl)) q22 ?_
  obtain ⟨q23, hF⟩ := hF
  obtain ⟨r2, q24⟩ : ∃ y_ : Bool, y_ = sp_sequal a.pre b.pre := ⟨_, rfl⟩
  replace hF := hF r2 q24
  refine .gc (cl (v := .bool r2) Tryz.call96 rfl rfl (fun w S => (by rw [q24]; exact c_sequal S.sub a.pre aa ca _q1 _q2 b.pre ab cb _q7 _q8 q23))) rfl rfl rfl q22 rfl rfl ?_
  refine .V (pkT rfl q22 rfl) ?_
  refine .V mv0 ?_
  rcases Bool.eq_false_or_eq_true (r2) with q25 | q25
  ·replace hF := hF.1 q25
   refine .GV (fa rfl tF52_1) q25 ?_
   refine .GV (ld1 rfl tO22 (cellB (off := 1) (k := 1) rfl rfl)) q25 ?_
   refine .GV (fa rfl tF52_1) q25 ?_
   refine .GV (ld1 rfl tO22 (cellB (off := 1) (k := 0) rfl rfl)) q25 ?_
   obtain ⟨q26, hF⟩ := hF
   obtain ⟨r3, q27⟩ : ∃ y_ : Bool, y_ = sp_sequal a.add b.add := ⟨_, rfl⟩
   replace hF := hF r3 q27
   refine .gc (cl (v := .bool r3) Tryz.call96 rfl rfl (fun w S => (by rw [q27]; exact c_sequal S.sub a.add aa2 ca2 _q3 _q4 b.add ab2 cb2 _q9 _q10 q26))) rfl rfl rfl q25 rfl rfl ?_
   refine .V (pkT rfl q25 rfl) ?_
   refine .V mv0 ?_
   rcases Bool.eq_false_or_eq_true (r3) with q28 | q28
   ·replace hF := hF.1 q28
    refine .GV (fa rfl tF52_2) q28 ?_
    refine .GV (ld1 rfl tO22 (cellB (off := 2) (k := 1) rfl rfl)) q28 ?_
    refine .GV (fa rfl tF52_2) q28 ?_
    refine .GV (ld1 rfl tO22 (cellB (off := 2) (k := 0) rfl rfl)) q28 ?_
    obtain ⟨q29, hF⟩ := hF
    obtain ⟨r4, q30⟩ : ∃ y_ : Bool, y_ = sp_sequal a.del b.del := ⟨_, rfl⟩
    replace hF := hF r4 q30
    refine .gc (cl (v := .bool r4) Tryz.call96 rfl rfl (fun w S => (by rw [q30]; exact c_sequal S.sub a.del aa3 ca3 _q5 _q6 b.del ab3 cb3 _q11 _q12 q29))) rfl rfl rfl q28 rfl rfl ?_
    refine .V (pkT rfl q28 rfl) ?_
    refine .V ag0 ?_
    refine .nil (.seqN (.ret ?_))
    refine .res1 rfl (rvT rfl) (fun w' S => ⟨r4, hF, rfl, S.below⟩)
   replace hF := hF.2 q28
   refine .GS q28 ?_
   refine .GS q28 ?_
   refine .GS q28 ?_
   refine .GS q28 ?_
   refine .GS q28 ?_
   refine .V (pkF rfl q28 rfl) ?_
   refine .V ag0 ?_
   refine .nil (.seqN (.ret ?_))
   refine .res1 rfl (rvT rfl) (fun w' S => ⟨false, hF, rfl, S.below⟩)
  replace hF := hF.2 q25
  refine .GS q25 ?_
  refine .GS q25 ?_
  refine .GS q25 ?_
  refine .GS q25 ?_
  refine .GS q25 ?_
  refine .V (pkF rfl q25 rfl) ?_
  refine .V mv0 ?_
  refine .gS rfl rfl rfl rfl rfl rfl ?_
  refine .gS rfl rfl rfl rfl rfl rfl ?_
  refine .gS rfl rfl rfl rfl rfl rfl ?_
  refine .gS rfl rfl rfl rfl rfl rfl ?_
  refine .gS rfl rfl rfl rfl rfl rfl ?_
  refine .V (pkF rfl rfl rfl) ?_
  refine .V ag0 ?_
  refine .nil (.seqN (.ret ?_))
  refine .res1 rfl (rvT rfl) (fun w' S => ⟨false, hF, rfl, S.below⟩)
 replace hF := hF.2 q22
 refine .GS q22 ?_
 refine .GS q22 ?_
 refine .GS q22 ?_
 refine .GS q22 ?_
 refine .GS q22 ?_
 refine .V (pkF rfl q22 rfl) ?_
 refine .V mv0 ?_
 refine .gS rfl rfl rfl rfl rfl rfl ?_
 refine .gS rfl rfl rfl rfl rfl rfl ?_
 refine .gS rfl rfl rfl rfl rfl rfl ?_
 refine .gS rfl rfl rfl rfl rfl rfl ?_
 refine .gS rfl rfl rfl rfl rfl rfl ?_
 refine .V (pkF rfl rfl rfl) ?_
 refine .V mv0 ?_
 refine .gS rfl rfl rfl rfl rfl rfl ?_
 refine .gS rfl rfl rfl rfl rfl rfl ?_
 refine .gS rfl rfl rfl rfl rfl rfl ?_
 refine .gS rfl rfl rfl rfl rfl rfl ?_
 refine .gS rfl rfl rfl rfl rfl rfl ?_
 refine .V (pkF rfl rfl rfl) ?_
 refine .V ag0 ?_
 refine .nil (.seqN (.ret ?_))
 refine .res1 rfl (rvT rfl) (fun w' S => ⟨false, hF, rfl, S.below⟩)
theorem c_opEqual {h : FH} {w : World} (hs : Sub h w) (a : Operator) (aa : Option Addr) (ca : Nat) (_q1 : RSl h aa a.pre) (_q2 : a.pre.length ≤ ca) (aa2 : Option Addr) (ca2 : Nat) (_q3 : RSl h aa2 a.add) (_q4 : a.add.length ≤ ca2) (aa3 : Option Addr) (ca3 : Nat) (_q5 : RSl h aa3 a.del) (_q6 : a.del.length ≤ ca3) (b : Operator) (ab : Option Addr) (cb : Nat) (_q7 : RSl h ab b.pre) (_q8 : b.pre.length ≤ cb) (ab2 : Option Addr) (cb2 : Nat) (_q9 : RSl h ab2 b.add) (_q10 : b.add.length ≤ cb2) (ab3 : Option Addr) (cb3 : Nat) (_q11 : RSl h ab3 b.del) (_q12 : b.del.length ≤ cb3) (hp : pre_opEqual a b) : Calls Tryz.prog 97 #[.agg #[.slice aa a.pre.length ca, .slice aa2 a.add.length ca2, .slice aa3 a.del.length ca3, iV a.cost], .agg #[.slice ab b.pre.length cb, .slice ab2 b.add.length cb2, .slice ab3 b.del.length cb3, iV b.cost]] w fun e w' => e = .returned (.bool (sp_opEqual a b)) ∧ Below w.heap.size w w' :=
 (w_opEqual hs a aa ca _q1 _q2 aa2 ca2 _q3 _q4 aa3 ca3 _q5 _q6 b ab cb _q7 _q8 ab2 cb2 _q9 _q10 ab3 cb3 _q11 _q12 (fun r => r = sp_opEqual a b) (ok_opEqual a b hp)).mono fun _ _ ⟨_, hk, he, hb⟩ => ⟨by rw [he, hk], hb⟩
set_option maxHeartbeats 8000000 in
theorem w_symOps {h : FH} {w : World} (hs : Sub h w) (t : Task) (at_ : Option Addr) (ct : Nat) (_q1 : RSl h at_ t.init) (_q2 : t.init.length ≤ ct) (at_2 : Option Addr) (ct2 : Nat) (_q3 : RSl h at_2 t.goal) (_q4 : t.goal.length ≤ ct2) (at_3 : Option Addr) (ct3 : Nat) (_q5 : RSl h at_3 t.ops) (_q6 : t.ops.length ≤ ct3) (perm : List Int) (aperm : Option Addr) (cperm : Nat) (_q7 : RSl h aperm perm) (_q8 : perm.length ≤ cperm) (K : (List Int × Bool) → Prop) (hF : F_symOps t perm K) : Calls Tryz.prog 61 #[.agg #[iV t.facts, .slice at_ t.init.length ct, .slice at_2 t.goal.length ct2, .slice at_3 t.ops.length ct3], .slice aperm perm.length cperm] w fun e w' => ∃ (r : List Int × Bool) (z : Option Addr × Nat) (h1 : FH), K r ∧ e = .returned (.tuple #[.slice z.1 r.1.length z.2, .bool r.2]) ∧ FH.le h h1 ∧ (RSl h1 z.1 r.1 ∧ r.1.length ≤ z.2) ∧ SH (Kp.all w h) h1 w' [] := by
 refine enter (args := [.agg (tF t at_ ct at_2 ct2 at_3 ct3).toArray, vSl aperm perm cperm]) Tryz.func61 rfl Tryz.ntmps61 rfl hs ?_
 refine .seq (.region ?_)
 refine bx (vs := (tF t at_ ct at_2 ct2 at_3 ct3)) rfl rfl rfl (fun pt => ?_)
 refine .V ag0 ?_
 refine .V ag0 ?_
 refine .nil (.seqN (.seq (.seq ?_)))
 refine .openA (s0 := [(1, vSl aperm perm cperm), (2, .pointer (some pt))]) [0, 1, 2, 4, 5] [(0, vSl aperm perm cperm), (1, .pointer (some (pt.add 2))), (2, vSl at_2 t.goal ct2), (4, .pointer (some (pt.add 2))), (5, vSl at_2 t.goal ct2)] (by kernel_rfl) sb [1, 2] [] rfl (by kernel_rfl) ?_
 refine .step [3] 3 rfl (by kernel_rfl) (by kernel_rfl) (.v [] rfl rfl rfl rfl rfl rfl (fun _ => mv rfl) (.v [] rfl rfl rfl rfl rfl rfl (fun _ => fa rfl tF25_2) (.v [(14, .pointer (some (pt.add 2)))] rfl rfl rfl rfl rfl rfl (fun _ => ld1 rfl tO22 (cellB (off := 2) (k := 0) rfl rfl)) (.v [] rfl rfl rfl rfl rfl rfl (fun _ => fa rfl tF25_2) (.v [(17, .pointer (some (pt.add 2)))] rfl rfl rfl rfl rfl rfl (fun _ => ld1 rfl tO22 (cellB (off := 2) (k := 0) rfl rfl)) (.nil)))))) (.cons [(13, vSl aperm perm cperm), (15, vSl at_2 t.goal ct2)] rfl rfl (fun sL hL => ?_) (.nil))
 obtain ⟨q9, hF⟩ := hF
 obtain ⟨r2, q10⟩ : ∃ y_ : List Int, y_ = sp_image perm t.goal := ⟨_, rfl⟩
 replace hF := hF r2 q10
 refine clR (α := Option Addr × Nat) (Φ := fun h1 z => RSl h1 z.1 r2 ∧ r2.length ≤ z.2) (V := fun z => vSl z.1 r2 z.2) Tryz.call28 rfl rfl (fun w S => (by rw [q10]; exact c_image S.sub perm aperm cperm _q7 _q8 t.goal at_2 ct2 _q3 _q4 q9)) rfl (fun z h1 le1 hz => ?_)
 obtain ⟨a, c⟩ := z
 obtain ⟨q11, q12⟩ := hz
 refine .nil ?_
 obtain ⟨q13, hF⟩ := hF
 obtain ⟨r3, q14⟩ : ∃ y_ : Bool, y_ = sp_sequal r2 t.goal := ⟨_, rfl⟩
 replace hF := hF r3 q14
 refine .ja (M := [0, 2, 1]) (C' := [4, 5, 6, 7]) (pre := [(3, vSl a r2 c), (6, .bool r3), (7, .bool (!r3))]) [(1, vSl aperm perm cperm), (2, .pointer (some pt))] [1, 2] hL rfl rfl rfl rfl rfl sb rfl rfl (by kernel_rfl) ?_
 refine .last [(13, vSl aperm perm cperm), (14, .pointer (some (pt.add 2))), (15, vSl at_2 t.goal ct2), (16, vSl a r2 c), (17, .pointer (some (pt.add 2))), (18, vSl at_2 t.goal ct2), (19, .bool r3), (20, .bool (!r3))] rfl (by kernel_rfl) (.v [] rfl rfl rfl rfl rfl rfl (fun _ => fa rfl tF25_2) (.v [(17, .pointer (some (pt.add 2)))] rfl rfl rfl rfl rfl rfl (fun _ => ld1 rfl tO22 (cellB (off := 2) (k := 0) rfl rfl)) (.c [(16, vSl a r2 c), (18, vSl at_2 t.goal ct2), (16, vSl a r2 c)] rfl rfl rfl rfl rfl rfl (fun _ => cl (v := .bool r3) Tryz.call96 rfl rfl (fun w S => (by rw [q14]; exact c_sequal S.sub r2 a c q11 q12 t.goal at_2 ct2 (_q3.mono (le1)) _q4 q13))) (.v [(19, .bool r3)] rfl rfl rfl rfl rfl rfl (fun _ => nt rfl) (.nil))))) rfl ?_
 refine .seqN ?_
 refine .cond rfl (fun q16 => ?_) (fun q16 => ?_)
 ·replace hF := hF.1 q16
  refine .seq (.region (.V ag0 ?_))
  refine .V ag0 ?_
  refine .nil (.seqN (.ret (.seqR ?_)))
  refine .res2 rfl (rvT rfl) (rvT rfl) (fun w' S => ⟨(([] : List Int), false), (none, 0), h1, hF, rfl, (le1), ⟨RSl.nil_, (Nat.le_refl 0)⟩, S.none⟩)
 replace hF := hF.2 q16
 refine .skip (.seqN (.seq (.region (.V (fa rfl tF25_3) ?_))))
 refine .V (ld1 rfl tO23 (cellB (off := 3) (k := 0) rfl rfl)) ?_
 refine .V (ln rfl tS23.is) ?_
 obtain ⟨q17, hF⟩ := hF
 refine mk (m := (((t.ops.length : Nat) : Int)).toNat) (cs' := flL (List.replicate (((t.ops.length : Nat) : Int)).toNat (false : Bool))) tS171 rfl rfl (Int.toNat_of_nonneg q17.1).symm q17.2.1 q17.2.2 (flL_rep1 rfl _) rfl (fun a2 c2 => ?_)
 have q18 : (List.replicate (((t.ops.length : Nat) : Int)).toNat (false : Bool)).length = (((t.ops.length : Nat) : Int)).toNat := List.length_replicate
 refine .KA [OwnSl 4 1 a2 ((((t.ops.length : Nat) : Int)).toNat) c2 (flL (List.replicate (((t.ops.length : Nat) : Int)).toNat (false : Bool))), Box pt (tF t at_ ct at_2 ct2 at_3 ct3)] ?_
 refine .V ag0 ?_
 refine .nil (.seqN (.seq (.region (.V ag0 ?_))))
 refine .nil (.seqN (.seq (.seq (.region (.V (fa rfl tF25_3) ?_)))))
 refine .V (ld1 rfl tO23 (cellB (off := 3) (k := 1) rfl rfl)) ?_
 refine .V (ln rfl tS23.is) ?_
 refine .V mv0 ?_
 refine .nil (.seqN (.block ?_))
 refine .nilSl 3 1 ?_
 refine .KA [oL 3 1 none ([] : List Int) 0, OwnSl 4 1 a2 ((((t.ops.length : Nat) : Int)).toNat) c2 (flL (List.replicate (((t.ops.length : Nat) : Int)).toNat (false : Bool))), Box pt (tF t at_ ct at_2 ct2 at_3 ct3)] ?_
 refine .sel0 [2, 1, 0] (by decide) rfl ?_
 obtain ⟨I1, μ1, q6548, q6549⟩ := hF
 refine .loop' (σ := Int × List Bool × List Int × Option Addr × Nat) (fun z => I1 z.1 z.2.1 z.2.2.1 ∧ z.2.1.length = (((t.ops.length : Nat) : Int)).toNat) (fun z => μ1 z.1 z.2.1 z.2.2.1) (fun z => [(1, vSl aperm perm cperm), (2, .pointer (some pt)), (6, .slice a2 ((((t.ops.length : Nat) : Int)).toNat) c2), (7, vSl z.2.2.2.1 z.2.2.1 z.2.2.2.2), (26, vSl at_3 t.ops ct3), (27, iV ((t.ops.length : Nat) : Int)), (28, iV z.1)]) (fun z => [Box pt (tF t at_ ct at_2 ct2 at_3 ct3), OwnSl 4 1 a2 ((((t.ops.length : Nat) : Int)).toNat) c2 (flL z.2.1), oL 3 1 z.2.2.2.1 z.2.2.1 z.2.2.2.2]) (fun _ => h1) (0, (List.replicate (((t.ops.length : Nat) : Int)).toNat (false : Bool)), ([] : List Int), none, 0) ⟨q6548, q18⟩ sb rfl (FH.le_refl _) ?_
 rintro ⟨t28, used, out, aout, cout⟩ ⟨q6548, q5187⟩
 have hF := q6549 t28 used out q6548
 show J _ _ _ _ _ [(1, vSl aperm perm cperm), (2, .pointer (some pt)), (6, .slice a2 ((((t.ops.length : Nat) : Int)).toNat) c2), (7, vSl aout out cout), (26, vSl at_3 t.ops ct3), (27, iV ((t.ops.length : Nat) : Int)), (28, iV t28)] [Box pt (tF t at_ ct at_2 ct2 at_3 ct3), OwnSl 4 1 a2 ((((t.ops.length : Nat) : Int)).toNat) c2 (flL used), oL 3 1 aout out cout] h1
 refine .seq (.region (.V bi0 ?_))
 refine .nil (.seqN (.seq ?_))
 refine .cond rfl (fun q6552 => ?_) (fun q6552 => ?_)
 ·replace hF := hF.1 q6552
  refine .skip (.seqN (.seq (.block (.seq (.region ?_)))))
  obtain ⟨q7457, hF⟩ := hF
  refine .V (ix rfl rfl tS23 (_q5.ne (by decide) (inb_pos q7457)) q7457) ?_
  obtain ⟨_, ⟨a3, c3, a4, c4, a5, c5, rfl, ⟨q7458, q7459⟩, ⟨q7460, q7461⟩, q7462, q7463⟩, q7464⟩ := _q5.elem q7457
  refine .V (ldA (cs := [.slice a3 ((gt t.ops t28).pre.length) c3, .slice a4 ((gt t.ops t28).add.length) c4, .slice a5 ((gt t.ops t28).del.length) c5, iV ((gt t.ops t28).cost)]) rfl tA52 rfl (cellsH ((fun q => (q7464 q).mono (le1)) (by decide)))) ?_
  refine al tZ52 rfl (fun po => ?_)
  refine st (p := po) (off := 0) (k := 0) (vs := [.slice a3 ((gt t.ops t28).pre.length) c3, .slice a4 ((gt t.ops t28).add.length) c4, .slice a5 ((gt t.ops t28).del.length) c5, iV ((gt t.ops t28).cost)]) rfl rfl rfl (fun w => (tA52 w).2) rfl rfl rfl rfl ?_
  refine .KA [Box po [.slice a3 ((gt t.ops t28).pre.length) c3, .slice a4 ((gt t.ops t28).add.length) c4, .slice a5 ((gt t.ops t28).del.length) c5, iV ((gt t.ops t28).cost)], Box pt (tF t at_ ct at_2 ct2 at_3 ct3), OwnSl 4 1 a2 ((((t.ops.length : Nat) : Int)).toNat) c2 (flL used), oL 3 1 aout out cout] ?_
  refine .nil (.seqN ?_)
  refine .share (σ := List Int × List Int × List Int × Addr × Option Addr × Nat × Option Addr × Nat × Option Addr × Nat × FH) (fun z => F_symOps_J1 t K z.1 z.2.1 z.2.2.1 t28 used out I1 μ1 ∧ RSl z.2.2.2.2.2.2.2.2.2.2 z.2.2.2.2.1 z.1 ∧ z.1.length ≤ z.2.2.2.2.2.1 ∧ RSl z.2.2.2.2.2.2.2.2.2.2 z.2.2.2.2.2.2.1 z.2.1 ∧ z.2.1.length ≤ z.2.2.2.2.2.2.2.1 ∧ RSl z.2.2.2.2.2.2.2.2.2.2 z.2.2.2.2.2.2.2.2.1 z.2.2.1 ∧ z.2.2.1.length ≤ z.2.2.2.2.2.2.2.2.2.1 ∧ FH.le h1 z.2.2.2.2.2.2.2.2.2.2) (fun z => [(1, vSl aperm perm cperm), (2, .pointer (some pt)), (6, .slice a2 ((((t.ops.length : Nat) : Int)).toNat) c2), (7, vSl aout out cout), (10, .pointer (some z.2.2.2.1)), (26, vSl at_3 t.ops ct3), (27, iV ((t.ops.length : Nat) : Int)), (28, iV t28)]) (fun z => [Box pt (tF t at_ ct at_2 ct2 at_3 ct3), OwnSl 4 1 a2 ((((t.ops.length : Nat) : Int)).toNat) c2 (flL used), oL 3 1 aout out cout, Box z.2.2.2.1 [vSl z.2.2.2.2.1 z.1 z.2.2.2.2.2.1, vSl z.2.2.2.2.2.2.1 z.2.1 z.2.2.2.2.2.2.2.1, vSl z.2.2.2.2.2.2.2.2.1 z.2.2.1 z.2.2.2.2.2.2.2.2.2.1, iV ((gt t.ops t28).cost)]]) (fun z => z.2.2.2.2.2.2.2.2.2.2) ?_ (fun q7508 => ?_)
  ·rintro ⟨x, x2, x3, p, ax, cx, ax2, cx2, ax3, cx3, h334⟩ ⟨hF, q7501, q7502, q7503, q7504, q7505, q7506, q7507⟩
   show J _ _ _ _ _ [(1, vSl aperm perm cperm), (2, .pointer (some pt)), (6, .slice a2 ((((t.ops.length : Nat) : Int)).toNat) c2), (7, vSl aout out cout), (10, .pointer (some p)), (26, vSl at_3 t.ops ct3), (27, iV ((t.ops.length : Nat) : Int)), (28, iV t28)] [Box pt (tF t at_ ct at_2 ct2 at_3 ct3), OwnSl 4 1 a2 ((((t.ops.length : Nat) : Int)).toNat) c2 (flL used), oL 3 1 aout out cout, Box p [vSl ax x cx, vSl ax2 x2 cx2, vSl ax3 x3 cx3, iV ((gt t.ops t28).cost)]] h334
   refine .seq (.region (.V ag0 ?_))
   refine .nil (.seqN (.seq (.seq (.region (.V (fa rfl tF25_3) ?_)))))
   refine .V (ld1 rfl tO23 (cellB (off := 3) (k := 0) rfl rfl)) ?_
   refine .V (ln rfl tS23.is) ?_
   refine .V mv0 ?_
   refine .nil (.seqN (.block ?_))
   obtain ⟨I2, μ2, q7803, q7804⟩ := hF
   refine .loop' (σ := Int × Int) (fun z => I2 z.1 z.2) (fun z => μ2 z.1 z.2) (fun z => [(1, vSl aperm perm cperm), (2, .pointer (some pt)), (6, .slice a2 ((((t.ops.length : Nat) : Int)).toNat) c2), (7, vSl aout out cout), (10, .pointer (some p)), (11, iV z.1), (26, vSl at_3 t.ops ct3), (27, iV ((t.ops.length : Nat) : Int)), (28, iV t28), (49, iV ((t.ops.length : Nat) : Int)), (50, iV z.2)]) (fun _ => [Box pt (tF t at_ ct at_2 ct2 at_3 ct3), OwnSl 4 1 a2 ((((t.ops.length : Nat) : Int)).toNat) c2 (flL used), oL 3 1 aout out cout, Box p [vSl ax x cx, vSl ax2 x2 cx2, vSl ax3 x3 cx3, iV ((gt t.ops t28).cost)]]) (fun _ => h334) ((-1), 0) q7803 sb rfl (FH.le_refl _) ?_
   rintro ⟨found, t50⟩ q7803
   have hF := q7804 found t50 q7803
   show J _ _ _ _ _ [(1, vSl aperm perm cperm), (2, .pointer (some pt)), (6, .slice a2 ((((t.ops.length : Nat) : Int)).toNat) c2), (7, vSl aout out cout), (10, .pointer (some p)), (11, iV found), (26, vSl at_3 t.ops ct3), (27, iV ((t.ops.length : Nat) : Int)), (28, iV t28), (49, iV ((t.ops.length : Nat) : Int)), (50, iV t50)] [Box pt (tF t at_ ct at_2 ct2 at_3 ct3), OwnSl 4 1 a2 ((((t.ops.length : Nat) : Int)).toNat) c2 (flL used), oL 3 1 aout out cout, Box p [vSl ax x cx, vSl ax2 x2 cx2, vSl ax3 x3 cx3, iV ((gt t.ops t28).cost)]] h334
   refine .seq (.region (.V bi0 ?_))
   refine .nil (.seqN (.seq ?_))
   refine .cond rfl (fun q7807 => ?_) (fun q7807 => ?_)
   ·replace hF := hF.1 q7807
    refine .skip (.seqN ?_)
    refine .share (σ := Int) (fun z => F_symOps_J2 found t50 I2 μ2 z) (fun z => [(1, vSl aperm perm cperm), (2, .pointer (some pt)), (6, .slice a2 ((((t.ops.length : Nat) : Int)).toNat) c2), (7, vSl aout out cout), (10, .pointer (some p)), (11, iV z), (26, vSl at_3 t.ops ct3), (27, iV ((t.ops.length : Nat) : Int)), (28, iV t28), (49, iV ((t.ops.length : Nat) : Int)), (50, iV t50)]) (fun _ => [Box pt (tF t at_ ct at_2 ct2 at_3 ct3), OwnSl 4 1 a2 ((((t.ops.length : Nat) : Int)).toNat) c2 (flL used), oL 3 1 aout out cout, Box p [vSl ax x cx, vSl ax2 x2 cx2, vSl ax3 x3 cx3, iV ((gt t.ops t28).cost)]]) (fun _ => h334) ?_ (fun q7836 => ?_)
    ·rintro found3 hF
     show J _ _ _ _ _ [(1, vSl aperm perm cperm), (2, .pointer (some pt)), (6, .slice a2 ((((t.ops.length : Nat) : Int)).toNat) c2), (7, vSl aout out cout), (10, .pointer (some p)), (11, iV found3), (26, vSl at_3 t.ops ct3), (27, iV ((t.ops.length : Nat) : Int)), (28, iV t28), (49, iV ((t.ops.length : Nat) : Int)), (50, iV t50)] [Box pt (tF t at_ ct at_2 ct2 at_3 ct3), OwnSl 4 1 a2 ((((t.ops.length : Nat) : Int)).toNat) c2 (flL used), oL 3 1 aout out cout, Box p [vSl ax x cx, vSl ax2 x2 cx2, vSl ax3 x3 cx3, iV ((gt t.ops t28).cost)]] h334
     refine .region (.V bi0 ?_)
     refine .V mv0 ?_
     refine .nil ?_
     exact .RO (found3, wr (t50 + 1)) hF.1 hF.2
    refine .block (.seq (.region (.V mv0 ?_)))
    refine .V ag0 ?_
    refine .nil (.seqN ?_)
    refine .share (σ := Bool) (fun z => F_symOps_J3 z found t50 I2 μ2) (fun z => [(1, vSl aperm perm cperm), (2, .pointer (some pt)), (6, .slice a2 ((((t.ops.length : Nat) : Int)).toNat) c2), (7, vSl aout out cout), (10, .pointer (some p)), (11, iV found), (12, iV t50), (26, vSl at_3 t.ops ct3), (27, iV ((t.ops.length : Nat) : Int)), (28, iV t28), (49, iV ((t.ops.length : Nat) : Int)), (50, iV t50), (70, .bool z)]) (fun _ => [Box pt (tF t at_ ct at_2 ct2 at_3 ct3), OwnSl 4 1 a2 ((((t.ops.length : Nat) : Int)).toNat) c2 (flL used), oL 3 1 aout out cout, Box p [vSl ax x cx, vSl ax2 x2 cx2, vSl ax3 x3 cx3, iV ((gt t.ops t28).cost)]]) (fun _ => h334) ?_ (fun q7850 => ?_)
    ·rintro t70 hF
     show J _ _ _ _ _ [(1, vSl aperm perm cperm), (2, .pointer (some pt)), (6, .slice a2 ((((t.ops.length : Nat) : Int)).toNat) c2), (7, vSl aout out cout), (10, .pointer (some p)), (11, iV found), (12, iV t50), (26, vSl at_3 t.ops ct3), (27, iV ((t.ops.length : Nat) : Int)), (28, iV t28), (49, iV ((t.ops.length : Nat) : Int)), (50, iV t50), (70, .bool t70)] [Box pt (tF t at_ ct at_2 ct2 at_3 ct3), OwnSl 4 1 a2 ((((t.ops.length : Nat) : Int)).toNat) c2 (flL used), oL 3 1 aout out cout, Box p [vSl ax x cx, vSl ax2 x2 cx2, vSl ax3 x3 cx3, iV ((gt t.ops t28).cost)]] h334
     refine .cond rfl (fun q7851 => ?_) (fun q7851 => ?_)
     ·replace hF := hF.1 q7851
      refine .region (.V mv0 ?_)
      refine .V ag0 ?_
      refine .nil (.blkN ?_)
      exact .US q7836 t50 hF
     replace hF := hF.2 q7851
     refine .skip (.blkN ?_)
     exact .US q7836 found hF
    refine .open_ (by kernel_rfl) (by kernel_rfl) ?_
    refine .V mv0 ?_
    refine .V bi0 ?_
    refine .V mv0 ?_
    rcases Bool.eq_false_or_eq_true (decide (found < 0)) with q7852 | q7852
    ·replace hF := hF.1 q7852
     refine .GV mv0 q7852 ?_
     refine .GV mv0 q7852 ?_
     obtain ⟨q7853, hF⟩ := hF
     refine .GV (ixS rfl rfl tS171 (k := 1) rfl (inb_n q7853 q5187)) q7852 ?_
     refine .GV (ld1 (v := .bool (gt used t50)) rfl tO4 (cellS (k := 1) rfl (flL_get q7853 (j := 0) rfl))) q7852 ?_
     refine .GV (nt rfl) q7852 ?_
     refine .V (pkT rfl q7852 rfl) ?_
     refine .V mv0 ?_
     rcases Bool.eq_false_or_eq_true (!(gt used t50)) with q7854 | q7854
     ·replace hF := hF.1 q7854
      refine .GV (fa rfl tF25_3) q7854 ?_
      refine .GV (ld1 rfl tO23 (cellB (off := 3) (k := 0) rfl rfl)) q7854 ?_
      refine .GV mv0 q7854 ?_
      obtain ⟨q7855, hF⟩ := hF
      refine .GV (ix rfl rfl tS23 (_q5.ne (by decide) (inb_pos q7855)) q7855) q7854 ?_
      obtain ⟨_, ⟨a6, c6, a7, c7, a8, c8, rfl, ⟨q7856, q7857⟩, ⟨q7858, q7859⟩, q7860, q7861⟩, q7862⟩ := _q5.elem q7855
      refine .GV (ldA (cs := [.slice a6 ((gt t.ops t50).pre.length) c6, .slice a7 ((gt t.ops t50).add.length) c7, .slice a8 ((gt t.ops t50).del.length) c8, iV ((gt t.ops t50).cost)]) rfl tA52 rfl (cellsH ((fun q => (q7862 q).mono (FH.le_trans (le1) (q7507))) (by decide)))) q7854 ?_
      refine .GV (ldA (cs := [vSl ax x cx, vSl ax2 x2 cx2, vSl ax3 x3 cx3, iV ((gt t.ops t28).cost)]) rfl tA52 rfl (cellsB (off := 0) (k := 3) rfl (m := 4) rfl)) q7854 ?_
      obtain ⟨q7863, hF⟩ := hF
      obtain ⟨r4, q7864⟩ : ∃ y_ : Bool, y_ = sp_opEqual (gt t.ops t50) (⟨x, x2, x3, (gt t.ops t28).cost⟩ : Operator) := ⟨_, rfl⟩
      replace hF := hF r4 q7864
      refine .gc (cl (v := .bool r4) Tryz.call97 rfl rfl (fun w S => (by rw [q7864]; exact c_opEqual S.sub (gt t.ops t50) a6 c6 (q7857.mono (FH.le_trans (le1) (q7507))) q7856 a7 c7 (q7859.mono (FH.le_trans (le1) (q7507))) q7858 a8 c8 (q7861.mono (FH.le_trans (le1) (q7507))) q7860 (⟨x, x2, x3, (gt t.ops t28).cost⟩ : Operator) ax cx q7501 q7502 ax2 cx2 q7503 q7504 ax3 cx3 q7505 q7506 q7863))) rfl rfl rfl q7854 rfl rfl ?_
      refine .V (pkT rfl q7854 rfl) ?_
      refine .fin ?_
      exact .US q7850 r4 hF
     replace hF := hF.2 q7854
     refine .GS q7854 ?_
     refine .GS q7854 ?_
     refine .GS q7854 ?_
     refine .GS q7854 ?_
     refine .GS q7854 ?_
     refine .GS q7854 ?_
     refine .GS q7854 ?_
     refine .V (pkF rfl q7854 rfl) ?_
     refine .fin ?_
     exact .US q7850 false hF
    replace hF := hF.2 q7852
    refine .GS q7852 ?_
    refine .GS q7852 ?_
    refine .GS q7852 ?_
    refine .GS q7852 ?_
    refine .GS q7852 ?_
    refine .V (pkF rfl q7852 rfl) ?_
    refine .V mv0 ?_
    refine .gS rfl rfl rfl rfl rfl rfl ?_
    refine .gS rfl rfl rfl rfl rfl rfl ?_
    refine .gS rfl rfl rfl rfl rfl rfl ?_
    refine .gS rfl rfl rfl rfl rfl rfl ?_
    refine .gS rfl rfl rfl rfl rfl rfl ?_
    refine .gS rfl rfl rfl rfl rfl rfl ?_
    refine .gS rfl rfl rfl rfl rfl rfl ?_
    refine .V (pkF rfl rfl rfl) ?_
    refine .fin ?_
    exact .US q7850 false hF
   replace hF := hF.2 q7807
   refine .exit (.seqX (.seqX (.blkX (.seqN (.seq (.seq (.region (.V mv0 ?_))))))))
   refine .V bi0 ?_
   refine .nil (.seqN ?_)
   refine .cond rfl (fun q7866 => ?_) (fun q7866 => ?_)
   ·replace hF := hF.1 q7866
    refine .seq (.region (.V ag0 ?_))
    refine .V ag0 ?_
    refine .nil (.seqN (.ret (.seqR (.blkR (.seqR (.seqR (.blkR (.seqR ?_))))))))
    refine .res2 rfl (rvT rfl) (rvT rfl) (fun w' S => ⟨(([] : List Int), false), (none, 0), h334, hF, rfl, (FH.le_trans (le1) (q7507)), ⟨RSl.nil_, (Nat.le_refl 0)⟩, S.none⟩)
   replace hF := hF.2 q7866
   refine .skip (.seqN (.seq (.region (.V mv0 ?_))))
   refine .V mv0 ?_
   obtain ⟨q7867, hF⟩ := hF
   refine .V (ixS rfl rfl tS171 (k := 1) rfl (inb_n q7867 q5187)) ?_
   obtain ⟨d, q7868⟩ : ∃ y_ : List Bool, y_ = (used.set (found).toNat true) := ⟨_, rfl⟩
   replace hF := hF d q7868
   refine stS (k := 1) (cs' := flL d) rfl (fun _ => rfl) rfl rfl (fun w => (tO4 w).2) rfl rfl rfl (by rw [← q5187]; exact inb_pos q7867) (fl_room q7867) (by rw [q7868]; exact flL_set q7867 true) ?_
   have q7869 : d.length = (((t.ops.length : Nat) : Int)).toNat := by rw [q7868]; exact List.length_set.trans q5187
   refine .KA [Box pt (tF t at_ ct at_2 ct2 at_3 ct3), OwnSl 4 1 a2 ((((t.ops.length : Nat) : Int)).toNat) c2 (flL d), oL 3 1 aout out cout, Box p [vSl ax x cx, vSl ax2 x2 cx2, vSl ax3 x3 cx3, iV ((gt t.ops t28).cost)]] ?_
   refine .nil (.seqN (.region (.V mv0 ?_)))
   refine .V mv0 ?_
   refine bs2 (cs := #[iV found]) (pv := [(0, iV found)]) tS22 rfl rfl (by decide) (by decide) rfl rfl rfl (fun a9 _ => ?_)
   refine .KA [oL 3 1 a9 ([found] : List Int) 1, Box pt (tF t at_ ct at_2 ct2 at_3 ct3), OwnSl 4 1 a2 ((((t.ops.length : Nat) : Int)).toNat) c2 (flL d), oL 3 1 aout out cout, Box p [vSl ax x cx, vSl ax2 x2 cx2, vSl ax3 x3 cx3, iV ((gt t.ops t28).cost)]] ?_
   obtain ⟨q7871, hF⟩ := hF
   have q7872 : out.length + ([found] : List Int).length = ((out ++ ([found] : List Int))).length := len_app rfl rfl
   refine app (k := 3) (news := flL ([found] : List Int)) (cs' := flL (out ++ ([found] : List Int))) (nm := ((out ++ ([found] : List Int))).length) tS22 rfl (by decide) rfl rfl rfl ((flL_len _).trans rfl) (srcS (k := 0) rfl) (flL_one _) (room_of q7872 q7871).1 (room_of q7872 q7871).2 q7872 (flL_append _ _).symm rfl (fun a10 c9 => ?_)
   refine .KA [oL 3 1 a9 ([found] : List Int) 1, Box pt (tF t at_ ct at_2 ct2 at_3 ct3), OwnSl 4 1 a2 ((((t.ops.length : Nat) : Int)).toNat) c2 (flL d), oL 3 1 a10 (out ++ ([found] : List Int)) c9, Box p [vSl ax x cx, vSl ax2 x2 cx2, vSl ax3 x3 cx3, iV ((gt t.ops t28).cost)]] ?_
   refine .V ag0 ?_
   refine .nil (.blkN (.seqN (.region (.V bi0 ?_))))
   refine .V mv0 ?_
   refine .nil ?_
   refine .sel0 [1, 2, 3] (by decide) rfl ?_
   exact .round (wr (t28 + 1), d, (out ++ ([found] : List Int)), a10, c9) ⟨hF.1, q7869⟩ hF.2 sb rfl (q7507)
  refine .openA (s0 := [(1, vSl aperm perm cperm), (2, .pointer (some pt)), (6, .slice a2 ((((t.ops.length : Nat) : Int)).toNat) c2), (7, vSl aout out cout), (9, .pointer (some po)), (26, vSl at_3 t.ops ct3), (27, iV ((t.ops.length : Nat) : Int)), (28, iV t28)]) [0, 1, 2, 4, 5, 6, 8, 9, 10, 12, 13] [(0, vSl aperm perm cperm), (1, .pointer (some (po.add 0))), (2, .slice a3 ((gt t.ops t28).pre.length) c3), (4, vSl aperm perm cperm), (5, .pointer (some (po.add 1))), (6, .slice a4 ((gt t.ops t28).add.length) c4), (8, vSl aperm perm cperm), (9, .pointer (some (po.add 2))), (10, .slice a5 ((gt t.ops t28).del.length) c5), (12, .pointer (some (po.add 3))), (13, iV ((gt t.ops t28).cost))] (by kernel_rfl) sb [1, 2, 6, 7, 9, 26, 27, 28] [] rfl (by kernel_rfl) ?_
  refine .step [3, 15] 3 rfl (by kernel_rfl) (by kernel_rfl) (.v [] rfl rfl rfl rfl rfl rfl (fun _ => mv rfl) (.v [] rfl rfl rfl rfl rfl rfl (fun _ => fa rfl tF52_0) (.v [(33, .pointer (some (po.add 0)))] rfl rfl rfl rfl rfl rfl (fun _ => ld1 rfl tO22 (cellB (off := 0) (k := 0) rfl rfl)) (.v [] rfl rfl rfl rfl rfl rfl (fun _ => mv rfl) (.v [] rfl rfl rfl rfl rfl rfl (fun _ => fa rfl tF52_1) (.v [(37, .pointer (some (po.add 1)))] rfl rfl rfl rfl rfl rfl (fun _ => ld1 rfl tO22 (cellB (off := 1) (k := 0) rfl rfl)) (.v [] rfl rfl rfl rfl rfl rfl (fun _ => mv rfl) (.v [] rfl rfl rfl rfl rfl rfl (fun _ => fa rfl tF52_2) (.v [(41, .pointer (some (po.add 2)))] rfl rfl rfl rfl rfl rfl (fun _ => ld1 rfl tO22 (cellB (off := 2) (k := 0) rfl rfl)) (.v [] rfl rfl rfl rfl rfl rfl (fun _ => fa rfl tF52_3) (.v [(44, .pointer (some (po.add 3)))] rfl rfl rfl rfl rfl rfl (fun _ => ld1 rfl tO3 (cellB (off := 3) (k := 0) rfl rfl)) (.nil)))))))))))) (.cons [(32, vSl aperm perm cperm), (34, .slice a3 ((gt t.ops t28).pre.length) c3)] rfl rfl (fun sL hL => ?_) (.cons [] rfl rfl (fun sL hL => ?_) (.nil)))
  ·obtain ⟨q7873, hF⟩ := hF
   obtain ⟨r5, q7874⟩ : ∃ y_ : List Int, y_ = sp_image perm ((gt t.ops t28).pre) := ⟨_, rfl⟩
   replace hF := hF r5 q7874
   refine clR (α := Option Addr × Nat) (Φ := fun h1 z => RSl h1 z.1 r5 ∧ r5.length ≤ z.2) (V := fun z => vSl z.1 r5 z.2) Tryz.call28 rfl rfl (fun w S => (by rw [q7874]; exact c_image S.sub perm aperm cperm (_q7.mono (le1)) _q8 ((gt t.ops t28).pre) a3 c3 (q7459.mono (le1)) q7458 q7873)) rfl (fun z h335 le335 hz => ?_)
   obtain ⟨a11, c10⟩ := z
   obtain ⟨q7875, q7876⟩ := hz
   refine .nil ?_
   refine .ja (M := [0, 2, 1]) (C' := [4, 5, 6, 8, 9, 10, 12, 13]) (pre := [(3, vSl a11 r5 c10)]) [(1, vSl aperm perm cperm), (2, .pointer (some pt)), (6, .slice a2 ((((t.ops.length : Nat) : Int)).toNat) c2), (7, vSl aout out cout), (9, .pointer (some po)), (26, vSl at_3 t.ops ct3), (27, iV ((t.ops.length : Nat) : Int)), (28, iV t28)] [1, 2, 6, 7, 9, 26, 27, 28] hL rfl rfl rfl rfl rfl sb rfl rfl (by kernel_rfl) ?_
   refine .step [7, 15] 7 rfl (by kernel_rfl) (by kernel_rfl) (.v [] rfl rfl rfl rfl rfl rfl (fun _ => mv rfl) (.v [] rfl rfl rfl rfl rfl rfl (fun _ => fa rfl tF52_1) (.v [(37, .pointer (some (po.add 1)))] rfl rfl rfl rfl rfl rfl (fun _ => ld1 rfl tO22 (cellB (off := 1) (k := 0) rfl rfl)) (.v [] rfl rfl rfl rfl rfl rfl (fun _ => mv rfl) (.v [] rfl rfl rfl rfl rfl rfl (fun _ => fa rfl tF52_2) (.v [(41, .pointer (some (po.add 2)))] rfl rfl rfl rfl rfl rfl (fun _ => ld1 rfl tO22 (cellB (off := 2) (k := 0) rfl rfl)) (.v [] rfl rfl rfl rfl rfl rfl (fun _ => fa rfl tF52_3) (.v [(44, .pointer (some (po.add 3)))] rfl rfl rfl rfl rfl rfl (fun _ => ld1 rfl tO3 (cellB (off := 3) (k := 0) rfl rfl)) (.nil))))))))) (.cons [(36, vSl aperm perm cperm), (38, .slice a4 ((gt t.ops t28).add.length) c4), (35, vSl a11 r5 c10)] rfl rfl (fun sL hL => ?_) (.cons [] rfl rfl (fun sL hL => ?_) (.nil)))
   ·obtain ⟨q7877, hF⟩ := hF
    obtain ⟨r6, q7878⟩ : ∃ y_ : List Int, y_ = sp_image perm ((gt t.ops t28).add) := ⟨_, rfl⟩
    replace hF := hF r6 q7878
    refine clR (α := Option Addr × Nat) (Φ := fun h1 z => RSl h1 z.1 r6 ∧ r6.length ≤ z.2) (V := fun z => vSl z.1 r6 z.2) Tryz.call28 rfl rfl (fun w S => (by rw [q7878]; exact c_image S.sub perm aperm cperm (_q7.mono (FH.le_trans (le1) (le335))) _q8 ((gt t.ops t28).add) a4 c4 (q7461.mono (FH.le_trans (le1) (le335))) q7460 q7877)) rfl (fun z h336 le336 hz => ?_)
    obtain ⟨a12, c11⟩ := z
    obtain ⟨q7879, q7880⟩ := hz
    refine .nil ?_
    refine .ja (M := [4, 6, 5]) (C' := [8, 9, 10, 12, 13]) (pre := [(7, vSl a12 r6 c11)]) [(1, vSl aperm perm cperm), (2, .pointer (some pt)), (6, .slice a2 ((((t.ops.length : Nat) : Int)).toNat) c2), (7, vSl aout out cout), (9, .pointer (some po)), (26, vSl at_3 t.ops ct3), (27, iV ((t.ops.length : Nat) : Int)), (28, iV t28)] [1, 2, 6, 7, 9, 26, 27, 28] hL rfl rfl rfl rfl rfl sb rfl rfl (by kernel_rfl) ?_
    refine .step [11, 15] 11 rfl (by kernel_rfl) (by kernel_rfl) (.v [] rfl rfl rfl rfl rfl rfl (fun _ => mv rfl) (.v [] rfl rfl rfl rfl rfl rfl (fun _ => fa rfl tF52_2) (.v [(41, .pointer (some (po.add 2)))] rfl rfl rfl rfl rfl rfl (fun _ => ld1 rfl tO22 (cellB (off := 2) (k := 0) rfl rfl)) (.v [] rfl rfl rfl rfl rfl rfl (fun _ => fa rfl tF52_3) (.v [(44, .pointer (some (po.add 3)))] rfl rfl rfl rfl rfl rfl (fun _ => ld1 rfl tO3 (cellB (off := 3) (k := 0) rfl rfl)) (.nil)))))) (.cons [(40, vSl aperm perm cperm), (42, .slice a5 ((gt t.ops t28).del.length) c5), (39, vSl a12 r6 c11)] rfl rfl (fun sL hL => ?_) (.cons [] rfl rfl (fun sL hL => ?_) (.nil)))
    ·obtain ⟨q7881, hF⟩ := hF
     obtain ⟨r7, q7882⟩ : ∃ y_ : List Int, y_ = sp_image perm ((gt t.ops t28).del) := ⟨_, rfl⟩
     replace hF := hF r7 q7882
     refine clR (α := Option Addr × Nat) (Φ := fun h1 z => RSl h1 z.1 r7 ∧ r7.length ≤ z.2) (V := fun z => vSl z.1 r7 z.2) Tryz.call28 rfl rfl (fun w S => (by rw [q7882]; exact c_image S.sub perm aperm cperm (_q7.mono (FH.le_trans (FH.le_trans (le1) (le335)) (le336))) _q8 ((gt t.ops t28).del) a5 c5 (q7463.mono (FH.le_trans (FH.le_trans (le1) (le335)) (le336))) q7462 q7881)) rfl (fun z h337 le337 hz => ?_)
     obtain ⟨a13, c12⟩ := z
     obtain ⟨q7883, q7884⟩ := hz
     refine .nil ?_
     refine .ja (M := [8, 10, 9]) (C' := [12, 13, 14]) (pre := [(11, vSl a13 r7 c12), (14, .agg #[vSl a11 r5 c10, vSl a12 r6 c11, vSl a13 r7 c12, iV ((gt t.ops t28).cost)])]) [(1, vSl aperm perm cperm), (2, .pointer (some pt)), (6, .slice a2 ((((t.ops.length : Nat) : Int)).toNat) c2), (7, vSl aout out cout), (9, .pointer (some po)), (26, vSl at_3 t.ops ct3), (27, iV ((t.ops.length : Nat) : Int)), (28, iV t28)] [1, 2, 6, 7, 9, 26, 27, 28] hL rfl rfl rfl rfl rfl sb rfl rfl (by kernel_rfl) ?_
     refine .step [15] 15 rfl (by kernel_rfl) (by kernel_rfl) (.v [] rfl rfl rfl rfl rfl rfl (fun _ => fa rfl tF52_3) (.v [(44, .pointer (some (po.add 3)))] rfl rfl rfl rfl rfl rfl (fun _ => ld1 rfl tO3 (cellB (off := 3) (k := 0) rfl rfl)) (.v [(35, vSl a11 r5 c10), (39, vSl a12 r6 c11), (43, vSl a13 r7 c12), (45, iV ((gt t.ops t28).cost))] rfl rfl rfl rfl rfl rfl (fun _ => bld (cs := #[vSl a11 r5 c10, vSl a12 r6 c11, vSl a13 r7 c12, iV ((gt t.ops t28).cost)]) (pv := [(0, vSl a11 r5 c10), (1, vSl a12 r6 c11), (2, vSl a13 r7 c12), (3, iV ((gt t.ops t28).cost))]) tB52 rfl rfl) (.nil)))) (.cons [] rfl rfl (fun sL hL => ?_) (.nil))
     refine al tZ52 rfl (fun pwant => ?_)
     refine .nil ?_
     refine .ja (M := []) (C' := [12, 13, 14]) (pre := [(15, .pointer (some pwant))]) [(1, vSl aperm perm cperm), (2, .pointer (some pt)), (6, .slice a2 ((((t.ops.length : Nat) : Int)).toNat) c2), (7, vSl aout out cout), (9, .pointer (some po)), (26, vSl at_3 t.ops ct3), (27, iV ((t.ops.length : Nat) : Int)), (28, iV t28)] [1, 2, 6, 7, 9, 26, 27, 28] hL rfl rfl rfl rfl rfl sb rfl rfl (by kernel_rfl) ?_
     refine .step [16] 16 rfl (by kernel_rfl) (by kernel_rfl) (.v [] rfl rfl rfl rfl rfl rfl (fun _ => fa rfl tF52_3) (.v [(44, .pointer (some (po.add 3)))] rfl rfl rfl rfl rfl rfl (fun _ => ld1 rfl tO3 (cellB (off := 3) (k := 1) rfl rfl)) (.v [(35, vSl a11 r5 c10), (39, vSl a12 r6 c11), (43, vSl a13 r7 c12), (45, iV ((gt t.ops t28).cost))] rfl rfl rfl rfl rfl rfl (fun _ => bld (cs := #[vSl a11 r5 c10, vSl a12 r6 c11, vSl a13 r7 c12, iV ((gt t.ops t28).cost)]) (pv := [(0, vSl a11 r5 c10), (1, vSl a12 r6 c11), (2, vSl a13 r7 c12), (3, iV ((gt t.ops t28).cost))]) tB52 rfl rfl) (.nil)))) (.cons [(10, .pointer (some pwant)), (46, .agg #[vSl a11 r5 c10, vSl a12 r6 c11, vSl a13 r7 c12, iV ((gt t.ops t28).cost)]), (43, vSl a13 r7 c12), (32, vSl aperm perm cperm), (33, .pointer (some (po.add 0))), (34, .slice a3 ((gt t.ops t28).pre.length) c3), (35, vSl a11 r5 c10), (36, vSl aperm perm cperm), (37, .pointer (some (po.add 1))), (38, .slice a4 ((gt t.ops t28).add.length) c4), (39, vSl a12 r6 c11), (40, vSl aperm perm cperm), (41, .pointer (some (po.add 2))), (42, .slice a5 ((gt t.ops t28).del.length) c5), (43, vSl a13 r7 c12), (44, .pointer (some (po.add 3))), (45, iV ((gt t.ops t28).cost)), (46, .agg #[vSl a11 r5 c10, vSl a12 r6 c11, vSl a13 r7 c12, iV ((gt t.ops t28).cost)]), (10, .pointer (some pwant))] rfl rfl (fun sL hL => ?_) (.nil))
     refine st (p := pwant) (off := 0) (k := 0) (vs := [vSl a11 r5 c10, vSl a12 r6 c11, vSl a13 r7 c12, iV ((gt t.ops t28).cost)]) rfl rfl rfl (fun w => (tA52 w).2) rfl rfl rfl rfl ?_
     refine .KA [Box pwant [vSl a11 r5 c10, vSl a12 r6 c11, vSl a13 r7 c12, iV ((gt t.ops t28).cost)], Box po [.slice a3 ((gt t.ops t28).pre.length) c3, .slice a4 ((gt t.ops t28).add.length) c4, .slice a5 ((gt t.ops t28).del.length) c5, iV ((gt t.ops t28).cost)], Box pt (tF t at_ ct at_2 ct2 at_3 ct3), OwnSl 4 1 a2 ((((t.ops.length : Nat) : Int)).toNat) c2 (flL used), oL 3 1 aout out cout] ?_
     refine .nil ?_
     refine .jaN (M := [14, 12, 13]) (C' := []) (pre := []) [1, 2, 6, 7, 9, 26, 27, 28] hL rfl rfl rfl rfl rfl (by kernel_rfl) ?_
     refine .last [(32, vSl aperm perm cperm), (33, .pointer (some (po.add 0))), (34, .slice a3 ((gt t.ops t28).pre.length) c3), (35, vSl a11 r5 c10), (36, vSl aperm perm cperm), (37, .pointer (some (po.add 1))), (38, .slice a4 ((gt t.ops t28).add.length) c4), (39, vSl a12 r6 c11), (40, vSl aperm perm cperm), (41, .pointer (some (po.add 2))), (42, .slice a5 ((gt t.ops t28).del.length) c5), (43, vSl a13 r7 c12), (44, .pointer (some (po.add 3))), (45, iV ((gt t.ops t28).cost)), (46, .agg #[vSl a11 r5 c10, vSl a12 r6 c11, vSl a13 r7 c12, iV ((gt t.ops t28).cost)]), (10, .pointer (some pwant))] rfl (by kernel_rfl) (.nil) rfl ?_
     refine .sel0 [2, 3, 4, 0] (by decide) rfl ?_
     exact .US q7508 (r5, r6, r7, pwant, a11, c10, a12, c11, a13, c12, h337) ⟨hF, (q7875.mono (FH.le_trans (le336) (le337))), q7876, (q7879.mono (le337)), q7880, q7883, q7884, (FH.le_trans (FH.le_trans (le335) (le336)) (le337))⟩
    ·refine al tZ52 rfl (fun pwant => ?_)
     refine .nil ?_
     refine .ja (M := []) (C' := [8, 9, 10, 12, 13]) (pre := [(15, .pointer (some pwant))]) [(1, vSl aperm perm cperm), (2, .pointer (some pt)), (6, .slice a2 ((((t.ops.length : Nat) : Int)).toNat) c2), (7, vSl aout out cout), (9, .pointer (some po)), (26, vSl at_3 t.ops ct3), (27, iV ((t.ops.length : Nat) : Int)), (28, iV t28)] [1, 2, 6, 7, 9, 26, 27, 28] hL rfl rfl rfl rfl rfl sb rfl rfl (by kernel_rfl) ?_
     refine .step [11] 11 rfl (by kernel_rfl) (by kernel_rfl) (.v [] rfl rfl rfl rfl rfl rfl (fun _ => mv rfl) (.v [] rfl rfl rfl rfl rfl rfl (fun _ => fa rfl tF52_2) (.v [(41, .pointer (some (po.add 2)))] rfl rfl rfl rfl rfl rfl (fun _ => ld1 rfl tO22 (cellB (off := 2) (k := 1) rfl rfl)) (.v [] rfl rfl rfl rfl rfl rfl (fun _ => fa rfl tF52_3) (.v [(44, .pointer (some (po.add 3)))] rfl rfl rfl rfl rfl rfl (fun _ => ld1 rfl tO3 (cellB (off := 3) (k := 1) rfl rfl)) (.nil)))))) (.cons [(40, vSl aperm perm cperm), (42, .slice a5 ((gt t.ops t28).del.length) c5), (39, vSl a12 r6 c11)] rfl rfl (fun sL hL => ?_) (.nil))
     obtain ⟨q7885, hF⟩ := hF
     obtain ⟨r7, q7886⟩ : ∃ y_ : List Int, y_ = sp_image perm ((gt t.ops t28).del) := ⟨_, rfl⟩
     replace hF := hF r7 q7886
     refine clR (α := Option Addr × Nat) (Φ := fun h1 z => RSl h1 z.1 r7 ∧ r7.length ≤ z.2) (V := fun z => vSl z.1 r7 z.2) Tryz.call28 rfl rfl (fun w S => (by rw [q7886]; exact c_image S.sub perm aperm cperm (_q7.mono (FH.le_trans (FH.le_trans (le1) (le335)) (le336))) _q8 ((gt t.ops t28).del) a5 c5 (q7463.mono (FH.le_trans (FH.le_trans (le1) (le335)) (le336))) q7462 q7885)) rfl (fun z h338 le338 hz => ?_)
     obtain ⟨a13, c12⟩ := z
     obtain ⟨q7887, q7888⟩ := hz
     refine .nil ?_
     refine .ja (M := [8, 10, 9]) (C' := [12, 13, 14]) (pre := [(11, vSl a13 r7 c12), (14, .agg #[vSl a11 r5 c10, vSl a12 r6 c11, vSl a13 r7 c12, iV ((gt t.ops t28).cost)])]) [(1, vSl aperm perm cperm), (2, .pointer (some pt)), (6, .slice a2 ((((t.ops.length : Nat) : Int)).toNat) c2), (7, vSl aout out cout), (9, .pointer (some po)), (26, vSl at_3 t.ops ct3), (27, iV ((t.ops.length : Nat) : Int)), (28, iV t28)] [1, 2, 6, 7, 9, 26, 27, 28] hL rfl rfl rfl rfl rfl sb rfl rfl (by kernel_rfl) ?_
     refine .step [16] 16 rfl (by kernel_rfl) (by kernel_rfl) (.v [] rfl rfl rfl rfl rfl rfl (fun _ => fa rfl tF52_3) (.v [(44, .pointer (some (po.add 3)))] rfl rfl rfl rfl rfl rfl (fun _ => ld1 rfl tO3 (cellB (off := 3) (k := 1) rfl rfl)) (.v [(35, vSl a11 r5 c10), (39, vSl a12 r6 c11), (43, vSl a13 r7 c12), (45, iV ((gt t.ops t28).cost))] rfl rfl rfl rfl rfl rfl (fun _ => bld (cs := #[vSl a11 r5 c10, vSl a12 r6 c11, vSl a13 r7 c12, iV ((gt t.ops t28).cost)]) (pv := [(0, vSl a11 r5 c10), (1, vSl a12 r6 c11), (2, vSl a13 r7 c12), (3, iV ((gt t.ops t28).cost))]) tB52 rfl rfl) (.nil)))) (.cons [(10, .pointer (some pwant)), (46, .agg #[vSl a11 r5 c10, vSl a12 r6 c11, vSl a13 r7 c12, iV ((gt t.ops t28).cost)]), (43, vSl a13 r7 c12), (32, vSl aperm perm cperm), (33, .pointer (some (po.add 0))), (34, .slice a3 ((gt t.ops t28).pre.length) c3), (35, vSl a11 r5 c10), (36, vSl aperm perm cperm), (37, .pointer (some (po.add 1))), (38, .slice a4 ((gt t.ops t28).add.length) c4), (39, vSl a12 r6 c11), (40, vSl aperm perm cperm), (41, .pointer (some (po.add 2))), (42, .slice a5 ((gt t.ops t28).del.length) c5), (43, vSl a13 r7 c12), (44, .pointer (some (po.add 3))), (45, iV ((gt t.ops t28).cost)), (46, .agg #[vSl a11 r5 c10, vSl a12 r6 c11, vSl a13 r7 c12, iV ((gt t.ops t28).cost)]), (10, .pointer (some pwant))] rfl rfl (fun sL hL => ?_) (.nil))
     refine st (p := pwant) (off := 0) (k := 0) (vs := [vSl a11 r5 c10, vSl a12 r6 c11, vSl a13 r7 c12, iV ((gt t.ops t28).cost)]) rfl rfl rfl (fun w => (tA52 w).2) rfl rfl rfl rfl ?_
     refine .KA [Box pwant [vSl a11 r5 c10, vSl a12 r6 c11, vSl a13 r7 c12, iV ((gt t.ops t28).cost)], Box po [.slice a3 ((gt t.ops t28).pre.length) c3, .slice a4 ((gt t.ops t28).add.length) c4, .slice a5 ((gt t.ops t28).del.length) c5, iV ((gt t.ops t28).cost)], Box pt (tF t at_ ct at_2 ct2 at_3 ct3), OwnSl 4 1 a2 ((((t.ops.length : Nat) : Int)).toNat) c2 (flL used), oL 3 1 aout out cout] ?_
     refine .nil ?_
     refine .jaN (M := [14, 12, 13]) (C' := []) (pre := []) [1, 2, 6, 7, 9, 26, 27, 28] hL rfl rfl rfl rfl rfl (by kernel_rfl) ?_
     refine .last [(32, vSl aperm perm cperm), (33, .pointer (some (po.add 0))), (34, .slice a3 ((gt t.ops t28).pre.length) c3), (35, vSl a11 r5 c10), (36, vSl aperm perm cperm), (37, .pointer (some (po.add 1))), (38, .slice a4 ((gt t.ops t28).add.length) c4), (39, vSl a12 r6 c11), (40, vSl aperm perm cperm), (41, .pointer (some (po.add 2))), (42, .slice a5 ((gt t.ops t28).del.length) c5), (43, vSl a13 r7 c12), (44, .pointer (some (po.add 3))), (45, iV ((gt t.ops t28).cost)), (46, .agg #[vSl a11 r5 c10, vSl a12 r6 c11, vSl a13 r7 c12, iV ((gt t.ops t28).cost)]), (10, .pointer (some pwant))] rfl (by kernel_rfl) (.nil) rfl ?_
     refine .sel0 [2, 3, 4, 0] (by decide) rfl ?_
     exact .US q7508 (r5, r6, r7, pwant, a11, c10, a12, c11, a13, c12, h338) ⟨hF, (q7875.mono (FH.le_trans (le336) (le338))), q7876, (q7879.mono (le338)), q7880, q7887, q7888, (FH.le_trans (FH.le_trans (le335) (le336)) (le338))⟩
   ·refine al tZ52 rfl (fun pwant => ?_)
    refine .nil ?_
    refine .ja (M := []) (C' := [4, 5, 6, 8, 9, 10, 12, 13]) (pre := [(15, .pointer (some pwant))]) [(1, vSl aperm perm cperm), (2, .pointer (some pt)), (6, .slice a2 ((((t.ops.length : Nat) : Int)).toNat) c2), (7, vSl aout out cout), (9, .pointer (some po)), (26, vSl at_3 t.ops ct3), (27, iV ((t.ops.length : Nat) : Int)), (28, iV t28)] [1, 2, 6, 7, 9, 26, 27, 28] hL rfl rfl rfl rfl rfl sb rfl rfl (by kernel_rfl) ?_
    refine .step [7] 7 rfl (by kernel_rfl) (by kernel_rfl) (.v [] rfl rfl rfl rfl rfl rfl (fun _ => mv rfl) (.v [] rfl rfl rfl rfl rfl rfl (fun _ => fa rfl tF52_1) (.v [(37, .pointer (some (po.add 1)))] rfl rfl rfl rfl rfl rfl (fun _ => ld1 rfl tO22 (cellB (off := 1) (k := 1) rfl rfl)) (.v [] rfl rfl rfl rfl rfl rfl (fun _ => mv rfl) (.v [] rfl rfl rfl rfl rfl rfl (fun _ => fa rfl tF52_2) (.v [(41, .pointer (some (po.add 2)))] rfl rfl rfl rfl rfl rfl (fun _ => ld1 rfl tO22 (cellB (off := 2) (k := 1) rfl rfl)) (.v [] rfl rfl rfl rfl rfl rfl (fun _ => fa rfl tF52_3) (.v [(44, .pointer (some (po.add 3)))] rfl rfl rfl rfl rfl rfl (fun _ => ld1 rfl tO3 (cellB (off := 3) (k := 1) rfl rfl)) (.nil))))))))) (.cons [(36, vSl aperm perm cperm), (38, .slice a4 ((gt t.ops t28).add.length) c4), (35, vSl a11 r5 c10)] rfl rfl (fun sL hL => ?_) (.nil))
    obtain ⟨q7889, hF⟩ := hF
    obtain ⟨r6, q7890⟩ : ∃ y_ : List Int, y_ = sp_image perm ((gt t.ops t28).add) := ⟨_, rfl⟩
    replace hF := hF r6 q7890
    refine clR (α := Option Addr × Nat) (Φ := fun h1 z => RSl h1 z.1 r6 ∧ r6.length ≤ z.2) (V := fun z => vSl z.1 r6 z.2) Tryz.call28 rfl rfl (fun w S => (by rw [q7890]; exact c_image S.sub perm aperm cperm (_q7.mono (FH.le_trans (le1) (le335))) _q8 ((gt t.ops t28).add) a4 c4 (q7461.mono (FH.le_trans (le1) (le335))) q7460 q7889)) rfl (fun z h339 le339 hz => ?_)
    obtain ⟨a12, c11⟩ := z
    obtain ⟨q7891, q7892⟩ := hz
    refine .nil ?_
    refine .ja (M := [4, 6, 5]) (C' := [8, 9, 10, 12, 13]) (pre := [(7, vSl a12 r6 c11)]) [(1, vSl aperm perm cperm), (2, .pointer (some pt)), (6, .slice a2 ((((t.ops.length : Nat) : Int)).toNat) c2), (7, vSl aout out cout), (9, .pointer (some po)), (26, vSl at_3 t.ops ct3), (27, iV ((t.ops.length : Nat) : Int)), (28, iV t28)] [1, 2, 6, 7, 9, 26, 27, 28] hL rfl rfl rfl rfl rfl sb rfl rfl (by kernel_rfl) ?_
    refine .step [11] 11 rfl (by kernel_rfl) (by kernel_rfl) (.v [] rfl rfl rfl rfl rfl rfl (fun _ => mv rfl) (.v [] rfl rfl rfl rfl rfl rfl (fun _ => fa rfl tF52_2) (.v [(41, .pointer (some (po.add 2)))] rfl rfl rfl rfl rfl rfl (fun _ => ld1 rfl tO22 (cellB (off := 2) (k := 1) rfl rfl)) (.v [] rfl rfl rfl rfl rfl rfl (fun _ => fa rfl tF52_3) (.v [(44, .pointer (some (po.add 3)))] rfl rfl rfl rfl rfl rfl (fun _ => ld1 rfl tO3 (cellB (off := 3) (k := 1) rfl rfl)) (.nil)))))) (.cons [(40, vSl aperm perm cperm), (42, .slice a5 ((gt t.ops t28).del.length) c5), (39, vSl a12 r6 c11)] rfl rfl (fun sL hL => ?_) (.nil))
    obtain ⟨q7893, hF⟩ := hF
    obtain ⟨r7, q7894⟩ : ∃ y_ : List Int, y_ = sp_image perm ((gt t.ops t28).del) := ⟨_, rfl⟩
    replace hF := hF r7 q7894
    refine clR (α := Option Addr × Nat) (Φ := fun h1 z => RSl h1 z.1 r7 ∧ r7.length ≤ z.2) (V := fun z => vSl z.1 r7 z.2) Tryz.call28 rfl rfl (fun w S => (by rw [q7894]; exact c_image S.sub perm aperm cperm (_q7.mono (FH.le_trans (FH.le_trans (le1) (le335)) (le339))) _q8 ((gt t.ops t28).del) a5 c5 (q7463.mono (FH.le_trans (FH.le_trans (le1) (le335)) (le339))) q7462 q7893)) rfl (fun z h340 le340 hz => ?_)
    obtain ⟨a13, c12⟩ := z
    obtain ⟨q7895, q7896⟩ := hz
    refine .nil ?_
    refine .ja (M := [8, 10, 9]) (C' := [12, 13, 14]) (pre := [(11, vSl a13 r7 c12), (14, .agg #[vSl a11 r5 c10, vSl a12 r6 c11, vSl a13 r7 c12, iV ((gt t.ops t28).cost)])]) [(1, vSl aperm perm cperm), (2, .pointer (some pt)), (6, .slice a2 ((((t.ops.length : Nat) : Int)).toNat) c2), (7, vSl aout out cout), (9, .pointer (some po)), (26, vSl at_3 t.ops ct3), (27, iV ((t.ops.length : Nat) : Int)), (28, iV t28)] [1, 2, 6, 7, 9, 26, 27, 28] hL rfl rfl rfl rfl rfl sb rfl rfl (by kernel_rfl) ?_
    refine .step [16] 16 rfl (by kernel_rfl) (by kernel_rfl) (.v [] rfl rfl rfl rfl rfl rfl (fun _ => fa rfl tF52_3) (.v [(44, .pointer (some (po.add 3)))] rfl rfl rfl rfl rfl rfl (fun _ => ld1 rfl tO3 (cellB (off := 3) (k := 1) rfl rfl)) (.v [(35, vSl a11 r5 c10), (39, vSl a12 r6 c11), (43, vSl a13 r7 c12), (45, iV ((gt t.ops t28).cost))] rfl rfl rfl rfl rfl rfl (fun _ => bld (cs := #[vSl a11 r5 c10, vSl a12 r6 c11, vSl a13 r7 c12, iV ((gt t.ops t28).cost)]) (pv := [(0, vSl a11 r5 c10), (1, vSl a12 r6 c11), (2, vSl a13 r7 c12), (3, iV ((gt t.ops t28).cost))]) tB52 rfl rfl) (.nil)))) (.cons [(10, .pointer (some pwant)), (46, .agg #[vSl a11 r5 c10, vSl a12 r6 c11, vSl a13 r7 c12, iV ((gt t.ops t28).cost)]), (43, vSl a13 r7 c12), (32, vSl aperm perm cperm), (33, .pointer (some (po.add 0))), (34, .slice a3 ((gt t.ops t28).pre.length) c3), (35, vSl a11 r5 c10), (36, vSl aperm perm cperm), (37, .pointer (some (po.add 1))), (38, .slice a4 ((gt t.ops t28).add.length) c4), (39, vSl a12 r6 c11), (40, vSl aperm perm cperm), (41, .pointer (some (po.add 2))), (42, .slice a5 ((gt t.ops t28).del.length) c5), (43, vSl a13 r7 c12), (44, .pointer (some (po.add 3))), (45, iV ((gt t.ops t28).cost)), (46, .agg #[vSl a11 r5 c10, vSl a12 r6 c11, vSl a13 r7 c12, iV ((gt t.ops t28).cost)]), (10, .pointer (some pwant))] rfl rfl (fun sL hL => ?_) (.nil))
    refine st (p := pwant) (off := 0) (k := 0) (vs := [vSl a11 r5 c10, vSl a12 r6 c11, vSl a13 r7 c12, iV ((gt t.ops t28).cost)]) rfl rfl rfl (fun w => (tA52 w).2) rfl rfl rfl rfl ?_
    refine .KA [Box pwant [vSl a11 r5 c10, vSl a12 r6 c11, vSl a13 r7 c12, iV ((gt t.ops t28).cost)], Box po [.slice a3 ((gt t.ops t28).pre.length) c3, .slice a4 ((gt t.ops t28).add.length) c4, .slice a5 ((gt t.ops t28).del.length) c5, iV ((gt t.ops t28).cost)], Box pt (tF t at_ ct at_2 ct2 at_3 ct3), OwnSl 4 1 a2 ((((t.ops.length : Nat) : Int)).toNat) c2 (flL used), oL 3 1 aout out cout] ?_
    refine .nil ?_
    refine .jaN (M := [14, 12, 13]) (C' := []) (pre := []) [1, 2, 6, 7, 9, 26, 27, 28] hL rfl rfl rfl rfl rfl (by kernel_rfl) ?_
    refine .last [(32, vSl aperm perm cperm), (33, .pointer (some (po.add 0))), (34, .slice a3 ((gt t.ops t28).pre.length) c3), (35, vSl a11 r5 c10), (36, vSl aperm perm cperm), (37, .pointer (some (po.add 1))), (38, .slice a4 ((gt t.ops t28).add.length) c4), (39, vSl a12 r6 c11), (40, vSl aperm perm cperm), (41, .pointer (some (po.add 2))), (42, .slice a5 ((gt t.ops t28).del.length) c5), (43, vSl a13 r7 c12), (44, .pointer (some (po.add 3))), (45, iV ((gt t.ops t28).cost)), (46, .agg #[vSl a11 r5 c10, vSl a12 r6 c11, vSl a13 r7 c12, iV ((gt t.ops t28).cost)]), (10, .pointer (some pwant))] rfl (by kernel_rfl) (.nil) rfl ?_
    refine .sel0 [2, 3, 4, 0] (by decide) rfl ?_
    exact .US q7508 (r5, r6, r7, pwant, a11, c10, a12, c11, a13, c12, h340) ⟨hF, (q7875.mono (FH.le_trans (le339) (le340))), q7876, (q7891.mono (le340)), q7892, q7895, q7896, (FH.le_trans (FH.le_trans (le335) (le339)) (le340))⟩
  ·refine al tZ52 rfl (fun pwant => ?_)
   refine .nil ?_
   refine .ja (M := []) (C' := [0, 1, 2, 4, 5, 6, 8, 9, 10, 12, 13]) (pre := [(15, .pointer (some pwant))]) [(1, vSl aperm perm cperm), (2, .pointer (some pt)), (6, .slice a2 ((((t.ops.length : Nat) : Int)).toNat) c2), (7, vSl aout out cout), (9, .pointer (some po)), (26, vSl at_3 t.ops ct3), (27, iV ((t.ops.length : Nat) : Int)), (28, iV t28)] [1, 2, 6, 7, 9, 26, 27, 28] hL rfl rfl rfl rfl rfl sb rfl rfl (by kernel_rfl) ?_
   refine .step [3] 3 rfl (by kernel_rfl) (by kernel_rfl) (.v [] rfl rfl rfl rfl rfl rfl (fun _ => mv rfl) (.v [] rfl rfl rfl rfl rfl rfl (fun _ => fa rfl tF52_0) (.v [(33, .pointer (some (po.add 0)))] rfl rfl rfl rfl rfl rfl (fun _ => ld1 rfl tO22 (cellB (off := 0) (k := 1) rfl rfl)) (.v [] rfl rfl rfl rfl rfl rfl (fun _ => mv rfl) (.v [] rfl rfl rfl rfl rfl rfl (fun _ => fa rfl tF52_1) (.v [(37, .pointer (some (po.add 1)))] rfl rfl rfl rfl rfl rfl (fun _ => ld1 rfl tO22 (cellB (off := 1) (k := 1) rfl rfl)) (.v [] rfl rfl rfl rfl rfl rfl (fun _ => mv rfl) (.v [] rfl rfl rfl rfl rfl rfl (fun _ => fa rfl tF52_2) (.v [(41, .pointer (some (po.add 2)))] rfl rfl rfl rfl rfl rfl (fun _ => ld1 rfl tO22 (cellB (off := 2) (k := 1) rfl rfl)) (.v [] rfl rfl rfl rfl rfl rfl (fun _ => fa rfl tF52_3) (.v [(44, .pointer (some (po.add 3)))] rfl rfl rfl rfl rfl rfl (fun _ => ld1 rfl tO3 (cellB (off := 3) (k := 1) rfl rfl)) (.nil)))))))))))) (.cons [(32, vSl aperm perm cperm), (34, .slice a3 ((gt t.ops t28).pre.length) c3)] rfl rfl (fun sL hL => ?_) (.nil))
   obtain ⟨q7897, hF⟩ := hF
   obtain ⟨r5, q7898⟩ : ∃ y_ : List Int, y_ = sp_image perm ((gt t.ops t28).pre) := ⟨_, rfl⟩
   replace hF := hF r5 q7898
   refine clR (α := Option Addr × Nat) (Φ := fun h1 z => RSl h1 z.1 r5 ∧ r5.length ≤ z.2) (V := fun z => vSl z.1 r5 z.2) Tryz.call28 rfl rfl (fun w S => (by rw [q7898]; exact c_image S.sub perm aperm cperm (_q7.mono (le1)) _q8 ((gt t.ops t28).pre) a3 c3 (q7459.mono (le1)) q7458 q7897)) rfl (fun z h341 le341 hz => ?_)
   obtain ⟨a11, c10⟩ := z
   obtain ⟨q7899, q7900⟩ := hz
   refine .nil ?_
   refine .ja (M := [0, 2, 1]) (C' := [4, 5, 6, 8, 9, 10, 12, 13]) (pre := [(3, vSl a11 r5 c10)]) [(1, vSl aperm perm cperm), (2, .pointer (some pt)), (6, .slice a2 ((((t.ops.length : Nat) : Int)).toNat) c2), (7, vSl aout out cout), (9, .pointer (some po)), (26, vSl at_3 t.ops ct3), (27, iV ((t.ops.length : Nat) : Int)), (28, iV t28)] [1, 2, 6, 7, 9, 26, 27, 28] hL rfl rfl rfl rfl rfl sb rfl rfl (by kernel_rfl) ?_
   refine .step [7] 7 rfl (by kernel_rfl) (by kernel_rfl) (.v [] rfl rfl rfl rfl rfl rfl (fun _ => mv rfl) (.v [] rfl rfl rfl rfl rfl rfl (fun _ => fa rfl tF52_1) (.v [(37, .pointer (some (po.add 1)))] rfl rfl rfl rfl rfl rfl (fun _ => ld1 rfl tO22 (cellB (off := 1) (k := 1) rfl rfl)) (.v [] rfl rfl rfl rfl rfl rfl (fun _ => mv rfl) (.v [] rfl rfl rfl rfl rfl rfl (fun _ => fa rfl tF52_2) (.v [(41, .pointer (some (po.add 2)))] rfl rfl rfl rfl rfl rfl (fun _ => ld1 rfl tO22 (cellB (off := 2) (k := 1) rfl rfl)) (.v [] rfl rfl rfl rfl rfl rfl (fun _ => fa rfl tF52_3) (.v [(44, .pointer (some (po.add 3)))] rfl rfl rfl rfl rfl rfl (fun _ => ld1 rfl tO3 (cellB (off := 3) (k := 1) rfl rfl)) (.nil))))))))) (.cons [(36, vSl aperm perm cperm), (38, .slice a4 ((gt t.ops t28).add.length) c4), (35, vSl a11 r5 c10)] rfl rfl (fun sL hL => ?_) (.nil))
   obtain ⟨q7901, hF⟩ := hF
   obtain ⟨r6, q7902⟩ : ∃ y_ : List Int, y_ = sp_image perm ((gt t.ops t28).add) := ⟨_, rfl⟩
   replace hF := hF r6 q7902
   refine clR (α := Option Addr × Nat) (Φ := fun h1 z => RSl h1 z.1 r6 ∧ r6.length ≤ z.2) (V := fun z => vSl z.1 r6 z.2) Tryz.call28 rfl rfl (fun w S => (by rw [q7902]; exact c_image S.sub perm aperm cperm (_q7.mono (FH.le_trans (le1) (le341))) _q8 ((gt t.ops t28).add) a4 c4 (q7461.mono (FH.le_trans (le1) (le341))) q7460 q7901)) rfl (fun z h342 le342 hz => ?_)
   obtain ⟨a12, c11⟩ := z
   obtain ⟨q7903, q7904⟩ := hz
   refine .nil ?_
   refine .ja (M := [4, 6, 5]) (C' := [8, 9, 10, 12, 13]) (pre := [(7, vSl a12 r6 c11)]) [(1, vSl aperm perm cperm), (2, .pointer (some pt)), (6, .slice a2 ((((t.ops.length : Nat) : Int)).toNat) c2), (7, vSl aout out cout), (9, .pointer (some po)), (26, vSl at_3 t.ops ct3), (27, iV ((t.ops.length : Nat) : Int)), (28, iV t28)] [1, 2, 6, 7, 9, 26, 27, 28] hL rfl rfl rfl rfl rfl sb rfl rfl (by kernel_rfl) ?_
   refine .step [11] 11 rfl (by kernel_rfl) (by kernel_rfl) (.v [] rfl rfl rfl rfl rfl rfl (fun _ => mv rfl) (.v [] rfl rfl rfl rfl rfl rfl (fun _ => fa rfl tF52_2) (.v [(41, .pointer (some (po.add 2)))] rfl rfl rfl rfl rfl rfl (fun _ => ld1 rfl tO22 (cellB (off := 2) (k := 1) rfl rfl)) (.v [] rfl rfl rfl rfl rfl rfl (fun _ => fa rfl tF52_3) (.v [(44, .pointer (some (po.add 3)))] rfl rfl rfl rfl rfl rfl (fun _ => ld1 rfl tO3 (cellB (off := 3) (k := 1) rfl rfl)) (.nil)))))) (.cons [(40, vSl aperm perm cperm), (42, .slice a5 ((gt t.ops t28).del.length) c5), (39, vSl a12 r6 c11)] rfl rfl (fun sL hL => ?_) (.nil))
   obtain ⟨q7905, hF⟩ := hF
   obtain ⟨r7, q7906⟩ : ∃ y_ : List Int, y_ = sp_image perm ((gt t.ops t28).del) := ⟨_, rfl⟩
   replace hF := hF r7 q7906
   refine clR (α := Option Addr × Nat) (Φ := fun h1 z => RSl h1 z.1 r7 ∧ r7.length ≤ z.2) (V := fun z => vSl z.1 r7 z.2) Tryz.call28 rfl rfl (fun w S => (by rw [q7906]; exact c_image S.sub perm aperm cperm (_q7.mono (FH.le_trans (FH.le_trans (le1) (le341)) (le342))) _q8 ((gt t.ops t28).del) a5 c5 (q7463.mono (FH.le_trans (FH.le_trans (le1) (le341)) (le342))) q7462 q7905)) rfl (fun z h343 le343 hz => ?_)
   obtain ⟨a13, c12⟩ := z
   obtain ⟨q7907, q7908⟩ := hz
   refine .nil ?_
   refine .ja (M := [8, 10, 9]) (C' := [12, 13, 14]) (pre := [(11, vSl a13 r7 c12), (14, .agg #[vSl a11 r5 c10, vSl a12 r6 c11, vSl a13 r7 c12, iV ((gt t.ops t28).cost)])]) [(1, vSl aperm perm cperm), (2, .pointer (some pt)), (6, .slice a2 ((((t.ops.length : Nat) : Int)).toNat) c2), (7, vSl aout out cout), (9, .pointer (some po)), (26, vSl at_3 t.ops ct3), (27, iV ((t.ops.length : Nat) : Int)), (28, iV t28)] [1, 2, 6, 7, 9, 26, 27, 28] hL rfl rfl rfl rfl rfl sb rfl rfl (by kernel_rfl) ?_
   refine .step [16] 16 rfl (by kernel_rfl) (by kernel_rfl) (.v [] rfl rfl rfl rfl rfl rfl (fun _ => fa rfl tF52_3) (.v [(44, .pointer (some (po.add 3)))] rfl rfl rfl rfl rfl rfl (fun _ => ld1 rfl tO3 (cellB (off := 3) (k := 1) rfl rfl)) (.v [(35, vSl a11 r5 c10), (39, vSl a12 r6 c11), (43, vSl a13 r7 c12), (45, iV ((gt t.ops t28).cost))] rfl rfl rfl rfl rfl rfl (fun _ => bld (cs := #[vSl a11 r5 c10, vSl a12 r6 c11, vSl a13 r7 c12, iV ((gt t.ops t28).cost)]) (pv := [(0, vSl a11 r5 c10), (1, vSl a12 r6 c11), (2, vSl a13 r7 c12), (3, iV ((gt t.ops t28).cost))]) tB52 rfl rfl) (.nil)))) (.cons [(10, .pointer (some pwant)), (46, .agg #[vSl a11 r5 c10, vSl a12 r6 c11, vSl a13 r7 c12, iV ((gt t.ops t28).cost)]), (43, vSl a13 r7 c12), (32, vSl aperm perm cperm), (33, .pointer (some (po.add 0))), (34, .slice a3 ((gt t.ops t28).pre.length) c3), (35, vSl a11 r5 c10), (36, vSl aperm perm cperm), (37, .pointer (some (po.add 1))), (38, .slice a4 ((gt t.ops t28).add.length) c4), (39, vSl a12 r6 c11), (40, vSl aperm perm cperm), (41, .pointer (some (po.add 2))), (42, .slice a5 ((gt t.ops t28).del.length) c5), (43, vSl a13 r7 c12), (44, .pointer (some (po.add 3))), (45, iV ((gt t.ops t28).cost)), (46, .agg #[vSl a11 r5 c10, vSl a12 r6 c11, vSl a13 r7 c12, iV ((gt t.ops t28).cost)]), (10, .pointer (some pwant))] rfl rfl (fun sL hL => ?_) (.nil))
   refine st (p := pwant) (off := 0) (k := 0) (vs := [vSl a11 r5 c10, vSl a12 r6 c11, vSl a13 r7 c12, iV ((gt t.ops t28).cost)]) rfl rfl rfl (fun w => (tA52 w).2) rfl rfl rfl rfl ?_
   refine .KA [Box pwant [vSl a11 r5 c10, vSl a12 r6 c11, vSl a13 r7 c12, iV ((gt t.ops t28).cost)], Box po [.slice a3 ((gt t.ops t28).pre.length) c3, .slice a4 ((gt t.ops t28).add.length) c4, .slice a5 ((gt t.ops t28).del.length) c5, iV ((gt t.ops t28).cost)], Box pt (tF t at_ ct at_2 ct2 at_3 ct3), OwnSl 4 1 a2 ((((t.ops.length : Nat) : Int)).toNat) c2 (flL used), oL 3 1 aout out cout] ?_
   refine .nil ?_
   refine .jaN (M := [14, 12, 13]) (C' := []) (pre := []) [1, 2, 6, 7, 9, 26, 27, 28] hL rfl rfl rfl rfl rfl (by kernel_rfl) ?_
   refine .last [(32, vSl aperm perm cperm), (33, .pointer (some (po.add 0))), (34, .slice a3 ((gt t.ops t28).pre.length) c3), (35, vSl a11 r5 c10), (36, vSl aperm perm cperm), (37, .pointer (some (po.add 1))), (38, .slice a4 ((gt t.ops t28).add.length) c4), (39, vSl a12 r6 c11), (40, vSl aperm perm cperm), (41, .pointer (some (po.add 2))), (42, .slice a5 ((gt t.ops t28).del.length) c5), (43, vSl a13 r7 c12), (44, .pointer (some (po.add 3))), (45, iV ((gt t.ops t28).cost)), (46, .agg #[vSl a11 r5 c10, vSl a12 r6 c11, vSl a13 r7 c12, iV ((gt t.ops t28).cost)]), (10, .pointer (some pwant))] rfl (by kernel_rfl) (.nil) rfl ?_
   refine .sel0 [2, 3, 4, 0] (by decide) rfl ?_
   exact .US q7508 (r5, r6, r7, pwant, a11, c10, a12, c11, a13, c12, h343) ⟨hF, (q7899.mono (FH.le_trans (le342) (le343))), q7900, (q7903.mono (le343)), q7904, q7907, q7908, (FH.le_trans (FH.le_trans (le341) (le342)) (le343))⟩
 replace hF := hF.2 q6552
 refine .exit (.seqX (.seqX (.blkX (.seqN (.seq (.region (.V mv0 ?_)))))))
 refine .V ag0 ?_
 refine .V ag0 ?_
 refine .nil (.seqN ?_)
 refine .freezeL (k := 2) rfl (fun h344 le344 q7910 q7909 => ?_)
 refine .KA [Box pt (tF t at_ ct at_2 ct2 at_3 ct3), OwnSl 4 1 a2 ((((t.ops.length : Nat) : Int)).toNat) c2 (flL used), tru] ?_
 refine .ret ?_
 refine .res2 rfl (rvT rfl) (rvT rfl) (fun w' S => ⟨(out, true), (aout, cout), h344, hF, rfl, (FH.le_trans (le1) (le344)), ⟨(RSl.of q7909), (q7910)⟩, S.none⟩)
theorem c_symOps {h : FH} {w : World} (hs : Sub h w) (t : Task) (at_ : Option Addr) (ct : Nat) (_q1 : RSl h at_ t.init) (_q2 : t.init.length ≤ ct) (at_2 : Option Addr) (ct2 : Nat) (_q3 : RSl h at_2 t.goal) (_q4 : t.goal.length ≤ ct2) (at_3 : Option Addr) (ct3 : Nat) (_q5 : RSl h at_3 t.ops) (_q6 : t.ops.length ≤ ct3) (perm : List Int) (aperm : Option Addr) (cperm : Nat) (_q7 : RSl h aperm perm) (_q8 : perm.length ≤ cperm) (hp : pre_symOps t perm) : Calls Tryz.prog 61 #[.agg #[iV t.facts, .slice at_ t.init.length ct, .slice at_2 t.goal.length ct2, .slice at_3 t.ops.length ct3], .slice aperm perm.length cperm] w fun e w' => ∃ (z : Option Addr × Nat) (h1 : FH), e = .returned (.tuple #[.slice z.1 (sp_symOps t perm).1.length z.2, .bool (sp_symOps t perm).2]) ∧ FH.le h h1 ∧ (RSl h1 z.1 (sp_symOps t perm).1 ∧ (sp_symOps t perm).1.length ≤ z.2) ∧ SH (Kp.all w h) h1 w' [] :=
 (w_symOps hs t at_ ct _q1 _q2 at_2 ct2 _q3 _q4 at_3 ct3 _q5 _q6 perm aperm cperm _q7 _q8 (fun r => r = sp_symOps t perm) (ok_symOps t perm hp)).mono fun _ _ ⟨r, z, h1, hk, he, hl, hf, hS⟩ => by subst hk; exact ⟨z, h1, he, hl, hf, hS⟩
theorem w_plus {h : FH} {w : World} (hs : Sub h w) (a : Int) (b : Int) (K : Int → Prop) (hF : F_plus a b K) : Calls Tryz.prog 66 #[iV a, iV b] w fun e w' => ∃ r : Int, K r ∧ e = .returned (iV r) ∧ Below w.heap.size w w' := by
 refine enter (args := [iV a, iV b]) Tryz.func66 rfl Tryz.ntmps66 rfl hs ?_
 refine .seq (.region (.V ag0 ?_))
 refine .nil (.seqN (.seq ?_))
 refine .share (σ := Bool) (fun z => F_plus_J1 a b K z) (fun z => [(0, iV a), (1, iV b), (10, .bool z)]) (fun _ => []) (fun _ => h) ?_ (fun q2 => ?_)
 ·rintro t10 hF
  show J _ _ _ _ _ [(0, iV a), (1, iV b), (10, .bool t10)] [] h
  refine .cond rfl (fun q4 => ?_) (fun q4 => ?_)
  ·replace hF := hF.1 q4
   refine .seq (.region (.V ag0 ?_))
   refine .nil (.seqN (.ret (.seqR ?_)))
   refine .res1 rfl (rvT rfl) (fun w' S => ⟨1000000000, hF, rfl, S.below⟩)
  replace hF := hF.2 q4
  refine .skip (.seqN (.seq (.region (.V mv0 ?_))))
  refine .V mv0 ?_
  refine .V bi0 ?_
  obtain ⟨x, q5⟩ : ∃ y_ : Int, y_ = (if 999999999 < (wr (a + b)) then 999999999 else (wr (a + b))) := ⟨_, rfl⟩
  replace hF := hF x q5
  refine .v (v := iV x) (by rw [q5]; exact mn rfl rfl) rfl rfl rfl ?_
  refine .V ag0 ?_
  refine .nil (.seqN (.ret ?_))
  refine .res1 rfl (rvT rfl) (fun w' S => ⟨x, hF, rfl, S.below⟩)
 refine .region (.V mv0 ?_)
 refine .V bi0 ?_
 refine .V mv0 ?_
 rcases Bool.eq_false_or_eq_true (a == 1000000000) with q6 | q6
 ·replace hF := hF.1 q6
  refine .GS q6 ?_
  refine .GS q6 ?_
  refine .V (pkT rfl q6 rfl) ?_
  refine .nil ?_
  exact .US q2 true hF
 replace hF := hF.2 q6
 refine .GV mv0 q6 ?_
 refine .GV bi0 q6 ?_
 refine .V (pkF rfl q6 rfl) ?_
 refine .nil ?_
 exact .US q2 (b == 1000000000) hF
theorem c_plus {h : FH} {w : World} (hs : Sub h w) (a : Int) (b : Int) (hp : pre_plus a b) : Calls Tryz.prog 66 #[iV a, iV b] w fun e w' => e = .returned (iV (sp_plus a b)) ∧ Below w.heap.size w w' :=
 (w_plus hs a b (fun r => r = sp_plus a b) (ok_plus a b hp)).mono fun _ _ ⟨_, hk, he, hb⟩ => ⟨by rw [he, hk], hb⟩
theorem w_greatest {h : FH} {w : World} (hs : Sub h w) (values : List Int) (avalues : Option Addr) (cvalues : Nat) (_q1 : RSl h avalues values) (_q2 : values.length ≤ cvalues) (facts : List Int) (afacts : Option Addr) (cfacts : Nat) (_q3 : RSl h afacts facts) (_q4 : facts.length ≤ cfacts) (K : Int → Prop) (hF : F_greatest values facts K) : Calls Tryz.prog 31 #[.slice avalues values.length cvalues, .slice afacts facts.length cfacts] w fun e w' => ∃ r : Int, K r ∧ e = .returned (iV r) ∧ Below w.heap.size w w' := by
 refine enter (args := [vSl avalues values cvalues, vSl afacts facts cfacts]) Tryz.func31 rfl Tryz.ntmps31 rfl hs ?_
 refine .seq (.region (.V ag0 ?_))
 refine .nil (.seqN (.seq (.region (.V ag0 ?_))))
 refine .nil (.seqN (.seq (.seq (.region (.V mv0 ?_)))))
 refine .V (ln rfl tS22.is) ?_
 refine .V mv0 ?_
 refine .nil (.seqN (.block ?_))
 obtain ⟨I1, μ1, q67, q68⟩ := hF
 refine .loop' (σ := Int × Int) (fun z => I1 z.1 z.2) (fun z => μ1 z.1 z.2) (fun z => [(0, vSl avalues values cvalues), (5, iV z.1), (8, vSl afacts facts cfacts), (9, iV ((facts.length : Nat) : Int)), (10, iV z.2)]) (fun _ => []) (fun _ => h) (0, 0) q67 sb rfl (FH.le_refl _) ?_
 rintro ⟨out, t10⟩ q67
 have hF := q68 out t10 q67
 show J _ _ _ _ _ [(0, vSl avalues values cvalues), (5, iV out), (8, vSl afacts facts cfacts), (9, iV ((facts.length : Nat) : Int)), (10, iV t10)] [] h
 refine .seq (.region (.V bi0 ?_))
 refine .nil (.seqN (.seq ?_))
 refine .cond rfl (fun q71 => ?_) (fun q71 => ?_)
 ·replace hF := hF.1 q71
  refine .skip (.seqN (.seq (.block (.seq (.region ?_)))))
  obtain ⟨q78, hF⟩ := hF
  refine .V (ix rfl rfl tS22 (_q3.ne (by decide) (inb_pos q78)) q78) ?_
  refine .V (ld1 (v := iV (gt facts t10)) rfl tO3 (cellH (_q3.elemF q78 (by decide) 0 _ rfl))) ?_
  refine .V ag0 ?_
  refine .nil (.seqN (.region (.V mv0 ?_)))
  refine .V mv0 ?_
  refine .V mv0 ?_
  obtain ⟨q79, hF⟩ := hF
  refine .V (ix rfl rfl tS22 (_q1.ne (by decide) (inb_pos q79)) q79) ?_
  refine .V (ld1 (v := iV (gt values (gt facts t10))) rfl tO3 (cellH (_q1.elemF q79 (by decide) 0 _ rfl))) ?_
  obtain ⟨x, q80⟩ : ∃ y_ : Int, y_ = (if out < (gt values (gt facts t10)) then (gt values (gt facts t10)) else out) := ⟨_, rfl⟩
  replace hF := hF x q80
  refine .v (v := iV x) (by rw [q80]; exact mx rfl rfl) rfl rfl rfl ?_
  refine .V ag0 ?_
  refine .nil (.blkN (.seqN (.region (.V bi0 ?_))))
  refine .V mv0 ?_
  refine .nil ?_
  exact .RO (x, wr (t10 + 1)) hF.1 hF.2
 replace hF := hF.2 q71
 refine .exit (.seqX (.seqX (.blkX (.seqN (.seq (.region (.V mv0 ?_)))))))
 refine .V ag0 ?_
 refine .nil (.seqN (.ret ?_))
 refine .res1 rfl (rvT rfl) (fun w' S => ⟨out, hF, rfl, S.below⟩)
theorem c_greatest {h : FH} {w : World} (hs : Sub h w) (values : List Int) (avalues : Option Addr) (cvalues : Nat) (_q1 : RSl h avalues values) (_q2 : values.length ≤ cvalues) (facts : List Int) (afacts : Option Addr) (cfacts : Nat) (_q3 : RSl h afacts facts) (_q4 : facts.length ≤ cfacts) (hp : pre_greatest values facts) : Calls Tryz.prog 31 #[.slice avalues values.length cvalues, .slice afacts facts.length cfacts] w fun e w' => e = .returned (iV (sp_greatest values facts)) ∧ Below w.heap.size w w' :=
 (w_greatest hs values avalues cvalues _q1 _q2 facts afacts cfacts _q3 _q4 (fun r => r = sp_greatest values facts) (ok_greatest values facts hp)).mono fun _ _ ⟨_, hk, he, hb⟩ => ⟨by rw [he, hk], hb⟩
theorem w_sumR {h : FH} {w : World} (hs : Sub h w) (values : List Int) (avalues : Option Addr) (cvalues : Nat) (_q1 : RSl h avalues values) (_q2 : values.length ≤ cvalues) (facts : List Int) (afacts : Option Addr) (cfacts : Nat) (_q3 : RSl h afacts facts) (_q4 : facts.length ≤ cfacts) (K : Int → Prop) (hF : F_sumR values facts K) : Calls Tryz.prog 32 #[.slice avalues values.length cvalues, .slice afacts facts.length cfacts] w fun e w' => ∃ r : Int, K r ∧ e = .returned (iV r) ∧ Below w.heap.size w w' := by
 refine enter (args := [vSl avalues values cvalues, vSl afacts facts cfacts]) Tryz.func32 rfl Tryz.ntmps32 rfl hs ?_
 refine .seq (.region (.V ag0 ?_))
 refine .nil (.seqN (.seq (.region (.V ag0 ?_))))
 refine .nil (.seqN (.seq (.seq (.region (.V mv0 ?_)))))
 refine .V (ln rfl tS22.is) ?_
 refine .V mv0 ?_
 refine .nil (.seqN (.block ?_))
 obtain ⟨I1, μ1, q82, q83⟩ := hF
 refine .loop' (σ := Int × Int) (fun z => I1 z.1 z.2) (fun z => μ1 z.1 z.2) (fun z => [(0, vSl avalues values cvalues), (5, iV z.1), (8, vSl afacts facts cfacts), (9, iV ((facts.length : Nat) : Int)), (10, iV z.2)]) (fun _ => []) (fun _ => h) (0, 0) q82 sb rfl (FH.le_refl _) ?_
 rintro ⟨out, t10⟩ q82
 have hF := q83 out t10 q82
 show J _ _ _ _ _ [(0, vSl avalues values cvalues), (5, iV out), (8, vSl afacts facts cfacts), (9, iV ((facts.length : Nat) : Int)), (10, iV t10)] [] h
 refine .seq (.region (.V bi0 ?_))
 refine .nil (.seqN (.seq ?_))
 refine .cond rfl (fun q86 => ?_) (fun q86 => ?_)
 ·replace hF := hF.1 q86
  refine .skip (.seqN (.seq (.block (.seq (.region ?_)))))
  obtain ⟨q95, hF⟩ := hF
  refine .V (ix rfl rfl tS22 (_q3.ne (by decide) (inb_pos q95)) q95) ?_
  refine .V (ld1 (v := iV (gt facts t10)) rfl tO3 (cellH (_q3.elemF q95 (by decide) 0 _ rfl))) ?_
  refine .V ag0 ?_
  refine .nil (.seqN (.region (.V mv0 ?_)))
  refine .V mv0 ?_
  refine .V mv0 ?_
  obtain ⟨q96, hF⟩ := hF
  refine .V (ix rfl rfl tS22 (_q1.ne (by decide) (inb_pos q96)) q96) ?_
  refine .V (ld1 (v := iV (gt values (gt facts t10))) rfl tO3 (cellH (_q1.elemF q96 (by decide) 0 _ rfl))) ?_
  obtain ⟨q97, hF⟩ := hF
  obtain ⟨r2, q98⟩ : ∃ y_ : Int, y_ = sp_plus out (gt values (gt facts t10)) := ⟨_, rfl⟩
  replace hF := hF r2 q98
  refine .C (cl (v := iV r2) Tryz.call66 rfl rfl (fun w S => (by rw [q98]; exact c_plus S.sub out (gt values (gt facts t10)) q97))) ?_
  refine .V ag0 ?_
  refine .nil (.blkN (.seqN (.region (.V bi0 ?_))))
  refine .V mv0 ?_
  refine .nil ?_
  exact .RO (r2, wr (t10 + 1)) hF.1 hF.2
 replace hF := hF.2 q86
 refine .exit (.seqX (.seqX (.blkX (.seqN (.seq (.region (.V mv0 ?_)))))))
 refine .V ag0 ?_
 refine .nil (.seqN (.ret ?_))
 refine .res1 rfl (rvT rfl) (fun w' S => ⟨out, hF, rfl, S.below⟩)
theorem c_sumR {h : FH} {w : World} (hs : Sub h w) (values : List Int) (avalues : Option Addr) (cvalues : Nat) (_q1 : RSl h avalues values) (_q2 : values.length ≤ cvalues) (facts : List Int) (afacts : Option Addr) (cfacts : Nat) (_q3 : RSl h afacts facts) (_q4 : facts.length ≤ cfacts) (hp : pre_sumR values facts) : Calls Tryz.prog 32 #[.slice avalues values.length cvalues, .slice afacts facts.length cfacts] w fun e w' => e = .returned (iV (sp_sumR values facts)) ∧ Below w.heap.size w w' :=
 (w_sumR hs values avalues cvalues _q1 _q2 facts afacts cfacts _q3 _q4 (fun r => r = sp_sumR values facts) (ok_sumR values facts hp)).mono fun _ _ ⟨_, hk, he, hb⟩ => ⟨by rw [he, hk], hb⟩
theorem w_costsR {h : FH} {w : World} (hs : Sub h w) (t : Task) (at_ : Option Addr) (ct : Nat) (_q1 : RSl h at_ t.init) (_q2 : t.init.length ≤ ct) (at_2 : Option Addr) (ct2 : Nat) (_q3 : RSl h at_2 t.goal) (_q4 : t.goal.length ≤ ct2) (at_3 : Option Addr) (ct3 : Nat) (_q5 : RSl h at_3 t.ops) (_q6 : t.ops.length ≤ ct3) (K : (List Int) → Prop) (hF : F_costsR t K) : Calls Tryz.prog 65 #[.agg #[iV t.facts, .slice at_ t.init.length ct, .slice at_2 t.goal.length ct2, .slice at_3 t.ops.length ct3]] w fun e w' => ∃ (r : List Int) (z : Option Addr × Nat) (h1 : FH), K r ∧ e = .returned (.slice z.1 r.length z.2) ∧ FH.le h h1 ∧ True ∧ SH (Kp.all w h) h1 w' [OwnSl 3 1 z.1 r.length z.2 (flL r)] := by
 refine enter (args := [.agg (tF t at_ ct at_2 ct2 at_3 ct3).toArray]) Tryz.func65 rfl Tryz.ntmps65 rfl hs ?_
 refine .seq (.region ?_)
 refine bx (vs := (tF t at_ ct at_2 ct2 at_3 ct3)) rfl rfl rfl (fun pt => ?_)
 refine .V ag0 ?_
 refine .nil (.seqN (.seq (.region (.V ag0 ?_))))
 refine .nil (.seqN (.seq (.seq (.region (.V (fa rfl tF25_3) ?_)))))
 refine .V (ld1 rfl tO23 (cellB (off := 3) (k := 0) rfl rfl)) ?_
 refine .V (ln rfl tS23.is) ?_
 refine .V mv0 ?_
 refine .nil (.seqN (.block ?_))
 refine .nilSl 3 1 ?_
 refine .KA [oL 3 1 none ([] : List Int) 0, Box pt (tF t at_ ct at_2 ct2 at_3 ct3)] ?_
 refine .sel0 [0] (by decide) rfl ?_
 obtain ⟨I1, μ1, q189, q190⟩ := hF
 refine .loop' (σ := Int × List Int × Option Addr × Nat) (fun z => I1 z.1 z.2.1) (fun z => μ1 z.1 z.2.1) (fun z => [(3, vSl z.2.2.1 z.2.1 z.2.2.2), (7, vSl at_3 t.ops ct3), (8, iV ((t.ops.length : Nat) : Int)), (9, iV z.1)]) (fun z => [oL 3 1 z.2.2.1 z.2.1 z.2.2.2]) (fun _ => h) (0, ([] : List Int), none, 0) q189 sb rfl (FH.le_refl _) ?_
 rintro ⟨t9, out, aout, cout⟩ q189
 have hF := q190 t9 out q189
 show J _ _ _ _ _ [(3, vSl aout out cout), (7, vSl at_3 t.ops ct3), (8, iV ((t.ops.length : Nat) : Int)), (9, iV t9)] [oL 3 1 aout out cout] h
 refine .seq (.region (.V bi0 ?_))
 refine .nil (.seqN (.seq ?_))
 refine .cond rfl (fun q193 => ?_) (fun q193 => ?_)
 ·replace hF := hF.1 q193
  refine .skip (.seqN (.seq (.block (.seq (.region ?_)))))
  obtain ⟨q216, hF⟩ := hF
  refine .V (ix rfl rfl tS23 (_q5.ne (by decide) (inb_pos q216)) q216) ?_
  obtain ⟨_, ⟨a, c, a2, c2, a3, c3, rfl, ⟨q217, q218⟩, ⟨q219, q220⟩, q221, q222⟩, q223⟩ := _q5.elem q216
  refine .V (ldA (cs := [.slice a ((gt t.ops t9).pre.length) c, .slice a2 ((gt t.ops t9).add.length) c2, .slice a3 ((gt t.ops t9).del.length) c3, iV ((gt t.ops t9).cost)]) rfl tA52 rfl (cellsH (q223 (by decide)))) ?_
  refine al tZ52 rfl (fun po => ?_)
  refine st (p := po) (off := 0) (k := 0) (vs := [.slice a ((gt t.ops t9).pre.length) c, .slice a2 ((gt t.ops t9).add.length) c2, .slice a3 ((gt t.ops t9).del.length) c3, iV ((gt t.ops t9).cost)]) rfl rfl rfl (fun w => (tA52 w).2) rfl rfl rfl rfl ?_
  refine .KA [Box po [.slice a ((gt t.ops t9).pre.length) c, .slice a2 ((gt t.ops t9).add.length) c2, .slice a3 ((gt t.ops t9).del.length) c3, iV ((gt t.ops t9).cost)], oL 3 1 aout out cout] ?_
  refine .nil (.seqN (.region (.V mv0 ?_)))
  refine .V (fa rfl tF52_3) ?_
  refine .V (ld1 rfl tO3 (cellB (off := 3) (k := 0) rfl rfl)) ?_
  refine bs2 (cs := #[iV ((gt t.ops t9).cost)]) (pv := [(0, iV ((gt t.ops t9).cost))]) tS22 rfl rfl (by decide) (by decide) rfl rfl rfl (fun a4 _ => ?_)
  refine .KA [oL 3 1 a4 ([(gt t.ops t9).cost] : List Int) 1, Box po [.slice a ((gt t.ops t9).pre.length) c, .slice a2 ((gt t.ops t9).add.length) c2, .slice a3 ((gt t.ops t9).del.length) c3, iV ((gt t.ops t9).cost)], oL 3 1 aout out cout] ?_
  obtain ⟨q225, hF⟩ := hF
  have q226 : out.length + ([(gt t.ops t9).cost] : List Int).length = ((out ++ ([(gt t.ops t9).cost] : List Int))).length := len_app rfl rfl
  refine app (k := 2) (news := flL ([(gt t.ops t9).cost] : List Int)) (cs' := flL (out ++ ([(gt t.ops t9).cost] : List Int))) (nm := ((out ++ ([(gt t.ops t9).cost] : List Int))).length) tS22 rfl (by decide) rfl rfl rfl ((flL_len _).trans rfl) (srcS (k := 0) rfl) (flL_one _) (room_of q226 q225).1 (room_of q226 q225).2 q226 (flL_append _ _).symm rfl (fun a5 c4 => ?_)
  refine .KA [oL 3 1 a4 ([(gt t.ops t9).cost] : List Int) 1, Box po [.slice a ((gt t.ops t9).pre.length) c, .slice a2 ((gt t.ops t9).add.length) c2, .slice a3 ((gt t.ops t9).del.length) c3, iV ((gt t.ops t9).cost)], oL 3 1 a5 (out ++ ([(gt t.ops t9).cost] : List Int)) c4] ?_
  refine .V ag0 ?_
  refine .nil (.blkN (.seqN (.region (.V bi0 ?_))))
  refine .V mv0 ?_
  refine .nil ?_
  refine .sel0 [2] (by decide) rfl ?_
  exact .RO (wr (t9 + 1), (out ++ ([(gt t.ops t9).cost] : List Int)), a5, c4) hF.1 hF.2
 replace hF := hF.2 q193
 refine .exit (.seqX (.seqX (.blkX (.seqN (.seq (.region (.V mv0 ?_)))))))
 refine .V ag0 ?_
 refine .nil (.seqN (.ret ?_))
 refine .res1 rfl (rvT rfl) (fun w' S => ⟨out, (aout, cout), h, hF, rfl, (FH.le_refl _), trivial, S.pick (k := 0) rfl⟩)
theorem c_costsR {h : FH} {w : World} (hs : Sub h w) (t : Task) (at_ : Option Addr) (ct : Nat) (_q1 : RSl h at_ t.init) (_q2 : t.init.length ≤ ct) (at_2 : Option Addr) (ct2 : Nat) (_q3 : RSl h at_2 t.goal) (_q4 : t.goal.length ≤ ct2) (at_3 : Option Addr) (ct3 : Nat) (_q5 : RSl h at_3 t.ops) (_q6 : t.ops.length ≤ ct3) (hp : pre_costsR t) : Calls Tryz.prog 65 #[.agg #[iV t.facts, .slice at_ t.init.length ct, .slice at_2 t.goal.length ct2, .slice at_3 t.ops.length ct3]] w fun e w' => ∃ (z : Option Addr × Nat) (h0 h1 : FH), e = .returned (.slice z.1 (sp_costsR t).length z.2) ∧ (True) ∧ FH.le h h1 ∧ SH (Kp.all w h0) h1 w' [OwnSl 3 1 z.1 (sp_costsR t).length z.2 (flL (sp_costsR t))] :=
 (w_costsR hs t at_ ct _q1 _q2 at_2 ct2 _q3 _q4 at_3 ct3 _q5 _q6 (fun r => r = sp_costsR t) (ok_costsR t hp)).mono fun _ _ ⟨r, z, h1, hk, he, hl, hψ, hS⟩ => by subst hk; exact ⟨z, h, h1, he, hψ, hl, hS⟩
set_option maxHeartbeats 8000000 in
theorem w_valuesG {h : FH} {w : World} (hs : Sub h w) (t : Task) (at_ : Option Addr) (ct : Nat) (_q1 : RSl h at_ t.init) (_q2 : t.init.length ≤ ct) (at_2 : Option Addr) (ct2 : Nat) (_q3 : RSl h at_2 t.goal) (_q4 : t.goal.length ≤ ct2) (at_3 : Option Addr) (ct3 : Nat) (_q5 : RSl h at_3 t.ops) (_q6 : t.ops.length ≤ ct3) (s_ : List Int) (as_ : Option Addr) (cs_ : Nat) (_q7 : RSl h as_ s_) (_q8 : s_.length ≤ cs_) (costs : List Int) (acosts : Option Addr) (ccosts : Nat) (_q9 : RSl h acosts costs) (_q10 : costs.length ≤ ccosts) (K : (List Int) → Prop) (hF : F_valuesG t s_ costs K) : Calls Tryz.prog 64 #[.agg #[iV t.facts, .slice at_ t.init.length ct, .slice at_2 t.goal.length ct2, .slice at_3 t.ops.length ct3], .slice as_ s_.length cs_, .slice acosts costs.length ccosts, .func (.func 31) #[] #[]] w fun e w' => ∃ (r : List Int) (z : Option Addr × Nat) (h1 : FH), K r ∧ e = .returned (.slice z.1 r.length z.2) ∧ FH.le h h1 ∧ True ∧ SH (Kp.all w h) h1 w' [OwnSl 3 1 z.1 r.length z.2 (flL r)] := by
 refine enter (args := [.agg (tF t at_ ct at_2 ct2 at_3 ct3).toArray, vSl as_ s_ cs_, vSl acosts costs ccosts, .func (.func 31) #[] #[]]) Tryz.func64 rfl Tryz.ntmps64 rfl hs ?_
 refine .seq (.region ?_)
 refine bx (vs := (tF t at_ ct at_2 ct2 at_3 ct3)) rfl rfl rfl (fun pt => ?_)
 refine .V ag0 ?_
 refine .nil (.seqN (.seq (.region (.V (fa rfl tF25_0) ?_))))
 refine .V (ld1 rfl tO3 (cellB (off := 0) (k := 0) rfl rfl)) ?_
 obtain ⟨q11, hF⟩ := hF
 refine mk (m := (t.facts).toNat) (cs' := flL (List.replicate (t.facts).toNat (0 : Int))) tS22 rfl rfl (Int.toNat_of_nonneg q11.1).symm q11.2.1 q11.2.2 (flL_rep1 rfl _) rfl (fun a c => ?_)
 have q12 : (List.replicate (t.facts).toNat (0 : Int)).length = (t.facts).toNat := List.length_replicate
 refine .KA [OwnSl 3 1 a ((t.facts).toNat) c (flL (List.replicate (t.facts).toNat (0 : Int))), Box pt (tF t at_ ct at_2 ct2 at_3 ct3)] ?_
 refine .V ag0 ?_
 refine .nil (.seqN (.seq (.seq (.region (.V mv0 ?_)))))
 refine .V (ln rfl tS22.is) ?_
 refine .V mv0 ?_
 refine .nil (.seqN (.block ?_))
 refine .sel0 [1, 0] (by decide) rfl ?_
 obtain ⟨I1, μ1, q83, q84⟩ := hF
 refine .loop' (σ := Int × List Int) (fun z => I1 z.1 z.2 ∧ z.2.length = (t.facts).toNat) (fun z => μ1 z.1 z.2) (fun z => [(1, vSl as_ s_ cs_), (2, vSl acosts costs ccosts), (3, .func (.func 31) #[] #[]), (4, .pointer (some pt)), (9, .slice a ((t.facts).toNat) c), (23, iV (((t.facts).toNat : Nat) : Int)), (24, iV z.1)]) (fun z => [Box pt (tF t at_ ct at_2 ct2 at_3 ct3), OwnSl 3 1 a ((t.facts).toNat) c (flL z.2)]) (fun _ => h) (0, (List.replicate (t.facts).toNat (0 : Int))) ⟨q83, q12⟩ sb rfl (FH.le_refl _) ?_
 rintro ⟨t24, values⟩ ⟨q83, q69⟩
 have hF := q84 t24 values q83
 show J _ _ _ _ _ [(1, vSl as_ s_ cs_), (2, vSl acosts costs ccosts), (3, .func (.func 31) #[] #[]), (4, .pointer (some pt)), (9, .slice a ((t.facts).toNat) c), (23, iV (((t.facts).toNat : Nat) : Int)), (24, iV t24)] [Box pt (tF t at_ ct at_2 ct2 at_3 ct3), OwnSl 3 1 a ((t.facts).toNat) c (flL values)] h
 refine .seq (.region (.V bi0 ?_))
 refine .nil (.seqN (.seq ?_))
 refine .cond rfl (fun q87 => ?_) (fun q87 => ?_)
 ·replace hF := hF.1 q87
  refine .skip (.seqN (.seq (.block (.seq (.region (.V mv0 ?_))))))
  refine .V ag0 ?_
  refine .nil (.seqN (.region (.V mv0 ?_)))
  refine .V mv0 ?_
  obtain ⟨q94, hF⟩ := hF
  refine .V (ixS rfl rfl tS22 (k := 1) rfl (inb_n q94 q69)) ?_
  obtain ⟨d, q95⟩ : ∃ y_ : List Int, y_ = (values.set (t24).toNat 1000000000) := ⟨_, rfl⟩
  replace hF := hF d q95
  refine stS (k := 1) (cs' := flL d) rfl (fun _ => rfl) rfl rfl (fun w => (tO3 w).2) rfl rfl rfl (by rw [← q69]; exact inb_pos q94) (fl_room q94) (by rw [q95]; exact flL_set q94 1000000000) ?_
  have q96 : d.length = (t.facts).toNat := by rw [q95]; exact List.length_set.trans q69
  refine .KA [Box pt (tF t at_ ct at_2 ct2 at_3 ct3), OwnSl 3 1 a ((t.facts).toNat) c (flL d)] ?_
  refine .nil (.blkN (.seqN (.region (.V bi0 ?_))))
  refine .V mv0 ?_
  refine .nil ?_
  exact .RO (wr (t24 + 1), d) ⟨hF.1, q96⟩ hF.2
 replace hF := hF.2 q87
 refine .exit (.seqX (.seqX (.blkX (.seqN (.seq (.seq (.region (.V mv0 ?_))))))))
 refine .V (ln rfl tS22.is) ?_
 refine .V mv0 ?_
 refine .nil (.seqN (.block ?_))
 obtain ⟨I2, μ2, q182, q183⟩ := hF
 refine .loop' (σ := Int × List Int) (fun z => I2 z.1 z.2 ∧ z.2.length = (t.facts).toNat) (fun z => μ2 z.1 z.2) (fun z => [(2, vSl acosts costs ccosts), (3, .func (.func 31) #[] #[]), (4, .pointer (some pt)), (9, .slice a ((t.facts).toNat) c), (31, vSl as_ s_ cs_), (32, iV ((s_.length : Nat) : Int)), (33, iV z.1)]) (fun z => [Box pt (tF t at_ ct at_2 ct2 at_3 ct3), OwnSl 3 1 a ((t.facts).toNat) c (flL z.2)]) (fun _ => h) (0, values) ⟨q182, q69⟩ sb rfl (FH.le_refl _) ?_
 rintro ⟨t33, values3⟩ ⟨q182, q165⟩
 have hF := q183 t33 values3 q182
 show J _ _ _ _ _ [(2, vSl acosts costs ccosts), (3, .func (.func 31) #[] #[]), (4, .pointer (some pt)), (9, .slice a ((t.facts).toNat) c), (31, vSl as_ s_ cs_), (32, iV ((s_.length : Nat) : Int)), (33, iV t33)] [Box pt (tF t at_ ct at_2 ct2 at_3 ct3), OwnSl 3 1 a ((t.facts).toNat) c (flL values3)] h
 refine .seq (.region (.V bi0 ?_))
 refine .nil (.seqN (.seq ?_))
 refine .cond rfl (fun q186 => ?_) (fun q186 => ?_)
 ·replace hF := hF.1 q186
  refine .skip (.seqN (.seq (.block (.seq (.region ?_)))))
  obtain ⟨q195, hF⟩ := hF
  refine .V (ix rfl rfl tS22 (_q7.ne (by decide) (inb_pos q195)) q195) ?_
  refine .V (ld1 (v := iV (gt s_ t33)) rfl tO3 (cellH (_q7.elemF q195 (by decide) 0 _ rfl))) ?_
  refine .V ag0 ?_
  refine .nil (.seqN (.region (.V mv0 ?_)))
  refine .V mv0 ?_
  obtain ⟨q196, hF⟩ := hF
  refine .V (ixS rfl rfl tS22 (k := 1) rfl (inb_n q196 q165)) ?_
  obtain ⟨d2, q197⟩ : ∃ y_ : List Int, y_ = (values3.set ((gt s_ t33)).toNat 0) := ⟨_, rfl⟩
  replace hF := hF d2 q197
  refine stS (k := 1) (cs' := flL d2) rfl (fun _ => rfl) rfl rfl (fun w => (tO3 w).2) rfl rfl rfl (by rw [← q165]; exact inb_pos q196) (fl_room q196) (by rw [q197]; exact flL_set q196 0) ?_
  have q198 : d2.length = (t.facts).toNat := by rw [q197]; exact List.length_set.trans q165
  refine .KA [Box pt (tF t at_ ct at_2 ct2 at_3 ct3), OwnSl 3 1 a ((t.facts).toNat) c (flL d2)] ?_
  refine .nil (.blkN (.seqN (.region (.V bi0 ?_))))
  refine .V mv0 ?_
  refine .nil ?_
  exact .RO (wr (t33 + 1), d2) ⟨hF.1, q198⟩ hF.2
 replace hF := hF.2 q186
 refine .exit (.seqX (.seqX (.blkX (.seqN (.seq (.seq (.region (.V ag0 ?_))))))))
 refine .nil (.seqN (.block ?_))
 obtain ⟨I3, μ3, q3200, q3201⟩ := hF
 refine .loop' (σ := Bool × List Int) (fun z => I3 z.1 z.2 ∧ z.2.length = (t.facts).toNat) (fun z => μ3 z.1 z.2) (fun z => [(2, vSl acosts costs ccosts), (3, .func (.func 31) #[] #[]), (4, .pointer (some pt)), (9, .slice a ((t.facts).toNat) c), (13, .bool z.1)]) (fun z => [Box pt (tF t at_ ct at_2 ct2 at_3 ct3), OwnSl 3 1 a ((t.facts).toNat) c (flL z.2)]) (fun _ => h) (true, values3) ⟨q3200, q165⟩ sb rfl (FH.le_refl _) ?_
 rintro ⟨changed, values5⟩ ⟨q3200, q2599⟩
 have hF := q3201 changed values5 q3200
 show J _ _ _ _ _ [(2, vSl acosts costs ccosts), (3, .func (.func 31) #[] #[]), (4, .pointer (some pt)), (9, .slice a ((t.facts).toNat) c), (13, .bool changed)] [Box pt (tF t at_ ct at_2 ct2 at_3 ct3), OwnSl 3 1 a ((t.facts).toNat) c (flL values5)] h
 refine .seq (.seq (.region (.V mv0 ?_)))
 refine .nil (.seqN ?_)
 refine .cond rfl (fun q3203 => ?_) (fun q3203 => ?_)
 ·replace hF := hF.1 q3203
  refine .skip (.seqN (.block (.seq (.region (.V ag0 ?_)))))
  refine .nil (.seqN (.seq (.region (.V (fa rfl tF25_3) ?_))))
  refine .V (ld1 rfl tO23 (cellB (off := 3) (k := 0) rfl rfl)) ?_
  refine .V (ln rfl tS23.is) ?_
  refine .V mv0 ?_
  refine .nil (.seqN (.block ?_))
  obtain ⟨I4, μ4, q3604, q3605⟩ := hF
  refine .loop' (σ := Bool × Int × List Int) (fun z => I4 z.1 z.2.1 z.2.2 ∧ z.2.2.length = (t.facts).toNat) (fun z => μ4 z.1 z.2.1 z.2.2) (fun z => [(2, vSl acosts costs ccosts), (3, .func (.func 31) #[] #[]), (4, .pointer (some pt)), (9, .slice a ((t.facts).toNat) c), (13, .bool z.1), (43, vSl at_3 t.ops ct3), (44, iV ((t.ops.length : Nat) : Int)), (45, iV z.2.1)]) (fun z => [Box pt (tF t at_ ct at_2 ct2 at_3 ct3), OwnSl 3 1 a ((t.facts).toNat) c (flL z.2.2)]) (fun _ => h) (false, 0, values5) ⟨q3604, q2599⟩ sb rfl (FH.le_refl _) ?_
  rintro ⟨changed3, t45, values7⟩ ⟨q3604, q3407⟩
  have hF := q3605 changed3 t45 values7 q3604
  show J _ _ _ _ _ [(2, vSl acosts costs ccosts), (3, .func (.func 31) #[] #[]), (4, .pointer (some pt)), (9, .slice a ((t.facts).toNat) c), (13, .bool changed3), (43, vSl at_3 t.ops ct3), (44, iV ((t.ops.length : Nat) : Int)), (45, iV t45)] [Box pt (tF t at_ ct at_2 ct2 at_3 ct3), OwnSl 3 1 a ((t.facts).toNat) c (flL values7)] h
  refine .seq (.region (.V bi0 ?_))
  refine .nil (.seqN (.seq ?_))
  refine .cond rfl (fun q3608 => ?_) (fun q3608 => ?_)
  ·replace hF := hF.1 q3608
   refine .skip (.seqN (.seq (.block (.seq (.region (.V mv0 ?_))))))
   obtain ⟨q3737, hF⟩ := hF
   refine .V (ix rfl rfl tS23 (_q5.ne (by decide) (inb_pos q3737)) q3737) ?_
   obtain ⟨_, ⟨a2, c2, a3, c3, a4, c4, rfl, ⟨q3738, q3739⟩, ⟨q3740, q3741⟩, q3742, q3743⟩, q3744⟩ := _q5.elem q3737
   refine .V (ldA (cs := [.slice a2 ((gt t.ops t45).pre.length) c2, .slice a3 ((gt t.ops t45).add.length) c3, .slice a4 ((gt t.ops t45).del.length) c4, iV ((gt t.ops t45).cost)]) rfl tA52 rfl (cellsH (q3744 (by decide)))) ?_
   refine al tZ52 rfl (fun po => ?_)
   refine .V ag0 ?_
   refine st (p := po) (off := 0) (k := 0) (vs := [.slice a2 ((gt t.ops t45).pre.length) c2, .slice a3 ((gt t.ops t45).add.length) c3, .slice a4 ((gt t.ops t45).del.length) c4, iV ((gt t.ops t45).cost)]) rfl rfl rfl (fun w => (tA52 w).2) rfl rfl rfl rfl ?_
   refine .KA [Box po [.slice a2 ((gt t.ops t45).pre.length) c2, .slice a3 ((gt t.ops t45).add.length) c3, .slice a4 ((gt t.ops t45).del.length) c4, iV ((gt t.ops t45).cost)], Box pt (tF t at_ ct at_2 ct2 at_3 ct3), OwnSl 3 1 a ((t.facts).toNat) c (flL values7)] ?_
   refine .nil (.seqN (.seq ?_))
   refine .open_ (by kernel_rfl) (by kernel_rfl) ?_
   refine .V mv0 ?_
   refine .V mv0 ?_
   refine .V (fa rfl tF52_0) ?_
   refine .V (ld1 rfl tO22 (cellB (off := 0) (k := 0) rfl rfl)) ?_
   obtain ⟨q3745, hF⟩ := hF
   obtain ⟨r2, q3746⟩ : ∃ y_ : Int, y_ = sp_greatest values7 ((gt t.ops t45).pre) := ⟨_, rfl⟩
   replace hF := hF r2 q3746
   refine .C (cl (v := iV r2) Tryz.call31 rfl rfl (fun w S => (by rw [q3746]; obtain ⟨h_, hl_, hs_, hne_, hr_⟩ := look S (k := 2) rfl; rw [← q3407]; exact c_greatest hs_ values7 a c (RSl.of hr_) (by rw [q3407]; exact look_len S (k := 2) rfl) ((gt t.ops t45).pre) a2 c2 (RSl.mono hl_ q3739) q3738 q3745))) ?_
   refine .V mv0 ?_
   refine .V mv0 ?_
   obtain ⟨q3747, hF⟩ := hF
   refine .V (ix rfl rfl tS22 (_q9.ne (by decide) (inb_pos q3747)) q3747) ?_
   refine .V (ld1 (v := iV (gt costs t45)) rfl tO3 (cellH (_q9.elemF q3747 (by decide) 0 _ rfl))) ?_
   obtain ⟨q3748, hF⟩ := hF
   obtain ⟨r3, q3749⟩ : ∃ y_ : Int, y_ = sp_plus r2 (gt costs t45) := ⟨_, rfl⟩
   replace hF := hF r3 q3749
   refine .C (cl (v := iV r3) Tryz.call66 rfl rfl (fun w S => (by rw [q3749]; exact c_plus S.sub r2 (gt costs t45) q3748))) ?_
   refine .V ag0 ?_
   refine .fin ?_
   refine .seqN (.seq (.region (.V (fa rfl tF52_1) ?_)))
   refine .V (ld1 rfl tO22 (cellB (off := 1) (k := 0) rfl rfl)) ?_
   refine .V (ln rfl tS22.is) ?_
   refine .V mv0 ?_
   refine .nil (.seqN (.block ?_))
   refine .sel0 [1, 2] (by decide) rfl ?_
   obtain ⟨I5, μ5, q3784, q3785⟩ := hF
   refine .loop' (σ := Bool × Int × List Int) (fun z => I5 z.1 z.2.1 z.2.2 ∧ z.2.2.length = (t.facts).toNat) (fun z => μ5 z.1 z.2.1 z.2.2) (fun z => [(2, vSl acosts costs ccosts), (3, .func (.func 31) #[] #[]), (4, .pointer (some pt)), (9, .slice a ((t.facts).toNat) c), (13, .bool z.1), (16, iV r3), (43, vSl at_3 t.ops ct3), (44, iV ((t.ops.length : Nat) : Int)), (45, iV t45), (61, .slice a3 ((gt t.ops t45).add.length) c3), (62, iV (((gt t.ops t45).add.length : Nat) : Int)), (63, iV z.2.1)]) (fun z => [Box pt (tF t at_ ct at_2 ct2 at_3 ct3), OwnSl 3 1 a ((t.facts).toNat) c (flL z.2.2)]) (fun _ => h) (changed3, 0, values7) ⟨q3784, q3407⟩ sb rfl (FH.le_refl _) ?_
   rintro ⟨changed5, t63, values9⟩ ⟨q3784, q3767⟩
   have hF := q3785 changed5 t63 values9 q3784
   show J _ _ _ _ _ [(2, vSl acosts costs ccosts), (3, .func (.func 31) #[] #[]), (4, .pointer (some pt)), (9, .slice a ((t.facts).toNat) c), (13, .bool changed5), (16, iV r3), (43, vSl at_3 t.ops ct3), (44, iV ((t.ops.length : Nat) : Int)), (45, iV t45), (61, .slice a3 ((gt t.ops t45).add.length) c3), (62, iV (((gt t.ops t45).add.length : Nat) : Int)), (63, iV t63)] [Box pt (tF t at_ ct at_2 ct2 at_3 ct3), OwnSl 3 1 a ((t.facts).toNat) c (flL values9)] h
   refine .seq (.region (.V bi0 ?_))
   refine .nil (.seqN (.seq ?_))
   refine .cond rfl (fun q3788 => ?_) (fun q3788 => ?_)
   ·replace hF := hF.1 q3788
    refine .skip (.seqN ?_)
    refine .share (σ := Bool × List Int) (fun z => F_valuesG_J1 t63 I5 μ5 changed5 values9 z.1 z.2 ∧ z.2.length = (t.facts).toNat) (fun z => [(2, vSl acosts costs ccosts), (3, .func (.func 31) #[] #[]), (4, .pointer (some pt)), (9, .slice a ((t.facts).toNat) c), (13, .bool z.1), (16, iV r3), (43, vSl at_3 t.ops ct3), (44, iV ((t.ops.length : Nat) : Int)), (45, iV t45), (61, .slice a3 ((gt t.ops t45).add.length) c3), (62, iV (((gt t.ops t45).add.length : Nat) : Int)), (63, iV t63)]) (fun z => [Box pt (tF t at_ ct at_2 ct2 at_3 ct3), OwnSl 3 1 a ((t.facts).toNat) c (flL z.2)]) (fun _ => h) ?_ (fun q3795 => ?_)
    ·rintro ⟨changed7, values11⟩ ⟨hF, q3794⟩
     show J _ _ _ _ _ [(2, vSl acosts costs ccosts), (3, .func (.func 31) #[] #[]), (4, .pointer (some pt)), (9, .slice a ((t.facts).toNat) c), (13, .bool changed7), (16, iV r3), (43, vSl at_3 t.ops ct3), (44, iV ((t.ops.length : Nat) : Int)), (45, iV t45), (61, .slice a3 ((gt t.ops t45).add.length) c3), (62, iV (((gt t.ops t45).add.length : Nat) : Int)), (63, iV t63)] [Box pt (tF t at_ ct at_2 ct2 at_3 ct3), OwnSl 3 1 a ((t.facts).toNat) c (flL values11)] h
     refine .region (.V bi0 ?_)
     refine .V mv0 ?_
     refine .nil ?_
     exact .RO (changed7, wr (t63 + 1), values11) ⟨hF.1, q3794⟩ hF.2
    refine .block (.seq (.region ?_))
    obtain ⟨q3796, hF⟩ := hF
    refine .V (ix rfl rfl tS22 (q3741.ne (by decide) (inb_pos q3796)) q3796) ?_
    refine .V (ld1 (v := iV (gt ((gt t.ops t45).add) t63)) rfl tO3 (cellH (q3741.elemF q3796 (by decide) 0 _ rfl))) ?_
    refine .V ag0 ?_
    refine .nil (.seqN (.seq (.region (.V mv0 ?_))))
    refine .V mv0 ?_
    refine .V mv0 ?_
    obtain ⟨q3797, hF⟩ := hF
    refine .V (ixS rfl rfl tS22 (k := 1) rfl (inb_n q3797 q3767)) ?_
    refine .V (ld1 (v := iV (gt values9 (gt ((gt t.ops t45).add) t63))) rfl tO3 (cellS (k := 1) rfl (flL_get q3797 (j := 0) rfl))) ?_
    refine .V bi0 ?_
    refine .nil (.seqN ?_)
    refine .cond rfl (fun q3798 => ?_) (fun q3798 => ?_)
    ·replace hF := hF.1 q3798
     refine .region (.V mv0 ?_)
     refine .V mv0 ?_
     refine .V mv0 ?_
     refine .V (ixS rfl rfl tS22 (k := 1) rfl (inb_n q3797 q3767)) ?_
     obtain ⟨d3, q3799⟩ : ∃ y_ : List Int, y_ = (values9.set ((gt ((gt t.ops t45).add) t63)).toNat r3) := ⟨_, rfl⟩
     replace hF := hF d3 q3799
     refine stS (k := 1) (cs' := flL d3) rfl (fun _ => rfl) rfl rfl (fun w => (tO3 w).2) rfl rfl rfl (by rw [← q3767]; exact inb_pos q3797) (fl_room q3797) (by rw [q3799]; exact flL_set q3797 r3) ?_
     have q3800 : d3.length = (t.facts).toNat := by rw [q3799]; exact List.length_set.trans q3767
     refine .KA [Box pt (tF t at_ ct at_2 ct2 at_3 ct3), OwnSl 3 1 a ((t.facts).toNat) c (flL d3)] ?_
     refine .V ag0 ?_
     refine .nil (.blkN ?_)
     exact .US q3795 (true, d3) ⟨hF, q3800⟩
    replace hF := hF.2 q3798
    refine .skip (.blkN ?_)
    exact .US q3795 (changed5, values9) ⟨hF, q3767⟩
   replace hF := hF.2 q3788
   refine .exit (.seqX (.seqX (.blkX (.blkN (.seqN (.region (.V bi0 ?_)))))))
   refine .V mv0 ?_
   refine .nil ?_
   exact .RO (changed5, wr (t45 + 1), values9) ⟨hF.1, q3767⟩ hF.2
  replace hF := hF.2 q3608
  refine .exit (.seqX (.seqX (.blkX (.blkN ?_))))
  exact .RO (changed3, values7) ⟨hF.1, q3407⟩ hF.2
 replace hF := hF.2 q3203
 refine .exit (.seqX (.seqX (.blkX (.seqN (.seq (.region (.V mv0 ?_)))))))
 refine .V ag0 ?_
 refine .nil (.seqN (.ret ?_))
 refine .res1 rfl (rvT rfl) (fun w' S => ⟨values5, (a, c), h, hF, (by rw [q2599]), (FH.le_refl _), trivial, (by rw [q2599]; exact S.pick (k := 1) rfl)⟩)
theorem c_valuesG {h : FH} {w : World} (hs : Sub h w) (t : Task) (at_ : Option Addr) (ct : Nat) (_q1 : RSl h at_ t.init) (_q2 : t.init.length ≤ ct) (at_2 : Option Addr) (ct2 : Nat) (_q3 : RSl h at_2 t.goal) (_q4 : t.goal.length ≤ ct2) (at_3 : Option Addr) (ct3 : Nat) (_q5 : RSl h at_3 t.ops) (_q6 : t.ops.length ≤ ct3) (s_ : List Int) (as_ : Option Addr) (cs_ : Nat) (_q7 : RSl h as_ s_) (_q8 : s_.length ≤ cs_) (costs : List Int) (acosts : Option Addr) (ccosts : Nat) (_q9 : RSl h acosts costs) (_q10 : costs.length ≤ ccosts) (hp : pre_valuesG t s_ costs) : Calls Tryz.prog 64 #[.agg #[iV t.facts, .slice at_ t.init.length ct, .slice at_2 t.goal.length ct2, .slice at_3 t.ops.length ct3], .slice as_ s_.length cs_, .slice acosts costs.length ccosts, .func (.func 31) #[] #[]] w fun e w' => ∃ (z : Option Addr × Nat) (h0 h1 : FH), e = .returned (.slice z.1 (sp_valuesG t s_ costs).length z.2) ∧ (True) ∧ FH.le h h1 ∧ SH (Kp.all w h0) h1 w' [OwnSl 3 1 z.1 (sp_valuesG t s_ costs).length z.2 (flL (sp_valuesG t s_ costs))] :=
 (w_valuesG hs t at_ ct _q1 _q2 at_2 ct2 _q3 _q4 at_3 ct3 _q5 _q6 s_ as_ cs_ _q7 _q8 costs acosts ccosts _q9 _q10  (fun r => r = sp_valuesG t s_ costs) (ok_valuesG t s_ costs hp)).mono fun _ _ ⟨r, z, h1, hk, he, hl, hψ, hS⟩ => by subst hk; exact ⟨z, h, h1, he, hψ, hl, hS⟩
set_option maxHeartbeats 8000000 in
theorem w_valuesS {h : FH} {w : World} (hs : Sub h w) (t : Task) (at_ : Option Addr) (ct : Nat) (_q1 : RSl h at_ t.init) (_q2 : t.init.length ≤ ct) (at_2 : Option Addr) (ct2 : Nat) (_q3 : RSl h at_2 t.goal) (_q4 : t.goal.length ≤ ct2) (at_3 : Option Addr) (ct3 : Nat) (_q5 : RSl h at_3 t.ops) (_q6 : t.ops.length ≤ ct3) (s_ : List Int) (as_ : Option Addr) (cs_ : Nat) (_q7 : RSl h as_ s_) (_q8 : s_.length ≤ cs_) (costs : List Int) (acosts : Option Addr) (ccosts : Nat) (_q9 : RSl h acosts costs) (_q10 : costs.length ≤ ccosts) (K : (List Int) → Prop) (hF : F_valuesS t s_ costs K) : Calls Tryz.prog 64 #[.agg #[iV t.facts, .slice at_ t.init.length ct, .slice at_2 t.goal.length ct2, .slice at_3 t.ops.length ct3], .slice as_ s_.length cs_, .slice acosts costs.length ccosts, .func (.func 32) #[] #[]] w fun e w' => ∃ (r : List Int) (z : Option Addr × Nat) (h1 : FH), K r ∧ e = .returned (.slice z.1 r.length z.2) ∧ FH.le h h1 ∧ True ∧ SH (Kp.all w h) h1 w' [OwnSl 3 1 z.1 r.length z.2 (flL r)] := by
 refine enter (args := [.agg (tF t at_ ct at_2 ct2 at_3 ct3).toArray, vSl as_ s_ cs_, vSl acosts costs ccosts, .func (.func 32) #[] #[]]) Tryz.func64 rfl Tryz.ntmps64 rfl hs ?_
 refine .seq (.region ?_)
 refine bx (vs := (tF t at_ ct at_2 ct2 at_3 ct3)) rfl rfl rfl (fun pt => ?_)
 refine .V ag0 ?_
 refine .nil (.seqN (.seq (.region (.V (fa rfl tF25_0) ?_))))
 refine .V (ld1 rfl tO3 (cellB (off := 0) (k := 0) rfl rfl)) ?_
 obtain ⟨q11, hF⟩ := hF
 refine mk (m := (t.facts).toNat) (cs' := flL (List.replicate (t.facts).toNat (0 : Int))) tS22 rfl rfl (Int.toNat_of_nonneg q11.1).symm q11.2.1 q11.2.2 (flL_rep1 rfl _) rfl (fun a c => ?_)
 have q12 : (List.replicate (t.facts).toNat (0 : Int)).length = (t.facts).toNat := List.length_replicate
 refine .KA [OwnSl 3 1 a ((t.facts).toNat) c (flL (List.replicate (t.facts).toNat (0 : Int))), Box pt (tF t at_ ct at_2 ct2 at_3 ct3)] ?_
 refine .V ag0 ?_
 refine .nil (.seqN (.seq (.seq (.region (.V mv0 ?_)))))
 refine .V (ln rfl tS22.is) ?_
 refine .V mv0 ?_
 refine .nil (.seqN (.block ?_))
 refine .sel0 [1, 0] (by decide) rfl ?_
 obtain ⟨I1, μ1, q83, q84⟩ := hF
 refine .loop' (σ := Int × List Int) (fun z => I1 z.1 z.2 ∧ z.2.length = (t.facts).toNat) (fun z => μ1 z.1 z.2) (fun z => [(1, vSl as_ s_ cs_), (2, vSl acosts costs ccosts), (3, .func (.func 32) #[] #[]), (4, .pointer (some pt)), (9, .slice a ((t.facts).toNat) c), (23, iV (((t.facts).toNat : Nat) : Int)), (24, iV z.1)]) (fun z => [Box pt (tF t at_ ct at_2 ct2 at_3 ct3), OwnSl 3 1 a ((t.facts).toNat) c (flL z.2)]) (fun _ => h) (0, (List.replicate (t.facts).toNat (0 : Int))) ⟨q83, q12⟩ sb rfl (FH.le_refl _) ?_
 rintro ⟨t24, values⟩ ⟨q83, q69⟩
 have hF := q84 t24 values q83
 show J _ _ _ _ _ [(1, vSl as_ s_ cs_), (2, vSl acosts costs ccosts), (3, .func (.func 32) #[] #[]), (4, .pointer (some pt)), (9, .slice a ((t.facts).toNat) c), (23, iV (((t.facts).toNat : Nat) : Int)), (24, iV t24)] [Box pt (tF t at_ ct at_2 ct2 at_3 ct3), OwnSl 3 1 a ((t.facts).toNat) c (flL values)] h
 refine .seq (.region (.V bi0 ?_))
 refine .nil (.seqN (.seq ?_))
 refine .cond rfl (fun q87 => ?_) (fun q87 => ?_)
 ·replace hF := hF.1 q87
  refine .skip (.seqN (.seq (.block (.seq (.region (.V mv0 ?_))))))
  refine .V ag0 ?_
  refine .nil (.seqN (.region (.V mv0 ?_)))
  refine .V mv0 ?_
  obtain ⟨q94, hF⟩ := hF
  refine .V (ixS rfl rfl tS22 (k := 1) rfl (inb_n q94 q69)) ?_
  obtain ⟨d, q95⟩ : ∃ y_ : List Int, y_ = (values.set (t24).toNat 1000000000) := ⟨_, rfl⟩
  replace hF := hF d q95
  refine stS (k := 1) (cs' := flL d) rfl (fun _ => rfl) rfl rfl (fun w => (tO3 w).2) rfl rfl rfl (by rw [← q69]; exact inb_pos q94) (fl_room q94) (by rw [q95]; exact flL_set q94 1000000000) ?_
  have q96 : d.length = (t.facts).toNat := by rw [q95]; exact List.length_set.trans q69
  refine .KA [Box pt (tF t at_ ct at_2 ct2 at_3 ct3), OwnSl 3 1 a ((t.facts).toNat) c (flL d)] ?_
  refine .nil (.blkN (.seqN (.region (.V bi0 ?_))))
  refine .V mv0 ?_
  refine .nil ?_
  exact .RO (wr (t24 + 1), d) ⟨hF.1, q96⟩ hF.2
 replace hF := hF.2 q87
 refine .exit (.seqX (.seqX (.blkX (.seqN (.seq (.seq (.region (.V mv0 ?_))))))))
 refine .V (ln rfl tS22.is) ?_
 refine .V mv0 ?_
 refine .nil (.seqN (.block ?_))
 obtain ⟨I2, μ2, q182, q183⟩ := hF
 refine .loop' (σ := Int × List Int) (fun z => I2 z.1 z.2 ∧ z.2.length = (t.facts).toNat) (fun z => μ2 z.1 z.2) (fun z => [(2, vSl acosts costs ccosts), (3, .func (.func 32) #[] #[]), (4, .pointer (some pt)), (9, .slice a ((t.facts).toNat) c), (31, vSl as_ s_ cs_), (32, iV ((s_.length : Nat) : Int)), (33, iV z.1)]) (fun z => [Box pt (tF t at_ ct at_2 ct2 at_3 ct3), OwnSl 3 1 a ((t.facts).toNat) c (flL z.2)]) (fun _ => h) (0, values) ⟨q182, q69⟩ sb rfl (FH.le_refl _) ?_
 rintro ⟨t33, values3⟩ ⟨q182, q165⟩
 have hF := q183 t33 values3 q182
 show J _ _ _ _ _ [(2, vSl acosts costs ccosts), (3, .func (.func 32) #[] #[]), (4, .pointer (some pt)), (9, .slice a ((t.facts).toNat) c), (31, vSl as_ s_ cs_), (32, iV ((s_.length : Nat) : Int)), (33, iV t33)] [Box pt (tF t at_ ct at_2 ct2 at_3 ct3), OwnSl 3 1 a ((t.facts).toNat) c (flL values3)] h
 refine .seq (.region (.V bi0 ?_))
 refine .nil (.seqN (.seq ?_))
 refine .cond rfl (fun q186 => ?_) (fun q186 => ?_)
 ·replace hF := hF.1 q186
  refine .skip (.seqN (.seq (.block (.seq (.region ?_)))))
  obtain ⟨q195, hF⟩ := hF
  refine .V (ix rfl rfl tS22 (_q7.ne (by decide) (inb_pos q195)) q195) ?_
  refine .V (ld1 (v := iV (gt s_ t33)) rfl tO3 (cellH (_q7.elemF q195 (by decide) 0 _ rfl))) ?_
  refine .V ag0 ?_
  refine .nil (.seqN (.region (.V mv0 ?_)))
  refine .V mv0 ?_
  obtain ⟨q196, hF⟩ := hF
  refine .V (ixS rfl rfl tS22 (k := 1) rfl (inb_n q196 q165)) ?_
  obtain ⟨d2, q197⟩ : ∃ y_ : List Int, y_ = (values3.set ((gt s_ t33)).toNat 0) := ⟨_, rfl⟩
  replace hF := hF d2 q197
  refine stS (k := 1) (cs' := flL d2) rfl (fun _ => rfl) rfl rfl (fun w => (tO3 w).2) rfl rfl rfl (by rw [← q165]; exact inb_pos q196) (fl_room q196) (by rw [q197]; exact flL_set q196 0) ?_
  have q198 : d2.length = (t.facts).toNat := by rw [q197]; exact List.length_set.trans q165
  refine .KA [Box pt (tF t at_ ct at_2 ct2 at_3 ct3), OwnSl 3 1 a ((t.facts).toNat) c (flL d2)] ?_
  refine .nil (.blkN (.seqN (.region (.V bi0 ?_))))
  refine .V mv0 ?_
  refine .nil ?_
  exact .RO (wr (t33 + 1), d2) ⟨hF.1, q198⟩ hF.2
 replace hF := hF.2 q186
 refine .exit (.seqX (.seqX (.blkX (.seqN (.seq (.seq (.region (.V ag0 ?_))))))))
 refine .nil (.seqN (.block ?_))
 obtain ⟨I3, μ3, q3200, q3201⟩ := hF
 refine .loop' (σ := Bool × List Int) (fun z => I3 z.1 z.2 ∧ z.2.length = (t.facts).toNat) (fun z => μ3 z.1 z.2) (fun z => [(2, vSl acosts costs ccosts), (3, .func (.func 32) #[] #[]), (4, .pointer (some pt)), (9, .slice a ((t.facts).toNat) c), (13, .bool z.1)]) (fun z => [Box pt (tF t at_ ct at_2 ct2 at_3 ct3), OwnSl 3 1 a ((t.facts).toNat) c (flL z.2)]) (fun _ => h) (true, values3) ⟨q3200, q165⟩ sb rfl (FH.le_refl _) ?_
 rintro ⟨changed, values5⟩ ⟨q3200, q2599⟩
 have hF := q3201 changed values5 q3200
 show J _ _ _ _ _ [(2, vSl acosts costs ccosts), (3, .func (.func 32) #[] #[]), (4, .pointer (some pt)), (9, .slice a ((t.facts).toNat) c), (13, .bool changed)] [Box pt (tF t at_ ct at_2 ct2 at_3 ct3), OwnSl 3 1 a ((t.facts).toNat) c (flL values5)] h
 refine .seq (.seq (.region (.V mv0 ?_)))
 refine .nil (.seqN ?_)
 refine .cond rfl (fun q3203 => ?_) (fun q3203 => ?_)
 ·replace hF := hF.1 q3203
  refine .skip (.seqN (.block (.seq (.region (.V ag0 ?_)))))
  refine .nil (.seqN (.seq (.region (.V (fa rfl tF25_3) ?_))))
  refine .V (ld1 rfl tO23 (cellB (off := 3) (k := 0) rfl rfl)) ?_
  refine .V (ln rfl tS23.is) ?_
  refine .V mv0 ?_
  refine .nil (.seqN (.block ?_))
  obtain ⟨I4, μ4, q3604, q3605⟩ := hF
  refine .loop' (σ := Bool × Int × List Int) (fun z => I4 z.1 z.2.1 z.2.2 ∧ z.2.2.length = (t.facts).toNat) (fun z => μ4 z.1 z.2.1 z.2.2) (fun z => [(2, vSl acosts costs ccosts), (3, .func (.func 32) #[] #[]), (4, .pointer (some pt)), (9, .slice a ((t.facts).toNat) c), (13, .bool z.1), (43, vSl at_3 t.ops ct3), (44, iV ((t.ops.length : Nat) : Int)), (45, iV z.2.1)]) (fun z => [Box pt (tF t at_ ct at_2 ct2 at_3 ct3), OwnSl 3 1 a ((t.facts).toNat) c (flL z.2.2)]) (fun _ => h) (false, 0, values5) ⟨q3604, q2599⟩ sb rfl (FH.le_refl _) ?_
  rintro ⟨changed3, t45, values7⟩ ⟨q3604, q3407⟩
  have hF := q3605 changed3 t45 values7 q3604
  show J _ _ _ _ _ [(2, vSl acosts costs ccosts), (3, .func (.func 32) #[] #[]), (4, .pointer (some pt)), (9, .slice a ((t.facts).toNat) c), (13, .bool changed3), (43, vSl at_3 t.ops ct3), (44, iV ((t.ops.length : Nat) : Int)), (45, iV t45)] [Box pt (tF t at_ ct at_2 ct2 at_3 ct3), OwnSl 3 1 a ((t.facts).toNat) c (flL values7)] h
  refine .seq (.region (.V bi0 ?_))
  refine .nil (.seqN (.seq ?_))
  refine .cond rfl (fun q3608 => ?_) (fun q3608 => ?_)
  ·replace hF := hF.1 q3608
   refine .skip (.seqN (.seq (.block (.seq (.region (.V mv0 ?_))))))
   obtain ⟨q3737, hF⟩ := hF
   refine .V (ix rfl rfl tS23 (_q5.ne (by decide) (inb_pos q3737)) q3737) ?_
   obtain ⟨_, ⟨a2, c2, a3, c3, a4, c4, rfl, ⟨q3738, q3739⟩, ⟨q3740, q3741⟩, q3742, q3743⟩, q3744⟩ := _q5.elem q3737
   refine .V (ldA (cs := [.slice a2 ((gt t.ops t45).pre.length) c2, .slice a3 ((gt t.ops t45).add.length) c3, .slice a4 ((gt t.ops t45).del.length) c4, iV ((gt t.ops t45).cost)]) rfl tA52 rfl (cellsH (q3744 (by decide)))) ?_
   refine al tZ52 rfl (fun po => ?_)
   refine .V ag0 ?_
   refine st (p := po) (off := 0) (k := 0) (vs := [.slice a2 ((gt t.ops t45).pre.length) c2, .slice a3 ((gt t.ops t45).add.length) c3, .slice a4 ((gt t.ops t45).del.length) c4, iV ((gt t.ops t45).cost)]) rfl rfl rfl (fun w => (tA52 w).2) rfl rfl rfl rfl ?_
   refine .KA [Box po [.slice a2 ((gt t.ops t45).pre.length) c2, .slice a3 ((gt t.ops t45).add.length) c3, .slice a4 ((gt t.ops t45).del.length) c4, iV ((gt t.ops t45).cost)], Box pt (tF t at_ ct at_2 ct2 at_3 ct3), OwnSl 3 1 a ((t.facts).toNat) c (flL values7)] ?_
   refine .nil (.seqN (.seq ?_))
   refine .open_ (by kernel_rfl) (by kernel_rfl) ?_
   refine .V mv0 ?_
   refine .V mv0 ?_
   refine .V (fa rfl tF52_0) ?_
   refine .V (ld1 rfl tO22 (cellB (off := 0) (k := 0) rfl rfl)) ?_
   obtain ⟨q3745, hF⟩ := hF
   obtain ⟨r2, q3746⟩ : ∃ y_ : Int, y_ = sp_sumR values7 ((gt t.ops t45).pre) := ⟨_, rfl⟩
   replace hF := hF r2 q3746
   refine .C (cl (v := iV r2) Tryz.call32 rfl rfl (fun w S => (by rw [q3746]; obtain ⟨h_, hl_, hs_, hne_, hr_⟩ := look S (k := 2) rfl; rw [← q3407]; exact c_sumR hs_ values7 a c (RSl.of hr_) (by rw [q3407]; exact look_len S (k := 2) rfl) ((gt t.ops t45).pre) a2 c2 (RSl.mono hl_ q3739) q3738 q3745))) ?_
   refine .V mv0 ?_
   refine .V mv0 ?_
   obtain ⟨q3747, hF⟩ := hF
   refine .V (ix rfl rfl tS22 (_q9.ne (by decide) (inb_pos q3747)) q3747) ?_
   refine .V (ld1 (v := iV (gt costs t45)) rfl tO3 (cellH (_q9.elemF q3747 (by decide) 0 _ rfl))) ?_
   obtain ⟨q3748, hF⟩ := hF
   obtain ⟨r3, q3749⟩ : ∃ y_ : Int, y_ = sp_plus r2 (gt costs t45) := ⟨_, rfl⟩
   replace hF := hF r3 q3749
   refine .C (cl (v := iV r3) Tryz.call66 rfl rfl (fun w S => (by rw [q3749]; exact c_plus S.sub r2 (gt costs t45) q3748))) ?_
   refine .V ag0 ?_
   refine .fin ?_
   refine .seqN (.seq (.region (.V (fa rfl tF52_1) ?_)))
   refine .V (ld1 rfl tO22 (cellB (off := 1) (k := 0) rfl rfl)) ?_
   refine .V (ln rfl tS22.is) ?_
   refine .V mv0 ?_
   refine .nil (.seqN (.block ?_))
   refine .sel0 [1, 2] (by decide) rfl ?_
   obtain ⟨I5, μ5, q3784, q3785⟩ := hF
   refine .loop' (σ := Bool × Int × List Int) (fun z => I5 z.1 z.2.1 z.2.2 ∧ z.2.2.length = (t.facts).toNat) (fun z => μ5 z.1 z.2.1 z.2.2) (fun z => [(2, vSl acosts costs ccosts), (3, .func (.func 32) #[] #[]), (4, .pointer (some pt)), (9, .slice a ((t.facts).toNat) c), (13, .bool z.1), (16, iV r3), (43, vSl at_3 t.ops ct3), (44, iV ((t.ops.length : Nat) : Int)), (45, iV t45), (61, .slice a3 ((gt t.ops t45).add.length) c3), (62, iV (((gt t.ops t45).add.length : Nat) : Int)), (63, iV z.2.1)]) (fun z => [Box pt (tF t at_ ct at_2 ct2 at_3 ct3), OwnSl 3 1 a ((t.facts).toNat) c (flL z.2.2)]) (fun _ => h) (changed3, 0, values7) ⟨q3784, q3407⟩ sb rfl (FH.le_refl _) ?_
   rintro ⟨changed5, t63, values9⟩ ⟨q3784, q3767⟩
   have hF := q3785 changed5 t63 values9 q3784
   show J _ _ _ _ _ [(2, vSl acosts costs ccosts), (3, .func (.func 32) #[] #[]), (4, .pointer (some pt)), (9, .slice a ((t.facts).toNat) c), (13, .bool changed5), (16, iV r3), (43, vSl at_3 t.ops ct3), (44, iV ((t.ops.length : Nat) : Int)), (45, iV t45), (61, .slice a3 ((gt t.ops t45).add.length) c3), (62, iV (((gt t.ops t45).add.length : Nat) : Int)), (63, iV t63)] [Box pt (tF t at_ ct at_2 ct2 at_3 ct3), OwnSl 3 1 a ((t.facts).toNat) c (flL values9)] h
   refine .seq (.region (.V bi0 ?_))
   refine .nil (.seqN (.seq ?_))
   refine .cond rfl (fun q3788 => ?_) (fun q3788 => ?_)
   ·replace hF := hF.1 q3788
    refine .skip (.seqN ?_)
    refine .share (σ := Bool × List Int) (fun z => F_valuesS_J1 t63 I5 μ5 changed5 values9 z.1 z.2 ∧ z.2.length = (t.facts).toNat) (fun z => [(2, vSl acosts costs ccosts), (3, .func (.func 32) #[] #[]), (4, .pointer (some pt)), (9, .slice a ((t.facts).toNat) c), (13, .bool z.1), (16, iV r3), (43, vSl at_3 t.ops ct3), (44, iV ((t.ops.length : Nat) : Int)), (45, iV t45), (61, .slice a3 ((gt t.ops t45).add.length) c3), (62, iV (((gt t.ops t45).add.length : Nat) : Int)), (63, iV t63)]) (fun z => [Box pt (tF t at_ ct at_2 ct2 at_3 ct3), OwnSl 3 1 a ((t.facts).toNat) c (flL z.2)]) (fun _ => h) ?_ (fun q3795 => ?_)
    ·rintro ⟨changed7, values11⟩ ⟨hF, q3794⟩
     show J _ _ _ _ _ [(2, vSl acosts costs ccosts), (3, .func (.func 32) #[] #[]), (4, .pointer (some pt)), (9, .slice a ((t.facts).toNat) c), (13, .bool changed7), (16, iV r3), (43, vSl at_3 t.ops ct3), (44, iV ((t.ops.length : Nat) : Int)), (45, iV t45), (61, .slice a3 ((gt t.ops t45).add.length) c3), (62, iV (((gt t.ops t45).add.length : Nat) : Int)), (63, iV t63)] [Box pt (tF t at_ ct at_2 ct2 at_3 ct3), OwnSl 3 1 a ((t.facts).toNat) c (flL values11)] h
     refine .region (.V bi0 ?_)
     refine .V mv0 ?_
     refine .nil ?_
     exact .RO (changed7, wr (t63 + 1), values11) ⟨hF.1, q3794⟩ hF.2
    refine .block (.seq (.region ?_))
    obtain ⟨q3796, hF⟩ := hF
    refine .V (ix rfl rfl tS22 (q3741.ne (by decide) (inb_pos q3796)) q3796) ?_
    refine .V (ld1 (v := iV (gt ((gt t.ops t45).add) t63)) rfl tO3 (cellH (q3741.elemF q3796 (by decide) 0 _ rfl))) ?_
    refine .V ag0 ?_
    refine .nil (.seqN (.seq (.region (.V mv0 ?_))))
    refine .V mv0 ?_
    refine .V mv0 ?_
    obtain ⟨q3797, hF⟩ := hF
    refine .V (ixS rfl rfl tS22 (k := 1) rfl (inb_n q3797 q3767)) ?_
    refine .V (ld1 (v := iV (gt values9 (gt ((gt t.ops t45).add) t63))) rfl tO3 (cellS (k := 1) rfl (flL_get q3797 (j := 0) rfl))) ?_
    refine .V bi0 ?_
    refine .nil (.seqN ?_)
    refine .cond rfl (fun q3798 => ?_) (fun q3798 => ?_)
    ·replace hF := hF.1 q3798
     refine .region (.V mv0 ?_)
     refine .V mv0 ?_
     refine .V mv0 ?_
     refine .V (ixS rfl rfl tS22 (k := 1) rfl (inb_n q3797 q3767)) ?_
     obtain ⟨d3, q3799⟩ : ∃ y_ : List Int, y_ = (values9.set ((gt ((gt t.ops t45).add) t63)).toNat r3) := ⟨_, rfl⟩
     replace hF := hF d3 q3799
     refine stS (k := 1) (cs' := flL d3) rfl (fun _ => rfl) rfl rfl (fun w => (tO3 w).2) rfl rfl rfl (by rw [← q3767]; exact inb_pos q3797) (fl_room q3797) (by rw [q3799]; exact flL_set q3797 r3) ?_
     have q3800 : d3.length = (t.facts).toNat := by rw [q3799]; exact List.length_set.trans q3767
     refine .KA [Box pt (tF t at_ ct at_2 ct2 at_3 ct3), OwnSl 3 1 a ((t.facts).toNat) c (flL d3)] ?_
     refine .V ag0 ?_
     refine .nil (.blkN ?_)
     exact .US q3795 (true, d3) ⟨hF, q3800⟩
    replace hF := hF.2 q3798
    refine .skip (.blkN ?_)
    exact .US q3795 (changed5, values9) ⟨hF, q3767⟩
   replace hF := hF.2 q3788
   refine .exit (.seqX (.seqX (.blkX (.blkN (.seqN (.region (.V bi0 ?_)))))))
   refine .V mv0 ?_
   refine .nil ?_
   exact .RO (changed5, wr (t45 + 1), values9) ⟨hF.1, q3767⟩ hF.2
  replace hF := hF.2 q3608
  refine .exit (.seqX (.seqX (.blkX (.blkN ?_))))
  exact .RO (changed3, values7) ⟨hF.1, q3407⟩ hF.2
 replace hF := hF.2 q3203
 refine .exit (.seqX (.seqX (.blkX (.seqN (.seq (.region (.V mv0 ?_)))))))
 refine .V ag0 ?_
 refine .nil (.seqN (.ret ?_))
 refine .res1 rfl (rvT rfl) (fun w' S => ⟨values5, (a, c), h, hF, (by rw [q2599]), (FH.le_refl _), trivial, (by rw [q2599]; exact S.pick (k := 1) rfl)⟩)
theorem c_valuesS {h : FH} {w : World} (hs : Sub h w) (t : Task) (at_ : Option Addr) (ct : Nat) (_q1 : RSl h at_ t.init) (_q2 : t.init.length ≤ ct) (at_2 : Option Addr) (ct2 : Nat) (_q3 : RSl h at_2 t.goal) (_q4 : t.goal.length ≤ ct2) (at_3 : Option Addr) (ct3 : Nat) (_q5 : RSl h at_3 t.ops) (_q6 : t.ops.length ≤ ct3) (s_ : List Int) (as_ : Option Addr) (cs_ : Nat) (_q7 : RSl h as_ s_) (_q8 : s_.length ≤ cs_) (costs : List Int) (acosts : Option Addr) (ccosts : Nat) (_q9 : RSl h acosts costs) (_q10 : costs.length ≤ ccosts) (hp : pre_valuesS t s_ costs) : Calls Tryz.prog 64 #[.agg #[iV t.facts, .slice at_ t.init.length ct, .slice at_2 t.goal.length ct2, .slice at_3 t.ops.length ct3], .slice as_ s_.length cs_, .slice acosts costs.length ccosts, .func (.func 32) #[] #[]] w fun e w' => ∃ (z : Option Addr × Nat) (h0 h1 : FH), e = .returned (.slice z.1 (sp_valuesS t s_ costs).length z.2) ∧ (True) ∧ FH.le h h1 ∧ SH (Kp.all w h0) h1 w' [OwnSl 3 1 z.1 (sp_valuesS t s_ costs).length z.2 (flL (sp_valuesS t s_ costs))] :=
 (w_valuesS hs t at_ ct _q1 _q2 at_2 ct2 _q3 _q4 at_3 ct3 _q5 _q6 s_ as_ cs_ _q7 _q8 costs acosts ccosts _q9 _q10  (fun r => r = sp_valuesS t s_ costs) (ok_valuesS t s_ costs hp)).mono fun _ _ ⟨r, z, h1, hk, he, hl, hψ, hS⟩ => by subst hk; exact ⟨z, h, h1, he, hψ, hl, hS⟩
end Go.Proofs.YtimillpakjgnoaaGreat.Pl

