import Derived.Test.YtimillpakjgnoaaGreatM1
import Derived.Test.YtimillpakjgnoaaGreatM5
namespace Go.Proofs.YtimillpakjgnoaaGreat.Pl
open Go Go.RowKit
set_option maxHeartbeats 8000000 in
theorem w_qtake {h : FH} {w : World} (hs : Sub h w) (m : List (Int × Int)) (p : Addr) {gX : FH} (ownX : QueX QEnt 158 .u32 (QInv m) p gX) (subX : Sub gX w) (disX : Disj h gX) (K : ((Int × Int × Bool) × List (Int × Int)) → Prop) (hF : F_qtake m K) : Calls Tryz.prog 50 #[.pointer (some p)] w fun e w' => ∃ r : (Int × Int × Bool) × List (Int × Int), K r ∧ e = .returned (.tuple #[.int .u32 r.1.1, iV r.1.2.1, .bool r.1.2.2]) ∧ SH (Kp.ex w h gX) h w' [QueX QEnt 158 .u32 (QInv r.2) p] := by
 refine enterX (X := QueX QEnt 158 .u32 (QInv m) p) (args := [vP p]) Tryz.func50 rfl Tryz.ntmps50 rfl hs subX disX ownX ?_
 refine .openQ (fun hp2 fo ar ahp chp b tm q66 => ?_)
 replace hF := hF hp2 fo ar tm q66
 refine .KA [Box p [vSl ahp hp2 chp, .map (some b), iV tm], oL 158 1 ahp hp2 chp, OwnMapI b .u32 (fun zE : Option Addr => .pointer zE) fo, Arn ar] ?_
 refine .seq (.region (.V ag0 ?_))
 refine .V ag0 ?_
 refine .V ag0 ?_
 refine .nil (.seqN (.seq (.seq (.region (.V mv0 ?_)))))
 refine .V (nck rfl) ?_
 refine .V (fa rfl tF157_0) ?_
 refine .V (lB 0 0 tO155) ?_
 refine .V (ln rfl tS155.is) ?_
 refine .V bi0 ?_
 refine .nil (.seqN ?_)
 refine .cond rfl (fun q21 => ?_) (fun q21 => ?_)
 ·replace hF := hF.1 q21
  refine .seq (.region (.V mv0 ?_))
  refine .V ag0 ?_
  refine .V ag0 ?_
  refine .V ag0 ?_
  refine .nil (.seqN (.ret (.seqR ?_)))
  obtain ⟨m2, q67, hF⟩ := hF
  refine .closeQ (hp := hp2) (inv := QInv m2) q67 ?_
  refine .res3 rfl (rvT rfl) (rvT rfl) (rvT rfl) (fun w' S => ⟨((0, 0, false), m2), hF, rfl, S.pick (k := 0) rfl⟩)
 replace hF := hF.2 q21
 refine .skip (.seqN (.seq (.region (.V mv0 ?_))))
 refine .V (nck rfl) ?_
 refine .V (fa rfl tF157_0) ?_
 refine .V (mkI tC163 rfl) ?_
 refine .inl Tryz.func54 rfl Tryz.ntmps54 Tryz.call54 rfl rfl rfl rfl (fun a q68 => ?_)
 refine .seq (.region (.V ag0 ?_))
 refine .nil (.seqN (.seq (.region (.V mv0 ?_))))
 refine .inlV Tryz.func160 rfl Tryz.ntmps160 Tryz.call160 tm163_Len rfl (cellB (off := 0) (k := 0) rfl rfl) rfl rfl (fun a2 q69 => ?_)
 refine .seq (.region (.V ag0 ?_))
 refine .nil (.seqN (.seq (.region (.V mv0 ?_))))
 refine .V (ln rfl tS155.is) ?_
 refine .V ag0 ?_
 refine .nil (.seqN (.ret ?_))
 refine .res1 rfl (rvT rfl) (inl_back (v := iV ((hp2.length : Nat) : Int)) q69 rfl ?_)
 refine .V bi0 ?_
 refine .V ag0 ?_
 refine .nil (.seqN (.seq (.region (.V mv0 ?_))))
 refine .V mv0 ?_
 refine .inlV Tryz.func162 rfl Tryz.ntmps162 Tryz.call162 tm163_Swap rfl (cellB (off := 0) (k := 0) rfl rfl) rfl rfl (fun a3 q70 => ?_)
 refine .seq ?_
 obtain ⟨q43, q7, hF⟩ := hF
 refine .OA (s0 := [(0, vSl ahp hp2 chp), (1, iV 0), (2, iV (nM hp2))]) [0, 1, 2, 3, 4, 5, 6, 7, 8, 9, 10, 11, 12] [(0, vSl ahp hp2 chp), (1, iV 0), (2, vSl ahp hp2 chp), (3, iV (nM hp2)), (4, vSl ahp hp2 chp), (5, iV (nM hp2)), (6, vP (ead ahp ((nM hp2).toNat * 1))), (7, .pointer (gt hp2 (nM hp2))), (8, vSl ahp hp2 chp), (9, iV 0), (10, vP (ead ahp ((0 : Int).toNat * 1))), (11, .pointer (gt hp2 (0 : Int))), (12, vP (ead ahp ((0 : Int).toNat * 1)))] [0, 1, 2] [] ?_
 refine .ST [13] 13 (.w [] rfl mv0 (.w [] rfl mv0 (.w [] rfl mv0 (.w [] rfl mv0 (.w [] rfl mv0 (.w [] rfl mv0 (.w [(10, vSl ahp hp2 chp), (11, iV (nM hp2))] rfl (ixS rfl rfl tS155 (k := 1) rfl q43) (.w [(12, vP (ead ahp ((nM hp2).toNat * 1)))] rfl (ld1 (v := .pointer (gt hp2 (nM hp2))) rfl tO158 (cellS (k := 1) rfl (flL_get q43 (j := 0) rfl))) (.w [] rfl mv0 (.w [] rfl mv0 (.w [(14, vSl ahp hp2 chp), (15, iV 0)] rfl (ixS rfl rfl tS155 (k := 1) rfl q7) (.w [(16, vP (ead ahp ((0 : Int).toNat * 1)))] rfl (ld1 (v := .pointer (gt hp2 (0 : Int))) rfl tO158 (cellS (k := 1) rfl (flL_get q7 (j := 0) rfl))) (.w [(6, vSl ahp hp2 chp), (7, iV 0), (6, vSl ahp hp2 chp), (7, iV 0), (10, vSl ahp hp2 chp), (11, iV (nM hp2)), (12, vP (ead ahp ((nM hp2).toNat * 1))), (13, .pointer (gt hp2 (nM hp2))), (17, .pointer (gt hp2 (0 : Int)))] rfl (ixS rfl rfl tS155 (k := 1) rfl q7) (.nil)))))))))))))) (.cons [(18, vP (ead ahp ((0 : Int).toNat * 1))), (13, .pointer (gt hp2 (nM hp2))), (6, vSl ahp hp2 chp), (7, iV 0), (10, vSl ahp hp2 chp), (11, iV (nM hp2)), (12, vP (ead ahp ((nM hp2).toNat * 1))), (13, .pointer (gt hp2 (nM hp2))), (17, .pointer (gt hp2 (0 : Int)))] rfl rfl (fun sL hL => ?_) (.nil))
 obtain ⟨d, q22⟩ : ∃ y_ : List (Option Addr), y_ = (hp2.set ((0 : Int)).toNat (gt hp2 (wr (((hp2.length : Nat) : Int) - 1)))) := ⟨_, rfl⟩
 replace hF := hF d q22
 refine stS (k := 1) (cs' := flL d) rfl (fun _ => rfl) rfl rfl (fun w => (tO158 w).2) rfl rfl rfl (inb_pos q7) (fl_room q7) (by rw [q22]; exact flL_set q7 (gt hp2 (nM hp2))) ?_
 have q23 : d.length = hp2.length := by rw [q22]; exact List.length_set
 refine .nil ?_
 obtain ⟨q18, hF⟩ := hF
 refine .jaN (M := [12, 7, 0, 1, 4, 5, 6, 11, 10, 8, 9]) (C' := [2, 3, 14]) (pre := [(14, vP (ead ahp ((nM hp2).toNat * 1)))]) [0, 1, 2] hL rfl rfl rfl rfl rfl (by kernel_rfl) ?_
 refine .ST [15] 15 (.w [] rfl mv0 (.w [] rfl mv0 (.w [(8, vSl ahp hp2 chp), (9, iV (nM hp2)), (6, vSl ahp hp2 chp), (7, iV 0), (8, vSl ahp hp2 chp), (9, iV (nM hp2)), (10, vSl ahp hp2 chp), (11, iV (nM hp2)), (12, vP (ead ahp ((nM hp2).toNat * 1))), (13, .pointer (gt hp2 (nM hp2))), (14, vSl ahp hp2 chp), (15, iV 0), (16, vP (ead ahp ((0 : Int).toNat * 1))), (17, .pointer (gt hp2 (0 : Int))), (18, vP (ead ahp ((0 : Int).toNat * 1)))] rfl (ixS rfl rfl tS155 (k := 1) rfl (inb_n q18 q23)) (.nil)))) (.cons [(19, vP (ead ahp ((nM hp2).toNat * 1))), (17, .pointer (gt hp2 (0 : Int))), (6, vSl ahp hp2 chp), (7, iV 0), (8, vSl ahp hp2 chp), (9, iV (nM hp2)), (10, vSl ahp hp2 chp), (11, iV (nM hp2)), (12, vP (ead ahp ((nM hp2).toNat * 1))), (13, .pointer (gt hp2 (nM hp2))), (14, vSl ahp hp2 chp), (15, iV 0), (16, vP (ead ahp ((0 : Int).toNat * 1))), (17, .pointer (gt hp2 (0 : Int))), (18, vP (ead ahp ((0 : Int).toNat * 1)))] rfl rfl (fun sL hL => ?_) (.nil))
 obtain ⟨d2, q24⟩ : ∃ y_ : List (Option Addr), y_ = (d.set (wr (((hp2.length : Nat) : Int) - 1)).toNat (gt hp2 (0 : Int))) := ⟨_, rfl⟩
 replace hF := hF d2 q24
 refine stS (k := 1) (cs' := flL d2) rfl (fun _ => rfl) rfl rfl (fun w => (tO158 w).2) rfl rfl rfl (by rw [← q23]; exact inb_pos q18) (fl_room q18) (by rw [q24]; exact flL_set q18 (gt hp2 (0 : Int))) ?_
 have q25 : d2.length = hp2.length := by rw [q24]; exact List.length_set.trans q23
 refine .nil ?_
 refine .jaN (M := [14, 2, 3]) (C' := []) (pre := []) [0, 1, 2] hL rfl rfl rfl rfl rfl (by kernel_rfl) ?_
 refine .LA [(6, vSl ahp hp2 chp), (7, iV 0), (8, vSl ahp hp2 chp), (9, iV (nM hp2)), (10, vSl ahp hp2 chp), (11, iV (nM hp2)), (12, vP (ead ahp ((nM hp2).toNat * 1))), (13, .pointer (gt hp2 (nM hp2))), (14, vSl ahp hp2 chp), (15, iV 0), (16, vP (ead ahp ((0 : Int).toNat * 1))), (17, .pointer (gt hp2 (0 : Int))), (18, vP (ead ahp ((0 : Int).toNat * 1))), (19, vP (ead ahp ((nM hp2).toNat * 1)))] (.nil) ?_
 refine .seqN ?_
 obtain ⟨q44, q45, q26, hF⟩ := hF
 refine .OA (s0 := [(0, vSl ahp hp2 chp), (1, iV 0), (2, iV (nM hp2))]) [0, 1, 2, 3, 4, 5, 6, 7, 8, 9, 10, 11] [(0, vSl ahp hp2 chp), (1, iV 0), (2, vP (ead ahp ((0 : Int).toNat * 1))), (3, .pointer (gt d2 (0 : Int))), (4, vSl ahp hp2 chp), (5, iV (nM hp2)), (6, vP (ead ahp ((nM hp2).toNat * 1))), (7, .pointer (gt d2 (nM hp2))), (8, iV 0), (9, iV (nM hp2)), (10, vP (pA (gt d2 (0 : Int)))), (11, vP ((pA (gt d2 (0 : Int))).add 3))] [0, 1, 2] [] ?_
 refine .ST [12] 12 (.w [] rfl mv0 (.w [] rfl mv0 (.w [(20, vSl ahp hp2 chp), (21, iV 0)] rfl (ixS rfl rfl tS155 (k := 1) rfl (inb_n q44 q25)) (.w [(22, vP (ead ahp ((0 : Int).toNat * 1)))] rfl (ld1 (v := .pointer (gt d2 (0 : Int))) rfl tO158 (cellS (k := 1) rfl (flL_get q44 (j := 0) rfl))) (.w [] rfl mv0 (.w [] rfl mv0 (.w [(24, vSl ahp hp2 chp), (25, iV (nM hp2))] rfl (ixS rfl rfl tS155 (k := 1) rfl (inb_n q45 q25)) (.w [(26, vP (ead ahp ((nM hp2).toNat * 1)))] rfl (ld1 (v := .pointer (gt d2 (nM hp2))) rfl tO158 (cellS (k := 1) rfl (flL_get q45 (j := 0) rfl))) (.w [] rfl mv0 (.w [] rfl mv0 (.w [(23, .pointer (gt d2 (0 : Int))), (20, vSl ahp hp2 chp), (21, iV 0), (22, vP (ead ahp ((0 : Int).toNat * 1))), (23, .pointer (gt d2 (0 : Int))), (27, .pointer (gt d2 (nM hp2))), (28, iV 0)] rfl (nck (inA.ev q26)) (.w [(30, vP (pA (gt d2 (0 : Int)))), (20, vSl ahp hp2 chp), (21, iV 0), (22, vP (ead ahp ((0 : Int).toNat * 1))), (23, .pointer (gt d2 (0 : Int))), (27, .pointer (gt d2 (nM hp2))), (28, iV 0)] rfl (fa rfl tF161_3) (.nil))))))))))))) (.cons [(31, vP ((pA (gt d2 (0 : Int))).add 3)), (28, iV 0), (20, vSl ahp hp2 chp), (21, iV 0), (22, vP (ead ahp ((0 : Int).toNat * 1))), (23, .pointer (gt d2 (0 : Int))), (27, .pointer (gt d2 (nM hp2))), (28, iV 0)] rfl rfl (fun sL hL => ?_) (.nil))
 refine stR (p := pA (gt d2 (0 : Int))) (off := 3) (k := 3) (e := (arv ar (gt d2 (0 : Int)))) (e' := (⟨(arv ar (gt d2 (0 : Int))).item, (arv ar (gt d2 (0 : Int))).key, (arv ar (gt d2 (0 : Int))).time, 0⟩ : QEnt)) (xx := (gt d2 (0 : Int))) (vs := [iV 0]) rfl rfl rfl (fun w => (tO3 w).2) rfl rfl rfl (inA.eq q26) (inA.at_ q26) (Nat.le_of_ble_eq_true rfl) rfl ?_
 obtain ⟨ar2, q46⟩ : ∃ y_ : Addr → Option QEnt, y_ = (setP ar (gt d2 (0 : Int)) (⟨(arv ar (gt d2 (0 : Int))).item, (arv ar (gt d2 (0 : Int))).key, (arv ar (gt d2 (0 : Int))).time, 0⟩ : QEnt)) := ⟨_, rfl⟩
 replace hF := hF ar2 q46
 refine .cast (A' := [Box p [vSl ahp hp2 chp, .map (some b), iV tm], OwnSl 158 1 ahp hp2.length chp (flL d2), OwnMapI b .u32 (fun zE : Option Addr => .pointer zE) fo, Arn ar2]) (by rw [q46]; rfl) ?_
 refine .nil ?_
 obtain ⟨q27, hF⟩ := hF
 refine .jaN (M := [11, 8, 0, 1, 2, 3, 7, 10, 6, 4, 5]) (C' := [9, 13, 14]) (pre := [(13, vP (pA (gt d2 (nM hp2)))), (14, vP ((pA (gt d2 (nM hp2))).add 3))]) [0, 1, 2] hL rfl rfl rfl rfl rfl (by kernel_rfl) ?_
 refine .ST [15] 15 (.w [] rfl mv0 (.w [(27, .pointer (gt d2 (nM hp2))), (20, vSl ahp hp2 chp), (21, iV 0), (22, vP (ead ahp ((0 : Int).toNat * 1))), (23, .pointer (gt d2 (0 : Int))), (24, vSl ahp hp2 chp), (25, iV (nM hp2)), (26, vP (ead ahp ((nM hp2).toNat * 1))), (27, .pointer (gt d2 (nM hp2))), (28, iV 0), (29, iV (nM hp2)), (30, vP (pA (gt d2 (0 : Int)))), (31, vP ((pA (gt d2 (0 : Int))).add 3))] rfl (nck (inA.ev q27)) (.w [(32, vP (pA (gt d2 (nM hp2)))), (20, vSl ahp hp2 chp), (21, iV 0), (22, vP (ead ahp ((0 : Int).toNat * 1))), (23, .pointer (gt d2 (0 : Int))), (24, vSl ahp hp2 chp), (25, iV (nM hp2)), (26, vP (ead ahp ((nM hp2).toNat * 1))), (27, .pointer (gt d2 (nM hp2))), (28, iV 0), (29, iV (nM hp2)), (30, vP (pA (gt d2 (0 : Int)))), (31, vP ((pA (gt d2 (0 : Int))).add 3))] rfl (fa rfl tF161_3) (.nil)))) (.cons [(33, vP ((pA (gt d2 (nM hp2))).add 3)), (29, iV (nM hp2)), (20, vSl ahp hp2 chp), (21, iV 0), (22, vP (ead ahp ((0 : Int).toNat * 1))), (23, .pointer (gt d2 (0 : Int))), (24, vSl ahp hp2 chp), (25, iV (nM hp2)), (26, vP (ead ahp ((nM hp2).toNat * 1))), (27, .pointer (gt d2 (nM hp2))), (28, iV 0), (29, iV (nM hp2)), (30, vP (pA (gt d2 (0 : Int)))), (31, vP ((pA (gt d2 (0 : Int))).add 3))] rfl rfl (fun sL hL => ?_) (.nil))
 refine stR (p := pA (gt d2 (nM hp2))) (off := 3) (k := 3) (e := (arv ar2 (gt d2 (nM hp2)))) (e' := (⟨(arv ar2 (gt d2 (nM hp2))).item, (arv ar2 (gt d2 (nM hp2))).key, (arv ar2 (gt d2 (nM hp2))).time, wr (((hp2.length : Nat) : Int) - 1)⟩ : QEnt)) (xx := (gt d2 (nM hp2))) (vs := [iV (nM hp2)]) rfl rfl rfl (fun w => (tO3 w).2) rfl rfl rfl (inA.eq q27) (inA.at_ q27) (Nat.le_of_ble_eq_true rfl) rfl ?_
 obtain ⟨ar3, q47⟩ : ∃ y_ : Addr → Option QEnt, y_ = (setP ar2 (gt d2 (wr (((hp2.length : Nat) : Int) - 1))) (⟨(arv ar2 (gt d2 (wr (((hp2.length : Nat) : Int) - 1)))).item, (arv ar2 (gt d2 (wr (((hp2.length : Nat) : Int) - 1)))).key, (arv ar2 (gt d2 (wr (((hp2.length : Nat) : Int) - 1)))).time, wr (((hp2.length : Nat) : Int) - 1)⟩ : QEnt)) := ⟨_, rfl⟩
 replace hF := hF ar3 q47
 refine .cast (A' := [Box p [vSl ahp hp2 chp, .map (some b), iV tm], OwnSl 158 1 ahp hp2.length chp (flL d2), OwnMapI b .u32 (fun zE : Option Addr => .pointer zE) fo, Arn ar3]) (by rw [q47]; rfl) ?_
 refine .nil ?_
 refine .jaN (M := [14, 9, 13]) (C' := []) (pre := []) [0, 1, 2] hL rfl rfl rfl rfl rfl (by kernel_rfl) ?_
 refine .LA [(20, vSl ahp hp2 chp), (21, iV 0), (22, vP (ead ahp ((0 : Int).toNat * 1))), (23, .pointer (gt d2 (0 : Int))), (24, vSl ahp hp2 chp), (25, iV (nM hp2)), (26, vP (ead ahp ((nM hp2).toNat * 1))), (27, .pointer (gt d2 (nM hp2))), (28, iV 0), (29, iV (nM hp2)), (30, vP (pA (gt d2 (0 : Int)))), (31, vP ((pA (gt d2 (0 : Int))).add 3)), (32, vP (pA (gt d2 (nM hp2)))), (33, vP ((pA (gt d2 (nM hp2))).add 3))] (.nil) ?_
 refine .res0 (.inr rfl) rfl (inl_back (v := .tuple #[]) q70 rfl ?_)
 refine .nil (.seqN (.seq (.region (.V mv0 ?_))))
 refine .V mv0 ?_
 refine .inl Tryz.func83 rfl Tryz.ntmps83 Tryz.call83 rfl rfl rfl rfl (fun a4 q71 => ?_)
 refine .seq (.region (.V ag0 ?_))
 refine .nil (.seqN (.seq (.region (.V mv0 ?_))))
 refine .V ag0 ?_
 refine .nil (.seqN ?_)
 refine .share (σ := Int × (Addr → Option QEnt) × List (Option Addr)) (fun z => F_qtake_J1 K hp2 fo z.2.1 z.2.2 ∧ z.2.2.length = hp2.length) (fun z => [(1, iV 0), (7, iV z.1)]) (fun z => [Box p [vSl ahp hp2 chp, .map (some b), iV tm], Arn z.2.1, OwnSl 158 1 ahp hp2.length chp (flL z.2.2), OwnMapI b .u32 (fun zE : Option Addr => .pointer zE) fo]) (fun _ => h) ?_ (fun q28 => ?_)
 ·rintro ⟨i, ar4, l⟩ ⟨hF, q48⟩
  show J _ _ _ _ _ [(1, iV 0), (7, iV i)] [Box p [vSl ahp hp2 chp, .map (some b), iV tm], Arn ar4, OwnSl 158 1 ahp hp2.length chp (flL l), OwnMapI b .u32 (fun zE : Option Addr => .pointer zE) fo] h
  refine .seq (.region (.V mv0 ?_))
  refine .V mv0 ?_
  refine .V bi0 ?_
  refine .V ag0 ?_
  refine .nil (.seqN (.ret ?_))
  refine .res1 rfl (rvT rfl) (inl_back (v := .bool (decide (0 < i))) q71 rfl ?_)
  refine .nil (.seqN (.seq (.region (.V mv0 ?_))))
  refine .inlI Tryz.func163 rfl Tryz.ntmps163 Tryz.call163 tm163_Pop rfl rfl rfl (fun a5 q72 => ?_)
  refine .seq (.region (.V ag0 ?_))
  refine .nil (.seqN (.seq (.region (.V mv0 ?_))))
  refine .V (nck rfl) ?_
  refine .V (lB 0 0 tO155) ?_
  refine .V ag0 ?_
  refine .nil (.seqN (.seq (.region (.V mv0 ?_))))
  refine .V mv0 ?_
  refine .V (ln rfl tS155.is) ?_
  refine .V bi0 ?_
  obtain ⟨q49, hF⟩ := hF
  refine .V (ixS rfl rfl tS155 (k := 2) rfl (inb_n q49 q48)) ?_
  refine .V (ld1 (v := .pointer (gt l (nM hp2))) rfl tO158 (cellS (k := 2) rfl (flL_get q49 (j := 0) rfl))) ?_
  refine .V ag0 ?_
  refine .nil (.seqN (.seq ?_))
  refine .fact (fun w S => look_len S (k := 2) rfl) (fun q73 => ?_)
  refine .region (.V mv0 ?_)
  refine .V mv0 ?_
  refine .V mv0 ?_
  refine .V (ln rfl tS155.is) ?_
  refine .V bi0 ?_
  obtain ⟨q19, hF⟩ := hF
  obtain ⟨d3, q29⟩ : ∃ y_ : List (Option Addr), y_ = (l.take (wr (((hp2.length : Nat) : Int) - 1)).toNat) := ⟨_, rfl⟩
  replace hF := hF d3 q29
  have q30 : d3.length = (wr (((hp2.length : Nat) : Int) - 1)).toNat := by rw [q29]; exact len_take q48 (Int.toNat_le.2 q19.2)
  refine .v (v := .slice ahp (List.length d3) chp) (by rw [q30]; exact slH tS155 rfl rfl q19.1 rfl (Nat.le_trans (Int.toNat_le.2 q19.2) q73)) rfl rfl rfl ?_
  refine .shrink (k := 2) (m' := d3.length) (cs' := flL d3) rfl (by rw [q30]; exact (Int.toNat_le.2 q19.2)) (by rw [q30, Nat.mul_one, q29]; exact flL_take _ _ rfl) ?_
  refine .V (nck rfl) ?_
  refine st (p := p) (off := 0) (k := 0) (vs := [vSl ahp d3 chp]) rfl rfl rfl (fun w => (tO155 w).2) rfl rfl rfl rfl ?_
  refine .nil (.seqN (.seq (.region (.V mv0 ?_))))
  refine .V (mkI tC158 rfl) ?_
  refine .V ag0 ?_
  refine .nil (.seqN (.ret ?_))
  refine .res1 rfl (rvT rfl) (inl_back (v := .iface 158 (.pointer (gt l (wr (((hp2.length : Nat) : Int) - 1))))) q72 rfl ?_)
  refine .V ag0 ?_
  refine .nil (.seqN (.ret ?_))
  refine .res1 rfl (rvT rfl) (inl_back (v := .iface 158 (.pointer (gt l (wr (((hp2.length : Nat) : Int) - 1))))) q68 rfl ?_)
  refine .V (tas tC158 rfl) ?_
  refine .V ag0 ?_
  refine .nil (.seqN (.seq ?_))
  obtain ⟨q8, hF⟩ := hF
  refine .OA (s0 := [(0, vP p), (5, .pointer (gt l (nM hp2)))]) [0, 1, 2, 3, 4, 5, 6, 7] [(0, vP p), (1, vP p), (2, vP (p.add 1)), (3, .map (some b)), (4, .pointer (gt l (nM hp2))), (5, vP (pA (gt l (nM hp2)))), (6, vP ((pA (gt l (nM hp2))).add 0)), (7, .int .u32 ((arv ar4 (gt l (nM hp2))).item))] [0, 5] [] ?_
  refine .ST [8] 8 (.w [] rfl mv0 (.w [(19, vP p)] rfl (nck rfl) (.w [(20, vP p)] rfl (fa rfl tF157_1) (.w [(21, vP (p.add 1))] rfl (lB 1 0 tO153) (.w [] rfl mv0 (.w [(23, .pointer (gt l (nM hp2)))] rfl (nck (inA.ev q8)) (.w [(24, vP (pA (gt l (nM hp2))))] rfl (fa rfl tF161_0) (.w [(25, vP ((pA (gt l (nM hp2))).add 0))] rfl (ld1 (v := .int .u32 ((arv ar4 (gt l (nM hp2))).item)) rfl tO62 (cellR (k := 1) (off := 0) rfl (inA.at_ q8) rfl)) (.nil))))))))) (.cons [(22, .map (some b)), (26, .int .u32 ((arv ar4 (gt l (nM hp2))).item))] rfl rfl (fun sL hL => ?_) (.nil))
  refine dlI tMI153 rfl rfl (q := 3) rfl rfl ?_
  obtain ⟨m3, q50⟩ : ∃ y_ : List (Int × Option Addr), y_ = (delA fo ((arv ar4 (gt l (wr (((hp2.length : Nat) : Int) - 1)))).item)) := ⟨_, rfl⟩
  replace hF := hF m3 q50
  refine .cast (A' := [Box p [vSl ahp d3 chp, .map (some b), iV tm], Arn ar4, oL 158 1 ahp d3 chp, OwnMapI b .u32 (fun zE : Option Addr => .pointer zE) m3]) (by rw [q50]; rfl) ?_
  refine .nil ?_
  refine .jaN (M := [3, 7, 2, 6, 1, 5, 0, 4]) (C' := []) (pre := []) [0, 5] hL rfl rfl rfl rfl rfl (by kernel_rfl) ?_
  refine .LA [(19, vP p), (20, vP p), (21, vP (p.add 1)), (22, .map (some b)), (23, .pointer (gt l (nM hp2))), (24, vP (pA (gt l (nM hp2)))), (25, vP ((pA (gt l (nM hp2))).add 0)), (26, .int .u32 ((arv ar4 (gt l (nM hp2))).item))] (.nil) ?_
  refine .seqN (.seq ?_)
  refine .open_ (by kernel_rfl) (by kernel_rfl) ?_
  refine .V mv0 ?_
  refine .V (nck (inA.ev q8)) ?_
  refine .V (fa rfl tF161_0) ?_
  refine .V (ld1 (v := .int .u32 ((arv ar4 (gt l (nM hp2))).item)) rfl tO62 (cellR (k := 1) (off := 0) rfl (inA.at_ q8) rfl)) ?_
  refine .V mv0 ?_
  refine .V (nck (inA.ev q8)) ?_
  refine .V (fa rfl tF161_1) ?_
  refine .V (ld1 (v := iV ((arv ar4 (gt l (nM hp2))).key)) rfl tO3 (cellR (k := 1) (off := 1) rfl (inA.at_ q8) rfl)) ?_
  refine .V ag0 ?_
  refine .V ag0 ?_
  refine .V ag0 ?_
  refine .fin ?_
  refine .seqN (.ret ?_)
  refine .sel0 [0, 2, 3, 1] (by decide) rfl ?_
  obtain ⟨m4, q74, hF⟩ := hF
  refine .closeQ (hp := d3) (inv := QInv m4) q74 ?_
  refine .res3 rfl (rvT rfl) (rvT rfl) (rvT rfl) (fun w' S => ⟨(((arv ar4 (gt l (wr (((hp2.length : Nat) : Int) - 1)))).item, (arv ar4 (gt l (wr (((hp2.length : Nat) : Int) - 1)))).key, true), m4), hF, rfl, S.pick (k := 0) rfl⟩)
 refine .block ?_
 refine .sel0 [0, 3, 1, 2] (by decide) rfl ?_
 obtain ⟨I1, μ1, q31, q75⟩ := hF
 refine .loop' (σ := Int × (Addr → Option QEnt) × List (Option Addr)) (fun z => I1 z.1 z.2.1 z.2.2 ∧ z.2.2.length = hp2.length) (fun z => μ1 z.1 z.2.1 z.2.2) (fun z => [(0, .iface 163 (vP (p.add 0))), (1, iV 0), (2, iV (nM hp2)), (7, iV z.1)]) (fun z => [Box p [vSl ahp hp2 chp, .map (some b), iV tm], Arn z.2.1, OwnSl 158 1 ahp hp2.length chp (flL z.2.2), OwnMapI b .u32 (fun zE : Option Addr => .pointer zE) fo]) (fun _ => h) (0, ar3, d2) ⟨q31, q25⟩ sb rfl (FH.le_refl _) ?_
 rintro ⟨i2, ar5, l2⟩ ⟨q31, q4⟩
 have hF := q75 i2 ar5 l2 q31
 show J _ _ _ _ _ [(0, .iface 163 (vP (p.add 0))), (1, iV 0), (2, iV (nM hp2)), (7, iV i2)] [Box p [vSl ahp hp2 chp, .map (some b), iV tm], Arn ar5, OwnSl 158 1 ahp hp2.length chp (flL l2), OwnMapI b .u32 (fun zE : Option Addr => .pointer zE) fo] h
 refine .block (.seq (.region (.V mv0 ?_)))
 refine .V bi0 ?_
 refine .V bi0 ?_
 refine .V ag0 ?_
 refine .nil (.seqN (.seq (.seq (.region (.V mv0 ?_)))))
 refine .V mv0 ?_
 obtain ⟨x, q51⟩ : ∃ y_ : Bool, y_ = (decide ((wr (((hp2.length : Nat) : Int) - 1)) ≤ (wr ((wr (2 * i2)) + 1)))) := ⟨_, rfl⟩
 replace hF := hF x q51
 refine .v (v := .bool x) (by rw [q51]; exact bi rfl rfl rfl) rfl rfl rfl ?_
 refine .V mv0 ?_
 rcases Bool.eq_false_or_eq_true (x) with q6 | q6
 ·replace hF := hF.1 q6
  refine .GS q6 ?_
  refine .GS q6 ?_
  refine .V (pkT rfl q6 rfl) ?_
  refine .nil (.seqN ?_)
  refine .cond rfl (fun _ => ?_) (fun e => absurd (e.symm.trans rfl) (by decide))
  refine .exit (.seqX ?_)
  refine .blkY rfl ?_
  refine .seqX (.blkX ?_)
  exact .US q28 (i2, ar5, l2) ⟨hF, q4⟩
 replace hF := hF.2 q6
 refine .GV mv0 q6 ?_
 obtain ⟨x2, q52⟩ : ∃ y_ : Bool, y_ = (decide ((wr ((wr (2 * i2)) + 1)) < 0)) := ⟨_, rfl⟩
 replace hF := hF x2 q52
 refine .gv (v := .bool x2) (by rw [q52]; exact bi rfl rfl rfl) rfl rfl rfl q6 rfl rfl ?_
 refine .V (pkF rfl q6 rfl) ?_
 refine .nil (.seqN ?_)
 refine .cond rfl (fun q32 => ?_) (fun q32 => ?_)
 ·replace hF := hF.1 q32
  refine .exit (.seqX ?_)
  refine .blkY rfl ?_
  refine .seqX (.blkX ?_)
  exact .US q28 (i2, ar5, l2) ⟨hF, q4⟩
 replace hF := hF.2 q32
 refine .skip (.seqN (.seq (.region (.V mv0 ?_))))
 refine .V ag0 ?_
 refine .nil (.seqN (.seq (.seq (.region (.V mv0 ?_)))))
 obtain ⟨x3, q53⟩ : ∃ y_ : Int, y_ = (wr ((wr ((wr (2 * i2)) + 1)) + 1)) := ⟨_, rfl⟩
 replace hF := hF x3 q53
 refine .v (v := iV x3) (by rw [q53]; exact bi rfl rfl rfl) rfl rfl rfl ?_
 refine .V ag0 ?_
 refine .nil (.seqN ?_)
 refine .share (σ := Bool) (fun z => F_qtake_J2 K hp2 fo x3 z ar5 i2 l2 I1 μ1) (fun z => [(0, .iface 163 (vP (p.add 0))), (1, iV 0), (2, iV (nM hp2)), (7, iV i2), (9, iV (wr ((wr (2 * i2)) + 1))), (10, iV x3), (33, .bool z)]) (fun _ => [Box p [vSl ahp hp2 chp, .map (some b), iV tm], Arn ar5, OwnSl 158 1 ahp hp2.length chp (flL l2), OwnMapI b .u32 (fun zE : Option Addr => .pointer zE) fo]) (fun _ => h) ?_ (fun q54 => ?_)
 ·rintro t33 hF
  show J _ _ _ _ _ [(0, .iface 163 (vP (p.add 0))), (1, iV 0), (2, iV (nM hp2)), (7, iV i2), (9, iV (wr ((wr (2 * i2)) + 1))), (10, iV x3), (33, .bool t33)] [Box p [vSl ahp hp2 chp, .map (some b), iV tm], Arn ar5, OwnSl 158 1 ahp hp2.length chp (flL l2), OwnMapI b .u32 (fun zE : Option Addr => .pointer zE) fo] h
  refine .shareT (σ := Int) (fun z => F_qtake_J3 K hp2 fo z ar5 i2 l2 I1 μ1) (fun z => [(0, .iface 163 (vP (p.add 0))), (1, iV 0), (2, iV (nM hp2)), (7, iV i2), (9, iV z)]) (fun _ => [Box p [vSl ahp hp2 chp, .map (some b), iV tm], Arn ar5, OwnSl 158 1 ahp hp2.length chp (flL l2), OwnMapI b .u32 (fun zE : Option Addr => .pointer zE) fo]) (fun _ => h) ?_ (fun q55 => ?_)
  ·rintro j hF
   show J _ _ _ _ _ [(0, .iface 163 (vP (p.add 0))), (1, iV 0), (2, iV (nM hp2)), (7, iV i2), (9, iV j)] [Box p [vSl ahp hp2 chp, .map (some b), iV tm], Arn ar5, OwnSl 158 1 ahp hp2.length chp (flL l2), OwnMapI b .u32 (fun zE : Option Addr => .pointer zE) fo] h
   refine .seq (.seq (.region (.V mv0 ?_)))
   refine .V mv0 ?_
   refine .V mv0 ?_
   refine .inlV Tryz.func161 rfl Tryz.ntmps161 Tryz.call161 tm163_Less rfl (cellB (off := 0) (k := 0) rfl rfl) rfl rfl (fun a6 q76 => ?_)
   refine .seq (.region (.V ag0 ?_))
   refine .nil (.seqN ?_)
   refine .share (σ := Bool) (fun z => F_qtake_J4 K hp2 fo z j ar5 i2 l2 I1 μ1) (fun z => [(6, .bool z)]) (fun _ => [Box p [vSl ahp hp2 chp, .map (some b), iV tm], Arn ar5, OwnSl 158 1 ahp hp2.length chp (flL l2), OwnMapI b .u32 (fun zE : Option Addr => .pointer zE) fo]) (fun _ => h) ?_ (fun q33 => ?_)
   ·rintro t6 hF
    show J _ _ _ _ _ [(6, .bool t6)] [Box p [vSl ahp hp2 chp, .map (some b), iV tm], Arn ar5, OwnSl 158 1 ahp hp2.length chp (flL l2), OwnMapI b .u32 (fun zE : Option Addr => .pointer zE) fo] h
    refine .ret ?_
    refine .res1 rfl (rvT rfl) (inl_back (v := .bool t6) q76 rfl ?_)
    refine .V (nt rfl) ?_
    refine .nil (.seqN ?_)
    refine .cond rfl (fun q34 => ?_) (fun q34 => ?_)
    ·replace hF := hF.1 q34
     refine .exit (.seqX ?_)
     refine .blkY rfl ?_
     refine .seqX (.blkX ?_)
     exact .US q28 (i2, ar5, l2) ⟨hF, q4⟩
    replace hF := hF.2 q34
    refine .skip (.seqN (.seq (.region (.V mv0 ?_))))
    refine .V mv0 ?_
    refine .V mv0 ?_
    refine .inlV Tryz.func162 rfl Tryz.ntmps162 Tryz.call162 tm163_Swap rfl (cellB (off := 0) (k := 0) rfl rfl) rfl rfl (fun a7 q77 => ?_)
    refine .seq ?_
    obtain ⟨q56, q9, hF⟩ := hF
    refine .OA (s0 := [(0, vSl ahp hp2 chp), (1, iV i2), (2, iV j)]) [0, 1, 2, 3, 4, 5, 6, 7, 8, 9, 10, 11, 12] [(0, vSl ahp hp2 chp), (1, iV i2), (2, vSl ahp hp2 chp), (3, iV j), (4, vSl ahp hp2 chp), (5, iV j), (6, vP (ead ahp (j.toNat * 1))), (7, .pointer (gt l2 j)), (8, vSl ahp hp2 chp), (9, iV i2), (10, vP (ead ahp (i2.toNat * 1))), (11, .pointer (gt l2 i2)), (12, vP (ead ahp (i2.toNat * 1)))] [0, 1, 2] [] ?_
    refine .ST [13] 13 (.w [] rfl mv0 (.w [] rfl mv0 (.w [] rfl mv0 (.w [] rfl mv0 (.w [] rfl mv0 (.w [] rfl mv0 (.w [(10, vSl ahp hp2 chp), (11, iV j)] rfl (ixS rfl rfl tS155 (k := 2) rfl (inb_n q56 q4)) (.w [(12, vP (ead ahp (j.toNat * 1)))] rfl (ld1 (v := .pointer (gt l2 j)) rfl tO158 (cellS (k := 2) rfl (flL_get q56 (j := 0) rfl))) (.w [] rfl mv0 (.w [] rfl mv0 (.w [(14, vSl ahp hp2 chp), (15, iV i2)] rfl (ixS rfl rfl tS155 (k := 2) rfl (inb_n q9 q4)) (.w [(16, vP (ead ahp (i2.toNat * 1)))] rfl (ld1 (v := .pointer (gt l2 i2)) rfl tO158 (cellS (k := 2) rfl (flL_get q9 (j := 0) rfl))) (.w [(6, vSl ahp hp2 chp), (7, iV i2), (6, vSl ahp hp2 chp), (7, iV i2), (10, vSl ahp hp2 chp), (11, iV j), (12, vP (ead ahp (j.toNat * 1))), (13, .pointer (gt l2 j)), (17, .pointer (gt l2 i2))] rfl (ixS rfl rfl tS155 (k := 2) rfl (inb_n q9 q4)) (.nil)))))))))))))) (.cons [(18, vP (ead ahp (i2.toNat * 1))), (13, .pointer (gt l2 j)), (6, vSl ahp hp2 chp), (7, iV i2), (10, vSl ahp hp2 chp), (11, iV j), (12, vP (ead ahp (j.toNat * 1))), (13, .pointer (gt l2 j)), (17, .pointer (gt l2 i2))] rfl rfl (fun sL hL => ?_) (.nil))
    obtain ⟨d4, q35⟩ : ∃ y_ : List (Option Addr), y_ = (l2.set (i2).toNat (gt l2 j)) := ⟨_, rfl⟩
    replace hF := hF d4 q35
    refine stS (k := 2) (cs' := flL d4) rfl (fun _ => rfl) rfl rfl (fun w => (tO158 w).2) rfl rfl rfl (by rw [← q4]; exact inb_pos q9) (fl_room q9) (by rw [q35]; exact flL_set q9 (gt l2 j)) ?_
    have q36 : d4.length = hp2.length := by rw [q35]; exact List.length_set.trans q4
    refine .nil ?_
    obtain ⟨q20, hF⟩ := hF
    refine .jaN (M := [12, 7, 0, 1, 4, 5, 6, 11, 10, 8, 9]) (C' := [2, 3, 14]) (pre := [(14, vP (ead ahp (j.toNat * 1)))]) [0, 1, 2] hL rfl rfl rfl rfl rfl (by kernel_rfl) ?_
    refine .ST [15] 15 (.w [] rfl mv0 (.w [] rfl mv0 (.w [(8, vSl ahp hp2 chp), (9, iV j), (6, vSl ahp hp2 chp), (7, iV i2), (8, vSl ahp hp2 chp), (9, iV j), (10, vSl ahp hp2 chp), (11, iV j), (12, vP (ead ahp (j.toNat * 1))), (13, .pointer (gt l2 j)), (14, vSl ahp hp2 chp), (15, iV i2), (16, vP (ead ahp (i2.toNat * 1))), (17, .pointer (gt l2 i2)), (18, vP (ead ahp (i2.toNat * 1)))] rfl (ixS rfl rfl tS155 (k := 2) rfl (inb_n q20 q36)) (.nil)))) (.cons [(19, vP (ead ahp (j.toNat * 1))), (17, .pointer (gt l2 i2)), (6, vSl ahp hp2 chp), (7, iV i2), (8, vSl ahp hp2 chp), (9, iV j), (10, vSl ahp hp2 chp), (11, iV j), (12, vP (ead ahp (j.toNat * 1))), (13, .pointer (gt l2 j)), (14, vSl ahp hp2 chp), (15, iV i2), (16, vP (ead ahp (i2.toNat * 1))), (17, .pointer (gt l2 i2)), (18, vP (ead ahp (i2.toNat * 1)))] rfl rfl (fun sL hL => ?_) (.nil))
    obtain ⟨d5, q37⟩ : ∃ y_ : List (Option Addr), y_ = (d4.set (j).toNat (gt l2 i2)) := ⟨_, rfl⟩
    replace hF := hF d5 q37
    refine stS (k := 2) (cs' := flL d5) rfl (fun _ => rfl) rfl rfl (fun w => (tO158 w).2) rfl rfl rfl (by rw [← q36]; exact inb_pos q20) (fl_room q20) (by rw [q37]; exact flL_set q20 (gt l2 i2)) ?_
    have q38 : d5.length = hp2.length := by rw [q37]; exact List.length_set.trans q36
    refine .nil ?_
    refine .jaN (M := [14, 2, 3]) (C' := []) (pre := []) [0, 1, 2] hL rfl rfl rfl rfl rfl (by kernel_rfl) ?_
    refine .LA [(6, vSl ahp hp2 chp), (7, iV i2), (8, vSl ahp hp2 chp), (9, iV j), (10, vSl ahp hp2 chp), (11, iV j), (12, vP (ead ahp (j.toNat * 1))), (13, .pointer (gt l2 j)), (14, vSl ahp hp2 chp), (15, iV i2), (16, vP (ead ahp (i2.toNat * 1))), (17, .pointer (gt l2 i2)), (18, vP (ead ahp (i2.toNat * 1))), (19, vP (ead ahp (j.toNat * 1)))] (.nil) ?_
    refine .seqN ?_
    obtain ⟨q57, q58, q39, hF⟩ := hF
    refine .OA (s0 := [(0, vSl ahp hp2 chp), (1, iV i2), (2, iV j)]) [0, 1, 2, 3, 4, 5, 6, 7, 8, 9, 10, 11] [(0, vSl ahp hp2 chp), (1, iV i2), (2, vP (ead ahp (i2.toNat * 1))), (3, .pointer (gt d5 i2)), (4, vSl ahp hp2 chp), (5, iV j), (6, vP (ead ahp (j.toNat * 1))), (7, .pointer (gt d5 j)), (8, iV i2), (9, iV j), (10, vP (pA (gt d5 i2))), (11, vP ((pA (gt d5 i2)).add 3))] [0, 1, 2] [] ?_
    refine .ST [12] 12 (.w [] rfl mv0 (.w [] rfl mv0 (.w [(20, vSl ahp hp2 chp), (21, iV i2)] rfl (ixS rfl rfl tS155 (k := 2) rfl (inb_n q57 q38)) (.w [(22, vP (ead ahp (i2.toNat * 1)))] rfl (ld1 (v := .pointer (gt d5 i2)) rfl tO158 (cellS (k := 2) rfl (flL_get q57 (j := 0) rfl))) (.w [] rfl mv0 (.w [] rfl mv0 (.w [(24, vSl ahp hp2 chp), (25, iV j)] rfl (ixS rfl rfl tS155 (k := 2) rfl (inb_n q58 q38)) (.w [(26, vP (ead ahp (j.toNat * 1)))] rfl (ld1 (v := .pointer (gt d5 j)) rfl tO158 (cellS (k := 2) rfl (flL_get q58 (j := 0) rfl))) (.w [] rfl mv0 (.w [] rfl mv0 (.w [(23, .pointer (gt d5 i2)), (20, vSl ahp hp2 chp), (21, iV i2), (22, vP (ead ahp (i2.toNat * 1))), (23, .pointer (gt d5 i2)), (27, .pointer (gt d5 j)), (28, iV i2)] rfl (nck (inA.ev q39)) (.w [(30, vP (pA (gt d5 i2))), (20, vSl ahp hp2 chp), (21, iV i2), (22, vP (ead ahp (i2.toNat * 1))), (23, .pointer (gt d5 i2)), (27, .pointer (gt d5 j)), (28, iV i2)] rfl (fa rfl tF161_3) (.nil))))))))))))) (.cons [(31, vP ((pA (gt d5 i2)).add 3)), (28, iV i2), (20, vSl ahp hp2 chp), (21, iV i2), (22, vP (ead ahp (i2.toNat * 1))), (23, .pointer (gt d5 i2)), (27, .pointer (gt d5 j)), (28, iV i2)] rfl rfl (fun sL hL => ?_) (.nil))
    refine stR (p := pA (gt d5 i2)) (off := 3) (k := 1) (e := (arv ar5 (gt d5 i2))) (e' := (⟨(arv ar5 (gt d5 i2)).item, (arv ar5 (gt d5 i2)).key, (arv ar5 (gt d5 i2)).time, i2⟩ : QEnt)) (xx := (gt d5 i2)) (vs := [iV i2]) rfl rfl rfl (fun w => (tO3 w).2) rfl rfl rfl (inA.eq q39) (inA.at_ q39) (Nat.le_of_ble_eq_true rfl) rfl ?_
    obtain ⟨ar7, q59⟩ : ∃ y_ : Addr → Option QEnt, y_ = (setP ar5 (gt d5 i2) (⟨(arv ar5 (gt d5 i2)).item, (arv ar5 (gt d5 i2)).key, (arv ar5 (gt d5 i2)).time, i2⟩ : QEnt)) := ⟨_, rfl⟩
    replace hF := hF ar7 q59
    refine .cast (A' := [Box p [vSl ahp hp2 chp, .map (some b), iV tm], Arn ar7, OwnSl 158 1 ahp hp2.length chp (flL d5), OwnMapI b .u32 (fun zE : Option Addr => .pointer zE) fo]) (by rw [q59]; rfl) ?_
    refine .nil ?_
    obtain ⟨q40, hF⟩ := hF
    refine .jaN (M := [11, 8, 0, 1, 2, 3, 7, 10, 6, 4, 5]) (C' := [9, 13, 14]) (pre := [(13, vP (pA (gt d5 j))), (14, vP ((pA (gt d5 j)).add 3))]) [0, 1, 2] hL rfl rfl rfl rfl rfl (by kernel_rfl) ?_
    refine .ST [15] 15 (.w [] rfl mv0 (.w [(27, .pointer (gt d5 j)), (20, vSl ahp hp2 chp), (21, iV i2), (22, vP (ead ahp (i2.toNat * 1))), (23, .pointer (gt d5 i2)), (24, vSl ahp hp2 chp), (25, iV j), (26, vP (ead ahp (j.toNat * 1))), (27, .pointer (gt d5 j)), (28, iV i2), (29, iV j), (30, vP (pA (gt d5 i2))), (31, vP ((pA (gt d5 i2)).add 3))] rfl (nck (inA.ev q40)) (.w [(32, vP (pA (gt d5 j))), (20, vSl ahp hp2 chp), (21, iV i2), (22, vP (ead ahp (i2.toNat * 1))), (23, .pointer (gt d5 i2)), (24, vSl ahp hp2 chp), (25, iV j), (26, vP (ead ahp (j.toNat * 1))), (27, .pointer (gt d5 j)), (28, iV i2), (29, iV j), (30, vP (pA (gt d5 i2))), (31, vP ((pA (gt d5 i2)).add 3))] rfl (fa rfl tF161_3) (.nil)))) (.cons [(33, vP ((pA (gt d5 j)).add 3)), (29, iV j), (20, vSl ahp hp2 chp), (21, iV i2), (22, vP (ead ahp (i2.toNat * 1))), (23, .pointer (gt d5 i2)), (24, vSl ahp hp2 chp), (25, iV j), (26, vP (ead ahp (j.toNat * 1))), (27, .pointer (gt d5 j)), (28, iV i2), (29, iV j), (30, vP (pA (gt d5 i2))), (31, vP ((pA (gt d5 i2)).add 3))] rfl rfl (fun sL hL => ?_) (.nil))
    refine stR (p := pA (gt d5 j)) (off := 3) (k := 1) (e := (arv ar7 (gt d5 j))) (e' := (⟨(arv ar7 (gt d5 j)).item, (arv ar7 (gt d5 j)).key, (arv ar7 (gt d5 j)).time, j⟩ : QEnt)) (xx := (gt d5 j)) (vs := [iV j]) rfl rfl rfl (fun w => (tO3 w).2) rfl rfl rfl (inA.eq q40) (inA.at_ q40) (Nat.le_of_ble_eq_true rfl) rfl ?_
    obtain ⟨ar8, q60⟩ : ∃ y_ : Addr → Option QEnt, y_ = (setP ar7 (gt d5 j) (⟨(arv ar7 (gt d5 j)).item, (arv ar7 (gt d5 j)).key, (arv ar7 (gt d5 j)).time, j⟩ : QEnt)) := ⟨_, rfl⟩
    replace hF := hF ar8 q60
    refine .cast (A' := [Box p [vSl ahp hp2 chp, .map (some b), iV tm], Arn ar8, OwnSl 158 1 ahp hp2.length chp (flL d5), OwnMapI b .u32 (fun zE : Option Addr => .pointer zE) fo]) (by rw [q60]; rfl) ?_
    refine .nil ?_
    refine .jaN (M := [14, 9, 13]) (C' := []) (pre := []) [0, 1, 2] hL rfl rfl rfl rfl rfl (by kernel_rfl) ?_
    refine .LA [(20, vSl ahp hp2 chp), (21, iV i2), (22, vP (ead ahp (i2.toNat * 1))), (23, .pointer (gt d5 i2)), (24, vSl ahp hp2 chp), (25, iV j), (26, vP (ead ahp (j.toNat * 1))), (27, .pointer (gt d5 j)), (28, iV i2), (29, iV j), (30, vP (pA (gt d5 i2))), (31, vP ((pA (gt d5 i2)).add 3)), (32, vP (pA (gt d5 j))), (33, vP ((pA (gt d5 j)).add 3))] (.nil) ?_
    refine .res0 (.inr rfl) rfl (inl_back (v := .tuple #[]) q77 rfl ?_)
    refine .nil (.seqN (.region (.V mv0 ?_)))
    refine .V ag0 ?_
    refine .nil (.blkN ?_)
    exact .RO (j, ar8, d5) ⟨hF.1, q38⟩ hF.2
   refine .open_ (by kernel_rfl) (by kernel_rfl) ?_
   refine .V mv0 ?_
   refine .V mv0 ?_
   obtain ⟨q10, hF⟩ := hF
   refine .V (ixS rfl rfl tS155 (k := 2) rfl (inb_n q10 q4)) ?_
   refine .V (ld1 (v := .pointer (gt l2 j)) rfl tO158 (cellS (k := 2) rfl (flL_get q10 (j := 0) rfl))) ?_
   obtain ⟨q11, hF⟩ := hF
   refine .V (nck (inA.ev q11)) ?_
   refine .V (fa rfl tF161_1) ?_
   refine .V (ld1 (v := iV ((arv ar5 (gt l2 j)).key)) rfl tO3 (cellR (k := 1) (off := 1) rfl (inA.at_ q11) rfl)) ?_
   refine .V mv0 ?_
   refine .V mv0 ?_
   obtain ⟨q12, hF⟩ := hF
   refine .V (ixS rfl rfl tS155 (k := 2) rfl (inb_n q12 q4)) ?_
   refine .V (ld1 (v := .pointer (gt l2 i2)) rfl tO158 (cellS (k := 2) rfl (flL_get q12 (j := 0) rfl))) ?_
   obtain ⟨q13, hF⟩ := hF
   refine .V (nck (inA.ev q13)) ?_
   refine .V (fa rfl tF161_1) ?_
   refine .V (ld1 (v := iV ((arv ar5 (gt l2 i2)).key)) rfl tO3 (cellR (k := 1) (off := 1) rfl (inA.at_ q13) rfl)) ?_
   refine .V bi0 ?_
   refine .V mv0 ?_
   rcases Bool.eq_false_or_eq_true (decide (((arv ar5 (gt l2 j)).key) < ((arv ar5 (gt l2 i2)).key))) with q0 | q0
   ·replace hF := hF.1 q0
    refine .GS q0 ?_
    refine .GS q0 ?_
    refine .GS q0 ?_
    refine .GS q0 ?_
    refine .GS q0 ?_
    refine .GS q0 ?_
    refine .GS q0 ?_
    refine .GS q0 ?_
    refine .GS q0 ?_
    refine .GS q0 ?_
    refine .GS q0 ?_
    refine .GS q0 ?_
    refine .GS q0 ?_
    refine .GS q0 ?_
    refine .GS q0 ?_
    refine .GS q0 ?_
    refine .GU ?_
    refine .GU ?_
    refine .GU ?_
    refine .GU ?_
    refine .GU ?_
    refine .GU ?_
    refine .GU ?_
    refine .GU ?_
    refine .GU ?_
    refine .GU ?_
    refine .GU ?_
    refine .GU ?_
    refine .GU ?_
    refine .GU ?_
    refine .GU ?_
    refine .GS q0 ?_
    refine .V (pkT rfl q0 rfl) ?_
    refine .V ag0 ?_
    refine .fin ?_
    exact .US q33 true hF
   replace hF := hF.2 q0
   refine .GV mv0 q0 ?_
   refine .GV mv0 q0 ?_
   refine .GV (ixS rfl rfl tS155 (k := 2) rfl (inb_n q10 q4)) q0 ?_
   refine .GV (ld1 (v := .pointer (gt l2 j)) rfl tO158 (cellS (k := 2) rfl (flL_get q10 (j := 0) rfl))) q0 ?_
   refine .GV (nck (inA.ev q11)) q0 ?_
   refine .GV (fa rfl tF161_1) q0 ?_
   refine .GV (ld1 (v := iV ((arv ar5 (gt l2 j)).key)) rfl tO3 (cellR (k := 1) (off := 1) rfl (inA.at_ q11) rfl)) q0 ?_
   refine .GV mv0 q0 ?_
   refine .GV mv0 q0 ?_
   refine .GV (ixS rfl rfl tS155 (k := 2) rfl (inb_n q12 q4)) q0 ?_
   refine .GV (ld1 (v := .pointer (gt l2 i2)) rfl tO158 (cellS (k := 2) rfl (flL_get q12 (j := 0) rfl))) q0 ?_
   refine .GV (nck (inA.ev q13)) q0 ?_
   refine .GV (fa rfl tF161_1) q0 ?_
   refine .GV (ld1 (v := iV ((arv ar5 (gt l2 i2)).key)) rfl tO3 (cellR (k := 1) (off := 1) rfl (inA.at_ q13) rfl)) q0 ?_
   refine .GV bi0 q0 ?_
   refine .GV mv0 q0 ?_
   rcases Bool.eq_false_or_eq_true (((arv ar5 (gt l2 j)).key) == ((arv ar5 (gt l2 i2)).key)) with q2 | q2
   ·replace hF := hF.1 q2
    refine .GV mv0 q2 ?_
    refine .GV mv0 q2 ?_
    refine .GV (ixS rfl rfl tS155 (k := 2) rfl (inb_n q10 q4)) q2 ?_
    refine .GV (ld1 (v := .pointer (gt l2 j)) rfl tO158 (cellS (k := 2) rfl (flL_get q10 (j := 0) rfl))) q2 ?_
    refine .GV (nck (inA.ev q11)) q2 ?_
    refine .GV (fa rfl tF161_2) q2 ?_
    refine .GV (ld1 (v := iV ((arv ar5 (gt l2 j)).time)) rfl tO3 (cellR (k := 1) (off := 2) rfl (inA.at_ q11) rfl)) q2 ?_
    refine .GV mv0 q2 ?_
    refine .GV mv0 q2 ?_
    refine .GV (ixS rfl rfl tS155 (k := 2) rfl (inb_n q12 q4)) q2 ?_
    refine .GV (ld1 (v := .pointer (gt l2 i2)) rfl tO158 (cellS (k := 2) rfl (flL_get q12 (j := 0) rfl))) q2 ?_
    refine .GV (nck (inA.ev q13)) q2 ?_
    refine .GV (fa rfl tF161_2) q2 ?_
    refine .GV (ld1 (v := iV ((arv ar5 (gt l2 i2)).time)) rfl tO3 (cellR (k := 1) (off := 2) rfl (inA.at_ q13) rfl)) q2 ?_
    obtain ⟨x4, q61⟩ : ∃ y_ : Bool, y_ = (decide (((arv ar5 (gt l2 j)).time) < ((arv ar5 (gt l2 i2)).time))) := ⟨_, rfl⟩
    replace hF := hF x4 q61
    refine .gv (v := .bool x4) (by rw [q61]; exact bi rfl rfl rfl) rfl rfl rfl q2 rfl rfl ?_
    refine .GV (pkT rfl q2 rfl) q0 ?_
    refine .V (pkF rfl q0 rfl) ?_
    refine .V ag0 ?_
    refine .fin ?_
    exact .US q33 x4 hF
   replace hF := hF.2 q2
   refine .GS q2 ?_
   refine .GS q2 ?_
   refine .GS q2 ?_
   refine .GS q2 ?_
   refine .GS q2 ?_
   refine .GS q2 ?_
   refine .GS q2 ?_
   refine .GS q2 ?_
   refine .GS q2 ?_
   refine .GS q2 ?_
   refine .GS q2 ?_
   refine .GS q2 ?_
   refine .GS q2 ?_
   refine .GS q2 ?_
   refine .GS q2 ?_
   refine .GV (pkF rfl q2 rfl) q0 ?_
   refine .V (pkF rfl q0 rfl) ?_
   refine .V ag0 ?_
   refine .fin ?_
   exact .US q33 false hF
  refine .cond rfl (fun q41 => ?_) (fun q41 => ?_)
  ·replace hF := hF.1 q41
   refine .region (.V mv0 ?_)
   refine .V ag0 ?_
   refine .nil ?_
   exact .US q55 x3 hF
  replace hF := hF.2 q41
  refine .skip ?_
  exact .US q55 (wr ((wr (2 * i2)) + 1)) hF
 refine .region (.V mv0 ?_)
 refine .V mv0 ?_
 obtain ⟨x5, q62⟩ : ∃ y_ : Bool, y_ = (decide (x3 < (wr (((hp2.length : Nat) : Int) - 1)))) := ⟨_, rfl⟩
 replace hF := hF x5 q62
 refine .v (v := .bool x5) (by rw [q62]; exact bi rfl rfl rfl) rfl rfl rfl ?_
 refine .V mv0 ?_
 rcases Bool.eq_false_or_eq_true (x5) with q5 | q5
 ·replace hF := hF.1 q5
  refine .GV mv0 q5 ?_
  refine .GV mv0 q5 ?_
  refine .GV mv0 q5 ?_
  refine .gR rfl rfl rfl q5 ?_
  refine .inlV Tryz.func161 rfl Tryz.ntmps161 Tryz.call161 tm163_Less rfl (cellB (off := 0) (k := 0) rfl rfl) rfl rfl (fun a8 q78 => ?_)
  refine .seq (.region (.V ag0 ?_))
  refine .nil (.seqN ?_)
  refine .share (σ := Bool) (fun z => F_qtake_J5 K hp2 fo x3 ar5 z i2 l2 I1 μ1) (fun z => [(6, .bool z)]) (fun _ => [Box p [vSl ahp hp2 chp, .map (some b), iV tm], Arn ar5, OwnSl 158 1 ahp hp2.length chp (flL l2), OwnMapI b .u32 (fun zE : Option Addr => .pointer zE) fo]) (fun _ => h) ?_ (fun q42 => ?_)
  ·rintro t62 hF
   show J _ _ _ _ _ [(6, .bool t62)] [Box p [vSl ahp hp2 chp, .map (some b), iV tm], Arn ar5, OwnSl 158 1 ahp hp2.length chp (flL l2), OwnMapI b .u32 (fun zE : Option Addr => .pointer zE) fo] h
   refine .ret ?_
   refine .res1 rfl (rvT rfl) (inl_back (v := .bool t62) q78 rfl ?_)
   refine .V (pkT rfl q5 rfl) ?_
   refine .nil ?_
   exact .US q54 t62 hF
  refine .open_ (by kernel_rfl) (by kernel_rfl) ?_
  refine .V mv0 ?_
  refine .V mv0 ?_
  obtain ⟨q14, hF⟩ := hF
  refine .V (ixS rfl rfl tS155 (k := 2) rfl (inb_n q14 q4)) ?_
  refine .V (ld1 (v := .pointer (gt l2 x3)) rfl tO158 (cellS (k := 2) rfl (flL_get q14 (j := 0) rfl))) ?_
  obtain ⟨q15, hF⟩ := hF
  refine .V (nck (inA.ev q15)) ?_
  refine .V (fa rfl tF161_1) ?_
  refine .V (ld1 (v := iV ((arv ar5 (gt l2 x3)).key)) rfl tO3 (cellR (k := 1) (off := 1) rfl (inA.at_ q15) rfl)) ?_
  refine .V mv0 ?_
  refine .V mv0 ?_
  obtain ⟨q16, hF⟩ := hF
  refine .V (ixS rfl rfl tS155 (k := 2) rfl (inb_n q16 q4)) ?_
  refine .V (ld1 (v := .pointer (gt l2 (wr ((wr (2 * i2)) + 1)))) rfl tO158 (cellS (k := 2) rfl (flL_get q16 (j := 0) rfl))) ?_
  obtain ⟨q17, hF⟩ := hF
  refine .V (nck (inA.ev q17)) ?_
  refine .V (fa rfl tF161_1) ?_
  refine .V (ld1 (v := iV ((arv ar5 (gt l2 (wr ((wr (2 * i2)) + 1)))).key)) rfl tO3 (cellR (k := 1) (off := 1) rfl (inA.at_ q17) rfl)) ?_
  obtain ⟨x6, q63⟩ : ∃ y_ : Bool, y_ = (decide (((arv ar5 (gt l2 x3)).key) < ((arv ar5 (gt l2 (wr ((wr (2 * i2)) + 1)))).key))) := ⟨_, rfl⟩
  replace hF := hF x6 q63
  refine .v (v := .bool x6) (by rw [q63]; exact bi rfl rfl rfl) rfl rfl rfl ?_
  refine .V mv0 ?_
  rcases Bool.eq_false_or_eq_true (x6) with q1 | q1
  ·replace hF := hF.1 q1
   refine .GS q1 ?_
   refine .GS q1 ?_
   refine .GS q1 ?_
   refine .GS q1 ?_
   refine .GS q1 ?_
   refine .GS q1 ?_
   refine .GS q1 ?_
   refine .GS q1 ?_
   refine .GS q1 ?_
   refine .GS q1 ?_
   refine .GS q1 ?_
   refine .GS q1 ?_
   refine .GS q1 ?_
   refine .GS q1 ?_
   refine .GS q1 ?_
   refine .GS q1 ?_
   refine .GU ?_
   refine .GU ?_
   refine .GU ?_
   refine .GU ?_
   refine .GU ?_
   refine .GU ?_
   refine .GU ?_
   refine .GU ?_
   refine .GU ?_
   refine .GU ?_
   refine .GU ?_
   refine .GU ?_
   refine .GU ?_
   refine .GU ?_
   refine .GU ?_
   refine .GS q1 ?_
   refine .V (pkT rfl q1 rfl) ?_
   refine .V ag0 ?_
   refine .fin ?_
   exact .US q42 true hF
  replace hF := hF.2 q1
  refine .GV mv0 q1 ?_
  refine .GV mv0 q1 ?_
  refine .GV (ixS rfl rfl tS155 (k := 2) rfl (inb_n q14 q4)) q1 ?_
  refine .GV (ld1 (v := .pointer (gt l2 x3)) rfl tO158 (cellS (k := 2) rfl (flL_get q14 (j := 0) rfl))) q1 ?_
  refine .GV (nck (inA.ev q15)) q1 ?_
  refine .GV (fa rfl tF161_1) q1 ?_
  refine .GV (ld1 (v := iV ((arv ar5 (gt l2 x3)).key)) rfl tO3 (cellR (k := 1) (off := 1) rfl (inA.at_ q15) rfl)) q1 ?_
  refine .GV mv0 q1 ?_
  refine .GV mv0 q1 ?_
  refine .GV (ixS rfl rfl tS155 (k := 2) rfl (inb_n q16 q4)) q1 ?_
  refine .GV (ld1 (v := .pointer (gt l2 (wr ((wr (2 * i2)) + 1)))) rfl tO158 (cellS (k := 2) rfl (flL_get q16 (j := 0) rfl))) q1 ?_
  refine .GV (nck (inA.ev q17)) q1 ?_
  refine .GV (fa rfl tF161_1) q1 ?_
  refine .GV (ld1 (v := iV ((arv ar5 (gt l2 (wr ((wr (2 * i2)) + 1)))).key)) rfl tO3 (cellR (k := 1) (off := 1) rfl (inA.at_ q17) rfl)) q1 ?_
  obtain ⟨x7, q64⟩ : ∃ y_ : Bool, y_ = (((arv ar5 (gt l2 x3)).key) == ((arv ar5 (gt l2 (wr ((wr (2 * i2)) + 1)))).key)) := ⟨_, rfl⟩
  replace hF := hF x7 q64
  refine .gv (v := .bool x7) (by rw [q64]; exact bi rfl rfl rfl) rfl rfl rfl q1 rfl rfl ?_
  refine .GV mv0 q1 ?_
  rcases Bool.eq_false_or_eq_true (x7) with q3 | q3
  ·replace hF := hF.1 q3
   refine .GV mv0 q3 ?_
   refine .GV mv0 q3 ?_
   refine .GV (ixS rfl rfl tS155 (k := 2) rfl (inb_n q14 q4)) q3 ?_
   refine .GV (ld1 (v := .pointer (gt l2 x3)) rfl tO158 (cellS (k := 2) rfl (flL_get q14 (j := 0) rfl))) q3 ?_
   refine .GV (nck (inA.ev q15)) q3 ?_
   refine .GV (fa rfl tF161_2) q3 ?_
   refine .GV (ld1 (v := iV ((arv ar5 (gt l2 x3)).time)) rfl tO3 (cellR (k := 1) (off := 2) rfl (inA.at_ q15) rfl)) q3 ?_
   refine .GV mv0 q3 ?_
   refine .GV mv0 q3 ?_
   refine .GV (ixS rfl rfl tS155 (k := 2) rfl (inb_n q16 q4)) q3 ?_
   refine .GV (ld1 (v := .pointer (gt l2 (wr ((wr (2 * i2)) + 1)))) rfl tO158 (cellS (k := 2) rfl (flL_get q16 (j := 0) rfl))) q3 ?_
   refine .GV (nck (inA.ev q17)) q3 ?_
   refine .GV (fa rfl tF161_2) q3 ?_
   refine .GV (ld1 (v := iV ((arv ar5 (gt l2 (wr ((wr (2 * i2)) + 1)))).time)) rfl tO3 (cellR (k := 1) (off := 2) rfl (inA.at_ q17) rfl)) q3 ?_
   obtain ⟨x8, q65⟩ : ∃ y_ : Bool, y_ = (decide (((arv ar5 (gt l2 x3)).time) < ((arv ar5 (gt l2 (wr ((wr (2 * i2)) + 1)))).time))) := ⟨_, rfl⟩
   replace hF := hF x8 q65
   refine .gv (v := .bool x8) (by rw [q65]; exact bi rfl rfl rfl) rfl rfl rfl q3 rfl rfl ?_
   refine .GV (pkT rfl q3 rfl) q1 ?_
   refine .V (pkF rfl q1 rfl) ?_
   refine .V ag0 ?_
   refine .fin ?_
   exact .US q42 x8 hF
  replace hF := hF.2 q3
  refine .GS q3 ?_
  refine .GS q3 ?_
  refine .GS q3 ?_
  refine .GS q3 ?_
  refine .GS q3 ?_
  refine .GS q3 ?_
  refine .GS q3 ?_
  refine .GS q3 ?_
  refine .GS q3 ?_
  refine .GS q3 ?_
  refine .GS q3 ?_
  refine .GS q3 ?_
  refine .GS q3 ?_
  refine .GS q3 ?_
  refine .GS q3 ?_
  refine .GV (pkF rfl q3 rfl) q1 ?_
  refine .V (pkF rfl q1 rfl) ?_
  refine .V ag0 ?_
  refine .fin ?_
  exact .US q42 false hF
 replace hF := hF.2 q5
 refine .GS q5 ?_
 refine .GS q5 ?_
 refine .GS q5 ?_
 refine .GS q5 ?_
 refine .V (pkF rfl q5 rfl) ?_
 refine .nil ?_
 exact .US q54 false hF
theorem c_qtake {h : FH} {w : World} (hs : Sub h w) (m : List (Int × Int)) (p : Addr) {gX : FH} (ownX : QueX QEnt 158 .u32 (QInv m) p gX) (subX : Sub gX w) (disX : Disj h gX) (hp : pre_qtake m) : Calls Tryz.prog 50 #[.pointer (some p)] w fun e w' => ∃ r : (Int × Int × Bool) × List (Int × Int), po_qtake m r ∧ e = .returned (.tuple #[.int .u32 r.1.1, iV r.1.2.1, .bool r.1.2.2]) ∧ SH (Kp.ex w h gX) h w' [QueX QEnt 158 .u32 (QInv r.2) p] :=
 w_qtake hs m p ownX subX disX (fun r => po_qtake m r) (ok_qtake m hp)
theorem w_qlen {h : FH} {w : World} (hs : Sub h w) (m : List (Int × Int)) (p : Addr) {gX : FH} (ownX : QueX QEnt 158 .u32 (QInv m) p gX) (subX : Sub gX w) (disX : Disj h gX) (K : (Int × List (Int × Int)) → Prop) (hF : F_qlen m K) : Calls Tryz.prog 49 #[.pointer (some p)] w fun e w' => ∃ r : Int × List (Int × Int), K r ∧ e = .returned (iV r.1) ∧ SH (Kp.ex w h gX) h w' [QueX QEnt 158 .u32 (QInv r.2) p] := by
 refine enterX (X := QueX QEnt 158 .u32 (QInv m) p) (args := [vP p]) Tryz.func49 rfl Tryz.ntmps49 rfl hs subX disX ownX ?_
 refine .openQ (fun hp2 fo ar ahp chp b tm q0 => ?_)
 replace hF := hF hp2 fo ar tm q0
 refine .KA [Box p [vSl ahp hp2 chp, .map (some b), iV tm], oL 158 1 ahp hp2 chp, OwnMapI b .u32 (fun zE : Option Addr => .pointer zE) fo, Arn ar] ?_
 refine .seq (.region (.V ag0 ?_))
 refine .nil (.seqN (.seq (.region (.V mv0 ?_))))
 refine .V (nck rfl) ?_
 refine .V (fa rfl tF157_0) ?_
 refine .V (lB 0 0 tO155) ?_
 refine .V (ln rfl tS155.is) ?_
 refine .V ag0 ?_
 refine .nil (.seqN (.ret ?_))
 obtain ⟨m2, q1, hF⟩ := hF
 refine .closeQ (hp := hp2) (inv := QInv m2) q1 ?_
 refine .res1 rfl (rvT rfl) (fun w' S => ⟨(((hp2.length : Nat) : Int), m2), hF, rfl, S.pick (k := 0) rfl⟩)
theorem c_qlen {h : FH} {w : World} (hs : Sub h w) (m : List (Int × Int)) (p : Addr) {gX : FH} (ownX : QueX QEnt 158 .u32 (QInv m) p gX) (subX : Sub gX w) (disX : Disj h gX) : Calls Tryz.prog 49 #[.pointer (some p)] w fun e w' => ∃ r : Int × List (Int × Int), po_qlen m r ∧ e = .returned (iV r.1) ∧ SH (Kp.ex w h gX) h w' [QueX QEnt 158 .u32 (QInv r.2) p] :=
 w_qlen hs m p ownX subX disX (fun r => po_qlen m r) (ok_qlen m)
set_option maxHeartbeats 8000000 in
theorem w_optimal {h : FH} {w : World} (hs : Sub h w) (t : Task) (at_ : Option Addr) (ct : Nat) (_q1 : RSl h at_ t.init) (_q2 : t.init.length ≤ ct) (at_2 : Option Addr) (ct2 : Nat) (_q3 : RSl h at_2 t.goal) (_q4 : t.goal.length ≤ ct2) (at_3 : Option Addr) (ct3 : Nat) (_q5 : RSl h at_3 t.ops) (_q6 : t.ops.length ≤ ct3) (K : (Int × Fault) → Prop) (hF : F_optimal t K) : Calls Tryz.prog 7 #[.agg #[iV t.facts, .slice at_ t.init.length ct, .slice at_2 t.goal.length ct2, .slice at_3 t.ops.length ct3]] w fun e w' => ∃ r : Int × Fault, K r ∧ e = .returned (.tuple #[iV r.1, .agg #[iV r.2.code, iV r.2.index]]) ∧ Below w.heap.size w w' := by
 refine enter (args := [.agg (tF t at_ ct at_2 ct2 at_3 ct3).toArray]) Tryz.func7 rfl Tryz.ntmps7 rfl hs ?_
 refine .seq (.region ?_)
 refine bx (vs := (tF t at_ ct at_2 ct2 at_3 ct3)) rfl rfl rfl (fun pt => ?_)
 refine .V ag0 ?_
 refine al tZ27 rfl (fun pv => ?_)
 refine .nil (.seqN (.seq (.region (.V (ldA (cs := (tF t at_ ct at_2 ct2 at_3 ct3)) rfl tA25 rfl (cellsB (off := 0) (k := 1) rfl (m := 4) rfl)) ?_))))
 refine .inl Tryz.func20 rfl Tryz.ntmps20 Tryz.call20 rfl rfl rfl rfl (fun a q3 => ?_)
 refine .seq (.region ?_)
 refine bx (vs := (tF t at_ ct at_2 ct2 at_3 ct3)) rfl rfl rfl (fun pt2 => ?_)
 refine .V ag0 ?_
 refine .V ag0 ?_
 refine al tZ27 rfl (fun pv2 => ?_)
 refine .nil (.seqN (.seq (.seq (.region (.V (ldA (cs := (tF t at_ ct at_2 ct2 at_3 ct3)) rfl tA25 rfl (cellsB (off := 0) (k := 1) rfl (m := 4) rfl)) ?_)))))
 obtain ⟨r2, q22⟩ : ∃ y_ : Fault, y_ = sp_validate t := ⟨_, rfl⟩
 replace hF := hF r2 q22
 refine .C (cl (v := .agg #[iV r2.code, iV r2.index]) Tryz.call15 rfl rfl (fun w S => (by rw [q22]; exact c_validate S.sub t at_ ct _q1 _q2 at_2 ct2 _q3 _q4 at_3 ct3 _q5 _q6 ))) ?_
 refine al tZ27 rfl (fun pf => ?_)
 refine st (p := pf) (off := 0) (k := 0) (vs := [iV r2.code, iV r2.index]) rfl rfl rfl (fun w => (tA27 w).2) rfl rfl rfl rfl ?_
 refine .nil (.seqN (.seq (.region (.V (ldA (cs := [iV r2.code, iV r2.index]) rfl tA27 rfl (cellsB (off := 0) (k := 0) rfl (m := 2) rfl)) ?_))))
 refine .V (bld (cs := #[iV 0, iV 0]) (pv := []) tB27 rfl rfl) ?_
 refine .V (ne2 tE27 rfl rfl) ?_
 refine .nil (.seqN ?_)
 refine .cond rfl (fun q1 => ?_) (fun q1 => ?_)
 ·replace hF := hF.1 q1
  refine .seq ?_
  refine .OA (s0 := [(4, vP pv2), (5, vP pf)]) [0, 1, 2] [(0, .agg #[iV r2.code, iV r2.index]), (1, .pointer none), (2, .slice none 0 0)] [4, 5] [] ?_
  refine .ST [3] 3 (.w [] rfl (ldA (cs := [iV r2.code, iV r2.index]) rfl tA27 rfl (cellsB (off := 0) (k := 0) rfl (m := 2) rfl)) (.w [] rfl ag0 (.w [(2, .pointer none), (2, .pointer none)] rfl ag0 (.nil)))) (.cons [(14, .agg #[iV r2.code, iV r2.index]), (3, .slice none 0 0), (14, .agg #[iV r2.code, iV r2.index]), (2, .pointer none), (3, .slice none 0 0)] rfl rfl (fun sL hL => ?_) (.nil))
  refine st (p := pv2) (off := 0) (k := 1) (vs := [iV r2.code, iV r2.index]) rfl rfl rfl (fun w => (tA27 w).2) rfl rfl rfl rfl ?_
  refine .nil ?_
  refine .jaN (M := [0, 2, 1]) (C' := []) (pre := []) [4, 5] hL rfl rfl rfl rfl rfl (by kernel_rfl) ?_
  refine .LA [(14, .agg #[iV r2.code, iV r2.index]), (2, .pointer none), (3, .slice none 0 0)] (.nil) ?_
  refine .seqN (.ret (.seqR ?_))
  refine .res3 rfl (rvT rfl) (rvT rfl) (rvC rfl tA27 (k := 1) rfl rfl) (inl_back (v := .tuple #[.pointer none, .slice none 0 0, .agg #[iV r2.code, iV r2.index]]) q3 rfl ?_)
  refine .V mv0 ?_
  refine .V (ext rfl rfl) ?_
  refine .V (ext rfl rfl) ?_
  refine .V (ext rfl rfl) ?_
  refine al tZ27 rfl (fun pf2 => ?_)
  refine .V ag0 ?_
  refine .V ag0 ?_
  refine st (p := pf2) (off := 0) (k := 0) (vs := [iV r2.code, iV r2.index]) rfl rfl rfl (fun w => (tA27 w).2) rfl rfl rfl rfl ?_
  refine .nil (.seqN (.seq (.seq (.region (.V (ldA (cs := [iV r2.code, iV r2.index]) rfl tA27 rfl (cellsB (off := 0) (k := 0) rfl (m := 2) rfl)) ?_)))))
  refine .V (bld (cs := #[iV 0, iV 0]) (pv := []) tB27 rfl rfl) ?_
  refine .V (ne2 tE27 rfl rfl) ?_
  refine .nil (.seqN ?_)
  refine .cond rfl (fun _ => ?_) (fun e => absurd (e.symm.trans q1) (by decide))
  refine .seq ?_
  refine .openL (by kernel_rfl) rfl (by kernel_rfl) (by kernel_rfl) ?_
  refine .V (ldA (cs := [iV r2.code, iV r2.index]) rfl tA27 rfl (cellsB (off := 0) (k := 0) rfl (m := 2) rfl)) ?_
  refine .V ag0 ?_
  refine .tail ?_
  refine st (p := pv) (off := 0) (k := 4) (vs := [iV r2.code, iV r2.index]) rfl rfl rfl (fun w => (tA27 w).2) rfl rfl rfl rfl ?_
  refine .nil (.seqN (.ret (.seqR ?_)))
  refine .res2 rfl (rvT rfl) (rvC rfl tA27 (k := 4) rfl rfl) (fun w' S => ⟨(0, r2), hF, rfl, S.below⟩)
 replace hF := hF.2 q1
 refine .skip (.seqN (.seq (.region (.V (ldA (cs := (tF t at_ ct at_2 ct2 at_3 ct3)) rfl tA25 rfl (cellsB (off := 0) (k := 2) rfl (m := 4) rfl)) ?_))))
 refine .inl Tryz.func40 rfl Tryz.ntmps40 Tryz.call40 rfl rfl rfl rfl (fun a2 q47 => ?_)
 refine .seq (.region ?_)
 refine bx (vs := (tF t at_ ct at_2 ct2 at_3 ct3)) rfl rfl rfl (fun pt3 => ?_)
 refine .V ag0 ?_
 refine .nil (.seqN (.seq ?_))
 obtain ⟨q48, hF⟩ := hF
 obtain ⟨r3, q23⟩ : ∃ y_ : Int, y_ = sp_word t.init := ⟨_, rfl⟩
 replace hF := hF r3 q23
 obtain ⟨q49, hF⟩ := hF
 obtain ⟨r4, q24⟩ : ∃ y_ : Int, y_ = sp_word t.goal := ⟨_, rfl⟩
 replace hF := hF r4 q24
 refine .OA (s0 := [(1, vP pt3)]) [0, 1, 2, 3, 4, 5, 6] [(0, vP (pt3.add 1)), (1, vSl at_ t.init ct), (2, .int .u32 r3), (3, vP (pt3.add 2)), (4, vSl at_2 t.goal ct2), (5, .int .u32 r4), (6, .agg #[.int .u32 r3, .int .u32 r4, .slice none 0 0])] [1] [] ?_
 refine .ST [7] 7 (.w [] rfl (fa rfl tF25_1) (.w [(6, vP (pt3.add 1))] rfl (lB 1 0 tO22) (.c [(7, vSl at_ t.init ct)] rfl rfl rfl rfl rfl rfl (fun _ => cl (v := .int .u32 r3) Tryz.call76 rfl rfl (fun w S => (by rw [q23]; exact c_word S.sub t.init at_ ct _q1 _q2 q48))) (.w [] rfl (fa rfl tF25_2) (.w [(9, vP (pt3.add 2))] rfl (lB 2 0 tO22) (.c [(10, vSl at_2 t.goal ct2), (8, .int .u32 r3)] rfl rfl rfl rfl rfl rfl (fun _ => cl (v := .int .u32 r4) Tryz.call76 rfl rfl (fun w S => (by rw [q24]; exact c_word S.sub t.goal at_2 ct2 _q3 _q4 q49))) (.w [(8, .int .u32 r3), (11, .int .u32 r4)] rfl (bld (cs := #[.int .u32 r3, .int .u32 r4, .slice none 0 0]) (pv := [(0, .int .u32 r3), (1, .int .u32 r4)]) tB105 rfl rfl) (.nil)))))))) (.cons [(12, .agg #[.int .u32 r3, .int .u32 r4, .slice none 0 0])] rfl rfl (fun sL hL => ?_) (.nil))
 refine bx (vs := [.int .u32 r3, .int .u32 r4, .slice none 0 0]) rfl rfl rfl (fun pv3 => ?_)
 refine .nil ?_
 refine .ja (M := [6, 2, 5, 1, 4, 0, 3]) (C' := [8]) (pre := [(7, vP pv3), (8, vP pv3)]) [(1, vP pt3)] [1] hL rfl rfl rfl rfl rfl sb rfl rfl (by kernel_rfl) ?_
 refine .LA [(6, vP (pt3.add 1)), (7, vSl at_ t.init ct), (8, .int .u32 r3), (9, vP (pt3.add 2)), (10, vSl at_2 t.goal ct2), (11, .int .u32 r4), (12, .agg #[.int .u32 r3, .int .u32 r4, .slice none 0 0]), (13, vP pv3), (3, vP pv3)] (.w [(13, vP pv3), (11, .int .u32 r4), (6, vP (pt3.add 1)), (7, vSl at_ t.init ct), (8, .int .u32 r3), (9, vP (pt3.add 2)), (10, vSl at_2 t.goal ct2), (11, .int .u32 r4), (12, .agg #[.int .u32 r3, .int .u32 r4, .slice none 0 0]), (13, vP pv3)] rfl ag0 (.nil)) ?_
 refine .seqN (.seq (.seq (.region (.V (fa rfl tF25_3) ?_))))
 refine .V (lB 3 1 tO23) ?_
 refine .V (ln rfl tS23.is) ?_
 refine .V mv0 ?_
 refine .nil (.seqN (.block ?_))
 refine .nilSl 144 4 ?_
 refine .KA [oL 144 4 none ([] : List Masks) 0, Box pv3 [.int .u32 r3, .int .u32 r4, .slice none 0 0], Box pt3 (tF t at_ ct at_2 ct2 at_3 ct3), Box pf [iV r2.code, iV r2.index], Box pv2 [iV 0, iV 0], Box pt2 (tF t at_ ct at_2 ct2 at_3 ct3), Box pv [iV 0, iV 0], Box pt (tF t at_ ct at_2 ct2 at_3 ct3)] ?_
 refine .sel0 [1, 6, 4, 0] (by decide) rfl ?_
 obtain ⟨I1, μ1, q4, q50⟩ := hF
 refine .loop' (σ := Int × List Masks × Option Addr × Nat) (fun z => I1 z.1 z.2.1) (fun z => μ1 z.1 z.2.1) (fun z => [(3, vP pv3), (15, vSl at_3 t.ops ct3), (16, iV ((t.ops.length : Nat) : Int)), (17, iV z.1)]) (fun z => [Box pv3 [.int .u32 r3, .int .u32 r4, vSl z.2.2.1 z.2.1 z.2.2.2], Box pv [iV 0, iV 0], Box pv2 [iV 0, iV 0], oL 144 4 z.2.2.1 z.2.1 z.2.2.2]) (fun _ => h) (0, ([] : List Masks), none, 0) q4 sb rfl (FH.le_refl _) ?_
 rintro ⟨t17, l, al2, cl2⟩ q4
 have hF := q50 t17 l q4
 show J _ _ _ _ _ [(3, vP pv3), (15, vSl at_3 t.ops ct3), (16, iV ((t.ops.length : Nat) : Int)), (17, iV t17)] [Box pv3 [.int .u32 r3, .int .u32 r4, vSl al2 l cl2], Box pv [iV 0, iV 0], Box pv2 [iV 0, iV 0], oL 144 4 al2 l cl2] h
 refine .seq (.region (.V bi0 ?_))
 refine .nil (.seqN (.seq ?_))
 refine .cond rfl (fun q5 => ?_) (fun q5 => ?_)
 ·replace hF := hF.1 q5
  refine .skip (.seqN (.seq (.block (.seq (.region ?_)))))
  obtain ⟨q6, hF⟩ := hF
  refine .V (ix rfl rfl tS23 (_q5.ne (by decide) (inb_pos q6)) q6) ?_
  obtain ⟨_, ⟨a3, c, a4, c2, a5, c3, rfl, ⟨q51, q52⟩, ⟨q53, q54⟩, q55, q56⟩, q57⟩ := _q5.elem q6
  refine .V (ldA (cs := [.slice a3 ((gt t.ops t17).pre.length) c, .slice a4 ((gt t.ops t17).add.length) c2, .slice a5 ((gt t.ops t17).del.length) c3, iV ((gt t.ops t17).cost)]) rfl tA52 rfl (cellsH (q57 (by decide)))) ?_
  refine al tZ52 rfl (fun po => ?_)
  refine st (p := po) (off := 0) (k := 0) (vs := [.slice a3 ((gt t.ops t17).pre.length) c, .slice a4 ((gt t.ops t17).add.length) c2, .slice a5 ((gt t.ops t17).del.length) c3, iV ((gt t.ops t17).cost)]) rfl rfl rfl (fun w => (tA52 w).2) rfl rfl rfl rfl ?_
  refine .nil (.seqN ?_)
  obtain ⟨q58, hF⟩ := hF
  obtain ⟨r5, q25⟩ : ∃ y_ : Int, y_ = sp_word ((gt t.ops t17).pre) := ⟨_, rfl⟩
  replace hF := hF r5 q25
  obtain ⟨q59, hF⟩ := hF
  obtain ⟨r6, q26⟩ : ∃ y_ : Int, y_ = sp_word ((gt t.ops t17).add) := ⟨_, rfl⟩
  replace hF := hF r6 q26
  obtain ⟨q60, hF⟩ := hF
  obtain ⟨r7, q27⟩ : ∃ y_ : Int, y_ = sp_word ((gt t.ops t17).del) := ⟨_, rfl⟩
  replace hF := hF r7 q27
  refine .OA (s0 := [(3, vP pv3), (5, vP po), (15, vSl at_3 t.ops ct3), (16, iV ((t.ops.length : Nat) : Int)), (17, iV t17)]) [0, 1, 2, 3, 4, 5, 6, 7, 8, 9, 10, 11, 12, 13, 14, 15, 16] [(0, vP pv3), (1, vP pv3), (2, vP pv3), (3, vP (pv3.add 2)), (4, vSl al2 l cl2), (5, vP (po.add 0)), (6, .slice a3 ((gt t.ops t17).pre.length) c), (7, .int .u32 r5), (8, vP (po.add 1)), (9, .slice a4 ((gt t.ops t17).add.length) c2), (10, .int .u32 r6), (11, vP (po.add 2)), (12, .slice a5 ((gt t.ops t17).del.length) c3), (13, .int .u32 r7), (14, vP (po.add 3)), (15, iV ((gt t.ops t17).cost)), (16, .agg #[.int .u32 r5, .int .u32 r6, .int .u32 r7, iV ((gt t.ops t17).cost)])] [3, 5, 15, 16, 17] [] ?_
  refine .ST [17] 17 (.w [] rfl mv0 (.w [] rfl mv0 (.w [(22, vP pv3)] rfl (nck rfl) (.w [(23, vP pv3)] rfl (fa rfl tF105_2) (.w [(24, vP (pv3.add 2))] rfl (lB 2 1 tO103) (.w [] rfl (fa rfl tF52_0) (.w [(26, vP (po.add 0))] rfl (lB 0 0 tO22) (.c [(27, .slice a3 ((gt t.ops t17).pre.length) c)] rfl rfl rfl rfl rfl rfl (fun _ => cl (v := .int .u32 r5) Tryz.call76 rfl rfl (fun w S => (by rw [q25]; exact c_word S.sub ((gt t.ops t17).pre) a3 c q52 q51 q58))) (.w [] rfl (fa rfl tF52_1) (.w [(29, vP (po.add 1))] rfl (lB 1 0 tO22) (.c [(30, .slice a4 ((gt t.ops t17).add.length) c2), (28, .int .u32 r5)] rfl rfl rfl rfl rfl rfl (fun _ => cl (v := .int .u32 r6) Tryz.call76 rfl rfl (fun w S => (by rw [q26]; exact c_word S.sub ((gt t.ops t17).add) a4 c2 q54 q53 q59))) (.w [] rfl (fa rfl tF52_2) (.w [(32, vP (po.add 2))] rfl (lB 2 0 tO22) (.c [(33, .slice a5 ((gt t.ops t17).del.length) c3), (31, .int .u32 r6)] rfl rfl rfl rfl rfl rfl (fun _ => cl (v := .int .u32 r7) Tryz.call76 rfl rfl (fun w S => (by rw [q27]; exact c_word S.sub ((gt t.ops t17).del) a5 c3 q56 q55 q60))) (.w [] rfl (fa rfl tF52_3) (.w [(35, vP (po.add 3))] rfl (lB 3 0 tO3) (.w [(28, .int .u32 r5), (31, .int .u32 r6), (34, .int .u32 r7), (36, iV ((gt t.ops t17).cost))] rfl (bld (cs := #[.int .u32 r5, .int .u32 r6, .int .u32 r7, iV ((gt t.ops t17).cost)]) (pv := [(0, .int .u32 r5), (1, .int .u32 r6), (2, .int .u32 r7), (3, iV ((gt t.ops t17).cost))]) tB144 rfl rfl) (.nil)))))))))))))))))) (.cons [(37, .agg #[.int .u32 r5, .int .u32 r6, .int .u32 r7, iV ((gt t.ops t17).cost)])] rfl rfl (fun sL hL => ?_) (.nil))
  refine bs2 (cs := #[.int .u32 r5, .int .u32 r6, .int .u32 r7, iV ((gt t.ops t17).cost)]) (pv := [(0, .agg #[.int .u32 r5, .int .u32 r6, .int .u32 r7, iV ((gt t.ops t17).cost)])]) tS103 rfl rfl (by decide) (by decide) rfl rfl rfl (fun a6 _ => ?_)
  refine .nil ?_
  refine .ja (M := [16, 7, 10, 13, 15, 6, 9, 12, 14, 5, 8, 11]) (C' := [0, 1, 2, 3, 4]) (pre := [(17, vSl a6 ([(⟨r5, r6, r7, (gt t.ops t17).cost⟩ : Masks)] : List Masks) 1)]) [(3, vP pv3), (5, vP po), (15, vSl at_3 t.ops ct3), (16, iV ((t.ops.length : Nat) : Int)), (17, iV t17)] [3, 5, 15, 16, 17] hL rfl rfl rfl rfl rfl sb rfl rfl (by kernel_rfl) ?_
  refine .ST [18] 18 (.w [] rfl mv0 (.w [] rfl mv0 (.w [(22, vP pv3)] rfl (nck rfl) (.w [(23, vP pv3)] rfl (fa rfl tF105_2) (.w [(24, vP (pv3.add 2))] rfl (lB 2 2 tO103) (.nil)))))) (.cons [(25, vSl al2 l cl2), (38, vSl a6 ([(⟨r5, r6, r7, (gt t.ops t17).cost⟩ : Masks)] : List Masks) 1), (34, .int .u32 r7)] rfl rfl (fun sL hL => ?_) (.nil))
  obtain ⟨q28, hF⟩ := hF
  have q7 : l.length + ([(⟨r5, r6, r7, (gt t.ops t17).cost⟩ : Masks)] : List Masks).length = ((l ++ ([(⟨r5, r6, r7, (gt t.ops t17).cost⟩ : Masks)] : List Masks))).length := len_app rfl rfl
  refine app (k := 5) (news := flL ([(⟨r5, r6, r7, (gt t.ops t17).cost⟩ : Masks)] : List Masks)) (cs' := flL (l ++ ([(⟨r5, r6, r7, (gt t.ops t17).cost⟩ : Masks)] : List Masks))) (nm := ((l ++ ([(⟨r5, r6, r7, (gt t.ops t17).cost⟩ : Masks)] : List Masks))).length) tS103 rfl (by decide) rfl rfl rfl ((flL_len _).trans rfl) (srcS (k := 0) rfl) (flL_one _) (room_of q7 q28).1 (room_of q7 q28).2 q7 (flL_append _ _).symm rfl (fun a7 c4 => ?_)
  refine .nil ?_
  refine .ja (M := [4, 3, 2, 1]) (C' := [0, 19, 20]) (pre := [(18, vSl a7 (l ++ ([(⟨r5, r6, r7, (gt t.ops t17).cost⟩ : Masks)] : List Masks)) c4), (19, vP pv3), (20, vP (pv3.add 2))]) [(3, vP pv3), (5, vP po), (15, vSl at_3 t.ops ct3), (16, iV ((t.ops.length : Nat) : Int)), (17, iV t17)] [3, 5, 15, 16, 17] hL rfl rfl rfl rfl rfl sb rfl rfl (by kernel_rfl) ?_
  refine .ST [21] 21 (.w [] rfl mv0 (.w [(21, vP pv3), (21, vP pv3), (22, vP pv3), (23, vP pv3), (24, vP (pv3.add 2)), (25, vSl al2 l cl2), (26, vP (po.add 0)), (27, .slice a3 ((gt t.ops t17).pre.length) c), (28, .int .u32 r5), (29, vP (po.add 1)), (30, .slice a4 ((gt t.ops t17).add.length) c2), (31, .int .u32 r6), (32, vP (po.add 2)), (33, .slice a5 ((gt t.ops t17).del.length) c3), (34, .int .u32 r7), (35, vP (po.add 3)), (36, iV ((gt t.ops t17).cost)), (37, .agg #[.int .u32 r5, .int .u32 r6, .int .u32 r7, iV ((gt t.ops t17).cost)]), (38, vSl a6 ([(⟨r5, r6, r7, (gt t.ops t17).cost⟩ : Masks)] : List Masks) 1), (39, vSl a7 (l ++ ([(⟨r5, r6, r7, (gt t.ops t17).cost⟩ : Masks)] : List Masks)) c4)] rfl (nck rfl) (.w [(40, vP pv3), (21, vP pv3), (22, vP pv3), (23, vP pv3), (24, vP (pv3.add 2)), (25, vSl al2 l cl2), (26, vP (po.add 0)), (27, .slice a3 ((gt t.ops t17).pre.length) c), (28, .int .u32 r5), (29, vP (po.add 1)), (30, .slice a4 ((gt t.ops t17).add.length) c2), (31, .int .u32 r6), (32, vP (po.add 2)), (33, .slice a5 ((gt t.ops t17).del.length) c3), (34, .int .u32 r7), (35, vP (po.add 3)), (36, iV ((gt t.ops t17).cost)), (37, .agg #[.int .u32 r5, .int .u32 r6, .int .u32 r7, iV ((gt t.ops t17).cost)]), (38, vSl a6 ([(⟨r5, r6, r7, (gt t.ops t17).cost⟩ : Masks)] : List Masks) 1), (39, vSl a7 (l ++ ([(⟨r5, r6, r7, (gt t.ops t17).cost⟩ : Masks)] : List Masks)) c4)] rfl (fa rfl tF105_2) (.nil)))) (.cons [(41, vP (pv3.add 2)), (39, vSl a7 (l ++ ([(⟨r5, r6, r7, (gt t.ops t17).cost⟩ : Masks)] : List Masks)) c4), (39, vSl a7 (l ++ ([(⟨r5, r6, r7, (gt t.ops t17).cost⟩ : Masks)] : List Masks)) c4), (21, vP pv3), (22, vP pv3), (23, vP pv3), (24, vP (pv3.add 2)), (25, vSl al2 l cl2), (26, vP (po.add 0)), (27, .slice a3 ((gt t.ops t17).pre.length) c), (28, .int .u32 r5), (29, vP (po.add 1)), (30, .slice a4 ((gt t.ops t17).add.length) c2), (31, .int .u32 r6), (32, vP (po.add 2)), (33, .slice a5 ((gt t.ops t17).del.length) c3), (34, .int .u32 r7), (35, vP (po.add 3)), (36, iV ((gt t.ops t17).cost)), (37, .agg #[.int .u32 r5, .int .u32 r6, .int .u32 r7, iV ((gt t.ops t17).cost)]), (38, vSl a6 ([(⟨r5, r6, r7, (gt t.ops t17).cost⟩ : Masks)] : List Masks) 1), (39, vSl a7 (l ++ ([(⟨r5, r6, r7, (gt t.ops t17).cost⟩ : Masks)] : List Masks)) c4)] rfl rfl (fun sL hL => ?_) (.nil))
  refine st (p := pv3) (off := 2) (k := 2) (vs := [vSl a7 (l ++ ([(⟨r5, r6, r7, (gt t.ops t17).cost⟩ : Masks)] : List Masks)) c4]) rfl rfl rfl (fun w => (tO103 w).2) rfl rfl rfl rfl ?_
  refine .nil ?_
  refine .jaN (M := [20, 0, 19]) (C' := []) (pre := []) [3, 5, 15, 16, 17] hL rfl rfl rfl rfl rfl (by kernel_rfl) ?_
  refine .LA [(21, vP pv3), (22, vP pv3), (23, vP pv3), (24, vP (pv3.add 2)), (25, vSl al2 l cl2), (26, vP (po.add 0)), (27, .slice a3 ((gt t.ops t17).pre.length) c), (28, .int .u32 r5), (29, vP (po.add 1)), (30, .slice a4 ((gt t.ops t17).add.length) c2), (31, .int .u32 r6), (32, vP (po.add 2)), (33, .slice a5 ((gt t.ops t17).del.length) c3), (34, .int .u32 r7), (35, vP (po.add 3)), (36, iV ((gt t.ops t17).cost)), (37, .agg #[.int .u32 r5, .int .u32 r6, .int .u32 r7, iV ((gt t.ops t17).cost)]), (38, vSl a6 ([(⟨r5, r6, r7, (gt t.ops t17).cost⟩ : Masks)] : List Masks) 1), (39, vSl a7 (l ++ ([(⟨r5, r6, r7, (gt t.ops t17).cost⟩ : Masks)] : List Masks)) c4), (40, vP pv3), (41, vP (pv3.add 2))] (.nil) ?_
  refine .blkN (.seqN (.region (.V bi0 ?_)))
  refine .V mv0 ?_
  refine .nil ?_
  refine .sel0 [2, 3, 4, 5] (by decide) rfl ?_
  exact .RO (wr (t17 + 1), (l ++ ([(⟨r5, r6, r7, (gt t.ops t17).cost⟩ : Masks)] : List Masks)), a7, c4) hF.1 hF.2
 replace hF := hF.2 q5
 refine .exit (.seqX (.seqX (.blkX (.seqN (.seq (.region (.V mv0 ?_)))))))
 refine .V ag0 ?_
 refine .nil (.seqN (.ret ?_))
 refine .res1 rfl (rvT rfl) (inl_back (v := .pointer (some pv3)) q47 rfl ?_)
 refine .V ag0 ?_
 refine .nil (.seqN (.seq (.region (.V mv0 ?_))))
 refine .V (mkI tC56 rfl) ?_
 obtain ⟨q61, hF⟩ := hF
 obtain ⟨r8, q29⟩ : ∃ y_ : List Int × Bool, y_ = sp_all (⟨r3, r4, l⟩ : WordsT) := ⟨_, rfl⟩
 replace hF := hF r8 q29
 refine clO (α := Option Addr × Nat) (V := fun z => .tuple #[vSl z.1 r8.1 z.2, .bool r8.2]) (Ψ := fun z => True) (B := fun z => [OwnSl 62 1 z.1 r8.1.length z.2 (flL (α := W32) r8.1)]) Tryz.call41 rfl rfl (fun w S => (by rw [q29]; obtain ⟨h0_, l0_, S0_, b0_⟩ := freezeB S (k := 0) rfl; obtain ⟨h1_, l1_, S1_, b1_, c1_⟩ := freezeSl S0_ (k := 3) rfl; have hl_ := (FH.le_trans l0_ l1_); have hs_ := S1_.sub; exact (c_all hs_ (⟨r3, r4, l⟩ : WordsT) al2 cl2 (RSl.of b1_) c1_ pv3 (b0_.mono l1_) q61).mono fun _ _ ⟨z, h0, h1, e1, e2, e3, e4⟩ => ⟨z, h0, h1, e1, e2, FH.le_trans hl_ e3, e4⟩)) rfl (fun z _ => ?_)
 obtain ⟨a8, c5⟩ := z
 refine .V mv0 ?_
 refine .V (ext rfl rfl) ?_
 refine .V (ext rfl rfl) ?_
 refine .V ag0 ?_
 refine .V ag0 ?_
 refine .nil (.seqN (.seq (.seq (.region (.V mv0 ?_)))))
 refine .V (nt rfl) ?_
 refine .nil (.seqN ?_)
 refine .cond rfl (fun q8 => ?_) (fun q8 => ?_)
 ·replace hF := hF.1 q8
  refine .seq (.region (.V (bld (cs := #[iV 10, iV (-7)]) (pv := [(0, iV 10), (1, iV (-7))]) tB27 rfl rfl) ?_))
  refine .V ag0 ?_
  refine .V ag0 ?_
  refine st (p := pv2) (off := 0) (k := 3) (vs := [iV 10, iV (-7)]) rfl rfl rfl (fun w => (tA27 w).2) rfl rfl rfl rfl ?_
  refine .nil (.seqN (.ret (.seqR ?_)))
  refine .res3 rfl (rvT rfl) (rvT rfl) (rvC rfl tA27 (k := 3) rfl rfl) (inl_back (v := .tuple #[.pointer none, .slice none 0 0, .agg #[iV 10, iV (-7)]]) q3 rfl ?_)
  refine .V mv0 ?_
  refine .V (ext rfl rfl) ?_
  refine .V (ext rfl rfl) ?_
  refine .V (ext rfl rfl) ?_
  refine al tZ27 rfl (fun pf3 => ?_)
  refine .V ag0 ?_
  refine .V ag0 ?_
  refine st (p := pf3) (off := 0) (k := 0) (vs := [iV 10, iV (-7)]) rfl rfl rfl (fun w => (tA27 w).2) rfl rfl rfl rfl ?_
  refine .nil (.seqN (.seq (.seq (.region (.V (ldA (cs := [iV 10, iV (-7)]) rfl tA27 rfl (cellsB (off := 0) (k := 0) rfl (m := 2) rfl)) ?_)))))
  refine .V (bld (cs := #[iV 0, iV 0]) (pv := []) tB27 rfl rfl) ?_
  refine .V (ne2 tE27 rfl rfl) ?_
  refine .nil (.seqN ?_)
  refine .cond rfl (fun _ => ?_) (fun e => absurd e (by decide))
  refine .seq ?_
  refine .openL (by kernel_rfl) rfl (by kernel_rfl) (by kernel_rfl) ?_
  refine .V (ldA (cs := [iV 10, iV (-7)]) rfl tA27 rfl (cellsB (off := 0) (k := 0) rfl (m := 2) rfl)) ?_
  refine .V ag0 ?_
  refine .tail ?_
  refine st (p := pv) (off := 0) (k := 3) (vs := [iV 10, iV (-7)]) rfl rfl rfl (fun w => (tA27 w).2) rfl rfl rfl rfl ?_
  refine .nil (.seqN (.ret (.seqR ?_)))
  refine .res2 rfl (rvT rfl) (rvC rfl tA27 (k := 3) rfl rfl) (fun w' S => ⟨(0, (⟨10, (-7)⟩ : Fault)), hF, rfl, S.below⟩)
 replace hF := hF.2 q8
 refine .skip (.seqN (.seq (.region (.V mv0 ?_))))
 obtain ⟨q62, hF⟩ := hF
 obtain ⟨r9, q9⟩ : ∃ y_ : List Int, y_ = sp_sortW r8.1 := ⟨_, rfl⟩
 replace hF := hF r9 q9
 refine callX (k := 0) (v := .tuple #[]) (X' := OwnSl 62 1 a8 r8.1.length c5 (flL (α := W32) r9)) rfl Tryz.call42 rfl rfl (fun w g hx sg hd hs' => ?_) rfl ?_
 ·rw [q9]; exact c_sortW hs' r8.1 a8 c5 hx sg hd q62
 have q63 : r9.length = r8.1.length := by rw [q9]; exact (sortW_len r8.1).trans rfl
 refine .nil (.seqN (.seq (.region (.V mv0 ?_))))
 refine .V mv0 ?_
 refine .V (bld (cs := #[iV 0, iV 0]) (pv := []) tB27 rfl rfl) ?_
 refine .V ag0 ?_
 refine .V ag0 ?_
 refine st (p := pv2) (off := 0) (k := 3) (vs := [iV 0, iV 0]) rfl rfl rfl (fun w => (tA27 w).2) rfl rfl rfl rfl ?_
 refine .nil (.seqN (.ret ?_))
 refine .res3 rfl (rvT rfl) (rvT rfl) (rvC rfl tA27 (k := 3) rfl rfl) (inl_back (v := .tuple #[.pointer (some pv3), .slice a8 r8.1.length c5, .agg #[iV 0, iV 0]]) q3 rfl ?_)
 refine .V mv0 ?_
 refine .V (ext rfl rfl) ?_
 refine .V (ext rfl rfl) ?_
 refine .V (ext rfl rfl) ?_
 refine al tZ27 rfl (fun pf4 => ?_)
 refine .V ag0 ?_
 refine .V ag0 ?_
 refine st (p := pf4) (off := 0) (k := 0) (vs := [iV 0, iV 0]) rfl rfl rfl (fun w => (tA27 w).2) rfl rfl rfl rfl ?_
 refine .nil (.seqN (.seq (.seq (.region (.V (ldA (cs := [iV 0, iV 0]) rfl tA27 rfl (cellsB (off := 0) (k := 0) rfl (m := 2) rfl)) ?_)))))
 refine .V (bld (cs := #[iV 0, iV 0]) (pv := []) tB27 rfl rfl) ?_
 refine .V (ne2 tE27 rfl rfl) ?_
 refine .nil (.seqN ?_)
 refine .cond rfl (fun e => absurd e (by decide)) (fun _ => ?_)
 refine .skip (.seqN (.seq (.region (.V mv0 ?_))))
 refine .V mv0 ?_
 refine .inlM Tryz.func21 rfl Tryz.ntmps21 Tryz.call21 rfl rfl rfl rfl (fun a9 q64 => ?_)
 refine .mk0 ?_
 refine .KA [MkA [], Box pf4 [iV 0, iV 0], OwnSl 62 1 a8 r8.1.length c5 (flL (α := W32) r9), Box pv3 [.int .u32 r3, .int .u32 r4, vSl al2 l cl2], Box pv [iV 0, iV 0], Box pv2 [iV 0, iV 0], oL 144 4 al2 l cl2] ?_
 refine .seq (.region (.V ag0 ?_))
 refine .nil (.seqN (.seq (.region ?_)))
 refine mmI .u32 (fun v : Value => v) rfl (fun bv => ?_)
 refine .mapS Arc (q := 0) 99 rfl ?_
 refine al tZ87 rfl (fun pback => ?_)
 refine st (p := pback) (off := 0) (k := 0) (vs := [.map (some bv)]) rfl rfl rfl (fun w => (tO87 w).2) rfl rfl rfl rfl ?_
 refine .KA [Box pback [.map (some bv)], OwnMapS bv .u32 99 ([] : List (Int × List Arc)), MkA [], Box pf4 [iV 0, iV 0], OwnSl 62 1 a8 r8.1.length c5 (flL (α := W32) r9), Box pv3 [.int .u32 r3, .int .u32 r4, vSl al2 l cl2], Box pv [iV 0, iV 0], Box pv2 [iV 0, iV 0], oL 144 4 al2 l cl2] ?_
 refine .nil (.seqN (.seq (.region ?_)))
 refine mmI .u32 (fun zE : Int => iV zE) rfl (fun bv2 => ?_)
 refine .V ag0 ?_
 refine .nil (.seqN (.seq (.region ?_)))
 refine .inl Tryz.func45 rfl Tryz.ntmps45 Tryz.call45 rfl rfl rfl rfl (fun a10 q65 => ?_)
 refine .seq (.region (.V ag0 ?_))
 refine .nil (.seqN (.seq (.region ?_)))
 refine mmI .u32 (fun zE : Option Addr => .pointer zE) rfl (fun bv3 => ?_)
 refine .V (bld (cs := #[.slice none 0 0, .map (some bv3), iV 0]) (pv := [(1, .map (some bv3))]) tB157 rfl rfl) ?_
 refine bx (vs := [.slice none 0 0, .map (some bv3), iV 0]) rfl rfl rfl (fun pv4 => ?_)
 refine .V ag0 ?_
 refine .nil (.seqN (.ret ?_))
 refine .res1 rfl (rvT rfl) (inl_back (v := .pointer (some pv4)) q65 rfl ?_)
 refine .mkQ QEnt 158 (inv := QInv []) (i := 0) (j := 1) rfl rfl rfl qinv_nil ?_
 refine .V ag0 ?_
 refine .nil (.seqN (.seq (.seq (.region (.V mv0 ?_)))))
 refine .V (ln rfl tS57.is) ?_
 refine .V mv0 ?_
 refine .nil (.seqN (.block ?_))
 refine .sel0 [8, 3, 2, 0, 7, 5, 9, 11, 4] (by decide) rfl ?_
 obtain ⟨I2, μ2, q10, q66⟩ := hF
 refine .loopN' (σ := Int × List (Int × Int) × List (Int × Int) × List (Int × List Arc) × List Nat) (fun z => I2 z.1 z.2.1 z.2.2.1 z.2.2.2.1) (fun z => μ2 z.1 z.2.1 z.2.2.1 z.2.2.2.1) (fun z => ⟨96, none, z.2.2.2.2⟩) (fun z => [(0, vP pv3), (5, vP pback), (6, .map (some bv2)), (7, vP pv4), (19, vSl a8 r8.1 c5), (20, iV ((r8.1.length : Nat) : Int)), (21, iV z.1)]) (fun z => [Box pv3 [.int .u32 r3, .int .u32 r4, vSl al2 l cl2], Box pback [.map (some bv)], OwnMapI bv2 .u32 (fun zE : Int => iV zE) z.2.1, QueX QEnt 158 .u32 (QInv z.2.2.1) pv4, OwnSl 62 1 a8 r8.1.length c5 (flL (α := W32) r9), MkA z.2.2.2.2, Box pv [iV 0, iV 0], oL 144 4 al2 l cl2, OwnMapS bv .u32 99 z.2.2.2.1]) (fun _ => h) (0, ([] : List (Int × Int)), ([] : List (Int × Int)), ([] : List (Int × List Arc)), []) q10 (fun _ => rfl) rfl sb rfl (FH.le_refl _) ?_
 rintro ⟨t21, m, mq, mm, dl⟩ q10
 have hF := q66 t21 m mq mm q10
 show J _ _ ⟨96, none, dl⟩ _ _ [(0, vP pv3), (5, vP pback), (6, .map (some bv2)), (7, vP pv4), (19, vSl a8 r8.1 c5), (20, iV ((r8.1.length : Nat) : Int)), (21, iV t21)] [Box pv3 [.int .u32 r3, .int .u32 r4, vSl al2 l cl2], Box pback [.map (some bv)], OwnMapI bv2 .u32 (fun zE : Int => iV zE) m, QueX QEnt 158 .u32 (QInv mq) pv4, OwnSl 62 1 a8 r8.1.length c5 (flL (α := W32) r9), MkA dl, Box pv [iV 0, iV 0], oL 144 4 al2 l cl2, OwnMapS bv .u32 99 mm] h
 refine .seq (.region (.V bi0 ?_))
 refine .nil (.seqN (.seq ?_))
 refine .cond rfl (fun q11 => ?_) (fun q11 => ?_)
 ·replace hF := hF.1 q11
  refine .skip (.seqN (.seq (.block (.seq (.region ?_)))))
  obtain ⟨q30, hF⟩ := hF
  refine .V (ixS rfl rfl tS57 (k := 4) rfl (inb_n q30 q63)) ?_
  refine .V (ld1 (v := .int .u32 (gt r9 t21)) rfl tO62 (cellS (k := 4) rfl (flL_get (α := W32) q30 (j := 0) rfl))) ?_
  refine al tZ62 rfl (fun ps => ?_)
  refine st (p := ps) (off := 0) (k := 0) (vs := [.int .u32 (gt r9 t21)]) rfl rfl rfl (fun w => (tO62 w).2) rfl rfl rfl rfl ?_
  refine .nil (.seqN (.seq (.region (.V mv0 ?_))))
  refine .V (lB 0 0 tO62) ?_
  refine muI (enc := (fun zE : Int => iV zE)) 1000000000 tMI60 rfl rfl rfl (q := 3) rfl ?_
  obtain ⟨m3, q31⟩ : ∃ y_ : List (Int × Int), y_ = (setA m (gt r9 t21) 1000000000) := ⟨_, rfl⟩
  replace hF := hF m3 q31
  refine .cast (A' := [Box ps [.int .u32 (gt r9 t21)], Box pv3 [.int .u32 r3, .int .u32 r4, vSl al2 l cl2], Box pback [.map (some bv)], OwnMapI bv2 .u32 (fun zE : Int => iV zE) m3, QueX QEnt 158 .u32 (QInv mq) pv4, OwnSl 62 1 a8 r8.1.length c5 (flL (α := W32) r9), MkA dl, Box pv [iV 0, iV 0], oL 144 4 al2 l cl2, OwnMapS bv .u32 99 mm]) (by rw [q31]; rfl) ?_
  refine .nil (.seqN (.seq (.seq (.region (.V mv0 ?_)))))
  refine .V (lB 0 0 tO62) ?_
  refine .inl Tryz.func46 rfl Tryz.ntmps46 Tryz.call46 rfl rfl rfl rfl (fun a11 q67 => ?_)
  refine .seq (.region (.V ag0 ?_))
  refine .nil (.seqN (.seq ?_))
  refine .OA (s0 := [(0, vP pv3), (1, .int .u32 (gt r9 t21))]) [0, 1, 2, 3, 4, 5, 6, 7, 8, 9, 10, 11] [(0, .int .u32 (gt r9 t21)), (1, vP pv3), (2, vP pv3), (3, vP (pv3.add 1)), (4, .int .u32 r4), (5, .int .u32 (bits .and .u32 (gt r9 t21) r4)), (6, vP pv3), (7, vP pv3), (8, vP (pv3.add 1)), (9, .int .u32 r4), (10, .bool ((bits .and .u32 (gt r9 t21) r4) == r4)), (11, .bool ((bits .and .u32 (gt r9 t21) r4) == r4))] [0, 1] [] ?_
  refine .LA [(5, .int .u32 (gt r9 t21)), (6, vP pv3), (7, vP pv3), (8, vP (pv3.add 1)), (9, .int .u32 r4), (10, .int .u32 (bits .and .u32 (gt r9 t21) r4)), (11, vP pv3), (12, vP pv3), (13, vP (pv3.add 1)), (14, .int .u32 r4), (15, .bool ((bits .and .u32 (gt r9 t21) r4) == r4)), (4, .bool ((bits .and .u32 (gt r9 t21) r4) == r4))] (.w [] rfl mv0 (.w [] rfl mv0 (.w [(6, vP pv3)] rfl (nck rfl) (.w [(7, vP pv3)] rfl (fa rfl tF105_1) (.w [(8, vP (pv3.add 1))] rfl (lB 1 1 tO62) (.w [(5, .int .u32 (gt r9 t21)), (9, .int .u32 r4)] rfl bi0 (.w [] rfl mv0 (.w [(11, vP pv3)] rfl (nck rfl) (.w [(12, vP pv3)] rfl (fa rfl tF105_1) (.w [(13, vP (pv3.add 1))] rfl (lB 1 1 tO62) (.w [(10, .int .u32 (bits .and .u32 (gt r9 t21) r4)), (14, .int .u32 r4)] rfl bi0 (.w [(15, .bool ((bits .and .u32 (gt r9 t21) r4) == r4)), (5, .int .u32 (gt r9 t21)), (6, vP pv3), (7, vP pv3), (8, vP (pv3.add 1)), (9, .int .u32 r4), (10, .int .u32 (bits .and .u32 (gt r9 t21) r4)), (11, vP pv3), (12, vP pv3), (13, vP (pv3.add 1)), (14, .int .u32 r4), (15, .bool ((bits .and .u32 (gt r9 t21) r4) == r4))] rfl ag0 (.nil))))))))))))) ?_
  refine .seqN (.ret ?_)
  refine .res1 rfl (rvT rfl) (inl_back (v := .bool ((bits .and .u32 (gt r9 t21) r4) == r4)) q67 rfl ?_)
  refine .nil (.seqN ?_)
  refine .shareT (σ := List (Int × Int) × List (Int × Int)) (fun z => F_optimal_J1 l r9 m mq mm z.1 t21 I2 μ2 z.2) (fun _ => [(0, vP pv3), (5, vP pback), (6, .map (some bv2)), (7, vP pv4), (9, vP ps), (19, vSl a8 r8.1 c5), (20, iV ((r8.1.length : Nat) : Int)), (21, iV t21)]) (fun z => [Box pv3 [.int .u32 r3, .int .u32 r4, vSl al2 l cl2], Box pback [.map (some bv)], OwnMapI bv2 .u32 (fun zE : Int => iV zE) z.1, QueX QEnt 158 .u32 (QInv z.2) pv4, Box ps [.int .u32 (gt r9 t21)], OwnSl 62 1 a8 r8.1.length c5 (flL (α := W32) r9), MkA dl, Box pv [iV 0, iV 0], oL 144 4 al2 l cl2, OwnMapS bv .u32 99 mm]) (fun _ => h) ?_ (fun q32 => ?_)
  ·rintro ⟨m4, mq3⟩ hF
   show J _ _ _ _ _ [(0, vP pv3), (5, vP pback), (6, .map (some bv2)), (7, vP pv4), (9, vP ps), (19, vSl a8 r8.1 c5), (20, iV ((r8.1.length : Nat) : Int)), (21, iV t21)] [Box pv3 [.int .u32 r3, .int .u32 r4, vSl al2 l cl2], Box pback [.map (some bv)], OwnMapI bv2 .u32 (fun zE : Int => iV zE) m4, QueX QEnt 158 .u32 (QInv mq3) pv4, Box ps [.int .u32 (gt r9 t21)], OwnSl 62 1 a8 r8.1.length c5 (flL (α := W32) r9), MkA dl, Box pv [iV 0, iV 0], oL 144 4 al2 l cl2, OwnMapS bv .u32 99 mm] h
   refine .seq (.region (.V mv0 ?_))
   refine .V (lB 0 4 tO62) ?_
   refine .inl Tryz.func48 rfl Tryz.ntmps48 Tryz.call48 rfl rfl rfl rfl (fun a12 q68 => ?_)
   refine .seq (.region ?_)
   refine bx (vs := [vP pv3]) rfl rfl rfl (fun pw => ?_)
   refine bx (vs := [.int .u32 (gt r9 t21)]) rfl rfl rfl (fun ps2 => ?_)
   refine .V ag0 ?_
   refine .nil (.seqN (.seq (.region (.V (mkf (vf := []) (vc := [vP pw, vP ps2]) rfl rfl) ?_))))
   refine .V ag0 ?_
   refine .nil (.seqN (.ret ?_))
   refine .res1 rfl (rvT rfl) (inl_back (v := .func (.func 80) #[] #[.pointer (some pw), .pointer (some ps2)]) q68 rfl ?_)
   refine .nil (.seqN (.block ?_))
   refine .sub (s' := [(0, vP pv3), (5, vP pback), (6, .map (some bv2)), (7, vP pv4), (9, vP ps), (19, vSl a8 r8.1 c5), (20, iV ((r8.1.length : Nat) : Int)), (21, iV t21), (37, .func (.func 80) #[] #[vP pw, vP ps2])]) sb ?_
   refine .rangeF (k := 8) (caps := [vP pw, vP ps2]) rfl rfl Tryz.func80 rfl Tryz.ntmps80 rfl Tryz.call80 (fun l3 D LA a13 q2 q69 => ?_)
   refine .KA [LA .ready none, Box ps2 [.int .u32 (gt r9 t21)], Box pw [vP pv3], Box pv3 [.int .u32 r3, .int .u32 r4, vSl al2 l cl2], Box pback [.map (some bv)], OwnMapI bv2 .u32 (fun zE : Int => iV zE) m4, QueX QEnt 158 .u32 (QInv mq3) pv4, Box ps [.int .u32 (gt r9 t21)], OwnSl 62 1 a8 r8.1.length c5 (flL (α := W32) r9), MkA (D :: dl), Box pv [iV 0, iV 0], oL 144 4 al2 l cl2, OwnMapS bv .u32 99 mm] ?_
   refine .seq (.region (.V (lB 0 2 tO56) ?_))
   refine .V (nck rfl) ?_
   refine .V (fa rfl tF105_2) ?_
   refine .V (lB 2 3 tO103) ?_
   refine .V (ln rfl tS103.is) ?_
   refine .V mv0 ?_
   refine .nil (.seqN (.block ?_))
   refine .sel0 [0, 1, 11, 10, 3, 4, 5, 6, 7, 8, 2, 9, 12] (by decide) rfl ?_
   obtain ⟨I3, μ3, q12, q70⟩ := hF
   refine .loop' (σ := Int × List (Int × List Arc)) (fun z => I3 z.1 z.2) (fun z => μ3 z.1 z.2) (fun z => [(0, .func (.yield l3) #[] #[]), (2, vP ps2), (9, vSl al2 l cl2), (10, iV ((l.length : Nat) : Int)), (11, iV z.1)]) (fun z => [LA .ready none, Box ps2 [.int .u32 (gt r9 t21)], oL 144 4 al2 l cl2, Box pv [iV 0, iV 0], Box pv3 [.int .u32 r3, .int .u32 r4, vSl al2 l cl2], Box pback [.map (some bv)], OwnMapI bv2 .u32 (fun zE : Int => iV zE) m4, QueX QEnt 158 .u32 (QInv mq3) pv4, Box ps [.int .u32 (gt r9 t21)], OwnSl 62 1 a8 r8.1.length c5 (flL (α := W32) r9), Box pw [vP pv3], MkA (D :: dl), OwnMapS bv .u32 99 z.2]) (fun _ => h) (0, mm) q12 sb rfl (FH.le_refl _) ?_
   rintro ⟨s_, mm3⟩ q12
   have hF := q70 s_ mm3 q12
   show J _ _ _ _ _ [(0, .func (.yield l3) #[] #[]), (2, vP ps2), (9, vSl al2 l cl2), (10, iV ((l.length : Nat) : Int)), (11, iV s_)] [LA .ready none, Box ps2 [.int .u32 (gt r9 t21)], oL 144 4 al2 l cl2, Box pv [iV 0, iV 0], Box pv3 [.int .u32 r3, .int .u32 r4, vSl al2 l cl2], Box pback [.map (some bv)], OwnMapI bv2 .u32 (fun zE : Int => iV zE) m4, QueX QEnt 158 .u32 (QInv mq3) pv4, Box ps [.int .u32 (gt r9 t21)], OwnSl 62 1 a8 r8.1.length c5 (flL (α := W32) r9), Box pw [vP pv3], MkA (D :: dl), OwnMapS bv .u32 99 mm3] h
   refine .seq (.region (.V bi0 ?_))
   refine .nil (.seqN (.seq ?_))
   refine .cond rfl (fun q13 => ?_) (fun q13 => ?_)
   ·replace hF := hF.1 q13
    refine .skip (.seqN ?_)
    refine .share (σ := List (Int × List Arc)) (fun z => F_optimal_J2 s_ I3 μ3 mm3 z) (fun _ => [(0, .func (.yield l3) #[] #[]), (2, vP ps2), (9, vSl al2 l cl2), (10, iV ((l.length : Nat) : Int)), (11, iV s_)]) (fun z => [LA .ready none, Box ps2 [.int .u32 (gt r9 t21)], oL 144 4 al2 l cl2, Box pv [iV 0, iV 0], Box pv3 [.int .u32 r3, .int .u32 r4, vSl al2 l cl2], Box pback [.map (some bv)], OwnMapI bv2 .u32 (fun zE : Int => iV zE) m4, QueX QEnt 158 .u32 (QInv mq3) pv4, Box ps [.int .u32 (gt r9 t21)], OwnSl 62 1 a8 r8.1.length c5 (flL (α := W32) r9), Box pw [vP pv3], MkA (D :: dl), OwnMapS bv .u32 99 z]) (fun _ => h) ?_ (fun q33 => ?_)
    ·rintro mm5 hF
     show J _ _ _ _ _ [(0, .func (.yield l3) #[] #[]), (2, vP ps2), (9, vSl al2 l cl2), (10, iV ((l.length : Nat) : Int)), (11, iV s_)] [LA .ready none, Box ps2 [.int .u32 (gt r9 t21)], oL 144 4 al2 l cl2, Box pv [iV 0, iV 0], Box pv3 [.int .u32 r3, .int .u32 r4, vSl al2 l cl2], Box pback [.map (some bv)], OwnMapI bv2 .u32 (fun zE : Int => iV zE) m4, QueX QEnt 158 .u32 (QInv mq3) pv4, Box ps [.int .u32 (gt r9 t21)], OwnSl 62 1 a8 r8.1.length c5 (flL (α := W32) r9), Box pw [vP pv3], MkA (D :: dl), OwnMapS bv .u32 99 mm5] h
     refine .region (.V bi0 ?_)
     refine .V mv0 ?_
     refine .nil ?_
     exact .RO (wr (s_ + 1), mm5) hF.1 hF.2
    refine .block (.seq (.region (.V mv0 ?_)))
    obtain ⟨q34, hF⟩ := hF
    refine .V (ixS rfl rfl tS103 (k := 2) rfl q34) ?_
    refine .V (ldA (cs := [.int .u32 ((gt l s_).pre), .int .u32 ((gt l s_).add), .int .u32 ((gt l s_).del), iV ((gt l s_).cost)]) rfl tA144 rfl (cellsO (k := 2) rfl (fun j v e => flL_get q34 e))) ?_
    refine al tZ144 rfl (fun pback2 => ?_)
    refine .V ag0 ?_
    refine st (p := pback2) (off := 0) (k := 0) (vs := [.int .u32 ((gt l s_).pre), .int .u32 ((gt l s_).add), .int .u32 ((gt l s_).del), iV ((gt l s_).cost)]) rfl rfl rfl (fun w => (tA144 w).2) rfl rfl rfl rfl ?_
    refine .nil (.seqN (.seq (.region (.V (lB 0 2 tO62) ?_))))
    refine .V (fa rfl tF144_0) ?_
    refine .V (lB 0 0 tO62) ?_
    refine .V bi0 ?_
    refine .V (fa rfl tF144_0) ?_
    refine .V (lB 0 0 tO62) ?_
    refine .V bi0 ?_
    refine .V mv0 ?_
    rcases Bool.eq_false_or_eq_true ((bits .and .u32 (gt r9 t21) ((gt l s_).pre)) == ((gt l s_).pre)) with q0 | q0
    ·replace hF := hF.1 q0
     refine .GV mv0 q0 ?_
     refine .GV mv0 q0 ?_
     refine .GV (fa rfl tF144_3) q0 ?_
     refine .GV (lB 3 0 tO3) q0 ?_
     refine .GV (lB 0 2 tO62) q0 ?_
     refine .GV (fa rfl tF144_2) q0 ?_
     refine .GV (lB 2 0 tO62) q0 ?_
     refine .GV bi0 q0 ?_
     refine .GV (fa rfl tF144_1) q0 ?_
     refine .GV (lB 1 0 tO62) q0 ?_
     obtain ⟨x, q35⟩ : ∃ y_ : Int, y_ = (bits .or .u32 (bits .andNot .u32 (gt r9 t21) ((gt l s_).del)) ((gt l s_).add)) := ⟨_, rfl⟩
     replace hF := hF x q35
     refine .gv (v := .int .u32 x) (by rw [q35]; exact bi rfl rfl rfl) rfl rfl rfl q0 rfl rfl ?_
     refine .GV (bld (cs := #[iV s_, iV ((gt l s_).cost), .int .u32 x]) (pv := [(0, iV s_), (1, iV ((gt l s_).cost)), (2, .int .u32 x)]) tB96 rfl rfl) q0 ?_
     refine .gR rfl rfl rfl q0 ?_
     refine .yld (k := 1) (vs := [.agg #[iV s_, iV ((gt l s_).cost), .int .u32 x]]) q2 rfl rfl rfl rfl rfl (fun aG q71 => ?_)
     refine .sub (s' := [(5, vP pback), (9, vP ps), (38, .agg #[iV s_, iV ((gt l s_).cost), .int .u32 x])]) sb ?_
     refine .region ?_
     refine al tZ96 rfl (fun pe => ?_)
     refine st (p := pe) (off := 0) (k := 0) (vs := [iV s_, iV ((gt l s_).cost), .int .u32 x]) rfl rfl rfl (fun w => (tA96 w).2) rfl rfl rfl rfl ?_
     refine .nil ?_
     refine .begin_ (k := 2) q2 rfl ?_
     refine .block ?_
     refine .openRow (q := 14) rfl rfl x (fun a14 c6 => ?_)
     refine .KA [oL 99 2 a14 ((getA mm3 x).getD []) c6, Box pe [iV s_, iV ((gt l s_).cost), .int .u32 x], Box pback2 [.int .u32 ((gt l s_).pre), .int .u32 ((gt l s_).add), .int .u32 ((gt l s_).del), iV ((gt l s_).cost)], LA .busy none, Box ps2 [.int .u32 (gt r9 t21)], oL 144 4 al2 l cl2, Box pv [iV 0, iV 0], Box pv3 [.int .u32 r3, .int .u32 r4, vSl al2 l cl2], Box pback [.map (some bv)], OwnMapI bv2 .u32 (fun zE : Int => iV zE) m4, QueX QEnt 158 .u32 (QInv mq3) pv4, Box ps [.int .u32 (gt r9 t21)], OwnSl 62 1 a8 r8.1.length c5 (flL (α := W32) r9), Box pw [vP pv3], MkA (D :: dl), OwnMapX bv .u32 99 mm3 x (.slice a14 ((getA mm3 x).getD []).length c6)] ?_
     refine .OA (s0 := [(5, vP pback), (9, vP ps), (10, vP pe)]) [0, 1, 2, 3, 4, 5, 6, 7, 8, 9, 10] [(0, .map (some bv)), (1, vP (pe.add 2)), (2, .int .u32 x), (3, .map (some bv)), (4, vP (pe.add 2)), (5, .int .u32 x), (6, vSl a14 ((getA mm3 x).getD []) c6), (7, .int .u32 (gt r9 t21)), (8, vP (pe.add 1)), (9, iV ((gt l s_).cost)), (10, .agg #[.int .u32 (gt r9 t21), iV ((gt l s_).cost)])] [5, 9, 10] [] ?_
     refine .ST [11] 11 (.w [] rfl (lB 0 8 tO87) (.w [] rfl (fa rfl tF96_2) (.w [(40, vP (pe.add 2))] rfl (lB 2 1 tO62) (.w [] rfl (lB 0 8 tO87) (.w [] rfl (fa rfl tF96_2) (.w [(43, vP (pe.add 2))] rfl (lB 2 1 tO62) (.w [(42, .map (some bv)), (44, .int .u32 x)] rfl (lkX tMR87 rfl rfl (q := 15) rfl) (.w [] rfl (lB 0 11 tO62) (.w [] rfl (fa rfl tF96_1) (.w [(47, vP (pe.add 1))] rfl (lB 1 1 tO3) (.w [(46, .int .u32 (gt r9 t21)), (48, iV ((gt l s_).cost))] rfl (bld (cs := #[.int .u32 (gt r9 t21), iV ((gt l s_).cost)]) (pv := [(0, .int .u32 (gt r9 t21)), (1, iV ((gt l s_).cost))]) tB99 rfl rfl) (.nil)))))))))))) (.cons [(49, .agg #[.int .u32 (gt r9 t21), iV ((gt l s_).cost)])] rfl rfl (fun sL hL => ?_) (.nil))
     refine bs2 (cs := #[.int .u32 (gt r9 t21), iV ((gt l s_).cost)]) (pv := [(0, .agg #[.int .u32 (gt r9 t21), iV ((gt l s_).cost)])]) tS97 rfl rfl (by decide) (by decide) rfl rfl rfl (fun a15 _ => ?_)
     refine .nil ?_
     refine .ja (M := [10, 7, 9, 8]) (C' := [0, 1, 2, 3, 4, 5, 6]) (pre := [(11, vSl a15 ([(⟨(gt r9 t21), (gt l s_).cost⟩ : Arc)] : List Arc) 1)]) [(5, vP pback), (9, vP ps), (10, vP pe)] [5, 9, 10] hL rfl rfl rfl rfl rfl sb rfl rfl (by kernel_rfl) ?_
     refine .ST [12] 12 (.w [] rfl (lB 0 9 tO87) (.w [] rfl (fa rfl tF96_2) (.w [(40, vP (pe.add 2))] rfl (lB 2 2 tO62) (.w [] rfl (lB 0 9 tO87) (.w [] rfl (fa rfl tF96_2) (.w [(43, vP (pe.add 2))] rfl (lB 2 2 tO62) (.w [(42, .map (some bv)), (44, .int .u32 x)] rfl (lkX tMR87 rfl rfl (q := 16) rfl) (.nil)))))))) (.cons [(45, vSl a14 ((getA mm3 x).getD []) c6), (50, vSl a15 ([(⟨(gt r9 t21), (gt l s_).cost⟩ : Arc)] : List Arc) 1)] rfl rfl (fun sL hL => ?_) (.nil))
     obtain ⟨q36, hF⟩ := hF
     have q14 : ((getA mm3 x).getD []).length + ([(⟨(gt r9 t21), (gt l s_).cost⟩ : Arc)] : List Arc).length = ((((getA mm3 x).getD []) ++ ([(⟨(gt r9 t21), (gt l s_).cost⟩ : Arc)] : List Arc))).length := len_app rfl rfl
     refine app (k := 1) (news := flL ([(⟨(gt r9 t21), (gt l s_).cost⟩ : Arc)] : List Arc)) (cs' := flL (((getA mm3 x).getD []) ++ ([(⟨(gt r9 t21), (gt l s_).cost⟩ : Arc)] : List Arc))) (nm := ((((getA mm3 x).getD []) ++ ([(⟨(gt r9 t21), (gt l s_).cost⟩ : Arc)] : List Arc))).length) tS97 rfl (by decide) rfl rfl rfl ((flL_len _).trans rfl) (srcS (k := 0) rfl) (flL_one _) (room_of q14 q36).1 (room_of q14 q36).2 q14 (flL_append _ _).symm rfl (fun a16 c7 => ?_)
     refine .nil ?_
     refine .ja (M := [6, 3, 5, 4]) (C' := [0, 1, 2]) (pre := [(12, vSl a16 (((getA mm3 x).getD []) ++ ([(⟨(gt r9 t21), (gt l s_).cost⟩ : Arc)] : List Arc)) c7)]) [(5, vP pback), (9, vP ps), (10, vP pe)] [5, 9, 10] hL rfl rfl rfl rfl rfl sb rfl rfl (by kernel_rfl) ?_
     refine .ST [13] 13 (.w [] rfl (lB 0 9 tO87) (.w [] rfl (fa rfl tF96_2) (.w [(40, vP (pe.add 2))] rfl (lB 2 2 tO62) (.nil)))) (.cons [(39, .map (some bv)), (41, .int .u32 x), (51, vSl a16 (((getA mm3 x).getD []) ++ ([(⟨(gt r9 t21), (gt l s_).cost⟩ : Arc)] : List Arc)) c7), (51, vSl a16 (((getA mm3 x).getD []) ++ ([(⟨(gt r9 t21), (gt l s_).cost⟩ : Arc)] : List Arc)) c7), (39, .map (some bv)), (40, vP (pe.add 2)), (41, .int .u32 x), (42, .map (some bv)), (43, vP (pe.add 2)), (44, .int .u32 x), (45, vSl a14 ((getA mm3 x).getD []) c6), (46, .int .u32 (gt r9 t21)), (47, vP (pe.add 1)), (48, iV ((gt l s_).cost)), (49, .agg #[.int .u32 (gt r9 t21), iV ((gt l s_).cost)]), (50, vSl a15 ([(⟨(gt r9 t21), (gt l s_).cost⟩ : Arc)] : List Arc) 1), (51, vSl a16 (((getA mm3 x).getD []) ++ ([(⟨(gt r9 t21), (gt l s_).cost⟩ : Arc)] : List Arc)) c7)] rfl rfl (fun sL hL => ?_) (.nil))
     refine muX (xs := (((getA mm3 x).getD []) ++ ([(⟨(gt r9 t21), (gt l s_).cost⟩ : Arc)] : List Arc))) tMR87 rfl rfl rfl (q := 16) (i := 1) rfl rfl rfl rfl ?_
     obtain ⟨m5, q37⟩ : ∃ y_ : List (Int × List Arc), y_ = ((x, (((getA mm3 x).getD []) ++ ([(⟨(gt r9 t21), (gt l s_).cost⟩ : Arc)] : List Arc))) :: delA mm3 x) := ⟨_, rfl⟩
     replace hF := hF m5 q37
     refine .cast (A' := [oL 99 2 a15 ([(⟨(gt r9 t21), (gt l s_).cost⟩ : Arc)] : List Arc) 1, tru, Box pe [iV s_, iV ((gt l s_).cost), .int .u32 x], Box pback2 [.int .u32 ((gt l s_).pre), .int .u32 ((gt l s_).add), .int .u32 ((gt l s_).del), iV ((gt l s_).cost)], LA .busy none, Box ps2 [.int .u32 (gt r9 t21)], oL 144 4 al2 l cl2, Box pv [iV 0, iV 0], Box pv3 [.int .u32 r3, .int .u32 r4, vSl al2 l cl2], Box pback [.map (some bv)], OwnMapI bv2 .u32 (fun zE : Int => iV zE) m4, QueX QEnt 158 .u32 (QInv mq3) pv4, Box ps [.int .u32 (gt r9 t21)], OwnSl 62 1 a8 r8.1.length c5 (flL (α := W32) r9), Box pw [vP pv3], MkA (D :: dl), OwnMapS bv .u32 99 m5]) (by rw [q37]; rfl) ?_
     refine .nil ?_
     refine .jaN (M := [0, 2, 1]) (C' := []) (pre := []) [5, 9, 10] hL rfl rfl rfl rfl rfl (by kernel_rfl) ?_
     refine .LA [(39, .map (some bv)), (40, vP (pe.add 2)), (41, .int .u32 x), (42, .map (some bv)), (43, vP (pe.add 2)), (44, .int .u32 x), (45, vSl a14 ((getA mm3 x).getD []) c6), (46, .int .u32 (gt r9 t21)), (47, vP (pe.add 1)), (48, iV ((gt l s_).cost)), (49, .agg #[.int .u32 (gt r9 t21), iV ((gt l s_).cost)]), (50, vSl a15 ([(⟨(gt r9 t21), (gt l s_).cost⟩ : Arc)] : List Arc) 1), (51, vSl a16 (((getA mm3 x).getD []) ++ ([(⟨(gt r9 t21), (gt l s_).cost⟩ : Arc)] : List Arc)) c7)] (.nil) ?_
     refine .blkN ?_
     refine .rdN (k := 4) q2 rfl q71 rfl ?_
     refine .GV (nt rfl) q0 ?_
     refine .V (pkT rfl q0 rfl) ?_
     refine .nil (.seqN ?_)
     refine .cond rfl (fun e => absurd (e.symm.trans rfl) (by decide)) (fun _ => ?_)
     refine .skip (.blkN ?_)
     refine .sel0 [4, 5, 6, 7, 8, 9, 10, 11, 12, 13, 14, 15, 16] (by decide) rfl ?_
     exact .US q33 m5 hF
    replace hF := hF.2 q0
    refine .GS q0 ?_
    refine .GS q0 ?_
    refine .GS q0 ?_
    refine .GS q0 ?_
    refine .GS q0 ?_
    refine .GS q0 ?_
    refine .GS q0 ?_
    refine .GS q0 ?_
    refine .GS q0 ?_
    refine .GS q0 ?_
    refine .GS q0 ?_
    refine .GS q0 ?_
    refine .GS q0 ?_
    refine .GS q0 ?_
    refine .V (pkF rfl q0 rfl) ?_
    refine .nil (.seqN ?_)
    refine .cond rfl (fun e => absurd (e.symm.trans rfl) (by decide)) (fun _ => ?_)
    refine .skip (.blkN ?_)
    refine .sel0 [1, 2, 3, 4, 5, 6, 7, 8, 9, 10, 11, 12, 13] (by decide) rfl ?_
    exact .US q33 mm3 hF
   replace hF := hF.2 q13
   refine .exit (.seqX (.seqX (.blkX ?_)))
   refine .res0 (.inr rfl) rfl (range_done (k := 0) q2 rfl q69 ?_)
   refine .KA [tru, Box ps2 [.int .u32 (gt r9 t21)], oL 144 4 al2 l cl2, Box pv [iV 0, iV 0], Box pv3 [.int .u32 r3, .int .u32 r4, vSl al2 l cl2], Box pback [.map (some bv)], OwnMapI bv2 .u32 (fun zE : Int => iV zE) m4, QueX QEnt 158 .u32 (QInv mq3) pv4, Box ps [.int .u32 (gt r9 t21)], OwnSl 62 1 a8 r8.1.length c5 (flL (α := W32) r9), Box pw [vP pv3], MkA (D :: dl), OwnMapS bv .u32 99 mm3] ?_
   refine .blkN (.blkN (.seqN (.region (.V bi0 ?_))))
   refine .V mv0 ?_
   refine .nil ?_
   refine .sel0 [4, 5, 6, 7, 9, 11, 3, 2, 12] (by decide) rfl ?_
   exact .roundN (wr (t21 + 1), m4, mq3, mm3, D :: dl) hF.1 hF.2 rfl sb rfl (FH.le_refl _)
  refine .cond rfl (fun q15 => ?_) (fun q15 => ?_)
  ·replace hF := hF.1 q15
   refine .seq (.region (.V mv0 ?_))
   refine .V (lB 0 0 tO62) ?_
   refine muI (enc := (fun zE : Int => iV zE)) 0 tMI60 rfl rfl rfl (q := 3) rfl ?_
   obtain ⟨m6, q38⟩ : ∃ y_ : List (Int × Int), y_ = (setA m3 (gt r9 t21) 0) := ⟨_, rfl⟩
   replace hF := hF m6 q38
   refine .cast (A' := [Box ps [.int .u32 (gt r9 t21)], Box pv3 [.int .u32 r3, .int .u32 r4, vSl al2 l cl2], Box pback [.map (some bv)], OwnMapI bv2 .u32 (fun zE : Int => iV zE) m6, QueX QEnt 158 .u32 (QInv mq) pv4, OwnSl 62 1 a8 r8.1.length c5 (flL (α := W32) r9), MkA dl, Box pv [iV 0, iV 0], oL 144 4 al2 l cl2, OwnMapS bv .u32 99 mm]) (by rw [q38]; rfl) ?_
   refine .nil (.seqN (.region (.V mv0 ?_)))
   refine .V (lB 0 0 tO62) ?_
   obtain ⟨q72, hF⟩ := hF
   refine callZ (σ := List (Int × Int)) (k := 4) (X' := fun r => QueX QEnt 158 .u32 (QInv r) pv4) (V := fun r => .tuple #[]) (R := fun r => po_qset mq (gt r9 t21) 0 r) rfl Tryz.call47 rfl rfl (fun w g hx sg hd hs' => c_qset hs' mq pv4 hx sg hd (gt r9 t21) 0 q72) rfl (fun r10 q73 => ?_)
   replace hF := hF r10 q73
   refine .nil ?_
   refine .sel0 [1, 2, 3, 4, 0, 5, 6, 7, 8, 9] (by decide) rfl ?_
   exact .US q32 (m6, r10) hF
  replace hF := hF.2 q15
  refine .skip ?_
  refine .sel0 [1, 2, 3, 4, 0, 5, 6, 7, 8, 9] (by decide) rfl ?_
  exact .US q32 (m3, mq) hF
 replace hF := hF.2 q11
 refine .exit (.seqX (.seqX (.blkX (.seqN (.seq (.block ?_))))))
 refine .freezeMS (q := 8) rfl (fun h3 hd le3 q74 => ?_)
 refine .KA [Box pv3 [.int .u32 r3, .int .u32 r4, vSl al2 l cl2], Box pback [.map (some bv)], OwnMapI bv2 .u32 (fun zE : Int => iV zE) m, QueX QEnt 158 .u32 (QInv mq) pv4, OwnSl 62 1 a8 r8.1.length c5 (flL (α := W32) r9), MkA dl, Box pv [iV 0, iV 0], oL 144 4 al2 l cl2, OwnMapI bv .u32 (fun v : Value => v) hd] ?_
 refine .sel0 [1, 2, 3, 5, 6, 0, 8, 7] (by decide) rfl ?_
 obtain ⟨I4, μ4, q16, q75⟩ := hF
 refine .loop' (σ := List (Int × Int) × List (Int × Int)) (fun z => I4 z.1 z.2) (fun z => μ4 z.1 z.2) (fun _ => [(5, vP pback), (6, .map (some bv2)), (7, vP pv4)]) (fun z => [Box pback [.map (some bv)], OwnMapI bv2 .u32 (fun zE : Int => iV zE) z.1, QueX QEnt 158 .u32 (QInv z.2) pv4, MkA dl, Box pv [iV 0, iV 0], Box pv3 [.int .u32 r3, .int .u32 r4, vSl al2 l cl2], OwnMapI bv .u32 (fun v : Value => v) hd, oL 144 4 al2 l cl2]) (fun _ => h3) (m, mq) q16 sb rfl (FH.le_refl _) ?_
 rintro ⟨m7, mq4⟩ q16
 have hF := q75 m7 mq4 q16
 show J _ _ _ _ _ [(5, vP pback), (6, .map (some bv2)), (7, vP pv4)] [Box pback [.map (some bv)], OwnMapI bv2 .u32 (fun zE : Int => iV zE) m7, QueX QEnt 158 .u32 (QInv mq4) pv4, MkA dl, Box pv [iV 0, iV 0], Box pv3 [.int .u32 r3, .int .u32 r4, vSl al2 l cl2], OwnMapI bv .u32 (fun v : Value => v) hd, oL 144 4 al2 l cl2] h3
 refine .seq (.seq (.region (.V mv0 ?_)))
 refine callZ (σ := Int × List (Int × Int)) (k := 2) (X' := fun r => QueX QEnt 158 .u32 (QInv r.2) pv4) (V := fun r => iV r.1) (R := fun r => po_qlen mq4 r) rfl Tryz.call49 rfl rfl (fun w g hx sg hd hs' => c_qlen hs' mq4 pv4 hx sg hd  ) rfl (fun r11 q76 => ?_)
 replace hF := hF r11 q76
 refine .V bi0 ?_
 refine .nil (.seqN ?_)
 refine .cond rfl (fun q17 => ?_) (fun q17 => ?_)
 ·replace hF := hF.1 q17
  refine .skip (.seqN (.block (.seq (.region (.V mv0 ?_)))))
  obtain ⟨q77, hF⟩ := hF
  refine callZ (σ := (Int × Int × Bool) × List (Int × Int)) (k := 2) (X' := fun r => QueX QEnt 158 .u32 (QInv r.2) pv4) (V := fun r => .tuple #[.int .u32 r.1.1, iV r.1.2.1, .bool r.1.2.2]) (R := fun r => po_qtake r11.2 r) rfl Tryz.call50 rfl rfl (fun w g hx sg hd hs' => c_qtake hs' r11.2 pv4 hx sg hd  q77) rfl (fun r12 q78 => ?_)
  replace hF := hF r12 q78
  refine .V mv0 ?_
  refine .V (ext rfl rfl) ?_
  refine .V (ext rfl rfl) ?_
  refine .V (ext rfl rfl) ?_
  refine .V ag0 ?_
  refine .V ag0 ?_
  refine .V ag0 ?_
  refine .nil (.seqN (.seq (.region (.V (lB 0 0 tO87) ?_))))
  refine .V mv0 ?_
  obtain ⟨a17, c8, q79, q39, q84⟩ := q74 r12.1.1
  refine .V (lkH tMR87 rfl rfl (q := 6) rfl q79) ?_
  refine .V (ln rfl tS97.is) ?_
  refine .V mv0 ?_
  refine .nil (.seqN (.block ?_))
  obtain ⟨I5, μ5, q18, q80⟩ := hF
  refine .loop' (σ := Int × List (Int × Int) × List (Int × Int)) (fun z => I5 z.1 z.2.1 z.2.2) (fun z => μ5 z.1 z.2.1 z.2.2) (fun z => [(5, vP pback), (6, .map (some bv2)), (7, vP pv4), (12, iV r12.1.2.1), (64, vSl a17 ((getA mm r12.1.1).getD []) c8), (65, iV ((((getA mm r12.1.1).getD []).length : Nat) : Int)), (66, iV z.1)]) (fun z => [Box pback [.map (some bv)], OwnMapI bv2 .u32 (fun zE : Int => iV zE) z.2.1, QueX QEnt 158 .u32 (QInv z.2.2) pv4, MkA dl, Box pv [iV 0, iV 0], Box pv3 [.int .u32 r3, .int .u32 r4, vSl al2 l cl2], OwnMapI bv .u32 (fun v : Value => v) hd, oL 144 4 al2 l cl2]) (fun _ => h3) (0, m7, r12.2) q18 sb rfl (FH.le_refl _) ?_
  rintro ⟨t66, m9, mq6⟩ q18
  have hF := q80 t66 m9 mq6 q18
  show J _ _ _ _ _ [(5, vP pback), (6, .map (some bv2)), (7, vP pv4), (12, iV r12.1.2.1), (64, vSl a17 ((getA mm r12.1.1).getD []) c8), (65, iV ((((getA mm r12.1.1).getD []).length : Nat) : Int)), (66, iV t66)] [Box pback [.map (some bv)], OwnMapI bv2 .u32 (fun zE : Int => iV zE) m9, QueX QEnt 158 .u32 (QInv mq6) pv4, MkA dl, Box pv [iV 0, iV 0], Box pv3 [.int .u32 r3, .int .u32 r4, vSl al2 l cl2], OwnMapI bv .u32 (fun v : Value => v) hd, oL 144 4 al2 l cl2] h3
  refine .seq (.region ?_)
  obtain ⟨x2, q40⟩ : ∃ y_ : Bool, y_ = (decide (t66 < ((((getA mm r12.1.1).getD []).length : Nat) : Int))) := ⟨_, rfl⟩
  replace hF := hF x2 q40
  refine .v (v := .bool x2) (by rw [q40]; exact bi rfl rfl rfl) rfl rfl rfl ?_
  refine .nil (.seqN (.seq ?_))
  refine .cond rfl (fun q19 => ?_) (fun q19 => ?_)
  ·replace hF := hF.1 q19
   refine .skip (.seqN ?_)
   refine .share (σ := List (Int × Int) × List (Int × Int)) (fun z => F_optimal_J3 t66 m9 I5 μ5 mq6 z.1 z.2) (fun _ => [(5, vP pback), (6, .map (some bv2)), (7, vP pv4), (12, iV r12.1.2.1), (64, vSl a17 ((getA mm r12.1.1).getD []) c8), (65, iV ((((getA mm r12.1.1).getD []).length : Nat) : Int)), (66, iV t66)]) (fun z => [Box pback [.map (some bv)], OwnMapI bv2 .u32 (fun zE : Int => iV zE) z.1, QueX QEnt 158 .u32 (QInv z.2) pv4, MkA dl, Box pv [iV 0, iV 0], Box pv3 [.int .u32 r3, .int .u32 r4, vSl al2 l cl2], OwnMapI bv .u32 (fun v : Value => v) hd, oL 144 4 al2 l cl2]) (fun _ => h3) ?_ (fun q41 => ?_)
   ·rintro ⟨m11, mq8⟩ hF
    show J _ _ _ _ _ [(5, vP pback), (6, .map (some bv2)), (7, vP pv4), (12, iV r12.1.2.1), (64, vSl a17 ((getA mm r12.1.1).getD []) c8), (65, iV ((((getA mm r12.1.1).getD []).length : Nat) : Int)), (66, iV t66)] [Box pback [.map (some bv)], OwnMapI bv2 .u32 (fun zE : Int => iV zE) m11, QueX QEnt 158 .u32 (QInv mq8) pv4, MkA dl, Box pv [iV 0, iV 0], Box pv3 [.int .u32 r3, .int .u32 r4, vSl al2 l cl2], OwnMapI bv .u32 (fun v : Value => v) hd, oL 144 4 al2 l cl2] h3
    refine .region (.V bi0 ?_)
    refine .V mv0 ?_
    refine .nil ?_
    exact .RO (wr (t66 + 1), m11, mq8) hF.1 hF.2
   refine .block (.seq (.region ?_))
   obtain ⟨q20, hF⟩ := hF
   refine .V (ix rfl rfl tS97 (q39.ne (by decide) (inb_pos q20)) q20) ?_
   refine .V (ldA (cs := [.int .u32 ((gt ((getA mm r12.1.1).getD []) t66).from_), iV ((gt ((getA mm r12.1.1).getD []) t66).cost)]) rfl tA99 rfl (cellsH (q39.elemF q20 (by decide)))) ?_
   refine al tZ99 rfl (fun pa => ?_)
   refine st (p := pa) (off := 0) (k := 0) (vs := [.int .u32 ((gt ((getA mm r12.1.1).getD []) t66).from_), iV ((gt ((getA mm r12.1.1).getD []) t66).cost)]) rfl rfl rfl (fun w => (tA99 w).2) rfl rfl rfl rfl ?_
   refine .nil (.seqN (.seq (.region (.V mv0 ?_))))
   refine .V (fa rfl tF99_1) ?_
   refine .V (lB 1 0 tO3) ?_
   obtain ⟨x3, q42⟩ : ∃ y_ : Int, y_ = (wr (r12.1.2.1 + ((gt ((getA mm r12.1.1).getD []) t66).cost))) := ⟨_, rfl⟩
   replace hF := hF x3 q42
   refine .v (v := iV x3) (by rw [q42]; exact bi rfl rfl rfl) rfl rfl rfl ?_
   refine .V mv0 ?_
   refine .V (fa rfl tF99_0) ?_
   refine .V (lB 0 0 tO62) ?_
   refine .V (lkI (enc := (fun zE : Int => iV zE)) 0 tMI60 rfl rfl (q := 2) rfl) ?_
   obtain ⟨x4, q43⟩ : ∃ y_ : Bool, y_ = (decide (x3 < ((getA m9 ((gt ((getA mm r12.1.1).getD []) t66).from_)).getD 0))) := ⟨_, rfl⟩
   replace hF := hF x4 q43
   refine .v (v := .bool x4) (by rw [q43]; exact bi rfl rfl rfl) rfl rfl rfl ?_
   refine .nil (.seqN ?_)
   refine .cond rfl (fun q21 => ?_) (fun q21 => ?_)
   ·replace hF := hF.1 q21
    refine .seq (.region (.V mv0 ?_))
    refine .V (fa rfl tF99_0) ?_
    refine .V (lB 0 0 tO62) ?_
    refine .V mv0 ?_
    refine .V (fa rfl tF99_1) ?_
    refine .V (lB 1 0 tO3) ?_
    obtain ⟨x5, q44⟩ : ∃ y_ : Int, y_ = (wr (r12.1.2.1 + ((gt ((getA mm r12.1.1).getD []) t66).cost))) := ⟨_, rfl⟩
    replace hF := hF x5 q44
    refine .v (v := iV x5) (by rw [q44]; exact bi rfl rfl rfl) rfl rfl rfl ?_
    refine muI (enc := (fun zE : Int => iV zE)) x5 tMI60 rfl rfl rfl (q := 2) rfl ?_
    obtain ⟨m12, q45⟩ : ∃ y_ : List (Int × Int), y_ = (setA m9 ((gt ((getA mm r12.1.1).getD []) t66).from_) x5) := ⟨_, rfl⟩
    replace hF := hF m12 q45
    refine .cast (A' := [Box pa [.int .u32 ((gt ((getA mm r12.1.1).getD []) t66).from_), iV ((gt ((getA mm r12.1.1).getD []) t66).cost)], Box pback [.map (some bv)], OwnMapI bv2 .u32 (fun zE : Int => iV zE) m12, QueX QEnt 158 .u32 (QInv mq6) pv4, MkA dl, Box pv [iV 0, iV 0], Box pv3 [.int .u32 r3, .int .u32 r4, vSl al2 l cl2], OwnMapI bv .u32 (fun v : Value => v) hd, oL 144 4 al2 l cl2]) (by rw [q45]; rfl) ?_
    refine .nil (.seqN (.region (.V mv0 ?_)))
    refine .V (fa rfl tF99_0) ?_
    refine .V (lB 0 0 tO62) ?_
    refine .V mv0 ?_
    refine .V (fa rfl tF99_1) ?_
    refine .V (lB 1 0 tO3) ?_
    obtain ⟨x6, q46⟩ : ∃ y_ : Int, y_ = (wr (r12.1.2.1 + ((gt ((getA mm r12.1.1).getD []) t66).cost))) := ⟨_, rfl⟩
    replace hF := hF x6 q46
    refine .v (v := iV x6) (by rw [q46]; exact bi rfl rfl rfl) rfl rfl rfl ?_
    obtain ⟨q81, hF⟩ := hF
    refine callZ (σ := List (Int × Int)) (k := 3) (X' := fun r => QueX QEnt 158 .u32 (QInv r) pv4) (V := fun r => .tuple #[]) (R := fun r => po_qset mq6 ((gt ((getA mm r12.1.1).getD []) t66).from_) x6 r) rfl Tryz.call47 rfl rfl (fun w g hx sg hd hs' => c_qset hs' mq6 pv4 hx sg hd ((gt ((getA mm r12.1.1).getD []) t66).from_) x6 q81) rfl (fun r13 q82 => ?_)
    replace hF := hF r13 q82
    refine .nil (.blkN ?_)
    refine .sel0 [1, 2, 3, 4, 5, 6, 7, 8] (by decide) rfl ?_
    exact .US q41 (m12, r13) hF
   replace hF := hF.2 q21
   refine .skip (.blkN ?_)
   refine .sel0 [1, 2, 3, 4, 5, 6, 7, 8] (by decide) rfl ?_
   exact .US q41 (m9, mq6) hF
  replace hF := hF.2 q19
  refine .exit (.seqX (.seqX (.blkX (.blkN ?_))))
  exact .RO (m9, mq6) hF.1 hF.2
 replace hF := hF.2 q17
 refine .exit (.seqX (.seqX (.blkX (.seqN (.seq (.region (.V mv0 ?_)))))))
 refine .V ag0 ?_
 refine .nil (.seqN (.ret ?_))
 refine .resM (k := 3) rfl ?_
 refine .res1 rfl (rvT rfl) (inl_back (v := .map (some bv2)) q64 rfl ?_)
 refine .V mv0 ?_
 refine .inl Tryz.func22 rfl Tryz.ntmps22 Tryz.call22 rfl rfl rfl rfl (fun a18 q83 => ?_)
 refine .seq (.region (.V ag0 ?_))
 refine .nil (.seqN (.seq (.region (.V mv0 ?_))))
 refine .V (nck rfl) ?_
 refine .V (fa rfl tF105_0) ?_
 refine .V (lB 0 5 tO62) ?_
 refine .V ag0 ?_
 refine .nil (.seqN (.ret ?_))
 refine .res1 rfl (rvT rfl) (inl_back (v := .int .u32 r3) q83 rfl ?_)
 refine .V (lkI (enc := (fun zE : Int => iV zE)) 0 tMI60 rfl rfl (q := 1) rfl) ?_
 refine .V (bld (cs := #[iV 0, iV 0]) (pv := []) tB27 rfl rfl) ?_
 refine .V ag0 ?_
 refine st (p := pv) (off := 0) (k := 4) (vs := [iV 0, iV 0]) rfl rfl rfl (fun w => (tA27 w).2) rfl rfl rfl rfl ?_
 refine .nil (.seqN (.ret ?_))
 refine .res2 rfl (rvT rfl) (rvC rfl tA27 (k := 4) rfl rfl) (fun w' S => ⟨(((getA m7 r3).getD 0), (⟨0, 0⟩ : Fault)), hF, rfl, S.below⟩)
theorem c_optimal {h : FH} {w : World} (hs : Sub h w) (t : Task) (at_ : Option Addr) (ct : Nat) (_q1 : RSl h at_ t.init) (_q2 : t.init.length ≤ ct) (at_2 : Option Addr) (ct2 : Nat) (_q3 : RSl h at_2 t.goal) (_q4 : t.goal.length ≤ ct2) (at_3 : Option Addr) (ct3 : Nat) (_q5 : RSl h at_3 t.ops) (_q6 : t.ops.length ≤ ct3) : Calls Tryz.prog 7 #[.agg #[iV t.facts, .slice at_ t.init.length ct, .slice at_2 t.goal.length ct2, .slice at_3 t.ops.length ct3]] w fun e w' => e = .returned (.tuple #[iV (sp_optimal t).1, .agg #[iV (sp_optimal t).2.code, iV (sp_optimal t).2.index]]) ∧ Below w.heap.size w w' :=
 (w_optimal hs t at_ ct _q1 _q2 at_2 ct2 _q3 _q4 at_3 ct3 _q5 _q6 (fun r => r = sp_optimal t) (ok_optimal t)).mono fun _ _ ⟨_, hk, he, hb⟩ => ⟨by rw [he, hk], hb⟩
end Go.Proofs.YtimillpakjgnoaaGreat.Pl

