import Derived.Test.YtojoehfldbimpaaGreatDoorM1
import Derived.Test.YtojoehfldbimpaaGreatDoorM5
import Derived.Test.YtojoehfldbimpaaGreatDoorRows
import Derived.ProofKit
import Derived.OpenShut
import Derived.JoinedCond
import Derived.Carry
import Derived.Below
import Derived.ChangeSame
import Derived.Deep.Slices
import Derived.Deep.Fields
import Derived.Lib.SmallJoins
import Derived.SizedLaws
import Derived.Test.YtojoehfldbimpaaGreatDoorM2
namespace Go.Proofs.YtojoehfldbimpaaGreatDoor.Pl
open Go Go.RowKit
theorem w_sleast {h : FH} {w : World} (hs : Sub h w) (ht : TabH Tryz.prog h) (k : Srch) (ak : Option Addr) (ck : Nat) (_q1 : RSl h ak k.t.init) (_q2 : k.t.init.length ≤ ck) (ak2 : Option Addr) (ck2 : Nat) (_q3 : RSl h ak2 k.t.goal) (_q4 : k.t.goal.length ≤ ck2) (ak3 : Option Addr) (ck3 : Nat) (_q5 : RSl h ak3 k.t.ops) (_q6 : k.t.ops.length ≤ ck3) (ak4 : Option Addr) (ck4 : Nat) (_q7 : RSl h ak4 k.sN) (_q8 : k.sN.length ≤ ck4) (pk : Addr) (bk : Nat) (tr : List TNode) (ta : Option Addr) (tc : Nat) {gX : FH} (ownX : SrX (srInv k) pk [iV k.t.facts, .slice ak k.t.init.length ck, .slice ak2 k.t.goal.length ck2, .slice ak3 k.t.ops.length ck3, .slice ak4 k.sN.length ck4] bk 102 ta tc tr gX) (subX : Sub gX w) (disX : Disj h gX) (worlds : List (List Int)) (aworlds : Option Addr) (cworlds : Nat) (_q9 : RSl h aworlds worlds) (_q10 : worlds.length ≤ cworlds) (most : Int) (K : Int → Prop) (hF : F_sleast k worlds most K) : Calls Tryz.prog 72 #[.pointer (some pk), .slice aworlds worlds.length cworlds, iV most] w fun e w' => ∃ r : Int, K r ∧ e = .returned (iV r) ∧ SH (Kp.ex w h gX) h w' [SrX (srInv k) pk [iV k.t.facts, .slice ak k.t.init.length ck, .slice ak2 k.t.goal.length ck2, .slice ak3 k.t.ops.length ck3, .slice ak4 k.sN.length ck4] bk 102 ta tc tr] := by
 refine enterX (X := SrX (srInv k) pk (tF k.t ak ck ak2 ck2 ak3 ck3 [vSl ak4 k.sN ck4]) bk 102 ta tc tr) (args := [.pointer (some pk), vSl aworlds worlds cworlds, iV most]) Tryz.func72 rfl Tryz.ntmps72 rfl hs subX disX ownX ?_
 refine .open1 rfl (fun m q11 => ?_)
 replace hF := hF m q11
 refine .KA [Box pk (tF k.t ak ck ak2 ck2 ak3 ck3 [vSl ak4 k.sN ck4, .map (some bk), vSl ta tr tc]), OwnMap bk m, oL 102 5 ta tr tc] ?_
 refine .seq (.region (.V ag0 ?_))
 refine .nil (.seqN (.seq (.seq (.region (.V mv0 ?_)))))
 refine .V bi0 ?_
 refine .V mv0 ?_
 refine .nil (.seqN (.block ?_))
 obtain ⟨I1, μ1, q104, q105⟩ := hF
 refine .loop' (σ := Int × (List UInt8 → Int)) (fun z => I1 z.1 z.2) (fun z => μ1 z.1 z.2) (fun z => [(0, .pointer (some pk)), (1, vSl aworlds worlds cworlds), (9, iV (wr (most + 1))), (10, iV z.1)]) (fun z => [Box pk (tF k.t ak ck ak2 ck2 ak3 ck3 [vSl ak4 k.sN ck4, .map (some bk), vSl ta tr tc]), OwnMap bk z.2, oL 102 5 ta tr tc]) (fun _ => h) (0, m) q104 sb rfl (FH.le_refl _) ?_
 rintro ⟨t10, m2⟩ q104
 have hF := q105 t10 m2 q104
 show J _ _ _ _ _ [(0, .pointer (some pk)), (1, vSl aworlds worlds cworlds), (9, iV (wr (most + 1))), (10, iV t10)] [Box pk (tF k.t ak ck ak2 ck2 ak3 ck3 [vSl ak4 k.sN ck4, .map (some bk), vSl ta tr tc]), OwnMap bk m2, oL 102 5 ta tr tc] h
 refine .seq (.region (.V bi0 ?_))
 refine .nil (.seqN (.seq ?_))
 refine .cond rfl (fun q108 => ?_) (fun q108 => ?_)
 ·replace hF := hF.1 q108
  refine .skip (.seqN (.seq (.block (.seq (.region (.V mv0 ?_))))))
  refine .V ag0 ?_
  refine .nil (.seqN (.seq (.region (.V mv0 ?_))))
  refine .V mv0 ?_
  refine .V mv0 ?_
  obtain ⟨q119, q120, hF⟩ := hF
  obtain ⟨r2, q121⟩ : ∃ y_ : Bool, y_ = sp_scan k worlds t10 := ⟨_, rfl⟩
  replace hF := hF r2 q121
  refine callS (i := 0) (j := 1) (k := 2) (inv := srInv k) (pre := (tF k.t ak ck ak2 ck2 ak3 ck3 [vSl ak4 k.sN ck4])) (xs := tr) (v := .bool r2) rfl rfl rfl rfl rfl rfl rfl rfl q119 Tryz.call98 rfl rfl (fun w g hx sg hd hs' => ?_) rfl (fun m4 q122 => ?_)
  ·rw [q121]; exact c_scan hs' (ht.mono (FH.le_refl _)) k ak ck _q1 _q2 ak2 ck2 _q3 _q4 ak3 ck3 _q5 _q6 ak4 ck4 _q7 _q8 pk bk tr ta tc hx sg hd worlds aworlds cworlds _q9 _q10 t10 q120
  replace hF := hF m4 q122
  refine .KA [Box pk (tF k.t ak ck ak2 ck2 ak3 ck3 [vSl ak4 k.sN ck4, .map (some bk), vSl ta tr tc]), OwnMap bk m4, oL 102 5 ta tr tc] ?_
  refine .nil (.seqN ?_)
  refine .cond rfl (fun q123 => ?_) (fun q123 => ?_)
  ·replace hF := hF.1 q123
   refine .seq (.region (.V mv0 ?_))
   refine .V ag0 ?_
   refine .nil (.seqN (.ret (.blkR (.seqR (.seqR (.blkR (.seqR ?_)))))))
   refine .closeX (i := 0) (j := 1) (k := 2) (inv := srInv k) (pre := (tF k.t ak ck ak2 ck2 ak3 ck3 [vSl ak4 k.sN ck4])) (xs := tr) rfl rfl rfl rfl rfl rfl rfl rfl q122 ?_
   refine .res1 rfl (rvT rfl) (fun w' S => ⟨t10, hF, rfl, (S.pick (k := 0) rfl)⟩)
  replace hF := hF.2 q123
  refine .skip (.blkN (.seqN (.region (.V bi0 ?_))))
  refine .V mv0 ?_
  refine .nil ?_
  exact .RO (wr (t10 + 1), m4) hF.1 hF.2
 replace hF := hF.2 q108
 refine .exit (.seqX (.seqX (.blkX (.seqN (.seq (.region (.V ag0 ?_)))))))
 refine .nil (.seqN (.ret ?_))
 obtain ⟨q124, hF⟩ := hF
 refine .closeX (i := 0) (j := 1) (k := 2) (inv := srInv k) (pre := (tF k.t ak ck ak2 ck2 ak3 ck3 [vSl ak4 k.sN ck4])) (xs := tr) rfl rfl rfl rfl rfl rfl rfl rfl q124 ?_
 refine .res1 rfl (rvT rfl) (fun w' S => ⟨(-1), hF, rfl, (S.pick (k := 0) rfl)⟩)
theorem c_sleast {h : FH} {w : World} (hs : Sub h w) (ht : TabH Tryz.prog h) (k : Srch) (ak : Option Addr) (ck : Nat) (_q1 : RSl h ak k.t.init) (_q2 : k.t.init.length ≤ ck) (ak2 : Option Addr) (ck2 : Nat) (_q3 : RSl h ak2 k.t.goal) (_q4 : k.t.goal.length ≤ ck2) (ak3 : Option Addr) (ck3 : Nat) (_q5 : RSl h ak3 k.t.ops) (_q6 : k.t.ops.length ≤ ck3) (ak4 : Option Addr) (ck4 : Nat) (_q7 : RSl h ak4 k.sN) (_q8 : k.sN.length ≤ ck4) (pk : Addr) (bk : Nat) (tr : List TNode) (ta : Option Addr) (tc : Nat) {gX : FH} (ownX : SrX (srInv k) pk [iV k.t.facts, .slice ak k.t.init.length ck, .slice ak2 k.t.goal.length ck2, .slice ak3 k.t.ops.length ck3, .slice ak4 k.sN.length ck4] bk 102 ta tc tr gX) (subX : Sub gX w) (disX : Disj h gX) (worlds : List (List Int)) (aworlds : Option Addr) (cworlds : Nat) (_q9 : RSl h aworlds worlds) (_q10 : worlds.length ≤ cworlds) (most : Int) (hp : pre_sleast k worlds most) : Calls Tryz.prog 72 #[.pointer (some pk), .slice aworlds worlds.length cworlds, iV most] w fun e w' => e = .returned (iV (sp_sleast k worlds most)) ∧ SH (Kp.ex w h gX) h w' [SrX (srInv k) pk [iV k.t.facts, .slice ak k.t.init.length ck, .slice ak2 k.t.goal.length ck2, .slice ak3 k.t.ops.length ck3, .slice ak4 k.sN.length ck4] bk 102 ta tc tr] :=
 (w_sleast hs ht k ak ck _q1 _q2 ak2 ck2 _q3 _q4 ak3 ck3 _q5 _q6 ak4 ck4 _q7 _q8 pk bk tr ta tc ownX subX disX worlds aworlds cworlds _q9 _q10 most (fun r => r = sp_sleast k worlds most) (ok_sleast k worlds most hp)).mono fun _ _ ⟨r, hk, he, hS⟩ => by subst hk; exact ⟨he, hS⟩
theorem w_sput {h : FH} {w : World} (hs : Sub h w) (k : Srch) (ak : Option Addr) (ck : Nat) (_q1 : RSl h ak k.t.init) (_q2 : k.t.init.length ≤ ck) (ak2 : Option Addr) (ck2 : Nat) (_q3 : RSl h ak2 k.t.goal) (_q4 : k.t.goal.length ≤ ck2) (ak3 : Option Addr) (ck3 : Nat) (_q5 : RSl h ak3 k.t.ops) (_q6 : k.t.ops.length ≤ ck3) (ak4 : Option Addr) (ck4 : Nat) (_q7 : RSl h ak4 k.sN) (_q8 : k.sN.length ≤ ck4) (pk : Addr) (bk : Nat) (tr : List TNode) (ta : Option Addr) (tc : Nat) {gX : FH} (ownX : SrX (srInv k) pk [iV k.t.facts, .slice ak k.t.init.length ck, .slice ak2 k.t.goal.length ck2, .slice ak3 k.t.ops.length ck3, .slice ak4 k.sN.length ck4] bk 102 ta tc tr gX) (subX : Sub gX w) (disX : Disj h gX) (n_ : TNode) (K : (Int × (List TNode)) → Prop) (hF : F_sput k tr n_ K) : Calls Tryz.prog 99 #[.pointer (some pk), .agg #[iV n_.kind, iV n_.op, iV n_.fact, iV n_.yes, iV n_.no]] w fun e w' => ∃ (r : Int × (List TNode)) (a' : Option Addr) (c' : Nat), K r ∧ e = .returned (iV r.1) ∧ SH (Kp.ex w h gX) h w' [SrX (srInv k) pk [iV k.t.facts, .slice ak k.t.init.length ck, .slice ak2 k.t.goal.length ck2, .slice ak3 k.t.ops.length ck3, .slice ak4 k.sN.length ck4] bk 102 a' c' r.2] := by
 refine enterX (X := SrX (srInv k) pk (tF k.t ak ck ak2 ck2 ak3 ck3 [vSl ak4 k.sN ck4]) bk 102 ta tc tr) (args := [.pointer (some pk), .agg #[iV n_.kind, iV n_.op, iV n_.fact, iV n_.yes, iV n_.no]]) Tryz.func99 rfl Tryz.ntmps99 rfl hs subX disX ownX ?_
 refine .open1 rfl (fun m q9 => ?_)
 replace hF := hF m q9
 refine .KA [Box pk (tF k.t ak ck ak2 ck2 ak3 ck3 [vSl ak4 k.sN ck4, .map (some bk), vSl ta tr tc]), OwnMap bk m, oL 102 5 ta tr tc] ?_
 refine .seq (.region ?_)
 refine bx (vs := [iV n_.kind, iV n_.op, iV n_.fact, iV n_.yes, iV n_.no]) rfl rfl rfl (fun pn => ?_)
 refine .V ag0 ?_
 refine .nil (.seqN (.seq ?_))
 refine .openA (s0 := [(0, .pointer (some pk)), (3, .pointer (some pn))]) [0, 1, 2, 3, 4, 5] [(0, .pointer (some pk)), (1, .pointer (some pk)), (2, .pointer (some pk)), (3, .pointer (some (pk.add 6))), (4, vSl ta tr tc), (5, .agg #[iV n_.kind, iV n_.op, iV n_.fact, iV n_.yes, iV n_.no])] (by kernel_rfl) sb [0, 3] [] rfl (by kernel_rfl) ?_
 refine .step [6] 6 rfl (by kernel_rfl) (by kernel_rfl) (.v [] rfl rfl rfl rfl rfl rfl (fun _ => mv rfl) (.v [] rfl rfl rfl rfl rfl rfl (fun _ => mv rfl) (.v [(6, .pointer (some pk))] rfl rfl rfl rfl rfl rfl (fun _ => nck rfl) (.v [(7, .pointer (some pk))] rfl rfl rfl rfl rfl rfl (fun _ => fa rfl tF99_3) (.v [(8, .pointer (some (pk.add 6)))] rfl rfl rfl rfl rfl rfl (fun _ => ld1 rfl tO60 (cellB (off := 6) (k := 1) rfl rfl)) (.v [] rfl rfl rfl rfl rfl rfl (fun _ => ldA (cs := [iV n_.kind, iV n_.op, iV n_.fact, iV n_.yes, iV n_.no]) rfl tA102 rfl (cellsB (off := 0) (k := 0) rfl (m := 5) rfl)) (.nil))))))) (.cons [(10, .agg #[iV n_.kind, iV n_.op, iV n_.fact, iV n_.yes, iV n_.no])] rfl rfl (fun sL hL => ?_) (.nil))
 refine bs1S (cs := #[iV n_.kind, iV n_.op, iV n_.fact, iV n_.yes, iV n_.no]) tS60 rfl rfl (by decide) rfl rfl (fun a _ => ?_)
 refine .KA [oL 102 5 a ([n_] : List TNode) 1, Box pn [iV n_.kind, iV n_.op, iV n_.fact, iV n_.yes, iV n_.no], Box pk (tF k.t ak ck ak2 ck2 ak3 ck3 [vSl ak4 k.sN ck4, .map (some bk), vSl ta tr tc]), OwnMap bk m, oL 102 5 ta tr tc] ?_
 refine .nil ?_
 refine .ja (M := [5]) (C' := [0, 1, 2, 3, 4]) (pre := [(6, .slice a (([n_] : List TNode).length) 1)]) [(0, .pointer (some pk)), (3, .pointer (some pn))] [0, 3] hL rfl rfl rfl rfl rfl sb rfl rfl (by kernel_rfl) ?_
 refine .step [7] 7 rfl (by kernel_rfl) (by kernel_rfl) (.v [] rfl rfl rfl rfl rfl rfl (fun _ => mv rfl) (.v [] rfl rfl rfl rfl rfl rfl (fun _ => mv rfl) (.v [(6, .pointer (some pk))] rfl rfl rfl rfl rfl rfl (fun _ => nck rfl) (.v [(7, .pointer (some pk))] rfl rfl rfl rfl rfl rfl (fun _ => fa rfl tF99_3) (.v [(8, .pointer (some (pk.add 6)))] rfl rfl rfl rfl rfl rfl (fun _ => ld1 rfl tO60 (cellB (off := 6) (k := 2) rfl rfl)) (.nil)))))) (.cons [(9, vSl ta tr tc), (11, .slice a (([n_] : List TNode).length) 1)] rfl rfl (fun sL hL => ?_) (.nil))
 obtain ⟨q14, hF⟩ := hF
 have q15 : tr.length + ([n_] : List TNode).length = ((tr ++ ([n_] : List TNode))).length := len_app rfl rfl
 refine app (k := 4) (news := flL ([n_] : List TNode)) (cs' := flL (tr ++ ([n_] : List TNode))) (nm := ((tr ++ ([n_] : List TNode))).length) tS60 rfl (by decide) rfl rfl rfl (by rw [flL_len]; rfl) (srcS (k := 0) rfl) (flL_one _) (room_of q15 q14).1 (room_of q15 q14).2 q15 (flL_append _ _).symm rfl (fun a2 c => ?_)
 refine .KA [oL 102 5 a ([n_] : List TNode) 1, Box pn [iV n_.kind, iV n_.op, iV n_.fact, iV n_.yes, iV n_.no], Box pk (tF k.t ak ck ak2 ck2 ak3 ck3 [vSl ak4 k.sN ck4, .map (some bk), vSl ta tr tc]), OwnMap bk m, oL 102 5 a2 (tr ++ ([n_] : List TNode)) c] ?_
 refine .nil ?_
 refine .ja (M := [4, 3, 2, 1]) (C' := [0, 8, 9]) (pre := [(7, .slice a2 ((tr ++ ([n_] : List TNode)).length) c), (8, .pointer (some pk)), (9, .pointer (some (pk.add 6)))]) [(0, .pointer (some pk)), (3, .pointer (some pn))] [0, 3] hL rfl rfl rfl rfl rfl sb rfl rfl (by kernel_rfl) ?_
 refine .step [10] 10 rfl (by kernel_rfl) (by kernel_rfl) (.v [] rfl rfl rfl rfl rfl rfl (fun _ => mv rfl) (.v [(5, .pointer (some pk)), (5, .pointer (some pk)), (6, .pointer (some pk)), (7, .pointer (some pk)), (8, .pointer (some (pk.add 6))), (9, vSl ta tr tc), (10, .agg #[iV n_.kind, iV n_.op, iV n_.fact, iV n_.yes, iV n_.no]), (11, .slice a (([n_] : List TNode).length) 1), (12, .slice a2 ((tr ++ ([n_] : List TNode)).length) c)] rfl rfl rfl rfl rfl rfl (fun _ => nck rfl) (.v [(13, .pointer (some pk)), (5, .pointer (some pk)), (6, .pointer (some pk)), (7, .pointer (some pk)), (8, .pointer (some (pk.add 6))), (9, vSl ta tr tc), (10, .agg #[iV n_.kind, iV n_.op, iV n_.fact, iV n_.yes, iV n_.no]), (11, .slice a (([n_] : List TNode).length) 1), (12, .slice a2 ((tr ++ ([n_] : List TNode)).length) c)] rfl rfl rfl rfl rfl rfl (fun _ => fa rfl tF99_3) (.nil)))) (.cons [(14, .pointer (some (pk.add 6))), (12, .slice a2 ((tr ++ ([n_] : List TNode)).length) c), (12, .slice a2 ((tr ++ ([n_] : List TNode)).length) c), (5, .pointer (some pk)), (6, .pointer (some pk)), (7, .pointer (some pk)), (8, .pointer (some (pk.add 6))), (9, vSl ta tr tc), (10, .agg #[iV n_.kind, iV n_.op, iV n_.fact, iV n_.yes, iV n_.no]), (11, .slice a (([n_] : List TNode).length) 1), (12, .slice a2 ((tr ++ ([n_] : List TNode)).length) c)] rfl rfl (fun sL hL => ?_) (.nil))
 refine st (p := pk) (off := 6) (k := 2) (vs := [.slice a2 ((tr ++ ([n_] : List TNode)).length) c]) rfl rfl rfl (fun w => (tO60 w).2) rfl rfl rfl rfl ?_
 refine .KA [oL 102 5 a ([n_] : List TNode) 1, Box pn [iV n_.kind, iV n_.op, iV n_.fact, iV n_.yes, iV n_.no], Box pk (tF k.t ak ck ak2 ck2 ak3 ck3 [vSl ak4 k.sN ck4, .map (some bk), .slice a2 ((tr ++ ([n_] : List TNode)).length) c]), OwnMap bk m, oL 102 5 a2 (tr ++ ([n_] : List TNode)) c] ?_
 refine .nil ?_
 refine .jaN (M := [9, 0, 8]) (C' := []) (pre := []) [0, 3] hL rfl rfl rfl rfl rfl (by kernel_rfl) ?_
 refine .last [(5, .pointer (some pk)), (6, .pointer (some pk)), (7, .pointer (some pk)), (8, .pointer (some (pk.add 6))), (9, vSl ta tr tc), (10, .agg #[iV n_.kind, iV n_.op, iV n_.fact, iV n_.yes, iV n_.no]), (11, .slice a (([n_] : List TNode).length) 1), (12, .slice a2 ((tr ++ ([n_] : List TNode)).length) c), (13, .pointer (some pk)), (14, .pointer (some (pk.add 6)))] rfl (by kernel_rfl) (.nil) rfl ?_
 refine .seqN (.seq (.region (.V mv0 ?_)))
 refine .V (nck rfl) ?_
 refine .V (fa rfl tF99_3) ?_
 refine .V (ld1 rfl tO60 (cellB (off := 6) (k := 2) rfl rfl)) ?_
 refine .V (ln rfl tS60.is) ?_
 obtain ⟨x, q16⟩ : ∃ y_ : Int, y_ = (wr ((((tr ++ ([n_] : List TNode)).length : Nat) : Int) - 1)) := ⟨_, rfl⟩
 replace hF := hF x q16
 refine .v (v := iV x) (by rw [q16]; exact bi rfl rfl rfl) rfl rfl rfl ?_
 refine .V ag0 ?_
 refine .nil (.seqN (.ret ?_))
 refine .closeX (i := 2) (j := 3) (k := 4) (inv := srInv k) (pre := (tF k.t ak ck ak2 ck2 ak3 ck3 [vSl ak4 k.sN ck4])) (xs := (tr ++ ([n_] : List TNode))) rfl rfl rfl rfl rfl rfl rfl rfl q9 ?_
 refine .res1 rfl (rvT rfl) (fun w' S => ⟨(x, (tr ++ ([n_] : List TNode))), a2, c, hF, rfl, (S.pick (k := 0) rfl)⟩)
theorem c_sput {h : FH} {w : World} (hs : Sub h w) (k : Srch) (ak : Option Addr) (ck : Nat) (_q1 : RSl h ak k.t.init) (_q2 : k.t.init.length ≤ ck) (ak2 : Option Addr) (ck2 : Nat) (_q3 : RSl h ak2 k.t.goal) (_q4 : k.t.goal.length ≤ ck2) (ak3 : Option Addr) (ck3 : Nat) (_q5 : RSl h ak3 k.t.ops) (_q6 : k.t.ops.length ≤ ck3) (ak4 : Option Addr) (ck4 : Nat) (_q7 : RSl h ak4 k.sN) (_q8 : k.sN.length ≤ ck4) (pk : Addr) (bk : Nat) (tr : List TNode) (ta : Option Addr) (tc : Nat) {gX : FH} (ownX : SrX (srInv k) pk [iV k.t.facts, .slice ak k.t.init.length ck, .slice ak2 k.t.goal.length ck2, .slice ak3 k.t.ops.length ck3, .slice ak4 k.sN.length ck4] bk 102 ta tc tr gX) (subX : Sub gX w) (disX : Disj h gX) (n_ : TNode) (hp : pre_sput k tr n_) : Calls Tryz.prog 99 #[.pointer (some pk), .agg #[iV n_.kind, iV n_.op, iV n_.fact, iV n_.yes, iV n_.no]] w fun e w' => ∃ (a' : Option Addr) (c' : Nat), e = .returned (iV (sp_sput k tr n_).1) ∧ SH (Kp.ex w h gX) h w' [SrX (srInv k) pk [iV k.t.facts, .slice ak k.t.init.length ck, .slice ak2 k.t.goal.length ck2, .slice ak3 k.t.ops.length ck3, .slice ak4 k.sN.length ck4] bk 102 a' c' (sp_sput k tr n_).2] :=
 (w_sput hs k ak ck _q1 _q2 ak2 ck2 _q3 _q4 ak3 ck3 _q5 _q6 ak4 ck4 _q7 _q8 pk bk tr ta tc ownX subX disX n_ (fun r => r = sp_sput k tr n_) (ok_sput k tr n_ hp)).mono fun _ _ ⟨r, a', c', hk, he, hS⟩ => by subst hk; exact ⟨a', c', he, hS⟩
set_option maxHeartbeats 8000000 in
theorem w_sbuild {h : FH} {w : World} (hs : Sub h w) (ht : TabH Tryz.prog h) (k : Srch) (ak : Option Addr) (ck : Nat) (_q1 : RSl h ak k.t.init) (_q2 : k.t.init.length ≤ ck) (ak2 : Option Addr) (ck2 : Nat) (_q3 : RSl h ak2 k.t.goal) (_q4 : k.t.goal.length ≤ ck2) (ak3 : Option Addr) (ck3 : Nat) (_q5 : RSl h ak3 k.t.ops) (_q6 : k.t.ops.length ≤ ck3) (ak4 : Option Addr) (ck4 : Nat) (_q7 : RSl h ak4 k.sN) (_q8 : k.sN.length ≤ ck4) (pk : Addr) (bk : Nat) (tr : List TNode) (ta : Option Addr) (tc : Nat) {gX : FH} (ownX : SrX (srInv k) pk [iV k.t.facts, .slice ak k.t.init.length ck, .slice ak2 k.t.goal.length ck2, .slice ak3 k.t.ops.length ck3, .slice ak4 k.sN.length ck4] bk 102 ta tc tr gX) (subX : Sub gX w) (disX : Disj h gX) (worlds : List (List Int)) (aworlds : Option Addr) (cworlds : Nat) (_q9 : RSl h aworlds worlds) (_q10 : worlds.length ≤ cworlds) (depth : Int) (mM : Nat) (hm : mu_sbuild k tr worlds depth = mM) (ih : ∀ {h : FH} {w : World} (_ : Sub h w) (_ : TabH Tryz.prog h) (k : Srch) (ak : Option Addr) (ck : Nat) (_ : RSl h ak k.t.init) (_ : k.t.init.length ≤ ck) (ak2 : Option Addr) (ck2 : Nat) (_ : RSl h ak2 k.t.goal) (_ : k.t.goal.length ≤ ck2) (ak3 : Option Addr) (ck3 : Nat) (_ : RSl h ak3 k.t.ops) (_ : k.t.ops.length ≤ ck3) (ak4 : Option Addr) (ck4 : Nat) (_ : RSl h ak4 k.sN) (_ : k.sN.length ≤ ck4) (pk : Addr) (bk : Nat) (tr : List TNode) (ta : Option Addr) (tc : Nat) {gX : FH} (_ : SrX (srInv k) pk [iV k.t.facts, .slice ak k.t.init.length ck, .slice ak2 k.t.goal.length ck2, .slice ak3 k.t.ops.length ck3, .slice ak4 k.sN.length ck4] bk 102 ta tc tr gX) (_ : Sub gX w) (_ : Disj h gX) (worlds : List (List Int)) (aworlds : Option Addr) (cworlds : Nat) (_ : RSl h aworlds worlds) (_ : worlds.length ≤ cworlds) (depth : Int) (_ : mu_sbuild k tr worlds depth < mM) (_ : pre_sbuild k tr worlds depth), Calls Tryz.prog 73 #[.pointer (some pk), .slice aworlds worlds.length cworlds, iV depth] w fun e w' => ∃ (a' : Option Addr) (c' : Nat), e = .returned (iV (sp_sbuild k tr worlds depth).1) ∧ SH (Kp.ex w h gX) h w' [SrX (srInv k) pk [iV k.t.facts, .slice ak k.t.init.length ck, .slice ak2 k.t.goal.length ck2, .slice ak3 k.t.ops.length ck3, .slice ak4 k.sN.length ck4] bk 102 a' c' (sp_sbuild k tr worlds depth).2]) (K : (Int × (List TNode)) → Prop) (hF : F_sbuild k tr worlds depth K) : Calls Tryz.prog 73 #[.pointer (some pk), .slice aworlds worlds.length cworlds, iV depth] w fun e w' => ∃ (r : Int × (List TNode)) (a' : Option Addr) (c' : Nat), K r ∧ e = .returned (iV r.1) ∧ SH (Kp.ex w h gX) h w' [SrX (srInv k) pk [iV k.t.facts, .slice ak k.t.init.length ck, .slice ak2 k.t.goal.length ck2, .slice ak3 k.t.ops.length ck3, .slice ak4 k.sN.length ck4] bk 102 a' c' r.2] := by
 refine enterXM (X := SrX (srInv k) pk (tF k.t ak ck ak2 ck2 ak3 ck3 [vSl ak4 k.sN ck4]) bk 102 ta tc tr) (args := [.pointer (some pk), vSl aworlds worlds cworlds, iV depth]) Tryz.func73 rfl Tryz.ntmps73 rfl hs subX disX ownX ?_
 refine .open1 rfl (fun m q11 => ?_)
 replace hF := hF m q11
 refine .mk0 ?_
 refine .KA [MkA [], Box pk (tF k.t ak ck ak2 ck2 ak3 ck3 [vSl ak4 k.sN ck4, .map (some bk), vSl ta tr tc]), OwnMap bk m, oL 102 5 ta tr tc] ?_
 refine .seq (.region ?_)
 refine bx (vs := [.pointer (some pk)]) rfl rfl rfl (fun pk2 => ?_)
 refine bx (vs := [iV depth]) rfl rfl rfl (fun pdepth => ?_)
 refine al tZ3 rfl (fun pv => ?_)
 refine .nil (.seqN (.seq (.seq (.region (.V (ld1 rfl tO3 (cellB (off := 0) (k := 1) rfl rfl)) ?_)))))
 refine .V bi0 ?_
 refine .nil (.seqN ?_)
 refine .cond rfl (fun q16 => ?_) (fun q16 => ?_)
 ·replace hF := hF.1 q16
  refine .seq (.region (.V (ld1 rfl tO96 (cellB (off := 0) (k := 2) rfl rfl)) ?_))
  refine .V (bld (cs := #[iV 1, iV 0, iV 0, iV 0, iV 0]) (pv := [(0, iV 1)]) tB102 rfl rfl) ?_
  obtain ⟨q17, hF⟩ := hF
  obtain ⟨r2, q18⟩ : ∃ y_ : Int × (List TNode), y_ = sp_sput k tr (⟨1, 0, 0, 0, 0⟩ : TNode) := ⟨_, rfl⟩
  replace hF := hF r2 q18
  refine callSE (i := 4) (j := 5) (k := 6) (inv := srInv k) (pre := (tF k.t ak ck ak2 ck2 ak3 ck3 [vSl ak4 k.sN ck4])) (xs := tr) (xs' := r2.2) (v := iV r2.1) rfl rfl rfl rfl rfl rfl rfl rfl q11 Tryz.call99 rfl rfl (fun w g hx sg hd hs' => ?_) rfl (fun ta2 tc2 m2 q19 => ?_)
  ·rw [q18]; exact c_sput hs' k ak ck _q1 _q2 ak2 ck2 _q3 _q4 ak3 ck3 _q5 _q6 ak4 ck4 _q7 _q8 pk bk tr ta tc hx sg hd (⟨1, 0, 0, 0, 0⟩ : TNode) q17
  replace hF := hF m2 q19
  refine .KA [Box pv [iV 0], Box pdepth [iV depth], Box pk2 [.pointer (some pk)], MkA [], Box pk (tF k.t ak ck ak2 ck2 ak3 ck3 [vSl ak4 k.sN ck4, .map (some bk), vSl ta2 r2.2 tc2]), OwnMap bk m2, oL 102 5 ta2 r2.2 tc2] ?_
  refine st (p := pv) (off := 0) (k := 0) (vs := [iV r2.1]) rfl rfl rfl (fun w => (tO3 w).2) rfl rfl rfl rfl ?_
  refine .KA [Box pv [iV r2.1], Box pdepth [iV depth], Box pk2 [.pointer (some pk)], MkA [], Box pk (tF k.t ak ck ak2 ck2 ak3 ck3 [vSl ak4 k.sN ck4, .map (some bk), vSl ta2 r2.2 tc2]), OwnMap bk m2, oL 102 5 ta2 r2.2 tc2] ?_
  refine .nil (.seqN (.ret (.seqR ?_)))
  refine .resM (k := 3) rfl ?_
  refine .closeX (i := 4) (j := 5) (k := 6) (inv := srInv k) (pre := (tF k.t ak ck ak2 ck2 ak3 ck3 [vSl ak4 k.sN ck4])) (xs := r2.2) rfl rfl rfl rfl rfl rfl rfl rfl q19 ?_
  refine .res1 rfl (rvC1 rfl tO3 (k := 1) rfl) (fun w' S => ⟨(r2.1, r2.2), ta2, tc2, hF, rfl, (S.pick (k := 0) rfl)⟩)
 replace hF := hF.2 q16
 refine .skip (.seqN (.seq (.seq (.region (.V (ld1 rfl tO96 (cellB (off := 0) (k := 2) rfl rfl)) ?_)))))
 refine .V (nck rfl) ?_
 refine .V (fa rfl tF99_0) ?_
 refine .V (ldA (cs := (tF k.t ak ck ak2 ck2 ak3 ck3)) rfl tA25 rfl (cellsB (off := 0) (k := 4) rfl (m := 4) rfl)) ?_
 refine .V mv0 ?_
 obtain ⟨r3, q20⟩ : ∃ y_ : Unit, y_ = sp_succ k.t worlds := ⟨_, rfl⟩
 replace hF := hF r3 q20
 refine clR (α := Addr × Addr) (Φ := fun h1 z => CellsAt h1 z.1 (tF k.t ak ck ak2 ck2 ak3 ck3) ∧ CellsAt h1 z.2 [vSl aworlds worlds cworlds]) (V := fun z => .func (.func 103) #[] #[.pointer (some z.1), .pointer (some z.2)]) Tryz.call81 rfl rfl (fun w S => (by exact c_succ S.sub k.t ak ck _q1 _q2 ak2 ck2 _q3 _q4 ak3 ck3 _q5 _q6 worlds aworlds cworlds _q9 _q10 )) rfl (fun z h1 le1 hz => ?_)
 obtain ⟨p, p2⟩ := z
 obtain ⟨q21, q22⟩ := hz
 refine .nil (.seqN (.block ?_))
 refine .sub (s' := [(1, vSl aworlds worlds cworlds), (3, .pointer (some pk2)), (5, .pointer (some pdepth)), (6, .pointer (some pv)), (27, .func (.func 103) #[] #[.pointer (some p), .pointer (some p2)])]) sb ?_
 refine .rangeF (k := 3) (caps := [.pointer (some p), .pointer (some p2)]) rfl rfl Tryz.func103 rfl Tryz.ntmps103 rfl Tryz.call103 (fun l D LA a q249 q250 => ?_)
 refine .KA [LA .ready none, Box pv [iV 0], Box pdepth [iV depth], Box pk2 [.pointer (some pk)], MkA (D :: []), Box pk (tF k.t ak ck ak2 ck2 ak3 ck3 [vSl ak4 k.sN ck4, .map (some bk), vSl ta tr tc]), OwnMap bk m, oL 102 5 ta tr tc] ?_
 refine .seq (.region (.V (fa rfl tF25_3) ?_))
 refine .V (ld1 (v := vSl ak3 k.t.ops ck3) rfl tO23 (cellH (CellsAt.mono (FH.le_refl _) q21 3 _ rfl))) ?_
 refine .V (ln rfl tS23.is) ?_
 refine .V mv0 ?_
 refine .nil (.seqN (.block ?_))
 refine .sel0 [0, 3, 2, 1, 4, 5, 6, 7] (by decide) rfl ?_
 obtain ⟨I1, μ1, q399, q400⟩ := hF
 refine .loop' (σ := Int × (List UInt8 → Int)) (fun z => I1 z.1 z.2) (fun z => μ1 z.1 z.2) (fun z => [(0, .func (.yield l) #[] #[]), (1, .pointer (some p)), (2, .pointer (some p2)), (7, vSl ak3 k.t.ops ck3), (8, iV ((k.t.ops.length : Nat) : Int)), (9, iV z.1)]) (fun z => [LA .ready none, Box pk2 [.pointer (some pk)], Box pdepth [iV depth], Box pv [iV 0], MkA (D :: []), Box pk (tF k.t ak ck ak2 ck2 ak3 ck3 [vSl ak4 k.sN ck4, .map (some bk), vSl ta tr tc]), OwnMap bk z.2, oL 102 5 ta tr tc]) (fun _ => h1) (0, m) q399 sb rfl (FH.le_refl _) ?_
 rintro ⟨d, m3⟩ q399
 have hF := q400 d m3 q399
 show J _ _ _ _ _ [(0, .func (.yield l) #[] #[]), (1, .pointer (some p)), (2, .pointer (some p2)), (7, vSl ak3 k.t.ops ck3), (8, iV ((k.t.ops.length : Nat) : Int)), (9, iV d)] [LA .ready none, Box pk2 [.pointer (some pk)], Box pdepth [iV depth], Box pv [iV 0], MkA (D :: []), Box pk (tF k.t ak ck ak2 ck2 ak3 ck3 [vSl ak4 k.sN ck4, .map (some bk), vSl ta tr tc]), OwnMap bk m3, oL 102 5 ta tr tc] h1
 refine .seq (.region (.V bi0 ?_))
 refine .nil (.seqN (.seq ?_))
 refine .cond rfl (fun q403 => ?_) (fun q403 => ?_)
 ·replace hF := hF.1 q403
  refine .skip (.seqN ?_)
  refine .share (σ := (List UInt8 → Int)) (fun z => F_sbuild_J1 m3 z d I1 μ1) (fun _ => [(0, .func (.yield l) #[] #[]), (1, .pointer (some p)), (2, .pointer (some p2)), (7, vSl ak3 k.t.ops ck3), (8, iV ((k.t.ops.length : Nat) : Int)), (9, iV d)]) (fun z => [LA .ready none, Box pk2 [.pointer (some pk)], Box pdepth [iV depth], Box pv [iV 0], MkA (D :: []), Box pk (tF k.t ak ck ak2 ck2 ak3 ck3 [vSl ak4 k.sN ck4, .map (some bk), vSl ta tr tc]), OwnMap bk z, oL 102 5 ta tr tc]) (fun _ => h1) ?_ (fun q439 => ?_)
  ·rintro m5 hF
   show J _ _ _ _ _ [(0, .func (.yield l) #[] #[]), (1, .pointer (some p)), (2, .pointer (some p2)), (7, vSl ak3 k.t.ops ck3), (8, iV ((k.t.ops.length : Nat) : Int)), (9, iV d)] [LA .ready none, Box pk2 [.pointer (some pk)], Box pdepth [iV depth], Box pv [iV 0], MkA (D :: []), Box pk (tF k.t ak ck ak2 ck2 ak3 ck3 [vSl ak4 k.sN ck4, .map (some bk), vSl ta tr tc]), OwnMap bk m5, oL 102 5 ta tr tc] h1
   refine .region (.V bi0 ?_)
   refine .V mv0 ?_
   refine .nil ?_
   exact .RO (wr (d + 1), m5) hF.1 hF.2
  refine .block (.seq (.region (.V mv0 ?_)))
  obtain ⟨q440, hF⟩ := hF
  refine .V (ix rfl rfl tS23 (_q5.ne (by decide) (inb_pos q440)) q440) ?_
  obtain ⟨_, ⟨a2, c, a3, c2, a4, c3, rfl, ⟨q441, q442⟩, ⟨q443, q444⟩, q445, q446⟩, q447⟩ := _q5.elem q440
  refine .V (ldA (cs := [.slice a2 ((gt k.t.ops d).pre.length) c, .slice a3 ((gt k.t.ops d).add.length) c2, .slice a4 ((gt k.t.ops d).del.length) c3, iV ((gt k.t.ops d).cost)]) rfl tA54 rfl (cellsH ((fun q => (q447 q).mono (le1)) (by decide)))) ?_
  refine al tZ54 rfl (fun pdepth2 => ?_)
  refine .V ag0 ?_
  refine st (p := pdepth2) (off := 0) (k := 0) (vs := [.slice a2 ((gt k.t.ops d).pre.length) c, .slice a3 ((gt k.t.ops d).add.length) c2, .slice a4 ((gt k.t.ops d).del.length) c3, iV ((gt k.t.ops d).cost)]) rfl rfl rfl (fun w => (tA54 w).2) rfl rfl rfl rfl ?_
  refine .KA [Box pdepth2 [.slice a2 ((gt k.t.ops d).pre.length) c, .slice a3 ((gt k.t.ops d).add.length) c2, .slice a4 ((gt k.t.ops d).del.length) c3, iV ((gt k.t.ops d).cost)], LA .ready none, Box pk2 [.pointer (some pk)], Box pdepth [iV depth], Box pv [iV 0], MkA (D :: []), Box pk (tF k.t ak ck ak2 ck2 ak3 ck3 [vSl ak4 k.sN ck4, .map (some bk), vSl ta tr tc]), OwnMap bk m3, oL 102 5 ta tr tc] ?_
  refine .nil (.seqN (.seq (.region (.V (ld1 (v := vSl aworlds worlds cworlds) rfl tO35 (cellH (CellsAt.mono (FH.le_refl _) q22 0 _ rfl))) ?_))))
  refine .V (fa rfl tF54_0) ?_
  refine .V (ld1 rfl tO22 (cellB (off := 0) (k := 0) rfl rfl)) ?_
  obtain ⟨q448, hF⟩ := hF
  obtain ⟨r4, q449⟩ : ∃ y_ : Bool, y_ = sp_sure worlds ((gt k.t.ops d).pre) := ⟨_, rfl⟩
  replace hF := hF r4 q449
  refine .C (cl (v := .bool r4) Tryz.call52 rfl rfl (fun w S => (by rw [q449]; exact c_sure S.sub worlds aworlds cworlds (_q9.mono (le1)) _q10 ((gt k.t.ops d).pre) a2 c (q442.mono (le1)) q441 q448))) ?_
  refine .V mv0 ?_
  rcases Bool.eq_false_or_eq_true (r4) with q450 | q450
  ·replace hF := hF.1 q450
   refine .GV mv0 q450 ?_
   refine .GV mv0 q450 ?_
   refine .GV (ldA (cs := (tF k.t ak ck ak2 ck2 ak3 ck3)) rfl tA25 rfl (cellsH (q21.mono (FH.le_refl _)))) q450 ?_
   refine .GV (ld1 (v := vSl aworlds worlds cworlds) rfl tO35 (cellH (CellsAt.mono (FH.le_refl _) q22 0 _ rfl))) q450 ?_
   refine .GV mv0 q450 ?_
   obtain ⟨q451, hF⟩ := hF
   obtain ⟨r5, q452⟩ : ∃ y_ : List (List Int), y_ = sp_bafter k.t worlds d := ⟨_, rfl⟩
   replace hF := hF r5 q452
   refine .gR rfl rfl rfl q450 ?_
   refine clR (α := Option Addr × Nat) (Φ := fun h1 z => RSl h1 z.1 r5 ∧ r5.length ≤ z.2) (V := fun z => vSl z.1 r5 z.2) Tryz.call60 rfl rfl (fun w S => (by rw [q452]; exact c_bafter S.sub k.t ak ck (_q1.mono (le1)) _q2 ak2 ck2 (_q3.mono (le1)) _q4 ak3 ck3 (_q5.mono (le1)) _q6 worlds aworlds cworlds (_q9.mono (le1)) _q10 d q451)) rfl (fun z h13 le13 hz => ?_)
   obtain ⟨a5, c4⟩ := z
   obtain ⟨q453, q454⟩ := hz
   refine .gR rfl rfl rfl q450 ?_
   refine .yld (k := 1) (vs := [iV d, vSl a5 r5 c4]) q249 rfl rfl rfl rfl rfl (fun aG q455 => ?_)
   refine .sub (s' := [(3, .pointer (some pk2)), (5, .pointer (some pdepth)), (6, .pointer (some pv)), (28, iV d), (29, vSl a5 r5 c4)]) sb ?_
   refine .seq (.region (.V ag0 ?_))
   refine .nil (.seqN (.region (.V ag0 ?_)))
   refine .nil ?_
   refine .begin_ (k := 1) q249 rfl ?_
   refine .KA [Box pdepth2 [.slice a2 ((gt k.t.ops d).pre.length) c, .slice a3 ((gt k.t.ops d).add.length) c2, .slice a4 ((gt k.t.ops d).del.length) c3, iV ((gt k.t.ops d).cost)], LA .busy none, Box pk2 [.pointer (some pk)], Box pdepth [iV depth], Box pv [iV 0], MkA (D :: []), Box pk (tF k.t ak ck ak2 ck2 ak3 ck3 [vSl ak4 k.sN ck4, .map (some bk), vSl ta tr tc]), OwnMap bk m3, oL 102 5 ta tr tc] ?_
   refine .block (.seq (.region (.V (ld1 rfl tO96 (cellB (off := 0) (k := 2) rfl rfl)) ?_)))
   refine .V mv0 ?_
   refine .V (ld1 rfl tO3 (cellB (off := 0) (k := 3) rfl rfl)) ?_
   refine .V bi0 ?_
   obtain ⟨q456, q457, hF⟩ := hF
   obtain ⟨r6, q458⟩ : ∃ y_ : Int, y_ = sp_sleast k r5 (wr (depth - 1)) := ⟨_, rfl⟩
   replace hF := hF r6 q458
   refine callS (i := 6) (j := 7) (k := 8) (inv := srInv k) (pre := (tF k.t ak ck ak2 ck2 ak3 ck3 [vSl ak4 k.sN ck4])) (xs := tr) (v := iV r6) rfl rfl rfl rfl rfl rfl rfl rfl q456 Tryz.call72 rfl rfl (fun w g hx sg hd hs' => ?_) rfl (fun m6 q459 => ?_)
   ·rw [q458]; exact c_sleast hs' (ht.mono (FH.le_trans (le1) (le13))) k ak ck (_q1.mono (FH.le_trans (le1) (le13))) _q2 ak2 ck2 (_q3.mono (FH.le_trans (le1) (le13))) _q4 ak3 ck3 (_q5.mono (FH.le_trans (le1) (le13))) _q6 ak4 ck4 (_q7.mono (FH.le_trans (le1) (le13))) _q8 pk bk tr ta tc hx sg hd r5 a5 c4 q453 q454 (wr (depth - 1)) q457
   replace hF := hF m6 q459
   refine .KA [Box pdepth2 [.slice a2 ((gt k.t.ops d).pre.length) c, .slice a3 ((gt k.t.ops d).add.length) c2, .slice a4 ((gt k.t.ops d).del.length) c3, iV ((gt k.t.ops d).cost)], LA .busy none, Box pk2 [.pointer (some pk)], Box pdepth [iV depth], Box pv [iV 0], MkA (D :: []), Box pk (tF k.t ak ck ak2 ck2 ak3 ck3 [vSl ak4 k.sN ck4, .map (some bk), vSl ta tr tc]), OwnMap bk m6, oL 102 5 ta tr tc] ?_
   refine .V ag0 ?_
   refine .nil (.seqN (.seq (.region (.V mv0 ?_))))
   refine .V bi0 ?_
   refine .nil (.seqN ?_)
   refine .cond rfl (fun q460 => ?_) (fun q460 => ?_)
   ·replace hF := hF.1 q460
    refine .seq ?_
    refine .openA (s0 := [(3, .pointer (some pk2)), (6, .pointer (some pv)), (7, iV d), (8, vSl a5 r5 c4), (9, iV r6)]) [0, 1, 2, 3, 4] [(0, .pointer (some pk)), (1, iV d), (2, .pointer (some pk)), (3, vSl a5 r5 c4), (4, iV r6)] (by kernel_rfl) sb [3, 6, 7, 8, 9] [] rfl (by kernel_rfl) ?_
    refine .step [5] 5 rfl (by kernel_rfl) (by kernel_rfl) (.v [] rfl rfl rfl rfl rfl rfl (fun _ => ld1 rfl tO96 (cellB (off := 0) (k := 2) rfl rfl)) (.v [] rfl rfl rfl rfl rfl rfl (fun _ => mv rfl) (.v [] rfl rfl rfl rfl rfl rfl (fun _ => ld1 rfl tO96 (cellB (off := 0) (k := 2) rfl rfl)) (.v [] rfl rfl rfl rfl rfl rfl (fun _ => mv rfl) (.v [] rfl rfl rfl rfl rfl rfl (fun _ => mv rfl) (.nil)))))) (.cons [(39, .pointer (some pk)), (40, vSl a5 r5 c4), (41, iV r6)] rfl rfl (fun sL hL => ?_) (.nil))
    obtain ⟨q468, q469, hF⟩ := hF
    obtain ⟨r7, q470⟩ : ∃ y_ : Int × (List TNode), y_ = sp_sbuild k tr r5 r6 := ⟨_, rfl⟩
    replace hF := hF r7 q470
    refine callSE (i := 6) (j := 7) (k := 8) (inv := srInv k) (pre := (tF k.t ak ck ak2 ck2 ak3 ck3 [vSl ak4 k.sN ck4])) (xs := tr) (xs' := r7.2) (v := iV r7.1) rfl rfl rfl rfl rfl rfl rfl rfl q459 Tryz.call73 rfl rfl (fun w g hx sg hd hs' => ?_) rfl (fun ta3 tc3 m7 q471 => ?_)
    ·rw [q470]; exact ih hs' (ht.mono (FH.le_trans (le1) (le13))) k ak ck (_q1.mono (FH.le_trans (le1) (le13))) _q2 ak2 ck2 (_q3.mono (FH.le_trans (le1) (le13))) _q4 ak3 ck3 (_q5.mono (FH.le_trans (le1) (le13))) _q6 ak4 ck4 (_q7.mono (FH.le_trans (le1) (le13))) _q8 pk bk tr ta tc hx sg hd r5 a5 c4 q453 q454 r6 (by rw [← hm]; exact q469) q468
    replace hF := hF m7 q471
    refine .KA [Box pdepth2 [.slice a2 ((gt k.t.ops d).pre.length) c, .slice a3 ((gt k.t.ops d).add.length) c2, .slice a4 ((gt k.t.ops d).del.length) c3, iV ((gt k.t.ops d).cost)], LA .busy none, Box pk2 [.pointer (some pk)], Box pdepth [iV depth], Box pv [iV 0], MkA (D :: []), Box pk (tF k.t ak ck ak2 ck2 ak3 ck3 [vSl ak4 k.sN ck4, .map (some bk), vSl ta3 r7.2 tc3]), OwnMap bk m7, oL 102 5 ta3 r7.2 tc3] ?_
    refine .nil ?_
    refine .ja (M := [2, 3, 4]) (C' := [0, 1, 6]) (pre := [(5, iV r7.1), (6, .agg #[iV 2, iV d, iV 0, iV r7.1, iV 0])]) [(3, .pointer (some pk2)), (6, .pointer (some pv)), (7, iV d), (8, vSl a5 r5 c4), (9, iV r6)] [3, 6, 7, 8, 9] hL rfl rfl rfl rfl rfl sb rfl rfl (by kernel_rfl) ?_
    refine .step [7] 7 rfl (by kernel_rfl) (by kernel_rfl) (.v [] rfl rfl rfl rfl rfl rfl (fun _ => ld1 rfl tO96 (cellB (off := 0) (k := 2) rfl rfl)) (.v [] rfl rfl rfl rfl rfl rfl (fun _ => mv rfl) (.v [(38, iV d), (42, iV r7.1)] rfl rfl rfl rfl rfl rfl (fun _ => bld (cs := #[iV 2, iV d, iV 0, iV r7.1, iV 0]) (pv := [(0, iV 2), (1, iV d), (3, iV r7.1)]) tB102 rfl rfl) (.nil)))) (.cons [(37, .pointer (some pk)), (43, .agg #[iV 2, iV d, iV 0, iV r7.1, iV 0]), (42, iV r7.1)] rfl rfl (fun sL hL => ?_) (.nil))
    obtain ⟨q472, hF⟩ := hF
    obtain ⟨r8, q473⟩ : ∃ y_ : Int × (List TNode), y_ = sp_sput k r7.2 (⟨2, d, 0, r7.1, 0⟩ : TNode) := ⟨_, rfl⟩
    replace hF := hF r8 q473
    refine callSE (i := 6) (j := 7) (k := 8) (inv := srInv k) (pre := (tF k.t ak ck ak2 ck2 ak3 ck3 [vSl ak4 k.sN ck4])) (xs := r7.2) (xs' := r8.2) (v := iV r8.1) rfl rfl rfl rfl rfl rfl rfl rfl q471 Tryz.call99 rfl rfl (fun w g hx sg hd hs' => ?_) rfl (fun ta4 tc4 m8 q474 => ?_)
    ·rw [q473]; exact c_sput hs' k ak ck (_q1.mono (FH.le_trans (le1) (le13))) _q2 ak2 ck2 (_q3.mono (FH.le_trans (le1) (le13))) _q4 ak3 ck3 (_q5.mono (FH.le_trans (le1) (le13))) _q6 ak4 ck4 (_q7.mono (FH.le_trans (le1) (le13))) _q8 pk bk r7.2 ta3 tc3 hx sg hd (⟨2, d, 0, r7.1, 0⟩ : TNode) q472
    replace hF := hF m8 q474
    refine .KA [Box pdepth2 [.slice a2 ((gt k.t.ops d).pre.length) c, .slice a3 ((gt k.t.ops d).add.length) c2, .slice a4 ((gt k.t.ops d).del.length) c3, iV ((gt k.t.ops d).cost)], LA .busy none, Box pk2 [.pointer (some pk)], Box pdepth [iV depth], Box pv [iV 0], MkA (D :: []), Box pk (tF k.t ak ck ak2 ck2 ak3 ck3 [vSl ak4 k.sN ck4, .map (some bk), vSl ta4 r8.2 tc4]), OwnMap bk m8, oL 102 5 ta4 r8.2 tc4] ?_
    refine .nil ?_
    refine .ja (M := [0, 6, 1]) (C' := []) (pre := [(7, iV r8.1)]) [(3, .pointer (some pk2)), (6, .pointer (some pv)), (7, iV d), (8, vSl a5 r5 c4), (9, iV r6)] [3, 6, 7, 8, 9] hL rfl rfl rfl rfl rfl sb rfl rfl (by kernel_rfl) ?_
    refine .step [8] 8 rfl (by kernel_rfl) (by kernel_rfl) (.nil) (.cons [(44, iV r8.1), (44, iV r8.1), (37, .pointer (some pk)), (38, iV d), (39, .pointer (some pk)), (40, vSl a5 r5 c4), (41, iV r6), (42, iV r7.1), (43, .agg #[iV 2, iV d, iV 0, iV r7.1, iV 0]), (44, iV r8.1)] rfl rfl (fun sL hL => ?_) (.nil))
    refine st (p := pv) (off := 0) (k := 4) (vs := [iV r8.1]) rfl rfl rfl (fun w => (tO3 w).2) rfl rfl rfl rfl ?_
    refine .KA [Box pdepth2 [.slice a2 ((gt k.t.ops d).pre.length) c, .slice a3 ((gt k.t.ops d).add.length) c2, .slice a4 ((gt k.t.ops d).del.length) c3, iV ((gt k.t.ops d).cost)], LA .busy none, Box pk2 [.pointer (some pk)], Box pdepth [iV depth], Box pv [iV r8.1], MkA (D :: []), Box pk (tF k.t ak ck ak2 ck2 ak3 ck3 [vSl ak4 k.sN ck4, .map (some bk), vSl ta4 r8.2 tc4]), OwnMap bk m8, oL 102 5 ta4 r8.2 tc4] ?_
    refine .nil ?_
    refine .jaN (M := []) (C' := []) (pre := []) [3, 6, 7, 8, 9] hL rfl rfl rfl rfl rfl (by kernel_rfl) ?_
    refine .last [(37, .pointer (some pk)), (38, iV d), (39, .pointer (some pk)), (40, vSl a5 r5 c4), (41, iV r6), (42, iV r7.1), (43, .agg #[iV 2, iV d, iV 0, iV r7.1, iV 0]), (44, iV r8.1)] rfl (by kernel_rfl) (.nil) rfl ?_
    refine .seqN (.ret (.blkR ?_))
    refine .rdR (k := 1) q249 rfl q455 rfl ?_
    refine .KA [Box pdepth2 [.slice a2 ((gt k.t.ops d).pre.length) c, .slice a3 ((gt k.t.ops d).add.length) c2, .slice a4 ((gt k.t.ops d).del.length) c3, iV ((gt k.t.ops d).cost)], LA .done (some .ret), Box pk2 [.pointer (some pk)], Box pdepth [iV depth], Box pv [iV r8.1], MkA (D :: []), Box pk (tF k.t ak ck ak2 ck2 ak3 ck3 [vSl ak4 k.sN ck4, .map (some bk), vSl ta4 r8.2 tc4]), OwnMap bk m8, oL 102 5 ta4 r8.2 tc4] ?_
    refine .GV (nt rfl) q450 ?_
    refine .V (pkT rfl q450 rfl) ?_
    refine .nil (.seqN ?_)
    refine .cond rfl (fun _ => ?_) (fun e => absurd (e.symm.trans rfl) (by decide))
    refine .ret (.blkR (.seqR (.seqR (.blkR ?_))))
    refine .res0 (.inl rfl) rfl (range_jump (k := 1) q249 rfl q250 ?_)
    refine .KA [Box pdepth2 [.slice a2 ((gt k.t.ops d).pre.length) c, .slice a3 ((gt k.t.ops d).add.length) c2, .slice a4 ((gt k.t.ops d).del.length) c3, iV ((gt k.t.ops d).cost)], tru, Box pk2 [.pointer (some pk)], Box pdepth [iV depth], Box pv [iV r8.1], MkA (D :: []), Box pk (tF k.t ak ck ak2 ck2 ak3 ck3 [vSl ak4 k.sN ck4, .map (some bk), vSl ta4 r8.2 tc4]), OwnMap bk m8, oL 102 5 ta4 r8.2 tc4] ?_
    refine .ret (.blkR (.seqR ?_))
    refine .resM (k := 5) rfl ?_
    refine .closeX (i := 6) (j := 7) (k := 8) (inv := srInv k) (pre := (tF k.t ak ck ak2 ck2 ak3 ck3 [vSl ak4 k.sN ck4])) (xs := r8.2) rfl rfl rfl rfl rfl rfl rfl rfl q474 ?_
    refine .res1 rfl (rvC1 rfl tO3 (k := 5) rfl) (fun w' S => ⟨(r8.1, r8.2), ta4, tc4, hF, rfl, (S.pick (k := 0) rfl).anti (FH.le_trans (le1) (le13))⟩)
   replace hF := hF.2 q460
   refine .skip (.blkN ?_)
   refine .rdN (k := 1) q249 rfl q455 rfl ?_
   refine .KA [Box pdepth2 [.slice a2 ((gt k.t.ops d).pre.length) c, .slice a3 ((gt k.t.ops d).add.length) c2, .slice a4 ((gt k.t.ops d).del.length) c3, iV ((gt k.t.ops d).cost)], LA .ready none, Box pk2 [.pointer (some pk)], Box pdepth [iV depth], Box pv [iV 0], MkA (D :: []), Box pk (tF k.t ak ck ak2 ck2 ak3 ck3 [vSl ak4 k.sN ck4, .map (some bk), vSl ta tr tc]), OwnMap bk m6, oL 102 5 ta tr tc] ?_
   refine .GV (nt rfl) q450 ?_
   refine .V (pkT rfl q450 rfl) ?_
   refine .nil (.seqN ?_)
   refine .cond rfl (fun e => absurd (e.symm.trans rfl) (by decide)) (fun _ => ?_)
   refine .skip (.blkN ?_)
   refine .sel0 [1, 2, 3, 4, 5, 6, 7, 8] (by decide) rfl ?_
   exact .use q439 m6 hF sb rfl (le13)
  replace hF := hF.2 q450
  refine .GS q450 ?_
  refine .GS q450 ?_
  refine .GS q450 ?_
  refine .GS q450 ?_
  refine .GS q450 ?_
  refine .GS q450 ?_
  refine .GS q450 ?_
  refine .GS q450 ?_
  refine .V (pkF rfl q450 rfl) ?_
  refine .nil (.seqN ?_)
  refine .cond rfl (fun e => absurd (e.symm.trans rfl) (by decide)) (fun _ => ?_)
  refine .skip (.blkN ?_)
  refine .sel0 [1, 2, 3, 4, 5, 6, 7, 8] (by decide) rfl ?_
  exact .US q439 m3 hF
 replace hF := hF.2 q403
 refine .exit (.seqX (.seqX (.blkX ?_)))
 refine .res0 (.inr rfl) rfl (range_done (k := 0) q249 rfl q250 ?_)
 refine .KA [tru, Box pk2 [.pointer (some pk)], Box pdepth [iV depth], Box pv [iV 0], MkA (D :: []), Box pk (tF k.t ak ck ak2 ck2 ak3 ck3 [vSl ak4 k.sN ck4, .map (some bk), vSl ta tr tc]), OwnMap bk m3, oL 102 5 ta tr tc] ?_
 refine .blkN (.seqN (.seq (.seq (.region (.V (ld1 rfl tO96 (cellB (off := 0) (k := 1) rfl rfl)) ?_)))))
 refine .V (nck rfl) ?_
 refine .V (fa rfl tF99_1) ?_
 refine .V (ld1 rfl tO22 (cellB (off := 4) (k := 5) rfl rfl)) ?_
 refine .V (ln rfl tS22.is) ?_
 refine .V mv0 ?_
 refine .nil (.seqN (.block ?_))
 refine .sel0 [1, 2, 3, 4, 5, 6, 7] (by decide) rfl ?_
 obtain ⟨I2, μ2, q987, q988⟩ := hF
 refine .loop' (σ := Int × (List UInt8 → Int)) (fun z => I2 z.1 z.2) (fun z => μ2 z.1 z.2) (fun z => [(1, vSl aworlds worlds cworlds), (3, .pointer (some pk2)), (5, .pointer (some pdepth)), (6, .pointer (some pv)), (48, vSl ak4 k.sN ck4), (49, iV ((k.sN.length : Nat) : Int)), (50, iV z.1)]) (fun z => [Box pk2 [.pointer (some pk)], Box pdepth [iV depth], Box pv [iV 0], MkA (D :: []), Box pk (tF k.t ak ck ak2 ck2 ak3 ck3 [vSl ak4 k.sN ck4, .map (some bk), vSl ta tr tc]), OwnMap bk z.2, oL 102 5 ta tr tc]) (fun _ => h1) (0, m3) q987 sb rfl (FH.le_refl _) ?_
 rintro ⟨t50, m9⟩ q987
 have hF := q988 t50 m9 q987
 show J _ _ _ _ _ [(1, vSl aworlds worlds cworlds), (3, .pointer (some pk2)), (5, .pointer (some pdepth)), (6, .pointer (some pv)), (48, vSl ak4 k.sN ck4), (49, iV ((k.sN.length : Nat) : Int)), (50, iV t50)] [Box pk2 [.pointer (some pk)], Box pdepth [iV depth], Box pv [iV 0], MkA (D :: []), Box pk (tF k.t ak ck ak2 ck2 ak3 ck3 [vSl ak4 k.sN ck4, .map (some bk), vSl ta tr tc]), OwnMap bk m9, oL 102 5 ta tr tc] h1
 refine .seq (.region (.V bi0 ?_))
 refine .nil (.seqN (.seq ?_))
 refine .cond rfl (fun q991 => ?_) (fun q991 => ?_)
 ·replace hF := hF.1 q991
  refine .skip (.seqN ?_)
  refine .share (σ := (List UInt8 → Int)) (fun z => F_sbuild_J2 m9 z t50 I2 μ2) (fun _ => [(1, vSl aworlds worlds cworlds), (3, .pointer (some pk2)), (5, .pointer (some pdepth)), (6, .pointer (some pv)), (48, vSl ak4 k.sN ck4), (49, iV ((k.sN.length : Nat) : Int)), (50, iV t50)]) (fun z => [Box pk2 [.pointer (some pk)], Box pdepth [iV depth], Box pv [iV 0], MkA (D :: []), Box pk (tF k.t ak ck ak2 ck2 ak3 ck3 [vSl ak4 k.sN ck4, .map (some bk), vSl ta tr tc]), OwnMap bk z, oL 102 5 ta tr tc]) (fun _ => h1) ?_ (fun q1041 => ?_)
  ·rintro m11 hF
   show J _ _ _ _ _ [(1, vSl aworlds worlds cworlds), (3, .pointer (some pk2)), (5, .pointer (some pdepth)), (6, .pointer (some pv)), (48, vSl ak4 k.sN ck4), (49, iV ((k.sN.length : Nat) : Int)), (50, iV t50)] [Box pk2 [.pointer (some pk)], Box pdepth [iV depth], Box pv [iV 0], MkA (D :: []), Box pk (tF k.t ak ck ak2 ck2 ak3 ck3 [vSl ak4 k.sN ck4, .map (some bk), vSl ta tr tc]), OwnMap bk m11, oL 102 5 ta tr tc] h1
   refine .region (.V bi0 ?_)
   refine .V mv0 ?_
   refine .nil ?_
   exact .RO (wr (t50 + 1), m11) hF.1 hF.2
  refine .block (.seq (.region ?_))
  obtain ⟨q1042, hF⟩ := hF
  refine .V (ix rfl rfl tS22 (_q7.ne (by decide) (inb_pos q1042)) q1042) ?_
  refine .V (ld1 (v := iV (gt k.sN t50)) rfl tO3 (cellH ((_q7.mono (le1)).elemF q1042 (by decide) 0 _ rfl))) ?_
  refine .V ag0 ?_
  refine .nil (.seqN (.seq (.region (.V mv0 ?_))))
  refine .V mv0 ?_
  obtain ⟨q1043, hF⟩ := hF
  obtain ⟨r9, q1044⟩ : ∃ y_ : List (List Int) × List (List Int), y_ = sp_split worlds (gt k.sN t50) := ⟨_, rfl⟩
  replace hF := hF r9 q1044
  refine clR (α := Option Addr × Nat × Option Addr × Nat) (Φ := fun h1 z => RSl h1 z.1 r9.1 ∧ r9.1.length ≤ z.2.1 ∧ RSl h1 z.2.2.1 r9.2 ∧ r9.2.length ≤ z.2.2.2) (V := fun z => .tuple #[vSl z.1 r9.1 z.2.1, vSl z.2.2.1 r9.2 z.2.2.2]) Tryz.call97 rfl rfl (fun w S => (by rw [q1044]; exact c_split S.sub worlds aworlds cworlds (_q9.mono (le1)) _q10 (gt k.sN t50) q1043)) rfl (fun z h25 le25 hz => ?_)
  obtain ⟨a6, c5, a7, c6⟩ := z
  obtain ⟨q1045, q1046, q1047, q1048⟩ := hz
  refine .V mv0 ?_
  refine .V (ext rfl rfl) ?_
  refine .V (ext rfl rfl) ?_
  refine .V ag0 ?_
  refine .V ag0 ?_
  refine .nil (.seqN (.seq ?_))
  refine .share (σ := Bool) (fun z => F_sbuild_J3 k tr worlds depth K r9 z m9 t50 I2 μ2) (fun z => [(1, vSl aworlds worlds cworlds), (3, .pointer (some pk2)), (5, .pointer (some pdepth)), (6, .pointer (some pv)), (11, iV (gt k.sN t50)), (12, vSl a6 r9.1 c5), (13, vSl a7 r9.2 c6), (48, vSl ak4 k.sN ck4), (49, iV ((k.sN.length : Nat) : Int)), (50, iV t50), (67, .bool z)]) (fun _ => [Box pk2 [.pointer (some pk)], Box pdepth [iV depth], Box pv [iV 0], MkA (D :: []), Box pk (tF k.t ak ck ak2 ck2 ak3 ck3 [vSl ak4 k.sN ck4, .map (some bk), vSl ta tr tc]), OwnMap bk m9, oL 102 5 ta tr tc]) (fun _ => h25) ?_ (fun q1050 => ?_)
  ·rintro t67 hF
   show J _ _ _ _ _ [(1, vSl aworlds worlds cworlds), (3, .pointer (some pk2)), (5, .pointer (some pdepth)), (6, .pointer (some pv)), (11, iV (gt k.sN t50)), (12, vSl a6 r9.1 c5), (13, vSl a7 r9.2 c6), (48, vSl ak4 k.sN ck4), (49, iV ((k.sN.length : Nat) : Int)), (50, iV t50), (67, .bool t67)] [Box pk2 [.pointer (some pk)], Box pdepth [iV depth], Box pv [iV 0], MkA (D :: []), Box pk (tF k.t ak ck ak2 ck2 ak3 ck3 [vSl ak4 k.sN ck4, .map (some bk), vSl ta tr tc]), OwnMap bk m9, oL 102 5 ta tr tc] h25
   refine .cond rfl (fun q1052 => ?_) (fun q1052 => ?_)
   ·replace hF := hF.1 q1052
    refine .exit (.seqX (.blkX ?_))
    exact .use q1041 m9 hF sb rfl (le25)
   replace hF := hF.2 q1052
   refine .skip (.seqN (.seq ?_))
   refine .openA (s0 := [(1, vSl aworlds worlds cworlds), (3, .pointer (some pk2)), (5, .pointer (some pdepth)), (6, .pointer (some pv)), (11, iV (gt k.sN t50)), (12, vSl a6 r9.1 c5), (13, vSl a7 r9.2 c6), (48, vSl ak4 k.sN ck4), (49, iV ((k.sN.length : Nat) : Int)), (50, iV t50)]) [0, 1, 2, 3, 5, 6, 7, 8] [(0, .pointer (some pk)), (1, vSl a6 r9.1 c5), (2, iV depth), (3, iV (wr (depth - 1))), (5, .pointer (some pk)), (6, vSl a7 r9.2 c6), (7, iV depth), (8, iV (wr (depth - 1)))] (by kernel_rfl) sb [1, 3, 5, 6, 11, 12, 13, 48, 49, 50] [] rfl (by kernel_rfl) ?_
   refine .step [4] 4 rfl (by kernel_rfl) (by kernel_rfl) (.v [] rfl rfl rfl rfl rfl rfl (fun _ => ld1 rfl tO96 (cellB (off := 0) (k := 0) rfl rfl)) (.v [] rfl rfl rfl rfl rfl rfl (fun _ => mv rfl) (.v [] rfl rfl rfl rfl rfl rfl (fun _ => ld1 rfl tO3 (cellB (off := 0) (k := 1) rfl rfl)) (.v [(70, iV depth)] rfl rfl rfl rfl rfl rfl (fun _ => bi rfl rfl rfl) (.v [] rfl rfl rfl rfl rfl rfl (fun _ => ld1 rfl tO96 (cellB (off := 0) (k := 0) rfl rfl)) (.v [] rfl rfl rfl rfl rfl rfl (fun _ => mv rfl) (.v [] rfl rfl rfl rfl rfl rfl (fun _ => ld1 rfl tO3 (cellB (off := 0) (k := 1) rfl rfl)) (.v [(75, iV depth)] rfl rfl rfl rfl rfl rfl (fun _ => bi rfl rfl rfl) (.nil))))))))) (.cons [(68, .pointer (some pk)), (69, vSl a6 r9.1 c5), (71, iV (wr (depth - 1)))] rfl rfl (fun sL hL => ?_) (.nil))
   obtain ⟨q1060, q1061, hF⟩ := hF
   obtain ⟨r10, q1062⟩ : ∃ y_ : Int, y_ = sp_sleast k r9.1 (wr (depth - 1)) := ⟨_, rfl⟩
   replace hF := hF r10 q1062
   refine callS (i := 4) (j := 5) (k := 6) (inv := srInv k) (pre := (tF k.t ak ck ak2 ck2 ak3 ck3 [vSl ak4 k.sN ck4])) (xs := tr) (v := iV r10) rfl rfl rfl rfl rfl rfl rfl rfl q1060 Tryz.call72 rfl rfl (fun w g hx sg hd hs' => ?_) rfl (fun m12 q1063 => ?_)
   ·rw [q1062]; exact c_sleast hs' (ht.mono (FH.le_trans (le1) (le25))) k ak ck (_q1.mono (FH.le_trans (le1) (le25))) _q2 ak2 ck2 (_q3.mono (FH.le_trans (le1) (le25))) _q4 ak3 ck3 (_q5.mono (FH.le_trans (le1) (le25))) _q6 ak4 ck4 (_q7.mono (FH.le_trans (le1) (le25))) _q8 pk bk tr ta tc hx sg hd r9.1 a6 c5 q1045 q1046 (wr (depth - 1)) q1061
   replace hF := hF m12 q1063
   refine .KA [Box pk2 [.pointer (some pk)], Box pdepth [iV depth], Box pv [iV 0], MkA (D :: []), Box pk (tF k.t ak ck ak2 ck2 ak3 ck3 [vSl ak4 k.sN ck4, .map (some bk), vSl ta tr tc]), OwnMap bk m12, oL 102 5 ta tr tc] ?_
   refine .nil ?_
   refine .ja (M := [0, 1, 3, 2]) (C' := [5, 6, 7, 8]) (pre := [(4, iV r10)]) [(1, vSl aworlds worlds cworlds), (3, .pointer (some pk2)), (5, .pointer (some pdepth)), (6, .pointer (some pv)), (11, iV (gt k.sN t50)), (12, vSl a6 r9.1 c5), (13, vSl a7 r9.2 c6), (48, vSl ak4 k.sN ck4), (49, iV ((k.sN.length : Nat) : Int)), (50, iV t50)] [1, 3, 5, 6, 11, 12, 13, 48, 49, 50] hL rfl rfl rfl rfl rfl sb rfl rfl (by kernel_rfl) ?_
   refine .step [9] 9 rfl (by kernel_rfl) (by kernel_rfl) (.v [] rfl rfl rfl rfl rfl rfl (fun _ => ld1 rfl tO96 (cellB (off := 0) (k := 0) rfl rfl)) (.v [] rfl rfl rfl rfl rfl rfl (fun _ => mv rfl) (.v [] rfl rfl rfl rfl rfl rfl (fun _ => ld1 rfl tO3 (cellB (off := 0) (k := 1) rfl rfl)) (.v [(75, iV depth)] rfl rfl rfl rfl rfl rfl (fun _ => bi rfl rfl rfl) (.nil))))) (.cons [(73, .pointer (some pk)), (74, vSl a7 r9.2 c6), (76, iV (wr (depth - 1))), (72, iV r10)] rfl rfl (fun sL hL => ?_) (.nil))
   obtain ⟨q1064, hF⟩ := hF
   obtain ⟨r11, q1065⟩ : ∃ y_ : Int, y_ = sp_sleast k r9.2 (wr (depth - 1)) := ⟨_, rfl⟩
   replace hF := hF r11 q1065
   refine callS (i := 4) (j := 5) (k := 6) (inv := srInv k) (pre := (tF k.t ak ck ak2 ck2 ak3 ck3 [vSl ak4 k.sN ck4])) (xs := tr) (v := iV r11) rfl rfl rfl rfl rfl rfl rfl rfl q1063 Tryz.call72 rfl rfl (fun w g hx sg hd hs' => ?_) rfl (fun m13 q1066 => ?_)
   ·rw [q1065]; exact c_sleast hs' (ht.mono (FH.le_trans (le1) (le25))) k ak ck (_q1.mono (FH.le_trans (le1) (le25))) _q2 ak2 ck2 (_q3.mono (FH.le_trans (le1) (le25))) _q4 ak3 ck3 (_q5.mono (FH.le_trans (le1) (le25))) _q6 ak4 ck4 (_q7.mono (FH.le_trans (le1) (le25))) _q8 pk bk tr ta tc hx sg hd r9.2 a7 c6 q1047 q1048 (wr (depth - 1)) q1064
   replace hF := hF m13 q1066
   refine .KA [Box pk2 [.pointer (some pk)], Box pdepth [iV depth], Box pv [iV 0], MkA (D :: []), Box pk (tF k.t ak ck ak2 ck2 ak3 ck3 [vSl ak4 k.sN ck4, .map (some bk), vSl ta tr tc]), OwnMap bk m13, oL 102 5 ta tr tc] ?_
   refine .nil ?_
   refine .ja (M := [5, 6, 8, 7]) (C' := [10, 11]) (pre := [(9, iV r11), (10, iV r10), (11, iV r11)]) [(1, vSl aworlds worlds cworlds), (3, .pointer (some pk2)), (5, .pointer (some pdepth)), (6, .pointer (some pv)), (11, iV (gt k.sN t50)), (12, vSl a6 r9.1 c5), (13, vSl a7 r9.2 c6), (48, vSl ak4 k.sN ck4), (49, iV ((k.sN.length : Nat) : Int)), (50, iV t50)] [1, 3, 5, 6, 11, 12, 13, 48, 49, 50] hL rfl rfl rfl rfl rfl sb rfl rfl (by kernel_rfl) ?_
   refine .last [(68, .pointer (some pk)), (69, vSl a6 r9.1 c5), (70, iV depth), (71, iV (wr (depth - 1))), (72, iV r10), (73, .pointer (some pk)), (74, vSl a7 r9.2 c6), (75, iV depth), (76, iV (wr (depth - 1))), (77, iV r11), (14, iV r10), (15, iV r11)] rfl (by kernel_rfl) (.v [(72, iV r10), (77, iV r11), (68, .pointer (some pk)), (69, vSl a6 r9.1 c5), (70, iV depth), (71, iV (wr (depth - 1))), (72, iV r10)] rfl rfl rfl rfl rfl rfl (fun _ => asg rfl) (.v [(77, iV r11), (14, iV r10), (68, .pointer (some pk)), (69, vSl a6 r9.1 c5), (70, iV depth), (71, iV (wr (depth - 1))), (72, iV r10), (73, .pointer (some pk)), (74, vSl a7 r9.2 c6), (75, iV depth), (76, iV (wr (depth - 1))), (77, iV r11), (14, iV r10)] rfl rfl rfl rfl rfl rfl (fun _ => asg rfl) (.nil))) rfl ?_
   refine .seqN ?_
   refine .share (σ := Bool) (fun z => F_sbuild_J4 k tr worlds depth K r9 r10 m9 r11 z m13 t50 I2 μ2) (fun z => [(1, vSl aworlds worlds cworlds), (3, .pointer (some pk2)), (5, .pointer (some pdepth)), (6, .pointer (some pv)), (11, iV (gt k.sN t50)), (12, vSl a6 r9.1 c5), (13, vSl a7 r9.2 c6), (14, iV r10), (15, iV r11), (48, vSl ak4 k.sN ck4), (49, iV ((k.sN.length : Nat) : Int)), (50, iV t50), (83, .bool z)]) (fun _ => [Box pk2 [.pointer (some pk)], Box pdepth [iV depth], Box pv [iV 0], MkA (D :: []), Box pk (tF k.t ak ck ak2 ck2 ak3 ck3 [vSl ak4 k.sN ck4, .map (some bk), vSl ta tr tc]), OwnMap bk m13, oL 102 5 ta tr tc]) (fun _ => h25) ?_ (fun q1068 => ?_)
   ·rintro t83 hF
    show J _ _ _ _ _ [(1, vSl aworlds worlds cworlds), (3, .pointer (some pk2)), (5, .pointer (some pdepth)), (6, .pointer (some pv)), (11, iV (gt k.sN t50)), (12, vSl a6 r9.1 c5), (13, vSl a7 r9.2 c6), (14, iV r10), (15, iV r11), (48, vSl ak4 k.sN ck4), (49, iV ((k.sN.length : Nat) : Int)), (50, iV t50), (83, .bool t83)] [Box pk2 [.pointer (some pk)], Box pdepth [iV depth], Box pv [iV 0], MkA (D :: []), Box pk (tF k.t ak ck ak2 ck2 ak3 ck3 [vSl ak4 k.sN ck4, .map (some bk), vSl ta tr tc]), OwnMap bk m13, oL 102 5 ta tr tc] h25
    refine .cond rfl (fun q1069 => ?_) (fun q1069 => ?_)
    ·replace hF := hF.1 q1069
     refine .seq (.region (.V (ld1 rfl tO96 (cellB (off := 0) (k := 0) rfl rfl)) ?_))
     refine .V mv0 ?_
     refine .V mv0 ?_
     obtain ⟨q1070, q1071, q1072, hF⟩ := hF
     obtain ⟨r12, q1073⟩ : ∃ y_ : Int × (List TNode), y_ = sp_sbuild k tr r9.1 r10 := ⟨_, rfl⟩
     replace hF := hF r12 q1073
     refine callSE (i := 4) (j := 5) (k := 6) (inv := srInv k) (pre := (tF k.t ak ck ak2 ck2 ak3 ck3 [vSl ak4 k.sN ck4])) (xs := tr) (xs' := r12.2) (v := iV r12.1) rfl rfl rfl rfl rfl rfl rfl rfl q1070 Tryz.call73 rfl rfl (fun w g hx sg hd hs' => ?_) rfl (fun ta5 tc5 m14 q1074 => ?_)
     ·rw [q1073]; exact ih hs' (ht.mono (FH.le_trans (le1) (le25))) k ak ck (_q1.mono (FH.le_trans (le1) (le25))) _q2 ak2 ck2 (_q3.mono (FH.le_trans (le1) (le25))) _q4 ak3 ck3 (_q5.mono (FH.le_trans (le1) (le25))) _q6 ak4 ck4 (_q7.mono (FH.le_trans (le1) (le25))) _q8 pk bk tr ta tc hx sg hd r9.1 a6 c5 q1045 q1046 r10 (by rw [← hm]; exact q1072) q1071
     replace hF := hF m14 q1074
     refine .KA [Box pk2 [.pointer (some pk)], Box pdepth [iV depth], Box pv [iV 0], MkA (D :: []), Box pk (tF k.t ak ck ak2 ck2 ak3 ck3 [vSl ak4 k.sN ck4, .map (some bk), vSl ta5 r12.2 tc5]), OwnMap bk m14, oL 102 5 ta5 r12.2 tc5] ?_
     refine .V ag0 ?_
     refine .nil (.seqN (.seq ?_))
     refine .openA (s0 := [(3, .pointer (some pk2)), (6, .pointer (some pv)), (11, iV (gt k.sN t50)), (13, vSl a7 r9.2 c6), (15, iV r11), (16, iV r12.1)]) [0, 1, 2, 3, 4, 5] [(0, .pointer (some pk)), (1, iV (gt k.sN t50)), (2, iV r12.1), (3, .pointer (some pk)), (4, vSl a7 r9.2 c6), (5, iV r11)] (by kernel_rfl) sb [3, 6, 11, 13, 15, 16] [] rfl (by kernel_rfl) ?_
     refine .step [6] 6 rfl (by kernel_rfl) (by kernel_rfl) (.v [] rfl rfl rfl rfl rfl rfl (fun _ => ld1 rfl tO96 (cellB (off := 0) (k := 0) rfl rfl)) (.v [] rfl rfl rfl rfl rfl rfl (fun _ => mv rfl) (.v [] rfl rfl rfl rfl rfl rfl (fun _ => mv rfl) (.v [] rfl rfl rfl rfl rfl rfl (fun _ => ld1 rfl tO96 (cellB (off := 0) (k := 0) rfl rfl)) (.v [] rfl rfl rfl rfl rfl rfl (fun _ => mv rfl) (.v [] rfl rfl rfl rfl rfl rfl (fun _ => mv rfl) (.nil))))))) (.cons [(91, .pointer (some pk)), (92, vSl a7 r9.2 c6), (93, iV r11)] rfl rfl (fun sL hL => ?_) (.nil))
     obtain ⟨q1082, q1083, hF⟩ := hF
     obtain ⟨r13, q1084⟩ : ∃ y_ : Int × (List TNode), y_ = sp_sbuild k r12.2 r9.2 r11 := ⟨_, rfl⟩
     replace hF := hF r13 q1084
     refine callSE (i := 4) (j := 5) (k := 6) (inv := srInv k) (pre := (tF k.t ak ck ak2 ck2 ak3 ck3 [vSl ak4 k.sN ck4])) (xs := r12.2) (xs' := r13.2) (v := iV r13.1) rfl rfl rfl rfl rfl rfl rfl rfl q1074 Tryz.call73 rfl rfl (fun w g hx sg hd hs' => ?_) rfl (fun ta6 tc6 m15 q1085 => ?_)
     ·rw [q1084]; exact ih hs' (ht.mono (FH.le_trans (le1) (le25))) k ak ck (_q1.mono (FH.le_trans (le1) (le25))) _q2 ak2 ck2 (_q3.mono (FH.le_trans (le1) (le25))) _q4 ak3 ck3 (_q5.mono (FH.le_trans (le1) (le25))) _q6 ak4 ck4 (_q7.mono (FH.le_trans (le1) (le25))) _q8 pk bk r12.2 ta5 tc5 hx sg hd r9.2 a7 c6 q1047 q1048 r11 (by rw [← hm]; exact q1083) q1082
     replace hF := hF m15 q1085
     refine .KA [Box pk2 [.pointer (some pk)], Box pdepth [iV depth], Box pv [iV 0], MkA (D :: []), Box pk (tF k.t ak ck ak2 ck2 ak3 ck3 [vSl ak4 k.sN ck4, .map (some bk), vSl ta6 r13.2 tc6]), OwnMap bk m15, oL 102 5 ta6 r13.2 tc6] ?_
     refine .nil ?_
     refine .ja (M := [3, 4, 5]) (C' := [0, 1, 2, 7]) (pre := [(6, iV r13.1), (7, .agg #[iV 3, iV 0, iV (gt k.sN t50), iV r12.1, iV r13.1])]) [(3, .pointer (some pk2)), (6, .pointer (some pv)), (11, iV (gt k.sN t50)), (13, vSl a7 r9.2 c6), (15, iV r11), (16, iV r12.1)] [3, 6, 11, 13, 15, 16] hL rfl rfl rfl rfl rfl sb rfl rfl (by kernel_rfl) ?_
     refine .step [8] 8 rfl (by kernel_rfl) (by kernel_rfl) (.v [] rfl rfl rfl rfl rfl rfl (fun _ => ld1 rfl tO96 (cellB (off := 0) (k := 0) rfl rfl)) (.v [] rfl rfl rfl rfl rfl rfl (fun _ => mv rfl) (.v [] rfl rfl rfl rfl rfl rfl (fun _ => mv rfl) (.v [(89, iV (gt k.sN t50)), (90, iV r12.1), (94, iV r13.1)] rfl rfl rfl rfl rfl rfl (fun _ => bld (cs := #[iV 3, iV 0, iV (gt k.sN t50), iV r12.1, iV r13.1]) (pv := [(0, iV 3), (2, iV (gt k.sN t50)), (3, iV r12.1), (4, iV r13.1)]) tB102 rfl rfl) (.nil))))) (.cons [(88, .pointer (some pk)), (95, .agg #[iV 3, iV 0, iV (gt k.sN t50), iV r12.1, iV r13.1]), (94, iV r13.1)] rfl rfl (fun sL hL => ?_) (.nil))
     obtain ⟨q1086, hF⟩ := hF
     obtain ⟨r14, q1087⟩ : ∃ y_ : Int × (List TNode), y_ = sp_sput k r13.2 (⟨3, 0, (gt k.sN t50), r12.1, r13.1⟩ : TNode) := ⟨_, rfl⟩
     replace hF := hF r14 q1087
     refine callSE (i := 4) (j := 5) (k := 6) (inv := srInv k) (pre := (tF k.t ak ck ak2 ck2 ak3 ck3 [vSl ak4 k.sN ck4])) (xs := r13.2) (xs' := r14.2) (v := iV r14.1) rfl rfl rfl rfl rfl rfl rfl rfl q1085 Tryz.call99 rfl rfl (fun w g hx sg hd hs' => ?_) rfl (fun ta7 tc7 m16 q1088 => ?_)
     ·rw [q1087]; exact c_sput hs' k ak ck (_q1.mono (FH.le_trans (le1) (le25))) _q2 ak2 ck2 (_q3.mono (FH.le_trans (le1) (le25))) _q4 ak3 ck3 (_q5.mono (FH.le_trans (le1) (le25))) _q6 ak4 ck4 (_q7.mono (FH.le_trans (le1) (le25))) _q8 pk bk r13.2 ta6 tc6 hx sg hd (⟨3, 0, (gt k.sN t50), r12.1, r13.1⟩ : TNode) q1086
     replace hF := hF m16 q1088
     refine .KA [Box pk2 [.pointer (some pk)], Box pdepth [iV depth], Box pv [iV 0], MkA (D :: []), Box pk (tF k.t ak ck ak2 ck2 ak3 ck3 [vSl ak4 k.sN ck4, .map (some bk), vSl ta7 r14.2 tc7]), OwnMap bk m16, oL 102 5 ta7 r14.2 tc7] ?_
     refine .nil ?_
     refine .ja (M := [0, 7, 1, 2]) (C' := []) (pre := [(8, iV r14.1)]) [(3, .pointer (some pk2)), (6, .pointer (some pv)), (11, iV (gt k.sN t50)), (13, vSl a7 r9.2 c6), (15, iV r11), (16, iV r12.1)] [3, 6, 11, 13, 15, 16] hL rfl rfl rfl rfl rfl sb rfl rfl (by kernel_rfl) ?_
     refine .step [9] 9 rfl (by kernel_rfl) (by kernel_rfl) (.nil) (.cons [(96, iV r14.1), (96, iV r14.1), (88, .pointer (some pk)), (89, iV (gt k.sN t50)), (90, iV r12.1), (91, .pointer (some pk)), (92, vSl a7 r9.2 c6), (93, iV r11), (94, iV r13.1), (95, .agg #[iV 3, iV 0, iV (gt k.sN t50), iV r12.1, iV r13.1]), (96, iV r14.1)] rfl rfl (fun sL hL => ?_) (.nil))
     refine st (p := pv) (off := 0) (k := 2) (vs := [iV r14.1]) rfl rfl rfl (fun w => (tO3 w).2) rfl rfl rfl rfl ?_
     refine .KA [Box pk2 [.pointer (some pk)], Box pdepth [iV depth], Box pv [iV r14.1], MkA (D :: []), Box pk (tF k.t ak ck ak2 ck2 ak3 ck3 [vSl ak4 k.sN ck4, .map (some bk), vSl ta7 r14.2 tc7]), OwnMap bk m16, oL 102 5 ta7 r14.2 tc7] ?_
     refine .nil ?_
     refine .jaN (M := []) (C' := []) (pre := []) [3, 6, 11, 13, 15, 16] hL rfl rfl rfl rfl rfl (by kernel_rfl) ?_
     refine .last [(88, .pointer (some pk)), (89, iV (gt k.sN t50)), (90, iV r12.1), (91, .pointer (some pk)), (92, vSl a7 r9.2 c6), (93, iV r11), (94, iV r13.1), (95, .agg #[iV 3, iV 0, iV (gt k.sN t50), iV r12.1, iV r13.1]), (96, iV r14.1)] rfl (by kernel_rfl) (.nil) rfl ?_
     refine .seqN (.ret (.blkR (.seqR (.seqR (.blkR (.seqR ?_))))))
     refine .resM (k := 3) rfl ?_
     refine .closeX (i := 4) (j := 5) (k := 6) (inv := srInv k) (pre := (tF k.t ak ck ak2 ck2 ak3 ck3 [vSl ak4 k.sN ck4])) (xs := r14.2) rfl rfl rfl rfl rfl rfl rfl rfl q1088 ?_
     refine .res1 rfl (rvC1 rfl tO3 (k := 3) rfl) (fun w' S => ⟨(r14.1, r14.2), ta7, tc7, hF, rfl, (S.pick (k := 0) rfl).anti (FH.le_trans (le1) (le25))⟩)
    replace hF := hF.2 q1069
    refine .skip (.blkN ?_)
    exact .use q1041 m13 hF sb rfl (le25)
   refine .region (.V mv0 ?_)
   refine .V bi0 ?_
   refine .V mv0 ?_
   rcases Bool.eq_false_or_eq_true (decide (0 ≤ r10)) with q1089 | q1089
   ·replace hF := hF.1 q1089
    refine .GV mv0 q1089 ?_
    refine .GV bi0 q1089 ?_
    refine .V (pkT rfl q1089 rfl) ?_
    refine .nil ?_
    exact .US q1068 (decide (0 ≤ r11)) hF
   replace hF := hF.2 q1089
   refine .GS q1089 ?_
   refine .GS q1089 ?_
   refine .V (pkF rfl q1089 rfl) ?_
   refine .nil ?_
   exact .US q1068 false hF
  refine .region (.V mv0 ?_)
  refine .V (ln rfl tS35.is) ?_
  refine .V bi0 ?_
  refine .V mv0 ?_
  rcases Bool.eq_false_or_eq_true (((r9.1.length : Nat) : Int) == 0) with q1090 | q1090
  ·replace hF := hF.1 q1090
   refine .GS q1090 ?_
   refine .GS q1090 ?_
   refine .GS q1090 ?_
   refine .V (pkT rfl q1090 rfl) ?_
   refine .nil ?_
   exact .US q1050 true hF
  replace hF := hF.2 q1090
  refine .GV mv0 q1090 ?_
  refine .GV (ln rfl tS35.is) q1090 ?_
  refine .GV bi0 q1090 ?_
  refine .V (pkF rfl q1090 rfl) ?_
  refine .nil ?_
  exact .US q1050 (((r9.2.length : Nat) : Int) == 0) hF
 replace hF := hF.2 q991
 refine .exit (.seqX (.seqX (.blkX (.seqN (.seq (.region ?_))))))
 refine st (p := pv) (off := 0) (k := 2) (vs := [iV 0]) rfl rfl rfl (fun w => (tO3 w).2) rfl rfl rfl rfl ?_
 refine .KA [Box pk2 [.pointer (some pk)], Box pdepth [iV depth], Box pv [iV 0], MkA (D :: []), Box pk (tF k.t ak ck ak2 ck2 ak3 ck3 [vSl ak4 k.sN ck4, .map (some bk), vSl ta tr tc]), OwnMap bk m9, oL 102 5 ta tr tc] ?_
 refine .nil (.seqN (.ret ?_))
 refine .resM (k := 3) rfl ?_
 obtain ⟨q1091, hF⟩ := hF
 refine .closeX (i := 4) (j := 5) (k := 6) (inv := srInv k) (pre := (tF k.t ak ck ak2 ck2 ak3 ck3 [vSl ak4 k.sN ck4])) (xs := tr) rfl rfl rfl rfl rfl rfl rfl rfl q1091 ?_
 refine .res1 rfl (rvC1 rfl tO3 (k := 3) rfl) (fun w' S => ⟨(0, tr), ta, tc, hF, rfl, (S.pick (k := 0) rfl).anti (le1)⟩)
theorem c_sbuild_ : ∀ (mM : Nat) {h : FH} {w : World} (_ : Sub h w) (_ : TabH Tryz.prog h) (k : Srch) (ak : Option Addr) (ck : Nat) (_q1 : RSl h ak k.t.init) (_q2 : k.t.init.length ≤ ck) (ak2 : Option Addr) (ck2 : Nat) (_q3 : RSl h ak2 k.t.goal) (_q4 : k.t.goal.length ≤ ck2) (ak3 : Option Addr) (ck3 : Nat) (_q5 : RSl h ak3 k.t.ops) (_q6 : k.t.ops.length ≤ ck3) (ak4 : Option Addr) (ck4 : Nat) (_q7 : RSl h ak4 k.sN) (_q8 : k.sN.length ≤ ck4) (pk : Addr) (bk : Nat) (tr : List TNode) (ta : Option Addr) (tc : Nat) {gX : FH} (_ : SrX (srInv k) pk [iV k.t.facts, .slice ak k.t.init.length ck, .slice ak2 k.t.goal.length ck2, .slice ak3 k.t.ops.length ck3, .slice ak4 k.sN.length ck4] bk 102 ta tc tr gX) (_ : Sub gX w) (_ : Disj h gX) (worlds : List (List Int)) (aworlds : Option Addr) (cworlds : Nat) (_q9 : RSl h aworlds worlds) (_q10 : worlds.length ≤ cworlds) (depth : Int) (_ : mu_sbuild k tr worlds depth = mM) (_ : pre_sbuild k tr worlds depth), Calls Tryz.prog 73 #[.pointer (some pk), .slice aworlds worlds.length cworlds, iV depth] w fun e w' => ∃ (a' : Option Addr) (c' : Nat), e = .returned (iV (sp_sbuild k tr worlds depth).1) ∧ SH (Kp.ex w h gX) h w' [SrX (srInv k) pk [iV k.t.facts, .slice ak k.t.init.length ck, .slice ak2 k.t.goal.length ck2, .slice ak3 k.t.ops.length ck3, .slice ak4 k.sN.length ck4] bk 102 a' c' (sp_sbuild k tr worlds depth).2] := by
 intro mM
 induction mM using Nat.strongRecOn with
 | _ mM ih =>
  intro h w hs ht k ak ck _q1 _q2 ak2 ck2 _q3 _q4 ak3 ck3 _q5 _q6 ak4 ck4 _q7 _q8 pk bk tr ta tc gX ownX subX disX worlds aworlds cworlds _q9 _q10 depth hm hp
  exact (w_sbuild hs ht k ak ck _q1 _q2 ak2 ck2 _q3 _q4 ak3 ck3 _q5 _q6 ak4 ck4 _q7 _q8 pk bk tr ta tc ownX subX disX worlds aworlds cworlds _q9 _q10 depth _ rfl (fun hs' ht k ak ck _q1 _q2 ak2 ck2 _q3 _q4 ak3 ck3 _q5 _q6 ak4 ck4 _q7 _q8 pk bk tr ta tc gX ownX subX disX worlds aworlds cworlds _q9 _q10 depth hlt hp => ih _ (hm ▸ hlt) hs' ht k ak ck _q1 _q2 ak2 ck2 _q3 _q4 ak3 ck3 _q5 _q6 ak4 ck4 _q7 _q8 pk bk tr ta tc ownX subX disX worlds aworlds cworlds _q9 _q10 depth rfl hp) (fun r => r = sp_sbuild k tr worlds depth) (ok_sbuild k tr worlds depth hp)).mono fun _ _ ⟨r, a', c', hk, he, hS⟩ => by subst hk; exact ⟨a', c', he, hS⟩
theorem c_sbuild {h : FH} {w : World} (hs : Sub h w) (ht : TabH Tryz.prog h) (k : Srch) (ak : Option Addr) (ck : Nat) (_q1 : RSl h ak k.t.init) (_q2 : k.t.init.length ≤ ck) (ak2 : Option Addr) (ck2 : Nat) (_q3 : RSl h ak2 k.t.goal) (_q4 : k.t.goal.length ≤ ck2) (ak3 : Option Addr) (ck3 : Nat) (_q5 : RSl h ak3 k.t.ops) (_q6 : k.t.ops.length ≤ ck3) (ak4 : Option Addr) (ck4 : Nat) (_q7 : RSl h ak4 k.sN) (_q8 : k.sN.length ≤ ck4) (pk : Addr) (bk : Nat) (tr : List TNode) (ta : Option Addr) (tc : Nat) {gX : FH} (ownX : SrX (srInv k) pk [iV k.t.facts, .slice ak k.t.init.length ck, .slice ak2 k.t.goal.length ck2, .slice ak3 k.t.ops.length ck3, .slice ak4 k.sN.length ck4] bk 102 ta tc tr gX) (subX : Sub gX w) (disX : Disj h gX) (worlds : List (List Int)) (aworlds : Option Addr) (cworlds : Nat) (_q9 : RSl h aworlds worlds) (_q10 : worlds.length ≤ cworlds) (depth : Int) (hp : pre_sbuild k tr worlds depth) : Calls Tryz.prog 73 #[.pointer (some pk), .slice aworlds worlds.length cworlds, iV depth] w fun e w' => ∃ (a' : Option Addr) (c' : Nat), e = .returned (iV (sp_sbuild k tr worlds depth).1) ∧ SH (Kp.ex w h gX) h w' [SrX (srInv k) pk [iV k.t.facts, .slice ak k.t.init.length ck, .slice ak2 k.t.goal.length ck2, .slice ak3 k.t.ops.length ck3, .slice ak4 k.sN.length ck4] bk 102 a' c' (sp_sbuild k tr worlds depth).2] :=
 c_sbuild_ _ hs ht k ak ck _q1 _q2 ak2 ck2 _q3 _q4 ak3 ck3 _q5 _q6 ak4 ck4 _q7 _q8 pk bk tr ta tc ownX subX disX worlds aworlds cworlds _q9 _q10 depth rfl hp
set_option maxHeartbeats 8000000 in
theorem w_cplan {h : FH} {w : World} (hs : Sub h w) (ht : TabH Tryz.prog h) (t : Task) (at_ : Option Addr) (ct : Nat) (_q1 : RSl h at_ t.init) (_q2 : t.init.length ≤ ct) (at_2 : Option Addr) (ct2 : Nat) (_q3 : RSl h at_2 t.goal) (_q4 : t.goal.length ≤ ct2) (at_3 : Option Addr) (ct3 : Nat) (_q5 : RSl h at_3 t.ops) (_q6 : t.ops.length ≤ ct3) (unknown : List Int) (aunknown : Option Addr) (cunknown : Nat) (_q7 : RSl h aunknown unknown) (_q8 : unknown.length ≤ cunknown) (sN : List Int) (aSn : Option Addr) (cSn : Nat) (_q9 : RSl h aSn sN) (_q10 : sN.length ≤ cSn) (depth : Int) (K : (List TNode × Bool × Fault) → Prop) (hF : F_cplan t unknown sN depth K) : Calls Tryz.prog 32 #[.agg #[iV t.facts, .slice at_ t.init.length ct, .slice at_2 t.goal.length ct2, .slice at_3 t.ops.length ct3], .slice aunknown unknown.length cunknown, .slice aSn sN.length cSn, iV depth] w fun e w' => ∃ (r : List TNode × Bool × Fault) (z : Option Addr × Nat) (h1 : FH), K r ∧ e = .returned (.tuple #[.slice z.1 r.1.length z.2, .bool r.2.1, .agg #[iV r.2.2.code, iV r.2.2.index]]) ∧ FH.le h h1 ∧ (RSl h1 z.1 r.1 ∧ r.1.length ≤ z.2) ∧ SH (Kp.all w h) h1 w' [] := by
 refine enter (args := [.agg (tF t at_ ct at_2 ct2 at_3 ct3).toArray, vSl aunknown unknown cunknown, vSl aSn sN cSn, iV depth]) Tryz.func32 rfl Tryz.ntmps32 rfl hs ?_
 refine .seq (.region ?_)
 refine bx (vs := (tF t at_ ct at_2 ct2 at_3 ct3)) rfl rfl rfl (fun pt => ?_)
 refine .V ag0 ?_
 refine .V ag0 ?_
 refine al tZ27 rfl (fun pv => ?_)
 refine .nil (.seqN (.seq (.seq (.region (.V (ldA (cs := (tF t at_ ct at_2 ct2 at_3 ct3)) rfl tA25 rfl (cellsB (off := 0) (k := 1) rfl (m := 4) rfl)) ?_)))))
 refine .V mv0 ?_
 refine .V mv0 ?_
 obtain ⟨r2, q11⟩ : ∃ y_ : Fault, y_ = sp_ccheck t unknown sN := ⟨_, rfl⟩
 replace hF := hF r2 q11
 refine .C (cl (v := .agg #[iV r2.code, iV r2.index]) Tryz.call70 rfl rfl (fun w S => (by rw [q11]; exact c_ccheck S.sub t at_ ct _q1 _q2 at_2 ct2 _q3 _q4 at_3 ct3 _q5 _q6 unknown aunknown cunknown _q7 _q8 sN aSn cSn _q9 _q10 ))) ?_
 refine al tZ27 rfl (fun pf => ?_)
 refine st (p := pf) (off := 0) (k := 0) (vs := [iV r2.code, iV r2.index]) rfl rfl rfl (fun w => (tA27 w).2) rfl rfl rfl rfl ?_
 refine .KA [Box pf [iV r2.code, iV r2.index], Box pv [iV 0, iV 0], Box pt (tF t at_ ct at_2 ct2 at_3 ct3)] ?_
 refine .nil (.seqN (.seq (.region (.V (ldA (cs := [iV r2.code, iV r2.index]) rfl tA27 rfl (cellsB (off := 0) (k := 0) rfl (m := 2) rfl)) ?_))))
 refine .V (bld (cs := #[iV 0, iV 0]) (pv := []) tB27 rfl rfl) ?_
 refine .V (ne2 tE27 rfl rfl) ?_
 refine .nil (.seqN ?_)
 refine .cond rfl (fun q13 => ?_) (fun q13 => ?_)
 ·replace hF := hF.1 q13
  refine .seq ?_
  refine .openL (by kernel_rfl) rfl (by kernel_rfl) (by kernel_rfl) ?_
  refine .V (ldA (cs := [iV r2.code, iV r2.index]) rfl tA27 rfl (cellsB (off := 0) (k := 0) rfl (m := 2) rfl)) ?_
  refine .V ag0 ?_
  refine .V ag0 ?_
  refine .tail ?_
  refine st (p := pv) (off := 0) (k := 1) (vs := [iV r2.code, iV r2.index]) rfl rfl rfl (fun w => (tA27 w).2) rfl rfl rfl rfl ?_
  refine .KA [Box pf [iV r2.code, iV r2.index], Box pv [iV r2.code, iV r2.index], Box pt (tF t at_ ct at_2 ct2 at_3 ct3)] ?_
  refine .nil (.seqN (.ret (.seqR ?_)))
  refine .res3 rfl (rvT rfl) (rvT rfl) (rvC rfl tA27 (k := 1) rfl rfl) (fun w' S => ⟨(([] : List TNode), false, r2), (none, 0), h, hF, rfl, (FH.le_refl _), ⟨RSl.nil_, (Nat.le_refl 0)⟩, S.none⟩)
 replace hF := hF.2 q13
 refine .skip (.seqN (.seq ?_))
 refine .share (σ := Bool) (fun z => F_cplan_J1 t unknown sN depth K z) (fun z => [(1, vSl aunknown unknown cunknown), (2, vSl aSn sN cSn), (3, iV depth), (4, .pointer (some pt)), (10, .pointer (some pv)), (28, .bool z)]) (fun _ => [Box pt (tF t at_ ct at_2 ct2 at_3 ct3), Box pv [iV 0, iV 0]]) (fun _ => h) ?_ (fun q15 => ?_)
 ·rintro t28 hF
  show J _ _ _ _ _ [(1, vSl aunknown unknown cunknown), (2, vSl aSn sN cSn), (3, iV depth), (4, .pointer (some pt)), (10, .pointer (some pv)), (28, .bool t28)] [Box pt (tF t at_ ct at_2 ct2 at_3 ct3), Box pv [iV 0, iV 0]] h
  refine .cond rfl (fun q17 => ?_) (fun q17 => ?_)
  ·replace hF := hF.1 q17
   refine .seq (.region (.V (bld (cs := #[iV 3, iV (-10)]) (pv := [(0, iV 3), (1, iV (-10))]) tB27 rfl rfl) ?_))
   refine .V ag0 ?_
   refine .V ag0 ?_
   refine st (p := pv) (off := 0) (k := 1) (vs := [iV 3, iV (-10)]) rfl rfl rfl (fun w => (tA27 w).2) rfl rfl rfl rfl ?_
   refine .KA [Box pt (tF t at_ ct at_2 ct2 at_3 ct3), Box pv [iV 3, iV (-10)]] ?_
   refine .nil (.seqN (.ret (.seqR ?_)))
   refine .res3 rfl (rvT rfl) (rvT rfl) (rvC rfl tA27 (k := 1) rfl rfl) (fun w' S => ⟨(([] : List TNode), false, (⟨3, (-10)⟩ : Fault)), (none, 0), h, hF, rfl, (FH.le_refl _), ⟨RSl.nil_, (Nat.le_refl 0)⟩, S.none⟩)
  replace hF := hF.2 q17
  refine .skip (.seqN (.seq (.region (.V (ldA (cs := (tF t at_ ct at_2 ct2 at_3 ct3)) rfl tA25 rfl (cellsB (off := 0) (k := 0) rfl (m := 4) rfl)) ?_))))
  refine .V mv0 ?_
  refine mm rfl (fun bv => ?_)
  refine .V (bld (cs := (tF t at_ ct at_2 ct2 at_3 ct3 [vSl aSn sN cSn, .map (some bv), .slice none 0 0]).toArray) (pv := [(0, .agg (tF t at_ ct at_2 ct2 at_3 ct3).toArray), (1, vSl aSn sN cSn), (2, .map (some bv))]) tB99 rfl rfl) ?_
  refine bx (vs := (tF t at_ ct at_2 ct2 at_3 ct3 [vSl aSn sN cSn, .map (some bv), .slice none 0 0])) rfl rfl rfl (fun pv2 => ?_)
  refine .V ag0 ?_
  refine .nil (.seqN (.seq (.region (.V (ldA (cs := (tF t at_ ct at_2 ct2 at_3 ct3)) rfl tA25 rfl (cellsB (off := 0) (k := 2) rfl (m := 4) rfl)) ?_))))
  refine .V mv0 ?_
  obtain ⟨q18, hF⟩ := hF
  obtain ⟨r3, q19⟩ : ∃ y_ : List (List Int), y_ = sp_worlds t unknown := ⟨_, rfl⟩
  replace hF := hF r3 q19
  refine clR (α := Option Addr × Nat) (Φ := fun h1 z => RSl h1 z.1 r3 ∧ r3.length ≤ z.2) (V := fun z => vSl z.1 r3 z.2) Tryz.call48 rfl rfl (fun w S => (by rw [q19]; exact c_worlds S.sub t at_ ct _q1 _q2 at_2 ct2 _q3 _q4 at_3 ct3 _q5 _q6 unknown aunknown cunknown _q7 _q8 q18)) rfl (fun z h1 le1 hz => ?_)
  obtain ⟨a, c⟩ := z
  obtain ⟨q20, q21⟩ := hz
  refine .V ag0 ?_
  refine .nil (.seqN (.seq (.seq (.region (.V mv0 ?_)))))
  refine .V mv0 ?_
  refine .V (mkf (vf := [.pointer (some pv2)]) (vc := []) rfl rfl) ?_
  obtain ⟨q22, hF⟩ := hF
  obtain ⟨r4, q23⟩ : ∃ y_ : Bool, y_ = sp_smallC r3 (⟨t, sN⟩ : Srch) := ⟨_, rfl⟩
  replace hF := hF r4 q23
  refine .C (cl (v := .bool r4) Tryz.call47 rfl rfl (fun w S => (by rw [q23]; obtain ⟨h_, hl_, hs_, hb_⟩ := lookB S (k := 0) rfl; exact c_smallC hs_ (ht.mono (FH.le_trans (le1) hl_)) r3 a c (RSl.mono hl_ q20) q21 (⟨t, sN⟩ : Srch) at_ ct (RSl.mono hl_ (_q1.mono (le1))) _q2 at_2 ct2 (RSl.mono hl_ (_q3.mono (le1))) _q4 at_3 ct3 (RSl.mono hl_ (_q5.mono (le1))) _q6 aSn cSn (RSl.mono hl_ (_q9.mono (le1))) _q10 pv2 bv none 0 0 hb_ q22))) ?_
  refine .V (nt rfl) ?_
  refine .nil (.seqN ?_)
  refine .cond rfl (fun q25 => ?_) (fun q25 => ?_)
  ·replace hF := hF.1 q25
   refine .seq (.region (.V (bld (cs := #[iV 10, iV (-7)]) (pv := [(0, iV 10), (1, iV (-7))]) tB27 rfl rfl) ?_))
   refine .V ag0 ?_
   refine .V ag0 ?_
   refine st (p := pv) (off := 0) (k := 3) (vs := [iV 10, iV (-7)]) rfl rfl rfl (fun w => (tA27 w).2) rfl rfl rfl rfl ?_
   refine .KA [Box pv2 (tF t at_ ct at_2 ct2 at_3 ct3 [vSl aSn sN cSn, .map (some bv), .slice none 0 0]), OwnMap bv (fun _ => 0), Box pt (tF t at_ ct at_2 ct2 at_3 ct3), Box pv [iV 10, iV (-7)]] ?_
   refine .nil (.seqN (.ret (.seqR ?_)))
   refine .res3 rfl (rvT rfl) (rvT rfl) (rvC rfl tA27 (k := 3) rfl rfl) (fun w' S => ⟨(([] : List TNode), false, (⟨10, (-7)⟩ : Fault)), (none, 0), h1, hF, rfl, (le1), ⟨RSl.nil_, (Nat.le_refl 0)⟩, S.none⟩)
  replace hF := hF.2 q25
  refine .skip (.seqN (.seq (.region (.V mv0 ?_))))
  refine .V mv0 ?_
  refine .V mv0 ?_
  refine .nilSl 102 5 ?_
  refine .KA [oL 102 5 none ([] : List TNode) 0, Box pv2 (tF t at_ ct at_2 ct2 at_3 ct3 [vSl aSn sN cSn, .map (some bv), .slice none (([] : List TNode).length) 0]), OwnMap bv (fun _ => 0), Box pt (tF t at_ ct at_2 ct2 at_3 ct3), Box pv [iV 0, iV 0]] ?_
  obtain ⟨q26, q27, hF⟩ := hF
  obtain ⟨r5, q28⟩ : ∃ y_ : Int, y_ = sp_sleast (⟨t, sN⟩ : Srch) r3 depth := ⟨_, rfl⟩
  replace hF := hF r5 q28
  refine callS (i := 1) (j := 2) (k := 0) (inv := srInv (⟨t, sN⟩ : Srch)) (pre := (tF t at_ ct at_2 ct2 at_3 ct3 [vSl aSn sN cSn])) (xs := ([] : List TNode)) (v := iV r5) rfl rfl rfl rfl rfl rfl rfl rfl q26 Tryz.call72 rfl rfl (fun w g hx sg hd hs' => ?_) rfl (fun m q29 => ?_)
  ·rw [q28]; exact c_sleast hs' (ht.mono (le1)) (⟨t, sN⟩ : Srch) at_ ct (_q1.mono (le1)) _q2 at_2 ct2 (_q3.mono (le1)) _q4 at_3 ct3 (_q5.mono (le1)) _q6 aSn cSn (_q9.mono (le1)) _q10 pv2 bv ([] : List TNode) none 0 hx sg hd r3 a c q20 q21 depth q27
  replace hF := hF m q29
  refine .KA [oL 102 5 none ([] : List TNode) 0, Box pv2 (tF t at_ ct at_2 ct2 at_3 ct3 [vSl aSn sN cSn, .map (some bv), .slice none (([] : List TNode).length) 0]), OwnMap bv m, Box pt (tF t at_ ct at_2 ct2 at_3 ct3), Box pv [iV 0, iV 0]] ?_
  refine .V ag0 ?_
  refine .nil (.seqN (.seq (.seq (.region (.V mv0 ?_)))))
  refine .V bi0 ?_
  refine .nil (.seqN ?_)
  refine .cond rfl (fun q31 => ?_) (fun q31 => ?_)
  ·replace hF := hF.1 q31
   refine .seq (.region (.V (bld (cs := #[iV 0, iV 0]) (pv := []) tB27 rfl rfl) ?_))
   refine .V ag0 ?_
   refine .V ag0 ?_
   refine st (p := pv) (off := 0) (k := 4) (vs := [iV 0, iV 0]) rfl rfl rfl (fun w => (tA27 w).2) rfl rfl rfl rfl ?_
   refine .KA [oL 102 5 none ([] : List TNode) 0, Box pv2 (tF t at_ ct at_2 ct2 at_3 ct3 [vSl aSn sN cSn, .map (some bv), .slice none (([] : List TNode).length) 0]), OwnMap bv m, Box pt (tF t at_ ct at_2 ct2 at_3 ct3), Box pv [iV 0, iV 0]] ?_
   refine .nil (.seqN (.ret (.seqR ?_)))
   refine .res3 rfl (rvT rfl) (rvT rfl) (rvC rfl tA27 (k := 4) rfl rfl) (fun w' S => ⟨(([] : List TNode), false, (⟨0, 0⟩ : Fault)), (none, 0), h1, hF, rfl, (le1), ⟨RSl.nil_, (Nat.le_refl 0)⟩, S.none⟩)
  replace hF := hF.2 q31
  refine .skip (.seqN (.seq (.region (.V mv0 ?_))))
  refine .V mv0 ?_
  refine .V mv0 ?_
  obtain ⟨q32, hF⟩ := hF
  obtain ⟨r6, q33⟩ : ∃ y_ : Int × (List TNode), y_ = sp_sbuild (⟨t, sN⟩ : Srch) ([] : List TNode) r3 r5 := ⟨_, rfl⟩
  replace hF := hF r6 q33
  refine callSE (i := 1) (j := 2) (k := 0) (inv := srInv (⟨t, sN⟩ : Srch)) (pre := (tF t at_ ct at_2 ct2 at_3 ct3 [vSl aSn sN cSn])) (xs := ([] : List TNode)) (xs' := r6.2) (v := iV r6.1) rfl rfl rfl rfl rfl rfl rfl rfl q29 Tryz.call73 rfl rfl (fun w g hx sg hd hs' => ?_) rfl (fun ta tc m2 q34 => ?_)
  ·rw [q33]; exact c_sbuild hs' (ht.mono (le1)) (⟨t, sN⟩ : Srch) at_ ct (_q1.mono (le1)) _q2 at_2 ct2 (_q3.mono (le1)) _q4 at_3 ct3 (_q5.mono (le1)) _q6 aSn cSn (_q9.mono (le1)) _q10 pv2 bv ([] : List TNode) none 0 hx sg hd r3 a c q20 q21 r5 q32
  replace hF := hF m2 q34
  refine .KA [oL 102 5 ta r6.2 tc, Box pv2 (tF t at_ ct at_2 ct2 at_3 ct3 [vSl aSn sN cSn, .map (some bv), vSl ta r6.2 tc]), OwnMap bv m2, Box pt (tF t at_ ct at_2 ct2 at_3 ct3), Box pv [iV 0, iV 0]] ?_
  refine .nil (.seqN (.seq (.seq (.region (.V mv0 ?_)))))
  refine .V (nck rfl) ?_
  refine .V (fa rfl tF99_3) ?_
  refine .V (ld1 rfl tO60 (cellB (off := 6) (k := 1) rfl rfl)) ?_
  refine .V (ln rfl tS60.is) ?_
  refine .V bi0 ?_
  refine .nil (.seqN ?_)
  refine .cond rfl (fun q36 => ?_) (fun q36 => ?_)
  ·replace hF := hF.1 q36
   refine .seq (.region (.V (bld (cs := #[iV 10, iV (-1)]) (pv := [(0, iV 10), (1, iV (-1))]) tB27 rfl rfl) ?_))
   refine .V ag0 ?_
   refine .V ag0 ?_
   refine st (p := pv) (off := 0) (k := 4) (vs := [iV 10, iV (-1)]) rfl rfl rfl (fun w => (tA27 w).2) rfl rfl rfl rfl ?_
   refine .KA [oL 102 5 ta r6.2 tc, Box pv2 (tF t at_ ct at_2 ct2 at_3 ct3 [vSl aSn sN cSn, .map (some bv), vSl ta r6.2 tc]), OwnMap bv m2, Box pt (tF t at_ ct at_2 ct2 at_3 ct3), Box pv [iV 10, iV (-1)]] ?_
   refine .nil (.seqN (.ret (.seqR ?_)))
   refine .res3 rfl (rvT rfl) (rvT rfl) (rvC rfl tA27 (k := 4) rfl rfl) (fun w' S => ⟨(([] : List TNode), false, (⟨10, (-1)⟩ : Fault)), (none, 0), h1, hF, rfl, (le1), ⟨RSl.nil_, (Nat.le_refl 0)⟩, S.none⟩)
  replace hF := hF.2 q36
  refine .skip (.seqN (.seq (.region (.V mv0 ?_))))
  refine .V (nck rfl) ?_
  refine .V (fa rfl tF99_3) ?_
  refine .V (ld1 rfl tO60 (cellB (off := 6) (k := 1) rfl rfl)) ?_
  refine .V (bld (cs := #[iV 0, iV 0]) (pv := []) tB27 rfl rfl) ?_
  refine .V ag0 ?_
  refine .V ag0 ?_
  refine st (p := pv) (off := 0) (k := 4) (vs := [iV 0, iV 0]) rfl rfl rfl (fun w => (tA27 w).2) rfl rfl rfl rfl ?_
  refine .KA [oL 102 5 ta r6.2 tc, Box pv2 (tF t at_ ct at_2 ct2 at_3 ct3 [vSl aSn sN cSn, .map (some bv), vSl ta r6.2 tc]), OwnMap bv m2, Box pt (tF t at_ ct at_2 ct2 at_3 ct3), Box pv [iV 0, iV 0]] ?_
  refine .nil (.seqN ?_)
  refine .freezeL (k := 0) rfl (fun h2 le2 q38 q37 => ?_)
  refine .KA [tru, Box pv2 (tF t at_ ct at_2 ct2 at_3 ct3 [vSl aSn sN cSn, .map (some bv), vSl ta r6.2 tc]), OwnMap bv m2, Box pt (tF t at_ ct at_2 ct2 at_3 ct3), Box pv [iV 0, iV 0]] ?_
  refine .ret ?_
  refine .res3 rfl (rvT rfl) (rvT rfl) (rvC rfl tA27 (k := 4) rfl rfl) (fun w' S => ⟨(r6.2, true, (⟨0, 0⟩ : Fault)), (ta, tc), h2, hF, rfl, (FH.le_trans (le1) (le2)), ⟨(RSl.of q37), (q38)⟩, S.none⟩)
 refine .region (.V mv0 ?_)
 refine .V bi0 ?_
 refine .V mv0 ?_
 rcases Bool.eq_false_or_eq_true (decide (depth < 0)) with q39 | q39
 ·replace hF := hF.1 q39
  refine .GS q39 ?_
  refine .GS q39 ?_
  refine .V (pkT rfl q39 rfl) ?_
  refine .nil ?_
  refine .sel0 [2, 1] (by decide) rfl ?_
  exact .US q15 true hF
 replace hF := hF.2 q39
 refine .GV mv0 q39 ?_
 refine .GV bi0 q39 ?_
 refine .V (pkF rfl q39 rfl) ?_
 refine .nil ?_
 refine .sel0 [2, 1] (by decide) rfl ?_
 exact .US q15 (decide (6 < depth)) hF
theorem c_cplan {h : FH} {w : World} (hs : Sub h w) (ht : TabH Tryz.prog h) (t : Task) (at_ : Option Addr) (ct : Nat) (_q1 : RSl h at_ t.init) (_q2 : t.init.length ≤ ct) (at_2 : Option Addr) (ct2 : Nat) (_q3 : RSl h at_2 t.goal) (_q4 : t.goal.length ≤ ct2) (at_3 : Option Addr) (ct3 : Nat) (_q5 : RSl h at_3 t.ops) (_q6 : t.ops.length ≤ ct3) (unknown : List Int) (aunknown : Option Addr) (cunknown : Nat) (_q7 : RSl h aunknown unknown) (_q8 : unknown.length ≤ cunknown) (sN : List Int) (aSn : Option Addr) (cSn : Nat) (_q9 : RSl h aSn sN) (_q10 : sN.length ≤ cSn) (depth : Int) : Calls Tryz.prog 32 #[.agg #[iV t.facts, .slice at_ t.init.length ct, .slice at_2 t.goal.length ct2, .slice at_3 t.ops.length ct3], .slice aunknown unknown.length cunknown, .slice aSn sN.length cSn, iV depth] w fun e w' => ∃ (z : Option Addr × Nat) (h1 : FH), e = .returned (.tuple #[.slice z.1 (sp_cplan t unknown sN depth).1.length z.2, .bool (sp_cplan t unknown sN depth).2.1, .agg #[iV (sp_cplan t unknown sN depth).2.2.code, iV (sp_cplan t unknown sN depth).2.2.index]]) ∧ FH.le h h1 ∧ (RSl h1 z.1 (sp_cplan t unknown sN depth).1 ∧ (sp_cplan t unknown sN depth).1.length ≤ z.2) ∧ SH (Kp.all w h) h1 w' [] :=
 (w_cplan hs ht t at_ ct _q1 _q2 at_2 ct2 _q3 _q4 at_3 ct3 _q5 _q6 unknown aunknown cunknown _q7 _q8 sN aSn cSn _q9 _q10 depth (fun r => r = sp_cplan t unknown sN depth) (ok_cplan t unknown sN depth)).mono fun _ _ ⟨r, z, h1, hk, he, hl, hf, hS⟩ => by subst hk; exact ⟨z, h1, he, hl, hf, hS⟩
set_option maxHeartbeats 8000000 in
theorem w_stopped {h : FH} {w : World} (hs : Sub h w) (ht : TabH Tryz.prog h) (K : Bool → Prop) (hF : F_stopped  K) : Calls Tryz.prog 33 #[] w fun e w' => ∃ r : Bool, K r ∧ e = .returned (.bool r) ∧ Below w.heap.size w w' := by
 refine enter (args := []) Tryz.func33 rfl Tryz.ntmps33 rfl hs ?_
 refine .seq (.region (.V ag0 ?_))
 refine .nil (.seqN (.seq (.region ?_)))
 obtain ⟨r2, q1⟩ : ∃ y_ : Task, y_ = sp_able := ⟨_, rfl⟩
 replace hF := hF r2 q1
 refine clR (α := Option Addr × Nat × Option Addr × Nat × Option Addr × Nat) (Φ := fun h1 z => RSl h1 z.1 r2.init ∧ r2.init.length ≤ z.2.1 ∧ RSl h1 z.2.2.1 r2.goal ∧ r2.goal.length ≤ z.2.2.2.1 ∧ RSl h1 z.2.2.2.2.1 r2.ops ∧ r2.ops.length ≤ z.2.2.2.2.2) (V := fun z => .agg (tF r2 z.1 z.2.1 z.2.2.1 z.2.2.2.1 z.2.2.2.2.1 z.2.2.2.2.2).toArray) Tryz.call54 rfl rfl (fun w S => (by rw [q1]; exact c_able S.sub  )) rfl (fun z h1 le1 hz => ?_)
 obtain ⟨a, c, a2, c2, a3, c3⟩ := z
 obtain ⟨q2, q3, q4, q5, q6, q7⟩ := hz
 refine .V (bld (cs := #[iV 1, iV 0, iV 0, iV 0, iV 0]) (pv := [(0, iV 1)]) tB102 rfl rfl) ?_
 refine bs1S (cs := #[iV 1, iV 0, iV 0, iV 0, iV 0]) tS60 rfl rfl (by decide) rfl rfl (fun a4 _ => ?_)
 refine .KA [oL 102 5 a4 ([(⟨1, 0, 0, 0, 0⟩ : TNode)] : List TNode) 1] ?_
 obtain ⟨r3, q9⟩ : ∃ y_ : Int × Fault, y_ = sp_depth r2 [] ([(⟨1, 0, 0, 0, 0⟩ : TNode)] : List TNode) := ⟨_, rfl⟩
 replace hF := hF r3 q9
 refine .C (cl (v := .tuple #[iV r3.1, .agg #[iV r3.2.code, iV r3.2.index]]) Tryz.call37 rfl rfl (fun w S => (by rw [q9]; obtain ⟨h_, hl_, hs_, hne_, hr_⟩ := look S (k := 0) rfl; exact c_depth hs_ r2 a c (RSl.mono hl_ q2) q3 a2 c2 (RSl.mono hl_ q4) q5 a3 c3 (RSl.mono hl_ q6) q7 [] none 0 RSl.nil_ (Nat.le_refl 0) ([(⟨1, 0, 0, 0, 0⟩ : TNode)] : List TNode) a4 1 (RSl.of hr_) (look_len S (k := 0) rfl) ))) ?_
 refine .V mv0 ?_
 refine .V (ext rfl rfl) ?_
 refine .V (ext rfl rfl) ?_
 refine al tZ27 rfl (fun pf => ?_)
 refine .V ag0 ?_
 refine st (p := pf) (off := 0) (k := 0) (vs := [iV r3.2.code, iV r3.2.index]) rfl rfl rfl (fun w => (tA27 w).2) rfl rfl rfl rfl ?_
 refine .KA [Box pf [iV r3.2.code, iV r3.2.index], oL 102 5 a4 ([(⟨1, 0, 0, 0, 0⟩ : TNode)] : List TNode) 1] ?_
 refine .nil (.seqN (.seq (.region ?_)))
 obtain ⟨r4, q10⟩ : ∃ y_ : Task, y_ = sp_able := ⟨_, rfl⟩
 replace hF := hF r4 q10
 refine clR (α := Option Addr × Nat × Option Addr × Nat × Option Addr × Nat) (Φ := fun h1 z => RSl h1 z.1 r4.init ∧ r4.init.length ≤ z.2.1 ∧ RSl h1 z.2.2.1 r4.goal ∧ r4.goal.length ≤ z.2.2.2.1 ∧ RSl h1 z.2.2.2.2.1 r4.ops ∧ r4.ops.length ≤ z.2.2.2.2.2) (V := fun z => .agg (tF r4 z.1 z.2.1 z.2.2.1 z.2.2.2.1 z.2.2.2.2.1 z.2.2.2.2.2).toArray) Tryz.call54 rfl rfl (fun w S => (by rw [q10]; exact c_able S.sub  )) rfl (fun z h2 le2 hz => ?_)
 obtain ⟨a5, c4, a6, c5, a7, c6⟩ := z
 obtain ⟨q11, q12, q13, q14, q15, q16⟩ := hz
 obtain ⟨r5, q17⟩ : ∃ y_ : List TNode × Bool × Fault, y_ = sp_cplan r4 [] [] 1 := ⟨_, rfl⟩
 replace hF := hF r5 q17
 refine clR (α := Option Addr × Nat) (Φ := fun h1 z => RSl h1 z.1 r5.1 ∧ r5.1.length ≤ z.2) (V := fun z => .tuple #[vSl z.1 r5.1 z.2, .bool r5.2.1, .agg #[iV r5.2.2.code, iV r5.2.2.index]]) Tryz.call32 rfl rfl (fun w S => (by rw [q17]; exact c_cplan S.sub (ht.mono (FH.le_trans (le1) (le2))) r4 a5 c4 q11 q12 a6 c5 q13 q14 a7 c6 q15 q16 [] none 0 RSl.nil_ (Nat.le_refl 0) [] none 0 RSl.nil_ (Nat.le_refl 0) 1 )) rfl (fun z h3 le3 hz => ?_)
 obtain ⟨a8, c7⟩ := z
 obtain ⟨q18, q19⟩ := hz
 refine .V mv0 ?_
 refine .V (ext rfl rfl) ?_
 refine .V (ext rfl rfl) ?_
 refine .V (ext rfl rfl) ?_
 refine al tZ27 rfl (fun pg => ?_)
 refine .V ag0 ?_
 refine .V ag0 ?_
 refine st (p := pg) (off := 0) (k := 0) (vs := [iV r5.2.2.code, iV r5.2.2.index]) rfl rfl rfl (fun w => (tA27 w).2) rfl rfl rfl rfl ?_
 refine .KA [Box pg [iV r5.2.2.code, iV r5.2.2.index], Box pf [iV r3.2.code, iV r3.2.index], oL 102 5 a4 ([(⟨1, 0, 0, 0, 0⟩ : TNode)] : List TNode) 1] ?_
 refine .nil (.seqN (.seq (.region (.V (fa rfl tF27_0) ?_))))
 refine .V (ld1 rfl tO3 (cellB (off := 0) (k := 1) rfl rfl)) ?_
 refine .V bi0 ?_
 refine .V mv0 ?_
 rcases Bool.eq_false_or_eq_true (r3.2.code == 0) with q27 | q27
 ·replace hF := hF.1 q27
  refine .GV (fa rfl tF27_0) q27 ?_
  refine .GV (ld1 rfl tO3 (cellB (off := 0) (k := 0) rfl rfl)) q27 ?_
  refine .GV bi0 q27 ?_
  refine .V (pkT rfl q27 rfl) ?_
  refine .V mv0 ?_
  rcases Bool.eq_false_or_eq_true (r5.2.2.code == 0) with q28 | q28
  ·replace hF := hF.1 q28
   refine .GV mv0 q28 ?_
   refine .GV bi0 q28 ?_
   refine .V (pkT rfl q28 rfl) ?_
   refine .V mv0 ?_
   rcases Bool.eq_false_or_eq_true (r3.1 == 0) with q29 | q29
   ·replace hF := hF.1 q29
    refine .GV mv0 q29 ?_
    refine .V (pkT rfl q29 rfl) ?_
    refine .V mv0 ?_
    rcases Bool.eq_false_or_eq_true (r5.2.1) with q30 | q30
    ·replace hF := hF.1 q30
     refine .GV mv0 q30 ?_
     refine .GV (bld (cs := #[iV 1, iV 0, iV 0, iV 0, iV 0]) (pv := [(0, iV 1)]) tB102 rfl rfl) q30 ?_
     refine .GV (bld (cs := #[iV 2, iV 0, iV 0, iV 0, iV 0]) (pv := [(0, iV 2)]) tB102 rfl rfl) q30 ?_
     refine .gR rfl rfl rfl q30 ?_
     refine bs2 (cs := #[iV 1, iV 0, iV 0, iV 0, iV 0, iV 2, iV 0, iV 0, iV 0, iV 0]) (pv := [(0, .agg #[iV 1, iV 0, iV 0, iV 0, iV 0]), (1, .agg #[iV 2, iV 0, iV 0, iV 0, iV 0])]) tS60 rfl rfl (by decide) (by decide) rfl rfl rfl (fun a9 _ => ?_)
     refine .KA [oL 102 5 a9 ([(⟨1, 0, 0, 0, 0⟩ : TNode), (⟨2, 0, 0, 0, 0⟩ : TNode)] : List TNode) 2, Box pg [iV r5.2.2.code, iV r5.2.2.index], Box pf [iV r3.2.code, iV r3.2.index], oL 102 5 a4 ([(⟨1, 0, 0, 0, 0⟩ : TNode)] : List TNode) 1] ?_
     obtain ⟨q32, hF⟩ := hF
     obtain ⟨r6, q33⟩ : ∃ y_ : Bool, y_ = sp_trees r5.1 ([(⟨1, 0, 0, 0, 0⟩ : TNode), (⟨2, 0, 0, 0, 0⟩ : TNode)] : List TNode) := ⟨_, rfl⟩
     replace hF := hF r6 q33
     refine .gc (cl (v := .bool r6) Tryz.call35 rfl rfl (fun w S => (by rw [q33]; obtain ⟨h_, hl_, hs_, hne_, hr_⟩ := look S (k := 0) rfl; exact c_trees hs_ r5.1 a8 c7 (RSl.mono hl_ q18) q19 ([(⟨1, 0, 0, 0, 0⟩ : TNode), (⟨2, 0, 0, 0, 0⟩ : TNode)] : List TNode) a9 2 (RSl.of hr_) (look_len S (k := 0) rfl) q32))) rfl rfl rfl q30 rfl rfl ?_
     refine .V (pkT rfl q30 rfl) ?_
     refine .V ag0 ?_
     refine .nil (.seqN (.ret ?_))
     refine .res1 rfl (rvT rfl) (fun w' S => ⟨r6, hF, rfl, S.below⟩)
    replace hF := hF.2 q30
    refine .GS q30 ?_
    refine .GS q30 ?_
    refine .GS q30 ?_
    refine .GS q30 ?_
    refine .GS q30 ?_
    refine .V (pkF rfl q30 rfl) ?_
    refine .V ag0 ?_
    refine .nil (.seqN (.ret ?_))
    refine .res1 rfl (rvT rfl) (fun w' S => ⟨false, hF, rfl, S.below⟩)
   replace hF := hF.2 q29
   refine .GS q29 ?_
   refine .V (pkF rfl q29 rfl) ?_
   refine .V mv0 ?_
   refine .gS rfl rfl rfl rfl rfl rfl ?_
   refine .gS rfl rfl rfl rfl rfl rfl ?_
   refine .gS rfl rfl rfl rfl rfl rfl ?_
   refine .gS rfl rfl rfl rfl rfl rfl ?_
   refine .gS rfl rfl rfl rfl rfl rfl ?_
   refine .V (pkF rfl rfl rfl) ?_
   refine .V ag0 ?_
   refine .nil (.seqN (.ret ?_))
   refine .res1 rfl (rvT rfl) (fun w' S => ⟨false, hF, rfl, S.below⟩)
  replace hF := hF.2 q28
  refine .GS q28 ?_
  refine .GS q28 ?_
  refine .V (pkF rfl q28 rfl) ?_
  refine .V mv0 ?_
  refine .gS rfl rfl rfl rfl rfl rfl ?_
  refine .V (pkF rfl rfl rfl) ?_
  refine .V mv0 ?_
  refine .gS rfl rfl rfl rfl rfl rfl ?_
  refine .gS rfl rfl rfl rfl rfl rfl ?_
  refine .gS rfl rfl rfl rfl rfl rfl ?_
  refine .gS rfl rfl rfl rfl rfl rfl ?_
  refine .gS rfl rfl rfl rfl rfl rfl ?_
  refine .V (pkF rfl rfl rfl) ?_
  refine .V ag0 ?_
  refine .nil (.seqN (.ret ?_))
  refine .res1 rfl (rvT rfl) (fun w' S => ⟨false, hF, rfl, S.below⟩)
 replace hF := hF.2 q27
 refine .GS q27 ?_
 refine .GS q27 ?_
 refine .GS q27 ?_
 refine .V (pkF rfl q27 rfl) ?_
 refine .V mv0 ?_
 refine .gS rfl rfl rfl rfl rfl rfl ?_
 refine .gS rfl rfl rfl rfl rfl rfl ?_
 refine .V (pkF rfl rfl rfl) ?_
 refine .V mv0 ?_
 refine .gS rfl rfl rfl rfl rfl rfl ?_
 refine .V (pkF rfl rfl rfl) ?_
 refine .V mv0 ?_
 refine .gS rfl rfl rfl rfl rfl rfl ?_
 refine .gS rfl rfl rfl rfl rfl rfl ?_
 refine .gS rfl rfl rfl rfl rfl rfl ?_
 refine .gS rfl rfl rfl rfl rfl rfl ?_
 refine .gS rfl rfl rfl rfl rfl rfl ?_
 refine .V (pkF rfl rfl rfl) ?_
 refine .V ag0 ?_
 refine .nil (.seqN (.ret ?_))
 refine .res1 rfl (rvT rfl) (fun w' S => ⟨false, hF, rfl, S.below⟩)
theorem c_stopped {h : FH} {w : World} (hs : Sub h w) (ht : TabH Tryz.prog h) : Calls Tryz.prog 33 #[] w fun e w' => e = .returned (.bool (sp_stopped)) ∧ Below w.heap.size w w' :=
 (w_stopped hs ht  (fun r => r = sp_stopped) (ok_stopped )).mono fun _ _ ⟨_, hk, he, hb⟩ => ⟨by rw [he, hk], hb⟩
end Go.Proofs.YtojoehfldbimpaaGreatDoor.Pl

namespace Go.Proofs.YtojoehfldbimpaaGreatDoor.Pl
open Go Go.RowKit
set_option maxHeartbeats 8000000 in
theorem w_lawContPlan {h : FH} {w : World} (hs : Sub h w) (ht : TabH Tryz.prog h) (t : Task) (at_ : Option Addr) (ct : Nat) (_q1 : RSl h at_ t.init) (_q2 : t.init.length ≤ ct) (at_2 : Option Addr) (ct2 : Nat) (_q3 : RSl h at_2 t.goal) (_q4 : t.goal.length ≤ ct2) (at_3 : Option Addr) (ct3 : Nat) (_q5 : RSl h at_3 t.ops) (_q6 : t.ops.length ≤ ct3) (unknown : List Int) (aunknown : Option Addr) (cunknown : Nat) (_q7 : RSl h aunknown unknown) (_q8 : unknown.length ≤ cunknown) (sN : List Int) (aSn : Option Addr) (cSn : Nat) (_q9 : RSl h aSn sN) (_q10 : sN.length ≤ cSn) (depth : Int) (K : Bool → Prop) (hF : F_lawContPlan t unknown sN depth K) : Calls Tryz.prog 6 #[.agg #[iV t.facts, .slice at_ t.init.length ct, .slice at_2 t.goal.length ct2, .slice at_3 t.ops.length ct3], .slice aunknown unknown.length cunknown, .slice aSn sN.length cSn, iV depth] w fun e w' => ∃ r : Bool, K r ∧ e = .returned (.bool r) ∧ Below w.heap.size w w' := by
 refine enter (args := [.agg (tF t at_ ct at_2 ct2 at_3 ct3).toArray, vSl aunknown unknown cunknown, vSl aSn sN cSn, iV depth]) Tryz.func6 rfl Tryz.ntmps6 rfl hs ?_
 refine .seq (.region ?_)
 refine bx (vs := (tF t at_ ct at_2 ct2 at_3 ct3)) rfl rfl rfl (fun pt => ?_)
 refine .V ag0 ?_
 refine .nil (.seqN (.seq (.region (.V (ldA (cs := (tF t at_ ct at_2 ct2 at_3 ct3)) rfl tA25 rfl (cellsB (off := 0) (k := 0) rfl (m := 4) rfl)) ?_))))
 refine .V mv0 ?_
 refine .V mv0 ?_
 refine .V mv0 ?_
 obtain ⟨r2, q11⟩ : ∃ y_ : List TNode × Bool × Fault, y_ = sp_cplan t unknown sN depth := ⟨_, rfl⟩
 replace hF := hF r2 q11
 refine clR (α := Option Addr × Nat) (Φ := fun h1 z => RSl h1 z.1 r2.1 ∧ r2.1.length ≤ z.2) (V := fun z => .tuple #[vSl z.1 r2.1 z.2, .bool r2.2.1, .agg #[iV r2.2.2.code, iV r2.2.2.index]]) Tryz.call32 rfl rfl (fun w S => (by rw [q11]; exact c_cplan S.sub (ht.mono (FH.le_refl _)) t at_ ct _q1 _q2 at_2 ct2 _q3 _q4 at_3 ct3 _q5 _q6 unknown aunknown cunknown _q7 _q8 sN aSn cSn _q9 _q10 depth )) rfl (fun z h1 le1 hz => ?_)
 obtain ⟨a, c⟩ := z
 obtain ⟨q12, q13⟩ := hz
 refine .V mv0 ?_
 refine .V (ext rfl rfl) ?_
 refine .V (ext rfl rfl) ?_
 refine .V (ext rfl rfl) ?_
 refine al tZ27 rfl (fun pf => ?_)
 refine .V ag0 ?_
 refine .V ag0 ?_
 refine st (p := pf) (off := 0) (k := 0) (vs := [iV r2.2.2.code, iV r2.2.2.index]) rfl rfl rfl (fun w => (tA27 w).2) rfl rfl rfl rfl ?_
 refine .KA [Box pf [iV r2.2.2.code, iV r2.2.2.index], Box pt (tF t at_ ct at_2 ct2 at_3 ct3)] ?_
 refine .nil (.seqN (.seq (.region (.V (ldA (cs := (tF t at_ ct at_2 ct2 at_3 ct3)) rfl tA25 rfl (cellsB (off := 0) (k := 1) rfl (m := 4) rfl)) ?_))))
 refine .V mv0 ?_
 obtain ⟨r3, q14⟩ : ∃ y_ : Fault, y_ = sp_unknownFault t unknown := ⟨_, rfl⟩
 replace hF := hF r3 q14
 refine .C (cl (v := .agg #[iV r3.code, iV r3.index]) Tryz.call13 rfl rfl (fun w S => (by rw [q14]; exact c_rUnknownFault S.sub t at_ ct (_q1.mono (le1)) _q2 at_2 ct2 (_q3.mono (le1)) _q4 at_3 ct3 (_q5.mono (le1)) _q6 unknown aunknown cunknown (_q7.mono (le1)) _q8 ))) ?_
 refine al tZ27 rfl (fun pe => ?_)
 refine st (p := pe) (off := 0) (k := 0) (vs := [iV r3.code, iV r3.index]) rfl rfl rfl (fun w => (tA27 w).2) rfl rfl rfl rfl ?_
 refine .KA [Box pe [iV r3.code, iV r3.index], Box pf [iV r2.2.2.code, iV r2.2.2.index], Box pt (tF t at_ ct at_2 ct2 at_3 ct3)] ?_
 refine .nil (.seqN (.seq ?_))
 refine .share (σ := Bool) (fun z => F_lawContPlan_J1 t unknown sN depth K r2 r3 z) (fun z => [(1, vSl aunknown unknown cunknown), (2, vSl aSn sN cSn), (3, iV depth), (4, .pointer (some pt)), (9, vSl a r2.1 c), (10, .bool r2.2.1), (11, .pointer (some pf)), (12, .pointer (some pe)), (37, .bool z)]) (fun _ => [Box pt (tF t at_ ct at_2 ct2 at_3 ct3), Box pf [iV r2.2.2.code, iV r2.2.2.index], Box pe [iV r3.code, iV r3.index]]) (fun _ => h1) ?_ (fun q18 => ?_)
 ·rintro t37 hF
  show J _ _ _ _ _ [(1, vSl aunknown unknown cunknown), (2, vSl aSn sN cSn), (3, iV depth), (4, .pointer (some pt)), (9, vSl a r2.1 c), (10, .bool r2.2.1), (11, .pointer (some pf)), (12, .pointer (some pe)), (37, .bool t37)] [Box pt (tF t at_ ct at_2 ct2 at_3 ct3), Box pf [iV r2.2.2.code, iV r2.2.2.index], Box pe [iV r3.code, iV r3.index]] h1
  refine .shareT (σ := Int × Int) (fun z => F_lawContPlan_J2 t unknown sN depth K r2 z.1 z.2) (fun _ => [(1, vSl aunknown unknown cunknown), (2, vSl aSn sN cSn), (3, iV depth), (4, .pointer (some pt)), (9, vSl a r2.1 c), (10, .bool r2.2.1), (11, .pointer (some pf)), (12, .pointer (some pe))]) (fun z => [Box pt (tF t at_ ct at_2 ct2 at_3 ct3), Box pf [iV r2.2.2.code, iV r2.2.2.index], Box pe [iV z.1, iV z.2]]) (fun _ => h1) ?_ (fun q21 => ?_)
  ·rintro ⟨x, x2⟩ hF
   show J _ _ _ _ _ [(1, vSl aunknown unknown cunknown), (2, vSl aSn sN cSn), (3, iV depth), (4, .pointer (some pt)), (9, vSl a r2.1 c), (10, .bool r2.2.1), (11, .pointer (some pf)), (12, .pointer (some pe))] [Box pt (tF t at_ ct at_2 ct2 at_3 ct3), Box pf [iV r2.2.2.code, iV r2.2.2.index], Box pe [iV x, iV x2]] h1
   refine .seq ?_
   refine .share (σ := Bool) (fun z => F_lawContPlan_J3 t unknown sN depth K r2 x x2 z) (fun z => [(1, vSl aunknown unknown cunknown), (2, vSl aSn sN cSn), (3, iV depth), (4, .pointer (some pt)), (9, vSl a r2.1 c), (10, .bool r2.2.1), (11, .pointer (some pf)), (12, .pointer (some pe)), (46, .bool z)]) (fun _ => [Box pt (tF t at_ ct at_2 ct2 at_3 ct3), Box pf [iV r2.2.2.code, iV r2.2.2.index], Box pe [iV x, iV x2]]) (fun _ => h1) ?_ (fun q24 => ?_)
   ·rintro t46 hF
    show J _ _ _ _ _ [(1, vSl aunknown unknown cunknown), (2, vSl aSn sN cSn), (3, iV depth), (4, .pointer (some pt)), (9, vSl a r2.1 c), (10, .bool r2.2.1), (11, .pointer (some pf)), (12, .pointer (some pe)), (46, .bool t46)] [Box pt (tF t at_ ct at_2 ct2 at_3 ct3), Box pf [iV r2.2.2.code, iV r2.2.2.index], Box pe [iV x, iV x2]] h1
    refine .shareT (σ := Int × Int) (fun z => F_lawContPlan_J4 t unknown sN depth K r2 z.1 z.2) (fun _ => [(1, vSl aunknown unknown cunknown), (2, vSl aSn sN cSn), (3, iV depth), (4, .pointer (some pt)), (9, vSl a r2.1 c), (10, .bool r2.2.1), (11, .pointer (some pf)), (12, .pointer (some pe))]) (fun z => [Box pt (tF t at_ ct at_2 ct2 at_3 ct3), Box pf [iV r2.2.2.code, iV r2.2.2.index], Box pe [iV z.1, iV z.2]]) (fun _ => h1) ?_ (fun q27 => ?_)
    ·rintro ⟨x3, x4⟩ hF
     show J _ _ _ _ _ [(1, vSl aunknown unknown cunknown), (2, vSl aSn sN cSn), (3, iV depth), (4, .pointer (some pt)), (9, vSl a r2.1 c), (10, .bool r2.2.1), (11, .pointer (some pf)), (12, .pointer (some pe))] [Box pt (tF t at_ ct at_2 ct2 at_3 ct3), Box pf [iV r2.2.2.code, iV r2.2.2.index], Box pe [iV x3, iV x4]] h1
     refine .seq (.seq (.region (.V (fa rfl tF27_0) ?_)))
     refine .V (ld1 rfl tO3 (cellB (off := 0) (k := 2) rfl rfl)) ?_
     refine .V bi0 ?_
     refine .nil (.seqN ?_)
     refine .cond rfl (fun q37 => ?_) (fun q37 => ?_)
     ·replace hF := hF.1 q37
      refine .seq (.region (.V (ldA (cs := [iV r2.2.2.code, iV r2.2.2.index]) rfl tA27 rfl (cellsB (off := 0) (k := 1) rfl (m := 2) rfl)) ?_))
      refine .V (ldA (cs := [iV x3, iV x4]) rfl tA27 rfl (cellsB (off := 0) (k := 2) rfl (m := 2) rfl)) ?_
      refine .V (eq2 tE27 rfl rfl) ?_
      refine .V mv0 ?_
      rcases Bool.eq_false_or_eq_true ((r2.2.2.code == x3) && (r2.2.2.index == x4)) with q42 | q42
      ·replace hF := hF.1 q42
       refine .GV mv0 q42 ?_
       refine .GV (nt rfl) q42 ?_
       refine .V (pkT rfl q42 rfl) ?_
       refine .V mv0 ?_
       rcases Bool.eq_false_or_eq_true (!r2.2.1) with q43 | q43
       ·replace hF := hF.1 q43
        refine .GV mv0 q43 ?_
        refine .GV (ln rfl tS60.is) q43 ?_
        refine .GV bi0 q43 ?_
        refine .V (pkT rfl q43 rfl) ?_
        refine .V mv0 ?_
        rcases Bool.eq_false_or_eq_true (((r2.1.length : Nat) : Int) == 0) with q44 | q44
        ·replace hF := hF.1 q44
         obtain ⟨r4, q45⟩ : ∃ y_ : Bool, y_ = sp_stopped := ⟨_, rfl⟩
         replace hF := hF r4 q45
         refine .gc (cl (v := .bool r4) Tryz.call33 rfl rfl (fun w S => (by rw [q45]; exact c_stopped S.sub (ht.mono (le1)) ))) rfl rfl rfl q44 rfl rfl ?_
         refine .V (pkT rfl q44 rfl) ?_
         refine .V ag0 ?_
         refine .nil (.seqN (.ret (.seqR ?_)))
         refine .res1 rfl (rvT rfl) (fun w' S => ⟨r4, hF, rfl, S.below⟩)
        replace hF := hF.2 q44
        refine .GS q44 ?_
        refine .V (pkF rfl q44 rfl) ?_
        refine .V ag0 ?_
        refine .nil (.seqN (.ret (.seqR ?_)))
        refine .res1 rfl (rvT rfl) (fun w' S => ⟨false, hF, rfl, S.below⟩)
       replace hF := hF.2 q43
       refine .GS q43 ?_
       refine .GS q43 ?_
       refine .GS q43 ?_
       refine .V (pkF rfl q43 rfl) ?_
       refine .V mv0 ?_
       refine .gS rfl rfl rfl rfl rfl rfl ?_
       refine .V (pkF rfl rfl rfl) ?_
       refine .V ag0 ?_
       refine .nil (.seqN (.ret (.seqR ?_)))
       refine .res1 rfl (rvT rfl) (fun w' S => ⟨false, hF, rfl, S.below⟩)
      replace hF := hF.2 q42
      refine .GS q42 ?_
      refine .GS q42 ?_
      refine .V (pkF rfl q42 rfl) ?_
      refine .V mv0 ?_
      refine .gS rfl rfl rfl rfl rfl rfl ?_
      refine .gS rfl rfl rfl rfl rfl rfl ?_
      refine .gS rfl rfl rfl rfl rfl rfl ?_
      refine .V (pkF rfl rfl rfl) ?_
      refine .V mv0 ?_
      refine .gS rfl rfl rfl rfl rfl rfl ?_
      refine .V (pkF rfl rfl rfl) ?_
      refine .V ag0 ?_
      refine .nil (.seqN (.ret (.seqR ?_)))
      refine .res1 rfl (rvT rfl) (fun w' S => ⟨false, hF, rfl, S.below⟩)
     replace hF := hF.2 q37
     refine .skip (.seqN (.seq (.region (.V (ldA (cs := (tF t at_ ct at_2 ct2 at_3 ct3)) rfl tA25 rfl (cellsB (off := 0) (k := 0) rfl (m := 4) rfl)) ?_))))
     refine .V mv0 ?_
     obtain ⟨q46, hF⟩ := hF
     obtain ⟨r5, q47⟩ : ∃ y_ : List (List Int), y_ = sp_possible t unknown := ⟨_, rfl⟩
     replace hF := hF r5 q47
     refine clR (α := Option Addr × Nat) (Φ := fun h1 z => RSl h1 z.1 r5 ∧ r5.length ≤ z.2) (V := fun z => vSl z.1 r5 z.2) Tryz.call16 rfl rfl (fun w S => (by rw [q47]; exact c_possible S.sub t at_ ct (_q1.mono (le1)) _q2 at_2 ct2 (_q3.mono (le1)) _q4 at_3 ct3 (_q5.mono (le1)) _q6 unknown aunknown cunknown (_q7.mono (le1)) _q8 q46)) rfl (fun z h2 le2 hz => ?_)
     obtain ⟨a2, c2⟩ := z
     obtain ⟨q48, q49⟩ := hz
     refine .V ag0 ?_
     refine .nil (.seqN (.seq (.seq (.region (.V (ldA (cs := (tF t at_ ct at_2 ct2 at_3 ct3)) rfl tA25 rfl (cellsB (off := 0) (k := 0) rfl (m := 4) rfl)) ?_)))))
     refine .V mv0 ?_
     refine .V mv0 ?_
     obtain ⟨q50, hF⟩ := hF
     obtain ⟨r6, q51⟩ : ∃ y_ : List (List (List Int)) × Bool, y_ = sp_beliefs t r5 sN 150 := ⟨_, rfl⟩
     replace hF := hF r6 q51
     refine clR (α := Option Addr × Nat) (Φ := fun h1 z => RSl h1 z.1 r6.1 ∧ r6.1.length ≤ z.2) (V := fun z => .tuple #[vSl z.1 r6.1 z.2, .bool r6.2]) Tryz.call15 rfl rfl (fun w S => (by rw [q51]; exact c_beliefs S.sub t at_ ct (_q1.mono (FH.le_trans (le1) (le2))) _q2 at_2 ct2 (_q3.mono (FH.le_trans (le1) (le2))) _q4 at_3 ct3 (_q5.mono (FH.le_trans (le1) (le2))) _q6 r5 a2 c2 q48 q49 sN aSn cSn (_q9.mono (FH.le_trans (le1) (le2))) _q10 150 q50)) rfl (fun z h3 le3 hz => ?_)
     obtain ⟨a3, c3⟩ := z
     obtain ⟨q52, q53⟩ := hz
     refine .V mv0 ?_
     refine .V (ext rfl rfl) ?_
     refine .V (ext rfl rfl) ?_
     refine .V ag0 ?_
     refine .V ag0 ?_
     refine .nil (.seqN ?_)
     refine .share (σ := Bool) (fun z => F_lawContPlan_J5 t sN depth K r2 r5 z) (fun z => [(2, vSl aSn sN cSn), (3, iV depth), (4, .pointer (some pt)), (9, vSl a r2.1 c), (10, .bool r2.2.1), (11, .pointer (some pf)), (13, vSl a2 r5 c2), (87, .bool z)]) (fun _ => [Box pt (tF t at_ ct at_2 ct2 at_3 ct3), Box pf [iV r2.2.2.code, iV r2.2.2.index]]) (fun _ => h3) ?_ (fun q56 => ?_)
     ·rintro t87 hF
      show J _ _ _ _ _ [(2, vSl aSn sN cSn), (3, iV depth), (4, .pointer (some pt)), (9, vSl a r2.1 c), (10, .bool r2.2.1), (11, .pointer (some pf)), (13, vSl a2 r5 c2), (87, .bool t87)] [Box pt (tF t at_ ct at_2 ct2 at_3 ct3), Box pf [iV r2.2.2.code, iV r2.2.2.index]] h3
      refine .cond rfl (fun q59 => ?_) (fun q59 => ?_)
      ·replace hF := hF.1 q59
       refine .seq (.region ?_)
       obtain ⟨r7, q60⟩ : ∃ y_ : Bool, y_ = sp_stopped := ⟨_, rfl⟩
       replace hF := hF r7 q60
       refine .C (cl (v := .bool r7) Tryz.call33 rfl rfl (fun w S => (by rw [q60]; exact c_stopped S.sub (ht.mono (FH.le_trans (FH.le_trans (le1) (le2)) (le3))) ))) ?_
       refine .V ag0 ?_
       refine .nil (.seqN (.ret (.seqR ?_)))
       refine .res1 rfl (rvT rfl) (fun w' S => ⟨r7, hF, rfl, S.below⟩)
      replace hF := hF.2 q59
      refine .skip (.seqN (.seq ?_))
      refine .share (σ := Bool) (fun z => F_lawContPlan_J6 t sN depth K r2 r5 z) (fun z => [(2, vSl aSn sN cSn), (3, iV depth), (4, .pointer (some pt)), (9, vSl a r2.1 c), (10, .bool r2.2.1), (13, vSl a2 r5 c2), (100, .bool z)]) (fun _ => [Box pt (tF t at_ ct at_2 ct2 at_3 ct3)]) (fun _ => h3) ?_ (fun q64 => ?_)
      ·rintro t100 hF
       show J _ _ _ _ _ [(2, vSl aSn sN cSn), (3, iV depth), (4, .pointer (some pt)), (9, vSl a r2.1 c), (10, .bool r2.2.1), (13, vSl a2 r5 c2), (100, .bool t100)] [Box pt (tF t at_ ct at_2 ct2 at_3 ct3)] h3
       refine .cond rfl (fun q66 => ?_) (fun q66 => ?_)
       ·replace hF := hF.1 q66
        refine .seq (.region (.V ag0 ?_))
        refine .nil (.seqN (.ret (.seqR ?_)))
        refine .res1 rfl (rvT rfl) (fun w' S => ⟨false, hF, rfl, S.below⟩)
       replace hF := hF.2 q66
       refine .skip (.seqN (.seq (.region (.V mv0 ?_))))
       refine .V (nt rfl) ?_
       refine .V mv0 ?_
       rcases Bool.eq_false_or_eq_true (!r2.2.1) with q84 | q84
       ·replace hF := hF.1 q84
        refine .GV mv0 q84 ?_
        refine .GV (ln rfl tS60.is) q84 ?_
        refine .GV bi0 q84 ?_
        refine .V (pkT rfl q84 rfl) ?_
        refine .V mv0 ?_
        rcases Bool.eq_false_or_eq_true (((r2.1.length : Nat) : Int) == 0) with q85 | q85
        ·replace hF := hF.1 q85
         refine .GS q85 ?_
         refine .GS q85 ?_
         refine .GU ?_
         refine .GU ?_
         refine .GU ?_
         refine .GU ?_
         refine .GU ?_
         refine .GU ?_
         refine .GU ?_
         refine .GS q85 ?_
         refine .V (pkT rfl q85 rfl) ?_
         refine .V mv0 ?_
         obtain ⟨r8, q86⟩ : ∃ y_ : Bool, y_ = sp_stopped := ⟨_, rfl⟩
         replace hF := hF r8 q86
         refine .gc (cl (v := .bool r8) Tryz.call33 rfl rfl (fun w S => (by rw [q86]; exact c_stopped S.sub (ht.mono (FH.le_trans (FH.le_trans (le1) (le2)) (le3))) ))) rfl rfl rfl rfl rfl rfl ?_
         refine .V (pkT rfl rfl rfl) ?_
         refine .V ag0 ?_
         refine .nil (.seqN (.ret ?_))
         refine .res1 rfl (rvT rfl) (fun w' S => ⟨r8, hF, rfl, S.below⟩)
        replace hF := hF.2 q85
        refine .GV mv0 q85 ?_
        refine .GV mv0 q85 ?_
        rcases Bool.eq_false_or_eq_true (r2.2.1) with q87 | q87
        ·replace hF := hF.1 q87
         refine .GV mv0 q87 ?_
         refine .GV (ldA (cs := (tF t at_ ct at_2 ct2 at_3 ct3)) rfl tA25 rfl (cellsB (off := 0) (k := 0) rfl (m := 4) rfl)) q87 ?_
         refine .GV mv0 q87 ?_
         refine .GV mv0 q87 ?_
         refine .GV mv0 q87 ?_
         refine .gR rfl rfl rfl q87 ?_
         refine .nilSl 102 5 ?_
         refine .KA [oL 102 5 none ([] : List TNode) 0, Box pt (tF t at_ ct at_2 ct2 at_3 ct3)] ?_
         obtain ⟨q88, hF⟩ := hF
         obtain ⟨r9, q89⟩ : ∃ y_ : List TNode, y_ = sp_tree t sN r5 depth ([] : List TNode) := ⟨_, rfl⟩
         replace hF := hF r9 q89
         refine callH (k := 0) (X' := fun a' c' => oL 102 5 a' r9 c') (V := fun a' c' => vSl a' r9 c') rfl Tryz.call36 rfl rfl (fun w g hx sg hd hs' => ?_) rfl (fun a4 c4 => ?_)
         ·rw [q89]; exact c_tree hs' t at_ ct (_q1.mono (FH.le_trans (FH.le_trans (le1) (le2)) (le3))) _q2 at_2 ct2 (_q3.mono (FH.le_trans (FH.le_trans (le1) (le2)) (le3))) _q4 at_3 ct3 (_q5.mono (FH.le_trans (FH.le_trans (le1) (le2)) (le3))) _q6 sN aSn cSn (_q9.mono (FH.le_trans (FH.le_trans (le1) (le2)) (le3))) _q10 r5 a2 c2 (q48.mono (le3)) q49 depth ([] : List TNode) none 0 hx sg hd q88
         refine .KA [oL 102 5 a4 r9 c4, Box pt (tF t at_ ct at_2 ct2 at_3 ct3)] ?_
         obtain ⟨q90, hF⟩ := hF
         obtain ⟨r10, q91⟩ : ∃ y_ : Bool, y_ = sp_trees r2.1 r9 := ⟨_, rfl⟩
         replace hF := hF r10 q91
         refine .gc (cl (v := .bool r10) Tryz.call35 rfl rfl (fun w S => (by rw [q91]; obtain ⟨h_, hl_, hs_, hne_, hr_⟩ := look S (k := 0) rfl; exact c_trees hs_ r2.1 a c (RSl.mono hl_ (q12.mono (FH.le_trans (le2) (le3)))) q13 r9 a4 c4 (RSl.of hr_) (look_len S (k := 0) rfl) q90))) rfl rfl rfl q87 rfl rfl ?_
         refine .GV (pkT rfl q87 rfl) q85 ?_
         refine .V (pkF rfl q85 rfl) ?_
         refine .V mv0 ?_
         rcases Bool.eq_false_or_eq_true (r10) with q92 | q92
         ·replace hF := hF.1 q92
          obtain ⟨r11, q93⟩ : ∃ y_ : Bool, y_ = sp_stopped := ⟨_, rfl⟩
          replace hF := hF r11 q93
          refine .gc (cl (v := .bool r11) Tryz.call33 rfl rfl (fun w S => (by rw [q93]; exact c_stopped S.sub (ht.mono (FH.le_trans (FH.le_trans (le1) (le2)) (le3))) ))) rfl rfl rfl q92 rfl rfl ?_
          refine .V (pkT rfl q92 rfl) ?_
          refine .V ag0 ?_
          refine .nil (.seqN (.ret ?_))
          refine .res1 rfl (rvT rfl) (fun w' S => ⟨r11, hF, rfl, S.below⟩)
         replace hF := hF.2 q92
         refine .GS q92 ?_
         refine .V (pkF rfl q92 rfl) ?_
         refine .V ag0 ?_
         refine .nil (.seqN (.ret ?_))
         refine .res1 rfl (rvT rfl) (fun w' S => ⟨false, hF, rfl, S.below⟩)
        replace hF := hF.2 q87
        refine .GS q87 ?_
        refine .GS q87 ?_
        refine .GS q87 ?_
        refine .GS q87 ?_
        refine .GS q87 ?_
        refine .GS q87 ?_
        refine .GS q87 ?_
        refine .GV (pkF rfl q87 rfl) q85 ?_
        refine .V (pkF rfl q85 rfl) ?_
        refine .V mv0 ?_
        refine .gS rfl rfl rfl rfl rfl rfl ?_
        refine .V (pkF rfl rfl rfl) ?_
        refine .V ag0 ?_
        refine .nil (.seqN (.ret ?_))
        refine .res1 rfl (rvT rfl) (fun w' S => ⟨false, hF, rfl, S.below⟩)
       replace hF := hF.2 q84
       refine .GS q84 ?_
       refine .GS q84 ?_
       refine .GS q84 ?_
       refine .V (pkF rfl q84 rfl) ?_
       refine .V mv0 ?_
       refine .gv mv0 rfl rfl rfl rfl rfl rfl ?_
       refine .gv mv0 rfl rfl rfl rfl rfl rfl ?_
       rcases Bool.eq_false_or_eq_true (r2.2.1) with q94 | q94
       ·replace hF := hF.1 q94
        refine .GV mv0 q94 ?_
        refine .GV (ldA (cs := (tF t at_ ct at_2 ct2 at_3 ct3)) rfl tA25 rfl (cellsB (off := 0) (k := 0) rfl (m := 4) rfl)) q94 ?_
        refine .GV mv0 q94 ?_
        refine .GV mv0 q94 ?_
        refine .GV mv0 q94 ?_
        refine .gR rfl rfl rfl q94 ?_
        refine .nilSl 102 5 ?_
        refine .KA [oL 102 5 none ([] : List TNode) 0, Box pt (tF t at_ ct at_2 ct2 at_3 ct3)] ?_
        obtain ⟨q95, hF⟩ := hF
        obtain ⟨r12, q96⟩ : ∃ y_ : List TNode, y_ = sp_tree t sN r5 depth ([] : List TNode) := ⟨_, rfl⟩
        replace hF := hF r12 q96
        refine callH (k := 0) (X' := fun a' c' => oL 102 5 a' r12 c') (V := fun a' c' => vSl a' r12 c') rfl Tryz.call36 rfl rfl (fun w g hx sg hd hs' => ?_) rfl (fun a5 c5 => ?_)
        ·rw [q96]; exact c_tree hs' t at_ ct (_q1.mono (FH.le_trans (FH.le_trans (le1) (le2)) (le3))) _q2 at_2 ct2 (_q3.mono (FH.le_trans (FH.le_trans (le1) (le2)) (le3))) _q4 at_3 ct3 (_q5.mono (FH.le_trans (FH.le_trans (le1) (le2)) (le3))) _q6 sN aSn cSn (_q9.mono (FH.le_trans (FH.le_trans (le1) (le2)) (le3))) _q10 r5 a2 c2 (q48.mono (le3)) q49 depth ([] : List TNode) none 0 hx sg hd q95
        refine .KA [oL 102 5 a5 r12 c5, Box pt (tF t at_ ct at_2 ct2 at_3 ct3)] ?_
        obtain ⟨q97, hF⟩ := hF
        obtain ⟨r13, q98⟩ : ∃ y_ : Bool, y_ = sp_trees r2.1 r12 := ⟨_, rfl⟩
        replace hF := hF r13 q98
        refine .gc (cl (v := .bool r13) Tryz.call35 rfl rfl (fun w S => (by rw [q98]; obtain ⟨h_, hl_, hs_, hne_, hr_⟩ := look S (k := 0) rfl; exact c_trees hs_ r2.1 a c (RSl.mono hl_ (q12.mono (FH.le_trans (le2) (le3)))) q13 r12 a5 c5 (RSl.of hr_) (look_len S (k := 0) rfl) q97))) rfl rfl rfl q94 rfl rfl ?_
        refine .gv (pkT rfl q94 rfl) rfl rfl rfl rfl rfl rfl ?_
        refine .V (pkF rfl rfl rfl) ?_
        refine .V mv0 ?_
        rcases Bool.eq_false_or_eq_true (r13) with q99 | q99
        ·replace hF := hF.1 q99
         obtain ⟨r14, q100⟩ : ∃ y_ : Bool, y_ = sp_stopped := ⟨_, rfl⟩
         replace hF := hF r14 q100
         refine .gc (cl (v := .bool r14) Tryz.call33 rfl rfl (fun w S => (by rw [q100]; exact c_stopped S.sub (ht.mono (FH.le_trans (FH.le_trans (le1) (le2)) (le3))) ))) rfl rfl rfl q99 rfl rfl ?_
         refine .V (pkT rfl q99 rfl) ?_
         refine .V ag0 ?_
         refine .nil (.seqN (.ret ?_))
         refine .res1 rfl (rvT rfl) (fun w' S => ⟨r14, hF, rfl, S.below⟩)
        replace hF := hF.2 q99
        refine .GS q99 ?_
        refine .V (pkF rfl q99 rfl) ?_
        refine .V ag0 ?_
        refine .nil (.seqN (.ret ?_))
        refine .res1 rfl (rvT rfl) (fun w' S => ⟨false, hF, rfl, S.below⟩)
       replace hF := hF.2 q94
       refine .GS q94 ?_
       refine .GS q94 ?_
       refine .GS q94 ?_
       refine .GS q94 ?_
       refine .GS q94 ?_
       refine .GS q94 ?_
       refine .GS q94 ?_
       refine .gv (pkF rfl q94 rfl) rfl rfl rfl rfl rfl rfl ?_
       refine .V (pkF rfl rfl rfl) ?_
       refine .V mv0 ?_
       refine .gS rfl rfl rfl rfl rfl rfl ?_
       refine .V (pkF rfl rfl rfl) ?_
       refine .V ag0 ?_
       refine .nil (.seqN (.ret ?_))
       refine .res1 rfl (rvT rfl) (fun w' S => ⟨false, hF, rfl, S.below⟩)
      refine .region (.V (fa rfl tF27_0) ?_)
      refine .V (ld1 rfl tO3 (cellB (off := 0) (k := 1) rfl rfl)) ?_
      refine .V bi0 ?_
      refine .V mv0 ?_
      rcases Bool.eq_false_or_eq_true (r2.2.2.code != 0) with q101 | q101
      ·replace hF := hF.1 q101
       refine .GS q101 ?_
       refine .GS q101 ?_
       refine .GS q101 ?_
       refine .GS q101 ?_
       refine .GS q101 ?_
       refine .GS q101 ?_
       refine .GS q101 ?_
       refine .V (pkT rfl q101 rfl) ?_
       refine .nil ?_
       refine .sel0 [0] (by decide) rfl ?_
       exact .US q64 true hF
      replace hF := hF.2 q101
      refine .GV mv0 q101 ?_
      refine .GV (ldA (cs := (tF t at_ ct at_2 ct2 at_3 ct3)) rfl tA25 rfl (cellsB (off := 0) (k := 0) rfl (m := 4) rfl)) q101 ?_
      refine .GV mv0 q101 ?_
      refine .GV mv0 q101 ?_
      refine .GV mv0 q101 ?_
      obtain ⟨q102, hF⟩ := hF
      obtain ⟨r15, q103⟩ : ∃ y_ : Bool, y_ = sp_within t sN r5 depth := ⟨_, rfl⟩
      replace hF := hF r15 q103
      refine .gc (cl (v := .bool r15) Tryz.call34 rfl rfl (fun w S => (by rw [q103]; exact c_within S.sub t at_ ct (_q1.mono (FH.le_trans (FH.le_trans (le1) (le2)) (le3))) _q2 at_2 ct2 (_q3.mono (FH.le_trans (FH.le_trans (le1) (le2)) (le3))) _q4 at_3 ct3 (_q5.mono (FH.le_trans (FH.le_trans (le1) (le2)) (le3))) _q6 sN aSn cSn (_q9.mono (FH.le_trans (FH.le_trans (le1) (le2)) (le3))) _q10 r5 a2 c2 (q48.mono (le3)) q49 depth q102))) rfl rfl rfl q101 rfl rfl ?_
      refine .GV (bneq Tryz.underlying4 rfl rfl) q101 ?_
      refine .V (pkF rfl q101 rfl) ?_
      refine .nil ?_
      refine .sel0 [0] (by decide) rfl ?_
      exact .US q64 (r2.2.1 != r15) hF
     refine .region (.V mv0 ?_)
     refine .V (nt rfl) ?_
     refine .V mv0 ?_
     rcases Bool.eq_false_or_eq_true (!r6.2) with q104 | q104
     ·replace hF := hF.1 q104
      refine .GS q104 ?_
      refine .GS q104 ?_
      refine .V (pkT rfl q104 rfl) ?_
      refine .V mv0 ?_
      refine .gS rfl rfl rfl rfl rfl rfl ?_
      refine .gS rfl rfl rfl rfl rfl rfl ?_
      refine .gS rfl rfl rfl rfl rfl rfl ?_
      refine .gS rfl rfl rfl rfl rfl rfl ?_
      refine .V (pkT rfl rfl rfl) ?_
      refine .nil ?_
      refine .sel0 [0, 1] (by decide) rfl ?_
      exact .US q56 true hF
     replace hF := hF.2 q104
     refine .GV mv0 q104 ?_
     refine .GV bi0 q104 ?_
     refine .V (pkF rfl q104 rfl) ?_
     refine .V mv0 ?_
     rcases Bool.eq_false_or_eq_true (decide (3 < depth)) with q105 | q105
     ·replace hF := hF.1 q105
      refine .GS q105 ?_
      refine .GS q105 ?_
      refine .GS q105 ?_
      refine .GS q105 ?_
      refine .V (pkT rfl q105 rfl) ?_
      refine .nil ?_
      refine .sel0 [0, 1] (by decide) rfl ?_
      exact .US q56 true hF
     replace hF := hF.2 q105
     refine .GV (fa rfl tF25_3) q105 ?_
     refine .GV (ld1 rfl tO23 (cellB (off := 3) (k := 0) rfl rfl)) q105 ?_
     refine .GV (ln rfl tS23.is) q105 ?_
     refine .GV bi0 q105 ?_
     refine .V (pkF rfl q105 rfl) ?_
     refine .nil ?_
     refine .sel0 [0, 1] (by decide) rfl ?_
     exact .US q56 (decide (8 < ((t.ops.length : Nat) : Int))) hF
    refine .cond rfl (fun q106 => ?_) (fun q106 => ?_)
    ·replace hF := hF.1 q106
     refine .region ?_
     obtain ⟨r16, q107⟩ : ∃ y_ : Fault, y_ = sp_at_ 3 (-10) := ⟨_, rfl⟩
     replace hF := hF r16 q107
     refine .C (cl (v := .agg #[iV r16.code, iV r16.index]) Tryz.call18 rfl rfl (fun w S => (by rw [q107]; exact c_at_ S.sub 3 (-10) ))) ?_
     refine st (p := pe) (off := 0) (k := 2) (vs := [iV r16.code, iV r16.index]) rfl rfl rfl (fun w => (tA27 w).2) rfl rfl rfl rfl ?_
     refine .KA [Box pt (tF t at_ ct at_2 ct2 at_3 ct3), Box pf [iV r2.2.2.code, iV r2.2.2.index], Box pe [iV r16.code, iV r16.index]] ?_
     refine .nil ?_
     exact .US q27 (r16.code, r16.index) hF
    replace hF := hF.2 q106
    refine .skip ?_
    exact .US q27 (x, x2) hF
   refine .region (.V (fa rfl tF27_0) ?_)
   refine .V (ld1 rfl tO3 (cellB (off := 0) (k := 2) rfl rfl)) ?_
   refine .V bi0 ?_
   refine .V mv0 ?_
   rcases Bool.eq_false_or_eq_true (x == 0) with q108 | q108
   ·replace hF := hF.1 q108
    refine .GV mv0 q108 ?_
    obtain ⟨r17, q109⟩ : ∃ y_ : Bool, y_ = sp_in_ depth 0 6 := ⟨_, rfl⟩
    replace hF := hF r17 q109
    refine .gc (cl (v := .bool r17) Tryz.call25 rfl rfl (fun w S => (by rw [q109]; exact c_in_ S.sub depth 0 6 ))) rfl rfl rfl q108 rfl rfl ?_
    refine .GV (nt rfl) q108 ?_
    refine .V (pkT rfl q108 rfl) ?_
    refine .nil ?_
    exact .US q24 (!r17) hF
   replace hF := hF.2 q108
   refine .GS q108 ?_
   refine .GS q108 ?_
   refine .GS q108 ?_
   refine .V (pkF rfl q108 rfl) ?_
   refine .nil ?_
   exact .US q24 false hF
  refine .cond rfl (fun q110 => ?_) (fun q110 => ?_)
  ·replace hF := hF.1 q110
   refine .region ?_
   obtain ⟨r18, q111⟩ : ∃ y_ : Fault, y_ = sp_at_ 5 (-9) := ⟨_, rfl⟩
   replace hF := hF r18 q111
   refine .C (cl (v := .agg #[iV r18.code, iV r18.index]) Tryz.call18 rfl rfl (fun w S => (by rw [q111]; exact c_at_ S.sub 5 (-9) ))) ?_
   refine st (p := pe) (off := 0) (k := 2) (vs := [iV r18.code, iV r18.index]) rfl rfl rfl (fun w => (tA27 w).2) rfl rfl rfl rfl ?_
   refine .KA [Box pt (tF t at_ ct at_2 ct2 at_3 ct3), Box pf [iV r2.2.2.code, iV r2.2.2.index], Box pe [iV r18.code, iV r18.index]] ?_
   refine .nil ?_
   exact .US q21 (r18.code, r18.index) hF
  replace hF := hF.2 q110
  refine .skip ?_
  exact .US q21 (r3.code, r3.index) hF
 refine .region (.V (fa rfl tF27_0) ?_)
 refine .V (ld1 rfl tO3 (cellB (off := 0) (k := 0) rfl rfl)) ?_
 refine .V bi0 ?_
 refine .V mv0 ?_
 rcases Bool.eq_false_or_eq_true (r3.code == 0) with q112 | q112
 ·replace hF := hF.1 q112
  refine .GV mv0 q112 ?_
  refine .GV (fa rfl tF25_0) q112 ?_
  refine .GV (ld1 rfl tO3 (cellB (off := 0) (k := 2) rfl rfl)) q112 ?_
  obtain ⟨q113, hF⟩ := hF
  obtain ⟨r19, q114⟩ : ∃ y_ : Bool, y_ = sp_isSet sN t.facts := ⟨_, rfl⟩
  replace hF := hF r19 q114
  refine .gc (cl (v := .bool r19) Tryz.call26 rfl rfl (fun w S => (by rw [q114]; exact c_rIsSet S.sub sN aSn cSn (_q9.mono (le1)) _q10 t.facts q113))) rfl rfl rfl q112 rfl rfl ?_
  refine .GV (nt rfl) q112 ?_
  refine .V (pkT rfl q112 rfl) ?_
  refine .nil ?_
  refine .sel0 [2, 1, 0] (by decide) rfl ?_
  exact .US q18 (!r19) hF
 replace hF := hF.2 q112
 refine .GS q112 ?_
 refine .GS q112 ?_
 refine .GS q112 ?_
 refine .GS q112 ?_
 refine .GS q112 ?_
 refine .V (pkF rfl q112 rfl) ?_
 refine .nil ?_
 refine .sel0 [2, 1, 0] (by decide) rfl ?_
 exact .US q18 false hF
theorem c_lawContPlan {h : FH} {w : World} (hs : Sub h w) (ht : TabH Tryz.prog h) (t : Task) (at_ : Option Addr) (ct : Nat) (_q1 : RSl h at_ t.init) (_q2 : t.init.length ≤ ct) (at_2 : Option Addr) (ct2 : Nat) (_q3 : RSl h at_2 t.goal) (_q4 : t.goal.length ≤ ct2) (at_3 : Option Addr) (ct3 : Nat) (_q5 : RSl h at_3 t.ops) (_q6 : t.ops.length ≤ ct3) (unknown : List Int) (aunknown : Option Addr) (cunknown : Nat) (_q7 : RSl h aunknown unknown) (_q8 : unknown.length ≤ cunknown) (sN : List Int) (aSn : Option Addr) (cSn : Nat) (_q9 : RSl h aSn sN) (_q10 : sN.length ≤ cSn) (depth : Int) : Calls Tryz.prog 6 #[.agg #[iV t.facts, .slice at_ t.init.length ct, .slice at_2 t.goal.length ct2, .slice at_3 t.ops.length ct3], .slice aunknown unknown.length cunknown, .slice aSn sN.length cSn, iV depth] w fun e w' => e = .returned (.bool (sp_lawContPlan t unknown sN depth)) ∧ Below w.heap.size w w' :=
 (w_lawContPlan hs ht t at_ ct _q1 _q2 at_2 ct2 _q3 _q4 at_3 ct3 _q5 _q6 unknown aunknown cunknown _q7 _q8 sN aSn cSn _q9 _q10 depth (fun r => r = sp_lawContPlan t unknown sN depth) (ok_lawContPlan t unknown sN depth)).mono fun _ _ ⟨_, hk, he, hb⟩ => ⟨by rw [he, hk], hb⟩
end Go.Proofs.YtojoehfldbimpaaGreatDoor.Pl

namespace Go.Proofs.YtojoehfldbimpaaGreatDoor.Pl
open Go Go.RowKit Go.WideShapes Go.ChangeShapes Go.ChangeAt Go.Joins Go.Deep
section
variable {H : Type} {enc : TypeId × Value → H} {P : Program}
theorem all_stays (hl : laidOutB P = true) {W W' : World} (hb : Go.RowKit.Below W.heap.size W W') {sp : Nat → Bool} : ∀ (ts : List TypeId) (vs : List Value) (ds : List (DataW H)) (ps : List MemPlace),
  (ts.all fun t => P.readableRec t && decide (t < P.types.size)) = true → DataW.TrodAll enc P W 0 (fun _ => true) true ts vs ds ps → (∀ x ∈ ps, x.block < W.heap.size) → (∀ x ∈ ps, sp x.block = true) → DataW.TrodAll enc P W' 0 sp true ts vs ds ps
 | [], vs, ds, ps, _, h, _, _ => by
  cases vs with
  | nil => cases ds with
   | nil => exact h
   | cons _ _ => exact h.elim
  | cons _ _ => exact h.elim
 | t :: ts, vs, ds, ps, hr, h, hlt, hsp => by
  obtain ⟨v0, vs0, d0, ds0, p0, q0, rfl, rfl, rfl, h0, r0⟩ := trodAll_cons h
  simp only [List.all_cons, Bool.and_eq_true, decide_eq_true_eq] at hr
  refine trodAll_cons_mk (WideElems.Trod_stays hl hr.1.1 hr.1.2 h0 (fun x hx => hb.same (hlt x (by simp [hx]))) (fun x hx => hsp x (by simp [hx]))) ?_
  exact all_stays hl hb ts vs0 ds0 q0 (by simpa using hr.2) r0 (fun x hx => hlt x (by simp [hx])) (fun x hx => hsp x (by simp [hx]))
def hold (W : World) : FH := fun b => W.heap[b]?
theorem hold_sub (W : World) : Sub (hold W) W := fun _ _ e => e
theorem hold_cell {W : World} {a : Addr} {v : Value} (e : W.cell? a = some v) : (hold W).cell a = some v := by
 unfold World.cell? at e
 unfold FH.cell hold
 cases hb : W.heap[a.block]? with
 | none => rw [hb] at e; cases e
 | some o => rw [hb] at e; cases o <;> simp_all
theorem rsl_of {α : Type} [Rep α] {h : FH} : ∀ (xs : List α) (a : Addr), (∀ (i : Nat) (x : α), xs[i]? = some x → ∃ cs, Rep.rep h x cs ∧ CellsAt h (a.add (i * Rep.sz α)) cs) → RSl h (some a) xs
 | [], a, _ => RSl.nil_
 | x :: r, a, hx => by
  obtain ⟨cs, h1, h2⟩ := hx 0 x rfl
  obtain ⟨ds, g1, g2⟩ := rsl_of r (a.add (Rep.sz α)) fun i y hy => by
   obtain ⟨c, k1, k2⟩ := hx (i + 1) y (by simpa using hy)
   refine ⟨c, k1, ?_⟩
   rw [add_add, show Rep.sz α + i * Rep.sz α = (i + 1) * Rep.sz α by rw [Nat.add_mul]; omega]
   exact k2
  have hl := Rep.len h1
  refine ⟨cs ++ ds, ⟨cs, ds, rfl, h1, g1⟩, fun j v e => ⟨by simp, ?_⟩⟩
  show h.cell (a.add j) = some v
  by_cases hj : j < cs.length
  ·rw [List.getElem?_append_left hj] at e
   have := h2 j v e
   rwa [add_add, Nat.zero_mul, Nat.zero_add] at this
  ·rw [List.getElem?_append_right (by omega)] at e
   have := (g2 (j - cs.length) v e).2
   have e2 : ead (some (a.add (Rep.sz α))) (j - cs.length) = a.add j := by
    show (a.add (Rep.sz α)).add (j - cs.length) = a.add j
    rw [add_add, hl]; congr 1; omega
   rwa [e2] at this
class Bytes (α : Type) where
 n : Nat
instance : Bytes Int := ⟨8⟩
instance {α : Type} : Bytes (List α) := ⟨24⟩
class Siz (α : Type) where
 siz : α → Prop
instance : Siz Int := ⟨fun _ => True⟩
instance : Siz Bool := ⟨fun _ => True⟩
instance {α : Type} [Bytes α] [Siz α] : Siz (List α) := ⟨fun xs => xs.length * Bytes.n α ≤ reachBytes ∧ ∀ x ∈ xs, Siz.siz x⟩
def Reads (P : Program) (α : Type) [Rep α] [Siz α] (t : TypeId) : Prop := ∀ (H : Type) (enc : TypeId × Value → H) (w : World) (b : Nat) (sp : Nat → Bool) (hd : Bool) (n : Nat) (cs : List Value) (z : DataW H × List MemPlace), DataW.trod enc P w b sp hd n t cs = some z →
 ∃ x : α, Rep.rep (hold w) x cs ∧ ((∀ m ∈ z.1.weights P t, m ≤ reachBytes) → Siz.siz x)
theorem reads_int {t : TypeId} (ht : P.underlying t = some (.int .i64)) : Reads P Int t := fun H enc w b sp hd n cs z h => by
 obtain ⟨x, e, _⟩ := DataW.trod_int ht h
 exact ⟨x, e, fun _ => trivial⟩
theorem listed_ {α : Type} {p : Nat → α → Prop} : ∀ (m : Nat), (∀ i, i < m → ∃ x : α, p i x) → ∃ xs : List α, xs.length = m ∧ ∀ (i : Nat) (x : α), xs[i]? = some x → p i x
 | 0, _ => ⟨[], rfl, fun i x e => by simp at e⟩
 | k + 1, hx => by
  obtain ⟨xs, h1, h2⟩ := listed_ k fun i hi => hx i (by omega)
  obtain ⟨x, h3⟩ := hx k (by omega)
  refine ⟨xs ++ [x], by simp [h1], fun i y e => ?_⟩
  by_cases hik : i < xs.length
  ·rw [List.getElem?_append_left hik] at e; exact h2 i y e
  ·rw [List.getElem?_append_right (by omega)] at e
   have e0 : i - xs.length = 0 := by have := (List.getElem?_eq_some_iff.1 e).1; simp at this; omega
   rw [e0] at e
   simp at e; subst e
   have : i = k := by omega
   subst this
   exact h3
theorem weights_all {e : TypeId} : ∀ {l : List (DataW H)} {d : DataW H}, d ∈ l → ∀ n ∈ d.weights P e, n ∈ DataW.weightsAll P e l
 | [], _, h, _, _ => by cases h
 | x :: r, d, h, n, hn => by
  simp only [DataW.weightsAll, List.mem_append]
  rcases List.mem_cons.1 h with rfl | h
  ·exact .inl hn
  ·exact .inr (weights_all h n hn)
theorem reads_slice {α : Type} [Rep α] [Bytes α] [Siz α] {t e : TypeId} (ht : P.underlying t = some (.slice e)) (hc : P.cellsOf e = Rep.sz α) (hby : P.bytesOf e = Bytes.n α) (he : Reads P α e) : Reads P (List α) t := fun H enc w b sp hd n cs z h => by
 rcases open_slice ht h with ⟨rfl, _⟩ | ⟨a, len, cap, m, n', D, Q, rfl, _, hl, _, hm, hz, hi⟩
 ·exact ⟨[], ⟨none, 0, rfl, Nat.le_refl _, RSl.nil_⟩, fun _ => ⟨by simp, fun x hx => by cases hx⟩⟩
 ·have hx : ∀ i, i < len → ∃ x : α, (∃ cs, Rep.rep (hold w) x cs ∧ CellsAt (hold w) (a.add (i * Rep.sz α)) cs) ∧ ((∀ m ∈ (D i).weights P e, m ≤ reachBytes) → Siz.siz x) := fun i hlt => by
   have hlm : len ≤ m := by rw [hm]; split <;> omega
   obtain ⟨cs', hcs, ht'⟩ := hi i (by omega)
   obtain ⟨x, hx, hsz⟩ := he H enc w b sp hd n' cs' _ ht'
   obtain ⟨_, hcl, hat⟩ := World.cells?_some hcs
   refine ⟨x, ⟨cs', hx, fun j v e => hold_cell ?_⟩, hsz⟩
   rw [hc] at hat hcl
   rw [hat j (by rw [← hcl]; exact (List.getElem?_eq_some_iff.1 e).1)]
   exact e
  obtain ⟨xs, hxl, hxs⟩ := listed_ len hx
  refine ⟨xs, ⟨some a, cap, by rw [hxl], by omega, rsl_of xs a fun i x hix => (hxs i x hix).1⟩, fun hw => ⟨?_, fun x hx => ?_⟩⟩
  ·have := hw ((((List.range len).map D).length + ((List.range (m - len)).map fun j => D (len + j)).length) * P.bytesOf e) (by rw [hz]; simp [DataW.weights, ht])
   simp only [List.length_map, List.length_range] at this
   rw [hxl, ← hby]
   refine Nat.le_trans (Nat.mul_le_mul_right _ ?_) this
   omega
  ·obtain ⟨i, hi', hix⟩ := List.mem_iff_getElem.1 hx
   refine (hxs i x (by rw [List.getElem?_eq_getElem hi', hix])).2 fun k hk => hw k ?_
   rw [hz]
   simp only [DataW.weights, ht, List.mem_cons, List.mem_append]
   refine .inr (.inl (weights_all (d := D i) ?_ k hk))
   exact List.mem_map.2 ⟨i, List.mem_range.2 (by omega), rfl⟩
theorem reads_field {α : Type} [Rep α] [Siz α] {fs : Array Field} {t : TypeId} {w : World} {b : Nat} {sp : Nat → Bool} {hd : Bool} {n : Nat} {cs : List Value} {xs : List (DataW H × List MemPlace)} (hs : P.underlying t = some (.struct fs)) (hlen : xs.length = fs.size) (hf : ∀ (i : Nat) (f : Field), fs[i]? = some f → DataW.trod enc P w b sp hd n f.type ((cs.drop f.offset).take (P.cellsOf f.type)) = xs[i]?)
  (i : Nat) {f : Field} (hi : fs[i]? = some f) (r : Reads P α f.type) : ∃ x : α, Rep.rep (hold w) x ((cs.drop f.offset).take (P.cellsOf f.type)) ∧ ((∀ m ∈ (DataW.agg (xs.map (·.1))).weights P t, m ≤ reachBytes) → Siz.siz x) := by
 have h1 := hf i f hi
 have hlt : i < xs.length := by rw [hlen]; exact (Array.getElem?_eq_some_iff.1 hi).1
 rw [List.getElem?_eq_getElem hlt] at h1
 obtain ⟨x, hx, hw⟩ := r H enc w b sp hd n _ _ h1
 refine ⟨x, hx, fun hm => hw fun m hm' => hm m ?_⟩
 simp only [DataW.weights, hs]
 refine DataW.weights_mem_each (j := i) (t := f.type) (d := xs[i].1) ?_ ?_ m hm'
 ·rw [List.getElem?_map, Array.getElem?_toList, hi]; rfl
 ·rw [List.getElem?_map, List.getElem?_eq_getElem hlt]; rfl
theorem open_aggR {α : Type} [Rep α] [Siz α] {r : Reach} {b0 b : Nat} {sp : Nat → Bool} {hd : Bool} {t : TypeId} {fs : Array Field} {w : World} {v : Value} {d : DataW H} {p : List MemPlace} (hs : P.underlying t = some (.struct fs)) (hr : Reads P α t) (hv : Value.okWide P w r b0 t v) (h : DataW.Trod enc P w b sp hd t v d p) :
  ∃ (x : α) (cs : List Value), v = .agg cs.toArray ∧ Rep.rep (hold w) x cs ∧ ((∀ m ∈ d.weights P t, m ≤ reachBytes) → Siz.siz x) := by
 obtain ⟨cs, rfl, _⟩ := okWide_struct hs hv
 obtain ⟨fuel, hf⟩ := h
 obtain ⟨x, hx, hz⟩ := hr H enc w b sp hd fuel _ _ hf
 exact ⟨x, cs.toList, by simp, hx, hz⟩
theorem open_sliceR {α : Type} [Rep α] [Bytes α] [Siz α] {r : Reach} {b0 b : Nat} {sp : Nat → Bool} {hd : Bool} {t e : TypeId} {w : World} {v : Value} {d : DataW H} {p : List MemPlace} (hs : P.underlying t = some (.slice e)) (hr : Reads P (List α) t) (hv : Value.okWide P w r b0 t v) (h : DataW.Trod enc P w b sp hd t v d p) :
  ∃ (xs : List α) (a : Option Addr) (c : Nat), v = .slice a xs.length c ∧ xs.length ≤ c ∧ RSl (hold w) a xs ∧ ((∀ m ∈ d.weights P t, m ≤ reachBytes) → Siz.siz xs) := by
 obtain ⟨a, len, cap, rfl⟩ := okWide_slice hs hv
 obtain ⟨fuel, hf⟩ := h
 obtain ⟨xs, ⟨a', c', e1, hl, hr'⟩, hz⟩ := hr H enc w b sp hd fuel _ _ hf
 have e2 : (Value.slice a len cap).cells.toList = [Value.slice a len cap] := rfl
 rw [e2] at e1
 simp only [List.cons.injEq, and_true, Value.slice.injEq] at e1
 obtain ⟨rfl, rfl, rfl⟩ := e1
 exact ⟨xs, a, cap, rfl, hl, hr', hz⟩
end
end Go.Proofs.YtojoehfldbimpaaGreatDoor.Pl

namespace Go.Proofs.YtojoehfldbimpaaGreatDoor.Pl
open Go Go.RowKit Go.WideShapes Go.ChangeShapes Go.ChangeAt Go.Joins Go.Deep
instance : Bytes Operator := ⟨80⟩
instance : Siz Operator := ⟨fun x => Siz.siz x.pre ∧ Siz.siz x.add ∧ Siz.siz x.del ∧ Siz.siz x.cost⟩
instance : Bytes Task := ⟨80⟩
instance : Siz Task := ⟨fun x => Siz.siz x.facts ∧ Siz.siz x.init ∧ Siz.siz x.goal ∧ Siz.siz x.ops⟩
instance : Bytes TNode := ⟨40⟩
instance : Siz TNode := ⟨fun x => Siz.siz x.kind ∧ Siz.siz x.op ∧ Siz.siz x.fact ∧ Siz.siz x.yes ∧ Siz.siz x.no⟩
theorem cells3 : Tryz.prog.cellsOf 3 = 1 := by kernel_rfl
theorem cells22 : Tryz.prog.cellsOf 22 = 1 := by kernel_rfl
theorem cells23 : Tryz.prog.cellsOf 23 = 1 := by kernel_rfl
theorem cells25 : Tryz.prog.cellsOf 25 = 4 := by kernel_rfl
theorem cells54 : Tryz.prog.cellsOf 54 = 4 := by kernel_rfl
theorem list4 {β : Type} {l : List β} (h : l.length = 4) : ∃ c0 c1 c2 c3, l = [c0, c1, c2, c3] := by
 match l, h with
 | [c0, c1, c2, c3], _ => exact ⟨c0, c1, c2, c3, rfl⟩
theorem reads_3 : Reads Tryz.prog Int 3 := reads_int Tryz.underlying3
theorem reads_22 : Reads Tryz.prog (List Int) 22 := reads_slice Tryz.underlying22 cells3 (by kernel_rfl) reads_3
theorem reads_54 : Reads Tryz.prog Operator 54 := fun H enc w b sp hd n cs z h => by
 obtain ⟨xs, n', _, rfl, hl, hlen, hf⟩ := DataW.trod_struct Tryz.underlying54 h
 obtain ⟨x0, r0, s0⟩ := reads_field Tryz.underlying54 hlen hf 0 rfl reads_22
 obtain ⟨x1, r1, s1⟩ := reads_field Tryz.underlying54 hlen hf 1 rfl reads_22
 obtain ⟨x2, r2, s2⟩ := reads_field Tryz.underlying54 hlen hf 2 rfl reads_22
 obtain ⟨x3, r3, s3⟩ := reads_field Tryz.underlying54 hlen hf 3 rfl reads_3
 rw [cells54] at hl
 obtain ⟨c0, c1, c2, c3, rfl⟩ := list4 hl
 replace r0 : Rep.rep (hold w) x0 (([c0, c1, c2, c3] : List Value).drop 0 |>.take (Tryz.prog.cellsOf 22)) := r0
 rw [cells22] at r0
 replace r1 : Rep.rep (hold w) x1 (([c0, c1, c2, c3] : List Value).drop 1 |>.take (Tryz.prog.cellsOf 22)) := r1
 rw [cells22] at r1
 replace r2 : Rep.rep (hold w) x2 (([c0, c1, c2, c3] : List Value).drop 2 |>.take (Tryz.prog.cellsOf 22)) := r2
 rw [cells22] at r2
 replace r3 : Rep.rep (hold w) x3 (([c0, c1, c2, c3] : List Value).drop 3 |>.take (Tryz.prog.cellsOf 3)) := r3
 rw [cells3] at r3
 obtain ⟨a0_0, k0_0, e0, l0_0, q0_0⟩ := r0
 replace e0 : ([c0] : List Value) = _ := e0
 simp only [List.cons.injEq, and_true] at e0
 obtain rfl := e0
 obtain ⟨a1_0, k1_0, e1, l1_0, q1_0⟩ := r1
 replace e1 : ([c1] : List Value) = _ := e1
 simp only [List.cons.injEq, and_true] at e1
 obtain rfl := e1
 obtain ⟨a2_0, k2_0, e2, l2_0, q2_0⟩ := r2
 replace e2 : ([c2] : List Value) = _ := e2
 simp only [List.cons.injEq, and_true] at e2
 obtain rfl := e2
 have e3 : ([c3] : List Value) = [.int .i64 x3] := r3
 simp only [List.cons.injEq, and_true] at e3
 obtain rfl := e3
 exact ⟨⟨x0, x1, x2, x3⟩, ⟨a0_0, k0_0, a1_0, k1_0, a2_0, k2_0, rfl, ⟨l0_0, q0_0⟩, ⟨l1_0, q1_0⟩, ⟨l2_0, q2_0⟩⟩, fun hw => ⟨s0 hw, s1 hw, s2 hw, s3 hw⟩⟩
theorem reads_23 : Reads Tryz.prog (List Operator) 23 := reads_slice Tryz.underlying23 cells54 (by kernel_rfl) reads_54
theorem reads_25 : Reads Tryz.prog Task 25 := fun H enc w b sp hd n cs z h => by
 obtain ⟨xs, n', _, rfl, hl, hlen, hf⟩ := DataW.trod_struct Tryz.underlying25 h
 obtain ⟨x0, r0, s0⟩ := reads_field Tryz.underlying25 hlen hf 0 rfl reads_3
 obtain ⟨x1, r1, s1⟩ := reads_field Tryz.underlying25 hlen hf 1 rfl reads_22
 obtain ⟨x2, r2, s2⟩ := reads_field Tryz.underlying25 hlen hf 2 rfl reads_22
 obtain ⟨x3, r3, s3⟩ := reads_field Tryz.underlying25 hlen hf 3 rfl reads_23
 rw [cells25] at hl
 obtain ⟨c0, c1, c2, c3, rfl⟩ := list4 hl
 replace r0 : Rep.rep (hold w) x0 (([c0, c1, c2, c3] : List Value).drop 0 |>.take (Tryz.prog.cellsOf 3)) := r0
 rw [cells3] at r0
 replace r1 : Rep.rep (hold w) x1 (([c0, c1, c2, c3] : List Value).drop 1 |>.take (Tryz.prog.cellsOf 22)) := r1
 rw [cells22] at r1
 replace r2 : Rep.rep (hold w) x2 (([c0, c1, c2, c3] : List Value).drop 2 |>.take (Tryz.prog.cellsOf 22)) := r2
 rw [cells22] at r2
 replace r3 : Rep.rep (hold w) x3 (([c0, c1, c2, c3] : List Value).drop 3 |>.take (Tryz.prog.cellsOf 23)) := r3
 rw [cells23] at r3
 have e0 : ([c0] : List Value) = [.int .i64 x0] := r0
 simp only [List.cons.injEq, and_true] at e0
 obtain rfl := e0
 obtain ⟨a1_0, k1_0, e1, l1_0, q1_0⟩ := r1
 replace e1 : ([c1] : List Value) = _ := e1
 simp only [List.cons.injEq, and_true] at e1
 obtain rfl := e1
 obtain ⟨a2_0, k2_0, e2, l2_0, q2_0⟩ := r2
 replace e2 : ([c2] : List Value) = _ := e2
 simp only [List.cons.injEq, and_true] at e2
 obtain rfl := e2
 obtain ⟨a3_0, k3_0, e3, l3_0, q3_0⟩ := r3
 replace e3 : ([c3] : List Value) = _ := e3
 simp only [List.cons.injEq, and_true] at e3
 obtain rfl := e3
 exact ⟨⟨x0, x1, x2, x3⟩, ⟨a1_0, k1_0, a2_0, k2_0, a3_0, k3_0, rfl, ⟨l1_0, q1_0⟩, ⟨l2_0, q2_0⟩, ⟨l3_0, q3_0⟩⟩, fun hw => ⟨s0 hw, s1 hw, s2 hw, s3 hw⟩⟩
end Go.Proofs.YtojoehfldbimpaaGreatDoor.Pl

