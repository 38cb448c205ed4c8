import Derived.Test.YtojoehfldbimpaaGreatDoorM1
import Derived.Test.YtojoehfldbimpaaGreatDoorM4
import Derived.Test.YtojoehfldbimpaaGreatDoorRows
import Derived.ProofKit
import Derived.OpenShut
import Derived.JoinedCond
import Derived.Carry
import Derived.Below
import Derived.ChangeSame
import Derived.Deep.Slices
import Derived.Deep.Fields
import Derived.Lib.SmallJoins
import Derived.SizedLaws
import Derived.Test.YtojoehfldbimpaaGreatDoorM2
namespace Go.Proofs.YtojoehfldbimpaaGreatDoor.Pl
open Go Go.RowKit
theorem w_snext {h : FH} {w : World} (hs : Sub h w) (k : Srch) (ak : Option Addr) (ck : Nat) (_q1 : RSl h ak k.t.init) (_q2 : k.t.init.length ≤ ck) (ak2 : Option Addr) (ck2 : Nat) (_q3 : RSl h ak2 k.t.goal) (_q4 : k.t.goal.length ≤ ck2) (ak3 : Option Addr) (ck3 : Nat) (_q5 : RSl h ak3 k.t.ops) (_q6 : k.t.ops.length ≤ ck3) (ak4 : Option Addr) (ck4 : Nat) (_q7 : RSl h ak4 k.sensors) (_q8 : k.sensors.length ≤ ck4) (pk : Addr) (bk : Nat) (ta : Option Addr) (tn tc : Nat) (_q9 : CellsAt h pk [iV k.t.facts, .slice ak k.t.init.length ck, .slice ak2 k.t.goal.length ck2, .slice ak3 k.t.ops.length ck3, .slice ak4 k.sensors.length ck4, .map (some bk), .slice ta tn tc]) (worlds : List (List Int)) (aworlds : Option Addr) (cworlds : Nat) (_q10 : RSl h aworlds worlds) (_q11 : worlds.length ≤ cworlds) (K : Unit → Prop) (hF : F_snext k worlds K) : Calls Tryz.prog 71 #[.pointer (some pk), .slice aworlds worlds.length cworlds] w fun e w' => ∃ (r : Unit) (z : Addr × Addr) (h1 : FH), K r ∧ e = .returned (.func (.func 96) #[] #[.pointer (some z.1), .pointer (some z.2)]) ∧ FH.le h h1 ∧ (CellsAt h1 z.1 [.pointer (some pk)] ∧ CellsAt h1 z.2 [.slice aworlds worlds.length cworlds]) ∧ SH (Kp.all w h) h1 w' [] := by
 refine enter (args := [.pointer (some pk), vSl aworlds worlds cworlds]) Tryz.func71 rfl Tryz.ntmps71 rfl hs ?_
 refine .seq (.region ?_)
 refine bx (vs := [.pointer (some pk)]) rfl rfl rfl (fun pk2 => ?_)
 refine bx (vs := [vSl aworlds worlds cworlds]) rfl rfl rfl (fun pworlds => ?_)
 refine .V (asg rfl) ?_
 refine .nil (.seqN (.seq (.region (.V (mkf (vf := []) (vc := [.pointer (some pk2), .pointer (some pworlds)]) rfl rfl) ?_))))
 refine .V (asg rfl) ?_
 refine .nil (.seqN ?_)
 refine .freezeBx (k := 1) rfl (fun h1 le1 q12 => ?_)
 refine .cast (A' := [Box pworlds [vSl aworlds worlds cworlds], tru]) rfl ?_
 refine .freezeBx (k := 0) rfl (fun h2 le2 q13 => ?_)
 refine .cast (A' := [tru, tru]) rfl ?_
 refine .ret ?_
 refine .res1 rfl (rvT rfl) (fun w' S => ⟨(), (pk2, pworlds), h2, hF, rfl, (FH.le_trans (le1) (le2)), ⟨(CellsAt.mono (le2) q12), (CellsAt.mono (FH.le_refl _) q13)⟩, S.none⟩)
theorem c_snext {h : FH} {w : World} (hs : Sub h w) (k : Srch) (ak : Option Addr) (ck : Nat) (_q1 : RSl h ak k.t.init) (_q2 : k.t.init.length ≤ ck) (ak2 : Option Addr) (ck2 : Nat) (_q3 : RSl h ak2 k.t.goal) (_q4 : k.t.goal.length ≤ ck2) (ak3 : Option Addr) (ck3 : Nat) (_q5 : RSl h ak3 k.t.ops) (_q6 : k.t.ops.length ≤ ck3) (ak4 : Option Addr) (ck4 : Nat) (_q7 : RSl h ak4 k.sensors) (_q8 : k.sensors.length ≤ ck4) (pk : Addr) (bk : Nat) (ta : Option Addr) (tn tc : Nat) (_q9 : CellsAt h pk [iV k.t.facts, .slice ak k.t.init.length ck, .slice ak2 k.t.goal.length ck2, .slice ak3 k.t.ops.length ck3, .slice ak4 k.sensors.length ck4, .map (some bk), .slice ta tn tc]) (worlds : List (List Int)) (aworlds : Option Addr) (cworlds : Nat) (_q10 : RSl h aworlds worlds) (_q11 : worlds.length ≤ cworlds) : Calls Tryz.prog 71 #[.pointer (some pk), .slice aworlds worlds.length cworlds] w fun e w' => ∃ (z : Addr × Addr) (h1 : FH), e = .returned (.func (.func 96) #[] #[.pointer (some z.1), .pointer (some z.2)]) ∧ FH.le h h1 ∧ (CellsAt h1 z.1 [.pointer (some pk)] ∧ CellsAt h1 z.2 [.slice aworlds worlds.length cworlds]) ∧ SH (Kp.all w h) h1 w' [] :=
 (w_snext hs k ak ck _q1 _q2 ak2 ck2 _q3 _q4 ak3 ck3 _q5 _q6 ak4 ck4 _q7 _q8 pk bk ta tn tc _q9 worlds aworlds cworlds _q10 _q11 (fun r => r = sp_snext k worlds) (ok_snext k worlds)).mono fun _ _ ⟨r, z, h1, hk, he, hl, hf, hS⟩ => by subst hk; exact ⟨z, h1, he, hl, hf, hS⟩
set_option maxHeartbeats 8000000 in
theorem w_breadthC {h : FH} {w : World} (hs : Sub h w) (ht : TabH Tryz.prog h) (start2 : List (List Int)) (astart2 : Option Addr) (cstart2 : Nat) (_q1 : RSl h astart2 start2) (_q2 : start2.length ≤ cstart2) (k : Srch) (ak : Option Addr) (ck : Nat) (_q3 : RSl h ak k.t.init) (_q4 : k.t.init.length ≤ ck) (ak2 : Option Addr) (ck2 : Nat) (_q5 : RSl h ak2 k.t.goal) (_q6 : k.t.goal.length ≤ ck2) (ak3 : Option Addr) (ck3 : Nat) (_q7 : RSl h ak3 k.t.ops) (_q8 : k.t.ops.length ≤ ck3) (ak4 : Option Addr) (ck4 : Nat) (_q9 : RSl h ak4 k.sensors) (_q10 : k.sensors.length ≤ ck4) (pk : Addr) (bk : Nat) (ta : Option Addr) (tn tc : Nat) (_q11 : CellsAt h pk [iV k.t.facts, .slice ak k.t.init.length ck, .slice ak2 k.t.goal.length ck2, .slice ak3 k.t.ops.length ck3, .slice ak4 k.sensors.length ck4, .map (some bk), .slice ta tn tc]) (K : (List Int × Bool × Bool) → Prop) (hF : F_breadthC start2 k K) : Calls Tryz.prog 50 #[.slice astart2 start2.length cstart2, .func (.func 49) #[] #[], .func (.func 71) #[.pointer (some pk)] #[], .func (.func 82) #[] #[]] w fun e w' => ∃ (r : List Int × Bool × Bool) (z : Option Addr × Nat) (h1 : FH), K r ∧ e = .returned (.tuple #[.slice z.1 r.1.length z.2, .bool r.2.1, .bool r.2.2]) ∧ FH.le h h1 ∧ (RSl h1 z.1 r.1 ∧ r.1.length ≤ z.2) ∧ SH (Kp.all w h) h1 w' [] := by
 refine enterM (args := [vSl astart2 start2 cstart2, .func (.func 49) #[] #[], .func (.func 71) #[.pointer (some pk)] #[], .func (.func 82) #[] #[]]) Tryz.func50 rfl Tryz.ntmps50 rfl hs ?_
 refine .seq (.region ?_)
 refine bx (vs := [.func (.func 49) #[] #[]]) rfl rfl rfl (fun pkey => ?_)
 refine al tZ22 rfl (fun pv => ?_)
 refine al tZ4 rfl (fun pv2 => ?_)
 refine al tZ4 rfl (fun pv3 => ?_)
 refine .nil (.seqN (.seq (.region (.V (mv rfl) ?_))))
 refine .V (bld (cs := #[vSl astart2 start2 cstart2, iV (-1), iV 0]) (pv := [(0, vSl astart2 start2 cstart2), (1, iV (-1))]) tB113 rfl rfl) ?_
 refine bs2 (cs := #[vSl astart2 start2 cstart2, iV (-1), iV 0]) (pv := [(0, .agg #[vSl astart2 start2 cstart2, iV (-1), iV 0])]) tS114 rfl rfl (by decide) (by decide) rfl rfl rfl (fun a _ => ?_)
 refine .cast (A' := [OwnSl 113 3 a (([(⟨start2, (-1), 0⟩ : Entry)] : List Entry).length) 1 [vSl astart2 start2 cstart2, iV (-1), iV 0], Box pv3 [.bool false], Box pv2 [.bool false], Box pv [.slice none 0 0], Box pkey [.func (.func 49) #[] #[]], MkA []]) rfl ?_
 refine al tZ114 rfl (fun pqueue => ?_)
 refine st (p := pqueue) (off := 0) (k := 0) (vs := [.slice a (([(⟨start2, (-1), 0⟩ : Entry)] : List Entry).length) 1]) rfl rfl rfl (fun w => (tO114 w).2) rfl rfl rfl rfl ?_
 refine .cast (A' := [Box pqueue [.slice a (([(⟨start2, (-1), 0⟩ : Entry)] : List Entry).length) 1], OwnSl 113 3 a (([(⟨start2, (-1), 0⟩ : Entry)] : List Entry).length) 1 [vSl astart2 start2 cstart2, iV (-1), iV 0], Box pv3 [.bool false], Box pv2 [.bool false], Box pv [.slice none 0 0], Box pkey [.func (.func 49) #[] #[]], MkA []]) rfl ?_
 refine .nil (.seqN (.seq (.region ?_)))
 refine mm rfl (fun bv => ?_)
 refine .V (ld1 rfl tO80 (cellB (off := 0) (k := 6) rfl rfl)) ?_
 refine .V (mv rfl) ?_
 obtain ⟨q13, hF⟩ := hF
 obtain ⟨r2, q14⟩ : ∃ y_ : List UInt8, y_ = sp_key start2 := ⟨_, rfl⟩
 replace hF := hF r2 q14
 refine .C (cl (v := strV r2) Tryz.call49 rfl rfl (fun w S => (by rw [q14]; exact c_key S.sub (ht.mono (FH.le_refl _)) start2 astart2 cstart2 _q1 _q2 q13))) ?_
 refine mi tM97 rfl rfl rfl (kk := 0) rfl ?_
 refine .cast (A' := [OwnMap bv (upd (fun _ => 0) r2 1), Box pqueue [.slice a (([(⟨start2, (-1), 0⟩ : Entry)] : List Entry).length) 1], OwnSl 113 3 a (([(⟨start2, (-1), 0⟩ : Entry)] : List Entry).length) 1 [vSl astart2 start2 cstart2, iV (-1), iV 0], Box pv3 [.bool false], Box pv2 [.bool false], Box pv [.slice none 0 0], Box pkey [.func (.func 49) #[] #[]], MkA []]) rfl ?_
 refine .V (mv rfl) ?_
 refine al tZ97 rfl (fun pseen => ?_)
 refine st (p := pseen) (off := 0) (k := 0) (vs := [.map (some bv)]) rfl rfl rfl (fun w => (tO97 w).2) rfl rfl rfl rfl ?_
 refine .cast (A' := [Box pseen [.map (some bv)], OwnMap bv (upd (fun _ => 0) r2 1), Box pqueue [.slice a (([(⟨start2, (-1), 0⟩ : Entry)] : List Entry).length) 1], OwnSl 113 3 a (([(⟨start2, (-1), 0⟩ : Entry)] : List Entry).length) 1 [vSl astart2 start2 cstart2, iV (-1), iV 0], Box pv3 [.bool false], Box pv2 [.bool false], Box pv [.slice none 0 0], Box pkey [.func (.func 49) #[] #[]], MkA []]) rfl ?_
 refine .nil (.seqN (.seq (.seq (.region ?_))))
 refine al tZ3 rfl (fun pat => ?_)
 refine st (p := pat) (off := 0) (k := 0) (vs := [iV 0]) rfl rfl rfl (fun w => (tO3 w).2) rfl rfl rfl rfl ?_
 refine .cast (A' := [Box pat [iV 0], Box pseen [.map (some bv)], OwnMap bv (upd (fun _ => 0) r2 1), Box pqueue [.slice a (([(⟨start2, (-1), 0⟩ : Entry)] : List Entry).length) 1], OwnSl 113 3 a (([(⟨start2, (-1), 0⟩ : Entry)] : List Entry).length) 1 [vSl astart2 start2 cstart2, iV (-1), iV 0], Box pv3 [.bool false], Box pv2 [.bool false], Box pv [.slice none 0 0], Box pkey [.func (.func 49) #[] #[]], MkA []]) rfl ?_
 refine .nil (.seqN (.block ?_))
 refine .sel0 [8, 7, 6, 5, 3, 1, 0, 9, 4, 2] (by decide) rfl ?_
 obtain ⟨I1, μ1, q13146, q13147⟩ := hF
 refine .loopN' (σ := Int × List Entry × (List UInt8 → Int) × Addr × List Nat × Option Addr × Nat × List Value × FH) (fun z => I1 z.1 z.2.1 z.2.2.1 ∧ RepL z.2.2.2.2.2.2.2.2 z.2.1 z.2.2.2.2.2.2.2.1 ∧ FH.le h z.2.2.2.2.2.2.2.2) (fun z => μ1 z.1 z.2.1 z.2.2.1) (fun z => ⟨92, none, z.2.2.2.2.1⟩) (fun z => [(2, .func (.func 71) #[.pointer (some pk)] #[]), (3, .func (.func 82) #[] #[]), (5, .pointer (some pkey)), (8, .pointer (some pv)), (9, .pointer (some pv2)), (10, .pointer (some pv3)), (11, .pointer (some pqueue)), (12, .pointer (some pseen)), (13, .pointer (some z.2.2.2.1))]) (fun z => [Box pkey [.func (.func 49) #[] #[]], Box pv [.slice none 0 0], Box pv2 [.bool false], Box pv3 [.bool false], Box pqueue [vSl z.2.2.2.2.2.1 z.2.1 z.2.2.2.2.2.2.1], Box pseen [.map (some bv)], Box z.2.2.2.1 [iV z.1], MkA z.2.2.2.2.1, OwnSl 113 3 z.2.2.2.2.2.1 z.2.1.length z.2.2.2.2.2.2.1 z.2.2.2.2.2.2.2.1, OwnMap bv z.2.2.1]) (fun z => z.2.2.2.2.2.2.2.2) (0, ([(⟨start2, (-1), 0⟩ : Entry)] : List Entry), (upd (fun _ => 0) r2 1), pat, [], a, 1, [vSl astart2 start2 cstart2, iV (-1), iV 0], h) ⟨q13146, (show RepL h ([(⟨start2, (-1), 0⟩ : Entry)] : List Entry) [vSl astart2 start2 cstart2, iV (-1), iV 0] from ⟨[vSl astart2 start2 cstart2, iV (-1), iV 0], _, rfl, ⟨astart2, cstart2, rfl, ⟨_q2, _q1⟩⟩, rfl⟩), (FH.le_refl _)⟩ (fun _ => rfl) rfl sb rfl (FH.le_refl _) ?_
 rintro ⟨x, l, m, p, dl, al2, cl2, csl, h523⟩ ⟨q13146, q10539, q10540⟩
 have hF := q13147 x l m q13146
 show J _ _ ⟨92, none, dl⟩ _ _ [(2, .func (.func 71) #[.pointer (some pk)] #[]), (3, .func (.func 82) #[] #[]), (5, .pointer (some pkey)), (8, .pointer (some pv)), (9, .pointer (some pv2)), (10, .pointer (some pv3)), (11, .pointer (some pqueue)), (12, .pointer (some pseen)), (13, .pointer (some p))] [Box pkey [.func (.func 49) #[] #[]], Box pv [.slice none 0 0], Box pv2 [.bool false], Box pv3 [.bool false], Box pqueue [vSl al2 l cl2], Box pseen [.map (some bv)], Box p [iV x], MkA dl, OwnSl 113 3 al2 l.length cl2 csl, OwnMap bv m] h523
 refine .seq (.seq (.region (.V (ld1 rfl tO3 (cellB (off := 0) (k := 6) rfl rfl)) ?_)))
 refine .V (ld1 rfl tO114 (cellB (off := 0) (k := 4) rfl rfl)) ?_
 refine .V (ln rfl tS114.is) ?_
 refine .V (bi rfl rfl rfl) ?_
 refine .nil (.seqN ?_)
 refine .cond rfl (fun q13149 => ?_) (fun q13149 => ?_)
 ·replace hF := hF.1 q13149
  refine .skip (.seqN (.seq (.block (.seq (.seq (.region (.V (mv rfl) ?_)))))))
  refine .V (ld1 rfl tO114 (cellB (off := 0) (k := 4) rfl rfl)) ?_
  refine .V (ld1 rfl tO3 (cellB (off := 0) (k := 6) rfl rfl)) ?_
  obtain ⟨q14884, hF⟩ := hF
  refine .V (ixS rfl rfl tS114 (k := 8) rfl q14884) ?_
  refine .V (fa rfl tF113_0) ?_
  obtain ⟨_, ⟨a2, c, rfl, q14885, q14886⟩, q14887⟩ := RepL.get q10539 (gt_get q14884)
  refine .V (ld1 (v := .slice a2 ((gt l x).node.length) c) rfl tO35 (cellF (k := 8) rfl (q14887 0 _ rfl))) ?_
  obtain ⟨r3, q14888⟩ : ∃ y_ : Bool, y_ = sp_small1 ((gt l x).node) := ⟨_, rfl⟩
  replace hF := hF r3 q14888
  refine .C (cl (v := .bool r3) Tryz.call82 rfl rfl (fun w S => (by rw [q14888]; exact c_small1 S.sub ((gt l x).node) a2 c q14886 q14885 ))) ?_
  refine .nil (.seqN ?_)
  refine .cond rfl (fun q14981 => ?_) (fun q14981 => ?_)
  ·replace hF := hF.1 q14981
   refine .seq (.region (.V (asg rfl) ?_))
   refine .nil (.seqN (.seq (.seq (.region (.V (ld1 rfl tO3 (cellB (off := 0) (k := 6) rfl rfl)) ?_)))))
   refine .V (asg rfl) ?_
   refine .nil (.seqN (.block ?_))
   refine .nilSl 3 1 ?_
   refine .cast (A' := [OwnSl 3 1 none (([] : List Int).length) 0 (flL ([] : List Int)), Box pkey [.func (.func 49) #[] #[]], Box pv [.slice none 0 0], Box pv2 [.bool false], Box pv3 [.bool false], Box pqueue [vSl al2 l cl2], Box pseen [.map (some bv)], Box p [iV x], MkA dl, OwnSl 113 3 al2 l.length cl2 csl, OwnMap bv m]) rfl ?_
   refine .sel0 [2, 3, 4, 5, 0, 8, 9] (by decide) rfl ?_
   obtain ⟨I2, μ2, q15051, q15052⟩ := hF
   refine .loop' (σ := Int × List Int × Option Addr × Nat) (fun z => I2 z.1 z.2.1) (fun z => μ2 z.1 z.2.1) (fun z => [(8, .pointer (some pv)), (9, .pointer (some pv2)), (10, .pointer (some pv3)), (11, .pointer (some pqueue)), (14, vSl z.2.2.1 z.2.1 z.2.2.2), (15, iV z.1)]) (fun z => [Box pv [.slice none 0 0], Box pv2 [.bool false], Box pv3 [.bool false], Box pqueue [vSl al2 l cl2], OwnSl 3 1 z.2.2.1 z.2.1.length z.2.2.2 (flL z.2.1), MkA dl, OwnSl 113 3 al2 l.length cl2 csl]) (fun _ => h523) (x, ([] : List Int), none, 0) q15051 sb rfl (FH.le_refl _) ?_
   rintro ⟨i, out, aout, cout⟩ q15051
   have hF := q15052 i out q15051
   show J _ _ _ _ _ [(8, .pointer (some pv)), (9, .pointer (some pv2)), (10, .pointer (some pv3)), (11, .pointer (some pqueue)), (14, vSl aout out cout), (15, iV i)] [Box pv [.slice none 0 0], Box pv2 [.bool false], Box pv3 [.bool false], Box pqueue [vSl al2 l cl2], OwnSl 3 1 aout out.length cout (flL out), MkA dl, OwnSl 113 3 al2 l.length cl2 csl] h523
   refine .seq (.seq (.region (.V (ld1 rfl tO114 (cellB (off := 0) (k := 3) rfl rfl)) ?_)))
   refine .V (mv rfl) ?_
   obtain ⟨q15053, hF⟩ := hF
   refine .V (ixS rfl rfl tS114 (k := 6) rfl q15053) ?_
   refine .V (fa rfl tF113_1) ?_
   obtain ⟨_, ⟨a3, c2, rfl, q15054, q15055⟩, q15056⟩ := RepL.get q10539 (gt_get q15053)
   refine .V (ld1 (v := iV ((gt l i).from_)) rfl tO3 (cellF (k := 6) rfl (q15056 1 _ rfl))) ?_
   refine .V (bi rfl rfl rfl) ?_
   refine .nil (.seqN ?_)
   refine .cond rfl (fun q15058 => ?_) (fun q15058 => ?_)
   ·replace hF := hF.1 q15058
    refine .skip (.seqN (.seq (.block (.region (.V (mv rfl) ?_)))))
    refine .V (ld1 rfl tO114 (cellB (off := 0) (k := 3) rfl rfl)) ?_
    refine .V (mv rfl) ?_
    refine .V (ixS rfl rfl tS114 (k := 6) rfl q15053) ?_
    refine .V (fa rfl tF113_2) ?_
    refine .V (ld1 (v := iV ((gt l i).step)) rfl tO3 (cellF (k := 6) rfl (q15056 2 _ rfl))) ?_
    refine bs2 (cs := #[iV ((gt l i).step)]) (pv := [(0, iV ((gt l i).step))]) tS22 rfl rfl (by decide) (by decide) rfl rfl rfl (fun a4 _ => ?_)
    refine .cast (A' := [OwnSl 3 1 a4 (([(gt l i).step] : List Int).length) 1 (flL ([(gt l i).step] : List Int)), Box pv [.slice none 0 0], Box pv2 [.bool false], Box pv3 [.bool false], Box pqueue [vSl al2 l cl2], OwnSl 3 1 aout out.length cout (flL out), MkA dl, OwnSl 113 3 al2 l.length cl2 csl]) rfl ?_
    obtain ⟨q15066, hF⟩ := hF
    have q15067 : out.length + ([(gt l i).step] : List Int).length = ((out ++ ([(gt l i).step] : List Int))).length := len_app rfl rfl
    refine app (k := 5) (news := flL ([(gt l i).step] : List Int)) (cs' := flL (out ++ ([(gt l i).step] : List Int))) (nm := ((out ++ ([(gt l i).step] : List Int))).length) tS22 rfl (by decide) rfl rfl rfl (by rw [flL_len]; rfl) (srcS (k := 0) rfl) (flL_one _) (room_of q15067 q15066).1 (room_of q15067 q15066).2 q15067 (flL_append _ _).symm rfl (fun a5 c3 => ?_)
    refine .cast (A' := [OwnSl 3 1 a4 (([(gt l i).step] : List Int).length) 1 (flL ([(gt l i).step] : List Int)), Box pv [.slice none 0 0], Box pv2 [.bool false], Box pv3 [.bool false], Box pqueue [vSl al2 l cl2], OwnSl 3 1 a5 ((out ++ ([(gt l i).step] : List Int)).length) c3 (flL (out ++ ([(gt l i).step] : List Int))), MkA dl, OwnSl 113 3 al2 l.length cl2 csl]) rfl ?_
    refine .V (asg rfl) ?_
    refine .nil (.blkN (.seqN (.region (.V (ld1 rfl tO114 (cellB (off := 0) (k := 4) rfl rfl)) ?_))))
    refine .V (mv rfl) ?_
    refine .V (ixS rfl rfl tS114 (k := 7) rfl q15053) ?_
    refine .V (fa rfl tF113_1) ?_
    refine .V (ld1 (v := iV ((gt l i).from_)) rfl tO3 (cellF (k := 7) rfl (q15056 1 _ rfl))) ?_
    refine .V (asg rfl) ?_
    refine .nil ?_
    refine .sel0 [1, 2, 3, 4, 5, 6, 7] (by decide) rfl ?_
    exact .RO ((gt l i).from_, (out ++ ([(gt l i).step] : List Int)), a5, c3) hF.1 hF.2
   replace hF := hF.2 q15058
   refine .exit (.seqX (.seqX (.blkX (.seqN (.seq (.region (.V (mv rfl) ?_)))))))
   obtain ⟨q15068, hF⟩ := hF
   obtain ⟨r4, q15069⟩ : ∃ y_ : List Int, y_ = sp_reverse out := ⟨_, rfl⟩
   replace hF := hF r4 q15069
   refine callX (k := 4) (v := .tuple #[]) (X' := OwnSl 3 1 aout out.length cout (flL r4)) rfl Tryz.call86 rfl rfl (fun w g hx sg hd hs' => ?_) rfl ?_
   ·rw [q15069]; exact c_reverse hs' out aout cout hx sg hd q15068
   have q15070 : r4.length = out.length := by rw [q15069]; exact (sp_reverse_len out).trans rfl
   refine .cast (A' := [Box pv [.slice none 0 0], Box pv2 [.bool false], Box pv3 [.bool false], Box pqueue [vSl al2 l cl2], OwnSl 3 1 aout out.length cout (flL r4), MkA dl, OwnSl 113 3 al2 l.length cl2 csl]) rfl ?_
   refine .nil (.seqN (.seq (.region (.V (mv rfl) ?_))))
   refine st (p := pv) (off := 0) (k := 0) (vs := [vSl aout out cout]) rfl rfl rfl (fun w => (tO22 w).2) rfl rfl rfl rfl ?_
   refine .cast (A' := [Box pv [vSl aout out cout], Box pv2 [.bool false], Box pv3 [.bool false], Box pqueue [vSl al2 l cl2], OwnSl 3 1 aout out.length cout (flL r4), MkA dl, OwnSl 113 3 al2 l.length cl2 csl]) rfl ?_
   refine st (p := pv2) (off := 0) (k := 1) (vs := [.bool true]) rfl rfl rfl (fun w => (tO4 w).2) rfl rfl rfl rfl ?_
   refine .cast (A' := [Box pv [vSl aout out cout], Box pv2 [.bool true], Box pv3 [.bool false], Box pqueue [vSl al2 l cl2], OwnSl 3 1 aout out.length cout (flL r4), MkA dl, OwnSl 113 3 al2 l.length cl2 csl]) rfl ?_
   refine st (p := pv3) (off := 0) (k := 2) (vs := [.bool true]) rfl rfl rfl (fun w => (tO4 w).2) rfl rfl rfl rfl ?_
   refine .cast (A' := [Box pv [vSl aout out cout], Box pv2 [.bool true], Box pv3 [.bool true], Box pqueue [vSl al2 l cl2], OwnSl 3 1 aout out.length cout (flL r4), MkA dl, OwnSl 113 3 al2 l.length cl2 csl]) rfl ?_
   refine .nil (.seqN ?_)
   refine .freezeL (k := 4) rfl (fun h741 le741 q15072 q15071 => ?_)
   refine .cast (A' := [Box pv [vSl aout out cout], Box pv2 [.bool true], Box pv3 [.bool true], Box pqueue [vSl al2 l cl2], tru, MkA dl, OwnSl 113 3 al2 l.length cl2 csl]) rfl ?_
   refine .ret (.seqR (.blkR (.seqR (.seqR (.blkR (.seqR ?_))))))
   refine .resM (k := 5) rfl ?_
   refine .res3 rfl (rvC1 rfl tO22 (k := 0) rfl) (rvC1 rfl tO4 (k := 1) rfl) (rvC1 rfl tO4 (k := 2) rfl) (fun w' S => ⟨(r4, true, true), (aout, cout), h741, hF, (by simp only [q15070]), (FH.le_trans (q10540) (le741)), ⟨(RSl.of q15071), (by rw [q15070]; exact q15072)⟩, S.none⟩)
  replace hF := hF.2 q14981
  refine .skip (.seqN (.seq (.region (.V (mv rfl) ?_))))
  refine .V (ld1 rfl tO114 (cellB (off := 0) (k := 4) rfl rfl)) ?_
  refine .V (ld1 rfl tO3 (cellB (off := 0) (k := 6) rfl rfl)) ?_
  refine .V (ixS rfl rfl tS114 (k := 8) rfl q14884) ?_
  refine .V (fa rfl tF113_0) ?_
  refine .V (ld1 (v := .slice a2 ((gt l x).node.length) c) rfl tO35 (cellF (k := 8) rfl (q14887 0 _ rfl))) ?_
  obtain ⟨r5, q15073⟩ : ∃ y_ : Unit, y_ = sp_snext k ((gt l x).node) := ⟨_, rfl⟩
  replace hF := hF r5 q15073
  refine clR (α := Addr × Addr) (Φ := fun h1 z => CellsAt h1 z.1 [.pointer (some pk)] ∧ CellsAt h1 z.2 [.slice a2 ((gt l x).node.length) c]) (V := fun z => .func (.func 96) #[] #[.pointer (some z.1), .pointer (some z.2)]) Tryz.call71 rfl rfl (fun w S => (by exact c_snext S.sub k ak ck (_q3.mono (q10540)) _q4 ak2 ck2 (_q5.mono (q10540)) _q6 ak3 ck3 (_q7.mono (q10540)) _q8 ak4 ck4 (_q9.mono (q10540)) _q10 pk bk ta tn tc (CellsAt.mono (q10540) _q11) ((gt l x).node) a2 c q14886 q14885 )) rfl (fun z h742 le742 hz => ?_)
  obtain ⟨p3, p4⟩ := z
  obtain ⟨q15074, q15075⟩ := hz
  refine .nil (.seqN (.block ?_))
  refine .sub (s' := [(2, .func (.func 71) #[.pointer (some pk)] #[]), (3, .func (.func 82) #[] #[]), (5, .pointer (some pkey)), (8, .pointer (some pv)), (9, .pointer (some pv2)), (10, .pointer (some pv3)), (11, .pointer (some pqueue)), (12, .pointer (some pseen)), (13, .pointer (some p)), (69, .func (.func 96) #[] #[.pointer (some p3), .pointer (some p4)])]) sb ?_
  refine .rangeFM (k := 7) (caps := [.pointer (some p3), .pointer (some p4)]) rfl rfl Tryz.func96 rfl Tryz.ntmps96 rfl Tryz.call96 (fun l3 D LA a6 q15076 q15077 => ?_)
  refine .cast (A' := [LA .ready none, Box pkey [.func (.func 49) #[] #[]], Box pv [.slice none 0 0], Box pv2 [.bool false], Box pv3 [.bool false], Box pqueue [vSl al2 l cl2], Box pseen [.map (some bv)], Box p [iV x], MkA (D :: dl), OwnSl 113 3 al2 l.length cl2 csl, OwnMap bv m]) rfl ?_
  refine .mk0 ?_
  refine .cast (A' := [MkA [], LA .ready none, Box pkey [.func (.func 49) #[] #[]], Box pv [.slice none 0 0], Box pv2 [.bool false], Box pv3 [.bool false], Box pqueue [vSl al2 l cl2], Box pseen [.map (some bv)], Box p [iV x], MkA (D :: dl), OwnSl 113 3 al2 l.length cl2 csl, OwnMap bv m]) rfl ?_
  refine .seq (.region ?_)
  refine bx (vs := [.func (.yield l3) #[] #[]]) rfl rfl rfl (fun pdone => ?_)
  refine .nil (.seqN (.seq (.seq ?_)))
  refine .openA (s0 := [(1, .pointer (some p3)), (2, .pointer (some p4)), (3, .pointer (some pdone))]) [0, 1, 2, 3, 4] [(0, .pointer (some pk)), (1, .pointer (some pk)), (2, .pointer (some (pk.add 0))), (3, .agg (tF k.t ak ck ak2 ck2 ak3 ck3).toArray), (4, .slice a2 ((gt l x).node.length) c)] (by kernel_rfl) sb [1, 2, 3] [] rfl (by kernel_rfl) ?_
  refine .step [5] 5 rfl (by kernel_rfl) (by kernel_rfl) (.v [] rfl rfl rfl rfl rfl rfl (fun _ => ld1 (v := .pointer (some pk)) rfl tO96 (cellH (CellsAt.mono (FH.le_refl _) q15074 0 _ rfl))) (.v [(10, .pointer (some pk))] rfl rfl rfl rfl rfl rfl (fun _ => nck rfl) (.v [(11, .pointer (some pk))] rfl rfl rfl rfl rfl rfl (fun _ => fa rfl tF99_0) (.v [(12, .pointer (some (pk.add 0)))] rfl rfl rfl rfl rfl rfl (fun _ => ldA (cs := (tF k.t ak ck ak2 ck2 ak3 ck3)) rfl tA25 rfl (cellsH (CellsAt.take (CellsAt.mono (FH.le_trans (q10540) (le742)) _q11) 4))) (.v [] rfl rfl rfl rfl rfl rfl (fun _ => ld1 (v := .slice a2 ((gt l x).node.length) c) rfl tO35 (cellH (CellsAt.mono (FH.le_refl _) q15075 0 _ rfl))) (.nil)))))) (.cons [(13, .agg (tF k.t ak ck ak2 ck2 ak3 ck3).toArray), (14, .slice a2 ((gt l x).node.length) c)] rfl rfl (fun sL hL => ?_) (.nil))
  obtain ⟨r6, q15078⟩ : ∃ y_ : Unit, y_ = sp_succ k.t ((gt l x).node) := ⟨_, rfl⟩
  replace hF := hF r6 q15078
  refine clR (α := Addr × Addr) (Φ := fun h1 z => CellsAt h1 z.1 (tF k.t ak ck ak2 ck2 ak3 ck3) ∧ CellsAt h1 z.2 [.slice a2 ((gt l x).node.length) c]) (V := fun z => .func (.func 103) #[] #[.pointer (some z.1), .pointer (some z.2)]) Tryz.call81 rfl rfl (fun w S => (by exact c_succ S.sub k.t ak ck (_q3.mono (FH.le_trans (q10540) (le742))) _q4 ak2 ck2 (_q5.mono (FH.le_trans (q10540) (le742))) _q6 ak3 ck3 (_q7.mono (FH.le_trans (q10540) (le742))) _q8 ((gt l x).node) a2 c (q14886.mono (le742)) q14885 )) rfl (fun z h743 le743 hz => ?_)
  obtain ⟨p5, p6⟩ := z
  obtain ⟨q15079, q15080⟩ := hz
  refine .nil ?_
  refine .ja (M := [3, 4, 2, 1, 0]) (C' := []) (pre := [(5, .func (.func 103) #[] #[.pointer (some p5), .pointer (some p6)])]) [(1, .pointer (some p3)), (2, .pointer (some p4)), (3, .pointer (some pdone))] [1, 2, 3] hL rfl rfl rfl rfl rfl sb rfl rfl (by kernel_rfl) ?_
  refine .last [(10, .pointer (some pk)), (11, .pointer (some pk)), (12, .pointer (some (pk.add 0))), (13, .agg (tF k.t ak ck ak2 ck2 ak3 ck3).toArray), (14, .slice a2 ((gt l x).node.length) c), (15, .func (.func 103) #[] #[.pointer (some p5), .pointer (some p6)])] rfl (by kernel_rfl) (.nil) rfl ?_
  refine .seqN (.block ?_)
  refine .sub (s' := [(1, .pointer (some p3)), (2, .pointer (some p4)), (3, .pointer (some pdone)), (15, .func (.func 103) #[] #[.pointer (some p5), .pointer (some p6)])]) sb ?_
  refine .wide ?_
  refine .rangeF (k := 1) (caps := [.pointer (some p5), .pointer (some p6)]) rfl rfl Tryz.func103 rfl Tryz.ntmps103 rfl Tryz.call103 (fun l4 D2 LA2 a7 q15273 q15274 => ?_)
  refine .cast (A' := [LA2 .ready none, Box pdone [.func (.yield l3) #[] #[]], MkA (D2 :: []), LA .ready none, Box pkey [.func (.func 49) #[] #[]], Box pv [.slice none 0 0], Box pv2 [.bool false], Box pv3 [.bool false], Box pqueue [vSl al2 l cl2], Box pseen [.map (some bv)], Box p [iV x], MkA (D :: dl), OwnSl 113 3 al2 l.length cl2 csl, OwnMap bv m]) rfl ?_
  refine .seq (.region (.V (fa rfl tF25_3) ?_))
  refine .V (ld1 (v := vSl ak3 k.t.ops ck3) rfl tO23 (cellH (CellsAt.mono (FH.le_refl _) q15079 3 _ rfl))) ?_
  refine .V (ln rfl tS23.is) ?_
  refine .V (mv rfl) ?_
  refine .nil (.seqN (.block ?_))
  refine .sel0 [0, 4, 5, 6, 7, 8, 9, 10, 11, 3, 1, 2, 12, 13] (by decide) rfl ?_
  obtain ⟨I3, μ3, q15403, q15404⟩ := hF
  refine .loop' (σ := Int × List Entry × (List UInt8 → Int) × Option Addr × Nat × List Value × FH) (fun z => I3 z.1 z.2.1 z.2.2.1 ∧ RepL z.2.2.2.2.2.2 z.2.1 z.2.2.2.2.2.1 ∧ FH.le h743 z.2.2.2.2.2.2) (fun z => μ3 z.1 z.2.1 z.2.2.1) (fun z => [(0, .func (.yield l4) #[] #[]), (1, .pointer (some p5)), (2, .pointer (some p6)), (7, vSl ak3 k.t.ops ck3), (8, iV ((k.t.ops.length : Nat) : Int)), (9, iV z.1)]) (fun z => [LA2 .ready none, Box pkey [.func (.func 49) #[] #[]], Box pv [.slice none 0 0], Box pv2 [.bool false], Box pv3 [.bool false], Box pqueue [vSl z.2.2.2.1 z.2.1 z.2.2.2.2.1], Box pseen [.map (some bv)], Box p [iV x], MkA (D :: dl), LA .ready none, Box pdone [.func (.yield l3) #[] #[]], MkA (D2 :: []), OwnSl 113 3 z.2.2.2.1 z.2.1.length z.2.2.2.2.1 z.2.2.2.2.2.1, OwnMap bv z.2.2.1]) (fun z => z.2.2.2.2.2.2) (0, l, m, al2, cl2, csl, h743) ⟨q15403, (RepL.mono (FH.le_trans (le742) (le743)) q10539), (FH.le_refl _)⟩ sb rfl (FH.le_refl _) ?_
  rintro ⟨t9, l5, m3, al4, cl4, csl3, h762⟩ ⟨q15403, q15339, q15340⟩
  have hF := q15404 t9 l5 m3 q15403
  show J _ _ _ _ _ [(0, .func (.yield l4) #[] #[]), (1, .pointer (some p5)), (2, .pointer (some p6)), (7, vSl ak3 k.t.ops ck3), (8, iV ((k.t.ops.length : Nat) : Int)), (9, iV t9)] [LA2 .ready none, Box pkey [.func (.func 49) #[] #[]], Box pv [.slice none 0 0], Box pv2 [.bool false], Box pv3 [.bool false], Box pqueue [vSl al4 l5 cl4], Box pseen [.map (some bv)], Box p [iV x], MkA (D :: dl), LA .ready none, Box pdone [.func (.yield l3) #[] #[]], MkA (D2 :: []), OwnSl 113 3 al4 l5.length cl4 csl3, OwnMap bv m3] h762
  refine .seq (.region (.V (bi rfl rfl rfl) ?_))
  refine .nil (.seqN (.seq ?_))
  refine .cond rfl (fun q15407 => ?_) (fun q15407 => ?_)
  ·replace hF := hF.1 q15407
   refine .skip (.seqN ?_)
   refine .share (σ := List Entry × (List UInt8 → Int) × Option Addr × Nat × List Value × FH) (fun z => F_breadthC_J1 t9 I3 μ3 l5 m3 z.1 z.2.1 ∧ RepL z.2.2.2.2.2 z.1 z.2.2.2.2.1 ∧ FH.le h762 z.2.2.2.2.2) (fun _ => [(0, .func (.yield l4) #[] #[]), (1, .pointer (some p5)), (2, .pointer (some p6)), (7, vSl ak3 k.t.ops ck3), (8, iV ((k.t.ops.length : Nat) : Int)), (9, iV t9)]) (fun z => [LA2 .ready none, Box pkey [.func (.func 49) #[] #[]], Box pv [.slice none 0 0], Box pv2 [.bool false], Box pv3 [.bool false], Box pqueue [vSl z.2.2.1 z.1 z.2.2.2.1], Box pseen [.map (some bv)], Box p [iV x], MkA (D :: dl), LA .ready none, Box pdone [.func (.yield l3) #[] #[]], MkA (D2 :: []), OwnSl 113 3 z.2.2.1 z.1.length z.2.2.2.1 z.2.2.2.2.1, OwnMap bv z.2.1]) (fun z => z.2.2.2.2.2) ?_ (fun q15437 => ?_)
   ·rintro ⟨l7, m5, al6, cl6, csl5, h768⟩ ⟨hF, q15435, q15436⟩
    show J _ _ _ _ _ [(0, .func (.yield l4) #[] #[]), (1, .pointer (some p5)), (2, .pointer (some p6)), (7, vSl ak3 k.t.ops ck3), (8, iV ((k.t.ops.length : Nat) : Int)), (9, iV t9)] [LA2 .ready none, Box pkey [.func (.func 49) #[] #[]], Box pv [.slice none 0 0], Box pv2 [.bool false], Box pv3 [.bool false], Box pqueue [vSl al6 l7 cl6], Box pseen [.map (some bv)], Box p [iV x], MkA (D :: dl), LA .ready none, Box pdone [.func (.yield l3) #[] #[]], MkA (D2 :: []), OwnSl 113 3 al6 l7.length cl6 csl5, OwnMap bv m5] h768
    refine .region (.V (bi rfl rfl rfl) ?_)
    refine .V (mv rfl) ?_
    refine .nil ?_
    exact .RO (wr (t9 + 1), l7, m5, al6, cl6, csl5, h768) ⟨hF.1, q15435, (FH.le_trans (q15340) (q15436))⟩ hF.2
   refine .block (.seq (.region (.V (mv rfl) ?_)))
   obtain ⟨q15438, hF⟩ := hF
   refine .V (ix rfl rfl tS23 (_q7.ne (by decide) (inb_pos q15438)) q15438) ?_
   obtain ⟨_, ⟨a8, c4, a9, c5, a10, c6, rfl, ⟨q15439, q15440⟩, ⟨q15441, q15442⟩, q15443, q15444⟩, q15445⟩ := _q7.elem q15438
   refine .V (ldA (cs := [.slice a8 ((gt k.t.ops t9).pre.length) c4, .slice a9 ((gt k.t.ops t9).add.length) c5, .slice a10 ((gt k.t.ops t9).del.length) c6, iV ((gt k.t.ops t9).cost)]) rfl tA54 rfl (cellsH ((fun q => (q15445 q).mono (FH.le_trans (FH.le_trans (FH.le_trans (q10540) (le742)) (le743)) (q15340))) (by decide)))) ?_
   refine al tZ54 rfl (fun pkey2 => ?_)
   refine .V (asg rfl) ?_
   refine st (p := pkey2) (off := 0) (k := 0) (vs := [.slice a8 ((gt k.t.ops t9).pre.length) c4, .slice a9 ((gt k.t.ops t9).add.length) c5, .slice a10 ((gt k.t.ops t9).del.length) c6, iV ((gt k.t.ops t9).cost)]) rfl rfl rfl (fun w => (tA54 w).2) rfl rfl rfl rfl ?_
   refine .cast (A' := [Box pkey2 [.slice a8 ((gt k.t.ops t9).pre.length) c4, .slice a9 ((gt k.t.ops t9).add.length) c5, .slice a10 ((gt k.t.ops t9).del.length) c6, iV ((gt k.t.ops t9).cost)], LA2 .ready none, Box pkey [.func (.func 49) #[] #[]], Box pv [.slice none 0 0], Box pv2 [.bool false], Box pv3 [.bool false], Box pqueue [vSl al4 l5 cl4], Box pseen [.map (some bv)], Box p [iV x], MkA (D :: dl), LA .ready none, Box pdone [.func (.yield l3) #[] #[]], MkA (D2 :: []), OwnSl 113 3 al4 l5.length cl4 csl3, OwnMap bv m3]) rfl ?_
   refine .nil (.seqN (.seq (.region (.V (ld1 (v := .slice a2 ((gt l x).node.length) c) rfl tO35 (cellH (CellsAt.mono (q15340) q15080 0 _ rfl))) ?_))))
   refine .V (fa rfl tF54_0) ?_
   refine .V (ld1 rfl tO22 (cellB (off := 0) (k := 0) rfl rfl)) ?_
   obtain ⟨q15446, hF⟩ := hF
   obtain ⟨r7, q15447⟩ : ∃ y_ : Bool, y_ = sp_sure ((gt l x).node) ((gt k.t.ops t9).pre) := ⟨_, rfl⟩
   replace hF := hF r7 q15447
   refine .C (cl (v := .bool r7) Tryz.call52 rfl rfl (fun w S => (by rw [q15447]; exact c_sure S.sub ((gt l x).node) a2 c (q14886.mono (FH.le_trans (FH.le_trans (le742) (le743)) (q15340))) q14885 ((gt k.t.ops t9).pre) a8 c4 (q15440.mono (FH.le_trans (FH.le_trans (FH.le_trans (q10540) (le742)) (le743)) (q15340))) q15439 q15446))) ?_
   refine .V (mv rfl) ?_
   rcases Bool.eq_false_or_eq_true (r7) with q15448 | q15448
   ·replace hF := hF.1 q15448
    refine .GV (mv rfl) q15448 ?_
    refine .GV (mv rfl) q15448 ?_
    refine .GV (ldA (cs := (tF k.t ak ck ak2 ck2 ak3 ck3)) rfl tA25 rfl (cellsH (q15079.mono (q15340)))) q15448 ?_
    refine .GV (ld1 (v := .slice a2 ((gt l x).node.length) c) rfl tO35 (cellH (CellsAt.mono (q15340) q15080 0 _ rfl))) q15448 ?_
    refine .GV (mv rfl) q15448 ?_
    obtain ⟨q15449, hF⟩ := hF
    obtain ⟨r8, q15450⟩ : ∃ y_ : List (List Int), y_ = sp_bafter k.t ((gt l x).node) t9 := ⟨_, rfl⟩
    replace hF := hF r8 q15450
    refine .gR rfl rfl rfl q15448 ?_
    refine clR (α := Option Addr × Nat) (Φ := fun h1 z => RSl h1 z.1 r8 ∧ r8.length ≤ z.2) (V := fun z => vSl z.1 r8 z.2) Tryz.call60 rfl rfl (fun w S => (by rw [q15450]; exact c_bafter S.sub k.t ak ck (_q3.mono (FH.le_trans (FH.le_trans (FH.le_trans (q10540) (le742)) (le743)) (q15340))) _q4 ak2 ck2 (_q5.mono (FH.le_trans (FH.le_trans (FH.le_trans (q10540) (le742)) (le743)) (q15340))) _q6 ak3 ck3 (_q7.mono (FH.le_trans (FH.le_trans (FH.le_trans (q10540) (le742)) (le743)) (q15340))) _q8 ((gt l x).node) a2 c (q14886.mono (FH.le_trans (FH.le_trans (le742) (le743)) (q15340))) q14885 t9 q15449)) rfl (fun z h769 le769 hz => ?_)
    obtain ⟨a11, c7⟩ := z
    obtain ⟨q15451, q15452⟩ := hz
    refine .gR rfl rfl rfl q15448 ?_
    refine .yld (k := 1) (vs := [iV t9, vSl a11 r8 c7]) q15273 rfl rfl rfl rfl rfl (fun aG q15453 => ?_)
    refine .sub (s' := [(3, .pointer (some pdone)), (16, iV t9), (17, vSl a11 r8 c7)]) sb ?_
    refine .seq (.region (.V (asg rfl) ?_))
    refine .nil (.seqN (.region (.V (asg rfl) ?_)))
    refine .nil ?_
    refine .begin_ (k := 1) q15273 rfl ?_
    refine .cast (A' := [Box pkey2 [.slice a8 ((gt k.t.ops t9).pre.length) c4, .slice a9 ((gt k.t.ops t9).add.length) c5, .slice a10 ((gt k.t.ops t9).del.length) c6, iV ((gt k.t.ops t9).cost)], LA2 .busy none, Box pkey [.func (.func 49) #[] #[]], Box pv [.slice none 0 0], Box pv2 [.bool false], Box pv3 [.bool false], Box pqueue [vSl al4 l5 cl4], Box pseen [.map (some bv)], Box p [iV x], MkA (D :: dl), LA .ready none, Box pdone [.func (.yield l3) #[] #[]], MkA (D2 :: []), OwnSl 113 3 al4 l5.length cl4 csl3, OwnMap bv m3]) rfl ?_
    refine .block (.seq (.region (.V (ld1 rfl tO119 (cellB (off := 0) (k := 11) rfl rfl)) ?_)))
    refine .V (mv rfl) ?_
    refine .V (mv rfl) ?_
    refine .yld (k := 10) (vs := [iV t9, vSl a11 r8 c7]) q15076 rfl rfl rfl rfl rfl (fun aG2 q15454 => ?_)
    refine .sub (s' := [(5, .pointer (some pkey)), (8, .pointer (some pv)), (9, .pointer (some pv2)), (10, .pointer (some pv3)), (11, .pointer (some pqueue)), (12, .pointer (some pseen)), (13, .pointer (some p)), (70, iV t9), (71, vSl a11 r8 c7)]) sb ?_
    refine .seq (.region (.V (asg rfl) ?_))
    refine .nil (.seqN (.region (.V (asg rfl) ?_)))
    refine .nil ?_
    refine .begin_ (k := 10) q15076 rfl ?_
    refine .cast (A' := [Box pkey2 [.slice a8 ((gt k.t.ops t9).pre.length) c4, .slice a9 ((gt k.t.ops t9).add.length) c5, .slice a10 ((gt k.t.ops t9).del.length) c6, iV ((gt k.t.ops t9).cost)], LA2 .busy none, Box pkey [.func (.func 49) #[] #[]], Box pv [.slice none 0 0], Box pv2 [.bool false], Box pv3 [.bool false], Box pqueue [vSl al4 l5 cl4], Box pseen [.map (some bv)], Box p [iV x], MkA (D :: dl), LA .busy none, Box pdone [.func (.yield l3) #[] #[]], MkA (D2 :: []), OwnSl 113 3 al4 l5.length cl4 csl3, OwnMap bv m3]) rfl ?_
    refine .block (.seq (.region (.V (ld1 rfl tO80 (cellB (off := 0) (k := 2) rfl rfl)) ?_)))
    refine .V (mv rfl) ?_
    obtain ⟨q15455, hF⟩ := hF
    obtain ⟨r9, q15456⟩ : ∃ y_ : List UInt8, y_ = sp_key r8 := ⟨_, rfl⟩
    replace hF := hF r9 q15456
    refine .C (cl (v := strV r9) Tryz.call49 rfl rfl (fun w S => (by rw [q15456]; exact c_key S.sub (ht.mono (FH.le_trans (FH.le_trans (FH.le_trans (FH.le_trans (q10540) (le742)) (le743)) (q15340)) (le769))) r8 a11 c7 q15451 q15452 q15455))) ?_
    refine .V (asg rfl) ?_
    refine .nil (.seqN (.seq (.seq (.region (.V (ld1 rfl tO97 (cellB (off := 0) (k := 7) rfl rfl)) ?_)))))
    refine .V (mv rfl) ?_
    refine .V (lk tM97 rfl rfl (kk := 14) rfl) ?_
    refine .V (bi rfl rfl rfl) ?_
    refine .nil (.seqN ?_)
    refine .cond rfl (fun q15458 => ?_) (fun q15458 => ?_)
    ·replace hF := hF.1 q15458
     refine .exit (.seqX (.blkX ?_))
     refine .rdN (k := 10) q15076 rfl q15454 rfl ?_
     refine .cast (A' := [Box pkey2 [.slice a8 ((gt k.t.ops t9).pre.length) c4, .slice a9 ((gt k.t.ops t9).add.length) c5, .slice a10 ((gt k.t.ops t9).del.length) c6, iV ((gt k.t.ops t9).cost)], LA2 .busy none, Box pkey [.func (.func 49) #[] #[]], Box pv [.slice none 0 0], Box pv2 [.bool false], Box pv3 [.bool false], Box pqueue [vSl al4 l5 cl4], Box pseen [.map (some bv)], Box p [iV x], MkA (D :: dl), LA .ready none, Box pdone [.func (.yield l3) #[] #[]], MkA (D2 :: []), OwnSl 113 3 al4 l5.length cl4 csl3, OwnMap bv m3]) rfl ?_
     refine .V (nt rfl) ?_
     refine .nil (.seqN ?_)
     refine .cond rfl (fun e => absurd (e.symm.trans rfl) (by decide)) (fun _ => ?_)
     refine .skip (.blkN ?_)
     refine .rdN (k := 1) q15273 rfl q15453 rfl ?_
     refine .cast (A' := [Box pkey2 [.slice a8 ((gt k.t.ops t9).pre.length) c4, .slice a9 ((gt k.t.ops t9).add.length) c5, .slice a10 ((gt k.t.ops t9).del.length) c6, iV ((gt k.t.ops t9).cost)], LA2 .ready none, Box pkey [.func (.func 49) #[] #[]], Box pv [.slice none 0 0], Box pv2 [.bool false], Box pv3 [.bool false], Box pqueue [vSl al4 l5 cl4], Box pseen [.map (some bv)], Box p [iV x], MkA (D :: dl), LA .ready none, Box pdone [.func (.yield l3) #[] #[]], MkA (D2 :: []), OwnSl 113 3 al4 l5.length cl4 csl3, OwnMap bv m3]) rfl ?_
     refine .GV (nt rfl) q15448 ?_
     refine .V (pkT rfl q15448 rfl) ?_
     refine .nil (.seqN ?_)
     refine .cond rfl (fun e => absurd (e.symm.trans rfl) (by decide)) (fun _ => ?_)
     refine .skip (.blkN ?_)
     refine .sel0 [1, 2, 3, 4, 5, 6, 7, 8, 9, 10, 11, 12, 13, 14] (by decide) rfl ?_
     exact .US q15437 (l5, m3, al4, cl4, csl3, h769) ⟨hF, (RepL.mono (le769) q15339), (le769)⟩
    replace hF := hF.2 q15458
    refine .skip (.seqN (.seq (.seq (.region (.V (ld1 rfl tO114 (cellB (off := 0) (k := 6) rfl rfl)) ?_)))))
    refine .V (ln rfl tS114.is) ?_
    refine .V (bi rfl rfl rfl) ?_
    refine .nil (.seqN ?_)
    refine .cond rfl (fun q15460 => ?_) (fun q15460 => ?_)
    ·replace hF := hF.1 q15460
     refine .seq (.region ?_)
     refine st (p := pv) (off := 0) (k := 3) (vs := [.slice none 0 0]) rfl rfl rfl (fun w => (tO22 w).2) rfl rfl rfl rfl ?_
     refine .cast (A' := [Box pkey2 [.slice a8 ((gt k.t.ops t9).pre.length) c4, .slice a9 ((gt k.t.ops t9).add.length) c5, .slice a10 ((gt k.t.ops t9).del.length) c6, iV ((gt k.t.ops t9).cost)], LA2 .busy none, Box pkey [.func (.func 49) #[] #[]], Box pv [.slice none 0 0], Box pv2 [.bool false], Box pv3 [.bool false], Box pqueue [vSl al4 l5 cl4], Box pseen [.map (some bv)], Box p [iV x], MkA (D :: dl), LA .busy none, Box pdone [.func (.yield l3) #[] #[]], MkA (D2 :: []), OwnSl 113 3 al4 l5.length cl4 csl3, OwnMap bv m3]) rfl ?_
     refine st (p := pv2) (off := 0) (k := 4) (vs := [.bool false]) rfl rfl rfl (fun w => (tO4 w).2) rfl rfl rfl rfl ?_
     refine .cast (A' := [Box pkey2 [.slice a8 ((gt k.t.ops t9).pre.length) c4, .slice a9 ((gt k.t.ops t9).add.length) c5, .slice a10 ((gt k.t.ops t9).del.length) c6, iV ((gt k.t.ops t9).cost)], LA2 .busy none, Box pkey [.func (.func 49) #[] #[]], Box pv [.slice none 0 0], Box pv2 [.bool false], Box pv3 [.bool false], Box pqueue [vSl al4 l5 cl4], Box pseen [.map (some bv)], Box p [iV x], MkA (D :: dl), LA .busy none, Box pdone [.func (.yield l3) #[] #[]], MkA (D2 :: []), OwnSl 113 3 al4 l5.length cl4 csl3, OwnMap bv m3]) rfl ?_
     refine st (p := pv3) (off := 0) (k := 5) (vs := [.bool false]) rfl rfl rfl (fun w => (tO4 w).2) rfl rfl rfl rfl ?_
     refine .cast (A' := [Box pkey2 [.slice a8 ((gt k.t.ops t9).pre.length) c4, .slice a9 ((gt k.t.ops t9).add.length) c5, .slice a10 ((gt k.t.ops t9).del.length) c6, iV ((gt k.t.ops t9).cost)], LA2 .busy none, Box pkey [.func (.func 49) #[] #[]], Box pv [.slice none 0 0], Box pv2 [.bool false], Box pv3 [.bool false], Box pqueue [vSl al4 l5 cl4], Box pseen [.map (some bv)], Box p [iV x], MkA (D :: dl), LA .busy none, Box pdone [.func (.yield l3) #[] #[]], MkA (D2 :: []), OwnSl 113 3 al4 l5.length cl4 csl3, OwnMap bv m3]) rfl ?_
     refine .nil (.seqN (.ret (.seqR (.blkR ?_))))
     refine .rdR (k := 10) q15076 rfl q15454 rfl ?_
     refine .cast (A' := [Box pkey2 [.slice a8 ((gt k.t.ops t9).pre.length) c4, .slice a9 ((gt k.t.ops t9).add.length) c5, .slice a10 ((gt k.t.ops t9).del.length) c6, iV ((gt k.t.ops t9).cost)], LA2 .busy none, Box pkey [.func (.func 49) #[] #[]], Box pv [.slice none 0 0], Box pv2 [.bool false], Box pv3 [.bool false], Box pqueue [vSl al4 l5 cl4], Box pseen [.map (some bv)], Box p [iV x], MkA (D :: dl), LA .done (some .ret), Box pdone [.func (.yield l3) #[] #[]], MkA (D2 :: []), OwnSl 113 3 al4 l5.length cl4 csl3, OwnMap bv m3]) rfl ?_
     refine .V (nt rfl) ?_
     refine .nil (.seqN ?_)
     refine .cond rfl (fun _ => ?_) (fun e => absurd (e.symm.trans rfl) (by decide))
     refine .ret (.blkR ?_)
     refine .rdR (k := 1) q15273 rfl q15453 rfl ?_
     refine .cast (A' := [Box pkey2 [.slice a8 ((gt k.t.ops t9).pre.length) c4, .slice a9 ((gt k.t.ops t9).add.length) c5, .slice a10 ((gt k.t.ops t9).del.length) c6, iV ((gt k.t.ops t9).cost)], LA2 .done (some .ret), Box pkey [.func (.func 49) #[] #[]], Box pv [.slice none 0 0], Box pv2 [.bool false], Box pv3 [.bool false], Box pqueue [vSl al4 l5 cl4], Box pseen [.map (some bv)], Box p [iV x], MkA (D :: dl), LA .done (some .ret), Box pdone [.func (.yield l3) #[] #[]], MkA (D2 :: []), OwnSl 113 3 al4 l5.length cl4 csl3, OwnMap bv m3]) rfl ?_
     refine .GV (nt rfl) q15448 ?_
     refine .V (pkT rfl q15448 rfl) ?_
     refine .nil (.seqN ?_)
     refine .cond rfl (fun _ => ?_) (fun e => absurd (e.symm.trans rfl) (by decide))
     refine .ret (.blkR (.seqR (.seqR (.blkR ?_))))
     refine .res0 (.inl rfl) rfl (range_jump (k := 1) q15273 rfl q15274 ?_)
     refine .unwide ?_
     refine .cast (A' := [Box pkey2 [.slice a8 ((gt k.t.ops t9).pre.length) c4, .slice a9 ((gt k.t.ops t9).add.length) c5, .slice a10 ((gt k.t.ops t9).del.length) c6, iV ((gt k.t.ops t9).cost)], tru, Box pkey [.func (.func 49) #[] #[]], Box pv [.slice none 0 0], Box pv2 [.bool false], Box pv3 [.bool false], Box pqueue [vSl al4 l5 cl4], Box pseen [.map (some bv)], Box p [iV x], MkA (D :: dl), LA .done (some .ret), Box pdone [.func (.yield l3) #[] #[]], MkA (D2 :: []), OwnSl 113 3 al4 l5.length cl4 csl3, OwnMap bv m3]) rfl ?_
     refine .ret (.blkR (.seqR ?_))
     refine .resMN (.inl rfl) (k := 12) rfl ?_
     refine .res0 (.inl rfl) rfl (range_jump (k := 10) q15076 rfl q15077 ?_)
     refine .cast (A' := [Box pkey2 [.slice a8 ((gt k.t.ops t9).pre.length) c4, .slice a9 ((gt k.t.ops t9).add.length) c5, .slice a10 ((gt k.t.ops t9).del.length) c6, iV ((gt k.t.ops t9).cost)], tru, Box pkey [.func (.func 49) #[] #[]], Box pv [.slice none 0 0], Box pv2 [.bool false], Box pv3 [.bool false], Box pqueue [vSl al4 l5 cl4], Box pseen [.map (some bv)], Box p [iV x], MkA (D :: dl), tru, Box pdone [.func (.yield l3) #[] #[]], tru, OwnSl 113 3 al4 l5.length cl4 csl3, OwnMap bv m3]) rfl ?_
     refine .ret (.blkR (.blkR (.seqR (.seqR (.blkR (.seqR ?_))))))
     refine .resM (k := 9) rfl ?_
     refine .res3 rfl (rvC1 rfl tO22 (k := 3) rfl) (rvC1 rfl tO4 (k := 4) rfl) (rvC1 rfl tO4 (k := 5) rfl) (fun w' S => ⟨(([] : List Int), false, false), (none, 0), h769, hF, rfl, (FH.le_trans (FH.le_trans (FH.le_trans (FH.le_trans (q10540) (le742)) (le743)) (q15340)) (le769)), ⟨RSl.nil_, (Nat.le_refl 0)⟩, S.none⟩)
    replace hF := hF.2 q15460
    refine .skip (.seqN (.seq (.region (.V (ld1 rfl tO97 (cellB (off := 0) (k := 7) rfl rfl)) ?_))))
    refine .V (mv rfl) ?_
    refine mu tM97 rfl rfl rfl (kk := 14) rfl ?_
    refine .cast (A' := [Box pkey2 [.slice a8 ((gt k.t.ops t9).pre.length) c4, .slice a9 ((gt k.t.ops t9).add.length) c5, .slice a10 ((gt k.t.ops t9).del.length) c6, iV ((gt k.t.ops t9).cost)], LA2 .busy none, Box pkey [.func (.func 49) #[] #[]], Box pv [.slice none 0 0], Box pv2 [.bool false], Box pv3 [.bool false], Box pqueue [vSl al4 l5 cl4], Box pseen [.map (some bv)], Box p [iV x], MkA (D :: dl), LA .busy none, Box pdone [.func (.yield l3) #[] #[]], MkA (D2 :: []), OwnSl 113 3 al4 l5.length cl4 csl3, OwnMap bv (upd m3 r9 1)]) rfl ?_
    refine .nil (.seqN (.region (.V (ld1 rfl tO114 (cellB (off := 0) (k := 6) rfl rfl)) ?_)))
    refine .V (mv rfl) ?_
    refine .V (ld1 rfl tO3 (cellB (off := 0) (k := 8) rfl rfl)) ?_
    refine .V (mv rfl) ?_
    refine .V (bld (cs := #[vSl a11 r8 c7, iV x, iV t9]) (pv := [(0, vSl a11 r8 c7), (1, iV x), (2, iV t9)]) tB113 rfl rfl) ?_
    refine bs2 (cs := #[vSl a11 r8 c7, iV x, iV t9]) (pv := [(0, .agg #[vSl a11 r8 c7, iV x, iV t9])]) tS114 rfl rfl (by decide) (by decide) rfl rfl rfl (fun a12 _ => ?_)
    refine .cast (A' := [OwnSl 113 3 a12 (([(⟨r8, x, t9⟩ : Entry)] : List Entry).length) 1 [vSl a11 r8 c7, iV x, iV t9], Box pkey2 [.slice a8 ((gt k.t.ops t9).pre.length) c4, .slice a9 ((gt k.t.ops t9).add.length) c5, .slice a10 ((gt k.t.ops t9).del.length) c6, iV ((gt k.t.ops t9).cost)], LA2 .busy none, Box pkey [.func (.func 49) #[] #[]], Box pv [.slice none 0 0], Box pv2 [.bool false], Box pv3 [.bool false], Box pqueue [vSl al4 l5 cl4], Box pseen [.map (some bv)], Box p [iV x], MkA (D :: dl), LA .busy none, Box pdone [.func (.yield l3) #[] #[]], MkA (D2 :: []), OwnSl 113 3 al4 l5.length cl4 csl3, OwnMap bv (upd m3 r9 1)]) rfl ?_
    obtain ⟨q15462, hF⟩ := hF
    have q15463 : l5.length + ([(⟨r8, x, t9⟩ : Entry)] : List Entry).length = ((l5 ++ ([(⟨r8, x, t9⟩ : Entry)] : List Entry))).length := len_app rfl rfl
    have q15464 := RepL.append (RepL.mono (le769) q15339) (show RepL h769 ([(⟨r8, x, t9⟩ : Entry)] : List Entry) [.slice a11 r8.length c7, iV x, iV t9] from ⟨[.slice a11 r8.length c7, iV x, iV t9], _, rfl, ⟨a11, c7, rfl, ⟨q15452, q15451⟩⟩, rfl⟩)
    refine app (k := 14) (news := [vSl a11 r8 c7, iV x, iV t9]) (cs' := (csl3 ++ [vSl a11 r8 c7, iV x, iV t9])) (nm := ((l5 ++ ([(⟨r8, x, t9⟩ : Entry)] : List Entry))).length) tS114 rfl (by decide) rfl rfl rfl (RepL.len (show RepL h769 ([(⟨r8, x, t9⟩ : Entry)] : List Entry) [vSl a11 r8 c7, iV x, iV t9] from ⟨[vSl a11 r8 c7, iV x, iV t9], _, rfl, ⟨a11, c7, rfl, ⟨q15452, q15451⟩⟩, rfl⟩)) (srcS (k := 0) rfl) (RepL.one (show RepL h769 ([(⟨r8, x, t9⟩ : Entry)] : List Entry) [vSl a11 r8 c7, iV x, iV t9] from ⟨[vSl a11 r8 c7, iV x, iV t9], _, rfl, ⟨a11, c7, rfl, ⟨q15452, q15451⟩⟩, rfl⟩)) (room_of q15463 q15462).1 (room_of q15463 q15462).2 q15463 rfl rfl (fun a13 c8 => ?_)
    refine .cast (A' := [OwnSl 113 3 a12 (([(⟨r8, x, t9⟩ : Entry)] : List Entry).length) 1 [vSl a11 r8 c7, iV x, iV t9], Box pkey2 [.slice a8 ((gt k.t.ops t9).pre.length) c4, .slice a9 ((gt k.t.ops t9).add.length) c5, .slice a10 ((gt k.t.ops t9).del.length) c6, iV ((gt k.t.ops t9).cost)], LA2 .busy none, Box pkey [.func (.func 49) #[] #[]], Box pv [.slice none 0 0], Box pv2 [.bool false], Box pv3 [.bool false], Box pqueue [vSl al4 l5 cl4], Box pseen [.map (some bv)], Box p [iV x], MkA (D :: dl), LA .busy none, Box pdone [.func (.yield l3) #[] #[]], MkA (D2 :: []), OwnSl 113 3 a13 ((l5 ++ ([(⟨r8, x, t9⟩ : Entry)] : List Entry)).length) c8 (csl3 ++ [vSl a11 r8 c7, iV x, iV t9]), OwnMap bv (upd m3 r9 1)]) rfl ?_
    refine st (p := pqueue) (off := 0) (k := 7) (vs := [.slice a13 ((l5 ++ ([(⟨r8, x, t9⟩ : Entry)] : List Entry)).length) c8]) rfl rfl rfl (fun w => (tO114 w).2) rfl rfl rfl rfl ?_
    refine .cast (A' := [OwnSl 113 3 a12 (([(⟨r8, x, t9⟩ : Entry)] : List Entry).length) 1 [vSl a11 r8 c7, iV x, iV t9], Box pkey2 [.slice a8 ((gt k.t.ops t9).pre.length) c4, .slice a9 ((gt k.t.ops t9).add.length) c5, .slice a10 ((gt k.t.ops t9).del.length) c6, iV ((gt k.t.ops t9).cost)], LA2 .busy none, Box pkey [.func (.func 49) #[] #[]], Box pv [.slice none 0 0], Box pv2 [.bool false], Box pv3 [.bool false], Box pqueue [.slice a13 ((l5 ++ ([(⟨r8, x, t9⟩ : Entry)] : List Entry)).length) c8], Box pseen [.map (some bv)], Box p [iV x], MkA (D :: dl), LA .busy none, Box pdone [.func (.yield l3) #[] #[]], MkA (D2 :: []), OwnSl 113 3 a13 ((l5 ++ ([(⟨r8, x, t9⟩ : Entry)] : List Entry)).length) c8 (csl3 ++ [vSl a11 r8 c7, iV x, iV t9]), OwnMap bv (upd m3 r9 1)]) rfl ?_
    refine .nil (.blkN ?_)
    refine .rdN (k := 11) q15076 rfl q15454 rfl ?_
    refine .cast (A' := [OwnSl 113 3 a12 (([(⟨r8, x, t9⟩ : Entry)] : List Entry).length) 1 [vSl a11 r8 c7, iV x, iV t9], Box pkey2 [.slice a8 ((gt k.t.ops t9).pre.length) c4, .slice a9 ((gt k.t.ops t9).add.length) c5, .slice a10 ((gt k.t.ops t9).del.length) c6, iV ((gt k.t.ops t9).cost)], LA2 .busy none, Box pkey [.func (.func 49) #[] #[]], Box pv [.slice none 0 0], Box pv2 [.bool false], Box pv3 [.bool false], Box pqueue [.slice a13 ((l5 ++ ([(⟨r8, x, t9⟩ : Entry)] : List Entry)).length) c8], Box pseen [.map (some bv)], Box p [iV x], MkA (D :: dl), LA .ready none, Box pdone [.func (.yield l3) #[] #[]], MkA (D2 :: []), OwnSl 113 3 a13 ((l5 ++ ([(⟨r8, x, t9⟩ : Entry)] : List Entry)).length) c8 (csl3 ++ [vSl a11 r8 c7, iV x, iV t9]), OwnMap bv (upd m3 r9 1)]) rfl ?_
    refine .V (nt rfl) ?_
    refine .nil (.seqN ?_)
    refine .cond rfl (fun e => absurd (e.symm.trans rfl) (by decide)) (fun _ => ?_)
    refine .skip (.blkN ?_)
    refine .rdN (k := 2) q15273 rfl q15453 rfl ?_
    refine .cast (A' := [OwnSl 113 3 a12 (([(⟨r8, x, t9⟩ : Entry)] : List Entry).length) 1 [vSl a11 r8 c7, iV x, iV t9], Box pkey2 [.slice a8 ((gt k.t.ops t9).pre.length) c4, .slice a9 ((gt k.t.ops t9).add.length) c5, .slice a10 ((gt k.t.ops t9).del.length) c6, iV ((gt k.t.ops t9).cost)], LA2 .ready none, Box pkey [.func (.func 49) #[] #[]], Box pv [.slice none 0 0], Box pv2 [.bool false], Box pv3 [.bool false], Box pqueue [.slice a13 ((l5 ++ ([(⟨r8, x, t9⟩ : Entry)] : List Entry)).length) c8], Box pseen [.map (some bv)], Box p [iV x], MkA (D :: dl), LA .ready none, Box pdone [.func (.yield l3) #[] #[]], MkA (D2 :: []), OwnSl 113 3 a13 ((l5 ++ ([(⟨r8, x, t9⟩ : Entry)] : List Entry)).length) c8 (csl3 ++ [vSl a11 r8 c7, iV x, iV t9]), OwnMap bv (upd m3 r9 1)]) rfl ?_
    refine .GV (nt rfl) q15448 ?_
    refine .V (pkT rfl q15448 rfl) ?_
    refine .nil (.seqN ?_)
    refine .cond rfl (fun e => absurd (e.symm.trans rfl) (by decide)) (fun _ => ?_)
    refine .skip (.blkN ?_)
    refine .sel0 [2, 3, 4, 5, 6, 7, 8, 9, 10, 11, 12, 13, 14, 15] (by decide) rfl ?_
    exact .US q15437 ((l5 ++ ([(⟨r8, x, t9⟩ : Entry)] : List Entry)), (upd m3 r9 1), a13, c8, (csl3 ++ [vSl a11 r8 c7, iV x, iV t9]), h769) ⟨hF, q15464, (le769)⟩
   replace hF := hF.2 q15448
   refine .GS q15448 ?_
   refine .GS q15448 ?_
   refine .GS q15448 ?_
   refine .GS q15448 ?_
   refine .GS q15448 ?_
   refine .GS q15448 ?_
   refine .GS q15448 ?_
   refine .GS q15448 ?_
   refine .V (pkF rfl q15448 rfl) ?_
   refine .nil (.seqN ?_)
   refine .cond rfl (fun e => absurd (e.symm.trans rfl) (by decide)) (fun _ => ?_)
   refine .skip (.blkN ?_)
   refine .sel0 [1, 2, 3, 4, 5, 6, 7, 8, 9, 10, 11, 12, 13, 14] (by decide) rfl ?_
   exact .US q15437 (l5, m3, al4, cl4, csl3, h762) ⟨hF, q15339, (FH.le_refl _)⟩
  replace hF := hF.2 q15407
  refine .exit (.seqX (.seqX (.blkX ?_)))
  refine .res0 (.inr rfl) rfl (range_done (k := 0) q15273 rfl q15274 ?_)
  refine .unwide ?_
  refine .cast (A' := [tru, Box pkey [.func (.func 49) #[] #[]], Box pv [.slice none 0 0], Box pv2 [.bool false], Box pv3 [.bool false], Box pqueue [vSl al4 l5 cl4], Box pseen [.map (some bv)], Box p [iV x], MkA (D :: dl), LA .ready none, Box pdone [.func (.yield l3) #[] #[]], MkA (D2 :: []), OwnSl 113 3 al4 l5.length cl4 csl3, OwnMap bv m3]) rfl ?_
  refine .blkN (.seqN (.seq (.region (.V (ld1 (v := .pointer (some pk)) rfl tO96 (cellH (CellsAt.mono (FH.le_trans (le743) (q15340)) q15074 0 _ rfl))) ?_))))
  refine .V (nck rfl) ?_
  refine .V (fa rfl tF99_1) ?_
  refine .V (ld1 (v := vSl ak4 k.sensors ck4) rfl tO22 (cellH (CellsAt.mono (FH.le_trans (FH.le_trans (FH.le_trans (q10540) (le742)) (le743)) (q15340)) _q11 4 _ rfl))) ?_
  refine .V (ln rfl tS22.is) ?_
  refine .V (mv rfl) ?_
  refine .nil (.seqN (.block ?_))
  refine .sel0 [10, 11, 1, 2, 3, 4, 5, 6, 7, 8, 9, 12, 13] (by decide) rfl ?_
  obtain ⟨I4, μ4, q15657, q15658⟩ := hF
  refine .loop' (σ := Int × List Entry × (List UInt8 → Int) × Option Addr × Nat × List Value × FH) (fun z => I4 z.1 z.2.1 z.2.2.1 ∧ RepL z.2.2.2.2.2.2 z.2.1 z.2.2.2.2.2.1 ∧ FH.le h762 z.2.2.2.2.2.2) (fun z => μ4 z.1 z.2.1 z.2.2.1) (fun z => [(2, .pointer (some p4)), (3, .pointer (some pdone)), (26, vSl ak4 k.sensors ck4), (27, iV ((k.sensors.length : Nat) : Int)), (28, iV z.1)]) (fun z => [Box pdone [.func (.yield l3) #[] #[]], MkA (D2 :: []), Box pkey [.func (.func 49) #[] #[]], Box pv [.slice none 0 0], Box pv2 [.bool false], Box pv3 [.bool false], Box pqueue [vSl z.2.2.2.1 z.2.1 z.2.2.2.2.1], Box pseen [.map (some bv)], Box p [iV x], MkA (D :: dl), LA .ready none, OwnSl 113 3 z.2.2.2.1 z.2.1.length z.2.2.2.2.1 z.2.2.2.2.2.1, OwnMap bv z.2.2.1]) (fun z => z.2.2.2.2.2.2) (0, l5, m3, al4, cl4, csl3, h762) ⟨q15657, q15339, (FH.le_refl _)⟩ sb rfl (FH.le_refl _) ?_
  rintro ⟨t28, l8, m6, al7, cl7, csl6, h775⟩ ⟨q15657, q15561, q15562⟩
  have hF := q15658 t28 l8 m6 q15657
  show J _ _ _ _ _ [(2, .pointer (some p4)), (3, .pointer (some pdone)), (26, vSl ak4 k.sensors ck4), (27, iV ((k.sensors.length : Nat) : Int)), (28, iV t28)] [Box pdone [.func (.yield l3) #[] #[]], MkA (D2 :: []), Box pkey [.func (.func 49) #[] #[]], Box pv [.slice none 0 0], Box pv2 [.bool false], Box pv3 [.bool false], Box pqueue [vSl al7 l8 cl7], Box pseen [.map (some bv)], Box p [iV x], MkA (D :: dl), LA .ready none, OwnSl 113 3 al7 l8.length cl7 csl6, OwnMap bv m6] h775
  refine .seq (.region (.V (bi rfl rfl rfl) ?_))
  refine .nil (.seqN (.seq ?_))
  refine .cond rfl (fun q15661 => ?_) (fun q15661 => ?_)
  ·replace hF := hF.1 q15661
   refine .skip (.seqN ?_)
   refine .share (σ := List Entry × (List UInt8 → Int) × Option Addr × Nat × List Value × FH) (fun z => F_breadthC_J2 t28 I4 μ4 l8 m6 z.1 z.2.1 ∧ RepL z.2.2.2.2.2 z.1 z.2.2.2.2.1 ∧ FH.le h775 z.2.2.2.2.2) (fun _ => [(2, .pointer (some p4)), (3, .pointer (some pdone)), (26, vSl ak4 k.sensors ck4), (27, iV ((k.sensors.length : Nat) : Int)), (28, iV t28)]) (fun z => [Box pdone [.func (.yield l3) #[] #[]], MkA (D2 :: []), Box pkey [.func (.func 49) #[] #[]], Box pv [.slice none 0 0], Box pv2 [.bool false], Box pv3 [.bool false], Box pqueue [vSl z.2.2.1 z.1 z.2.2.2.1], Box pseen [.map (some bv)], Box p [iV x], MkA (D :: dl), LA .ready none, OwnSl 113 3 z.2.2.1 z.1.length z.2.2.2.1 z.2.2.2.2.1, OwnMap bv z.2.1]) (fun z => z.2.2.2.2.2) ?_ (fun q15707 => ?_)
   ·rintro ⟨l10, m8, al9, cl9, csl8, h781⟩ ⟨hF, q15705, q15706⟩
    show J _ _ _ _ _ [(2, .pointer (some p4)), (3, .pointer (some pdone)), (26, vSl ak4 k.sensors ck4), (27, iV ((k.sensors.length : Nat) : Int)), (28, iV t28)] [Box pdone [.func (.yield l3) #[] #[]], MkA (D2 :: []), Box pkey [.func (.func 49) #[] #[]], Box pv [.slice none 0 0], Box pv2 [.bool false], Box pv3 [.bool false], Box pqueue [vSl al9 l10 cl9], Box pseen [.map (some bv)], Box p [iV x], MkA (D :: dl), LA .ready none, OwnSl 113 3 al9 l10.length cl9 csl8, OwnMap bv m8] h781
    refine .region (.V (bi rfl rfl rfl) ?_)
    refine .V (mv rfl) ?_
    refine .nil ?_
    exact .RO (wr (t28 + 1), l10, m8, al9, cl9, csl8, h781) ⟨hF.1, q15705, (FH.le_trans (q15562) (q15706))⟩ hF.2
   refine .block (.seq (.region ?_))
   obtain ⟨q15708, hF⟩ := hF
   refine .V (ix rfl rfl tS22 (_q9.ne (by decide) (inb_pos q15708)) q15708) ?_
   refine .V (ld1 (v := iV (gt k.sensors t28)) rfl tO3 (cellH ((_q9.mono (FH.le_trans (FH.le_trans (FH.le_trans (FH.le_trans (q10540) (le742)) (le743)) (q15340)) (q15562))).elemF q15708 (by decide) 0 _ rfl))) ?_
   refine .V (asg rfl) ?_
   refine .nil (.seqN (.seq (.region (.V (ld1 (v := .slice a2 ((gt l x).node.length) c) rfl tO35 (cellH (CellsAt.mono (FH.le_trans (FH.le_trans (le743) (q15340)) (q15562)) q15075 0 _ rfl))) ?_))))
   refine .V (mv rfl) ?_
   obtain ⟨q15709, hF⟩ := hF
   obtain ⟨r10, q15710⟩ : ∃ y_ : List (List Int) × List (List Int), y_ = sp_split ((gt l x).node) (gt k.sensors t28) := ⟨_, rfl⟩
   replace hF := hF r10 q15710
   refine clR (α := Option Addr × Nat × Option Addr × Nat) (Φ := fun h1 z => RSl h1 z.1 r10.1 ∧ r10.1.length ≤ z.2.1 ∧ RSl h1 z.2.2.1 r10.2 ∧ r10.2.length ≤ z.2.2.2) (V := fun z => .tuple #[vSl z.1 r10.1 z.2.1, vSl z.2.2.1 r10.2 z.2.2.2]) Tryz.call97 rfl rfl (fun w S => (by rw [q15710]; exact c_split S.sub ((gt l x).node) a2 c (q14886.mono (FH.le_trans (FH.le_trans (FH.le_trans (le742) (le743)) (q15340)) (q15562))) q14885 (gt k.sensors t28) q15709)) rfl (fun z h782 le782 hz => ?_)
   obtain ⟨a14, c9, a15, c10⟩ := z
   obtain ⟨q15711, q15712, q15713, q15714⟩ := hz
   refine .V (mv rfl) ?_
   refine .V (ext rfl rfl) ?_
   refine .V (ext rfl rfl) ?_
   refine .V (asg rfl) ?_
   refine .V (asg rfl) ?_
   refine .nil (.seqN (.seq (.region (.V (mv rfl) ?_))))
   refine .V (ln rfl tS35.is) ?_
   refine .V (bi rfl rfl rfl) ?_
   refine .V (mv rfl) ?_
   rcases Bool.eq_false_or_eq_true (decide (0 < ((r10.1.length : Nat) : Int))) with q15715 | q15715
   ·replace hF := hF.1 q15715
    refine .GV (mv rfl) q15715 ?_
    refine .GV (ln rfl tS35.is) q15715 ?_
    refine .GV (bi rfl rfl rfl) q15715 ?_
    refine .V (pkT rfl q15715 rfl) ?_
    refine .V (mv rfl) ?_
    rcases Bool.eq_false_or_eq_true (decide (0 < ((r10.2.length : Nat) : Int))) with q15716 | q15716
    ·replace hF := hF.1 q15716
     refine .GV (ld1 rfl tO119 (cellB (off := 0) (k := 0) rfl rfl)) q15716 ?_
     refine .GV (mv rfl) q15716 ?_
     refine .gR rfl rfl rfl q15716 ?_
     refine .yld (k := 10) (vs := [iV (-1), vSl a14 r10.1 c9]) q15076 rfl rfl rfl rfl rfl (fun aG3 q15717 => ?_)
     refine .sub (s' := [(5, .pointer (some pkey)), (8, .pointer (some pv)), (9, .pointer (some pv2)), (10, .pointer (some pv3)), (11, .pointer (some pqueue)), (12, .pointer (some pseen)), (13, .pointer (some p)), (70, iV (-1)), (71, vSl a14 r10.1 c9)]) sb ?_
     refine .seq (.region (.V (asg rfl) ?_))
     refine .nil (.seqN (.region (.V (asg rfl) ?_)))
     refine .nil ?_
     refine .begin_ (k := 10) q15076 rfl ?_
     refine .cast (A' := [Box pdone [.func (.yield l3) #[] #[]], MkA (D2 :: []), Box pkey [.func (.func 49) #[] #[]], Box pv [.slice none 0 0], Box pv2 [.bool false], Box pv3 [.bool false], Box pqueue [vSl al7 l8 cl7], Box pseen [.map (some bv)], Box p [iV x], MkA (D :: dl), LA .busy none, OwnSl 113 3 al7 l8.length cl7 csl6, OwnMap bv m6]) rfl ?_
     refine .block (.seq (.region (.V (ld1 rfl tO80 (cellB (off := 0) (k := 2) rfl rfl)) ?_)))
     refine .V (mv rfl) ?_
     obtain ⟨q15718, hF⟩ := hF
     obtain ⟨r11, q15719⟩ : ∃ y_ : List UInt8, y_ = sp_key r10.1 := ⟨_, rfl⟩
     replace hF := hF r11 q15719
     refine .C (cl (v := strV r11) Tryz.call49 rfl rfl (fun w S => (by rw [q15719]; exact c_key S.sub (ht.mono (FH.le_trans (FH.le_trans (FH.le_trans (FH.le_trans (FH.le_trans (q10540) (le742)) (le743)) (q15340)) (q15562)) (le782))) r10.1 a14 c9 q15711 q15712 q15718))) ?_
     refine .V (asg rfl) ?_
     refine .nil (.seqN (.seq (.seq (.region (.V (ld1 rfl tO97 (cellB (off := 0) (k := 7) rfl rfl)) ?_)))))
     refine .V (mv rfl) ?_
     refine .V (lk tM97 rfl rfl (kk := 12) rfl) ?_
     refine .V (bi rfl rfl rfl) ?_
     refine .nil (.seqN ?_)
     refine .cond rfl (fun q15721 => ?_) (fun q15721 => ?_)
     ·replace hF := hF.1 q15721
      refine .exit (.seqX (.blkX ?_))
      refine .rdN (k := 10) q15076 rfl q15717 rfl ?_
      refine .cast (A' := [Box pdone [.func (.yield l3) #[] #[]], MkA (D2 :: []), Box pkey [.func (.func 49) #[] #[]], Box pv [.slice none 0 0], Box pv2 [.bool false], Box pv3 [.bool false], Box pqueue [vSl al7 l8 cl7], Box pseen [.map (some bv)], Box p [iV x], MkA (D :: dl), LA .ready none, OwnSl 113 3 al7 l8.length cl7 csl6, OwnMap bv m6]) rfl ?_
      refine .GV (nt rfl) q15716 ?_
      refine .GV (mv rfl) q15716 ?_
      refine .gv (ld1 rfl tO119 (cellB (off := 0) (k := 0) rfl rfl)) rfl rfl rfl rfl rfl rfl ?_
      refine .gv (mv rfl) rfl rfl rfl rfl rfl rfl ?_
      refine .gR rfl rfl rfl rfl ?_
      refine .yld (k := 10) (vs := [iV (-1), vSl a15 r10.2 c10]) q15076 rfl rfl rfl rfl rfl (fun aG4 q15722 => ?_)
      refine .sub (s' := [(5, .pointer (some pkey)), (8, .pointer (some pv)), (9, .pointer (some pv2)), (10, .pointer (some pv3)), (11, .pointer (some pqueue)), (12, .pointer (some pseen)), (13, .pointer (some p)), (70, iV (-1)), (71, vSl a15 r10.2 c10)]) sb ?_
      refine .seq (.region (.V (asg rfl) ?_))
      refine .nil (.seqN (.region (.V (asg rfl) ?_)))
      refine .nil ?_
      refine .begin_ (k := 10) q15076 rfl ?_
      refine .cast (A' := [Box pdone [.func (.yield l3) #[] #[]], MkA (D2 :: []), Box pkey [.func (.func 49) #[] #[]], Box pv [.slice none 0 0], Box pv2 [.bool false], Box pv3 [.bool false], Box pqueue [vSl al7 l8 cl7], Box pseen [.map (some bv)], Box p [iV x], MkA (D :: dl), LA .busy none, OwnSl 113 3 al7 l8.length cl7 csl6, OwnMap bv m6]) rfl ?_
      refine .block (.seq (.region (.V (ld1 rfl tO80 (cellB (off := 0) (k := 2) rfl rfl)) ?_)))
      refine .V (mv rfl) ?_
      obtain ⟨q15723, hF⟩ := hF
      obtain ⟨r12, q15724⟩ : ∃ y_ : List UInt8, y_ = sp_key r10.2 := ⟨_, rfl⟩
      replace hF := hF r12 q15724
      refine .C (cl (v := strV r12) Tryz.call49 rfl rfl (fun w S => (by rw [q15724]; exact c_key S.sub (ht.mono (FH.le_trans (FH.le_trans (FH.le_trans (FH.le_trans (FH.le_trans (q10540) (le742)) (le743)) (q15340)) (q15562)) (le782))) r10.2 a15 c10 q15713 q15714 q15723))) ?_
      refine .V (asg rfl) ?_
      refine .nil (.seqN (.seq (.seq (.region (.V (ld1 rfl tO97 (cellB (off := 0) (k := 7) rfl rfl)) ?_)))))
      refine .V (mv rfl) ?_
      refine .V (lk tM97 rfl rfl (kk := 12) rfl) ?_
      refine .V (bi rfl rfl rfl) ?_
      refine .nil (.seqN ?_)
      refine .cond rfl (fun q15726 => ?_) (fun q15726 => ?_)
      ·replace hF := hF.1 q15726
       refine .exit (.seqX (.blkX ?_))
       refine .rdN (k := 10) q15076 rfl q15722 rfl ?_
       refine .cast (A' := [Box pdone [.func (.yield l3) #[] #[]], MkA (D2 :: []), Box pkey [.func (.func 49) #[] #[]], Box pv [.slice none 0 0], Box pv2 [.bool false], Box pv3 [.bool false], Box pqueue [vSl al7 l8 cl7], Box pseen [.map (some bv)], Box p [iV x], MkA (D :: dl), LA .ready none, OwnSl 113 3 al7 l8.length cl7 csl6, OwnMap bv m6]) rfl ?_
       refine .gv (nt rfl) rfl rfl rfl rfl rfl rfl ?_
       refine .GV (pkF rfl rfl rfl) q15716 ?_
       refine .V (pkT rfl q15716 rfl) ?_
       refine .nil (.seqN ?_)
       refine .cond rfl (fun e => absurd (e.symm.trans rfl) (by decide)) (fun _ => ?_)
       refine .skip (.blkN ?_)
       exact .US q15707 (l8, m6, al7, cl7, csl6, h782) ⟨hF, (RepL.mono (le782) q15561), (le782)⟩
      replace hF := hF.2 q15726
      refine .skip (.seqN (.seq (.seq (.region (.V (ld1 rfl tO114 (cellB (off := 0) (k := 6) rfl rfl)) ?_)))))
      refine .V (ln rfl tS114.is) ?_
      refine .V (bi rfl rfl rfl) ?_
      refine .nil (.seqN ?_)
      refine .cond rfl (fun q15728 => ?_) (fun q15728 => ?_)
      ·replace hF := hF.1 q15728
       refine .seq (.region ?_)
       refine st (p := pv) (off := 0) (k := 3) (vs := [.slice none 0 0]) rfl rfl rfl (fun w => (tO22 w).2) rfl rfl rfl rfl ?_
       refine .cast (A' := [Box pdone [.func (.yield l3) #[] #[]], MkA (D2 :: []), Box pkey [.func (.func 49) #[] #[]], Box pv [.slice none 0 0], Box pv2 [.bool false], Box pv3 [.bool false], Box pqueue [vSl al7 l8 cl7], Box pseen [.map (some bv)], Box p [iV x], MkA (D :: dl), LA .busy none, OwnSl 113 3 al7 l8.length cl7 csl6, OwnMap bv m6]) rfl ?_
       refine st (p := pv2) (off := 0) (k := 4) (vs := [.bool false]) rfl rfl rfl (fun w => (tO4 w).2) rfl rfl rfl rfl ?_
       refine .cast (A' := [Box pdone [.func (.yield l3) #[] #[]], MkA (D2 :: []), Box pkey [.func (.func 49) #[] #[]], Box pv [.slice none 0 0], Box pv2 [.bool false], Box pv3 [.bool false], Box pqueue [vSl al7 l8 cl7], Box pseen [.map (some bv)], Box p [iV x], MkA (D :: dl), LA .busy none, OwnSl 113 3 al7 l8.length cl7 csl6, OwnMap bv m6]) rfl ?_
       refine st (p := pv3) (off := 0) (k := 5) (vs := [.bool false]) rfl rfl rfl (fun w => (tO4 w).2) rfl rfl rfl rfl ?_
       refine .cast (A' := [Box pdone [.func (.yield l3) #[] #[]], MkA (D2 :: []), Box pkey [.func (.func 49) #[] #[]], Box pv [.slice none 0 0], Box pv2 [.bool false], Box pv3 [.bool false], Box pqueue [vSl al7 l8 cl7], Box pseen [.map (some bv)], Box p [iV x], MkA (D :: dl), LA .busy none, OwnSl 113 3 al7 l8.length cl7 csl6, OwnMap bv m6]) rfl ?_
       refine .nil (.seqN (.ret (.seqR (.blkR ?_))))
       refine .rdR (k := 10) q15076 rfl q15722 rfl ?_
       refine .cast (A' := [Box pdone [.func (.yield l3) #[] #[]], MkA (D2 :: []), Box pkey [.func (.func 49) #[] #[]], Box pv [.slice none 0 0], Box pv2 [.bool false], Box pv3 [.bool false], Box pqueue [vSl al7 l8 cl7], Box pseen [.map (some bv)], Box p [iV x], MkA (D :: dl), LA .done (some .ret), OwnSl 113 3 al7 l8.length cl7 csl6, OwnMap bv m6]) rfl ?_
       refine .gv (nt rfl) rfl rfl rfl rfl rfl rfl ?_
       refine .GV (pkF rfl rfl rfl) q15716 ?_
       refine .V (pkT rfl q15716 rfl) ?_
       refine .nil (.seqN ?_)
       refine .cond rfl (fun _ => ?_) (fun e => absurd (e.symm.trans rfl) (by decide))
       refine .ret (.blkR (.seqR (.seqR (.blkR ?_))))
       refine .resMN (.inl rfl) (k := 1) rfl ?_
       refine .res0 (.inl rfl) rfl (range_jump (k := 10) q15076 rfl q15077 ?_)
       refine .cast (A' := [Box pdone [.func (.yield l3) #[] #[]], tru, Box pkey [.func (.func 49) #[] #[]], Box pv [.slice none 0 0], Box pv2 [.bool false], Box pv3 [.bool false], Box pqueue [vSl al7 l8 cl7], Box pseen [.map (some bv)], Box p [iV x], MkA (D :: dl), tru, OwnSl 113 3 al7 l8.length cl7 csl6, OwnMap bv m6]) rfl ?_
       refine .ret (.blkR (.blkR (.seqR (.seqR (.blkR (.seqR ?_))))))
       refine .resM (k := 9) rfl ?_
       refine .res3 rfl (rvC1 rfl tO22 (k := 3) rfl) (rvC1 rfl tO4 (k := 4) rfl) (rvC1 rfl tO4 (k := 5) rfl) (fun w' S => ⟨(([] : List Int), false, false), (none, 0), h782, hF, rfl, (FH.le_trans (FH.le_trans (FH.le_trans (FH.le_trans (FH.le_trans (q10540) (le742)) (le743)) (q15340)) (q15562)) (le782)), ⟨RSl.nil_, (Nat.le_refl 0)⟩, S.none⟩)
      replace hF := hF.2 q15728
      refine .skip (.seqN (.seq (.region (.V (ld1 rfl tO97 (cellB (off := 0) (k := 7) rfl rfl)) ?_))))
      refine .V (mv rfl) ?_
      refine mu tM97 rfl rfl rfl (kk := 12) rfl ?_
      refine .cast (A' := [Box pdone [.func (.yield l3) #[] #[]], MkA (D2 :: []), Box pkey [.func (.func 49) #[] #[]], Box pv [.slice none 0 0], Box pv2 [.bool false], Box pv3 [.bool false], Box pqueue [vSl al7 l8 cl7], Box pseen [.map (some bv)], Box p [iV x], MkA (D :: dl), LA .busy none, OwnSl 113 3 al7 l8.length cl7 csl6, OwnMap bv (upd m6 r12 1)]) rfl ?_
      refine .nil (.seqN (.region (.V (ld1 rfl tO114 (cellB (off := 0) (k := 6) rfl rfl)) ?_)))
      refine .V (mv rfl) ?_
      refine .V (ld1 rfl tO3 (cellB (off := 0) (k := 8) rfl rfl)) ?_
      refine .V (mv rfl) ?_
      refine .V (bld (cs := #[vSl a15 r10.2 c10, iV x, iV (-1)]) (pv := [(0, vSl a15 r10.2 c10), (1, iV x), (2, iV (-1))]) tB113 rfl rfl) ?_
      refine bs2 (cs := #[vSl a15 r10.2 c10, iV x, iV (-1)]) (pv := [(0, .agg #[vSl a15 r10.2 c10, iV x, iV (-1)])]) tS114 rfl rfl (by decide) (by decide) rfl rfl rfl (fun a16 _ => ?_)
      refine .cast (A' := [OwnSl 113 3 a16 (([(⟨r10.2, x, (-1)⟩ : Entry)] : List Entry).length) 1 [vSl a15 r10.2 c10, iV x, iV (-1)], Box pdone [.func (.yield l3) #[] #[]], MkA (D2 :: []), Box pkey [.func (.func 49) #[] #[]], Box pv [.slice none 0 0], Box pv2 [.bool false], Box pv3 [.bool false], Box pqueue [vSl al7 l8 cl7], Box pseen [.map (some bv)], Box p [iV x], MkA (D :: dl), LA .busy none, OwnSl 113 3 al7 l8.length cl7 csl6, OwnMap bv (upd m6 r12 1)]) rfl ?_
      obtain ⟨q15730, hF⟩ := hF
      have q15731 : l8.length + ([(⟨r10.2, x, (-1)⟩ : Entry)] : List Entry).length = ((l8 ++ ([(⟨r10.2, x, (-1)⟩ : Entry)] : List Entry))).length := len_app rfl rfl
      have q15732 := RepL.append (RepL.mono (le782) q15561) (show RepL h782 ([(⟨r10.2, x, (-1)⟩ : Entry)] : List Entry) [.slice a15 r10.2.length c10, iV x, iV (-1)] from ⟨[.slice a15 r10.2.length c10, iV x, iV (-1)], _, rfl, ⟨a15, c10, rfl, ⟨q15714, q15713⟩⟩, rfl⟩)
      refine app (k := 12) (news := [vSl a15 r10.2 c10, iV x, iV (-1)]) (cs' := (csl6 ++ [vSl a15 r10.2 c10, iV x, iV (-1)])) (nm := ((l8 ++ ([(⟨r10.2, x, (-1)⟩ : Entry)] : List Entry))).length) tS114 rfl (by decide) rfl rfl rfl (RepL.len (show RepL h782 ([(⟨r10.2, x, (-1)⟩ : Entry)] : List Entry) [vSl a15 r10.2 c10, iV x, iV (-1)] from ⟨[vSl a15 r10.2 c10, iV x, iV (-1)], _, rfl, ⟨a15, c10, rfl, ⟨q15714, q15713⟩⟩, rfl⟩)) (srcS (k := 0) rfl) (RepL.one (show RepL h782 ([(⟨r10.2, x, (-1)⟩ : Entry)] : List Entry) [vSl a15 r10.2 c10, iV x, iV (-1)] from ⟨[vSl a15 r10.2 c10, iV x, iV (-1)], _, rfl, ⟨a15, c10, rfl, ⟨q15714, q15713⟩⟩, rfl⟩)) (room_of q15731 q15730).1 (room_of q15731 q15730).2 q15731 rfl rfl (fun a17 c11 => ?_)
      refine .cast (A' := [OwnSl 113 3 a16 (([(⟨r10.2, x, (-1)⟩ : Entry)] : List Entry).length) 1 [vSl a15 r10.2 c10, iV x, iV (-1)], Box pdone [.func (.yield l3) #[] #[]], MkA (D2 :: []), Box pkey [.func (.func 49) #[] #[]], Box pv [.slice none 0 0], Box pv2 [.bool false], Box pv3 [.bool false], Box pqueue [vSl al7 l8 cl7], Box pseen [.map (some bv)], Box p [iV x], MkA (D :: dl), LA .busy none, OwnSl 113 3 a17 ((l8 ++ ([(⟨r10.2, x, (-1)⟩ : Entry)] : List Entry)).length) c11 (csl6 ++ [vSl a15 r10.2 c10, iV x, iV (-1)]), OwnMap bv (upd m6 r12 1)]) rfl ?_
      refine st (p := pqueue) (off := 0) (k := 7) (vs := [.slice a17 ((l8 ++ ([(⟨r10.2, x, (-1)⟩ : Entry)] : List Entry)).length) c11]) rfl rfl rfl (fun w => (tO114 w).2) rfl rfl rfl rfl ?_
      refine .cast (A' := [OwnSl 113 3 a16 (([(⟨r10.2, x, (-1)⟩ : Entry)] : List Entry).length) 1 [vSl a15 r10.2 c10, iV x, iV (-1)], Box pdone [.func (.yield l3) #[] #[]], MkA (D2 :: []), Box pkey [.func (.func 49) #[] #[]], Box pv [.slice none 0 0], Box pv2 [.bool false], Box pv3 [.bool false], Box pqueue [.slice a17 ((l8 ++ ([(⟨r10.2, x, (-1)⟩ : Entry)] : List Entry)).length) c11], Box pseen [.map (some bv)], Box p [iV x], MkA (D :: dl), LA .busy none, OwnSl 113 3 a17 ((l8 ++ ([(⟨r10.2, x, (-1)⟩ : Entry)] : List Entry)).length) c11 (csl6 ++ [vSl a15 r10.2 c10, iV x, iV (-1)]), OwnMap bv (upd m6 r12 1)]) rfl ?_
      refine .nil (.blkN ?_)
      refine .rdN (k := 11) q15076 rfl q15722 rfl ?_
      refine .cast (A' := [OwnSl 113 3 a16 (([(⟨r10.2, x, (-1)⟩ : Entry)] : List Entry).length) 1 [vSl a15 r10.2 c10, iV x, iV (-1)], Box pdone [.func (.yield l3) #[] #[]], MkA (D2 :: []), Box pkey [.func (.func 49) #[] #[]], Box pv [.slice none 0 0], Box pv2 [.bool false], Box pv3 [.bool false], Box pqueue [.slice a17 ((l8 ++ ([(⟨r10.2, x, (-1)⟩ : Entry)] : List Entry)).length) c11], Box pseen [.map (some bv)], Box p [iV x], MkA (D :: dl), LA .ready none, OwnSl 113 3 a17 ((l8 ++ ([(⟨r10.2, x, (-1)⟩ : Entry)] : List Entry)).length) c11 (csl6 ++ [vSl a15 r10.2 c10, iV x, iV (-1)]), OwnMap bv (upd m6 r12 1)]) rfl ?_
      refine .gv (nt rfl) rfl rfl rfl rfl rfl rfl ?_
      refine .GV (pkF rfl rfl rfl) q15716 ?_
      refine .V (pkT rfl q15716 rfl) ?_
      refine .nil (.seqN ?_)
      refine .cond rfl (fun e => absurd (e.symm.trans rfl) (by decide)) (fun _ => ?_)
      refine .skip (.blkN ?_)
      refine .sel0 [1, 2, 3, 4, 5, 6, 7, 8, 9, 10, 11, 12, 13] (by decide) rfl ?_
      exact .US q15707 ((l8 ++ ([(⟨r10.2, x, (-1)⟩ : Entry)] : List Entry)), (upd m6 r12 1), a17, c11, (csl6 ++ [vSl a15 r10.2 c10, iV x, iV (-1)]), h782) ⟨hF, q15732, (le782)⟩
     replace hF := hF.2 q15721
     refine .skip (.seqN (.seq (.seq (.region (.V (ld1 rfl tO114 (cellB (off := 0) (k := 6) rfl rfl)) ?_)))))
     refine .V (ln rfl tS114.is) ?_
     refine .V (bi rfl rfl rfl) ?_
     refine .nil (.seqN ?_)
     refine .cond rfl (fun q15734 => ?_) (fun q15734 => ?_)
     ·replace hF := hF.1 q15734
      refine .seq (.region ?_)
      refine st (p := pv) (off := 0) (k := 3) (vs := [.slice none 0 0]) rfl rfl rfl (fun w => (tO22 w).2) rfl rfl rfl rfl ?_
      refine .cast (A' := [Box pdone [.func (.yield l3) #[] #[]], MkA (D2 :: []), Box pkey [.func (.func 49) #[] #[]], Box pv [.slice none 0 0], Box pv2 [.bool false], Box pv3 [.bool false], Box pqueue [vSl al7 l8 cl7], Box pseen [.map (some bv)], Box p [iV x], MkA (D :: dl), LA .busy none, OwnSl 113 3 al7 l8.length cl7 csl6, OwnMap bv m6]) rfl ?_
      refine st (p := pv2) (off := 0) (k := 4) (vs := [.bool false]) rfl rfl rfl (fun w => (tO4 w).2) rfl rfl rfl rfl ?_
      refine .cast (A' := [Box pdone [.func (.yield l3) #[] #[]], MkA (D2 :: []), Box pkey [.func (.func 49) #[] #[]], Box pv [.slice none 0 0], Box pv2 [.bool false], Box pv3 [.bool false], Box pqueue [vSl al7 l8 cl7], Box pseen [.map (some bv)], Box p [iV x], MkA (D :: dl), LA .busy none, OwnSl 113 3 al7 l8.length cl7 csl6, OwnMap bv m6]) rfl ?_
      refine st (p := pv3) (off := 0) (k := 5) (vs := [.bool false]) rfl rfl rfl (fun w => (tO4 w).2) rfl rfl rfl rfl ?_
      refine .cast (A' := [Box pdone [.func (.yield l3) #[] #[]], MkA (D2 :: []), Box pkey [.func (.func 49) #[] #[]], Box pv [.slice none 0 0], Box pv2 [.bool false], Box pv3 [.bool false], Box pqueue [vSl al7 l8 cl7], Box pseen [.map (some bv)], Box p [iV x], MkA (D :: dl), LA .busy none, OwnSl 113 3 al7 l8.length cl7 csl6, OwnMap bv m6]) rfl ?_
      refine .nil (.seqN (.ret (.seqR (.blkR ?_))))
      refine .rdR (k := 10) q15076 rfl q15717 rfl ?_
      refine .cast (A' := [Box pdone [.func (.yield l3) #[] #[]], MkA (D2 :: []), Box pkey [.func (.func 49) #[] #[]], Box pv [.slice none 0 0], Box pv2 [.bool false], Box pv3 [.bool false], Box pqueue [vSl al7 l8 cl7], Box pseen [.map (some bv)], Box p [iV x], MkA (D :: dl), LA .done (some .ret), OwnSl 113 3 al7 l8.length cl7 csl6, OwnMap bv m6]) rfl ?_
      refine .GV (nt rfl) q15716 ?_
      refine .GV (mv rfl) q15716 ?_
      refine .gS rfl rfl rfl rfl rfl rfl ?_
      refine .gS rfl rfl rfl rfl rfl rfl ?_
      refine .gS rfl rfl rfl rfl rfl rfl ?_
      refine .gS rfl rfl rfl rfl rfl rfl ?_
      refine .GV (pkT rfl rfl rfl) q15716 ?_
      refine .V (pkT rfl q15716 rfl) ?_
      refine .nil (.seqN ?_)
      refine .cond rfl (fun _ => ?_) (fun e => absurd (e.symm.trans rfl) (by decide))
      refine .ret (.blkR (.seqR (.seqR (.blkR ?_))))
      refine .resMN (.inl rfl) (k := 1) rfl ?_
      refine .res0 (.inl rfl) rfl (range_jump (k := 10) q15076 rfl q15077 ?_)
      refine .cast (A' := [Box pdone [.func (.yield l3) #[] #[]], tru, Box pkey [.func (.func 49) #[] #[]], Box pv [.slice none 0 0], Box pv2 [.bool false], Box pv3 [.bool false], Box pqueue [vSl al7 l8 cl7], Box pseen [.map (some bv)], Box p [iV x], MkA (D :: dl), tru, OwnSl 113 3 al7 l8.length cl7 csl6, OwnMap bv m6]) rfl ?_
      refine .ret (.blkR (.blkR (.seqR (.seqR (.blkR (.seqR ?_))))))
      refine .resM (k := 9) rfl ?_
      refine .res3 rfl (rvC1 rfl tO22 (k := 3) rfl) (rvC1 rfl tO4 (k := 4) rfl) (rvC1 rfl tO4 (k := 5) rfl) (fun w' S => ⟨(([] : List Int), false, false), (none, 0), h782, hF, rfl, (FH.le_trans (FH.le_trans (FH.le_trans (FH.le_trans (FH.le_trans (q10540) (le742)) (le743)) (q15340)) (q15562)) (le782)), ⟨RSl.nil_, (Nat.le_refl 0)⟩, S.none⟩)
     replace hF := hF.2 q15734
     refine .skip (.seqN (.seq (.region (.V (ld1 rfl tO97 (cellB (off := 0) (k := 7) rfl rfl)) ?_))))
     refine .V (mv rfl) ?_
     refine mu tM97 rfl rfl rfl (kk := 12) rfl ?_
     refine .cast (A' := [Box pdone [.func (.yield l3) #[] #[]], MkA (D2 :: []), Box pkey [.func (.func 49) #[] #[]], Box pv [.slice none 0 0], Box pv2 [.bool false], Box pv3 [.bool false], Box pqueue [vSl al7 l8 cl7], Box pseen [.map (some bv)], Box p [iV x], MkA (D :: dl), LA .busy none, OwnSl 113 3 al7 l8.length cl7 csl6, OwnMap bv (upd m6 r11 1)]) rfl ?_
     refine .nil (.seqN (.region (.V (ld1 rfl tO114 (cellB (off := 0) (k := 6) rfl rfl)) ?_)))
     refine .V (mv rfl) ?_
     refine .V (ld1 rfl tO3 (cellB (off := 0) (k := 8) rfl rfl)) ?_
     refine .V (mv rfl) ?_
     refine .V (bld (cs := #[vSl a14 r10.1 c9, iV x, iV (-1)]) (pv := [(0, vSl a14 r10.1 c9), (1, iV x), (2, iV (-1))]) tB113 rfl rfl) ?_
     refine bs2 (cs := #[vSl a14 r10.1 c9, iV x, iV (-1)]) (pv := [(0, .agg #[vSl a14 r10.1 c9, iV x, iV (-1)])]) tS114 rfl rfl (by decide) (by decide) rfl rfl rfl (fun a18 _ => ?_)
     refine .cast (A' := [OwnSl 113 3 a18 (([(⟨r10.1, x, (-1)⟩ : Entry)] : List Entry).length) 1 [vSl a14 r10.1 c9, iV x, iV (-1)], Box pdone [.func (.yield l3) #[] #[]], MkA (D2 :: []), Box pkey [.func (.func 49) #[] #[]], Box pv [.slice none 0 0], Box pv2 [.bool false], Box pv3 [.bool false], Box pqueue [vSl al7 l8 cl7], Box pseen [.map (some bv)], Box p [iV x], MkA (D :: dl), LA .busy none, OwnSl 113 3 al7 l8.length cl7 csl6, OwnMap bv (upd m6 r11 1)]) rfl ?_
     obtain ⟨q15736, hF⟩ := hF
     have q15737 : l8.length + ([(⟨r10.1, x, (-1)⟩ : Entry)] : List Entry).length = ((l8 ++ ([(⟨r10.1, x, (-1)⟩ : Entry)] : List Entry))).length := len_app rfl rfl
     have q15738 := RepL.append (RepL.mono (le782) q15561) (show RepL h782 ([(⟨r10.1, x, (-1)⟩ : Entry)] : List Entry) [.slice a14 r10.1.length c9, iV x, iV (-1)] from ⟨[.slice a14 r10.1.length c9, iV x, iV (-1)], _, rfl, ⟨a14, c9, rfl, ⟨q15712, q15711⟩⟩, rfl⟩)
     refine app (k := 12) (news := [vSl a14 r10.1 c9, iV x, iV (-1)]) (cs' := (csl6 ++ [vSl a14 r10.1 c9, iV x, iV (-1)])) (nm := ((l8 ++ ([(⟨r10.1, x, (-1)⟩ : Entry)] : List Entry))).length) tS114 rfl (by decide) rfl rfl rfl (RepL.len (show RepL h782 ([(⟨r10.1, x, (-1)⟩ : Entry)] : List Entry) [vSl a14 r10.1 c9, iV x, iV (-1)] from ⟨[vSl a14 r10.1 c9, iV x, iV (-1)], _, rfl, ⟨a14, c9, rfl, ⟨q15712, q15711⟩⟩, rfl⟩)) (srcS (k := 0) rfl) (RepL.one (show RepL h782 ([(⟨r10.1, x, (-1)⟩ : Entry)] : List Entry) [vSl a14 r10.1 c9, iV x, iV (-1)] from ⟨[vSl a14 r10.1 c9, iV x, iV (-1)], _, rfl, ⟨a14, c9, rfl, ⟨q15712, q15711⟩⟩, rfl⟩)) (room_of q15737 q15736).1 (room_of q15737 q15736).2 q15737 rfl rfl (fun a19 c12 => ?_)
     refine .cast (A' := [OwnSl 113 3 a18 (([(⟨r10.1, x, (-1)⟩ : Entry)] : List Entry).length) 1 [vSl a14 r10.1 c9, iV x, iV (-1)], Box pdone [.func (.yield l3) #[] #[]], MkA (D2 :: []), Box pkey [.func (.func 49) #[] #[]], Box pv [.slice none 0 0], Box pv2 [.bool false], Box pv3 [.bool false], Box pqueue [vSl al7 l8 cl7], Box pseen [.map (some bv)], Box p [iV x], MkA (D :: dl), LA .busy none, OwnSl 113 3 a19 ((l8 ++ ([(⟨r10.1, x, (-1)⟩ : Entry)] : List Entry)).length) c12 (csl6 ++ [vSl a14 r10.1 c9, iV x, iV (-1)]), OwnMap bv (upd m6 r11 1)]) rfl ?_
     refine st (p := pqueue) (off := 0) (k := 7) (vs := [.slice a19 ((l8 ++ ([(⟨r10.1, x, (-1)⟩ : Entry)] : List Entry)).length) c12]) rfl rfl rfl (fun w => (tO114 w).2) rfl rfl rfl rfl ?_
     refine .cast (A' := [OwnSl 113 3 a18 (([(⟨r10.1, x, (-1)⟩ : Entry)] : List Entry).length) 1 [vSl a14 r10.1 c9, iV x, iV (-1)], Box pdone [.func (.yield l3) #[] #[]], MkA (D2 :: []), Box pkey [.func (.func 49) #[] #[]], Box pv [.slice none 0 0], Box pv2 [.bool false], Box pv3 [.bool false], Box pqueue [.slice a19 ((l8 ++ ([(⟨r10.1, x, (-1)⟩ : Entry)] : List Entry)).length) c12], Box pseen [.map (some bv)], Box p [iV x], MkA (D :: dl), LA .busy none, OwnSl 113 3 a19 ((l8 ++ ([(⟨r10.1, x, (-1)⟩ : Entry)] : List Entry)).length) c12 (csl6 ++ [vSl a14 r10.1 c9, iV x, iV (-1)]), OwnMap bv (upd m6 r11 1)]) rfl ?_
     refine .nil (.blkN ?_)
     refine .rdN (k := 11) q15076 rfl q15717 rfl ?_
     refine .cast (A' := [OwnSl 113 3 a18 (([(⟨r10.1, x, (-1)⟩ : Entry)] : List Entry).length) 1 [vSl a14 r10.1 c9, iV x, iV (-1)], Box pdone [.func (.yield l3) #[] #[]], MkA (D2 :: []), Box pkey [.func (.func 49) #[] #[]], Box pv [.slice none 0 0], Box pv2 [.bool false], Box pv3 [.bool false], Box pqueue [.slice a19 ((l8 ++ ([(⟨r10.1, x, (-1)⟩ : Entry)] : List Entry)).length) c12], Box pseen [.map (some bv)], Box p [iV x], MkA (D :: dl), LA .ready none, OwnSl 113 3 a19 ((l8 ++ ([(⟨r10.1, x, (-1)⟩ : Entry)] : List Entry)).length) c12 (csl6 ++ [vSl a14 r10.1 c9, iV x, iV (-1)]), OwnMap bv (upd m6 r11 1)]) rfl ?_
     refine .GV (nt rfl) q15716 ?_
     refine .GV (mv rfl) q15716 ?_
     refine .gv (ld1 rfl tO119 (cellB (off := 0) (k := 1) rfl rfl)) rfl rfl rfl rfl rfl rfl ?_
     refine .gv (mv rfl) rfl rfl rfl rfl rfl rfl ?_
     refine .gR rfl rfl rfl rfl ?_
     refine .yld (k := 11) (vs := [iV (-1), vSl a15 r10.2 c10]) q15076 rfl rfl rfl rfl rfl (fun aG5 q15739 => ?_)
     refine .sub (s' := [(5, .pointer (some pkey)), (8, .pointer (some pv)), (9, .pointer (some pv2)), (10, .pointer (some pv3)), (11, .pointer (some pqueue)), (12, .pointer (some pseen)), (13, .pointer (some p)), (70, iV (-1)), (71, vSl a15 r10.2 c10)]) sb ?_
     refine .seq (.region (.V (asg rfl) ?_))
     refine .nil (.seqN (.region (.V (asg rfl) ?_)))
     refine .nil ?_
     refine .begin_ (k := 11) q15076 rfl ?_
     refine .cast (A' := [OwnSl 113 3 a18 (([(⟨r10.1, x, (-1)⟩ : Entry)] : List Entry).length) 1 [vSl a14 r10.1 c9, iV x, iV (-1)], Box pdone [.func (.yield l3) #[] #[]], MkA (D2 :: []), Box pkey [.func (.func 49) #[] #[]], Box pv [.slice none 0 0], Box pv2 [.bool false], Box pv3 [.bool false], Box pqueue [.slice a19 ((l8 ++ ([(⟨r10.1, x, (-1)⟩ : Entry)] : List Entry)).length) c12], Box pseen [.map (some bv)], Box p [iV x], MkA (D :: dl), LA .busy none, OwnSl 113 3 a19 ((l8 ++ ([(⟨r10.1, x, (-1)⟩ : Entry)] : List Entry)).length) c12 (csl6 ++ [vSl a14 r10.1 c9, iV x, iV (-1)]), OwnMap bv (upd m6 r11 1)]) rfl ?_
     refine .block (.seq (.region (.V (ld1 rfl tO80 (cellB (off := 0) (k := 3) rfl rfl)) ?_)))
     refine .V (mv rfl) ?_
     obtain ⟨q15740, hF⟩ := hF
     obtain ⟨r13, q15741⟩ : ∃ y_ : List UInt8, y_ = sp_key r10.2 := ⟨_, rfl⟩
     replace hF := hF r13 q15741
     refine .C (cl (v := strV r13) Tryz.call49 rfl rfl (fun w S => (by rw [q15741]; exact c_key S.sub (ht.mono (FH.le_trans (FH.le_trans (FH.le_trans (FH.le_trans (FH.le_trans (q10540) (le742)) (le743)) (q15340)) (q15562)) (le782))) r10.2 a15 c10 q15713 q15714 q15740))) ?_
     refine .V (asg rfl) ?_
     refine .nil (.seqN (.seq (.seq (.region (.V (ld1 rfl tO97 (cellB (off := 0) (k := 8) rfl rfl)) ?_)))))
     refine .V (mv rfl) ?_
     refine .V (lk tM97 rfl rfl (kk := 13) rfl) ?_
     refine .V (bi rfl rfl rfl) ?_
     refine .nil (.seqN ?_)
     refine .cond rfl (fun q15743 => ?_) (fun q15743 => ?_)
     ·replace hF := hF.1 q15743
      refine .exit (.seqX (.blkX ?_))
      refine .rdN (k := 11) q15076 rfl q15739 rfl ?_
      refine .cast (A' := [OwnSl 113 3 a18 (([(⟨r10.1, x, (-1)⟩ : Entry)] : List Entry).length) 1 [vSl a14 r10.1 c9, iV x, iV (-1)], Box pdone [.func (.yield l3) #[] #[]], MkA (D2 :: []), Box pkey [.func (.func 49) #[] #[]], Box pv [.slice none 0 0], Box pv2 [.bool false], Box pv3 [.bool false], Box pqueue [.slice a19 ((l8 ++ ([(⟨r10.1, x, (-1)⟩ : Entry)] : List Entry)).length) c12], Box pseen [.map (some bv)], Box p [iV x], MkA (D :: dl), LA .ready none, OwnSl 113 3 a19 ((l8 ++ ([(⟨r10.1, x, (-1)⟩ : Entry)] : List Entry)).length) c12 (csl6 ++ [vSl a14 r10.1 c9, iV x, iV (-1)]), OwnMap bv (upd m6 r11 1)]) rfl ?_
      refine .gv (nt rfl) rfl rfl rfl rfl rfl rfl ?_
      refine .GV (pkF rfl rfl rfl) q15716 ?_
      refine .V (pkT rfl q15716 rfl) ?_
      refine .nil (.seqN ?_)
      refine .cond rfl (fun e => absurd (e.symm.trans rfl) (by decide)) (fun _ => ?_)
      refine .skip (.blkN ?_)
      refine .sel0 [1, 2, 3, 4, 5, 6, 7, 8, 9, 10, 11, 12, 13] (by decide) rfl ?_
      exact .US q15707 ((l8 ++ ([(⟨r10.1, x, (-1)⟩ : Entry)] : List Entry)), (upd m6 r11 1), a19, c12, (csl6 ++ [vSl a14 r10.1 c9, iV x, iV (-1)]), h782) ⟨hF, q15738, (le782)⟩
     replace hF := hF.2 q15743
     refine .skip (.seqN (.seq (.seq (.region (.V (ld1 rfl tO114 (cellB (off := 0) (k := 7) rfl rfl)) ?_)))))
     obtain ⟨x3, q15744⟩ : ∃ y_ : Int, y_ = (((l8 ++ ([(⟨r10.1, x, (-1)⟩ : Entry)] : List Entry)).length : Nat) : Int) := ⟨_, rfl⟩
     replace hF := hF x3 q15744
     refine .v (v := iV x3) (by rw [q15744]; exact ln rfl tS114.is) rfl rfl rfl ?_
     refine .V (bi rfl rfl rfl) ?_
     refine .nil (.seqN ?_)
     refine .cond rfl (fun q15746 => ?_) (fun q15746 => ?_)
     ·replace hF := hF.1 q15746
      refine .seq (.region ?_)
      refine st (p := pv) (off := 0) (k := 4) (vs := [.slice none 0 0]) rfl rfl rfl (fun w => (tO22 w).2) rfl rfl rfl rfl ?_
      refine .cast (A' := [OwnSl 113 3 a18 (([(⟨r10.1, x, (-1)⟩ : Entry)] : List Entry).length) 1 [vSl a14 r10.1 c9, iV x, iV (-1)], Box pdone [.func (.yield l3) #[] #[]], MkA (D2 :: []), Box pkey [.func (.func 49) #[] #[]], Box pv [.slice none 0 0], Box pv2 [.bool false], Box pv3 [.bool false], Box pqueue [.slice a19 ((l8 ++ ([(⟨r10.1, x, (-1)⟩ : Entry)] : List Entry)).length) c12], Box pseen [.map (some bv)], Box p [iV x], MkA (D :: dl), LA .busy none, OwnSl 113 3 a19 ((l8 ++ ([(⟨r10.1, x, (-1)⟩ : Entry)] : List Entry)).length) c12 (csl6 ++ [vSl a14 r10.1 c9, iV x, iV (-1)]), OwnMap bv (upd m6 r11 1)]) rfl ?_
      refine st (p := pv2) (off := 0) (k := 5) (vs := [.bool false]) rfl rfl rfl (fun w => (tO4 w).2) rfl rfl rfl rfl ?_
      refine .cast (A' := [OwnSl 113 3 a18 (([(⟨r10.1, x, (-1)⟩ : Entry)] : List Entry).length) 1 [vSl a14 r10.1 c9, iV x, iV (-1)], Box pdone [.func (.yield l3) #[] #[]], MkA (D2 :: []), Box pkey [.func (.func 49) #[] #[]], Box pv [.slice none 0 0], Box pv2 [.bool false], Box pv3 [.bool false], Box pqueue [.slice a19 ((l8 ++ ([(⟨r10.1, x, (-1)⟩ : Entry)] : List Entry)).length) c12], Box pseen [.map (some bv)], Box p [iV x], MkA (D :: dl), LA .busy none, OwnSl 113 3 a19 ((l8 ++ ([(⟨r10.1, x, (-1)⟩ : Entry)] : List Entry)).length) c12 (csl6 ++ [vSl a14 r10.1 c9, iV x, iV (-1)]), OwnMap bv (upd m6 r11 1)]) rfl ?_
      refine st (p := pv3) (off := 0) (k := 6) (vs := [.bool false]) rfl rfl rfl (fun w => (tO4 w).2) rfl rfl rfl rfl ?_
      refine .cast (A' := [OwnSl 113 3 a18 (([(⟨r10.1, x, (-1)⟩ : Entry)] : List Entry).length) 1 [vSl a14 r10.1 c9, iV x, iV (-1)], Box pdone [.func (.yield l3) #[] #[]], MkA (D2 :: []), Box pkey [.func (.func 49) #[] #[]], Box pv [.slice none 0 0], Box pv2 [.bool false], Box pv3 [.bool false], Box pqueue [.slice a19 ((l8 ++ ([(⟨r10.1, x, (-1)⟩ : Entry)] : List Entry)).length) c12], Box pseen [.map (some bv)], Box p [iV x], MkA (D :: dl), LA .busy none, OwnSl 113 3 a19 ((l8 ++ ([(⟨r10.1, x, (-1)⟩ : Entry)] : List Entry)).length) c12 (csl6 ++ [vSl a14 r10.1 c9, iV x, iV (-1)]), OwnMap bv (upd m6 r11 1)]) rfl ?_
      refine .nil (.seqN (.ret (.seqR (.blkR ?_))))
      refine .rdR (k := 11) q15076 rfl q15739 rfl ?_
      refine .cast (A' := [OwnSl 113 3 a18 (([(⟨r10.1, x, (-1)⟩ : Entry)] : List Entry).length) 1 [vSl a14 r10.1 c9, iV x, iV (-1)], Box pdone [.func (.yield l3) #[] #[]], MkA (D2 :: []), Box pkey [.func (.func 49) #[] #[]], Box pv [.slice none 0 0], Box pv2 [.bool false], Box pv3 [.bool false], Box pqueue [.slice a19 ((l8 ++ ([(⟨r10.1, x, (-1)⟩ : Entry)] : List Entry)).length) c12], Box pseen [.map (some bv)], Box p [iV x], MkA (D :: dl), LA .done (some .ret), OwnSl 113 3 a19 ((l8 ++ ([(⟨r10.1, x, (-1)⟩ : Entry)] : List Entry)).length) c12 (csl6 ++ [vSl a14 r10.1 c9, iV x, iV (-1)]), OwnMap bv (upd m6 r11 1)]) rfl ?_
      refine .gv (nt rfl) rfl rfl rfl rfl rfl rfl ?_
      refine .GV (pkF rfl rfl rfl) q15716 ?_
      refine .V (pkT rfl q15716 rfl) ?_
      refine .nil (.seqN ?_)
      refine .cond rfl (fun _ => ?_) (fun e => absurd (e.symm.trans rfl) (by decide))
      refine .ret (.blkR (.seqR (.seqR (.blkR ?_))))
      refine .resMN (.inl rfl) (k := 2) rfl ?_
      refine .res0 (.inl rfl) rfl (range_jump (k := 11) q15076 rfl q15077 ?_)
      refine .cast (A' := [OwnSl 113 3 a18 (([(⟨r10.1, x, (-1)⟩ : Entry)] : List Entry).length) 1 [vSl a14 r10.1 c9, iV x, iV (-1)], Box pdone [.func (.yield l3) #[] #[]], tru, Box pkey [.func (.func 49) #[] #[]], Box pv [.slice none 0 0], Box pv2 [.bool false], Box pv3 [.bool false], Box pqueue [.slice a19 ((l8 ++ ([(⟨r10.1, x, (-1)⟩ : Entry)] : List Entry)).length) c12], Box pseen [.map (some bv)], Box p [iV x], MkA (D :: dl), tru, OwnSl 113 3 a19 ((l8 ++ ([(⟨r10.1, x, (-1)⟩ : Entry)] : List Entry)).length) c12 (csl6 ++ [vSl a14 r10.1 c9, iV x, iV (-1)]), OwnMap bv (upd m6 r11 1)]) rfl ?_
      refine .ret (.blkR (.blkR (.seqR (.seqR (.blkR (.seqR ?_))))))
      refine .resM (k := 10) rfl ?_
      refine .res3 rfl (rvC1 rfl tO22 (k := 4) rfl) (rvC1 rfl tO4 (k := 5) rfl) (rvC1 rfl tO4 (k := 6) rfl) (fun w' S => ⟨(([] : List Int), false, false), (none, 0), h782, hF, rfl, (FH.le_trans (FH.le_trans (FH.le_trans (FH.le_trans (FH.le_trans (q10540) (le742)) (le743)) (q15340)) (q15562)) (le782)), ⟨RSl.nil_, (Nat.le_refl 0)⟩, S.none⟩)
     replace hF := hF.2 q15746
     refine .skip (.seqN (.seq (.region (.V (ld1 rfl tO97 (cellB (off := 0) (k := 8) rfl rfl)) ?_))))
     refine .V (mv rfl) ?_
     refine mu tM97 rfl rfl rfl (kk := 13) rfl ?_
     refine .cast (A' := [OwnSl 113 3 a18 (([(⟨r10.1, x, (-1)⟩ : Entry)] : List Entry).length) 1 [vSl a14 r10.1 c9, iV x, iV (-1)], Box pdone [.func (.yield l3) #[] #[]], MkA (D2 :: []), Box pkey [.func (.func 49) #[] #[]], Box pv [.slice none 0 0], Box pv2 [.bool false], Box pv3 [.bool false], Box pqueue [.slice a19 ((l8 ++ ([(⟨r10.1, x, (-1)⟩ : Entry)] : List Entry)).length) c12], Box pseen [.map (some bv)], Box p [iV x], MkA (D :: dl), LA .busy none, OwnSl 113 3 a19 ((l8 ++ ([(⟨r10.1, x, (-1)⟩ : Entry)] : List Entry)).length) c12 (csl6 ++ [vSl a14 r10.1 c9, iV x, iV (-1)]), OwnMap bv (upd (upd m6 r11 1) r13 1)]) rfl ?_
     refine .nil (.seqN (.region (.V (ld1 rfl tO114 (cellB (off := 0) (k := 7) rfl rfl)) ?_)))
     refine .V (mv rfl) ?_
     refine .V (ld1 rfl tO3 (cellB (off := 0) (k := 9) rfl rfl)) ?_
     refine .V (mv rfl) ?_
     refine .V (bld (cs := #[vSl a15 r10.2 c10, iV x, iV (-1)]) (pv := [(0, vSl a15 r10.2 c10), (1, iV x), (2, iV (-1))]) tB113 rfl rfl) ?_
     refine bs2 (cs := #[vSl a15 r10.2 c10, iV x, iV (-1)]) (pv := [(0, .agg #[vSl a15 r10.2 c10, iV x, iV (-1)])]) tS114 rfl rfl (by decide) (by decide) rfl rfl rfl (fun a20 _ => ?_)
     refine .cast (A' := [OwnSl 113 3 a20 (([(⟨r10.2, x, (-1)⟩ : Entry)] : List Entry).length) 1 [vSl a15 r10.2 c10, iV x, iV (-1)], OwnSl 113 3 a18 (([(⟨r10.1, x, (-1)⟩ : Entry)] : List Entry).length) 1 [vSl a14 r10.1 c9, iV x, iV (-1)], Box pdone [.func (.yield l3) #[] #[]], MkA (D2 :: []), Box pkey [.func (.func 49) #[] #[]], Box pv [.slice none 0 0], Box pv2 [.bool false], Box pv3 [.bool false], Box pqueue [.slice a19 ((l8 ++ ([(⟨r10.1, x, (-1)⟩ : Entry)] : List Entry)).length) c12], Box pseen [.map (some bv)], Box p [iV x], MkA (D :: dl), LA .busy none, OwnSl 113 3 a19 ((l8 ++ ([(⟨r10.1, x, (-1)⟩ : Entry)] : List Entry)).length) c12 (csl6 ++ [vSl a14 r10.1 c9, iV x, iV (-1)]), OwnMap bv (upd (upd m6 r11 1) r13 1)]) rfl ?_
     obtain ⟨q15748, hF⟩ := hF
     have q15749 : (l8 ++ ([(⟨r10.1, x, (-1)⟩ : Entry)] : List Entry)).length + ([(⟨r10.2, x, (-1)⟩ : Entry)] : List Entry).length = (((l8 ++ ([(⟨r10.1, x, (-1)⟩ : Entry)] : List Entry)) ++ ([(⟨r10.2, x, (-1)⟩ : Entry)] : List Entry))).length := len_app rfl rfl
     have q15750 := RepL.append q15738 (show RepL h782 ([(⟨r10.2, x, (-1)⟩ : Entry)] : List Entry) [.slice a15 r10.2.length c10, iV x, iV (-1)] from ⟨[.slice a15 r10.2.length c10, iV x, iV (-1)], _, rfl, ⟨a15, c10, rfl, ⟨q15714, q15713⟩⟩, rfl⟩)
     refine app (k := 13) (news := [vSl a15 r10.2 c10, iV x, iV (-1)]) (cs' := ((csl6 ++ [vSl a14 r10.1 c9, iV x, iV (-1)]) ++ [vSl a15 r10.2 c10, iV x, iV (-1)])) (nm := (((l8 ++ ([(⟨r10.1, x, (-1)⟩ : Entry)] : List Entry)) ++ ([(⟨r10.2, x, (-1)⟩ : Entry)] : List Entry))).length) tS114 rfl (by decide) rfl rfl rfl (RepL.len (show RepL h782 ([(⟨r10.2, x, (-1)⟩ : Entry)] : List Entry) [vSl a15 r10.2 c10, iV x, iV (-1)] from ⟨[vSl a15 r10.2 c10, iV x, iV (-1)], _, rfl, ⟨a15, c10, rfl, ⟨q15714, q15713⟩⟩, rfl⟩)) (srcS (k := 0) rfl) (RepL.one (show RepL h782 ([(⟨r10.2, x, (-1)⟩ : Entry)] : List Entry) [vSl a15 r10.2 c10, iV x, iV (-1)] from ⟨[vSl a15 r10.2 c10, iV x, iV (-1)], _, rfl, ⟨a15, c10, rfl, ⟨q15714, q15713⟩⟩, rfl⟩)) (room_of q15749 q15748).1 (room_of q15749 q15748).2 q15749 rfl rfl (fun a21 c13 => ?_)
     refine .cast (A' := [OwnSl 113 3 a20 (([(⟨r10.2, x, (-1)⟩ : Entry)] : List Entry).length) 1 [vSl a15 r10.2 c10, iV x, iV (-1)], OwnSl 113 3 a18 (([(⟨r10.1, x, (-1)⟩ : Entry)] : List Entry).length) 1 [vSl a14 r10.1 c9, iV x, iV (-1)], Box pdone [.func (.yield l3) #[] #[]], MkA (D2 :: []), Box pkey [.func (.func 49) #[] #[]], Box pv [.slice none 0 0], Box pv2 [.bool false], Box pv3 [.bool false], Box pqueue [.slice a19 ((l8 ++ ([(⟨r10.1, x, (-1)⟩ : Entry)] : List Entry)).length) c12], Box pseen [.map (some bv)], Box p [iV x], MkA (D :: dl), LA .busy none, OwnSl 113 3 a21 (((l8 ++ ([(⟨r10.1, x, (-1)⟩ : Entry)] : List Entry)) ++ ([(⟨r10.2, x, (-1)⟩ : Entry)] : List Entry)).length) c13 ((csl6 ++ [vSl a14 r10.1 c9, iV x, iV (-1)]) ++ [vSl a15 r10.2 c10, iV x, iV (-1)]), OwnMap bv (upd (upd m6 r11 1) r13 1)]) rfl ?_
     refine st (p := pqueue) (off := 0) (k := 8) (vs := [.slice a21 (((l8 ++ ([(⟨r10.1, x, (-1)⟩ : Entry)] : List Entry)) ++ ([(⟨r10.2, x, (-1)⟩ : Entry)] : List Entry)).length) c13]) rfl rfl rfl (fun w => (tO114 w).2) rfl rfl rfl rfl ?_
     refine .cast (A' := [OwnSl 113 3 a20 (([(⟨r10.2, x, (-1)⟩ : Entry)] : List Entry).length) 1 [vSl a15 r10.2 c10, iV x, iV (-1)], OwnSl 113 3 a18 (([(⟨r10.1, x, (-1)⟩ : Entry)] : List Entry).length) 1 [vSl a14 r10.1 c9, iV x, iV (-1)], Box pdone [.func (.yield l3) #[] #[]], MkA (D2 :: []), Box pkey [.func (.func 49) #[] #[]], Box pv [.slice none 0 0], Box pv2 [.bool false], Box pv3 [.bool false], Box pqueue [.slice a21 (((l8 ++ ([(⟨r10.1, x, (-1)⟩ : Entry)] : List Entry)) ++ ([(⟨r10.2, x, (-1)⟩ : Entry)] : List Entry)).length) c13], Box pseen [.map (some bv)], Box p [iV x], MkA (D :: dl), LA .busy none, OwnSl 113 3 a21 (((l8 ++ ([(⟨r10.1, x, (-1)⟩ : Entry)] : List Entry)) ++ ([(⟨r10.2, x, (-1)⟩ : Entry)] : List Entry)).length) c13 ((csl6 ++ [vSl a14 r10.1 c9, iV x, iV (-1)]) ++ [vSl a15 r10.2 c10, iV x, iV (-1)]), OwnMap bv (upd (upd m6 r11 1) r13 1)]) rfl ?_
     refine .nil (.blkN ?_)
     refine .rdN (k := 12) q15076 rfl q15739 rfl ?_
     refine .cast (A' := [OwnSl 113 3 a20 (([(⟨r10.2, x, (-1)⟩ : Entry)] : List Entry).length) 1 [vSl a15 r10.2 c10, iV x, iV (-1)], OwnSl 113 3 a18 (([(⟨r10.1, x, (-1)⟩ : Entry)] : List Entry).length) 1 [vSl a14 r10.1 c9, iV x, iV (-1)], Box pdone [.func (.yield l3) #[] #[]], MkA (D2 :: []), Box pkey [.func (.func 49) #[] #[]], Box pv [.slice none 0 0], Box pv2 [.bool false], Box pv3 [.bool false], Box pqueue [.slice a21 (((l8 ++ ([(⟨r10.1, x, (-1)⟩ : Entry)] : List Entry)) ++ ([(⟨r10.2, x, (-1)⟩ : Entry)] : List Entry)).length) c13], Box pseen [.map (some bv)], Box p [iV x], MkA (D :: dl), LA .ready none, OwnSl 113 3 a21 (((l8 ++ ([(⟨r10.1, x, (-1)⟩ : Entry)] : List Entry)) ++ ([(⟨r10.2, x, (-1)⟩ : Entry)] : List Entry)).length) c13 ((csl6 ++ [vSl a14 r10.1 c9, iV x, iV (-1)]) ++ [vSl a15 r10.2 c10, iV x, iV (-1)]), OwnMap bv (upd (upd m6 r11 1) r13 1)]) rfl ?_
     refine .gv (nt rfl) rfl rfl rfl rfl rfl rfl ?_
     refine .GV (pkF rfl rfl rfl) q15716 ?_
     refine .V (pkT rfl q15716 rfl) ?_
     refine .nil (.seqN ?_)
     refine .cond rfl (fun e => absurd (e.symm.trans rfl) (by decide)) (fun _ => ?_)
     refine .skip (.blkN ?_)
     refine .sel0 [2, 3, 4, 5, 6, 7, 8, 9, 10, 11, 12, 13, 14] (by decide) rfl ?_
     exact .US q15707 (((l8 ++ ([(⟨r10.1, x, (-1)⟩ : Entry)] : List Entry)) ++ ([(⟨r10.2, x, (-1)⟩ : Entry)] : List Entry)), (upd (upd m6 r11 1) r13 1), a21, c13, ((csl6 ++ [vSl a14 r10.1 c9, iV x, iV (-1)]) ++ [vSl a15 r10.2 c10, iV x, iV (-1)]), h782) ⟨hF, q15750, (le782)⟩
    replace hF := hF.2 q15716
    refine .GS q15716 ?_
    refine .GS q15716 ?_
    refine .GS q15716 ?_
    refine .GS q15716 ?_
    refine .GS q15716 ?_
    refine .GU ?_
    refine .GU ?_
    refine .GU ?_
    refine .GU ?_
    refine .GS q15716 ?_
    refine .V (pkF rfl q15716 rfl) ?_
    refine .nil (.seqN ?_)
    refine .cond rfl (fun e => absurd (e.symm.trans rfl) (by decide)) (fun _ => ?_)
    refine .skip (.blkN ?_)
    exact .US q15707 (l8, m6, al7, cl7, csl6, h782) ⟨hF, (RepL.mono (le782) q15561), (le782)⟩
   replace hF := hF.2 q15715
   refine .GS q15715 ?_
   refine .GS q15715 ?_
   refine .GS q15715 ?_
   refine .V (pkF rfl q15715 rfl) ?_
   refine .V (mv rfl) ?_
   refine .gS rfl rfl rfl rfl rfl rfl ?_
   refine .gS rfl rfl rfl rfl rfl rfl ?_
   refine .gS rfl rfl rfl rfl rfl rfl ?_
   refine .gS rfl rfl rfl rfl rfl rfl ?_
   refine .gS rfl rfl rfl rfl rfl rfl ?_
   refine .GU ?_
   refine .GU ?_
   refine .GU ?_
   refine .GU ?_
   refine .gS rfl rfl rfl rfl rfl rfl ?_
   refine .V (pkF rfl rfl rfl) ?_
   refine .nil (.seqN ?_)
   refine .cond rfl (fun e => absurd (e.symm.trans rfl) (by decide)) (fun _ => ?_)
   refine .skip (.blkN ?_)
   exact .US q15707 (l8, m6, al7, cl7, csl6, h782) ⟨hF, (RepL.mono (le782) q15561), (le782)⟩
  replace hF := hF.2 q15661
  refine .exit (.seqX (.seqX (.blkX ?_)))
  refine .resMN (.inr rfl) (k := 1) rfl ?_
  refine .res0 (.inl rfl) rfl (range_done (k := 10) q15076 rfl q15077 ?_)
  refine .cast (A' := [Box pdone [.func (.yield l3) #[] #[]], tru, Box pkey [.func (.func 49) #[] #[]], Box pv [.slice none 0 0], Box pv2 [.bool false], Box pv3 [.bool false], Box pqueue [vSl al7 l8 cl7], Box pseen [.map (some bv)], Box p [iV x], MkA (D :: dl), tru, OwnSl 113 3 al7 l8.length cl7 csl6, OwnMap bv m6]) rfl ?_
  refine .blkN (.blkN (.seqN (.seq (.seq (.region (.V (ld1 rfl tO3 (cellB (off := 0) (k := 8) rfl rfl)) ?_))))))
  refine .nil (.seqN (.region ?_))
  refine al tZ3 rfl (fun pat2 => ?_)
  refine st (p := pat2) (off := 0) (k := 0) (vs := [iV x]) rfl rfl rfl (fun w => (tO3 w).2) rfl rfl rfl rfl ?_
  refine .cast (A' := [Box pat2 [iV x], Box pdone [.func (.yield l3) #[] #[]], tru, Box pkey [.func (.func 49) #[] #[]], Box pv [.slice none 0 0], Box pv2 [.bool false], Box pv3 [.bool false], Box pqueue [vSl al7 l8 cl7], Box pseen [.map (some bv)], Box p [iV x], MkA (D :: dl), tru, OwnSl 113 3 al7 l8.length cl7 csl6, OwnMap bv m6]) rfl ?_
  refine .nil (.seqN (.region (.V (ld1 rfl tO3 (cellB (off := 0) (k := 0) rfl rfl)) ?_)))
  refine .V (bi rfl rfl rfl) ?_
  refine st (p := pat2) (off := 0) (k := 0) (vs := [iV (wr (x + 1))]) rfl rfl rfl (fun w => (tO3 w).2) rfl rfl rfl rfl ?_
  refine .cast (A' := [Box pat2 [iV (wr (x + 1))], Box pdone [.func (.yield l3) #[] #[]], tru, Box pkey [.func (.func 49) #[] #[]], Box pv [.slice none 0 0], Box pv2 [.bool false], Box pv3 [.bool false], Box pqueue [vSl al7 l8 cl7], Box pseen [.map (some bv)], Box p [iV x], MkA (D :: dl), tru, OwnSl 113 3 al7 l8.length cl7 csl6, OwnMap bv m6]) rfl ?_
  refine .nil ?_
  refine .sel0 [3, 4, 5, 6, 7, 8, 0, 10, 12, 13] (by decide) rfl ?_
  exact .roundN (wr (x + 1), l8, m6, pat2, D :: dl, al7, cl7, csl6, h775) ⟨hF.1, q15561, (FH.le_trans (FH.le_trans (FH.le_trans (FH.le_trans (q10540) (le742)) (le743)) (q15340)) (q15562))⟩ hF.2 rfl sb rfl (FH.le_refl _)
 replace hF := hF.2 q13149
 refine .exit (.seqX (.seqX (.blkX (.seqN (.seq (.region ?_))))))
 refine st (p := pv) (off := 0) (k := 1) (vs := [.slice none 0 0]) rfl rfl rfl (fun w => (tO22 w).2) rfl rfl rfl rfl ?_
 refine .cast (A' := [Box pkey [.func (.func 49) #[] #[]], Box pv [.slice none 0 0], Box pv2 [.bool false], Box pv3 [.bool false], Box pqueue [vSl al2 l cl2], Box pseen [.map (some bv)], Box p [iV x], MkA dl, OwnSl 113 3 al2 l.length cl2 csl, OwnMap bv m]) rfl ?_
 refine st (p := pv2) (off := 0) (k := 2) (vs := [.bool false]) rfl rfl rfl (fun w => (tO4 w).2) rfl rfl rfl rfl ?_
 refine .cast (A' := [Box pkey [.func (.func 49) #[] #[]], Box pv [.slice none 0 0], Box pv2 [.bool false], Box pv3 [.bool false], Box pqueue [vSl al2 l cl2], Box pseen [.map (some bv)], Box p [iV x], MkA dl, OwnSl 113 3 al2 l.length cl2 csl, OwnMap bv m]) rfl ?_
 refine st (p := pv3) (off := 0) (k := 3) (vs := [.bool true]) rfl rfl rfl (fun w => (tO4 w).2) rfl rfl rfl rfl ?_
 refine .cast (A' := [Box pkey [.func (.func 49) #[] #[]], Box pv [.slice none 0 0], Box pv2 [.bool false], Box pv3 [.bool true], Box pqueue [vSl al2 l cl2], Box pseen [.map (some bv)], Box p [iV x], MkA dl, OwnSl 113 3 al2 l.length cl2 csl, OwnMap bv m]) rfl ?_
 refine .nil (.seqN (.ret ?_))
 refine .resM (k := 7) rfl ?_
 refine .res3 rfl (rvC1 rfl tO22 (k := 1) rfl) (rvC1 rfl tO4 (k := 2) rfl) (rvC1 rfl tO4 (k := 3) rfl) (fun w' S => ⟨(([] : List Int), false, true), (none, 0), h523, hF, rfl, (q10540), ⟨RSl.nil_, (Nat.le_refl 0)⟩, S.none⟩)
theorem c_breadthC {h : FH} {w : World} (hs : Sub h w) (ht : TabH Tryz.prog h) (start2 : List (List Int)) (astart2 : Option Addr) (cstart2 : Nat) (_q1 : RSl h astart2 start2) (_q2 : start2.length ≤ cstart2) (k : Srch) (ak : Option Addr) (ck : Nat) (_q3 : RSl h ak k.t.init) (_q4 : k.t.init.length ≤ ck) (ak2 : Option Addr) (ck2 : Nat) (_q5 : RSl h ak2 k.t.goal) (_q6 : k.t.goal.length ≤ ck2) (ak3 : Option Addr) (ck3 : Nat) (_q7 : RSl h ak3 k.t.ops) (_q8 : k.t.ops.length ≤ ck3) (ak4 : Option Addr) (ck4 : Nat) (_q9 : RSl h ak4 k.sensors) (_q10 : k.sensors.length ≤ ck4) (pk : Addr) (bk : Nat) (ta : Option Addr) (tn tc : Nat) (_q11 : CellsAt h pk [iV k.t.facts, .slice ak k.t.init.length ck, .slice ak2 k.t.goal.length ck2, .slice ak3 k.t.ops.length ck3, .slice ak4 k.sensors.length ck4, .map (some bk), .slice ta tn tc]) (hp : pre_breadthC start2 k) : Calls Tryz.prog 50 #[.slice astart2 start2.length cstart2, .func (.func 49) #[] #[], .func (.func 71) #[.pointer (some pk)] #[], .func (.func 82) #[] #[]] w fun e w' => ∃ (z : Option Addr × Nat) (h1 : FH), e = .returned (.tuple #[.slice z.1 (sp_breadthC start2 k).1.length z.2, .bool (sp_breadthC start2 k).2.1, .bool (sp_breadthC start2 k).2.2]) ∧ FH.le h h1 ∧ (RSl h1 z.1 (sp_breadthC start2 k).1 ∧ (sp_breadthC start2 k).1.length ≤ z.2) ∧ SH (Kp.all w h) h1 w' [] :=
 (w_breadthC hs ht start2 astart2 cstart2 _q1 _q2  k ak ck _q3 _q4 ak2 ck2 _q5 _q6 ak3 ck3 _q7 _q8 ak4 ck4 _q9 _q10 pk bk ta tn tc _q11  (fun r => r = sp_breadthC start2 k) (ok_breadthC start2 k hp)).mono fun _ _ ⟨r, z, h1, hk, he, hl, hf, hS⟩ => by subst hk; exact ⟨z, h1, he, hl, hf, hS⟩
theorem w_smallC {h : FH} {w : World} (hs : Sub h w) (ht : TabH Tryz.prog h) (start2 : List (List Int)) (astart2 : Option Addr) (cstart2 : Nat) (_q1 : RSl h astart2 start2) (_q2 : start2.length ≤ cstart2) (k : Srch) (ak : Option Addr) (ck : Nat) (_q3 : RSl h ak k.t.init) (_q4 : k.t.init.length ≤ ck) (ak2 : Option Addr) (ck2 : Nat) (_q5 : RSl h ak2 k.t.goal) (_q6 : k.t.goal.length ≤ ck2) (ak3 : Option Addr) (ck3 : Nat) (_q7 : RSl h ak3 k.t.ops) (_q8 : k.t.ops.length ≤ ck3) (ak4 : Option Addr) (ck4 : Nat) (_q9 : RSl h ak4 k.sensors) (_q10 : k.sensors.length ≤ ck4) (pk : Addr) (bk : Nat) (ta : Option Addr) (tn tc : Nat) (_q11 : CellsAt h pk [iV k.t.facts, .slice ak k.t.init.length ck, .slice ak2 k.t.goal.length ck2, .slice ak3 k.t.ops.length ck3, .slice ak4 k.sensors.length ck4, .map (some bk), .slice ta tn tc]) (K : Bool → Prop) (hF : F_smallC start2 k K) : Calls Tryz.prog 47 #[.slice astart2 start2.length cstart2, .func (.func 49) #[] #[], .func (.func 71) #[.pointer (some pk)] #[]] w fun e w' => ∃ r : Bool, K r ∧ e = .returned (.bool r) ∧ Below w.heap.size w w' := by
 refine enter (args := [vSl astart2 start2 cstart2, .func (.func 49) #[] #[], .func (.func 71) #[.pointer (some pk)] #[]]) Tryz.func47 rfl Tryz.ntmps47 rfl hs ?_
 refine .seq (.region (.V (asg rfl) ?_))
 refine .nil (.seqN (.seq (.region (.V (mv rfl) ?_))))
 refine .V (mv rfl) ?_
 refine .V (mv rfl) ?_
 obtain ⟨q12, hF⟩ := hF
 obtain ⟨r2, q13⟩ : ∃ y_ : List Int × Bool × Bool, y_ = sp_breadthC start2 k := ⟨_, rfl⟩
 replace hF := hF r2 q13
 refine clR (α := Option Addr × Nat) (Φ := fun h1 z => RSl h1 z.1 r2.1 ∧ r2.1.length ≤ z.2) (V := fun z => .tuple #[vSl z.1 r2.1 z.2, .bool r2.2.1, .bool r2.2.2]) Tryz.call50 rfl rfl (fun w S => (by rw [q13]; exact c_breadthC S.sub (ht.mono (FH.le_refl _)) start2 astart2 cstart2 _q1 _q2 k ak ck _q3 _q4 ak2 ck2 _q5 _q6 ak3 ck3 _q7 _q8 ak4 ck4 _q9 _q10 pk bk ta tn tc (CellsAt.mono (FH.le_refl _) _q11) q12)) rfl (fun z h1 le1 hz => ?_)
 obtain ⟨a, c⟩ := z
 obtain ⟨q14, q15⟩ := hz
 refine .V (mv rfl) ?_
 refine .V (ext rfl rfl) ?_
 refine .V (ext rfl rfl) ?_
 refine .V (ext rfl rfl) ?_
 refine .V (asg rfl) ?_
 refine .V (asg rfl) ?_
 refine .V (asg rfl) ?_
 refine .nil (.seqN (.seq (.region (.V (mv rfl) ?_))))
 refine .V (asg rfl) ?_
 refine .nil (.seqN (.ret ?_))
 refine .res1 rfl (rvT rfl) (fun w' S => ⟨r2.2.2, hF, rfl, S.below⟩)
theorem c_smallC {h : FH} {w : World} (hs : Sub h w) (ht : TabH Tryz.prog h) (start2 : List (List Int)) (astart2 : Option Addr) (cstart2 : Nat) (_q1 : RSl h astart2 start2) (_q2 : start2.length ≤ cstart2) (k : Srch) (ak : Option Addr) (ck : Nat) (_q3 : RSl h ak k.t.init) (_q4 : k.t.init.length ≤ ck) (ak2 : Option Addr) (ck2 : Nat) (_q5 : RSl h ak2 k.t.goal) (_q6 : k.t.goal.length ≤ ck2) (ak3 : Option Addr) (ck3 : Nat) (_q7 : RSl h ak3 k.t.ops) (_q8 : k.t.ops.length ≤ ck3) (ak4 : Option Addr) (ck4 : Nat) (_q9 : RSl h ak4 k.sensors) (_q10 : k.sensors.length ≤ ck4) (pk : Addr) (bk : Nat) (ta : Option Addr) (tn tc : Nat) (_q11 : CellsAt h pk [iV k.t.facts, .slice ak k.t.init.length ck, .slice ak2 k.t.goal.length ck2, .slice ak3 k.t.ops.length ck3, .slice ak4 k.sensors.length ck4, .map (some bk), .slice ta tn tc]) (hp : pre_smallC start2 k) : Calls Tryz.prog 47 #[.slice astart2 start2.length cstart2, .func (.func 49) #[] #[], .func (.func 71) #[.pointer (some pk)] #[]] w fun e w' => e = .returned (.bool (sp_smallC start2 k)) ∧ Below w.heap.size w w' :=
 (w_smallC hs ht start2 astart2 cstart2 _q1 _q2  k ak ck _q3 _q4 ak2 ck2 _q5 _q6 ak3 ck3 _q7 _q8 ak4 ck4 _q9 _q10 pk bk ta tn tc _q11 (fun r => r = sp_smallC start2 k) (ok_smallC start2 k hp)).mono fun _ _ ⟨_, hk, he, hb⟩ => ⟨by rw [he, hk], hb⟩
set_option maxHeartbeats 8000000 in
theorem w_scan {h : FH} {w : World} (hs : Sub h w) (ht : TabH Tryz.prog h) (k : Srch) (ak : Option Addr) (ck : Nat) (_q1 : RSl h ak k.t.init) (_q2 : k.t.init.length ≤ ck) (ak2 : Option Addr) (ck2 : Nat) (_q3 : RSl h ak2 k.t.goal) (_q4 : k.t.goal.length ≤ ck2) (ak3 : Option Addr) (ck3 : Nat) (_q5 : RSl h ak3 k.t.ops) (_q6 : k.t.ops.length ≤ ck3) (ak4 : Option Addr) (ck4 : Nat) (_q7 : RSl h ak4 k.sensors) (_q8 : k.sensors.length ≤ ck4) (pk : Addr) (bk : Nat) (tr : List TNode) (ta : Option Addr) (tc : Nat) {gX : FH} (ownX : SrX (srInv k) pk [iV k.t.facts, .slice ak k.t.init.length ck, .slice ak2 k.t.goal.length ck2, .slice ak3 k.t.ops.length ck3, .slice ak4 k.sensors.length ck4] bk 102 ta tc tr gX) (subX : Sub gX w) (disX : Disj h gX) (worlds : List (List Int)) (aworlds : Option Addr) (cworlds : Nat) (_q9 : RSl h aworlds worlds) (_q10 : worlds.length ≤ cworlds) (depth : Int) (mM : Nat) (hm : mu_scan k worlds depth = mM) (ih : ∀ {h : FH} {w : World} (_ : Sub h w) (_ : TabH Tryz.prog h) (k : Srch) (ak : Option Addr) (ck : Nat) (_ : RSl h ak k.t.init) (_ : k.t.init.length ≤ ck) (ak2 : Option Addr) (ck2 : Nat) (_ : RSl h ak2 k.t.goal) (_ : k.t.goal.length ≤ ck2) (ak3 : Option Addr) (ck3 : Nat) (_ : RSl h ak3 k.t.ops) (_ : k.t.ops.length ≤ ck3) (ak4 : Option Addr) (ck4 : Nat) (_ : RSl h ak4 k.sensors) (_ : k.sensors.length ≤ ck4) (pk : Addr) (bk : Nat) (tr : List TNode) (ta : Option Addr) (tc : Nat) {gX : FH} (_ : SrX (srInv k) pk [iV k.t.facts, .slice ak k.t.init.length ck, .slice ak2 k.t.goal.length ck2, .slice ak3 k.t.ops.length ck3, .slice ak4 k.sensors.length ck4] bk 102 ta tc tr gX) (_ : Sub gX w) (_ : Disj h gX) (worlds : List (List Int)) (aworlds : Option Addr) (cworlds : Nat) (_ : RSl h aworlds worlds) (_ : worlds.length ≤ cworlds) (depth : Int) (_ : mu_scan k worlds depth < mM) (_ : pre_scan k worlds depth), Calls Tryz.prog 98 #[.pointer (some pk), .slice aworlds worlds.length cworlds, iV depth] w fun e w' => e = .returned (.bool (sp_scan k worlds depth)) ∧ SH (Kp.ex w h gX) h w' [SrX (srInv k) pk [iV k.t.facts, .slice ak k.t.init.length ck, .slice ak2 k.t.goal.length ck2, .slice ak3 k.t.ops.length ck3, .slice ak4 k.sensors.length ck4] bk 102 ta tc tr]) (K : Bool → Prop) (hF : F_scan k worlds depth K) : Calls Tryz.prog 98 #[.pointer (some pk), .slice aworlds worlds.length cworlds, iV depth] w fun e w' => ∃ r : Bool, K r ∧ e = .returned (.bool r) ∧ SH (Kp.ex w h gX) h w' [SrX (srInv k) pk [iV k.t.facts, .slice ak k.t.init.length ck, .slice ak2 k.t.goal.length ck2, .slice ak3 k.t.ops.length ck3, .slice ak4 k.sensors.length ck4] bk 102 ta tc tr] := by
 refine enterXM (X := SrX (srInv k) pk (tF k.t ak ck ak2 ck2 ak3 ck3 [vSl ak4 k.sensors ck4]) bk 102 ta tc tr) (args := [.pointer (some pk), vSl aworlds worlds cworlds, iV depth]) Tryz.func98 rfl Tryz.ntmps98 rfl hs subX disX ownX ?_
 refine .open1 rfl (fun m q11 => ?_)
 replace hF := hF m q11
 refine .mk0 ?_
 refine .cast (A' := [MkA [], Box pk (tF k.t ak ck ak2 ck2 ak3 ck3 [vSl ak4 k.sensors ck4, .map (some bk), vSl ta tr tc]), OwnMap bk m, OwnSl 102 5 ta tr.length tc (flL tr)]) rfl ?_
 refine .seq (.region ?_)
 refine bx (vs := [.pointer (some pk)]) rfl rfl rfl (fun pk2 => ?_)
 refine bx (vs := [iV depth]) rfl rfl rfl (fun pdepth => ?_)
 refine al tZ4 rfl (fun pv => ?_)
 refine .nil (.seqN (.seq (.seq (.region (.V (mv rfl) ?_)))))
 refine .V (ld1 rfl tO96 (cellB (off := 0) (k := 2) rfl rfl)) ?_
 refine .V (nck rfl) ?_
 refine .V (fa rfl tF99_0) ?_
 refine .V (faa (p := pk) (o1 := 0) rfl tF25_2 rfl) ?_
 refine .V (ld1 rfl tO22 (cellB (off := 2) (k := 4) rfl rfl)) ?_
 obtain ⟨q12, hF⟩ := hF
 obtain ⟨r2, q13⟩ : ∃ y_ : Bool, y_ = sp_sure worlds k.t.goal := ⟨_, rfl⟩
 replace hF := hF r2 q13
 refine .C (cl (v := .bool r2) Tryz.call52 rfl rfl (fun w S => (by rw [q13]; exact c_sure S.sub worlds aworlds cworlds _q9 _q10 k.t.goal ak2 ck2 _q3 _q4 q12))) ?_
 refine .nil (.seqN ?_)
 refine .cond rfl (fun q15 => ?_) (fun q15 => ?_)
 ·replace hF := hF.1 q15
  refine .seq (.region ?_)
  refine st (p := pv) (off := 0) (k := 0) (vs := [.bool true]) rfl rfl rfl (fun w => (tO4 w).2) rfl rfl rfl rfl ?_
  refine .cast (A' := [Box pv [.bool true], Box pdepth [iV depth], Box pk2 [.pointer (some pk)], MkA [], Box pk (tF k.t ak ck ak2 ck2 ak3 ck3 [vSl ak4 k.sensors ck4, .map (some bk), vSl ta tr tc]), OwnMap bk m, OwnSl 102 5 ta tr.length tc (flL tr)]) rfl ?_
  refine .nil (.seqN (.ret (.seqR ?_)))
  refine .resM (k := 3) rfl ?_
  refine .closeX (i := 4) (j := 5) (k := 6) (inv := srInv k) (pre := (tF k.t ak ck ak2 ck2 ak3 ck3 [vSl ak4 k.sensors ck4])) (xs := tr) rfl rfl rfl rfl rfl rfl rfl rfl q11 ?_
  refine .res1 rfl (rvC1 rfl tO4 (k := 1) rfl) (fun w' S => ⟨true, hF, rfl, (S.pick (k := 0) rfl)⟩)
 replace hF := hF.2 q15
 refine .skip (.seqN (.seq (.seq (.region (.V (ld1 rfl tO3 (cellB (off := 0) (k := 1) rfl rfl)) ?_)))))
 refine .V (bi rfl rfl rfl) ?_
 refine .nil (.seqN ?_)
 refine .cond rfl (fun q17 => ?_) (fun q17 => ?_)
 ·replace hF := hF.1 q17
  refine .seq (.region ?_)
  refine st (p := pv) (off := 0) (k := 0) (vs := [.bool false]) rfl rfl rfl (fun w => (tO4 w).2) rfl rfl rfl rfl ?_
  refine .cast (A' := [Box pv [.bool false], Box pdepth [iV depth], Box pk2 [.pointer (some pk)], MkA [], Box pk (tF k.t ak ck ak2 ck2 ak3 ck3 [vSl ak4 k.sensors ck4, .map (some bk), vSl ta tr tc]), OwnMap bk m, OwnSl 102 5 ta tr.length tc (flL tr)]) rfl ?_
  refine .nil (.seqN (.ret (.seqR ?_)))
  refine .resM (k := 3) rfl ?_
  refine .closeX (i := 4) (j := 5) (k := 6) (inv := srInv k) (pre := (tF k.t ak ck ak2 ck2 ak3 ck3 [vSl ak4 k.sensors ck4])) (xs := tr) rfl rfl rfl rfl rfl rfl rfl rfl q11 ?_
  refine .res1 rfl (rvC1 rfl tO4 (k := 1) rfl) (fun w' S => ⟨false, hF, rfl, (S.pick (k := 0) rfl)⟩)
 replace hF := hF.2 q17
 refine .skip (.seqN (.seq (.region (.V (ld1 rfl tO3 (cellB (off := 0) (k := 1) rfl rfl)) ?_))))
 obtain ⟨q18, hF⟩ := hF
 obtain ⟨r3, q19⟩ : ∃ y_ : List UInt8, y_ = sp_itoa depth := ⟨_, rfl⟩
 replace hF := hF r3 q19
 refine .C (cl (v := strV r3) Tryz.call113 rfl rfl (fun w S => (by rw [q19]; exact c_itoa S.sub depth q18))) ?_
 obtain ⟨q20, hF⟩ := hF
 refine .V (sad rfl rfl q20) ?_
 refine .V (mv rfl) ?_
 obtain ⟨q21, hF⟩ := hF
 obtain ⟨r4, q22⟩ : ∃ y_ : List UInt8, y_ = sp_key worlds := ⟨_, rfl⟩
 replace hF := hF r4 q22
 refine .C (cl (v := strV r4) Tryz.call49 rfl rfl (fun w S => (by rw [q22]; exact c_key S.sub (ht.mono (FH.le_refl _)) worlds aworlds cworlds _q9 _q10 q21))) ?_
 obtain ⟨q23, hF⟩ := hF
 refine .V (sad rfl rfl q23) ?_
 refine .V (asg rfl) ?_
 refine .nil (.seqN (.seq (.seq (.region (.V (ld1 rfl tO96 (cellB (off := 0) (k := 2) rfl rfl)) ?_)))))
 refine .V (nck rfl) ?_
 refine .V (fa rfl tF99_2) ?_
 refine .V (ld1 rfl tO97 (cellB (off := 5) (k := 4) rfl rfl)) ?_
 refine .V (mv rfl) ?_
 refine .V (lk tM97 rfl rfl (kk := 5) rfl) ?_
 refine .V (bi rfl rfl rfl) ?_
 refine .nil (.seqN ?_)
 refine .cond rfl (fun q25 => ?_) (fun q25 => ?_)
 ·replace hF := hF.1 q25
  refine .seq (.region ?_)
  refine st (p := pv) (off := 0) (k := 0) (vs := [.bool false]) rfl rfl rfl (fun w => (tO4 w).2) rfl rfl rfl rfl ?_
  refine .cast (A' := [Box pv [.bool false], Box pdepth [iV depth], Box pk2 [.pointer (some pk)], MkA [], Box pk (tF k.t ak ck ak2 ck2 ak3 ck3 [vSl ak4 k.sensors ck4, .map (some bk), vSl ta tr tc]), OwnMap bk m, OwnSl 102 5 ta tr.length tc (flL tr)]) rfl ?_
  refine .nil (.seqN (.ret (.seqR ?_)))
  refine .resM (k := 3) rfl ?_
  refine .closeX (i := 4) (j := 5) (k := 6) (inv := srInv k) (pre := (tF k.t ak ck ak2 ck2 ak3 ck3 [vSl ak4 k.sensors ck4])) (xs := tr) rfl rfl rfl rfl rfl rfl rfl rfl q11 ?_
  refine .res1 rfl (rvC1 rfl tO4 (k := 1) rfl) (fun w' S => ⟨false, hF, rfl, (S.pick (k := 0) rfl)⟩)
 replace hF := hF.2 q25
 refine .skip (.seqN (.seq (.seq (.region (.V (ld1 rfl tO96 (cellB (off := 0) (k := 2) rfl rfl)) ?_)))))
 refine .V (nck rfl) ?_
 refine .V (fa rfl tF99_0) ?_
 refine .V (ldA (cs := (tF k.t ak ck ak2 ck2 ak3 ck3)) rfl tA25 rfl (cellsB (off := 0) (k := 4) rfl (m := 4) rfl)) ?_
 refine .V (mv rfl) ?_
 obtain ⟨r5, q26⟩ : ∃ y_ : Unit, y_ = sp_succ k.t worlds := ⟨_, rfl⟩
 replace hF := hF r5 q26
 refine clR (α := Addr × Addr) (Φ := fun h1 z => CellsAt h1 z.1 (tF k.t ak ck ak2 ck2 ak3 ck3) ∧ CellsAt h1 z.2 [vSl aworlds worlds cworlds]) (V := fun z => .func (.func 103) #[] #[.pointer (some z.1), .pointer (some z.2)]) Tryz.call81 rfl rfl (fun w S => (by exact c_succ S.sub k.t ak ck _q1 _q2 ak2 ck2 _q3 _q4 ak3 ck3 _q5 _q6 worlds aworlds cworlds _q9 _q10 )) rfl (fun z h1 le1 hz => ?_)
 obtain ⟨p, p2⟩ := z
 obtain ⟨q27, q28⟩ := hz
 refine .nil (.seqN (.block ?_))
 refine .sub (s' := [(1, vSl aworlds worlds cworlds), (3, .pointer (some pk2)), (5, .pointer (some pdepth)), (6, .pointer (some pv)), (7, strV ((r3 ++ ([58] : List UInt8)) ++ r4)), (41, .func (.func 103) #[] #[.pointer (some p), .pointer (some p2)])]) sb ?_
 refine .rangeF (k := 3) (caps := [.pointer (some p), .pointer (some p2)]) rfl rfl Tryz.func103 rfl Tryz.ntmps103 rfl Tryz.call103 (fun l D LA a q177 q178 => ?_)
 refine .cast (A' := [LA .ready none, Box pv [.bool false], Box pdepth [iV depth], Box pk2 [.pointer (some pk)], MkA (D :: []), Box pk (tF k.t ak ck ak2 ck2 ak3 ck3 [vSl ak4 k.sensors ck4, .map (some bk), vSl ta tr tc]), OwnMap bk m, OwnSl 102 5 ta tr.length tc (flL tr)]) rfl ?_
 refine .seq (.region (.V (fa rfl tF25_3) ?_))
 refine .V (ld1 (v := vSl ak3 k.t.ops ck3) rfl tO23 (cellH (CellsAt.mono (FH.le_refl _) q27 3 _ rfl))) ?_
 refine .V (ln rfl tS23.is) ?_
 refine .V (mv rfl) ?_
 refine .nil (.seqN (.block ?_))
 refine .sel0 [0, 3, 2, 1, 4, 5, 6, 7] (by decide) rfl ?_
 obtain ⟨I1, μ1, q275, q276⟩ := hF
 refine .loop' (σ := Int × (List UInt8 → Int)) (fun z => I1 z.1 z.2) (fun z => μ1 z.1 z.2) (fun z => [(0, .func (.yield l) #[] #[]), (1, .pointer (some p)), (2, .pointer (some p2)), (7, vSl ak3 k.t.ops ck3), (8, iV ((k.t.ops.length : Nat) : Int)), (9, iV z.1)]) (fun z => [LA .ready none, Box pk2 [.pointer (some pk)], Box pdepth [iV depth], Box pv [.bool false], MkA (D :: []), Box pk (tF k.t ak ck ak2 ck2 ak3 ck3 [vSl ak4 k.sensors ck4, .map (some bk), vSl ta tr tc]), OwnMap bk z.2, OwnSl 102 5 ta tr.length tc (flL tr)]) (fun _ => h1) (0, m) q275 sb rfl (FH.le_refl _) ?_
 rintro ⟨next, m2⟩ q275
 have hF := q276 next m2 q275
 show J _ _ _ _ _ [(0, .func (.yield l) #[] #[]), (1, .pointer (some p)), (2, .pointer (some p2)), (7, vSl ak3 k.t.ops ck3), (8, iV ((k.t.ops.length : Nat) : Int)), (9, iV next)] [LA .ready none, Box pk2 [.pointer (some pk)], Box pdepth [iV depth], Box pv [.bool false], MkA (D :: []), Box pk (tF k.t ak ck ak2 ck2 ak3 ck3 [vSl ak4 k.sensors ck4, .map (some bk), vSl ta tr tc]), OwnMap bk m2, OwnSl 102 5 ta tr.length tc (flL tr)] h1
 refine .seq (.region (.V (bi rfl rfl rfl) ?_))
 refine .nil (.seqN (.seq ?_))
 refine .cond rfl (fun q279 => ?_) (fun q279 => ?_)
 ·replace hF := hF.1 q279
  refine .skip (.seqN ?_)
  refine .share (σ := (List UInt8 → Int)) (fun z => F_scan_J1 m2 next z I1 μ1) (fun _ => [(0, .func (.yield l) #[] #[]), (1, .pointer (some p)), (2, .pointer (some p2)), (7, vSl ak3 k.t.ops ck3), (8, iV ((k.t.ops.length : Nat) : Int)), (9, iV next)]) (fun z => [LA .ready none, Box pk2 [.pointer (some pk)], Box pdepth [iV depth], Box pv [.bool false], MkA (D :: []), Box pk (tF k.t ak ck ak2 ck2 ak3 ck3 [vSl ak4 k.sensors ck4, .map (some bk), vSl ta tr tc]), OwnMap bk z, OwnSl 102 5 ta tr.length tc (flL tr)]) (fun _ => h1) ?_ (fun q302 => ?_)
  ·rintro m4 hF
   show J _ _ _ _ _ [(0, .func (.yield l) #[] #[]), (1, .pointer (some p)), (2, .pointer (some p2)), (7, vSl ak3 k.t.ops ck3), (8, iV ((k.t.ops.length : Nat) : Int)), (9, iV next)] [LA .ready none, Box pk2 [.pointer (some pk)], Box pdepth [iV depth], Box pv [.bool false], MkA (D :: []), Box pk (tF k.t ak ck ak2 ck2 ak3 ck3 [vSl ak4 k.sensors ck4, .map (some bk), vSl ta tr tc]), OwnMap bk m4, OwnSl 102 5 ta tr.length tc (flL tr)] h1
   refine .region (.V (bi rfl rfl rfl) ?_)
   refine .V (mv rfl) ?_
   refine .nil ?_
   exact .RO (wr (next + 1), m4) hF.1 hF.2
  refine .block (.seq (.region (.V (mv rfl) ?_)))
  obtain ⟨q303, hF⟩ := hF
  refine .V (ix rfl rfl tS23 (_q5.ne (by decide) (inb_pos q303)) q303) ?_
  obtain ⟨_, ⟨a2, c, a3, c2, a4, c3, rfl, ⟨q304, q305⟩, ⟨q306, q307⟩, q308, q309⟩, q310⟩ := _q5.elem q303
  refine .V (ldA (cs := [.slice a2 ((gt k.t.ops next).pre.length) c, .slice a3 ((gt k.t.ops next).add.length) c2, .slice a4 ((gt k.t.ops next).del.length) c3, iV ((gt k.t.ops next).cost)]) rfl tA54 rfl (cellsH ((fun q => (q310 q).mono (le1)) (by decide)))) ?_
  refine al tZ54 rfl (fun pdepth2 => ?_)
  refine .V (asg rfl) ?_
  refine st (p := pdepth2) (off := 0) (k := 0) (vs := [.slice a2 ((gt k.t.ops next).pre.length) c, .slice a3 ((gt k.t.ops next).add.length) c2, .slice a4 ((gt k.t.ops next).del.length) c3, iV ((gt k.t.ops next).cost)]) rfl rfl rfl (fun w => (tA54 w).2) rfl rfl rfl rfl ?_
  refine .cast (A' := [Box pdepth2 [.slice a2 ((gt k.t.ops next).pre.length) c, .slice a3 ((gt k.t.ops next).add.length) c2, .slice a4 ((gt k.t.ops next).del.length) c3, iV ((gt k.t.ops next).cost)], LA .ready none, Box pk2 [.pointer (some pk)], Box pdepth [iV depth], Box pv [.bool false], MkA (D :: []), Box pk (tF k.t ak ck ak2 ck2 ak3 ck3 [vSl ak4 k.sensors ck4, .map (some bk), vSl ta tr tc]), OwnMap bk m2, OwnSl 102 5 ta tr.length tc (flL tr)]) rfl ?_
  refine .nil (.seqN (.seq (.region (.V (ld1 (v := vSl aworlds worlds cworlds) rfl tO35 (cellH (CellsAt.mono (FH.le_refl _) q28 0 _ rfl))) ?_))))
  refine .V (fa rfl tF54_0) ?_
  refine .V (ld1 rfl tO22 (cellB (off := 0) (k := 0) rfl rfl)) ?_
  obtain ⟨q311, hF⟩ := hF
  obtain ⟨r6, q312⟩ : ∃ y_ : Bool, y_ = sp_sure worlds ((gt k.t.ops next).pre) := ⟨_, rfl⟩
  replace hF := hF r6 q312
  refine .C (cl (v := .bool r6) Tryz.call52 rfl rfl (fun w S => (by rw [q312]; exact c_sure S.sub worlds aworlds cworlds (_q9.mono (le1)) _q10 ((gt k.t.ops next).pre) a2 c (q305.mono (le1)) q304 q311))) ?_
  refine .V (mv rfl) ?_
  rcases Bool.eq_false_or_eq_true (r6) with q313 | q313
  ·replace hF := hF.1 q313
   refine .GV (mv rfl) q313 ?_
   refine .GV (mv rfl) q313 ?_
   refine .GV (ldA (cs := (tF k.t ak ck ak2 ck2 ak3 ck3)) rfl tA25 rfl (cellsH (q27.mono (FH.le_refl _)))) q313 ?_
   refine .GV (ld1 (v := vSl aworlds worlds cworlds) rfl tO35 (cellH (CellsAt.mono (FH.le_refl _) q28 0 _ rfl))) q313 ?_
   refine .GV (mv rfl) q313 ?_
   obtain ⟨q314, hF⟩ := hF
   obtain ⟨r7, q315⟩ : ∃ y_ : List (List Int), y_ = sp_bafter k.t worlds next := ⟨_, rfl⟩
   replace hF := hF r7 q315
   refine .gR rfl rfl rfl q313 ?_
   refine clR (α := Option Addr × Nat) (Φ := fun h1 z => RSl h1 z.1 r7 ∧ r7.length ≤ z.2) (V := fun z => vSl z.1 r7 z.2) Tryz.call60 rfl rfl (fun w S => (by rw [q315]; exact c_bafter S.sub k.t ak ck (_q1.mono (le1)) _q2 ak2 ck2 (_q3.mono (le1)) _q4 ak3 ck3 (_q5.mono (le1)) _q6 worlds aworlds cworlds (_q9.mono (le1)) _q10 next q314)) rfl (fun z h13 le13 hz => ?_)
   obtain ⟨a5, c4⟩ := z
   obtain ⟨q316, q317⟩ := hz
   refine .gR rfl rfl rfl q313 ?_
   refine .yld (k := 1) (vs := [iV next, vSl a5 r7 c4]) q177 rfl rfl rfl rfl rfl (fun aG q318 => ?_)
   refine .sub (s' := [(3, .pointer (some pk2)), (5, .pointer (some pdepth)), (6, .pointer (some pv)), (43, vSl a5 r7 c4)]) sb ?_
   refine .region (.V (asg rfl) ?_)
   refine .nil ?_
   refine .begin_ (k := 1) q177 rfl ?_
   refine .cast (A' := [Box pdepth2 [.slice a2 ((gt k.t.ops next).pre.length) c, .slice a3 ((gt k.t.ops next).add.length) c2, .slice a4 ((gt k.t.ops next).del.length) c3, iV ((gt k.t.ops next).cost)], LA .busy none, Box pk2 [.pointer (some pk)], Box pdepth [iV depth], Box pv [.bool false], MkA (D :: []), Box pk (tF k.t ak ck ak2 ck2 ak3 ck3 [vSl ak4 k.sensors ck4, .map (some bk), vSl ta tr tc]), OwnMap bk m2, OwnSl 102 5 ta tr.length tc (flL tr)]) rfl ?_
   refine .block (.seq (.region (.V (ld1 rfl tO96 (cellB (off := 0) (k := 2) rfl rfl)) ?_)))
   refine .V (mv rfl) ?_
   refine .V (ld1 rfl tO3 (cellB (off := 0) (k := 3) rfl rfl)) ?_
   refine .V (bi rfl rfl rfl) ?_
   obtain ⟨q319, q320, q321, hF⟩ := hF
   obtain ⟨r8, q322⟩ : ∃ y_ : Bool, y_ = sp_scan k r7 (wr (depth - 1)) := ⟨_, rfl⟩
   replace hF := hF r8 q322
   refine callS (i := 6) (j := 7) (k := 8) (inv := srInv k) (pre := (tF k.t ak ck ak2 ck2 ak3 ck3 [vSl ak4 k.sensors ck4])) (xs := tr) (v := .bool r8) rfl rfl rfl rfl rfl rfl rfl rfl q319 Tryz.call98 rfl rfl (fun w g hx sg hd hs' => ?_) rfl (fun m5 q323 => ?_)
   ·rw [q322]; exact ih hs' (ht.mono (FH.le_trans (le1) (le13))) k ak ck (_q1.mono (FH.le_trans (le1) (le13))) _q2 ak2 ck2 (_q3.mono (FH.le_trans (le1) (le13))) _q4 ak3 ck3 (_q5.mono (FH.le_trans (le1) (le13))) _q6 ak4 ck4 (_q7.mono (FH.le_trans (le1) (le13))) _q8 pk bk tr ta tc hx sg hd r7 a5 c4 q316 q317 (wr (depth - 1)) (by rw [← hm]; exact q321) q320
   replace hF := hF m5 q323
   refine .cast (A' := [Box pdepth2 [.slice a2 ((gt k.t.ops next).pre.length) c, .slice a3 ((gt k.t.ops next).add.length) c2, .slice a4 ((gt k.t.ops next).del.length) c3, iV ((gt k.t.ops next).cost)], LA .busy none, Box pk2 [.pointer (some pk)], Box pdepth [iV depth], Box pv [.bool false], MkA (D :: []), Box pk (tF k.t ak ck ak2 ck2 ak3 ck3 [vSl ak4 k.sensors ck4, .map (some bk), vSl ta tr tc]), OwnMap bk m5, OwnSl 102 5 ta tr.length tc (flL tr)]) rfl ?_
   refine .nil (.seqN ?_)
   refine .cond rfl (fun q324 => ?_) (fun q324 => ?_)
   ·replace hF := hF.1 q324
    refine .seq (.region ?_)
    refine st (p := pv) (off := 0) (k := 4) (vs := [.bool true]) rfl rfl rfl (fun w => (tO4 w).2) rfl rfl rfl rfl ?_
    refine .cast (A' := [Box pdepth2 [.slice a2 ((gt k.t.ops next).pre.length) c, .slice a3 ((gt k.t.ops next).add.length) c2, .slice a4 ((gt k.t.ops next).del.length) c3, iV ((gt k.t.ops next).cost)], LA .busy none, Box pk2 [.pointer (some pk)], Box pdepth [iV depth], Box pv [.bool true], MkA (D :: []), Box pk (tF k.t ak ck ak2 ck2 ak3 ck3 [vSl ak4 k.sensors ck4, .map (some bk), vSl ta tr tc]), OwnMap bk m5, OwnSl 102 5 ta tr.length tc (flL tr)]) rfl ?_
    refine .nil (.seqN (.ret (.blkR ?_)))
    refine .rdR (k := 1) q177 rfl q318 rfl ?_
    refine .cast (A' := [Box pdepth2 [.slice a2 ((gt k.t.ops next).pre.length) c, .slice a3 ((gt k.t.ops next).add.length) c2, .slice a4 ((gt k.t.ops next).del.length) c3, iV ((gt k.t.ops next).cost)], LA .done (some .ret), Box pk2 [.pointer (some pk)], Box pdepth [iV depth], Box pv [.bool true], MkA (D :: []), Box pk (tF k.t ak ck ak2 ck2 ak3 ck3 [vSl ak4 k.sensors ck4, .map (some bk), vSl ta tr tc]), OwnMap bk m5, OwnSl 102 5 ta tr.length tc (flL tr)]) rfl ?_
    refine .GV (nt rfl) q313 ?_
    refine .V (pkT rfl q313 rfl) ?_
    refine .nil (.seqN ?_)
    refine .cond rfl (fun _ => ?_) (fun e => absurd (e.symm.trans rfl) (by decide))
    refine .ret (.blkR (.seqR (.seqR (.blkR ?_))))
    refine .res0 (.inl rfl) rfl (range_jump (k := 1) q177 rfl q178 ?_)
    refine .cast (A' := [Box pdepth2 [.slice a2 ((gt k.t.ops next).pre.length) c, .slice a3 ((gt k.t.ops next).add.length) c2, .slice a4 ((gt k.t.ops next).del.length) c3, iV ((gt k.t.ops next).cost)], tru, Box pk2 [.pointer (some pk)], Box pdepth [iV depth], Box pv [.bool true], MkA (D :: []), Box pk (tF k.t ak ck ak2 ck2 ak3 ck3 [vSl ak4 k.sensors ck4, .map (some bk), vSl ta tr tc]), OwnMap bk m5, OwnSl 102 5 ta tr.length tc (flL tr)]) rfl ?_
    refine .ret (.blkR (.seqR ?_))
    refine .resM (k := 5) rfl ?_
    refine .closeX (i := 6) (j := 7) (k := 8) (inv := srInv k) (pre := (tF k.t ak ck ak2 ck2 ak3 ck3 [vSl ak4 k.sensors ck4])) (xs := tr) rfl rfl rfl rfl rfl rfl rfl rfl q323 ?_
    refine .res1 rfl (rvC1 rfl tO4 (k := 5) rfl) (fun w' S => ⟨true, hF, rfl, (S.pick (k := 0) rfl).anti (FH.le_trans (le1) (le13))⟩)
   replace hF := hF.2 q324
   refine .skip (.blkN ?_)
   refine .rdN (k := 1) q177 rfl q318 rfl ?_
   refine .cast (A' := [Box pdepth2 [.slice a2 ((gt k.t.ops next).pre.length) c, .slice a3 ((gt k.t.ops next).add.length) c2, .slice a4 ((gt k.t.ops next).del.length) c3, iV ((gt k.t.ops next).cost)], LA .ready none, Box pk2 [.pointer (some pk)], Box pdepth [iV depth], Box pv [.bool false], MkA (D :: []), Box pk (tF k.t ak ck ak2 ck2 ak3 ck3 [vSl ak4 k.sensors ck4, .map (some bk), vSl ta tr tc]), OwnMap bk m5, OwnSl 102 5 ta tr.length tc (flL tr)]) rfl ?_
   refine .GV (nt rfl) q313 ?_
   refine .V (pkT rfl q313 rfl) ?_
   refine .nil (.seqN ?_)
   refine .cond rfl (fun e => absurd (e.symm.trans rfl) (by decide)) (fun _ => ?_)
   refine .skip (.blkN ?_)
   refine .sel0 [1, 2, 3, 4, 5, 6, 7, 8] (by decide) rfl ?_
   exact .use q302 m5 hF sb rfl (le13)
  replace hF := hF.2 q313
  refine .GS q313 ?_
  refine .GS q313 ?_
  refine .GS q313 ?_
  refine .GS q313 ?_
  refine .GS q313 ?_
  refine .GS q313 ?_
  refine .GS q313 ?_
  refine .GS q313 ?_
  refine .V (pkF rfl q313 rfl) ?_
  refine .nil (.seqN ?_)
  refine .cond rfl (fun e => absurd (e.symm.trans rfl) (by decide)) (fun _ => ?_)
  refine .skip (.blkN ?_)
  refine .sel0 [1, 2, 3, 4, 5, 6, 7, 8] (by decide) rfl ?_
  exact .US q302 m2 hF
 replace hF := hF.2 q279
 refine .exit (.seqX (.seqX (.blkX ?_)))
 refine .res0 (.inr rfl) rfl (range_done (k := 0) q177 rfl q178 ?_)
 refine .cast (A' := [tru, Box pk2 [.pointer (some pk)], Box pdepth [iV depth], Box pv [.bool false], MkA (D :: []), Box pk (tF k.t ak ck ak2 ck2 ak3 ck3 [vSl ak4 k.sensors ck4, .map (some bk), vSl ta tr tc]), OwnMap bk m2, OwnSl 102 5 ta tr.length tc (flL tr)]) rfl ?_
 refine .blkN (.seqN (.seq (.seq (.region (.V (ld1 rfl tO96 (cellB (off := 0) (k := 1) rfl rfl)) ?_)))))
 refine .V (nck rfl) ?_
 refine .V (fa rfl tF99_1) ?_
 refine .V (ld1 rfl tO22 (cellB (off := 4) (k := 5) rfl rfl)) ?_
 refine .V (ln rfl tS22.is) ?_
 refine .V (mv rfl) ?_
 refine .nil (.seqN (.block ?_))
 refine .sel0 [1, 2, 3, 4, 5, 6, 7] (by decide) rfl ?_
 obtain ⟨I2, μ2, q837, q838⟩ := hF
 refine .loop' (σ := Int × (List UInt8 → Int)) (fun z => I2 z.1 z.2) (fun z => μ2 z.1 z.2) (fun z => [(1, vSl aworlds worlds cworlds), (3, .pointer (some pk2)), (5, .pointer (some pdepth)), (6, .pointer (some pv)), (7, strV ((r3 ++ ([58] : List UInt8)) ++ r4)), (52, vSl ak4 k.sensors ck4), (53, iV ((k.sensors.length : Nat) : Int)), (54, iV z.1)]) (fun z => [Box pk2 [.pointer (some pk)], Box pdepth [iV depth], Box pv [.bool false], MkA (D :: []), Box pk (tF k.t ak ck ak2 ck2 ak3 ck3 [vSl ak4 k.sensors ck4, .map (some bk), vSl ta tr tc]), OwnMap bk z.2, OwnSl 102 5 ta tr.length tc (flL tr)]) (fun _ => h1) (0, m2) q837 sb rfl (FH.le_refl _) ?_
 rintro ⟨t54, m6⟩ q837
 have hF := q838 t54 m6 q837
 show J _ _ _ _ _ [(1, vSl aworlds worlds cworlds), (3, .pointer (some pk2)), (5, .pointer (some pdepth)), (6, .pointer (some pv)), (7, strV ((r3 ++ ([58] : List UInt8)) ++ r4)), (52, vSl ak4 k.sensors ck4), (53, iV ((k.sensors.length : Nat) : Int)), (54, iV t54)] [Box pk2 [.pointer (some pk)], Box pdepth [iV depth], Box pv [.bool false], MkA (D :: []), Box pk (tF k.t ak ck ak2 ck2 ak3 ck3 [vSl ak4 k.sensors ck4, .map (some bk), vSl ta tr tc]), OwnMap bk m6, OwnSl 102 5 ta tr.length tc (flL tr)] h1
 refine .seq (.region (.V (bi rfl rfl rfl) ?_))
 refine .nil (.seqN (.seq ?_))
 refine .cond rfl (fun q841 => ?_) (fun q841 => ?_)
 ·replace hF := hF.1 q841
  refine .skip (.seqN (.seq (.block (.seq (.region ?_)))))
  obtain ⟨q908, hF⟩ := hF
  refine .V (ix rfl rfl tS22 (_q7.ne (by decide) (inb_pos q908)) q908) ?_
  refine .V (ld1 (v := iV (gt k.sensors t54)) rfl tO3 (cellH ((_q7.mono (le1)).elemF q908 (by decide) 0 _ rfl))) ?_
  refine .V (asg rfl) ?_
  refine .nil (.seqN (.seq (.region (.V (mv rfl) ?_))))
  refine .V (mv rfl) ?_
  obtain ⟨q909, hF⟩ := hF
  obtain ⟨r9, q910⟩ : ∃ y_ : List (List Int) × List (List Int), y_ = sp_split worlds (gt k.sensors t54) := ⟨_, rfl⟩
  replace hF := hF r9 q910
  refine clR (α := Option Addr × Nat × Option Addr × Nat) (Φ := fun h1 z => RSl h1 z.1 r9.1 ∧ r9.1.length ≤ z.2.1 ∧ RSl h1 z.2.2.1 r9.2 ∧ r9.2.length ≤ z.2.2.2) (V := fun z => .tuple #[vSl z.1 r9.1 z.2.1, vSl z.2.2.1 r9.2 z.2.2.2]) Tryz.call97 rfl rfl (fun w S => (by rw [q910]; exact c_split S.sub worlds aworlds cworlds (_q9.mono (le1)) _q10 (gt k.sensors t54) q909)) rfl (fun z h31 le31 hz => ?_)
  obtain ⟨a6, c5, a7, c6⟩ := z
  obtain ⟨q911, q912, q913, q914⟩ := hz
  refine .V (mv rfl) ?_
  refine .V (ext rfl rfl) ?_
  refine .V (ext rfl rfl) ?_
  refine .V (asg rfl) ?_
  refine .V (asg rfl) ?_
  refine .nil (.seqN ?_)
  refine .share (σ := Bool × (List UInt8 → Int)) (fun z => F_scan_J2 k K m6 z.1 z.2 t54 I2 μ2) (fun z => [(1, vSl aworlds worlds cworlds), (3, .pointer (some pk2)), (5, .pointer (some pdepth)), (6, .pointer (some pv)), (7, strV ((r3 ++ ([58] : List UInt8)) ++ r4)), (52, vSl ak4 k.sensors ck4), (53, iV ((k.sensors.length : Nat) : Int)), (54, iV t54), (85, .bool z.1)]) (fun z => [Box pk2 [.pointer (some pk)], Box pdepth [iV depth], Box pv [.bool false], MkA (D :: []), Box pk (tF k.t ak ck ak2 ck2 ak3 ck3 [vSl ak4 k.sensors ck4, .map (some bk), vSl ta tr tc]), OwnMap bk z.2, OwnSl 102 5 ta tr.length tc (flL tr)]) (fun _ => h31) ?_ (fun q927 => ?_)
  ·rintro ⟨t85, m8⟩ hF
   show J _ _ _ _ _ [(1, vSl aworlds worlds cworlds), (3, .pointer (some pk2)), (5, .pointer (some pdepth)), (6, .pointer (some pv)), (7, strV ((r3 ++ ([58] : List UInt8)) ++ r4)), (52, vSl ak4 k.sensors ck4), (53, iV ((k.sensors.length : Nat) : Int)), (54, iV t54), (85, .bool t85)] [Box pk2 [.pointer (some pk)], Box pdepth [iV depth], Box pv [.bool false], MkA (D :: []), Box pk (tF k.t ak ck ak2 ck2 ak3 ck3 [vSl ak4 k.sensors ck4, .map (some bk), vSl ta tr tc]), OwnMap bk m8, OwnSl 102 5 ta tr.length tc (flL tr)] h31
   refine .cond rfl (fun q928 => ?_) (fun q928 => ?_)
   ·replace hF := hF.1 q928
    refine .seq (.region ?_)
    refine st (p := pv) (off := 0) (k := 2) (vs := [.bool true]) rfl rfl rfl (fun w => (tO4 w).2) rfl rfl rfl rfl ?_
    refine .cast (A' := [Box pk2 [.pointer (some pk)], Box pdepth [iV depth], Box pv [.bool true], MkA (D :: []), Box pk (tF k.t ak ck ak2 ck2 ak3 ck3 [vSl ak4 k.sensors ck4, .map (some bk), vSl ta tr tc]), OwnMap bk m8, OwnSl 102 5 ta tr.length tc (flL tr)]) rfl ?_
    refine .nil (.seqN (.ret (.blkR (.seqR (.seqR (.blkR (.seqR ?_)))))))
    refine .resM (k := 3) rfl ?_
    obtain ⟨q929, hF⟩ := hF
    refine .closeX (i := 4) (j := 5) (k := 6) (inv := srInv k) (pre := (tF k.t ak ck ak2 ck2 ak3 ck3 [vSl ak4 k.sensors ck4])) (xs := tr) rfl rfl rfl rfl rfl rfl rfl rfl q929 ?_
    refine .res1 rfl (rvC1 rfl tO4 (k := 3) rfl) (fun w' S => ⟨true, hF, rfl, (S.pick (k := 0) rfl).anti (FH.le_trans (le1) (le31))⟩)
   replace hF := hF.2 q928
   refine .skip (.blkN (.seqN (.region (.V (bi rfl rfl rfl) ?_))))
   refine .V (mv rfl) ?_
   refine .nil ?_
   exact .round (wr (t54 + 1), m8) hF.1 hF.2 sb rfl (le31)
  refine .region (.V (mv rfl) ?_)
  refine .V (ln rfl tS35.is) ?_
  refine .V (bi rfl rfl rfl) ?_
  refine .V (mv rfl) ?_
  rcases Bool.eq_false_or_eq_true (decide (0 < ((r9.1.length : Nat) : Int))) with q930 | q930
  ·replace hF := hF.1 q930
   refine .GV (mv rfl) q930 ?_
   refine .GV (ln rfl tS35.is) q930 ?_
   refine .GV (bi rfl rfl rfl) q930 ?_
   refine .V (pkT rfl q930 rfl) ?_
   refine .V (mv rfl) ?_
   rcases Bool.eq_false_or_eq_true (decide (0 < ((r9.2.length : Nat) : Int))) with q931 | q931
   ·replace hF := hF.1 q931
    refine .GV (ld1 rfl tO96 (cellB (off := 0) (k := 0) rfl rfl)) q931 ?_
    refine .GV (mv rfl) q931 ?_
    refine .GV (ld1 rfl tO3 (cellB (off := 0) (k := 1) rfl rfl)) q931 ?_
    refine .GV (bi rfl rfl rfl) q931 ?_
    refine .gR rfl rfl rfl q931 ?_
    obtain ⟨q932, q933, q934, hF⟩ := hF
    obtain ⟨r10, q935⟩ : ∃ y_ : Bool, y_ = sp_scan k r9.1 (wr (depth - 1)) := ⟨_, rfl⟩
    replace hF := hF r10 q935
    refine callS (i := 4) (j := 5) (k := 6) (inv := srInv k) (pre := (tF k.t ak ck ak2 ck2 ak3 ck3 [vSl ak4 k.sensors ck4])) (xs := tr) (v := .bool r10) rfl rfl rfl rfl rfl rfl rfl rfl q932 Tryz.call98 rfl rfl (fun w g hx sg hd hs' => ?_) rfl (fun m9 q936 => ?_)
    ·rw [q935]; exact ih hs' (ht.mono (FH.le_trans (le1) (le31))) k ak ck (_q1.mono (FH.le_trans (le1) (le31))) _q2 ak2 ck2 (_q3.mono (FH.le_trans (le1) (le31))) _q4 ak3 ck3 (_q5.mono (FH.le_trans (le1) (le31))) _q6 ak4 ck4 (_q7.mono (FH.le_trans (le1) (le31))) _q8 pk bk tr ta tc hx sg hd r9.1 a6 c5 q911 q912 (wr (depth - 1)) (by rw [← hm]; exact q934) q933
    replace hF := hF m9 q936
    refine .cast (A' := [Box pk2 [.pointer (some pk)], Box pdepth [iV depth], Box pv [.bool false], MkA (D :: []), Box pk (tF k.t ak ck ak2 ck2 ak3 ck3 [vSl ak4 k.sensors ck4, .map (some bk), vSl ta tr tc]), OwnMap bk m9, OwnSl 102 5 ta tr.length tc (flL tr)]) rfl ?_
    refine .V (pkT rfl q931 rfl) ?_
    refine .V (mv rfl) ?_
    rcases Bool.eq_false_or_eq_true (r10) with q937 | q937
    ·replace hF := hF.1 q937
     refine .GV (ld1 rfl tO96 (cellB (off := 0) (k := 0) rfl rfl)) q937 ?_
     refine .GV (mv rfl) q937 ?_
     refine .GV (ld1 rfl tO3 (cellB (off := 0) (k := 1) rfl rfl)) q937 ?_
     refine .GV (bi rfl rfl rfl) q937 ?_
     refine .gR rfl rfl rfl q937 ?_
     obtain ⟨q938, q939, hF⟩ := hF
     obtain ⟨r11, q940⟩ : ∃ y_ : Bool, y_ = sp_scan k r9.2 (wr (depth - 1)) := ⟨_, rfl⟩
     replace hF := hF r11 q940
     refine callS (i := 4) (j := 5) (k := 6) (inv := srInv k) (pre := (tF k.t ak ck ak2 ck2 ak3 ck3 [vSl ak4 k.sensors ck4])) (xs := tr) (v := .bool r11) rfl rfl rfl rfl rfl rfl rfl rfl q936 Tryz.call98 rfl rfl (fun w g hx sg hd hs' => ?_) rfl (fun m10 q941 => ?_)
     ·rw [q940]; exact ih hs' (ht.mono (FH.le_trans (le1) (le31))) k ak ck (_q1.mono (FH.le_trans (le1) (le31))) _q2 ak2 ck2 (_q3.mono (FH.le_trans (le1) (le31))) _q4 ak3 ck3 (_q5.mono (FH.le_trans (le1) (le31))) _q6 ak4 ck4 (_q7.mono (FH.le_trans (le1) (le31))) _q8 pk bk tr ta tc hx sg hd r9.2 a7 c6 q913 q914 (wr (depth - 1)) (by rw [← hm]; exact q939) q938
     replace hF := hF m10 q941
     refine .cast (A' := [Box pk2 [.pointer (some pk)], Box pdepth [iV depth], Box pv [.bool false], MkA (D :: []), Box pk (tF k.t ak ck ak2 ck2 ak3 ck3 [vSl ak4 k.sensors ck4, .map (some bk), vSl ta tr tc]), OwnMap bk m10, OwnSl 102 5 ta tr.length tc (flL tr)]) rfl ?_
     refine .V (pkT rfl q937 rfl) ?_
     refine .nil ?_
     exact .US q927 (r11, m10) hF
    replace hF := hF.2 q937
    refine .GS q937 ?_
    refine .GS q937 ?_
    refine .GS q937 ?_
    refine .GS q937 ?_
    refine .GS q937 ?_
    refine .V (pkF rfl q937 rfl) ?_
    refine .nil ?_
    exact .US q927 (false, m9) hF
   replace hF := hF.2 q931
   refine .GS q931 ?_
   refine .GS q931 ?_
   refine .GS q931 ?_
   refine .GS q931 ?_
   refine .GS q931 ?_
   refine .V (pkF rfl q931 rfl) ?_
   refine .V (mv rfl) ?_
   refine .gS rfl rfl rfl rfl rfl rfl ?_
   refine .gS rfl rfl rfl rfl rfl rfl ?_
   refine .gS rfl rfl rfl rfl rfl rfl ?_
   refine .gS rfl rfl rfl rfl rfl rfl ?_
   refine .gS rfl rfl rfl rfl rfl rfl ?_
   refine .V (pkF rfl rfl rfl) ?_
   refine .nil ?_
   exact .US q927 (false, m6) hF
  replace hF := hF.2 q930
  refine .GS q930 ?_
  refine .GS q930 ?_
  refine .GS q930 ?_
  refine .V (pkF rfl q930 rfl) ?_
  refine .V (mv rfl) ?_
  refine .gS rfl rfl rfl rfl rfl rfl ?_
  refine .gS rfl rfl rfl rfl rfl rfl ?_
  refine .gS rfl rfl rfl rfl rfl rfl ?_
  refine .gS rfl rfl rfl rfl rfl rfl ?_
  refine .gS rfl rfl rfl rfl rfl rfl ?_
  refine .V (pkF rfl rfl rfl) ?_
  refine .V (mv rfl) ?_
  refine .gS rfl rfl rfl rfl rfl rfl ?_
  refine .gS rfl rfl rfl rfl rfl rfl ?_
  refine .gS rfl rfl rfl rfl rfl rfl ?_
  refine .gS rfl rfl rfl rfl rfl rfl ?_
  refine .gS rfl rfl rfl rfl rfl rfl ?_
  refine .V (pkF rfl rfl rfl) ?_
  refine .nil ?_
  exact .US q927 (false, m6) hF
 replace hF := hF.2 q841
 refine .exit (.seqX (.seqX (.blkX (.seqN (.seq (.region (.V (ld1 rfl tO96 (cellB (off := 0) (k := 0) rfl rfl)) ?_)))))))
 refine .V (nck rfl) ?_
 refine .V (fa rfl tF99_2) ?_
 refine .V (ld1 rfl tO97 (cellB (off := 5) (k := 4) rfl rfl)) ?_
 refine .V (mv rfl) ?_
 refine mu tM97 rfl rfl rfl (kk := 5) rfl ?_
 refine .cast (A' := [Box pk2 [.pointer (some pk)], Box pdepth [iV depth], Box pv [.bool false], MkA (D :: []), Box pk (tF k.t ak ck ak2 ck2 ak3 ck3 [vSl ak4 k.sensors ck4, .map (some bk), vSl ta tr tc]), OwnMap bk (upd m6 ((r3 ++ ([58] : List UInt8)) ++ r4) 1), OwnSl 102 5 ta tr.length tc (flL tr)]) rfl ?_
 refine .nil (.seqN (.seq (.region ?_)))
 refine st (p := pv) (off := 0) (k := 2) (vs := [.bool false]) rfl rfl rfl (fun w => (tO4 w).2) rfl rfl rfl rfl ?_
 refine .cast (A' := [Box pk2 [.pointer (some pk)], Box pdepth [iV depth], Box pv [.bool false], MkA (D :: []), Box pk (tF k.t ak ck ak2 ck2 ak3 ck3 [vSl ak4 k.sensors ck4, .map (some bk), vSl ta tr tc]), OwnMap bk (upd m6 ((r3 ++ ([58] : List UInt8)) ++ r4) 1), OwnSl 102 5 ta tr.length tc (flL tr)]) rfl ?_
 refine .nil (.seqN (.ret ?_))
 refine .resM (k := 3) rfl ?_
 obtain ⟨q942, hF⟩ := hF
 refine .closeX (i := 4) (j := 5) (k := 6) (inv := srInv k) (pre := (tF k.t ak ck ak2 ck2 ak3 ck3 [vSl ak4 k.sensors ck4])) (xs := tr) rfl rfl rfl rfl rfl rfl rfl rfl q942 ?_
 refine .res1 rfl (rvC1 rfl tO4 (k := 3) rfl) (fun w' S => ⟨false, hF, rfl, (S.pick (k := 0) rfl).anti (le1)⟩)
theorem c_scan_ : ∀ (mM : Nat) {h : FH} {w : World} (_ : Sub h w) (_ : TabH Tryz.prog h) (k : Srch) (ak : Option Addr) (ck : Nat) (_q1 : RSl h ak k.t.init) (_q2 : k.t.init.length ≤ ck) (ak2 : Option Addr) (ck2 : Nat) (_q3 : RSl h ak2 k.t.goal) (_q4 : k.t.goal.length ≤ ck2) (ak3 : Option Addr) (ck3 : Nat) (_q5 : RSl h ak3 k.t.ops) (_q6 : k.t.ops.length ≤ ck3) (ak4 : Option Addr) (ck4 : Nat) (_q7 : RSl h ak4 k.sensors) (_q8 : k.sensors.length ≤ ck4) (pk : Addr) (bk : Nat) (tr : List TNode) (ta : Option Addr) (tc : Nat) {gX : FH} (_ : SrX (srInv k) pk [iV k.t.facts, .slice ak k.t.init.length ck, .slice ak2 k.t.goal.length ck2, .slice ak3 k.t.ops.length ck3, .slice ak4 k.sensors.length ck4] bk 102 ta tc tr gX) (_ : Sub gX w) (_ : Disj h gX) (worlds : List (List Int)) (aworlds : Option Addr) (cworlds : Nat) (_q9 : RSl h aworlds worlds) (_q10 : worlds.length ≤ cworlds) (depth : Int) (_ : mu_scan k worlds depth = mM) (_ : pre_scan k worlds depth), Calls Tryz.prog 98 #[.pointer (some pk), .slice aworlds worlds.length cworlds, iV depth] w fun e w' => e = .returned (.bool (sp_scan k worlds depth)) ∧ SH (Kp.ex w h gX) h w' [SrX (srInv k) pk [iV k.t.facts, .slice ak k.t.init.length ck, .slice ak2 k.t.goal.length ck2, .slice ak3 k.t.ops.length ck3, .slice ak4 k.sensors.length ck4] bk 102 ta tc tr] := by
 intro mM
 induction mM using Nat.strongRecOn with
 | _ mM ih =>
  intro h w hs ht k ak ck _q1 _q2 ak2 ck2 _q3 _q4 ak3 ck3 _q5 _q6 ak4 ck4 _q7 _q8 pk bk tr ta tc gX ownX subX disX worlds aworlds cworlds _q9 _q10 depth hm hp
  exact (w_scan hs ht k ak ck _q1 _q2 ak2 ck2 _q3 _q4 ak3 ck3 _q5 _q6 ak4 ck4 _q7 _q8 pk bk tr ta tc ownX subX disX worlds aworlds cworlds _q9 _q10 depth _ rfl (fun hs' ht k ak ck _q1 _q2 ak2 ck2 _q3 _q4 ak3 ck3 _q5 _q6 ak4 ck4 _q7 _q8 pk bk tr ta tc gX ownX subX disX worlds aworlds cworlds _q9 _q10 depth hlt hp => ih _ (hm ▸ hlt) hs' ht k ak ck _q1 _q2 ak2 ck2 _q3 _q4 ak3 ck3 _q5 _q6 ak4 ck4 _q7 _q8 pk bk tr ta tc ownX subX disX worlds aworlds cworlds _q9 _q10 depth rfl hp) (fun r => r = sp_scan k worlds depth) (ok_scan k worlds depth hp)).mono fun _ _ ⟨r, hk, he, hS⟩ => by subst hk; exact ⟨he, hS⟩
theorem c_scan {h : FH} {w : World} (hs : Sub h w) (ht : TabH Tryz.prog h) (k : Srch) (ak : Option Addr) (ck : Nat) (_q1 : RSl h ak k.t.init) (_q2 : k.t.init.length ≤ ck) (ak2 : Option Addr) (ck2 : Nat) (_q3 : RSl h ak2 k.t.goal) (_q4 : k.t.goal.length ≤ ck2) (ak3 : Option Addr) (ck3 : Nat) (_q5 : RSl h ak3 k.t.ops) (_q6 : k.t.ops.length ≤ ck3) (ak4 : Option Addr) (ck4 : Nat) (_q7 : RSl h ak4 k.sensors) (_q8 : k.sensors.length ≤ ck4) (pk : Addr) (bk : Nat) (tr : List TNode) (ta : Option Addr) (tc : Nat) {gX : FH} (ownX : SrX (srInv k) pk [iV k.t.facts, .slice ak k.t.init.length ck, .slice ak2 k.t.goal.length ck2, .slice ak3 k.t.ops.length ck3, .slice ak4 k.sensors.length ck4] bk 102 ta tc tr gX) (subX : Sub gX w) (disX : Disj h gX) (worlds : List (List Int)) (aworlds : Option Addr) (cworlds : Nat) (_q9 : RSl h aworlds worlds) (_q10 : worlds.length ≤ cworlds) (depth : Int) (hp : pre_scan k worlds depth) : Calls Tryz.prog 98 #[.pointer (some pk), .slice aworlds worlds.length cworlds, iV depth] w fun e w' => e = .returned (.bool (sp_scan k worlds depth)) ∧ SH (Kp.ex w h gX) h w' [SrX (srInv k) pk [iV k.t.facts, .slice ak k.t.init.length ck, .slice ak2 k.t.goal.length ck2, .slice ak3 k.t.ops.length ck3, .slice ak4 k.sensors.length ck4] bk 102 ta tc tr] :=
 c_scan_ _ hs ht k ak ck _q1 _q2 ak2 ck2 _q3 _q4 ak3 ck3 _q5 _q6 ak4 ck4 _q7 _q8 pk bk tr ta tc ownX subX disX worlds aworlds cworlds _q9 _q10 depth rfl hp
end Go.Proofs.YtojoehfldbimpaaGreatDoor.Pl

namespace Go.Proofs.YtojoehfldbimpaaGreatDoor.Pl
open Go Go.RowKit
theorem w_sleast {h : FH} {w : World} (hs : Sub h w) (ht : TabH Tryz.prog h) (k : Srch) (ak : Option Addr) (ck : Nat) (_q1 : RSl h ak k.t.init) (_q2 : k.t.init.length ≤ ck) (ak2 : Option Addr) (ck2 : Nat) (_q3 : RSl h ak2 k.t.goal) (_q4 : k.t.goal.length ≤ ck2) (ak3 : Option Addr) (ck3 : Nat) (_q5 : RSl h ak3 k.t.ops) (_q6 : k.t.ops.length ≤ ck3) (ak4 : Option Addr) (ck4 : Nat) (_q7 : RSl h ak4 k.sensors) (_q8 : k.sensors.length ≤ ck4) (pk : Addr) (bk : Nat) (tr : List TNode) (ta : Option Addr) (tc : Nat) {gX : FH} (ownX : SrX (srInv k) pk [iV k.t.facts, .slice ak k.t.init.length ck, .slice ak2 k.t.goal.length ck2, .slice ak3 k.t.ops.length ck3, .slice ak4 k.sensors.length ck4] bk 102 ta tc tr gX) (subX : Sub gX w) (disX : Disj h gX) (worlds : List (List Int)) (aworlds : Option Addr) (cworlds : Nat) (_q9 : RSl h aworlds worlds) (_q10 : worlds.length ≤ cworlds) (most : Int) (K : Int → Prop) (hF : F_sleast k worlds most K) : Calls Tryz.prog 72 #[.pointer (some pk), .slice aworlds worlds.length cworlds, iV most] w fun e w' => ∃ r : Int, K r ∧ e = .returned (iV r) ∧ SH (Kp.ex w h gX) h w' [SrX (srInv k) pk [iV k.t.facts, .slice ak k.t.init.length ck, .slice ak2 k.t.goal.length ck2, .slice ak3 k.t.ops.length ck3, .slice ak4 k.sensors.length ck4] bk 102 ta tc tr] := by
 refine enterX (X := SrX (srInv k) pk (tF k.t ak ck ak2 ck2 ak3 ck3 [vSl ak4 k.sensors ck4]) bk 102 ta tc tr) (args := [.pointer (some pk), vSl aworlds worlds cworlds, iV most]) Tryz.func72 rfl Tryz.ntmps72 rfl hs subX disX ownX ?_
 refine .open1 rfl (fun m q11 => ?_)
 replace hF := hF m q11
 refine .cast (A' := [Box pk (tF k.t ak ck ak2 ck2 ak3 ck3 [vSl ak4 k.sensors ck4, .map (some bk), vSl ta tr tc]), OwnMap bk m, OwnSl 102 5 ta tr.length tc (flL tr)]) rfl ?_
 refine .seq (.region (.V (asg rfl) ?_))
 refine .nil (.seqN (.seq (.seq (.region (.V (mv rfl) ?_)))))
 refine .V (bi rfl rfl rfl) ?_
 refine .V (mv rfl) ?_
 refine .nil (.seqN (.block ?_))
 obtain ⟨I1, μ1, q104, q105⟩ := hF
 refine .loop' (σ := Int × (List UInt8 → Int)) (fun z => I1 z.1 z.2) (fun z => μ1 z.1 z.2) (fun z => [(0, .pointer (some pk)), (1, vSl aworlds worlds cworlds), (9, iV (wr (most + 1))), (10, iV z.1)]) (fun z => [Box pk (tF k.t ak ck ak2 ck2 ak3 ck3 [vSl ak4 k.sensors ck4, .map (some bk), vSl ta tr tc]), OwnMap bk z.2, OwnSl 102 5 ta tr.length tc (flL tr)]) (fun _ => h) (0, m) q104 sb rfl (FH.le_refl _) ?_
 rintro ⟨t10, m2⟩ q104
 have hF := q105 t10 m2 q104
 show J _ _ _ _ _ [(0, .pointer (some pk)), (1, vSl aworlds worlds cworlds), (9, iV (wr (most + 1))), (10, iV t10)] [Box pk (tF k.t ak ck ak2 ck2 ak3 ck3 [vSl ak4 k.sensors ck4, .map (some bk), vSl ta tr tc]), OwnMap bk m2, OwnSl 102 5 ta tr.length tc (flL tr)] h
 refine .seq (.region (.V (bi rfl rfl rfl) ?_))
 refine .nil (.seqN (.seq ?_))
 refine .cond rfl (fun q108 => ?_) (fun q108 => ?_)
 ·replace hF := hF.1 q108
  refine .skip (.seqN (.seq (.block (.seq (.region (.V (mv rfl) ?_))))))
  refine .V (asg rfl) ?_
  refine .nil (.seqN (.seq (.region (.V (mv rfl) ?_))))
  refine .V (mv rfl) ?_
  refine .V (mv rfl) ?_
  obtain ⟨q119, q120, hF⟩ := hF
  obtain ⟨r2, q121⟩ : ∃ y_ : Bool, y_ = sp_scan k worlds t10 := ⟨_, rfl⟩
  replace hF := hF r2 q121
  refine callS (i := 0) (j := 1) (k := 2) (inv := srInv k) (pre := (tF k.t ak ck ak2 ck2 ak3 ck3 [vSl ak4 k.sensors ck4])) (xs := tr) (v := .bool r2) rfl rfl rfl rfl rfl rfl rfl rfl q119 Tryz.call98 rfl rfl (fun w g hx sg hd hs' => ?_) rfl (fun m4 q122 => ?_)
  ·rw [q121]; exact c_scan hs' (ht.mono (FH.le_refl _)) k ak ck _q1 _q2 ak2 ck2 _q3 _q4 ak3 ck3 _q5 _q6 ak4 ck4 _q7 _q8 pk bk tr ta tc hx sg hd worlds aworlds cworlds _q9 _q10 t10 q120
  replace hF := hF m4 q122
  refine .cast (A' := [Box pk (tF k.t ak ck ak2 ck2 ak3 ck3 [vSl ak4 k.sensors ck4, .map (some bk), vSl ta tr tc]), OwnMap bk m4, OwnSl 102 5 ta tr.length tc (flL tr)]) rfl ?_
  refine .nil (.seqN ?_)
  refine .cond rfl (fun q123 => ?_) (fun q123 => ?_)
  ·replace hF := hF.1 q123
   refine .seq (.region (.V (mv rfl) ?_))
   refine .V (asg rfl) ?_
   refine .nil (.seqN (.ret (.blkR (.seqR (.seqR (.blkR (.seqR ?_)))))))
   refine .closeX (i := 0) (j := 1) (k := 2) (inv := srInv k) (pre := (tF k.t ak ck ak2 ck2 ak3 ck3 [vSl ak4 k.sensors ck4])) (xs := tr) rfl rfl rfl rfl rfl rfl rfl rfl q122 ?_
   refine .res1 rfl (rvT rfl) (fun w' S => ⟨t10, hF, rfl, (S.pick (k := 0) rfl)⟩)
  replace hF := hF.2 q123
  refine .skip (.blkN (.seqN (.region (.V (bi rfl rfl rfl) ?_))))
  refine .V (mv rfl) ?_
  refine .nil ?_
  exact .RO (wr (t10 + 1), m4) hF.1 hF.2
 replace hF := hF.2 q108
 refine .exit (.seqX (.seqX (.blkX (.seqN (.seq (.region (.V (asg rfl) ?_)))))))
 refine .nil (.seqN (.ret ?_))
 obtain ⟨q124, hF⟩ := hF
 refine .closeX (i := 0) (j := 1) (k := 2) (inv := srInv k) (pre := (tF k.t ak ck ak2 ck2 ak3 ck3 [vSl ak4 k.sensors ck4])) (xs := tr) rfl rfl rfl rfl rfl rfl rfl rfl q124 ?_
 refine .res1 rfl (rvT rfl) (fun w' S => ⟨(-1), hF, rfl, (S.pick (k := 0) rfl)⟩)
theorem c_sleast {h : FH} {w : World} (hs : Sub h w) (ht : TabH Tryz.prog h) (k : Srch) (ak : Option Addr) (ck : Nat) (_q1 : RSl h ak k.t.init) (_q2 : k.t.init.length ≤ ck) (ak2 : Option Addr) (ck2 : Nat) (_q3 : RSl h ak2 k.t.goal) (_q4 : k.t.goal.length ≤ ck2) (ak3 : Option Addr) (ck3 : Nat) (_q5 : RSl h ak3 k.t.ops) (_q6 : k.t.ops.length ≤ ck3) (ak4 : Option Addr) (ck4 : Nat) (_q7 : RSl h ak4 k.sensors) (_q8 : k.sensors.length ≤ ck4) (pk : Addr) (bk : Nat) (tr : List TNode) (ta : Option Addr) (tc : Nat) {gX : FH} (ownX : SrX (srInv k) pk [iV k.t.facts, .slice ak k.t.init.length ck, .slice ak2 k.t.goal.length ck2, .slice ak3 k.t.ops.length ck3, .slice ak4 k.sensors.length ck4] bk 102 ta tc tr gX) (subX : Sub gX w) (disX : Disj h gX) (worlds : List (List Int)) (aworlds : Option Addr) (cworlds : Nat) (_q9 : RSl h aworlds worlds) (_q10 : worlds.length ≤ cworlds) (most : Int) (hp : pre_sleast k worlds most) : Calls Tryz.prog 72 #[.pointer (some pk), .slice aworlds worlds.length cworlds, iV most] w fun e w' => e = .returned (iV (sp_sleast k worlds most)) ∧ SH (Kp.ex w h gX) h w' [SrX (srInv k) pk [iV k.t.facts, .slice ak k.t.init.length ck, .slice ak2 k.t.goal.length ck2, .slice ak3 k.t.ops.length ck3, .slice ak4 k.sensors.length ck4] bk 102 ta tc tr] :=
 (w_sleast hs ht k ak ck _q1 _q2 ak2 ck2 _q3 _q4 ak3 ck3 _q5 _q6 ak4 ck4 _q7 _q8 pk bk tr ta tc ownX subX disX worlds aworlds cworlds _q9 _q10 most (fun r => r = sp_sleast k worlds most) (ok_sleast k worlds most hp)).mono fun _ _ ⟨r, hk, he, hS⟩ => by subst hk; exact ⟨he, hS⟩
theorem w_sput {h : FH} {w : World} (hs : Sub h w) (k : Srch) (ak : Option Addr) (ck : Nat) (_q1 : RSl h ak k.t.init) (_q2 : k.t.init.length ≤ ck) (ak2 : Option Addr) (ck2 : Nat) (_q3 : RSl h ak2 k.t.goal) (_q4 : k.t.goal.length ≤ ck2) (ak3 : Option Addr) (ck3 : Nat) (_q5 : RSl h ak3 k.t.ops) (_q6 : k.t.ops.length ≤ ck3) (ak4 : Option Addr) (ck4 : Nat) (_q7 : RSl h ak4 k.sensors) (_q8 : k.sensors.length ≤ ck4) (pk : Addr) (bk : Nat) (tr : List TNode) (ta : Option Addr) (tc : Nat) {gX : FH} (ownX : SrX (srInv k) pk [iV k.t.facts, .slice ak k.t.init.length ck, .slice ak2 k.t.goal.length ck2, .slice ak3 k.t.ops.length ck3, .slice ak4 k.sensors.length ck4] bk 102 ta tc tr gX) (subX : Sub gX w) (disX : Disj h gX) (n_ : TNode) (K : (Int × (List TNode)) → Prop) (hF : F_sput k tr n_ K) : Calls Tryz.prog 99 #[.pointer (some pk), .agg #[iV n_.kind, iV n_.op, iV n_.fact, iV n_.yes, iV n_.no]] w fun e w' => ∃ (r : Int × (List TNode)) (a' : Option Addr) (c' : Nat), K r ∧ e = .returned (iV r.1) ∧ SH (Kp.ex w h gX) h w' [SrX (srInv k) pk [iV k.t.facts, .slice ak k.t.init.length ck, .slice ak2 k.t.goal.length ck2, .slice ak3 k.t.ops.length ck3, .slice ak4 k.sensors.length ck4] bk 102 a' c' r.2] := by
 refine enterX (X := SrX (srInv k) pk (tF k.t ak ck ak2 ck2 ak3 ck3 [vSl ak4 k.sensors ck4]) bk 102 ta tc tr) (args := [.pointer (some pk), .agg #[iV n_.kind, iV n_.op, iV n_.fact, iV n_.yes, iV n_.no]]) Tryz.func99 rfl Tryz.ntmps99 rfl hs subX disX ownX ?_
 refine .open1 rfl (fun m q9 => ?_)
 replace hF := hF m q9
 refine .cast (A' := [Box pk (tF k.t ak ck ak2 ck2 ak3 ck3 [vSl ak4 k.sensors ck4, .map (some bk), vSl ta tr tc]), OwnMap bk m, OwnSl 102 5 ta tr.length tc (flL tr)]) rfl ?_
 refine .seq (.region ?_)
 refine bx (vs := [iV n_.kind, iV n_.op, iV n_.fact, iV n_.yes, iV n_.no]) rfl rfl rfl (fun pn => ?_)
 refine .V (asg rfl) ?_
 refine .nil (.seqN (.seq ?_))
 refine .openA (s0 := [(0, .pointer (some pk)), (3, .pointer (some pn))]) [0, 1, 2, 3, 4, 5] [(0, .pointer (some pk)), (1, .pointer (some pk)), (2, .pointer (some pk)), (3, .pointer (some (pk.add 6))), (4, vSl ta tr tc), (5, .agg #[iV n_.kind, iV n_.op, iV n_.fact, iV n_.yes, iV n_.no])] (by kernel_rfl) sb [0, 3] [] rfl (by kernel_rfl) ?_
 refine .step [6] 6 rfl (by kernel_rfl) (by kernel_rfl) (.v [] rfl rfl rfl rfl rfl rfl (fun _ => mv rfl) (.v [] rfl rfl rfl rfl rfl rfl (fun _ => mv rfl) (.v [(6, .pointer (some pk))] rfl rfl rfl rfl rfl rfl (fun _ => nck rfl) (.v [(7, .pointer (some pk))] rfl rfl rfl rfl rfl rfl (fun _ => fa rfl tF99_3) (.v [(8, .pointer (some (pk.add 6)))] rfl rfl rfl rfl rfl rfl (fun _ => ld1 rfl tO60 (cellB (off := 6) (k := 1) rfl rfl)) (.v [] rfl rfl rfl rfl rfl rfl (fun _ => ldA (cs := [iV n_.kind, iV n_.op, iV n_.fact, iV n_.yes, iV n_.no]) rfl tA102 rfl (cellsB (off := 0) (k := 0) rfl (m := 5) rfl)) (.nil))))))) (.cons [(10, .agg #[iV n_.kind, iV n_.op, iV n_.fact, iV n_.yes, iV n_.no])] rfl rfl (fun sL hL => ?_) (.nil))
 refine bs1S (cs := #[iV n_.kind, iV n_.op, iV n_.fact, iV n_.yes, iV n_.no]) tS60 rfl rfl (by decide) rfl rfl (fun a _ => ?_)
 refine .cast (A' := [OwnSl 102 5 a (([n_] : List TNode).length) 1 (flL ([n_] : List TNode)), Box pn [iV n_.kind, iV n_.op, iV n_.fact, iV n_.yes, iV n_.no], Box pk (tF k.t ak ck ak2 ck2 ak3 ck3 [vSl ak4 k.sensors ck4, .map (some bk), vSl ta tr tc]), OwnMap bk m, OwnSl 102 5 ta tr.length tc (flL tr)]) rfl ?_
 refine .nil ?_
 refine .ja (M := [5]) (C' := [0, 1, 2, 3, 4]) (pre := [(6, .slice a (([n_] : List TNode).length) 1)]) [(0, .pointer (some pk)), (3, .pointer (some pn))] [0, 3] hL rfl rfl rfl rfl rfl sb rfl rfl (by kernel_rfl) ?_
 refine .step [7] 7 rfl (by kernel_rfl) (by kernel_rfl) (.v [] rfl rfl rfl rfl rfl rfl (fun _ => mv rfl) (.v [] rfl rfl rfl rfl rfl rfl (fun _ => mv rfl) (.v [(6, .pointer (some pk))] rfl rfl rfl rfl rfl rfl (fun _ => nck rfl) (.v [(7, .pointer (some pk))] rfl rfl rfl rfl rfl rfl (fun _ => fa rfl tF99_3) (.v [(8, .pointer (some (pk.add 6)))] rfl rfl rfl rfl rfl rfl (fun _ => ld1 rfl tO60 (cellB (off := 6) (k := 2) rfl rfl)) (.nil)))))) (.cons [(9, vSl ta tr tc), (11, .slice a (([n_] : List TNode).length) 1)] rfl rfl (fun sL hL => ?_) (.nil))
 obtain ⟨q14, hF⟩ := hF
 have q15 : tr.length + ([n_] : List TNode).length = ((tr ++ ([n_] : List TNode))).length := len_app rfl rfl
 refine app (k := 4) (news := flL ([n_] : List TNode)) (cs' := flL (tr ++ ([n_] : List TNode))) (nm := ((tr ++ ([n_] : List TNode))).length) tS60 rfl (by decide) rfl rfl rfl (by rw [flL_len]; rfl) (srcS (k := 0) rfl) (flL_one _) (room_of q15 q14).1 (room_of q15 q14).2 q15 (flL_append _ _).symm rfl (fun a2 c => ?_)
 refine .cast (A' := [OwnSl 102 5 a (([n_] : List TNode).length) 1 (flL ([n_] : List TNode)), Box pn [iV n_.kind, iV n_.op, iV n_.fact, iV n_.yes, iV n_.no], Box pk (tF k.t ak ck ak2 ck2 ak3 ck3 [vSl ak4 k.sensors ck4, .map (some bk), vSl ta tr tc]), OwnMap bk m, OwnSl 102 5 a2 ((tr ++ ([n_] : List TNode)).length) c (flL (tr ++ ([n_] : List TNode)))]) rfl ?_
 refine .nil ?_
 refine .ja (M := [4, 3, 2, 1]) (C' := [0, 8, 9]) (pre := [(7, .slice a2 ((tr ++ ([n_] : List TNode)).length) c), (8, .pointer (some pk)), (9, .pointer (some (pk.add 6)))]) [(0, .pointer (some pk)), (3, .pointer (some pn))] [0, 3] hL rfl rfl rfl rfl rfl sb rfl rfl (by kernel_rfl) ?_
 refine .step [10] 10 rfl (by kernel_rfl) (by kernel_rfl) (.v [] rfl rfl rfl rfl rfl rfl (fun _ => mv rfl) (.v [(5, .pointer (some pk)), (5, .pointer (some pk)), (6, .pointer (some pk)), (7, .pointer (some pk)), (8, .pointer (some (pk.add 6))), (9, vSl ta tr tc), (10, .agg #[iV n_.kind, iV n_.op, iV n_.fact, iV n_.yes, iV n_.no]), (11, .slice a (([n_] : List TNode).length) 1), (12, .slice a2 ((tr ++ ([n_] : List TNode)).length) c)] rfl rfl rfl rfl rfl rfl (fun _ => nck rfl) (.v [(13, .pointer (some pk)), (5, .pointer (some pk)), (6, .pointer (some pk)), (7, .pointer (some pk)), (8, .pointer (some (pk.add 6))), (9, vSl ta tr tc), (10, .agg #[iV n_.kind, iV n_.op, iV n_.fact, iV n_.yes, iV n_.no]), (11, .slice a (([n_] : List TNode).length) 1), (12, .slice a2 ((tr ++ ([n_] : List TNode)).length) c)] rfl rfl rfl rfl rfl rfl (fun _ => fa rfl tF99_3) (.nil)))) (.cons [(14, .pointer (some (pk.add 6))), (12, .slice a2 ((tr ++ ([n_] : List TNode)).length) c), (12, .slice a2 ((tr ++ ([n_] : List TNode)).length) c), (5, .pointer (some pk)), (6, .pointer (some pk)), (7, .pointer (some pk)), (8, .pointer (some (pk.add 6))), (9, vSl ta tr tc), (10, .agg #[iV n_.kind, iV n_.op, iV n_.fact, iV n_.yes, iV n_.no]), (11, .slice a (([n_] : List TNode).length) 1), (12, .slice a2 ((tr ++ ([n_] : List TNode)).length) c)] rfl rfl (fun sL hL => ?_) (.nil))
 refine st (p := pk) (off := 6) (k := 2) (vs := [.slice a2 ((tr ++ ([n_] : List TNode)).length) c]) rfl rfl rfl (fun w => (tO60 w).2) rfl rfl rfl rfl ?_
 refine .cast (A' := [OwnSl 102 5 a (([n_] : List TNode).length) 1 (flL ([n_] : List TNode)), Box pn [iV n_.kind, iV n_.op, iV n_.fact, iV n_.yes, iV n_.no], Box pk (tF k.t ak ck ak2 ck2 ak3 ck3 [vSl ak4 k.sensors ck4, .map (some bk), .slice a2 ((tr ++ ([n_] : List TNode)).length) c]), OwnMap bk m, OwnSl 102 5 a2 ((tr ++ ([n_] : List TNode)).length) c (flL (tr ++ ([n_] : List TNode)))]) rfl ?_
 refine .nil ?_
 refine .jaN (M := [9, 0, 8]) (C' := []) (pre := []) [0, 3] hL rfl rfl rfl rfl rfl (by kernel_rfl) ?_
 refine .last [(5, .pointer (some pk)), (6, .pointer (some pk)), (7, .pointer (some pk)), (8, .pointer (some (pk.add 6))), (9, vSl ta tr tc), (10, .agg #[iV n_.kind, iV n_.op, iV n_.fact, iV n_.yes, iV n_.no]), (11, .slice a (([n_] : List TNode).length) 1), (12, .slice a2 ((tr ++ ([n_] : List TNode)).length) c), (13, .pointer (some pk)), (14, .pointer (some (pk.add 6)))] rfl (by kernel_rfl) (.nil) rfl ?_
 refine .seqN (.seq (.region (.V (mv rfl) ?_)))
 refine .V (nck rfl) ?_
 refine .V (fa rfl tF99_3) ?_
 refine .V (ld1 rfl tO60 (cellB (off := 6) (k := 2) rfl rfl)) ?_
 refine .V (ln rfl tS60.is) ?_
 obtain ⟨x, q16⟩ : ∃ y_ : Int, y_ = (wr ((((tr ++ ([n_] : List TNode)).length : Nat) : Int) - 1)) := ⟨_, rfl⟩
 replace hF := hF x q16
 refine .v (v := iV x) (by rw [q16]; exact bi rfl rfl rfl) rfl rfl rfl ?_
 refine .V (asg rfl) ?_
 refine .nil (.seqN (.ret ?_))
 refine .closeX (i := 2) (j := 3) (k := 4) (inv := srInv k) (pre := (tF k.t ak ck ak2 ck2 ak3 ck3 [vSl ak4 k.sensors ck4])) (xs := (tr ++ ([n_] : List TNode))) rfl rfl rfl rfl rfl rfl rfl rfl q9 ?_
 refine .res1 rfl (rvT rfl) (fun w' S => ⟨(x, (tr ++ ([n_] : List TNode))), a2, c, hF, rfl, (S.pick (k := 0) rfl)⟩)
theorem c_sput {h : FH} {w : World} (hs : Sub h w) (k : Srch) (ak : Option Addr) (ck : Nat) (_q1 : RSl h ak k.t.init) (_q2 : k.t.init.length ≤ ck) (ak2 : Option Addr) (ck2 : Nat) (_q3 : RSl h ak2 k.t.goal) (_q4 : k.t.goal.length ≤ ck2) (ak3 : Option Addr) (ck3 : Nat) (_q5 : RSl h ak3 k.t.ops) (_q6 : k.t.ops.length ≤ ck3) (ak4 : Option Addr) (ck4 : Nat) (_q7 : RSl h ak4 k.sensors) (_q8 : k.sensors.length ≤ ck4) (pk : Addr) (bk : Nat) (tr : List TNode) (ta : Option Addr) (tc : Nat) {gX : FH} (ownX : SrX (srInv k) pk [iV k.t.facts, .slice ak k.t.init.length ck, .slice ak2 k.t.goal.length ck2, .slice ak3 k.t.ops.length ck3, .slice ak4 k.sensors.length ck4] bk 102 ta tc tr gX) (subX : Sub gX w) (disX : Disj h gX) (n_ : TNode) (hp : pre_sput k tr n_) : Calls Tryz.prog 99 #[.pointer (some pk), .agg #[iV n_.kind, iV n_.op, iV n_.fact, iV n_.yes, iV n_.no]] w fun e w' => ∃ (a' : Option Addr) (c' : Nat), e = .returned (iV (sp_sput k tr n_).1) ∧ SH (Kp.ex w h gX) h w' [SrX (srInv k) pk [iV k.t.facts, .slice ak k.t.init.length ck, .slice ak2 k.t.goal.length ck2, .slice ak3 k.t.ops.length ck3, .slice ak4 k.sensors.length ck4] bk 102 a' c' (sp_sput k tr n_).2] :=
 (w_sput hs k ak ck _q1 _q2 ak2 ck2 _q3 _q4 ak3 ck3 _q5 _q6 ak4 ck4 _q7 _q8 pk bk tr ta tc ownX subX disX n_ (fun r => r = sp_sput k tr n_) (ok_sput k tr n_ hp)).mono fun _ _ ⟨r, a', c', hk, he, hS⟩ => by subst hk; exact ⟨a', c', he, hS⟩
set_option maxHeartbeats 8000000 in
theorem w_sbuild {h : FH} {w : World} (hs : Sub h w) (ht : TabH Tryz.prog h) (k : Srch) (ak : Option Addr) (ck : Nat) (_q1 : RSl h ak k.t.init) (_q2 : k.t.init.length ≤ ck) (ak2 : Option Addr) (ck2 : Nat) (_q3 : RSl h ak2 k.t.goal) (_q4 : k.t.goal.length ≤ ck2) (ak3 : Option Addr) (ck3 : Nat) (_q5 : RSl h ak3 k.t.ops) (_q6 : k.t.ops.length ≤ ck3) (ak4 : Option Addr) (ck4 : Nat) (_q7 : RSl h ak4 k.sensors) (_q8 : k.sensors.length ≤ ck4) (pk : Addr) (bk : Nat) (tr : List TNode) (ta : Option Addr) (tc : Nat) {gX : FH} (ownX : SrX (srInv k) pk [iV k.t.facts, .slice ak k.t.init.length ck, .slice ak2 k.t.goal.length ck2, .slice ak3 k.t.ops.length ck3, .slice ak4 k.sensors.length ck4] bk 102 ta tc tr gX) (subX : Sub gX w) (disX : Disj h gX) (worlds : List (List Int)) (aworlds : Option Addr) (cworlds : Nat) (_q9 : RSl h aworlds worlds) (_q10 : worlds.length ≤ cworlds) (depth : Int) (mM : Nat) (hm : mu_sbuild k tr worlds depth = mM) (ih : ∀ {h : FH} {w : World} (_ : Sub h w) (_ : TabH Tryz.prog h) (k : Srch) (ak : Option Addr) (ck : Nat) (_ : RSl h ak k.t.init) (_ : k.t.init.length ≤ ck) (ak2 : Option Addr) (ck2 : Nat) (_ : RSl h ak2 k.t.goal) (_ : k.t.goal.length ≤ ck2) (ak3 : Option Addr) (ck3 : Nat) (_ : RSl h ak3 k.t.ops) (_ : k.t.ops.length ≤ ck3) (ak4 : Option Addr) (ck4 : Nat) (_ : RSl h ak4 k.sensors) (_ : k.sensors.length ≤ ck4) (pk : Addr) (bk : Nat) (tr : List TNode) (ta : Option Addr) (tc : Nat) {gX : FH} (_ : SrX (srInv k) pk [iV k.t.facts, .slice ak k.t.init.length ck, .slice ak2 k.t.goal.length ck2, .slice ak3 k.t.ops.length ck3, .slice ak4 k.sensors.length ck4] bk 102 ta tc tr gX) (_ : Sub gX w) (_ : Disj h gX) (worlds : List (List Int)) (aworlds : Option Addr) (cworlds : Nat) (_ : RSl h aworlds worlds) (_ : worlds.length ≤ cworlds) (depth : Int) (_ : mu_sbuild k tr worlds depth < mM) (_ : pre_sbuild k tr worlds depth), Calls Tryz.prog 73 #[.pointer (some pk), .slice aworlds worlds.length cworlds, iV depth] w fun e w' => ∃ (a' : Option Addr) (c' : Nat), e = .returned (iV (sp_sbuild k tr worlds depth).1) ∧ SH (Kp.ex w h gX) h w' [SrX (srInv k) pk [iV k.t.facts, .slice ak k.t.init.length ck, .slice ak2 k.t.goal.length ck2, .slice ak3 k.t.ops.length ck3, .slice ak4 k.sensors.length ck4] bk 102 a' c' (sp_sbuild k tr worlds depth).2]) (K : (Int × (List TNode)) → Prop) (hF : F_sbuild k tr worlds depth K) : Calls Tryz.prog 73 #[.pointer (some pk), .slice aworlds worlds.length cworlds, iV depth] w fun e w' => ∃ (r : Int × (List TNode)) (a' : Option Addr) (c' : Nat), K r ∧ e = .returned (iV r.1) ∧ SH (Kp.ex w h gX) h w' [SrX (srInv k) pk [iV k.t.facts, .slice ak k.t.init.length ck, .slice ak2 k.t.goal.length ck2, .slice ak3 k.t.ops.length ck3, .slice ak4 k.sensors.length ck4] bk 102 a' c' r.2] := by
 refine enterXM (X := SrX (srInv k) pk (tF k.t ak ck ak2 ck2 ak3 ck3 [vSl ak4 k.sensors ck4]) bk 102 ta tc tr) (args := [.pointer (some pk), vSl aworlds worlds cworlds, iV depth]) Tryz.func73 rfl Tryz.ntmps73 rfl hs subX disX ownX ?_
 refine .open1 rfl (fun m q11 => ?_)
 replace hF := hF m q11
 refine .mk0 ?_
 refine .cast (A' := [MkA [], Box pk (tF k.t ak ck ak2 ck2 ak3 ck3 [vSl ak4 k.sensors ck4, .map (some bk), vSl ta tr tc]), OwnMap bk m, OwnSl 102 5 ta tr.length tc (flL tr)]) rfl ?_
 refine .seq (.region ?_)
 refine bx (vs := [.pointer (some pk)]) rfl rfl rfl (fun pk2 => ?_)
 refine bx (vs := [iV depth]) rfl rfl rfl (fun pdepth => ?_)
 refine al tZ3 rfl (fun pv => ?_)
 refine .nil (.seqN (.seq (.seq (.region (.V (ld1 rfl tO3 (cellB (off := 0) (k := 1) rfl rfl)) ?_)))))
 refine .V (bi rfl rfl rfl) ?_
 refine .nil (.seqN ?_)
 refine .cond rfl (fun q16 => ?_) (fun q16 => ?_)
 ·replace hF := hF.1 q16
  refine .seq (.region (.V (ld1 rfl tO96 (cellB (off := 0) (k := 2) rfl rfl)) ?_))
  refine .V (bld (cs := #[iV 1, iV 0, iV 0, iV 0, iV 0]) (pv := [(0, iV 1)]) tB102 rfl rfl) ?_
  obtain ⟨q17, hF⟩ := hF
  obtain ⟨r2, q18⟩ : ∃ y_ : Int × (List TNode), y_ = sp_sput k tr (⟨1, 0, 0, 0, 0⟩ : TNode) := ⟨_, rfl⟩
  replace hF := hF r2 q18
  refine callSE (i := 4) (j := 5) (k := 6) (inv := srInv k) (pre := (tF k.t ak ck ak2 ck2 ak3 ck3 [vSl ak4 k.sensors ck4])) (xs := tr) (xs' := r2.2) (v := iV r2.1) rfl rfl rfl rfl rfl rfl rfl rfl q11 Tryz.call99 rfl rfl (fun w g hx sg hd hs' => ?_) rfl (fun ta2 tc2 m2 q19 => ?_)
  ·rw [q18]; exact c_sput hs' k ak ck _q1 _q2 ak2 ck2 _q3 _q4 ak3 ck3 _q5 _q6 ak4 ck4 _q7 _q8 pk bk tr ta tc hx sg hd (⟨1, 0, 0, 0, 0⟩ : TNode) q17
  replace hF := hF m2 q19
  refine .cast (A' := [Box pv [iV 0], Box pdepth [iV depth], Box pk2 [.pointer (some pk)], MkA [], Box pk (tF k.t ak ck ak2 ck2 ak3 ck3 [vSl ak4 k.sensors ck4, .map (some bk), vSl ta2 r2.2 tc2]), OwnMap bk m2, OwnSl 102 5 ta2 r2.2.length tc2 (flL r2.2)]) rfl ?_
  refine st (p := pv) (off := 0) (k := 0) (vs := [iV r2.1]) rfl rfl rfl (fun w => (tO3 w).2) rfl rfl rfl rfl ?_
  refine .cast (A' := [Box pv [iV r2.1], Box pdepth [iV depth], Box pk2 [.pointer (some pk)], MkA [], Box pk (tF k.t ak ck ak2 ck2 ak3 ck3 [vSl ak4 k.sensors ck4, .map (some bk), vSl ta2 r2.2 tc2]), OwnMap bk m2, OwnSl 102 5 ta2 r2.2.length tc2 (flL r2.2)]) rfl ?_
  refine .nil (.seqN (.ret (.seqR ?_)))
  refine .resM (k := 3) rfl ?_
  refine .closeX (i := 4) (j := 5) (k := 6) (inv := srInv k) (pre := (tF k.t ak ck ak2 ck2 ak3 ck3 [vSl ak4 k.sensors ck4])) (xs := r2.2) rfl rfl rfl rfl rfl rfl rfl rfl q19 ?_
  refine .res1 rfl (rvC1 rfl tO3 (k := 1) rfl) (fun w' S => ⟨(r2.1, r2.2), ta2, tc2, hF, rfl, (S.pick (k := 0) rfl)⟩)
 replace hF := hF.2 q16
 refine .skip (.seqN (.seq (.seq (.region (.V (ld1 rfl tO96 (cellB (off := 0) (k := 2) rfl rfl)) ?_)))))
 refine .V (nck rfl) ?_
 refine .V (fa rfl tF99_0) ?_
 refine .V (ldA (cs := (tF k.t ak ck ak2 ck2 ak3 ck3)) rfl tA25 rfl (cellsB (off := 0) (k := 4) rfl (m := 4) rfl)) ?_
 refine .V (mv rfl) ?_
 obtain ⟨r3, q20⟩ : ∃ y_ : Unit, y_ = sp_succ k.t worlds := ⟨_, rfl⟩
 replace hF := hF r3 q20
 refine clR (α := Addr × Addr) (Φ := fun h1 z => CellsAt h1 z.1 (tF k.t ak ck ak2 ck2 ak3 ck3) ∧ CellsAt h1 z.2 [vSl aworlds worlds cworlds]) (V := fun z => .func (.func 103) #[] #[.pointer (some z.1), .pointer (some z.2)]) Tryz.call81 rfl rfl (fun w S => (by exact c_succ S.sub k.t ak ck _q1 _q2 ak2 ck2 _q3 _q4 ak3 ck3 _q5 _q6 worlds aworlds cworlds _q9 _q10 )) rfl (fun z h1 le1 hz => ?_)
 obtain ⟨p, p2⟩ := z
 obtain ⟨q21, q22⟩ := hz
 refine .nil (.seqN (.block ?_))
 refine .sub (s' := [(1, vSl aworlds worlds cworlds), (3, .pointer (some pk2)), (5, .pointer (some pdepth)), (6, .pointer (some pv)), (27, .func (.func 103) #[] #[.pointer (some p), .pointer (some p2)])]) sb ?_
 refine .rangeF (k := 3) (caps := [.pointer (some p), .pointer (some p2)]) rfl rfl Tryz.func103 rfl Tryz.ntmps103 rfl Tryz.call103 (fun l D LA a q249 q250 => ?_)
 refine .cast (A' := [LA .ready none, Box pv [iV 0], Box pdepth [iV depth], Box pk2 [.pointer (some pk)], MkA (D :: []), Box pk (tF k.t ak ck ak2 ck2 ak3 ck3 [vSl ak4 k.sensors ck4, .map (some bk), vSl ta tr tc]), OwnMap bk m, OwnSl 102 5 ta tr.length tc (flL tr)]) rfl ?_
 refine .seq (.region (.V (fa rfl tF25_3) ?_))
 refine .V (ld1 (v := vSl ak3 k.t.ops ck3) rfl tO23 (cellH (CellsAt.mono (FH.le_refl _) q21 3 _ rfl))) ?_
 refine .V (ln rfl tS23.is) ?_
 refine .V (mv rfl) ?_
 refine .nil (.seqN (.block ?_))
 refine .sel0 [0, 3, 2, 1, 4, 5, 6, 7] (by decide) rfl ?_
 obtain ⟨I1, μ1, q399, q400⟩ := hF
 refine .loop' (σ := Int × (List UInt8 → Int)) (fun z => I1 z.1 z.2) (fun z => μ1 z.1 z.2) (fun z => [(0, .func (.yield l) #[] #[]), (1, .pointer (some p)), (2, .pointer (some p2)), (7, vSl ak3 k.t.ops ck3), (8, iV ((k.t.ops.length : Nat) : Int)), (9, iV z.1)]) (fun z => [LA .ready none, Box pk2 [.pointer (some pk)], Box pdepth [iV depth], Box pv [iV 0], MkA (D :: []), Box pk (tF k.t ak ck ak2 ck2 ak3 ck3 [vSl ak4 k.sensors ck4, .map (some bk), vSl ta tr tc]), OwnMap bk z.2, OwnSl 102 5 ta tr.length tc (flL tr)]) (fun _ => h1) (0, m) q399 sb rfl (FH.le_refl _) ?_
 rintro ⟨d, m3⟩ q399
 have hF := q400 d m3 q399
 show J _ _ _ _ _ [(0, .func (.yield l) #[] #[]), (1, .pointer (some p)), (2, .pointer (some p2)), (7, vSl ak3 k.t.ops ck3), (8, iV ((k.t.ops.length : Nat) : Int)), (9, iV d)] [LA .ready none, Box pk2 [.pointer (some pk)], Box pdepth [iV depth], Box pv [iV 0], MkA (D :: []), Box pk (tF k.t ak ck ak2 ck2 ak3 ck3 [vSl ak4 k.sensors ck4, .map (some bk), vSl ta tr tc]), OwnMap bk m3, OwnSl 102 5 ta tr.length tc (flL tr)] h1
 refine .seq (.region (.V (bi rfl rfl rfl) ?_))
 refine .nil (.seqN (.seq ?_))
 refine .cond rfl (fun q403 => ?_) (fun q403 => ?_)
 ·replace hF := hF.1 q403
  refine .skip (.seqN ?_)
  refine .share (σ := (List UInt8 → Int)) (fun z => F_sbuild_J1 m3 z d I1 μ1) (fun _ => [(0, .func (.yield l) #[] #[]), (1, .pointer (some p)), (2, .pointer (some p2)), (7, vSl ak3 k.t.ops ck3), (8, iV ((k.t.ops.length : Nat) : Int)), (9, iV d)]) (fun z => [LA .ready none, Box pk2 [.pointer (some pk)], Box pdepth [iV depth], Box pv [iV 0], MkA (D :: []), Box pk (tF k.t ak ck ak2 ck2 ak3 ck3 [vSl ak4 k.sensors ck4, .map (some bk), vSl ta tr tc]), OwnMap bk z, OwnSl 102 5 ta tr.length tc (flL tr)]) (fun _ => h1) ?_ (fun q439 => ?_)
  ·rintro m5 hF
   show J _ _ _ _ _ [(0, .func (.yield l) #[] #[]), (1, .pointer (some p)), (2, .pointer (some p2)), (7, vSl ak3 k.t.ops ck3), (8, iV ((k.t.ops.length : Nat) : Int)), (9, iV d)] [LA .ready none, Box pk2 [.pointer (some pk)], Box pdepth [iV depth], Box pv [iV 0], MkA (D :: []), Box pk (tF k.t ak ck ak2 ck2 ak3 ck3 [vSl ak4 k.sensors ck4, .map (some bk), vSl ta tr tc]), OwnMap bk m5, OwnSl 102 5 ta tr.length tc (flL tr)] h1
   refine .region (.V (bi rfl rfl rfl) ?_)
   refine .V (mv rfl) ?_
   refine .nil ?_
   exact .RO (wr (d + 1), m5) hF.1 hF.2
  refine .block (.seq (.region (.V (mv rfl) ?_)))
  obtain ⟨q440, hF⟩ := hF
  refine .V (ix rfl rfl tS23 (_q5.ne (by decide) (inb_pos q440)) q440) ?_
  obtain ⟨_, ⟨a2, c, a3, c2, a4, c3, rfl, ⟨q441, q442⟩, ⟨q443, q444⟩, q445, q446⟩, q447⟩ := _q5.elem q440
  refine .V (ldA (cs := [.slice a2 ((gt k.t.ops d).pre.length) c, .slice a3 ((gt k.t.ops d).add.length) c2, .slice a4 ((gt k.t.ops d).del.length) c3, iV ((gt k.t.ops d).cost)]) rfl tA54 rfl (cellsH ((fun q => (q447 q).mono (le1)) (by decide)))) ?_
  refine al tZ54 rfl (fun pdepth2 => ?_)
  refine .V (asg rfl) ?_
  refine st (p := pdepth2) (off := 0) (k := 0) (vs := [.slice a2 ((gt k.t.ops d).pre.length) c, .slice a3 ((gt k.t.ops d).add.length) c2, .slice a4 ((gt k.t.ops d).del.length) c3, iV ((gt k.t.ops d).cost)]) rfl rfl rfl (fun w => (tA54 w).2) rfl rfl rfl rfl ?_
  refine .cast (A' := [Box pdepth2 [.slice a2 ((gt k.t.ops d).pre.length) c, .slice a3 ((gt k.t.ops d).add.length) c2, .slice a4 ((gt k.t.ops d).del.length) c3, iV ((gt k.t.ops d).cost)], LA .ready none, Box pk2 [.pointer (some pk)], Box pdepth [iV depth], Box pv [iV 0], MkA (D :: []), Box pk (tF k.t ak ck ak2 ck2 ak3 ck3 [vSl ak4 k.sensors ck4, .map (some bk), vSl ta tr tc]), OwnMap bk m3, OwnSl 102 5 ta tr.length tc (flL tr)]) rfl ?_
  refine .nil (.seqN (.seq (.region (.V (ld1 (v := vSl aworlds worlds cworlds) rfl tO35 (cellH (CellsAt.mono (FH.le_refl _) q22 0 _ rfl))) ?_))))
  refine .V (fa rfl tF54_0) ?_
  refine .V (ld1 rfl tO22 (cellB (off := 0) (k := 0) rfl rfl)) ?_
  obtain ⟨q448, hF⟩ := hF
  obtain ⟨r4, q449⟩ : ∃ y_ : Bool, y_ = sp_sure worlds ((gt k.t.ops d).pre) := ⟨_, rfl⟩
  replace hF := hF r4 q449
  refine .C (cl (v := .bool r4) Tryz.call52 rfl rfl (fun w S => (by rw [q449]; exact c_sure S.sub worlds aworlds cworlds (_q9.mono (le1)) _q10 ((gt k.t.ops d).pre) a2 c (q442.mono (le1)) q441 q448))) ?_
  refine .V (mv rfl) ?_
  rcases Bool.eq_false_or_eq_true (r4) with q450 | q450
  ·replace hF := hF.1 q450
   refine .GV (mv rfl) q450 ?_
   refine .GV (mv rfl) q450 ?_
   refine .GV (ldA (cs := (tF k.t ak ck ak2 ck2 ak3 ck3)) rfl tA25 rfl (cellsH (q21.mono (FH.le_refl _)))) q450 ?_
   refine .GV (ld1 (v := vSl aworlds worlds cworlds) rfl tO35 (cellH (CellsAt.mono (FH.le_refl _) q22 0 _ rfl))) q450 ?_
   refine .GV (mv rfl) q450 ?_
   obtain ⟨q451, hF⟩ := hF
   obtain ⟨r5, q452⟩ : ∃ y_ : List (List Int), y_ = sp_bafter k.t worlds d := ⟨_, rfl⟩
   replace hF := hF r5 q452
   refine .gR rfl rfl rfl q450 ?_
   refine clR (α := Option Addr × Nat) (Φ := fun h1 z => RSl h1 z.1 r5 ∧ r5.length ≤ z.2) (V := fun z => vSl z.1 r5 z.2) Tryz.call60 rfl rfl (fun w S => (by rw [q452]; exact c_bafter S.sub k.t ak ck (_q1.mono (le1)) _q2 ak2 ck2 (_q3.mono (le1)) _q4 ak3 ck3 (_q5.mono (le1)) _q6 worlds aworlds cworlds (_q9.mono (le1)) _q10 d q451)) rfl (fun z h13 le13 hz => ?_)
   obtain ⟨a5, c4⟩ := z
   obtain ⟨q453, q454⟩ := hz
   refine .gR rfl rfl rfl q450 ?_
   refine .yld (k := 1) (vs := [iV d, vSl a5 r5 c4]) q249 rfl rfl rfl rfl rfl (fun aG q455 => ?_)
   refine .sub (s' := [(3, .pointer (some pk2)), (5, .pointer (some pdepth)), (6, .pointer (some pv)), (28, iV d), (29, vSl a5 r5 c4)]) sb ?_
   refine .seq (.region (.V (asg rfl) ?_))
   refine .nil (.seqN (.region (.V (asg rfl) ?_)))
   refine .nil ?_
   refine .begin_ (k := 1) q249 rfl ?_
   refine .cast (A' := [Box pdepth2 [.slice a2 ((gt k.t.ops d).pre.length) c, .slice a3 ((gt k.t.ops d).add.length) c2, .slice a4 ((gt k.t.ops d).del.length) c3, iV ((gt k.t.ops d).cost)], LA .busy none, Box pk2 [.pointer (some pk)], Box pdepth [iV depth], Box pv [iV 0], MkA (D :: []), Box pk (tF k.t ak ck ak2 ck2 ak3 ck3 [vSl ak4 k.sensors ck4, .map (some bk), vSl ta tr tc]), OwnMap bk m3, OwnSl 102 5 ta tr.length tc (flL tr)]) rfl ?_
   refine .block (.seq (.region (.V (ld1 rfl tO96 (cellB (off := 0) (k := 2) rfl rfl)) ?_)))
   refine .V (mv rfl) ?_
   refine .V (ld1 rfl tO3 (cellB (off := 0) (k := 3) rfl rfl)) ?_
   refine .V (bi rfl rfl rfl) ?_
   obtain ⟨q456, q457, hF⟩ := hF
   obtain ⟨r6, q458⟩ : ∃ y_ : Int, y_ = sp_sleast k r5 (wr (depth - 1)) := ⟨_, rfl⟩
   replace hF := hF r6 q458
   refine callS (i := 6) (j := 7) (k := 8) (inv := srInv k) (pre := (tF k.t ak ck ak2 ck2 ak3 ck3 [vSl ak4 k.sensors ck4])) (xs := tr) (v := iV r6) rfl rfl rfl rfl rfl rfl rfl rfl q456 Tryz.call72 rfl rfl (fun w g hx sg hd hs' => ?_) rfl (fun m6 q459 => ?_)
   ·rw [q458]; exact c_sleast hs' (ht.mono (FH.le_trans (le1) (le13))) k ak ck (_q1.mono (FH.le_trans (le1) (le13))) _q2 ak2 ck2 (_q3.mono (FH.le_trans (le1) (le13))) _q4 ak3 ck3 (_q5.mono (FH.le_trans (le1) (le13))) _q6 ak4 ck4 (_q7.mono (FH.le_trans (le1) (le13))) _q8 pk bk tr ta tc hx sg hd r5 a5 c4 q453 q454 (wr (depth - 1)) q457
   replace hF := hF m6 q459
   refine .cast (A' := [Box pdepth2 [.slice a2 ((gt k.t.ops d).pre.length) c, .slice a3 ((gt k.t.ops d).add.length) c2, .slice a4 ((gt k.t.ops d).del.length) c3, iV ((gt k.t.ops d).cost)], LA .busy none, Box pk2 [.pointer (some pk)], Box pdepth [iV depth], Box pv [iV 0], MkA (D :: []), Box pk (tF k.t ak ck ak2 ck2 ak3 ck3 [vSl ak4 k.sensors ck4, .map (some bk), vSl ta tr tc]), OwnMap bk m6, OwnSl 102 5 ta tr.length tc (flL tr)]) rfl ?_
   refine .V (asg rfl) ?_
   refine .nil (.seqN (.seq (.region (.V (mv rfl) ?_))))
   refine .V (bi rfl rfl rfl) ?_
   refine .nil (.seqN ?_)
   refine .cond rfl (fun q460 => ?_) (fun q460 => ?_)
   ·replace hF := hF.1 q460
    refine .seq ?_
    refine .openA (s0 := [(3, .pointer (some pk2)), (6, .pointer (some pv)), (7, iV d), (8, vSl a5 r5 c4), (9, iV r6)]) [0, 1, 2, 3, 4] [(0, .pointer (some pk)), (1, iV d), (2, .pointer (some pk)), (3, vSl a5 r5 c4), (4, iV r6)] (by kernel_rfl) sb [3, 6, 7, 8, 9] [] rfl (by kernel_rfl) ?_
    refine .step [5] 5 rfl (by kernel_rfl) (by kernel_rfl) (.v [] rfl rfl rfl rfl rfl rfl (fun _ => ld1 rfl tO96 (cellB (off := 0) (k := 2) rfl rfl)) (.v [] rfl rfl rfl rfl rfl rfl (fun _ => mv rfl) (.v [] rfl rfl rfl rfl rfl rfl (fun _ => ld1 rfl tO96 (cellB (off := 0) (k := 2) rfl rfl)) (.v [] rfl rfl rfl rfl rfl rfl (fun _ => mv rfl) (.v [] rfl rfl rfl rfl rfl rfl (fun _ => mv rfl) (.nil)))))) (.cons [(39, .pointer (some pk)), (40, vSl a5 r5 c4), (41, iV r6)] rfl rfl (fun sL hL => ?_) (.nil))
    obtain ⟨q468, q469, hF⟩ := hF
    obtain ⟨r7, q470⟩ : ∃ y_ : Int × (List TNode), y_ = sp_sbuild k tr r5 r6 := ⟨_, rfl⟩
    replace hF := hF r7 q470
    refine callSE (i := 6) (j := 7) (k := 8) (inv := srInv k) (pre := (tF k.t ak ck ak2 ck2 ak3 ck3 [vSl ak4 k.sensors ck4])) (xs := tr) (xs' := r7.2) (v := iV r7.1) rfl rfl rfl rfl rfl rfl rfl rfl q459 Tryz.call73 rfl rfl (fun w g hx sg hd hs' => ?_) rfl (fun ta3 tc3 m7 q471 => ?_)
    ·rw [q470]; exact ih hs' (ht.mono (FH.le_trans (le1) (le13))) k ak ck (_q1.mono (FH.le_trans (le1) (le13))) _q2 ak2 ck2 (_q3.mono (FH.le_trans (le1) (le13))) _q4 ak3 ck3 (_q5.mono (FH.le_trans (le1) (le13))) _q6 ak4 ck4 (_q7.mono (FH.le_trans (le1) (le13))) _q8 pk bk tr ta tc hx sg hd r5 a5 c4 q453 q454 r6 (by rw [← hm]; exact q469) q468
    replace hF := hF m7 q471
    refine .cast (A' := [Box pdepth2 [.slice a2 ((gt k.t.ops d).pre.length) c, .slice a3 ((gt k.t.ops d).add.length) c2, .slice a4 ((gt k.t.ops d).del.length) c3, iV ((gt k.t.ops d).cost)], LA .busy none, Box pk2 [.pointer (some pk)], Box pdepth [iV depth], Box pv [iV 0], MkA (D :: []), Box pk (tF k.t ak ck ak2 ck2 ak3 ck3 [vSl ak4 k.sensors ck4, .map (some bk), vSl ta3 r7.2 tc3]), OwnMap bk m7, OwnSl 102 5 ta3 r7.2.length tc3 (flL r7.2)]) rfl ?_
    refine .nil ?_
    refine .ja (M := [2, 3, 4]) (C' := [0, 1, 6]) (pre := [(5, iV r7.1), (6, .agg #[iV 2, iV d, iV 0, iV r7.1, iV 0])]) [(3, .pointer (some pk2)), (6, .pointer (some pv)), (7, iV d), (8, vSl a5 r5 c4), (9, iV r6)] [3, 6, 7, 8, 9] hL rfl rfl rfl rfl rfl sb rfl rfl (by kernel_rfl) ?_
    refine .step [7] 7 rfl (by kernel_rfl) (by kernel_rfl) (.v [] rfl rfl rfl rfl rfl rfl (fun _ => ld1 rfl tO96 (cellB (off := 0) (k := 2) rfl rfl)) (.v [] rfl rfl rfl rfl rfl rfl (fun _ => mv rfl) (.v [(38, iV d), (42, iV r7.1)] rfl rfl rfl rfl rfl rfl (fun _ => bld (cs := #[iV 2, iV d, iV 0, iV r7.1, iV 0]) (pv := [(0, iV 2), (1, iV d), (3, iV r7.1)]) tB102 rfl rfl) (.nil)))) (.cons [(37, .pointer (some pk)), (43, .agg #[iV 2, iV d, iV 0, iV r7.1, iV 0]), (42, iV r7.1)] rfl rfl (fun sL hL => ?_) (.nil))
    obtain ⟨q472, hF⟩ := hF
    obtain ⟨r8, q473⟩ : ∃ y_ : Int × (List TNode), y_ = sp_sput k r7.2 (⟨2, d, 0, r7.1, 0⟩ : TNode) := ⟨_, rfl⟩
    replace hF := hF r8 q473
    refine callSE (i := 6) (j := 7) (k := 8) (inv := srInv k) (pre := (tF k.t ak ck ak2 ck2 ak3 ck3 [vSl ak4 k.sensors ck4])) (xs := r7.2) (xs' := r8.2) (v := iV r8.1) rfl rfl rfl rfl rfl rfl rfl rfl q471 Tryz.call99 rfl rfl (fun w g hx sg hd hs' => ?_) rfl (fun ta4 tc4 m8 q474 => ?_)
    ·rw [q473]; exact c_sput hs' k ak ck (_q1.mono (FH.le_trans (le1) (le13))) _q2 ak2 ck2 (_q3.mono (FH.le_trans (le1) (le13))) _q4 ak3 ck3 (_q5.mono (FH.le_trans (le1) (le13))) _q6 ak4 ck4 (_q7.mono (FH.le_trans (le1) (le13))) _q8 pk bk r7.2 ta3 tc3 hx sg hd (⟨2, d, 0, r7.1, 0⟩ : TNode) q472
    replace hF := hF m8 q474
    refine .cast (A' := [Box pdepth2 [.slice a2 ((gt k.t.ops d).pre.length) c, .slice a3 ((gt k.t.ops d).add.length) c2, .slice a4 ((gt k.t.ops d).del.length) c3, iV ((gt k.t.ops d).cost)], LA .busy none, Box pk2 [.pointer (some pk)], Box pdepth [iV depth], Box pv [iV 0], MkA (D :: []), Box pk (tF k.t ak ck ak2 ck2 ak3 ck3 [vSl ak4 k.sensors ck4, .map (some bk), vSl ta4 r8.2 tc4]), OwnMap bk m8, OwnSl 102 5 ta4 r8.2.length tc4 (flL r8.2)]) rfl ?_
    refine .nil ?_
    refine .ja (M := [0, 6, 1]) (C' := []) (pre := [(7, iV r8.1)]) [(3, .pointer (some pk2)), (6, .pointer (some pv)), (7, iV d), (8, vSl a5 r5 c4), (9, iV r6)] [3, 6, 7, 8, 9] hL rfl rfl rfl rfl rfl sb rfl rfl (by kernel_rfl) ?_
    refine .step [8] 8 rfl (by kernel_rfl) (by kernel_rfl) (.nil) (.cons [(44, iV r8.1), (44, iV r8.1), (37, .pointer (some pk)), (38, iV d), (39, .pointer (some pk)), (40, vSl a5 r5 c4), (41, iV r6), (42, iV r7.1), (43, .agg #[iV 2, iV d, iV 0, iV r7.1, iV 0]), (44, iV r8.1)] rfl rfl (fun sL hL => ?_) (.nil))
    refine st (p := pv) (off := 0) (k := 4) (vs := [iV r8.1]) rfl rfl rfl (fun w => (tO3 w).2) rfl rfl rfl rfl ?_
    refine .cast (A' := [Box pdepth2 [.slice a2 ((gt k.t.ops d).pre.length) c, .slice a3 ((gt k.t.ops d).add.length) c2, .slice a4 ((gt k.t.ops d).del.length) c3, iV ((gt k.t.ops d).cost)], LA .busy none, Box pk2 [.pointer (some pk)], Box pdepth [iV depth], Box pv [iV r8.1], MkA (D :: []), Box pk (tF k.t ak ck ak2 ck2 ak3 ck3 [vSl ak4 k.sensors ck4, .map (some bk), vSl ta4 r8.2 tc4]), OwnMap bk m8, OwnSl 102 5 ta4 r8.2.length tc4 (flL r8.2)]) rfl ?_
    refine .nil ?_
    refine .jaN (M := []) (C' := []) (pre := []) [3, 6, 7, 8, 9] hL rfl rfl rfl rfl rfl (by kernel_rfl) ?_
    refine .last [(37, .pointer (some pk)), (38, iV d), (39, .pointer (some pk)), (40, vSl a5 r5 c4), (41, iV r6), (42, iV r7.1), (43, .agg #[iV 2, iV d, iV 0, iV r7.1, iV 0]), (44, iV r8.1)] rfl (by kernel_rfl) (.nil) rfl ?_
    refine .seqN (.ret (.blkR ?_))
    refine .rdR (k := 1) q249 rfl q455 rfl ?_
    refine .cast (A' := [Box pdepth2 [.slice a2 ((gt k.t.ops d).pre.length) c, .slice a3 ((gt k.t.ops d).add.length) c2, .slice a4 ((gt k.t.ops d).del.length) c3, iV ((gt k.t.ops d).cost)], LA .done (some .ret), Box pk2 [.pointer (some pk)], Box pdepth [iV depth], Box pv [iV r8.1], MkA (D :: []), Box pk (tF k.t ak ck ak2 ck2 ak3 ck3 [vSl ak4 k.sensors ck4, .map (some bk), vSl ta4 r8.2 tc4]), OwnMap bk m8, OwnSl 102 5 ta4 r8.2.length tc4 (flL r8.2)]) rfl ?_
    refine .GV (nt rfl) q450 ?_
    refine .V (pkT rfl q450 rfl) ?_
    refine .nil (.seqN ?_)
    refine .cond rfl (fun _ => ?_) (fun e => absurd (e.symm.trans rfl) (by decide))
    refine .ret (.blkR (.seqR (.seqR (.blkR ?_))))
    refine .res0 (.inl rfl) rfl (range_jump (k := 1) q249 rfl q250 ?_)
    refine .cast (A' := [Box pdepth2 [.slice a2 ((gt k.t.ops d).pre.length) c, .slice a3 ((gt k.t.ops d).add.length) c2, .slice a4 ((gt k.t.ops d).del.length) c3, iV ((gt k.t.ops d).cost)], tru, Box pk2 [.pointer (some pk)], Box pdepth [iV depth], Box pv [iV r8.1], MkA (D :: []), Box pk (tF k.t ak ck ak2 ck2 ak3 ck3 [vSl ak4 k.sensors ck4, .map (some bk), vSl ta4 r8.2 tc4]), OwnMap bk m8, OwnSl 102 5 ta4 r8.2.length tc4 (flL r8.2)]) rfl ?_
    refine .ret (.blkR (.seqR ?_))
    refine .resM (k := 5) rfl ?_
    refine .closeX (i := 6) (j := 7) (k := 8) (inv := srInv k) (pre := (tF k.t ak ck ak2 ck2 ak3 ck3 [vSl ak4 k.sensors ck4])) (xs := r8.2) rfl rfl rfl rfl rfl rfl rfl rfl q474 ?_
    refine .res1 rfl (rvC1 rfl tO3 (k := 5) rfl) (fun w' S => ⟨(r8.1, r8.2), ta4, tc4, hF, rfl, (S.pick (k := 0) rfl).anti (FH.le_trans (le1) (le13))⟩)
   replace hF := hF.2 q460
   refine .skip (.blkN ?_)
   refine .rdN (k := 1) q249 rfl q455 rfl ?_
   refine .cast (A' := [Box pdepth2 [.slice a2 ((gt k.t.ops d).pre.length) c, .slice a3 ((gt k.t.ops d).add.length) c2, .slice a4 ((gt k.t.ops d).del.length) c3, iV ((gt k.t.ops d).cost)], LA .ready none, Box pk2 [.pointer (some pk)], Box pdepth [iV depth], Box pv [iV 0], MkA (D :: []), Box pk (tF k.t ak ck ak2 ck2 ak3 ck3 [vSl ak4 k.sensors ck4, .map (some bk), vSl ta tr tc]), OwnMap bk m6, OwnSl 102 5 ta tr.length tc (flL tr)]) rfl ?_
   refine .GV (nt rfl) q450 ?_
   refine .V (pkT rfl q450 rfl) ?_
   refine .nil (.seqN ?_)
   refine .cond rfl (fun e => absurd (e.symm.trans rfl) (by decide)) (fun _ => ?_)
   refine .skip (.blkN ?_)
   refine .sel0 [1, 2, 3, 4, 5, 6, 7, 8] (by decide) rfl ?_
   exact .use q439 m6 hF sb rfl (le13)
  replace hF := hF.2 q450
  refine .GS q450 ?_
  refine .GS q450 ?_
  refine .GS q450 ?_
  refine .GS q450 ?_
  refine .GS q450 ?_
  refine .GS q450 ?_
  refine .GS q450 ?_
  refine .GS q450 ?_
  refine .V (pkF rfl q450 rfl) ?_
  refine .nil (.seqN ?_)
  refine .cond rfl (fun e => absurd (e.symm.trans rfl) (by decide)) (fun _ => ?_)
  refine .skip (.blkN ?_)
  refine .sel0 [1, 2, 3, 4, 5, 6, 7, 8] (by decide) rfl ?_
  exact .US q439 m3 hF
 replace hF := hF.2 q403
 refine .exit (.seqX (.seqX (.blkX ?_)))
 refine .res0 (.inr rfl) rfl (range_done (k := 0) q249 rfl q250 ?_)
 refine .cast (A' := [tru, Box pk2 [.pointer (some pk)], Box pdepth [iV depth], Box pv [iV 0], MkA (D :: []), Box pk (tF k.t ak ck ak2 ck2 ak3 ck3 [vSl ak4 k.sensors ck4, .map (some bk), vSl ta tr tc]), OwnMap bk m3, OwnSl 102 5 ta tr.length tc (flL tr)]) rfl ?_
 refine .blkN (.seqN (.seq (.seq (.region (.V (ld1 rfl tO96 (cellB (off := 0) (k := 1) rfl rfl)) ?_)))))
 refine .V (nck rfl) ?_
 refine .V (fa rfl tF99_1) ?_
 refine .V (ld1 rfl tO22 (cellB (off := 4) (k := 5) rfl rfl)) ?_
 refine .V (ln rfl tS22.is) ?_
 refine .V (mv rfl) ?_
 refine .nil (.seqN (.block ?_))
 refine .sel0 [1, 2, 3, 4, 5, 6, 7] (by decide) rfl ?_
 obtain ⟨I2, μ2, q987, q988⟩ := hF
 refine .loop' (σ := Int × (List UInt8 → Int)) (fun z => I2 z.1 z.2) (fun z => μ2 z.1 z.2) (fun z => [(1, vSl aworlds worlds cworlds), (3, .pointer (some pk2)), (5, .pointer (some pdepth)), (6, .pointer (some pv)), (48, vSl ak4 k.sensors ck4), (49, iV ((k.sensors.length : Nat) : Int)), (50, iV z.1)]) (fun z => [Box pk2 [.pointer (some pk)], Box pdepth [iV depth], Box pv [iV 0], MkA (D :: []), Box pk (tF k.t ak ck ak2 ck2 ak3 ck3 [vSl ak4 k.sensors ck4, .map (some bk), vSl ta tr tc]), OwnMap bk z.2, OwnSl 102 5 ta tr.length tc (flL tr)]) (fun _ => h1) (0, m3) q987 sb rfl (FH.le_refl _) ?_
 rintro ⟨t50, m9⟩ q987
 have hF := q988 t50 m9 q987
 show J _ _ _ _ _ [(1, vSl aworlds worlds cworlds), (3, .pointer (some pk2)), (5, .pointer (some pdepth)), (6, .pointer (some pv)), (48, vSl ak4 k.sensors ck4), (49, iV ((k.sensors.length : Nat) : Int)), (50, iV t50)] [Box pk2 [.pointer (some pk)], Box pdepth [iV depth], Box pv [iV 0], MkA (D :: []), Box pk (tF k.t ak ck ak2 ck2 ak3 ck3 [vSl ak4 k.sensors ck4, .map (some bk), vSl ta tr tc]), OwnMap bk m9, OwnSl 102 5 ta tr.length tc (flL tr)] h1
 refine .seq (.region (.V (bi rfl rfl rfl) ?_))
 refine .nil (.seqN (.seq ?_))
 refine .cond rfl (fun q991 => ?_) (fun q991 => ?_)
 ·replace hF := hF.1 q991
  refine .skip (.seqN ?_)
  refine .share (σ := (List UInt8 → Int)) (fun z => F_sbuild_J2 m9 z t50 I2 μ2) (fun _ => [(1, vSl aworlds worlds cworlds), (3, .pointer (some pk2)), (5, .pointer (some pdepth)), (6, .pointer (some pv)), (48, vSl ak4 k.sensors ck4), (49, iV ((k.sensors.length : Nat) : Int)), (50, iV t50)]) (fun z => [Box pk2 [.pointer (some pk)], Box pdepth [iV depth], Box pv [iV 0], MkA (D :: []), Box pk (tF k.t ak ck ak2 ck2 ak3 ck3 [vSl ak4 k.sensors ck4, .map (some bk), vSl ta tr tc]), OwnMap bk z, OwnSl 102 5 ta tr.length tc (flL tr)]) (fun _ => h1) ?_ (fun q1041 => ?_)
  ·rintro m11 hF
   show J _ _ _ _ _ [(1, vSl aworlds worlds cworlds), (3, .pointer (some pk2)), (5, .pointer (some pdepth)), (6, .pointer (some pv)), (48, vSl ak4 k.sensors ck4), (49, iV ((k.sensors.length : Nat) : Int)), (50, iV t50)] [Box pk2 [.pointer (some pk)], Box pdepth [iV depth], Box pv [iV 0], MkA (D :: []), Box pk (tF k.t ak ck ak2 ck2 ak3 ck3 [vSl ak4 k.sensors ck4, .map (some bk), vSl ta tr tc]), OwnMap bk m11, OwnSl 102 5 ta tr.length tc (flL tr)] h1
   refine .region (.V (bi rfl rfl rfl) ?_)
   refine .V (mv rfl) ?_
   refine .nil ?_
   exact .RO (wr (t50 + 1), m11) hF.1 hF.2
  refine .block (.seq (.region ?_))
  obtain ⟨q1042, hF⟩ := hF
  refine .V (ix rfl rfl tS22 (_q7.ne (by decide) (inb_pos q1042)) q1042) ?_
  refine .V (ld1 (v := iV (gt k.sensors t50)) rfl tO3 (cellH ((_q7.mono (le1)).elemF q1042 (by decide) 0 _ rfl))) ?_
  refine .V (asg rfl) ?_
  refine .nil (.seqN (.seq (.region (.V (mv rfl) ?_))))
  refine .V (mv rfl) ?_
  obtain ⟨q1043, hF⟩ := hF
  obtain ⟨r9, q1044⟩ : ∃ y_ : List (List Int) × List (List Int), y_ = sp_split worlds (gt k.sensors t50) := ⟨_, rfl⟩
  replace hF := hF r9 q1044
  refine clR (α := Option Addr × Nat × Option Addr × Nat) (Φ := fun h1 z => RSl h1 z.1 r9.1 ∧ r9.1.length ≤ z.2.1 ∧ RSl h1 z.2.2.1 r9.2 ∧ r9.2.length ≤ z.2.2.2) (V := fun z => .tuple #[vSl z.1 r9.1 z.2.1, vSl z.2.2.1 r9.2 z.2.2.2]) Tryz.call97 rfl rfl (fun w S => (by rw [q1044]; exact c_split S.sub worlds aworlds cworlds (_q9.mono (le1)) _q10 (gt k.sensors t50) q1043)) rfl (fun z h25 le25 hz => ?_)
  obtain ⟨a6, c5, a7, c6⟩ := z
  obtain ⟨q1045, q1046, q1047, q1048⟩ := hz
  refine .V (mv rfl) ?_
  refine .V (ext rfl rfl) ?_
  refine .V (ext rfl rfl) ?_
  refine .V (asg rfl) ?_
  refine .V (asg rfl) ?_
  refine .nil (.seqN (.seq ?_))
  refine .share (σ := Bool) (fun z => F_sbuild_J3 k tr worlds depth K r9 z m9 t50 I2 μ2) (fun z => [(1, vSl aworlds worlds cworlds), (3, .pointer (some pk2)), (5, .pointer (some pdepth)), (6, .pointer (some pv)), (11, iV (gt k.sensors t50)), (12, vSl a6 r9.1 c5), (13, vSl a7 r9.2 c6), (48, vSl ak4 k.sensors ck4), (49, iV ((k.sensors.length : Nat) : Int)), (50, iV t50), (67, .bool z)]) (fun _ => [Box pk2 [.pointer (some pk)], Box pdepth [iV depth], Box pv [iV 0], MkA (D :: []), Box pk (tF k.t ak ck ak2 ck2 ak3 ck3 [vSl ak4 k.sensors ck4, .map (some bk), vSl ta tr tc]), OwnMap bk m9, OwnSl 102 5 ta tr.length tc (flL tr)]) (fun _ => h25) ?_ (fun q1050 => ?_)
  ·rintro t67 hF
   show J _ _ _ _ _ [(1, vSl aworlds worlds cworlds), (3, .pointer (some pk2)), (5, .pointer (some pdepth)), (6, .pointer (some pv)), (11, iV (gt k.sensors t50)), (12, vSl a6 r9.1 c5), (13, vSl a7 r9.2 c6), (48, vSl ak4 k.sensors ck4), (49, iV ((k.sensors.length : Nat) : Int)), (50, iV t50), (67, .bool t67)] [Box pk2 [.pointer (some pk)], Box pdepth [iV depth], Box pv [iV 0], MkA (D :: []), Box pk (tF k.t ak ck ak2 ck2 ak3 ck3 [vSl ak4 k.sensors ck4, .map (some bk), vSl ta tr tc]), OwnMap bk m9, OwnSl 102 5 ta tr.length tc (flL tr)] h25
   refine .cond rfl (fun q1052 => ?_) (fun q1052 => ?_)
   ·replace hF := hF.1 q1052
    refine .exit (.seqX (.blkX ?_))
    exact .use q1041 m9 hF sb rfl (le25)
   replace hF := hF.2 q1052
   refine .skip (.seqN (.seq ?_))
   refine .openA (s0 := [(1, vSl aworlds worlds cworlds), (3, .pointer (some pk2)), (5, .pointer (some pdepth)), (6, .pointer (some pv)), (11, iV (gt k.sensors t50)), (12, vSl a6 r9.1 c5), (13, vSl a7 r9.2 c6), (48, vSl ak4 k.sensors ck4), (49, iV ((k.sensors.length : Nat) : Int)), (50, iV t50)]) [0, 1, 2, 3, 5, 6, 7, 8] [(0, .pointer (some pk)), (1, vSl a6 r9.1 c5), (2, iV depth), (3, iV (wr (depth - 1))), (5, .pointer (some pk)), (6, vSl a7 r9.2 c6), (7, iV depth), (8, iV (wr (depth - 1)))] (by kernel_rfl) sb [1, 3, 5, 6, 11, 12, 13, 48, 49, 50] [] rfl (by kernel_rfl) ?_
   refine .step [4] 4 rfl (by kernel_rfl) (by kernel_rfl) (.v [] rfl rfl rfl rfl rfl rfl (fun _ => ld1 rfl tO96 (cellB (off := 0) (k := 0) rfl rfl)) (.v [] rfl rfl rfl rfl rfl rfl (fun _ => mv rfl) (.v [] rfl rfl rfl rfl rfl rfl (fun _ => ld1 rfl tO3 (cellB (off := 0) (k := 1) rfl rfl)) (.v [(70, iV depth)] rfl rfl rfl rfl rfl rfl (fun _ => bi rfl rfl rfl) (.v [] rfl rfl rfl rfl rfl rfl (fun _ => ld1 rfl tO96 (cellB (off := 0) (k := 0) rfl rfl)) (.v [] rfl rfl rfl rfl rfl rfl (fun _ => mv rfl) (.v [] rfl rfl rfl rfl rfl rfl (fun _ => ld1 rfl tO3 (cellB (off := 0) (k := 1) rfl rfl)) (.v [(75, iV depth)] rfl rfl rfl rfl rfl rfl (fun _ => bi rfl rfl rfl) (.nil))))))))) (.cons [(68, .pointer (some pk)), (69, vSl a6 r9.1 c5), (71, iV (wr (depth - 1)))] rfl rfl (fun sL hL => ?_) (.nil))
   obtain ⟨q1060, q1061, hF⟩ := hF
   obtain ⟨r10, q1062⟩ : ∃ y_ : Int, y_ = sp_sleast k r9.1 (wr (depth - 1)) := ⟨_, rfl⟩
   replace hF := hF r10 q1062
   refine callS (i := 4) (j := 5) (k := 6) (inv := srInv k) (pre := (tF k.t ak ck ak2 ck2 ak3 ck3 [vSl ak4 k.sensors ck4])) (xs := tr) (v := iV r10) rfl rfl rfl rfl rfl rfl rfl rfl q1060 Tryz.call72 rfl rfl (fun w g hx sg hd hs' => ?_) rfl (fun m12 q1063 => ?_)
   ·rw [q1062]; exact c_sleast hs' (ht.mono (FH.le_trans (le1) (le25))) k ak ck (_q1.mono (FH.le_trans (le1) (le25))) _q2 ak2 ck2 (_q3.mono (FH.le_trans (le1) (le25))) _q4 ak3 ck3 (_q5.mono (FH.le_trans (le1) (le25))) _q6 ak4 ck4 (_q7.mono (FH.le_trans (le1) (le25))) _q8 pk bk tr ta tc hx sg hd r9.1 a6 c5 q1045 q1046 (wr (depth - 1)) q1061
   replace hF := hF m12 q1063
   refine .cast (A' := [Box pk2 [.pointer (some pk)], Box pdepth [iV depth], Box pv [iV 0], MkA (D :: []), Box pk (tF k.t ak ck ak2 ck2 ak3 ck3 [vSl ak4 k.sensors ck4, .map (some bk), vSl ta tr tc]), OwnMap bk m12, OwnSl 102 5 ta tr.length tc (flL tr)]) rfl ?_
   refine .nil ?_
   refine .ja (M := [0, 1, 3, 2]) (C' := [5, 6, 7, 8]) (pre := [(4, iV r10)]) [(1, vSl aworlds worlds cworlds), (3, .pointer (some pk2)), (5, .pointer (some pdepth)), (6, .pointer (some pv)), (11, iV (gt k.sensors t50)), (12, vSl a6 r9.1 c5), (13, vSl a7 r9.2 c6), (48, vSl ak4 k.sensors ck4), (49, iV ((k.sensors.length : Nat) : Int)), (50, iV t50)] [1, 3, 5, 6, 11, 12, 13, 48, 49, 50] hL rfl rfl rfl rfl rfl sb rfl rfl (by kernel_rfl) ?_
   refine .step [9] 9 rfl (by kernel_rfl) (by kernel_rfl) (.v [] rfl rfl rfl rfl rfl rfl (fun _ => ld1 rfl tO96 (cellB (off := 0) (k := 0) rfl rfl)) (.v [] rfl rfl rfl rfl rfl rfl (fun _ => mv rfl) (.v [] rfl rfl rfl rfl rfl rfl (fun _ => ld1 rfl tO3 (cellB (off := 0) (k := 1) rfl rfl)) (.v [(75, iV depth)] rfl rfl rfl rfl rfl rfl (fun _ => bi rfl rfl rfl) (.nil))))) (.cons [(73, .pointer (some pk)), (74, vSl a7 r9.2 c6), (76, iV (wr (depth - 1))), (72, iV r10)] rfl rfl (fun sL hL => ?_) (.nil))
   obtain ⟨q1064, hF⟩ := hF
   obtain ⟨r11, q1065⟩ : ∃ y_ : Int, y_ = sp_sleast k r9.2 (wr (depth - 1)) := ⟨_, rfl⟩
   replace hF := hF r11 q1065
   refine callS (i := 4) (j := 5) (k := 6) (inv := srInv k) (pre := (tF k.t ak ck ak2 ck2 ak3 ck3 [vSl ak4 k.sensors ck4])) (xs := tr) (v := iV r11) rfl rfl rfl rfl rfl rfl rfl rfl q1063 Tryz.call72 rfl rfl (fun w g hx sg hd hs' => ?_) rfl (fun m13 q1066 => ?_)
   ·rw [q1065]; exact c_sleast hs' (ht.mono (FH.le_trans (le1) (le25))) k ak ck (_q1.mono (FH.le_trans (le1) (le25))) _q2 ak2 ck2 (_q3.mono (FH.le_trans (le1) (le25))) _q4 ak3 ck3 (_q5.mono (FH.le_trans (le1) (le25))) _q6 ak4 ck4 (_q7.mono (FH.le_trans (le1) (le25))) _q8 pk bk tr ta tc hx sg hd r9.2 a7 c6 q1047 q1048 (wr (depth - 1)) q1064
   replace hF := hF m13 q1066
   refine .cast (A' := [Box pk2 [.pointer (some pk)], Box pdepth [iV depth], Box pv [iV 0], MkA (D :: []), Box pk (tF k.t ak ck ak2 ck2 ak3 ck3 [vSl ak4 k.sensors ck4, .map (some bk), vSl ta tr tc]), OwnMap bk m13, OwnSl 102 5 ta tr.length tc (flL tr)]) rfl ?_
   refine .nil ?_
   refine .ja (M := [5, 6, 8, 7]) (C' := [10, 11]) (pre := [(9, iV r11), (10, iV r10), (11, iV r11)]) [(1, vSl aworlds worlds cworlds), (3, .pointer (some pk2)), (5, .pointer (some pdepth)), (6, .pointer (some pv)), (11, iV (gt k.sensors t50)), (12, vSl a6 r9.1 c5), (13, vSl a7 r9.2 c6), (48, vSl ak4 k.sensors ck4), (49, iV ((k.sensors.length : Nat) : Int)), (50, iV t50)] [1, 3, 5, 6, 11, 12, 13, 48, 49, 50] hL rfl rfl rfl rfl rfl sb rfl rfl (by kernel_rfl) ?_
   refine .last [(68, .pointer (some pk)), (69, vSl a6 r9.1 c5), (70, iV depth), (71, iV (wr (depth - 1))), (72, iV r10), (73, .pointer (some pk)), (74, vSl a7 r9.2 c6), (75, iV depth), (76, iV (wr (depth - 1))), (77, iV r11), (14, iV r10), (15, iV r11)] rfl (by kernel_rfl) (.v [(72, iV r10), (77, iV r11), (68, .pointer (some pk)), (69, vSl a6 r9.1 c5), (70, iV depth), (71, iV (wr (depth - 1))), (72, iV r10)] rfl rfl rfl rfl rfl rfl (fun _ => asg rfl) (.v [(77, iV r11), (14, iV r10), (68, .pointer (some pk)), (69, vSl a6 r9.1 c5), (70, iV depth), (71, iV (wr (depth - 1))), (72, iV r10), (73, .pointer (some pk)), (74, vSl a7 r9.2 c6), (75, iV depth), (76, iV (wr (depth - 1))), (77, iV r11), (14, iV r10)] rfl rfl rfl rfl rfl rfl (fun _ => asg rfl) (.nil))) rfl ?_
   refine .seqN ?_
   refine .share (σ := Bool) (fun z => F_sbuild_J4 k tr worlds depth K r9 r10 m9 r11 z m13 t50 I2 μ2) (fun z => [(1, vSl aworlds worlds cworlds), (3, .pointer (some pk2)), (5, .pointer (some pdepth)), (6, .pointer (some pv)), (11, iV (gt k.sensors t50)), (12, vSl a6 r9.1 c5), (13, vSl a7 r9.2 c6), (14, iV r10), (15, iV r11), (48, vSl ak4 k.sensors ck4), (49, iV ((k.sensors.length : Nat) : Int)), (50, iV t50), (83, .bool z)]) (fun _ => [Box pk2 [.pointer (some pk)], Box pdepth [iV depth], Box pv [iV 0], MkA (D :: []), Box pk (tF k.t ak ck ak2 ck2 ak3 ck3 [vSl ak4 k.sensors ck4, .map (some bk), vSl ta tr tc]), OwnMap bk m13, OwnSl 102 5 ta tr.length tc (flL tr)]) (fun _ => h25) ?_ (fun q1068 => ?_)
   ·rintro t83 hF
    show J _ _ _ _ _ [(1, vSl aworlds worlds cworlds), (3, .pointer (some pk2)), (5, .pointer (some pdepth)), (6, .pointer (some pv)), (11, iV (gt k.sensors t50)), (12, vSl a6 r9.1 c5), (13, vSl a7 r9.2 c6), (14, iV r10), (15, iV r11), (48, vSl ak4 k.sensors ck4), (49, iV ((k.sensors.length : Nat) : Int)), (50, iV t50), (83, .bool t83)] [Box pk2 [.pointer (some pk)], Box pdepth [iV depth], Box pv [iV 0], MkA (D :: []), Box pk (tF k.t ak ck ak2 ck2 ak3 ck3 [vSl ak4 k.sensors ck4, .map (some bk), vSl ta tr tc]), OwnMap bk m13, OwnSl 102 5 ta tr.length tc (flL tr)] h25
    refine .cond rfl (fun q1069 => ?_) (fun q1069 => ?_)
    ·replace hF := hF.1 q1069
     refine .seq (.region (.V (ld1 rfl tO96 (cellB (off := 0) (k := 0) rfl rfl)) ?_))
     refine .V (mv rfl) ?_
     refine .V (mv rfl) ?_
     obtain ⟨q1070, q1071, q1072, hF⟩ := hF
     obtain ⟨r12, q1073⟩ : ∃ y_ : Int × (List TNode), y_ = sp_sbuild k tr r9.1 r10 := ⟨_, rfl⟩
     replace hF := hF r12 q1073
     refine callSE (i := 4) (j := 5) (k := 6) (inv := srInv k) (pre := (tF k.t ak ck ak2 ck2 ak3 ck3 [vSl ak4 k.sensors ck4])) (xs := tr) (xs' := r12.2) (v := iV r12.1) rfl rfl rfl rfl rfl rfl rfl rfl q1070 Tryz.call73 rfl rfl (fun w g hx sg hd hs' => ?_) rfl (fun ta5 tc5 m14 q1074 => ?_)
     ·rw [q1073]; exact ih hs' (ht.mono (FH.le_trans (le1) (le25))) k ak ck (_q1.mono (FH.le_trans (le1) (le25))) _q2 ak2 ck2 (_q3.mono (FH.le_trans (le1) (le25))) _q4 ak3 ck3 (_q5.mono (FH.le_trans (le1) (le25))) _q6 ak4 ck4 (_q7.mono (FH.le_trans (le1) (le25))) _q8 pk bk tr ta tc hx sg hd r9.1 a6 c5 q1045 q1046 r10 (by rw [← hm]; exact q1072) q1071
     replace hF := hF m14 q1074
     refine .cast (A' := [Box pk2 [.pointer (some pk)], Box pdepth [iV depth], Box pv [iV 0], MkA (D :: []), Box pk (tF k.t ak ck ak2 ck2 ak3 ck3 [vSl ak4 k.sensors ck4, .map (some bk), vSl ta5 r12.2 tc5]), OwnMap bk m14, OwnSl 102 5 ta5 r12.2.length tc5 (flL r12.2)]) rfl ?_
     refine .V (asg rfl) ?_
     refine .nil (.seqN (.seq ?_))
     refine .openA (s0 := [(3, .pointer (some pk2)), (6, .pointer (some pv)), (11, iV (gt k.sensors t50)), (13, vSl a7 r9.2 c6), (15, iV r11), (16, iV r12.1)]) [0, 1, 2, 3, 4, 5] [(0, .pointer (some pk)), (1, iV (gt k.sensors t50)), (2, iV r12.1), (3, .pointer (some pk)), (4, vSl a7 r9.2 c6), (5, iV r11)] (by kernel_rfl) sb [3, 6, 11, 13, 15, 16] [] rfl (by kernel_rfl) ?_
     refine .step [6] 6 rfl (by kernel_rfl) (by kernel_rfl) (.v [] rfl rfl rfl rfl rfl rfl (fun _ => ld1 rfl tO96 (cellB (off := 0) (k := 0) rfl rfl)) (.v [] rfl rfl rfl rfl rfl rfl (fun _ => mv rfl) (.v [] rfl rfl rfl rfl rfl rfl (fun _ => mv rfl) (.v [] rfl rfl rfl rfl rfl rfl (fun _ => ld1 rfl tO96 (cellB (off := 0) (k := 0) rfl rfl)) (.v [] rfl rfl rfl rfl rfl rfl (fun _ => mv rfl) (.v [] rfl rfl rfl rfl rfl rfl (fun _ => mv rfl) (.nil))))))) (.cons [(91, .pointer (some pk)), (92, vSl a7 r9.2 c6), (93, iV r11)] rfl rfl (fun sL hL => ?_) (.nil))
     obtain ⟨q1082, q1083, hF⟩ := hF
     obtain ⟨r13, q1084⟩ : ∃ y_ : Int × (List TNode), y_ = sp_sbuild k r12.2 r9.2 r11 := ⟨_, rfl⟩
     replace hF := hF r13 q1084
     refine callSE (i := 4) (j := 5) (k := 6) (inv := srInv k) (pre := (tF k.t ak ck ak2 ck2 ak3 ck3 [vSl ak4 k.sensors ck4])) (xs := r12.2) (xs' := r13.2) (v := iV r13.1) rfl rfl rfl rfl rfl rfl rfl rfl q1074 Tryz.call73 rfl rfl (fun w g hx sg hd hs' => ?_) rfl (fun ta6 tc6 m15 q1085 => ?_)
     ·rw [q1084]; exact ih hs' (ht.mono (FH.le_trans (le1) (le25))) k ak ck (_q1.mono (FH.le_trans (le1) (le25))) _q2 ak2 ck2 (_q3.mono (FH.le_trans (le1) (le25))) _q4 ak3 ck3 (_q5.mono (FH.le_trans (le1) (le25))) _q6 ak4 ck4 (_q7.mono (FH.le_trans (le1) (le25))) _q8 pk bk r12.2 ta5 tc5 hx sg hd r9.2 a7 c6 q1047 q1048 r11 (by rw [← hm]; exact q1083) q1082
     replace hF := hF m15 q1085
     refine .cast (A' := [Box pk2 [.pointer (some pk)], Box pdepth [iV depth], Box pv [iV 0], MkA (D :: []), Box pk (tF k.t ak ck ak2 ck2 ak3 ck3 [vSl ak4 k.sensors ck4, .map (some bk), vSl ta6 r13.2 tc6]), OwnMap bk m15, OwnSl 102 5 ta6 r13.2.length tc6 (flL r13.2)]) rfl ?_
     refine .nil ?_
     refine .ja (M := [3, 4, 5]) (C' := [0, 1, 2, 7]) (pre := [(6, iV r13.1), (7, .agg #[iV 3, iV 0, iV (gt k.sensors t50), iV r12.1, iV r13.1])]) [(3, .pointer (some pk2)), (6, .pointer (some pv)), (11, iV (gt k.sensors t50)), (13, vSl a7 r9.2 c6), (15, iV r11), (16, iV r12.1)] [3, 6, 11, 13, 15, 16] hL rfl rfl rfl rfl rfl sb rfl rfl (by kernel_rfl) ?_
     refine .step [8] 8 rfl (by kernel_rfl) (by kernel_rfl) (.v [] rfl rfl rfl rfl rfl rfl (fun _ => ld1 rfl tO96 (cellB (off := 0) (k := 0) rfl rfl)) (.v [] rfl rfl rfl rfl rfl rfl (fun _ => mv rfl) (.v [] rfl rfl rfl rfl rfl rfl (fun _ => mv rfl) (.v [(89, iV (gt k.sensors t50)), (90, iV r12.1), (94, iV r13.1)] rfl rfl rfl rfl rfl rfl (fun _ => bld (cs := #[iV 3, iV 0, iV (gt k.sensors t50), iV r12.1, iV r13.1]) (pv := [(0, iV 3), (2, iV (gt k.sensors t50)), (3, iV r12.1), (4, iV r13.1)]) tB102 rfl rfl) (.nil))))) (.cons [(88, .pointer (some pk)), (95, .agg #[iV 3, iV 0, iV (gt k.sensors t50), iV r12.1, iV r13.1]), (94, iV r13.1)] rfl rfl (fun sL hL => ?_) (.nil))
     obtain ⟨q1086, hF⟩ := hF
     obtain ⟨r14, q1087⟩ : ∃ y_ : Int × (List TNode), y_ = sp_sput k r13.2 (⟨3, 0, (gt k.sensors t50), r12.1, r13.1⟩ : TNode) := ⟨_, rfl⟩
     replace hF := hF r14 q1087
     refine callSE (i := 4) (j := 5) (k := 6) (inv := srInv k) (pre := (tF k.t ak ck ak2 ck2 ak3 ck3 [vSl ak4 k.sensors ck4])) (xs := r13.2) (xs' := r14.2) (v := iV r14.1) rfl rfl rfl rfl rfl rfl rfl rfl q1085 Tryz.call99 rfl rfl (fun w g hx sg hd hs' => ?_) rfl (fun ta7 tc7 m16 q1088 => ?_)
     ·rw [q1087]; exact c_sput hs' k ak ck (_q1.mono (FH.le_trans (le1) (le25))) _q2 ak2 ck2 (_q3.mono (FH.le_trans (le1) (le25))) _q4 ak3 ck3 (_q5.mono (FH.le_trans (le1) (le25))) _q6 ak4 ck4 (_q7.mono (FH.le_trans (le1) (le25))) _q8 pk bk r13.2 ta6 tc6 hx sg hd (⟨3, 0, (gt k.sensors t50), r12.1, r13.1⟩ : TNode) q1086
     replace hF := hF m16 q1088
     refine .cast (A' := [Box pk2 [.pointer (some pk)], Box pdepth [iV depth], Box pv [iV 0], MkA (D :: []), Box pk (tF k.t ak ck ak2 ck2 ak3 ck3 [vSl ak4 k.sensors ck4, .map (some bk), vSl ta7 r14.2 tc7]), OwnMap bk m16, OwnSl 102 5 ta7 r14.2.length tc7 (flL r14.2)]) rfl ?_
     refine .nil ?_
     refine .ja (M := [0, 7, 1, 2]) (C' := []) (pre := [(8, iV r14.1)]) [(3, .pointer (some pk2)), (6, .pointer (some pv)), (11, iV (gt k.sensors t50)), (13, vSl a7 r9.2 c6), (15, iV r11), (16, iV r12.1)] [3, 6, 11, 13, 15, 16] hL rfl rfl rfl rfl rfl sb rfl rfl (by kernel_rfl) ?_
     refine .step [9] 9 rfl (by kernel_rfl) (by kernel_rfl) (.nil) (.cons [(96, iV r14.1), (96, iV r14.1), (88, .pointer (some pk)), (89, iV (gt k.sensors t50)), (90, iV r12.1), (91, .pointer (some pk)), (92, vSl a7 r9.2 c6), (93, iV r11), (94, iV r13.1), (95, .agg #[iV 3, iV 0, iV (gt k.sensors t50), iV r12.1, iV r13.1]), (96, iV r14.1)] rfl rfl (fun sL hL => ?_) (.nil))
     refine st (p := pv) (off := 0) (k := 2) (vs := [iV r14.1]) rfl rfl rfl (fun w => (tO3 w).2) rfl rfl rfl rfl ?_
     refine .cast (A' := [Box pk2 [.pointer (some pk)], Box pdepth [iV depth], Box pv [iV r14.1], MkA (D :: []), Box pk (tF k.t ak ck ak2 ck2 ak3 ck3 [vSl ak4 k.sensors ck4, .map (some bk), vSl ta7 r14.2 tc7]), OwnMap bk m16, OwnSl 102 5 ta7 r14.2.length tc7 (flL r14.2)]) rfl ?_
     refine .nil ?_
     refine .jaN (M := []) (C' := []) (pre := []) [3, 6, 11, 13, 15, 16] hL rfl rfl rfl rfl rfl (by kernel_rfl) ?_
     refine .last [(88, .pointer (some pk)), (89, iV (gt k.sensors t50)), (90, iV r12.1), (91, .pointer (some pk)), (92, vSl a7 r9.2 c6), (93, iV r11), (94, iV r13.1), (95, .agg #[iV 3, iV 0, iV (gt k.sensors t50), iV r12.1, iV r13.1]), (96, iV r14.1)] rfl (by kernel_rfl) (.nil) rfl ?_
     refine .seqN (.ret (.blkR (.seqR (.seqR (.blkR (.seqR ?_))))))
     refine .resM (k := 3) rfl ?_
     refine .closeX (i := 4) (j := 5) (k := 6) (inv := srInv k) (pre := (tF k.t ak ck ak2 ck2 ak3 ck3 [vSl ak4 k.sensors ck4])) (xs := r14.2) rfl rfl rfl rfl rfl rfl rfl rfl q1088 ?_
     refine .res1 rfl (rvC1 rfl tO3 (k := 3) rfl) (fun w' S => ⟨(r14.1, r14.2), ta7, tc7, hF, rfl, (S.pick (k := 0) rfl).anti (FH.le_trans (le1) (le25))⟩)
    replace hF := hF.2 q1069
    refine .skip (.blkN ?_)
    exact .use q1041 m13 hF sb rfl (le25)
   refine .region (.V (mv rfl) ?_)
   refine .V (bi rfl rfl rfl) ?_
   refine .V (mv rfl) ?_
   rcases Bool.eq_false_or_eq_true (decide (0 ≤ r10)) with q1089 | q1089
   ·replace hF := hF.1 q1089
    refine .GV (mv rfl) q1089 ?_
    refine .GV (bi rfl rfl rfl) q1089 ?_
    refine .V (pkT rfl q1089 rfl) ?_
    refine .nil ?_
    exact .US q1068 (decide (0 ≤ r11)) hF
   replace hF := hF.2 q1089
   refine .GS q1089 ?_
   refine .GS q1089 ?_
   refine .V (pkF rfl q1089 rfl) ?_
   refine .nil ?_
   exact .US q1068 false hF
  refine .region (.V (mv rfl) ?_)
  refine .V (ln rfl tS35.is) ?_
  refine .V (bi rfl rfl rfl) ?_
  refine .V (mv rfl) ?_
  rcases Bool.eq_false_or_eq_true (((r9.1.length : Nat) : Int) == 0) with q1090 | q1090
  ·replace hF := hF.1 q1090
   refine .GS q1090 ?_
   refine .GS q1090 ?_
   refine .GS q1090 ?_
   refine .V (pkT rfl q1090 rfl) ?_
   refine .nil ?_
   exact .US q1050 true hF
  replace hF := hF.2 q1090
  refine .GV (mv rfl) q1090 ?_
  refine .GV (ln rfl tS35.is) q1090 ?_
  refine .GV (bi rfl rfl rfl) q1090 ?_
  refine .V (pkF rfl q1090 rfl) ?_
  refine .nil ?_
  exact .US q1050 (((r9.2.length : Nat) : Int) == 0) hF
 replace hF := hF.2 q991
 refine .exit (.seqX (.seqX (.blkX (.seqN (.seq (.region ?_))))))
 refine st (p := pv) (off := 0) (k := 2) (vs := [iV 0]) rfl rfl rfl (fun w => (tO3 w).2) rfl rfl rfl rfl ?_
 refine .cast (A' := [Box pk2 [.pointer (some pk)], Box pdepth [iV depth], Box pv [iV 0], MkA (D :: []), Box pk (tF k.t ak ck ak2 ck2 ak3 ck3 [vSl ak4 k.sensors ck4, .map (some bk), vSl ta tr tc]), OwnMap bk m9, OwnSl 102 5 ta tr.length tc (flL tr)]) rfl ?_
 refine .nil (.seqN (.ret ?_))
 refine .resM (k := 3) rfl ?_
 obtain ⟨q1091, hF⟩ := hF
 refine .closeX (i := 4) (j := 5) (k := 6) (inv := srInv k) (pre := (tF k.t ak ck ak2 ck2 ak3 ck3 [vSl ak4 k.sensors ck4])) (xs := tr) rfl rfl rfl rfl rfl rfl rfl rfl q1091 ?_
 refine .res1 rfl (rvC1 rfl tO3 (k := 3) rfl) (fun w' S => ⟨(0, tr), ta, tc, hF, rfl, (S.pick (k := 0) rfl).anti (le1)⟩)
theorem c_sbuild_ : ∀ (mM : Nat) {h : FH} {w : World} (_ : Sub h w) (_ : TabH Tryz.prog h) (k : Srch) (ak : Option Addr) (ck : Nat) (_q1 : RSl h ak k.t.init) (_q2 : k.t.init.length ≤ ck) (ak2 : Option Addr) (ck2 : Nat) (_q3 : RSl h ak2 k.t.goal) (_q4 : k.t.goal.length ≤ ck2) (ak3 : Option Addr) (ck3 : Nat) (_q5 : RSl h ak3 k.t.ops) (_q6 : k.t.ops.length ≤ ck3) (ak4 : Option Addr) (ck4 : Nat) (_q7 : RSl h ak4 k.sensors) (_q8 : k.sensors.length ≤ ck4) (pk : Addr) (bk : Nat) (tr : List TNode) (ta : Option Addr) (tc : Nat) {gX : FH} (_ : SrX (srInv k) pk [iV k.t.facts, .slice ak k.t.init.length ck, .slice ak2 k.t.goal.length ck2, .slice ak3 k.t.ops.length ck3, .slice ak4 k.sensors.length ck4] bk 102 ta tc tr gX) (_ : Sub gX w) (_ : Disj h gX) (worlds : List (List Int)) (aworlds : Option Addr) (cworlds : Nat) (_q9 : RSl h aworlds worlds) (_q10 : worlds.length ≤ cworlds) (depth : Int) (_ : mu_sbuild k tr worlds depth = mM) (_ : pre_sbuild k tr worlds depth), Calls Tryz.prog 73 #[.pointer (some pk), .slice aworlds worlds.length cworlds, iV depth] w fun e w' => ∃ (a' : Option Addr) (c' : Nat), e = .returned (iV (sp_sbuild k tr worlds depth).1) ∧ SH (Kp.ex w h gX) h w' [SrX (srInv k) pk [iV k.t.facts, .slice ak k.t.init.length ck, .slice ak2 k.t.goal.length ck2, .slice ak3 k.t.ops.length ck3, .slice ak4 k.sensors.length ck4] bk 102 a' c' (sp_sbuild k tr worlds depth).2] := by
 intro mM
 induction mM using Nat.strongRecOn with
 | _ mM ih =>
  intro h w hs ht k ak ck _q1 _q2 ak2 ck2 _q3 _q4 ak3 ck3 _q5 _q6 ak4 ck4 _q7 _q8 pk bk tr ta tc gX ownX subX disX worlds aworlds cworlds _q9 _q10 depth hm hp
  exact (w_sbuild hs ht k ak ck _q1 _q2 ak2 ck2 _q3 _q4 ak3 ck3 _q5 _q6 ak4 ck4 _q7 _q8 pk bk tr ta tc ownX subX disX worlds aworlds cworlds _q9 _q10 depth _ rfl (fun hs' ht k ak ck _q1 _q2 ak2 ck2 _q3 _q4 ak3 ck3 _q5 _q6 ak4 ck4 _q7 _q8 pk bk tr ta tc gX ownX subX disX worlds aworlds cworlds _q9 _q10 depth hlt hp => ih _ (hm ▸ hlt) hs' ht k ak ck _q1 _q2 ak2 ck2 _q3 _q4 ak3 ck3 _q5 _q6 ak4 ck4 _q7 _q8 pk bk tr ta tc ownX subX disX worlds aworlds cworlds _q9 _q10 depth rfl hp) (fun r => r = sp_sbuild k tr worlds depth) (ok_sbuild k tr worlds depth hp)).mono fun _ _ ⟨r, a', c', hk, he, hS⟩ => by subst hk; exact ⟨a', c', he, hS⟩
theorem c_sbuild {h : FH} {w : World} (hs : Sub h w) (ht : TabH Tryz.prog h) (k : Srch) (ak : Option Addr) (ck : Nat) (_q1 : RSl h ak k.t.init) (_q2 : k.t.init.length ≤ ck) (ak2 : Option Addr) (ck2 : Nat) (_q3 : RSl h ak2 k.t.goal) (_q4 : k.t.goal.length ≤ ck2) (ak3 : Option Addr) (ck3 : Nat) (_q5 : RSl h ak3 k.t.ops) (_q6 : k.t.ops.length ≤ ck3) (ak4 : Option Addr) (ck4 : Nat) (_q7 : RSl h ak4 k.sensors) (_q8 : k.sensors.length ≤ ck4) (pk : Addr) (bk : Nat) (tr : List TNode) (ta : Option Addr) (tc : Nat) {gX : FH} (ownX : SrX (srInv k) pk [iV k.t.facts, .slice ak k.t.init.length ck, .slice ak2 k.t.goal.length ck2, .slice ak3 k.t.ops.length ck3, .slice ak4 k.sensors.length ck4] bk 102 ta tc tr gX) (subX : Sub gX w) (disX : Disj h gX) (worlds : List (List Int)) (aworlds : Option Addr) (cworlds : Nat) (_q9 : RSl h aworlds worlds) (_q10 : worlds.length ≤ cworlds) (depth : Int) (hp : pre_sbuild k tr worlds depth) : Calls Tryz.prog 73 #[.pointer (some pk), .slice aworlds worlds.length cworlds, iV depth] w fun e w' => ∃ (a' : Option Addr) (c' : Nat), e = .returned (iV (sp_sbuild k tr worlds depth).1) ∧ SH (Kp.ex w h gX) h w' [SrX (srInv k) pk [iV k.t.facts, .slice ak k.t.init.length ck, .slice ak2 k.t.goal.length ck2, .slice ak3 k.t.ops.length ck3, .slice ak4 k.sensors.length ck4] bk 102 a' c' (sp_sbuild k tr worlds depth).2] :=
 c_sbuild_ _ hs ht k ak ck _q1 _q2 ak2 ck2 _q3 _q4 ak3 ck3 _q5 _q6 ak4 ck4 _q7 _q8 pk bk tr ta tc ownX subX disX worlds aworlds cworlds _q9 _q10 depth rfl hp
set_option maxHeartbeats 8000000 in
theorem w_cplan {h : FH} {w : World} (hs : Sub h w) (ht : TabH Tryz.prog h) (t : Task) (at_ : Option Addr) (ct : Nat) (_q1 : RSl h at_ t.init) (_q2 : t.init.length ≤ ct) (at_2 : Option Addr) (ct2 : Nat) (_q3 : RSl h at_2 t.goal) (_q4 : t.goal.length ≤ ct2) (at_3 : Option Addr) (ct3 : Nat) (_q5 : RSl h at_3 t.ops) (_q6 : t.ops.length ≤ ct3) (unknown : List Int) (aunknown : Option Addr) (cunknown : Nat) (_q7 : RSl h aunknown unknown) (_q8 : unknown.length ≤ cunknown) (sensors : List Int) (asensors : Option Addr) (csensors : Nat) (_q9 : RSl h asensors sensors) (_q10 : sensors.length ≤ csensors) (depth : Int) (K : (List TNode × Bool × Fault) → Prop) (hF : F_cplan t unknown sensors depth K) : Calls Tryz.prog 32 #[.agg #[iV t.facts, .slice at_ t.init.length ct, .slice at_2 t.goal.length ct2, .slice at_3 t.ops.length ct3], .slice aunknown unknown.length cunknown, .slice asensors sensors.length csensors, iV depth] w fun e w' => ∃ (r : List TNode × Bool × Fault) (z : Option Addr × Nat) (h1 : FH), K r ∧ e = .returned (.tuple #[.slice z.1 r.1.length z.2, .bool r.2.1, .agg #[iV r.2.2.code, iV r.2.2.index]]) ∧ FH.le h h1 ∧ (RSl h1 z.1 r.1 ∧ r.1.length ≤ z.2) ∧ SH (Kp.all w h) h1 w' [] := by
 refine enter (args := [.agg (tF t at_ ct at_2 ct2 at_3 ct3).toArray, vSl aunknown unknown cunknown, vSl asensors sensors csensors, iV depth]) Tryz.func32 rfl Tryz.ntmps32 rfl hs ?_
 refine .seq (.region ?_)
 refine bx (vs := (tF t at_ ct at_2 ct2 at_3 ct3)) rfl rfl rfl (fun pt => ?_)
 refine .V (asg rfl) ?_
 refine .V (asg rfl) ?_
 refine al tZ27 rfl (fun pv => ?_)
 refine .nil (.seqN (.seq (.seq (.region (.V (ldA (cs := (tF t at_ ct at_2 ct2 at_3 ct3)) rfl tA25 rfl (cellsB (off := 0) (k := 1) rfl (m := 4) rfl)) ?_)))))
 refine .V (mv rfl) ?_
 refine .V (mv rfl) ?_
 obtain ⟨r2, q11⟩ : ∃ y_ : Fault, y_ = sp_ccheck t unknown sensors := ⟨_, rfl⟩
 replace hF := hF r2 q11
 refine .C (cl (v := .agg #[iV r2.code, iV r2.index]) Tryz.call70 rfl rfl (fun w S => (by rw [q11]; exact c_ccheck S.sub t at_ ct _q1 _q2 at_2 ct2 _q3 _q4 at_3 ct3 _q5 _q6 unknown aunknown cunknown _q7 _q8 sensors asensors csensors _q9 _q10 ))) ?_
 refine al tZ27 rfl (fun pf => ?_)
 refine st (p := pf) (off := 0) (k := 0) (vs := [iV r2.code, iV r2.index]) rfl rfl rfl (fun w => (tA27 w).2) rfl rfl rfl rfl ?_
 refine .cast (A' := [Box pf [iV r2.code, iV r2.index], Box pv [iV 0, iV 0], Box pt (tF t at_ ct at_2 ct2 at_3 ct3)]) rfl ?_
 refine .nil (.seqN (.seq (.region (.V (ldA (cs := [iV r2.code, iV r2.index]) rfl tA27 rfl (cellsB (off := 0) (k := 0) rfl (m := 2) rfl)) ?_))))
 refine .V (bld (cs := #[iV 0, iV 0]) (pv := []) tB27 rfl rfl) ?_
 refine .V (ne2 tE27 rfl rfl) ?_
 refine .nil (.seqN ?_)
 refine .cond rfl (fun q13 => ?_) (fun q13 => ?_)
 ·replace hF := hF.1 q13
  refine .seq ?_
  refine .openL (by kernel_rfl) rfl (by kernel_rfl) (by kernel_rfl) ?_
  refine .V (ldA (cs := [iV r2.code, iV r2.index]) rfl tA27 rfl (cellsB (off := 0) (k := 0) rfl (m := 2) rfl)) ?_
  refine .V (asg rfl) ?_
  refine .V (asg rfl) ?_
  refine .tail ?_
  refine st (p := pv) (off := 0) (k := 1) (vs := [iV r2.code, iV r2.index]) rfl rfl rfl (fun w => (tA27 w).2) rfl rfl rfl rfl ?_
  refine .cast (A' := [Box pf [iV r2.code, iV r2.index], Box pv [iV r2.code, iV r2.index], Box pt (tF t at_ ct at_2 ct2 at_3 ct3)]) rfl ?_
  refine .nil (.seqN (.ret (.seqR ?_)))
  refine .res3 rfl (rvT rfl) (rvT rfl) (rvC rfl tA27 (k := 1) rfl rfl) (fun w' S => ⟨(([] : List TNode), false, r2), (none, 0), h, hF, rfl, (FH.le_refl _), ⟨RSl.nil_, (Nat.le_refl 0)⟩, S.none⟩)
 replace hF := hF.2 q13
 refine .skip (.seqN (.seq ?_))
 refine .share (σ := Bool) (fun z => F_cplan_J1 t unknown sensors depth K z) (fun z => [(1, vSl aunknown unknown cunknown), (2, vSl asensors sensors csensors), (3, iV depth), (4, .pointer (some pt)), (10, .pointer (some pv)), (28, .bool z)]) (fun _ => [Box pt (tF t at_ ct at_2 ct2 at_3 ct3), Box pv [iV 0, iV 0]]) (fun _ => h) ?_ (fun q15 => ?_)
 ·rintro t28 hF
  show J _ _ _ _ _ [(1, vSl aunknown unknown cunknown), (2, vSl asensors sensors csensors), (3, iV depth), (4, .pointer (some pt)), (10, .pointer (some pv)), (28, .bool t28)] [Box pt (tF t at_ ct at_2 ct2 at_3 ct3), Box pv [iV 0, iV 0]] h
  refine .cond rfl (fun q17 => ?_) (fun q17 => ?_)
  ·replace hF := hF.1 q17
   refine .seq (.region (.V (bld (cs := #[iV 3, iV (-10)]) (pv := [(0, iV 3), (1, iV (-10))]) tB27 rfl rfl) ?_))
   refine .V (asg rfl) ?_
   refine .V (asg rfl) ?_
   refine st (p := pv) (off := 0) (k := 1) (vs := [iV 3, iV (-10)]) rfl rfl rfl (fun w => (tA27 w).2) rfl rfl rfl rfl ?_
   refine .cast (A' := [Box pt (tF t at_ ct at_2 ct2 at_3 ct3), Box pv [iV 3, iV (-10)]]) rfl ?_
   refine .nil (.seqN (.ret (.seqR ?_)))
   refine .res3 rfl (rvT rfl) (rvT rfl) (rvC rfl tA27 (k := 1) rfl rfl) (fun w' S => ⟨(([] : List TNode), false, (⟨3, (-10)⟩ : Fault)), (none, 0), h, hF, rfl, (FH.le_refl _), ⟨RSl.nil_, (Nat.le_refl 0)⟩, S.none⟩)
  replace hF := hF.2 q17
  refine .skip (.seqN (.seq (.region (.V (ldA (cs := (tF t at_ ct at_2 ct2 at_3 ct3)) rfl tA25 rfl (cellsB (off := 0) (k := 0) rfl (m := 4) rfl)) ?_))))
  refine .V (mv rfl) ?_
  refine mm rfl (fun bv => ?_)
  refine .V (bld (cs := (tF t at_ ct at_2 ct2 at_3 ct3 [vSl asensors sensors csensors, .map (some bv), .slice none 0 0]).toArray) (pv := [(0, .agg (tF t at_ ct at_2 ct2 at_3 ct3).toArray), (1, vSl asensors sensors csensors), (2, .map (some bv))]) tB99 rfl rfl) ?_
  refine bx (vs := (tF t at_ ct at_2 ct2 at_3 ct3 [vSl asensors sensors csensors, .map (some bv), .slice none 0 0])) rfl rfl rfl (fun pv2 => ?_)
  refine .V (asg rfl) ?_
  refine .nil (.seqN (.seq (.region (.V (ldA (cs := (tF t at_ ct at_2 ct2 at_3 ct3)) rfl tA25 rfl (cellsB (off := 0) (k := 2) rfl (m := 4) rfl)) ?_))))
  refine .V (mv rfl) ?_
  obtain ⟨q18, hF⟩ := hF
  obtain ⟨r3, q19⟩ : ∃ y_ : List (List Int), y_ = sp_worlds t unknown := ⟨_, rfl⟩
  replace hF := hF r3 q19
  refine clR (α := Option Addr × Nat) (Φ := fun h1 z => RSl h1 z.1 r3 ∧ r3.length ≤ z.2) (V := fun z => vSl z.1 r3 z.2) Tryz.call48 rfl rfl (fun w S => (by rw [q19]; exact c_worlds S.sub t at_ ct _q1 _q2 at_2 ct2 _q3 _q4 at_3 ct3 _q5 _q6 unknown aunknown cunknown _q7 _q8 q18)) rfl (fun z h1 le1 hz => ?_)
  obtain ⟨a, c⟩ := z
  obtain ⟨q20, q21⟩ := hz
  refine .V (asg rfl) ?_
  refine .nil (.seqN (.seq (.seq (.region (.V (mv rfl) ?_)))))
  refine .V (mv rfl) ?_
  refine .V (mkf (vf := [.pointer (some pv2)]) (vc := []) rfl rfl) ?_
  obtain ⟨q22, hF⟩ := hF
  obtain ⟨r4, q23⟩ : ∃ y_ : Bool, y_ = sp_smallC r3 (⟨t, sensors⟩ : Srch) := ⟨_, rfl⟩
  replace hF := hF r4 q23
  refine .C (cl (v := .bool r4) Tryz.call47 rfl rfl (fun w S => (by rw [q23]; obtain ⟨h_, hl_, hs_, hb_⟩ := lookB S (k := 0) rfl; exact c_smallC hs_ (ht.mono (FH.le_trans (le1) hl_)) r3 a c (RSl.mono hl_ q20) q21 (⟨t, sensors⟩ : Srch) at_ ct (RSl.mono hl_ (_q1.mono (le1))) _q2 at_2 ct2 (RSl.mono hl_ (_q3.mono (le1))) _q4 at_3 ct3 (RSl.mono hl_ (_q5.mono (le1))) _q6 asensors csensors (RSl.mono hl_ (_q9.mono (le1))) _q10 pv2 bv none 0 0 hb_ q22))) ?_
  refine .V (nt rfl) ?_
  refine .nil (.seqN ?_)
  refine .cond rfl (fun q25 => ?_) (fun q25 => ?_)
  ·replace hF := hF.1 q25
   refine .seq (.region (.V (bld (cs := #[iV 10, iV (-7)]) (pv := [(0, iV 10), (1, iV (-7))]) tB27 rfl rfl) ?_))
   refine .V (asg rfl) ?_
   refine .V (asg rfl) ?_
   refine st (p := pv) (off := 0) (k := 3) (vs := [iV 10, iV (-7)]) rfl rfl rfl (fun w => (tA27 w).2) rfl rfl rfl rfl ?_
   refine .cast (A' := [Box pv2 (tF t at_ ct at_2 ct2 at_3 ct3 [vSl asensors sensors csensors, .map (some bv), .slice none 0 0]), OwnMap bv (fun _ => 0), Box pt (tF t at_ ct at_2 ct2 at_3 ct3), Box pv [iV 10, iV (-7)]]) rfl ?_
   refine .nil (.seqN (.ret (.seqR ?_)))
   refine .res3 rfl (rvT rfl) (rvT rfl) (rvC rfl tA27 (k := 3) rfl rfl) (fun w' S => ⟨(([] : List TNode), false, (⟨10, (-7)⟩ : Fault)), (none, 0), h1, hF, rfl, (le1), ⟨RSl.nil_, (Nat.le_refl 0)⟩, S.none⟩)
  replace hF := hF.2 q25
  refine .skip (.seqN (.seq (.region (.V (mv rfl) ?_))))
  refine .V (mv rfl) ?_
  refine .V (mv rfl) ?_
  refine .nilSl 102 5 ?_
  refine .cast (A' := [OwnSl 102 5 none (([] : List TNode).length) 0 (flL ([] : List TNode)), Box pv2 (tF t at_ ct at_2 ct2 at_3 ct3 [vSl asensors sensors csensors, .map (some bv), .slice none (([] : List TNode).length) 0]), OwnMap bv (fun _ => 0), Box pt (tF t at_ ct at_2 ct2 at_3 ct3), Box pv [iV 0, iV 0]]) rfl ?_
  obtain ⟨q26, q27, hF⟩ := hF
  obtain ⟨r5, q28⟩ : ∃ y_ : Int, y_ = sp_sleast (⟨t, sensors⟩ : Srch) r3 depth := ⟨_, rfl⟩
  replace hF := hF r5 q28
  refine callS (i := 1) (j := 2) (k := 0) (inv := srInv (⟨t, sensors⟩ : Srch)) (pre := (tF t at_ ct at_2 ct2 at_3 ct3 [vSl asensors sensors csensors])) (xs := ([] : List TNode)) (v := iV r5) rfl rfl rfl rfl rfl rfl rfl rfl q26 Tryz.call72 rfl rfl (fun w g hx sg hd hs' => ?_) rfl (fun m q29 => ?_)
  ·rw [q28]; exact c_sleast hs' (ht.mono (le1)) (⟨t, sensors⟩ : Srch) at_ ct (_q1.mono (le1)) _q2 at_2 ct2 (_q3.mono (le1)) _q4 at_3 ct3 (_q5.mono (le1)) _q6 asensors csensors (_q9.mono (le1)) _q10 pv2 bv ([] : List TNode) none 0 hx sg hd r3 a c q20 q21 depth q27
  replace hF := hF m q29
  refine .cast (A' := [OwnSl 102 5 none (([] : List TNode).length) 0 (flL ([] : List TNode)), Box pv2 (tF t at_ ct at_2 ct2 at_3 ct3 [vSl asensors sensors csensors, .map (some bv), .slice none (([] : List TNode).length) 0]), OwnMap bv m, Box pt (tF t at_ ct at_2 ct2 at_3 ct3), Box pv [iV 0, iV 0]]) rfl ?_
  refine .V (asg rfl) ?_
  refine .nil (.seqN (.seq (.seq (.region (.V (mv rfl) ?_)))))
  refine .V (bi rfl rfl rfl) ?_
  refine .nil (.seqN ?_)
  refine .cond rfl (fun q31 => ?_) (fun q31 => ?_)
  ·replace hF := hF.1 q31
   refine .seq (.region (.V (bld (cs := #[iV 0, iV 0]) (pv := []) tB27 rfl rfl) ?_))
   refine .V (asg rfl) ?_
   refine .V (asg rfl) ?_
   refine st (p := pv) (off := 0) (k := 4) (vs := [iV 0, iV 0]) rfl rfl rfl (fun w => (tA27 w).2) rfl rfl rfl rfl ?_
   refine .cast (A' := [OwnSl 102 5 none (([] : List TNode).length) 0 (flL ([] : List TNode)), Box pv2 (tF t at_ ct at_2 ct2 at_3 ct3 [vSl asensors sensors csensors, .map (some bv), .slice none (([] : List TNode).length) 0]), OwnMap bv m, Box pt (tF t at_ ct at_2 ct2 at_3 ct3), Box pv [iV 0, iV 0]]) rfl ?_
   refine .nil (.seqN (.ret (.seqR ?_)))
   refine .res3 rfl (rvT rfl) (rvT rfl) (rvC rfl tA27 (k := 4) rfl rfl) (fun w' S => ⟨(([] : List TNode), false, (⟨0, 0⟩ : Fault)), (none, 0), h1, hF, rfl, (le1), ⟨RSl.nil_, (Nat.le_refl 0)⟩, S.none⟩)
  replace hF := hF.2 q31
  refine .skip (.seqN (.seq (.region (.V (mv rfl) ?_))))
  refine .V (mv rfl) ?_
  refine .V (mv rfl) ?_
  obtain ⟨q32, hF⟩ := hF
  obtain ⟨r6, q33⟩ : ∃ y_ : Int × (List TNode), y_ = sp_sbuild (⟨t, sensors⟩ : Srch) ([] : List TNode) r3 r5 := ⟨_, rfl⟩
  replace hF := hF r6 q33
  refine callSE (i := 1) (j := 2) (k := 0) (inv := srInv (⟨t, sensors⟩ : Srch)) (pre := (tF t at_ ct at_2 ct2 at_3 ct3 [vSl asensors sensors csensors])) (xs := ([] : List TNode)) (xs' := r6.2) (v := iV r6.1) rfl rfl rfl rfl rfl rfl rfl rfl q29 Tryz.call73 rfl rfl (fun w g hx sg hd hs' => ?_) rfl (fun ta tc m2 q34 => ?_)
  ·rw [q33]; exact c_sbuild hs' (ht.mono (le1)) (⟨t, sensors⟩ : Srch) at_ ct (_q1.mono (le1)) _q2 at_2 ct2 (_q3.mono (le1)) _q4 at_3 ct3 (_q5.mono (le1)) _q6 asensors csensors (_q9.mono (le1)) _q10 pv2 bv ([] : List TNode) none 0 hx sg hd r3 a c q20 q21 r5 q32
  replace hF := hF m2 q34
  refine .cast (A' := [OwnSl 102 5 ta r6.2.length tc (flL r6.2), Box pv2 (tF t at_ ct at_2 ct2 at_3 ct3 [vSl asensors sensors csensors, .map (some bv), vSl ta r6.2 tc]), OwnMap bv m2, Box pt (tF t at_ ct at_2 ct2 at_3 ct3), Box pv [iV 0, iV 0]]) rfl ?_
  refine .nil (.seqN (.seq (.seq (.region (.V (mv rfl) ?_)))))
  refine .V (nck rfl) ?_
  refine .V (fa rfl tF99_3) ?_
  refine .V (ld1 rfl tO60 (cellB (off := 6) (k := 1) rfl rfl)) ?_
  refine .V (ln rfl tS60.is) ?_
  refine .V (bi rfl rfl rfl) ?_
  refine .nil (.seqN ?_)
  refine .cond rfl (fun q36 => ?_) (fun q36 => ?_)
  ·replace hF := hF.1 q36
   refine .seq (.region (.V (bld (cs := #[iV 10, iV (-1)]) (pv := [(0, iV 10), (1, iV (-1))]) tB27 rfl rfl) ?_))
   refine .V (asg rfl) ?_
   refine .V (asg rfl) ?_
   refine st (p := pv) (off := 0) (k := 4) (vs := [iV 10, iV (-1)]) rfl rfl rfl (fun w => (tA27 w).2) rfl rfl rfl rfl ?_
   refine .cast (A' := [OwnSl 102 5 ta r6.2.length tc (flL r6.2), Box pv2 (tF t at_ ct at_2 ct2 at_3 ct3 [vSl asensors sensors csensors, .map (some bv), vSl ta r6.2 tc]), OwnMap bv m2, Box pt (tF t at_ ct at_2 ct2 at_3 ct3), Box pv [iV 10, iV (-1)]]) rfl ?_
   refine .nil (.seqN (.ret (.seqR ?_)))
   refine .res3 rfl (rvT rfl) (rvT rfl) (rvC rfl tA27 (k := 4) rfl rfl) (fun w' S => ⟨(([] : List TNode), false, (⟨10, (-1)⟩ : Fault)), (none, 0), h1, hF, rfl, (le1), ⟨RSl.nil_, (Nat.le_refl 0)⟩, S.none⟩)
  replace hF := hF.2 q36
  refine .skip (.seqN (.seq (.region (.V (mv rfl) ?_))))
  refine .V (nck rfl) ?_
  refine .V (fa rfl tF99_3) ?_
  refine .V (ld1 rfl tO60 (cellB (off := 6) (k := 1) rfl rfl)) ?_
  refine .V (bld (cs := #[iV 0, iV 0]) (pv := []) tB27 rfl rfl) ?_
  refine .V (asg rfl) ?_
  refine .V (asg rfl) ?_
  refine st (p := pv) (off := 0) (k := 4) (vs := [iV 0, iV 0]) rfl rfl rfl (fun w => (tA27 w).2) rfl rfl rfl rfl ?_
  refine .cast (A' := [OwnSl 102 5 ta r6.2.length tc (flL r6.2), Box pv2 (tF t at_ ct at_2 ct2 at_3 ct3 [vSl asensors sensors csensors, .map (some bv), vSl ta r6.2 tc]), OwnMap bv m2, Box pt (tF t at_ ct at_2 ct2 at_3 ct3), Box pv [iV 0, iV 0]]) rfl ?_
  refine .nil (.seqN ?_)
  refine .freezeL (k := 0) rfl (fun h2 le2 q38 q37 => ?_)
  refine .cast (A' := [tru, Box pv2 (tF t at_ ct at_2 ct2 at_3 ct3 [vSl asensors sensors csensors, .map (some bv), vSl ta r6.2 tc]), OwnMap bv m2, Box pt (tF t at_ ct at_2 ct2 at_3 ct3), Box pv [iV 0, iV 0]]) rfl ?_
  refine .ret ?_
  refine .res3 rfl (rvT rfl) (rvT rfl) (rvC rfl tA27 (k := 4) rfl rfl) (fun w' S => ⟨(r6.2, true, (⟨0, 0⟩ : Fault)), (ta, tc), h2, hF, rfl, (FH.le_trans (le1) (le2)), ⟨(RSl.of q37), (q38)⟩, S.none⟩)
 refine .region (.V (mv rfl) ?_)
 refine .V (bi rfl rfl rfl) ?_
 refine .V (mv rfl) ?_
 rcases Bool.eq_false_or_eq_true (decide (depth < 0)) with q39 | q39
 ·replace hF := hF.1 q39
  refine .GS q39 ?_
  refine .GS q39 ?_
  refine .V (pkT rfl q39 rfl) ?_
  refine .nil ?_
  refine .sel0 [2, 1] (by decide) rfl ?_
  exact .US q15 true hF
 replace hF := hF.2 q39
 refine .GV (mv rfl) q39 ?_
 refine .GV (bi rfl rfl rfl) q39 ?_
 refine .V (pkF rfl q39 rfl) ?_
 refine .nil ?_
 refine .sel0 [2, 1] (by decide) rfl ?_
 exact .US q15 (decide (6 < depth)) hF
theorem c_cplan {h : FH} {w : World} (hs : Sub h w) (ht : TabH Tryz.prog h) (t : Task) (at_ : Option Addr) (ct : Nat) (_q1 : RSl h at_ t.init) (_q2 : t.init.length ≤ ct) (at_2 : Option Addr) (ct2 : Nat) (_q3 : RSl h at_2 t.goal) (_q4 : t.goal.length ≤ ct2) (at_3 : Option Addr) (ct3 : Nat) (_q5 : RSl h at_3 t.ops) (_q6 : t.ops.length ≤ ct3) (unknown : List Int) (aunknown : Option Addr) (cunknown : Nat) (_q7 : RSl h aunknown unknown) (_q8 : unknown.length ≤ cunknown) (sensors : List Int) (asensors : Option Addr) (csensors : Nat) (_q9 : RSl h asensors sensors) (_q10 : sensors.length ≤ csensors) (depth : Int) : Calls Tryz.prog 32 #[.agg #[iV t.facts, .slice at_ t.init.length ct, .slice at_2 t.goal.length ct2, .slice at_3 t.ops.length ct3], .slice aunknown unknown.length cunknown, .slice asensors sensors.length csensors, iV depth] w fun e w' => ∃ (z : Option Addr × Nat) (h1 : FH), e = .returned (.tuple #[.slice z.1 (sp_cplan t unknown sensors depth).1.length z.2, .bool (sp_cplan t unknown sensors depth).2.1, .agg #[iV (sp_cplan t unknown sensors depth).2.2.code, iV (sp_cplan t unknown sensors depth).2.2.index]]) ∧ FH.le h h1 ∧ (RSl h1 z.1 (sp_cplan t unknown sensors depth).1 ∧ (sp_cplan t unknown sensors depth).1.length ≤ z.2) ∧ SH (Kp.all w h) h1 w' [] :=
 (w_cplan hs ht t at_ ct _q1 _q2 at_2 ct2 _q3 _q4 at_3 ct3 _q5 _q6 unknown aunknown cunknown _q7 _q8 sensors asensors csensors _q9 _q10 depth (fun r => r = sp_cplan t unknown sensors depth) (ok_cplan t unknown sensors depth)).mono fun _ _ ⟨r, z, h1, hk, he, hl, hf, hS⟩ => by subst hk; exact ⟨z, h1, he, hl, hf, hS⟩
set_option maxHeartbeats 8000000 in
theorem w_stopped {h : FH} {w : World} (hs : Sub h w) (ht : TabH Tryz.prog h) (K : Bool → Prop) (hF : F_stopped  K) : Calls Tryz.prog 33 #[] w fun e w' => ∃ r : Bool, K r ∧ e = .returned (.bool r) ∧ Below w.heap.size w w' := by
 refine enter (args := []) Tryz.func33 rfl Tryz.ntmps33 rfl hs ?_
 refine .seq (.region (.V (asg rfl) ?_))
 refine .nil (.seqN (.seq (.region ?_)))
 obtain ⟨r2, q1⟩ : ∃ y_ : Task, y_ = sp_able := ⟨_, rfl⟩
 replace hF := hF r2 q1
 refine clR (α := Option Addr × Nat × Option Addr × Nat × Option Addr × Nat) (Φ := fun h1 z => RSl h1 z.1 r2.init ∧ r2.init.length ≤ z.2.1 ∧ RSl h1 z.2.2.1 r2.goal ∧ r2.goal.length ≤ z.2.2.2.1 ∧ RSl h1 z.2.2.2.2.1 r2.ops ∧ r2.ops.length ≤ z.2.2.2.2.2) (V := fun z => .agg (tF r2 z.1 z.2.1 z.2.2.1 z.2.2.2.1 z.2.2.2.2.1 z.2.2.2.2.2).toArray) Tryz.call54 rfl rfl (fun w S => (by rw [q1]; exact c_able S.sub  )) rfl (fun z h1 le1 hz => ?_)
 obtain ⟨a, c, a2, c2, a3, c3⟩ := z
 obtain ⟨q2, q3, q4, q5, q6, q7⟩ := hz
 refine .V (bld (cs := #[iV 1, iV 0, iV 0, iV 0, iV 0]) (pv := [(0, iV 1)]) tB102 rfl rfl) ?_
 refine bs1S (cs := #[iV 1, iV 0, iV 0, iV 0, iV 0]) tS60 rfl rfl (by decide) rfl rfl (fun a4 _ => ?_)
 refine .cast (A' := [OwnSl 102 5 a4 (([(⟨1, 0, 0, 0, 0⟩ : TNode)] : List TNode).length) 1 (flL ([(⟨1, 0, 0, 0, 0⟩ : TNode)] : List TNode))]) rfl ?_
 obtain ⟨r3, q9⟩ : ∃ y_ : Int × Fault, y_ = sp_depth r2 [] ([(⟨1, 0, 0, 0, 0⟩ : TNode)] : List TNode) := ⟨_, rfl⟩
 replace hF := hF r3 q9
 refine .C (cl (v := .tuple #[iV r3.1, .agg #[iV r3.2.code, iV r3.2.index]]) Tryz.call37 rfl rfl (fun w S => (by rw [q9]; obtain ⟨h_, hl_, hs_, hne_, hr_⟩ := look S (k := 0) rfl; exact c_depth hs_ r2 a c (RSl.mono hl_ q2) q3 a2 c2 (RSl.mono hl_ q4) q5 a3 c3 (RSl.mono hl_ q6) q7 [] none 0 RSl.nil_ (Nat.le_refl 0) ([(⟨1, 0, 0, 0, 0⟩ : TNode)] : List TNode) a4 1 (RSl.of hr_) (look_len S (k := 0) rfl) ))) ?_
 refine .V (mv rfl) ?_
 refine .V (ext rfl rfl) ?_
 refine .V (ext rfl rfl) ?_
 refine al tZ27 rfl (fun pf => ?_)
 refine .V (asg rfl) ?_
 refine st (p := pf) (off := 0) (k := 0) (vs := [iV r3.2.code, iV r3.2.index]) rfl rfl rfl (fun w => (tA27 w).2) rfl rfl rfl rfl ?_
 refine .cast (A' := [Box pf [iV r3.2.code, iV r3.2.index], OwnSl 102 5 a4 (([(⟨1, 0, 0, 0, 0⟩ : TNode)] : List TNode).length) 1 (flL ([(⟨1, 0, 0, 0, 0⟩ : TNode)] : List TNode))]) rfl ?_
 refine .nil (.seqN (.seq (.region ?_)))
 obtain ⟨r4, q10⟩ : ∃ y_ : Task, y_ = sp_able := ⟨_, rfl⟩
 replace hF := hF r4 q10
 refine clR (α := Option Addr × Nat × Option Addr × Nat × Option Addr × Nat) (Φ := fun h1 z => RSl h1 z.1 r4.init ∧ r4.init.length ≤ z.2.1 ∧ RSl h1 z.2.2.1 r4.goal ∧ r4.goal.length ≤ z.2.2.2.1 ∧ RSl h1 z.2.2.2.2.1 r4.ops ∧ r4.ops.length ≤ z.2.2.2.2.2) (V := fun z => .agg (tF r4 z.1 z.2.1 z.2.2.1 z.2.2.2.1 z.2.2.2.2.1 z.2.2.2.2.2).toArray) Tryz.call54 rfl rfl (fun w S => (by rw [q10]; exact c_able S.sub  )) rfl (fun z h2 le2 hz => ?_)
 obtain ⟨a5, c4, a6, c5, a7, c6⟩ := z
 obtain ⟨q11, q12, q13, q14, q15, q16⟩ := hz
 obtain ⟨r5, q17⟩ : ∃ y_ : List TNode × Bool × Fault, y_ = sp_cplan r4 [] [] 1 := ⟨_, rfl⟩
 replace hF := hF r5 q17
 refine clR (α := Option Addr × Nat) (Φ := fun h1 z => RSl h1 z.1 r5.1 ∧ r5.1.length ≤ z.2) (V := fun z => .tuple #[vSl z.1 r5.1 z.2, .bool r5.2.1, .agg #[iV r5.2.2.code, iV r5.2.2.index]]) Tryz.call32 rfl rfl (fun w S => (by rw [q17]; exact c_cplan S.sub (ht.mono (FH.le_trans (le1) (le2))) r4 a5 c4 q11 q12 a6 c5 q13 q14 a7 c6 q15 q16 [] none 0 RSl.nil_ (Nat.le_refl 0) [] none 0 RSl.nil_ (Nat.le_refl 0) 1 )) rfl (fun z h3 le3 hz => ?_)
 obtain ⟨a8, c7⟩ := z
 obtain ⟨q18, q19⟩ := hz
 refine .V (mv rfl) ?_
 refine .V (ext rfl rfl) ?_
 refine .V (ext rfl rfl) ?_
 refine .V (ext rfl rfl) ?_
 refine al tZ27 rfl (fun pg => ?_)
 refine .V (asg rfl) ?_
 refine .V (asg rfl) ?_
 refine st (p := pg) (off := 0) (k := 0) (vs := [iV r5.2.2.code, iV r5.2.2.index]) rfl rfl rfl (fun w => (tA27 w).2) rfl rfl rfl rfl ?_
 refine .cast (A' := [Box pg [iV r5.2.2.code, iV r5.2.2.index], Box pf [iV r3.2.code, iV r3.2.index], OwnSl 102 5 a4 (([(⟨1, 0, 0, 0, 0⟩ : TNode)] : List TNode).length) 1 (flL ([(⟨1, 0, 0, 0, 0⟩ : TNode)] : List TNode))]) rfl ?_
 refine .nil (.seqN (.seq (.region (.V (fa rfl tF27_0) ?_))))
 refine .V (ld1 rfl tO3 (cellB (off := 0) (k := 1) rfl rfl)) ?_
 refine .V (bi rfl rfl rfl) ?_
 refine .V (mv rfl) ?_
 rcases Bool.eq_false_or_eq_true (r3.2.code == 0) with q27 | q27
 ·replace hF := hF.1 q27
  refine .GV (fa rfl tF27_0) q27 ?_
  refine .GV (ld1 rfl tO3 (cellB (off := 0) (k := 0) rfl rfl)) q27 ?_
  refine .GV (bi rfl rfl rfl) q27 ?_
  refine .V (pkT rfl q27 rfl) ?_
  refine .V (mv rfl) ?_
  rcases Bool.eq_false_or_eq_true (r5.2.2.code == 0) with q28 | q28
  ·replace hF := hF.1 q28
   refine .GV (mv rfl) q28 ?_
   refine .GV (bi rfl rfl rfl) q28 ?_
   refine .V (pkT rfl q28 rfl) ?_
   refine .V (mv rfl) ?_
   rcases Bool.eq_false_or_eq_true (r3.1 == 0) with q29 | q29
   ·replace hF := hF.1 q29
    refine .GV (mv rfl) q29 ?_
    refine .V (pkT rfl q29 rfl) ?_
    refine .V (mv rfl) ?_
    rcases Bool.eq_false_or_eq_true (r5.2.1) with q30 | q30
    ·replace hF := hF.1 q30
     refine .GV (mv rfl) q30 ?_
     refine .GV (bld (cs := #[iV 1, iV 0, iV 0, iV 0, iV 0]) (pv := [(0, iV 1)]) tB102 rfl rfl) q30 ?_
     refine .GV (bld (cs := #[iV 2, iV 0, iV 0, iV 0, iV 0]) (pv := [(0, iV 2)]) tB102 rfl rfl) q30 ?_
     refine .gR rfl rfl rfl q30 ?_
     refine bs2 (cs := #[iV 1, iV 0, iV 0, iV 0, iV 0, iV 2, iV 0, iV 0, iV 0, iV 0]) (pv := [(0, .agg #[iV 1, iV 0, iV 0, iV 0, iV 0]), (1, .agg #[iV 2, iV 0, iV 0, iV 0, iV 0])]) tS60 rfl rfl (by decide) (by decide) rfl rfl rfl (fun a9 _ => ?_)
     refine .cast (A' := [OwnSl 102 5 a9 (([(⟨1, 0, 0, 0, 0⟩ : TNode), (⟨2, 0, 0, 0, 0⟩ : TNode)] : List TNode).length) 2 (flL ([(⟨1, 0, 0, 0, 0⟩ : TNode), (⟨2, 0, 0, 0, 0⟩ : TNode)] : List TNode)), Box pg [iV r5.2.2.code, iV r5.2.2.index], Box pf [iV r3.2.code, iV r3.2.index], OwnSl 102 5 a4 (([(⟨1, 0, 0, 0, 0⟩ : TNode)] : List TNode).length) 1 (flL ([(⟨1, 0, 0, 0, 0⟩ : TNode)] : List TNode))]) rfl ?_
     obtain ⟨q32, hF⟩ := hF
     obtain ⟨r6, q33⟩ : ∃ y_ : Bool, y_ = sp_trees r5.1 ([(⟨1, 0, 0, 0, 0⟩ : TNode), (⟨2, 0, 0, 0, 0⟩ : TNode)] : List TNode) := ⟨_, rfl⟩
     replace hF := hF r6 q33
     refine .gc (cl (v := .bool r6) Tryz.call35 rfl rfl (fun w S => (by rw [q33]; obtain ⟨h_, hl_, hs_, hne_, hr_⟩ := look S (k := 0) rfl; exact c_trees hs_ r5.1 a8 c7 (RSl.mono hl_ q18) q19 ([(⟨1, 0, 0, 0, 0⟩ : TNode), (⟨2, 0, 0, 0, 0⟩ : TNode)] : List TNode) a9 2 (RSl.of hr_) (look_len S (k := 0) rfl) q32))) rfl rfl rfl q30 rfl rfl ?_
     refine .V (pkT rfl q30 rfl) ?_
     refine .V (asg rfl) ?_
     refine .nil (.seqN (.ret ?_))
     refine .res1 rfl (rvT rfl) (fun w' S => ⟨r6, hF, rfl, S.below⟩)
    replace hF := hF.2 q30
    refine .GS q30 ?_
    refine .GS q30 ?_
    refine .GS q30 ?_
    refine .GS q30 ?_
    refine .GS q30 ?_
    refine .V (pkF rfl q30 rfl) ?_
    refine .V (asg rfl) ?_
    refine .nil (.seqN (.ret ?_))
    refine .res1 rfl (rvT rfl) (fun w' S => ⟨false, hF, rfl, S.below⟩)
   replace hF := hF.2 q29
   refine .GS q29 ?_
   refine .V (pkF rfl q29 rfl) ?_
   refine .V (mv rfl) ?_
   refine .gS rfl rfl rfl rfl rfl rfl ?_
   refine .gS rfl rfl rfl rfl rfl rfl ?_
   refine .gS rfl rfl rfl rfl rfl rfl ?_
   refine .gS rfl rfl rfl rfl rfl rfl ?_
   refine .gS rfl rfl rfl rfl rfl rfl ?_
   refine .V (pkF rfl rfl rfl) ?_
   refine .V (asg rfl) ?_
   refine .nil (.seqN (.ret ?_))
   refine .res1 rfl (rvT rfl) (fun w' S => ⟨false, hF, rfl, S.below⟩)
  replace hF := hF.2 q28
  refine .GS q28 ?_
  refine .GS q28 ?_
  refine .V (pkF rfl q28 rfl) ?_
  refine .V (mv rfl) ?_
  refine .gS rfl rfl rfl rfl rfl rfl ?_
  refine .V (pkF rfl rfl rfl) ?_
  refine .V (mv rfl) ?_
  refine .gS rfl rfl rfl rfl rfl rfl ?_
  refine .gS rfl rfl rfl rfl rfl rfl ?_
  refine .gS rfl rfl rfl rfl rfl rfl ?_
  refine .gS rfl rfl rfl rfl rfl rfl ?_
  refine .gS rfl rfl rfl rfl rfl rfl ?_
  refine .V (pkF rfl rfl rfl) ?_
  refine .V (asg rfl) ?_
  refine .nil (.seqN (.ret ?_))
  refine .res1 rfl (rvT rfl) (fun w' S => ⟨false, hF, rfl, S.below⟩)
 replace hF := hF.2 q27
 refine .GS q27 ?_
 refine .GS q27 ?_
 refine .GS q27 ?_
 refine .V (pkF rfl q27 rfl) ?_
 refine .V (mv rfl) ?_
 refine .gS rfl rfl rfl rfl rfl rfl ?_
 refine .gS rfl rfl rfl rfl rfl rfl ?_
 refine .V (pkF rfl rfl rfl) ?_
 refine .V (mv rfl) ?_
 refine .gS rfl rfl rfl rfl rfl rfl ?_
 refine .V (pkF rfl rfl rfl) ?_
 refine .V (mv rfl) ?_
 refine .gS rfl rfl rfl rfl rfl rfl ?_
 refine .gS rfl rfl rfl rfl rfl rfl ?_
 refine .gS rfl rfl rfl rfl rfl rfl ?_
 refine .gS rfl rfl rfl rfl rfl rfl ?_
 refine .gS rfl rfl rfl rfl rfl rfl ?_
 refine .V (pkF rfl rfl rfl) ?_
 refine .V (asg rfl) ?_
 refine .nil (.seqN (.ret ?_))
 refine .res1 rfl (rvT rfl) (fun w' S => ⟨false, hF, rfl, S.below⟩)
theorem c_stopped {h : FH} {w : World} (hs : Sub h w) (ht : TabH Tryz.prog h) : Calls Tryz.prog 33 #[] w fun e w' => e = .returned (.bool (sp_stopped)) ∧ Below w.heap.size w w' :=
 (w_stopped hs ht  (fun r => r = sp_stopped) (ok_stopped )).mono fun _ _ ⟨_, hk, he, hb⟩ => ⟨by rw [he, hk], hb⟩
set_option maxHeartbeats 8000000 in
theorem w_lawContMatches {h : FH} {w : World} (hs : Sub h w) (ht : TabH Tryz.prog h) (t : Task) (at_ : Option Addr) (ct : Nat) (_q1 : RSl h at_ t.init) (_q2 : t.init.length ≤ ct) (at_2 : Option Addr) (ct2 : Nat) (_q3 : RSl h at_2 t.goal) (_q4 : t.goal.length ≤ ct2) (at_3 : Option Addr) (ct3 : Nat) (_q5 : RSl h at_3 t.ops) (_q6 : t.ops.length ≤ ct3) (sensors : List Int) (asensors : Option Addr) (csensors : Nat) (_q7 : RSl h asensors sensors) (_q8 : sensors.length ≤ csensors) (tree : List TNode) (atree : Option Addr) (ctree : Nat) (_q9 : RSl h atree tree) (_q10 : tree.length ≤ ctree) (s_ : List Int) (as_ : Option Addr) (cs_ : Nat) (_q11 : RSl h as_ s_) (_q12 : s_.length ≤ cs_) (K : Bool → Prop) (hF : F_lawContMatches t sensors tree s_ K) : Calls Tryz.prog 8 #[.agg #[iV t.facts, .slice at_ t.init.length ct, .slice at_2 t.goal.length ct2, .slice at_3 t.ops.length ct3], .slice asensors sensors.length csensors, .slice atree tree.length ctree, .slice as_ s_.length cs_] w fun e w' => ∃ r : Bool, K r ∧ e = .returned (.bool r) ∧ Below w.heap.size w w' := by
 refine enter (args := [.agg (tF t at_ ct at_2 ct2 at_3 ct3).toArray, vSl asensors sensors csensors, vSl atree tree ctree, vSl as_ s_ cs_]) Tryz.func8 rfl Tryz.ntmps8 rfl hs ?_
 refine .seq (.region ?_)
 refine bx (vs := (tF t at_ ct at_2 ct2 at_3 ct3)) rfl rfl rfl (fun pt => ?_)
 refine .V (asg rfl) ?_
 refine .nil (.seqN (.seq (.region (.V (ldA (cs := (tF t at_ ct at_2 ct2 at_3 ct3)) rfl tA25 rfl (cellsB (off := 0) (k := 0) rfl (m := 4) rfl)) ?_))))
 refine .V (mv rfl) ?_
 refine .V (mv rfl) ?_
 obtain ⟨r2, q13⟩ : ∃ y_ : Int × Fault, y_ = sp_depth t sensors tree := ⟨_, rfl⟩
 replace hF := hF r2 q13
 refine .C (cl (v := .tuple #[iV r2.1, .agg #[iV r2.2.code, iV r2.2.index]]) Tryz.call37 rfl rfl (fun w S => (by rw [q13]; exact c_depth S.sub t at_ ct _q1 _q2 at_2 ct2 _q3 _q4 at_3 ct3 _q5 _q6 sensors asensors csensors _q7 _q8 tree atree ctree _q9 _q10 ))) ?_
 refine .V (mv rfl) ?_
 refine .V (ext rfl rfl) ?_
 refine .V (ext rfl rfl) ?_
 refine al tZ27 rfl (fun pf => ?_)
 refine .V (asg rfl) ?_
 refine st (p := pf) (off := 0) (k := 0) (vs := [iV r2.2.code, iV r2.2.index]) rfl rfl rfl (fun w => (tA27 w).2) rfl rfl rfl rfl ?_
 refine .cast (A' := [Box pf [iV r2.2.code, iV r2.2.index], Box pt (tF t at_ ct at_2 ct2 at_3 ct3)]) rfl ?_
 refine .nil (.seqN (.seq (.region (.V (ldA (cs := (tF t at_ ct at_2 ct2 at_3 ct3)) rfl tA25 rfl (cellsB (off := 0) (k := 1) rfl (m := 4) rfl)) ?_))))
 refine .V (mv rfl) ?_
 refine .V (mv rfl) ?_
 refine .V (mv rfl) ?_
 obtain ⟨r3, q14⟩ : ∃ y_ : List Int × Bool × Fault, y_ = sp_cRun t sensors tree s_ := ⟨_, rfl⟩
 replace hF := hF r3 q14
 refine clR (α := Option Addr × Nat) (Φ := fun h1 z => RSl h1 z.1 r3.1 ∧ r3.1.length ≤ z.2) (V := fun z => .tuple #[vSl z.1 r3.1 z.2, .bool r3.2.1, .agg #[iV r3.2.2.code, iV r3.2.2.index]]) Tryz.call38 rfl rfl (fun w S => (by rw [q14]; exact c_cRun S.sub t at_ ct _q1 _q2 at_2 ct2 _q3 _q4 at_3 ct3 _q5 _q6 sensors asensors csensors _q7 _q8 tree atree ctree _q9 _q10 s_ as_ cs_ _q11 _q12 )) rfl (fun z h1 le1 hz => ?_)
 obtain ⟨a, c⟩ := z
 obtain ⟨q15, q16⟩ := hz
 refine .V (mv rfl) ?_
 refine .V (ext rfl rfl) ?_
 refine .V (ext rfl rfl) ?_
 refine .V (ext rfl rfl) ?_
 refine al tZ27 rfl (fun pg => ?_)
 refine .V (asg rfl) ?_
 refine .V (asg rfl) ?_
 refine st (p := pg) (off := 0) (k := 0) (vs := [iV r3.2.2.code, iV r3.2.2.index]) rfl rfl rfl (fun w => (tA27 w).2) rfl rfl rfl rfl ?_
 refine .cast (A' := [Box pg [iV r3.2.2.code, iV r3.2.2.index], Box pf [iV r2.2.code, iV r2.2.index], Box pt (tF t at_ ct at_2 ct2 at_3 ct3)]) rfl ?_
 refine .nil (.seqN (.seq (.region (.V (ldA (cs := (tF t at_ ct at_2 ct2 at_3 ct3)) rfl tA25 rfl (cellsB (off := 0) (k := 2) rfl (m := 4) rfl)) ?_))))
 refine .V (mv rfl) ?_
 refine .V (mv rfl) ?_
 obtain ⟨r4, q17⟩ : ∃ y_ : Fault, y_ = sp_cvalidate t sensors tree := ⟨_, rfl⟩
 replace hF := hF r4 q17
 refine .C (cl (v := .agg #[iV r4.code, iV r4.index]) Tryz.call39 rfl rfl (fun w S => (by rw [q17]; exact c_treeFault S.sub t at_ ct (_q1.mono (le1)) _q2 at_2 ct2 (_q3.mono (le1)) _q4 at_3 ct3 (_q5.mono (le1)) _q6 sensors asensors csensors (_q7.mono (le1)) _q8 tree atree ctree (_q9.mono (le1)) _q10 ))) ?_
 refine al tZ27 rfl (fun pe => ?_)
 refine st (p := pe) (off := 0) (k := 0) (vs := [iV r4.code, iV r4.index]) rfl rfl rfl (fun w => (tA27 w).2) rfl rfl rfl rfl ?_
 refine .cast (A' := [Box pe [iV r4.code, iV r4.index], Box pg [iV r3.2.2.code, iV r3.2.2.index], Box pf [iV r2.2.code, iV r2.2.index], Box pt (tF t at_ ct at_2 ct2 at_3 ct3)]) rfl ?_
 refine .nil (.seqN (.seq ?_))
 refine .share (σ := Bool) (fun z => F_lawContMatches_J1 t tree s_ K r2 r3 r4 z) (fun z => [(2, vSl atree tree ctree), (3, vSl as_ s_ cs_), (4, .pointer (some pt)), (9, iV r2.1), (11, vSl a r3.1 c), (12, .bool r3.2.1), (13, .pointer (some pg)), (14, .pointer (some pe)), (47, .bool z)]) (fun _ => [Box pt (tF t at_ ct at_2 ct2 at_3 ct3), Box pg [iV r3.2.2.code, iV r3.2.2.index], Box pe [iV r4.code, iV r4.index]]) (fun _ => h1) ?_ (fun q20 => ?_)
 ·rintro t47 hF
  show J _ _ _ _ _ [(2, vSl atree tree ctree), (3, vSl as_ s_ cs_), (4, .pointer (some pt)), (9, iV r2.1), (11, vSl a r3.1 c), (12, .bool r3.2.1), (13, .pointer (some pg)), (14, .pointer (some pe)), (47, .bool t47)] [Box pt (tF t at_ ct at_2 ct2 at_3 ct3), Box pg [iV r3.2.2.code, iV r3.2.2.index], Box pe [iV r4.code, iV r4.index]] h1
  refine .cond rfl (fun q22 => ?_) (fun q22 => ?_)
  ·replace hF := hF.1 q22
   refine .seq (.region (.V (asg rfl) ?_))
   refine .nil (.seqN (.ret (.seqR ?_)))
   refine .res1 rfl (rvT rfl) (fun w' S => ⟨false, hF, rfl, S.below⟩)
  replace hF := hF.2 q22
  refine .skip (.seqN (.seq (.seq (.region (.V (fa rfl tF27_0) ?_)))))
  refine .V (ld1 rfl tO3 (cellB (off := 0) (k := 2) rfl rfl)) ?_
  refine .V (bi rfl rfl rfl) ?_
  refine .nil (.seqN ?_)
  refine .cond rfl (fun q34 => ?_) (fun q34 => ?_)
  ·replace hF := hF.1 q34
   refine .seq (.region (.V (mv rfl) ?_))
   refine .V (bi rfl rfl rfl) ?_
   refine .V (mv rfl) ?_
   rcases Bool.eq_false_or_eq_true (r2.1 == 0) with q40 | q40
   ·replace hF := hF.1 q40
    refine .GV (ldA (cs := [iV r3.2.2.code, iV r3.2.2.index]) rfl tA27 rfl (cellsB (off := 0) (k := 1) rfl (m := 2) rfl)) q40 ?_
    refine .GV (ldA (cs := [iV r4.code, iV r4.index]) rfl tA27 rfl (cellsB (off := 0) (k := 2) rfl (m := 2) rfl)) q40 ?_
    refine .GV (eq2 tE27 rfl rfl) q40 ?_
    refine .V (pkT rfl q40 rfl) ?_
    refine .V (mv rfl) ?_
    rcases Bool.eq_false_or_eq_true ((r3.2.2.code == r4.code) && (r3.2.2.index == r4.index)) with q41 | q41
    ·replace hF := hF.1 q41
     refine .GV (mv rfl) q41 ?_
     refine .GV (nt rfl) q41 ?_
     refine .V (pkT rfl q41 rfl) ?_
     refine .V (mv rfl) ?_
     rcases Bool.eq_false_or_eq_true (!r3.2.1) with q42 | q42
     ·replace hF := hF.1 q42
      refine .GV (mv rfl) q42 ?_
      refine .GV (ln rfl tS22.is) q42 ?_
      refine .GV (bi rfl rfl rfl) q42 ?_
      refine .V (pkT rfl q42 rfl) ?_
      refine .V (mv rfl) ?_
      rcases Bool.eq_false_or_eq_true (((r3.1.length : Nat) : Int) == 0) with q43 | q43
      ·replace hF := hF.1 q43
       obtain ⟨r5, q44⟩ : ∃ y_ : Bool, y_ = sp_stopped := ⟨_, rfl⟩
       replace hF := hF r5 q44
       refine .gc (cl (v := .bool r5) Tryz.call33 rfl rfl (fun w S => (by rw [q44]; exact c_stopped S.sub (ht.mono (le1)) ))) rfl rfl rfl q43 rfl rfl ?_
       refine .V (pkT rfl q43 rfl) ?_
       refine .V (asg rfl) ?_
       refine .nil (.seqN (.ret (.seqR ?_)))
       refine .res1 rfl (rvT rfl) (fun w' S => ⟨r5, hF, rfl, S.below⟩)
      replace hF := hF.2 q43
      refine .GS q43 ?_
      refine .V (pkF rfl q43 rfl) ?_
      refine .V (asg rfl) ?_
      refine .nil (.seqN (.ret (.seqR ?_)))
      refine .res1 rfl (rvT rfl) (fun w' S => ⟨false, hF, rfl, S.below⟩)
     replace hF := hF.2 q42
     refine .GS q42 ?_
     refine .GS q42 ?_
     refine .GS q42 ?_
     refine .V (pkF rfl q42 rfl) ?_
     refine .V (mv rfl) ?_
     refine .gS rfl rfl rfl rfl rfl rfl ?_
     refine .V (pkF rfl rfl rfl) ?_
     refine .V (asg rfl) ?_
     refine .nil (.seqN (.ret (.seqR ?_)))
     refine .res1 rfl (rvT rfl) (fun w' S => ⟨false, hF, rfl, S.below⟩)
    replace hF := hF.2 q41
    refine .GS q41 ?_
    refine .GS q41 ?_
    refine .V (pkF rfl q41 rfl) ?_
    refine .V (mv rfl) ?_
    refine .gS rfl rfl rfl rfl rfl rfl ?_
    refine .gS rfl rfl rfl rfl rfl rfl ?_
    refine .gS rfl rfl rfl rfl rfl rfl ?_
    refine .V (pkF rfl rfl rfl) ?_
    refine .V (mv rfl) ?_
    refine .gS rfl rfl rfl rfl rfl rfl ?_
    refine .V (pkF rfl rfl rfl) ?_
    refine .V (asg rfl) ?_
    refine .nil (.seqN (.ret (.seqR ?_)))
    refine .res1 rfl (rvT rfl) (fun w' S => ⟨false, hF, rfl, S.below⟩)
   replace hF := hF.2 q40
   refine .GS q40 ?_
   refine .GS q40 ?_
   refine .GS q40 ?_
   refine .V (pkF rfl q40 rfl) ?_
   refine .V (mv rfl) ?_
   refine .gS rfl rfl rfl rfl rfl rfl ?_
   refine .gS rfl rfl rfl rfl rfl rfl ?_
   refine .V (pkF rfl rfl rfl) ?_
   refine .V (mv rfl) ?_
   refine .gS rfl rfl rfl rfl rfl rfl ?_
   refine .gS rfl rfl rfl rfl rfl rfl ?_
   refine .gS rfl rfl rfl rfl rfl rfl ?_
   refine .V (pkF rfl rfl rfl) ?_
   refine .V (mv rfl) ?_
   refine .gS rfl rfl rfl rfl rfl rfl ?_
   refine .V (pkF rfl rfl rfl) ?_
   refine .V (asg rfl) ?_
   refine .nil (.seqN (.ret (.seqR ?_)))
   refine .res1 rfl (rvT rfl) (fun w' S => ⟨false, hF, rfl, S.below⟩)
  replace hF := hF.2 q34
  refine .skip (.seqN (.seq (.seq (.region (.V (mv rfl) ?_)))))
  refine .V (mv rfl) ?_
  obtain ⟨q45, hF⟩ := hF
  obtain ⟨r6, q46⟩ : ∃ y_ : Int, y_ = sp_treeDepth tree := ⟨_, rfl⟩
  replace hF := hF r6 q46
  refine .C (cl (v := iV r6) Tryz.call41 rfl rfl (fun w S => (by rw [q46]; exact c_treeDepth S.sub tree atree ctree (_q9.mono (le1)) _q10 q45))) ?_
  refine .V (bi rfl rfl rfl) ?_
  refine .nil (.seqN ?_)
  refine .cond rfl (fun q48 => ?_) (fun q48 => ?_)
  ·replace hF := hF.1 q48
   refine .seq (.region (.V (asg rfl) ?_))
   refine .nil (.seqN (.ret (.seqR ?_)))
   refine .res1 rfl (rvT rfl) (fun w' S => ⟨false, hF, rfl, S.below⟩)
  replace hF := hF.2 q48
  refine .skip (.seqN (.seq (.seq (.region (.V (ldA (cs := (tF t at_ ct at_2 ct2 at_3 ct3)) rfl tA25 rfl (cellsB (off := 0) (k := 0) rfl (m := 4) rfl)) ?_)))))
  refine .V (mv rfl) ?_
  obtain ⟨q49, hF⟩ := hF
  obtain ⟨r7, q50⟩ : ∃ y_ : Bool, y_ = sp_stateOk t s_ := ⟨_, rfl⟩
  replace hF := hF r7 q50
  refine .C (cl (v := .bool r7) Tryz.call42 rfl rfl (fun w S => (by rw [q50]; exact c_stateOk S.sub t at_ ct (_q1.mono (le1)) _q2 at_2 ct2 (_q3.mono (le1)) _q4 at_3 ct3 (_q5.mono (le1)) _q6 s_ as_ cs_ (_q11.mono (le1)) _q12 q49))) ?_
  refine .V (nt rfl) ?_
  refine .nil (.seqN ?_)
  refine .cond rfl (fun q62 => ?_) (fun q62 => ?_)
  ·replace hF := hF.1 q62
   refine .seq ?_
   refine .open_ (by kernel_rfl) (by kernel_rfl) ?_
   refine .V (ldA (cs := [iV r3.2.2.code, iV r3.2.2.index]) rfl tA27 rfl (cellsB (off := 0) (k := 1) rfl (m := 2) rfl)) ?_
   obtain ⟨r8, q68⟩ : ∃ y_ : Fault, y_ = sp_at_ 5 (-4) := ⟨_, rfl⟩
   replace hF := hF r8 q68
   refine .C (cl (v := .agg #[iV r8.code, iV r8.index]) Tryz.call18 rfl rfl (fun w S => (by rw [q68]; exact c_at_ S.sub 5 (-4) ))) ?_
   refine .V (eq2 tE27 rfl rfl) ?_
   refine .V (mv rfl) ?_
   rcases Bool.eq_false_or_eq_true ((r3.2.2.code == r8.code) && (r3.2.2.index == r8.index)) with q69 | q69
   ·replace hF := hF.1 q69
    refine .GV (mv rfl) q69 ?_
    refine .GV (nt rfl) q69 ?_
    refine .V (pkT rfl q69 rfl) ?_
    refine .V (mv rfl) ?_
    rcases Bool.eq_false_or_eq_true (!r3.2.1) with q70 | q70
    ·replace hF := hF.1 q70
     refine .GV (mv rfl) q70 ?_
     refine .GV (ln rfl tS22.is) q70 ?_
     refine .GV (bi rfl rfl rfl) q70 ?_
     refine .V (pkT rfl q70 rfl) ?_
     refine .V (mv rfl) ?_
     rcases Bool.eq_false_or_eq_true (((r3.1.length : Nat) : Int) == 0) with q71 | q71
     ·replace hF := hF.1 q71
      obtain ⟨r9, q72⟩ : ∃ y_ : Bool, y_ = sp_stopped := ⟨_, rfl⟩
      replace hF := hF r9 q72
      refine .gc (cl (v := .bool r9) Tryz.call33 rfl rfl (fun w S => (by rw [q72]; exact c_stopped S.sub (ht.mono (le1)) ))) rfl rfl rfl q71 rfl rfl ?_
      refine .V (pkT rfl q71 rfl) ?_
      refine .V (asg rfl) ?_
      refine .fin ?_
      refine .seqN (.ret (.seqR ?_))
      refine .res1 rfl (rvT rfl) (fun w' S => ⟨r9, hF, rfl, S.below⟩)
     replace hF := hF.2 q71
     refine .GS q71 ?_
     refine .V (pkF rfl q71 rfl) ?_
     refine .V (asg rfl) ?_
     refine .fin ?_
     refine .seqN (.ret (.seqR ?_))
     refine .res1 rfl (rvT rfl) (fun w' S => ⟨false, hF, rfl, S.below⟩)
    replace hF := hF.2 q70
    refine .GS q70 ?_
    refine .GS q70 ?_
    refine .GS q70 ?_
    refine .V (pkF rfl q70 rfl) ?_
    refine .V (mv rfl) ?_
    refine .gS rfl rfl rfl rfl rfl rfl ?_
    refine .V (pkF rfl rfl rfl) ?_
    refine .V (asg rfl) ?_
    refine .fin ?_
    refine .seqN (.ret (.seqR ?_))
    refine .res1 rfl (rvT rfl) (fun w' S => ⟨false, hF, rfl, S.below⟩)
   replace hF := hF.2 q69
   refine .GS q69 ?_
   refine .GS q69 ?_
   refine .V (pkF rfl q69 rfl) ?_
   refine .V (mv rfl) ?_
   refine .gS rfl rfl rfl rfl rfl rfl ?_
   refine .gS rfl rfl rfl rfl rfl rfl ?_
   refine .gS rfl rfl rfl rfl rfl rfl ?_
   refine .V (pkF rfl rfl rfl) ?_
   refine .V (mv rfl) ?_
   refine .gS rfl rfl rfl rfl rfl rfl ?_
   refine .V (pkF rfl rfl rfl) ?_
   refine .V (asg rfl) ?_
   refine .fin ?_
   refine .seqN (.ret (.seqR ?_))
   refine .res1 rfl (rvT rfl) (fun w' S => ⟨false, hF, rfl, S.below⟩)
  replace hF := hF.2 q62
  refine .skip (.seqN (.seq (.region (.V (ldA (cs := (tF t at_ ct at_2 ct2 at_3 ct3)) rfl tA25 rfl (cellsB (off := 0) (k := 0) rfl (m := 4) rfl)) ?_))))
  refine .V (mv rfl) ?_
  refine .V (mv rfl) ?_
  refine .V (ln rfl tS60.is) ?_
  refine .V (bi rfl rfl rfl) ?_
  refine .V (mv rfl) ?_
  obtain ⟨q73, hF⟩ := hF
  obtain ⟨r10, q74⟩ : ∃ y_ : List Int × Bool, y_ = sp_treeRun t tree (wr (((tree.length : Nat) : Int) - 1)) s_ := ⟨_, rfl⟩
  replace hF := hF r10 q74
  refine clR (α := Option Addr × Nat) (Φ := fun h1 z => RSl h1 z.1 r10.1 ∧ r10.1.length ≤ z.2) (V := fun z => .tuple #[vSl z.1 r10.1 z.2, .bool r10.2]) Tryz.call43 rfl rfl (fun w S => (by rw [q74]; exact c_treeRun S.sub t at_ ct (_q1.mono (le1)) _q2 at_2 ct2 (_q3.mono (le1)) _q4 at_3 ct3 (_q5.mono (le1)) _q6 tree atree ctree (_q9.mono (le1)) _q10 (wr (((tree.length : Nat) : Int) - 1)) s_ as_ cs_ (_q11.mono (le1)) _q12 q73)) rfl (fun z h2 le2 hz => ?_)
  obtain ⟨a2, c2⟩ := z
  obtain ⟨q75, q76⟩ := hz
  refine .V (mv rfl) ?_
  refine .V (ext rfl rfl) ?_
  refine .V (ext rfl rfl) ?_
  refine .V (asg rfl) ?_
  refine .V (asg rfl) ?_
  refine .nil (.seqN (.seq (.region (.V (fa rfl tF27_0) ?_))))
  refine .V (ld1 rfl tO3 (cellB (off := 0) (k := 1) rfl rfl)) ?_
  refine .V (bi rfl rfl rfl) ?_
  refine .V (mv rfl) ?_
  rcases Bool.eq_false_or_eq_true (r3.2.2.code == 0) with q83 | q83
  ·replace hF := hF.1 q83
   refine .GV (mv rfl) q83 ?_
   refine .GV (mv rfl) q83 ?_
   refine .GV (beql Tryz.underlying4 rfl rfl) q83 ?_
   refine .V (pkT rfl q83 rfl) ?_
   refine .V (mv rfl) ?_
   rcases Bool.eq_false_or_eq_true (r3.2.1 == r10.2) with q84 | q84
   ·replace hF := hF.1 q84
    refine .GV (mv rfl) q84 ?_
    refine .GV (mv rfl) q84 ?_
    obtain ⟨q85, hF⟩ := hF
    obtain ⟨r11, q86⟩ : ∃ y_ : Bool, y_ = sp_numbers r3.1 r10.1 := ⟨_, rfl⟩
    replace hF := hF r11 q86
    refine .gc (cl (v := .bool r11) Tryz.call19 rfl rfl (fun w S => (by rw [q86]; exact c_numbers S.sub r3.1 a c (q15.mono (le2)) q16 r10.1 a2 c2 q75 q76 q85))) rfl rfl rfl q84 rfl rfl ?_
    refine .V (pkT rfl q84 rfl) ?_
    refine .V (mv rfl) ?_
    rcases Bool.eq_false_or_eq_true (r11) with q87 | q87
    ·replace hF := hF.1 q87
     obtain ⟨r12, q88⟩ : ∃ y_ : Bool, y_ = sp_stopped := ⟨_, rfl⟩
     replace hF := hF r12 q88
     refine .gc (cl (v := .bool r12) Tryz.call33 rfl rfl (fun w S => (by rw [q88]; exact c_stopped S.sub (ht.mono (FH.le_trans (le1) (le2))) ))) rfl rfl rfl q87 rfl rfl ?_
     refine .V (pkT rfl q87 rfl) ?_
     refine .V (asg rfl) ?_
     refine .nil (.seqN (.ret ?_))
     refine .res1 rfl (rvT rfl) (fun w' S => ⟨r12, hF, rfl, S.below⟩)
    replace hF := hF.2 q87
    refine .GS q87 ?_
    refine .V (pkF rfl q87 rfl) ?_
    refine .V (asg rfl) ?_
    refine .nil (.seqN (.ret ?_))
    refine .res1 rfl (rvT rfl) (fun w' S => ⟨false, hF, rfl, S.below⟩)
   replace hF := hF.2 q84
   refine .GS q84 ?_
   refine .GS q84 ?_
   refine .GS q84 ?_
   refine .V (pkF rfl q84 rfl) ?_
   refine .V (mv rfl) ?_
   refine .gS rfl rfl rfl rfl rfl rfl ?_
   refine .V (pkF rfl rfl rfl) ?_
   refine .V (asg rfl) ?_
   refine .nil (.seqN (.ret ?_))
   refine .res1 rfl (rvT rfl) (fun w' S => ⟨false, hF, rfl, S.below⟩)
  replace hF := hF.2 q83
  refine .GS q83 ?_
  refine .GS q83 ?_
  refine .GS q83 ?_
  refine .V (pkF rfl q83 rfl) ?_
  refine .V (mv rfl) ?_
  refine .gS rfl rfl rfl rfl rfl rfl ?_
  refine .gS rfl rfl rfl rfl rfl rfl ?_
  refine .gS rfl rfl rfl rfl rfl rfl ?_
  refine .V (pkF rfl rfl rfl) ?_
  refine .V (mv rfl) ?_
  refine .gS rfl rfl rfl rfl rfl rfl ?_
  refine .V (pkF rfl rfl rfl) ?_
  refine .V (asg rfl) ?_
  refine .nil (.seqN (.ret ?_))
  refine .res1 rfl (rvT rfl) (fun w' S => ⟨false, hF, rfl, S.below⟩)
 refine .open_ (by kernel_rfl) (by kernel_rfl) ?_
 refine .V (ldA (cs := (tF t at_ ct at_2 ct2 at_3 ct3)) rfl tA25 rfl (cellsB (off := 0) (k := 3) rfl (m := 4) rfl)) ?_
 refine .V (mv rfl) ?_
 refine .V (mv rfl) ?_
 obtain ⟨r13, q89⟩ : ∃ y_ : Fault, y_ = sp_cvalidate t sensors tree := ⟨_, rfl⟩
 replace hF := hF r13 q89
 refine .C (cl (v := .agg #[iV r13.code, iV r13.index]) Tryz.call40 rfl rfl (fun w S => (by rw [q89]; exact c_cvalidate S.sub t at_ ct (_q1.mono (le1)) _q2 at_2 ct2 (_q3.mono (le1)) _q4 at_3 ct3 (_q5.mono (le1)) _q6 sensors asensors csensors (_q7.mono (le1)) _q8 tree atree ctree (_q9.mono (le1)) _q10 ))) ?_
 refine .V (ldA (cs := [iV r4.code, iV r4.index]) rfl tA27 rfl (cellsB (off := 0) (k := 0) rfl (m := 2) rfl)) ?_
 refine .V (ne2 tE27 rfl rfl) ?_
 refine .V (mv rfl) ?_
 rcases Bool.eq_false_or_eq_true (!((r13.code == r4.code) && (r13.index == r4.index))) with q90 | q90
 ·replace hF := hF.1 q90
  refine .GS q90 ?_
  refine .GS q90 ?_
  refine .GS q90 ?_
  refine .V (pkT rfl q90 rfl) ?_
  refine .fin ?_
  refine .sel0 [3, 1, 0] (by decide) rfl ?_
  exact .US q20 true hF
 replace hF := hF.2 q90
 refine .GV (ldA (cs := [iV r2.2.code, iV r2.2.index]) rfl tA27 rfl (cellsB (off := 0) (k := 2) rfl (m := 2) rfl)) q90 ?_
 refine .GV (ldA (cs := [iV r4.code, iV r4.index]) rfl tA27 rfl (cellsB (off := 0) (k := 0) rfl (m := 2) rfl)) q90 ?_
 refine .GV (ne2 tE27 rfl rfl) q90 ?_
 refine .V (pkF rfl q90 rfl) ?_
 refine .fin ?_
 refine .sel0 [3, 1, 0] (by decide) rfl ?_
 exact .US q20 (!((r2.2.code == r4.code) && (r2.2.index == r4.index))) hF
theorem c_lawContMatches {h : FH} {w : World} (hs : Sub h w) (ht : TabH Tryz.prog h) (t : Task) (at_ : Option Addr) (ct : Nat) (_q1 : RSl h at_ t.init) (_q2 : t.init.length ≤ ct) (at_2 : Option Addr) (ct2 : Nat) (_q3 : RSl h at_2 t.goal) (_q4 : t.goal.length ≤ ct2) (at_3 : Option Addr) (ct3 : Nat) (_q5 : RSl h at_3 t.ops) (_q6 : t.ops.length ≤ ct3) (sensors : List Int) (asensors : Option Addr) (csensors : Nat) (_q7 : RSl h asensors sensors) (_q8 : sensors.length ≤ csensors) (tree : List TNode) (atree : Option Addr) (ctree : Nat) (_q9 : RSl h atree tree) (_q10 : tree.length ≤ ctree) (s_ : List Int) (as_ : Option Addr) (cs_ : Nat) (_q11 : RSl h as_ s_) (_q12 : s_.length ≤ cs_) : Calls Tryz.prog 8 #[.agg #[iV t.facts, .slice at_ t.init.length ct, .slice at_2 t.goal.length ct2, .slice at_3 t.ops.length ct3], .slice asensors sensors.length csensors, .slice atree tree.length ctree, .slice as_ s_.length cs_] w fun e w' => e = .returned (.bool (sp_lawContMatches t sensors tree s_)) ∧ Below w.heap.size w w' :=
 (w_lawContMatches hs ht t at_ ct _q1 _q2 at_2 ct2 _q3 _q4 at_3 ct3 _q5 _q6 sensors asensors csensors _q7 _q8 tree atree ctree _q9 _q10 s_ as_ cs_ _q11 _q12 (fun r => r = sp_lawContMatches t sensors tree s_) (ok_lawContMatches t sensors tree s_)).mono fun _ _ ⟨_, hk, he, hb⟩ => ⟨by rw [he, hk], hb⟩
end Go.Proofs.YtojoehfldbimpaaGreatDoor.Pl

namespace Go.Proofs.YtojoehfldbimpaaGreatDoor.Pl
open Go Go.RowKit
end Go.Proofs.YtojoehfldbimpaaGreatDoor.Pl

namespace Go.Proofs.YtojoehfldbimpaaGreatDoor.Pl
open Go Go.RowKit Go.WideShapes Go.ChangeShapes Go.ChangeAt Go.Joins Go.Deep
section
variable {H : Type} {enc : TypeId × Value → H} {P : Program}
theorem all_stays (hl : laidOutB P = true) {W W' : World} (hb : Go.RowKit.Below W.heap.size W W') {sp : Nat → Bool} : ∀ (ts : List TypeId) (vs : List Value) (ds : List (DataW H)) (ps : List MemPlace),
  (ts.all fun t => P.readableRec t && decide (t < P.types.size)) = true → DataW.TrodAll enc P W 0 (fun _ => true) true ts vs ds ps → (∀ x ∈ ps, x.block < W.heap.size) → (∀ x ∈ ps, sp x.block = true) → DataW.TrodAll enc P W' 0 sp true ts vs ds ps
 | [], vs, ds, ps, _, h, _, _ => by
  cases vs with
  | nil => cases ds with
   | nil => exact h
   | cons _ _ => exact h.elim
  | cons _ _ => exact h.elim
 | t :: ts, vs, ds, ps, hr, h, hlt, hsp => by
  obtain ⟨v0, vs0, d0, ds0, p0, q0, rfl, rfl, rfl, h0, r0⟩ := trodAll_cons h
  simp only [List.all_cons, Bool.and_eq_true, decide_eq_true_eq] at hr
  refine trodAll_cons_mk (WideElems.Trod_stays hl hr.1.1 hr.1.2 h0 (fun x hx => hb.same (hlt x (by simp [hx]))) (fun x hx => hsp x (by simp [hx]))) ?_
  exact all_stays hl hb ts vs0 ds0 q0 (by simpa using hr.2) r0 (fun x hx => hlt x (by simp [hx])) (fun x hx => hsp x (by simp [hx]))
def hold (W : World) : FH := fun b => W.heap[b]?
theorem hold_sub (W : World) : Sub (hold W) W := fun _ _ e => e
theorem hold_cell {W : World} {a : Addr} {v : Value} (e : W.cell? a = some v) : (hold W).cell a = some v := by
 unfold World.cell? at e
 unfold FH.cell hold
 cases hb : W.heap[a.block]? with
 | none => rw [hb] at e; cases e
 | some o => rw [hb] at e; cases o <;> simp_all
theorem rsl_of {α : Type} [Rep α] {h : FH} : ∀ (xs : List α) (a : Addr), (∀ (i : Nat) (x : α), xs[i]? = some x → ∃ cs, Rep.rep h x cs ∧ CellsAt h (a.add (i * Rep.sz α)) cs) → RSl h (some a) xs
 | [], a, _ => RSl.nil_
 | x :: r, a, hx => by
  obtain ⟨cs, h1, h2⟩ := hx 0 x rfl
  obtain ⟨ds, g1, g2⟩ := rsl_of r (a.add (Rep.sz α)) fun i y hy => by
   obtain ⟨c, k1, k2⟩ := hx (i + 1) y (by simpa using hy)
   refine ⟨c, k1, ?_⟩
   rw [add_add, show Rep.sz α + i * Rep.sz α = (i + 1) * Rep.sz α by rw [Nat.add_mul]; omega]
   exact k2
  have hl := Rep.len h1
  refine ⟨cs ++ ds, ⟨cs, ds, rfl, h1, g1⟩, fun j v e => ⟨by simp, ?_⟩⟩
  show h.cell (a.add j) = some v
  by_cases hj : j < cs.length
  ·rw [List.getElem?_append_left hj] at e
   have := h2 j v e
   rwa [add_add, Nat.zero_mul, Nat.zero_add] at this
  ·rw [List.getElem?_append_right (by omega)] at e
   have := (g2 (j - cs.length) v e).2
   have e2 : ead (some (a.add (Rep.sz α))) (j - cs.length) = a.add j := by
    show (a.add (Rep.sz α)).add (j - cs.length) = a.add j
    rw [add_add, hl]; congr 1; omega
   rwa [e2] at this
class Bytes (α : Type) where
 n : Nat
instance : Bytes Int := ⟨8⟩
instance {α : Type} : Bytes (List α) := ⟨24⟩
class Siz (α : Type) where
 siz : α → Prop
instance : Siz Int := ⟨fun _ => True⟩
instance : Siz Bool := ⟨fun _ => True⟩
instance {α : Type} [Bytes α] [Siz α] : Siz (List α) := ⟨fun xs => xs.length * Bytes.n α ≤ reachBytes ∧ ∀ x ∈ xs, Siz.siz x⟩
def Reads (P : Program) (α : Type) [Rep α] [Siz α] (t : TypeId) : Prop := ∀ (H : Type) (enc : TypeId × Value → H) (w : World) (b : Nat) (sp : Nat → Bool) (hd : Bool) (n : Nat) (cs : List Value) (z : DataW H × List MemPlace), DataW.trod enc P w b sp hd n t cs = some z →
 ∃ x : α, Rep.rep (hold w) x cs ∧ ((∀ m ∈ z.1.weights P t, m ≤ reachBytes) → Siz.siz x)
theorem reads_int {t : TypeId} (ht : P.underlying t = some (.int .i64)) : Reads P Int t := fun H enc w b sp hd n cs z h => by
 obtain ⟨x, e, _⟩ := DataW.trod_int ht h
 exact ⟨x, e, fun _ => trivial⟩
theorem listed_ {α : Type} {p : Nat → α → Prop} : ∀ (m : Nat), (∀ i, i < m → ∃ x : α, p i x) → ∃ xs : List α, xs.length = m ∧ ∀ (i : Nat) (x : α), xs[i]? = some x → p i x
 | 0, _ => ⟨[], rfl, fun i x e => by simp at e⟩
 | k + 1, hx => by
  obtain ⟨xs, h1, h2⟩ := listed_ k fun i hi => hx i (by omega)
  obtain ⟨x, h3⟩ := hx k (by omega)
  refine ⟨xs ++ [x], by simp [h1], fun i y e => ?_⟩
  by_cases hik : i < xs.length
  ·rw [List.getElem?_append_left hik] at e; exact h2 i y e
  ·rw [List.getElem?_append_right (by omega)] at e
   have e0 : i - xs.length = 0 := by have := (List.getElem?_eq_some_iff.1 e).1; simp at this; omega
   rw [e0] at e
   simp at e; subst e
   have : i = k := by omega
   subst this
   exact h3
theorem weights_all {e : TypeId} : ∀ {l : List (DataW H)} {d : DataW H}, d ∈ l → ∀ n ∈ d.weights P e, n ∈ DataW.weightsAll P e l
 | [], _, h, _, _ => by cases h
 | x :: r, d, h, n, hn => by
  simp only [DataW.weightsAll, List.mem_append]
  rcases List.mem_cons.1 h with rfl | h
  ·exact .inl hn
  ·exact .inr (weights_all h n hn)
theorem reads_slice {α : Type} [Rep α] [Bytes α] [Siz α] {t e : TypeId} (ht : P.underlying t = some (.slice e)) (hc : P.cellsOf e = Rep.sz α) (hby : P.bytesOf e = Bytes.n α) (he : Reads P α e) : Reads P (List α) t := fun H enc w b sp hd n cs z h => by
 rcases open_slice ht h with ⟨rfl, _⟩ | ⟨a, len, cap, m, n', D, Q, rfl, _, hl, _, hm, hz, hi⟩
 ·exact ⟨[], ⟨none, 0, rfl, Nat.le_refl _, RSl.nil_⟩, fun _ => ⟨by simp, fun x hx => by cases hx⟩⟩
 ·have hx : ∀ i, i < len → ∃ x : α, (∃ cs, Rep.rep (hold w) x cs ∧ CellsAt (hold w) (a.add (i * Rep.sz α)) cs) ∧ ((∀ m ∈ (D i).weights P e, m ≤ reachBytes) → Siz.siz x) := fun i hlt => by
   have hlm : len ≤ m := by rw [hm]; split <;> omega
   obtain ⟨cs', hcs, ht'⟩ := hi i (by omega)
   obtain ⟨x, hx, hsz⟩ := he H enc w b sp hd n' cs' _ ht'
   obtain ⟨_, hcl, hat⟩ := World.cells?_some hcs
   refine ⟨x, ⟨cs', hx, fun j v e => hold_cell ?_⟩, hsz⟩
   rw [hc] at hat hcl
   rw [hat j (by rw [← hcl]; exact (List.getElem?_eq_some_iff.1 e).1)]
   exact e
  obtain ⟨xs, hxl, hxs⟩ := listed_ len hx
  refine ⟨xs, ⟨some a, cap, by rw [hxl], by omega, rsl_of xs a fun i x hix => (hxs i x hix).1⟩, fun hw => ⟨?_, fun x hx => ?_⟩⟩
  ·have := hw ((((List.range len).map D).length + ((List.range (m - len)).map fun j => D (len + j)).length) * P.bytesOf e) (by rw [hz]; simp [DataW.weights, ht])
   simp only [List.length_map, List.length_range] at this
   rw [hxl, ← hby]
   refine Nat.le_trans (Nat.mul_le_mul_right _ ?_) this
   omega
  ·obtain ⟨i, hi', hix⟩ := List.mem_iff_getElem.1 hx
   refine (hxs i x (by rw [List.getElem?_eq_getElem hi', hix])).2 fun k hk => hw k ?_
   rw [hz]
   simp only [DataW.weights, ht, List.mem_cons, List.mem_append]
   refine .inr (.inl (weights_all (d := D i) ?_ k hk))
   exact List.mem_map.2 ⟨i, List.mem_range.2 (by omega), rfl⟩
theorem reads_field {α : Type} [Rep α] [Siz α] {fs : Array Field} {t : TypeId} {w : World} {b : Nat} {sp : Nat → Bool} {hd : Bool} {n : Nat} {cs : List Value} {xs : List (DataW H × List MemPlace)} (hs : P.underlying t = some (.struct fs)) (hlen : xs.length = fs.size) (hf : ∀ (i : Nat) (f : Field), fs[i]? = some f → DataW.trod enc P w b sp hd n f.type ((cs.drop f.offset).take (P.cellsOf f.type)) = xs[i]?)
  (i : Nat) {f : Field} (hi : fs[i]? = some f) (r : Reads P α f.type) : ∃ x : α, Rep.rep (hold w) x ((cs.drop f.offset).take (P.cellsOf f.type)) ∧ ((∀ m ∈ (DataW.agg (xs.map (·.1))).weights P t, m ≤ reachBytes) → Siz.siz x) := by
 have h1 := hf i f hi
 have hlt : i < xs.length := by rw [hlen]; exact (Array.getElem?_eq_some_iff.1 hi).1
 rw [List.getElem?_eq_getElem hlt] at h1
 obtain ⟨x, hx, hw⟩ := r H enc w b sp hd n _ _ h1
 refine ⟨x, hx, fun hm => hw fun m hm' => hm m ?_⟩
 simp only [DataW.weights, hs]
 refine DataW.weights_mem_each (j := i) (t := f.type) (d := xs[i].1) ?_ ?_ m hm'
 ·rw [List.getElem?_map, Array.getElem?_toList, hi]; rfl
 ·rw [List.getElem?_map, List.getElem?_eq_getElem hlt]; rfl
theorem open_aggR {α : Type} [Rep α] [Siz α] {r : Reach} {b0 b : Nat} {sp : Nat → Bool} {hd : Bool} {t : TypeId} {fs : Array Field} {w : World} {v : Value} {d : DataW H} {p : List MemPlace} (hs : P.underlying t = some (.struct fs)) (hr : Reads P α t) (hv : Value.okWide P w r b0 t v) (h : DataW.Trod enc P w b sp hd t v d p) :
  ∃ (x : α) (cs : List Value), v = .agg cs.toArray ∧ Rep.rep (hold w) x cs ∧ ((∀ m ∈ d.weights P t, m ≤ reachBytes) → Siz.siz x) := by
 obtain ⟨cs, rfl, _⟩ := okWide_struct hs hv
 obtain ⟨fuel, hf⟩ := h
 obtain ⟨x, hx, hz⟩ := hr H enc w b sp hd fuel _ _ hf
 exact ⟨x, cs.toList, by simp, hx, hz⟩
theorem open_sliceR {α : Type} [Rep α] [Bytes α] [Siz α] {r : Reach} {b0 b : Nat} {sp : Nat → Bool} {hd : Bool} {t e : TypeId} {w : World} {v : Value} {d : DataW H} {p : List MemPlace} (hs : P.underlying t = some (.slice e)) (hr : Reads P (List α) t) (hv : Value.okWide P w r b0 t v) (h : DataW.Trod enc P w b sp hd t v d p) :
  ∃ (xs : List α) (a : Option Addr) (c : Nat), v = .slice a xs.length c ∧ xs.length ≤ c ∧ RSl (hold w) a xs ∧ ((∀ m ∈ d.weights P t, m ≤ reachBytes) → Siz.siz xs) := by
 obtain ⟨a, len, cap, rfl⟩ := okWide_slice hs hv
 obtain ⟨fuel, hf⟩ := h
 obtain ⟨xs, ⟨a', c', e1, hl, hr'⟩, hz⟩ := hr H enc w b sp hd fuel _ _ hf
 have e2 : (Value.slice a len cap).cells.toList = [Value.slice a len cap] := rfl
 rw [e2] at e1
 simp only [List.cons.injEq, and_true, Value.slice.injEq] at e1
 obtain ⟨rfl, rfl, rfl⟩ := e1
 exact ⟨xs, a, cap, rfl, hl, hr', hz⟩
end
end Go.Proofs.YtojoehfldbimpaaGreatDoor.Pl

namespace Go.Proofs.YtojoehfldbimpaaGreatDoor.Pl
open Go Go.RowKit Go.WideShapes Go.ChangeShapes Go.ChangeAt Go.Joins Go.Deep
instance : Bytes Operator := ⟨80⟩
instance : Siz Operator := ⟨fun x => Siz.siz x.pre ∧ Siz.siz x.add ∧ Siz.siz x.del ∧ Siz.siz x.cost⟩
instance : Bytes Task := ⟨80⟩
instance : Siz Task := ⟨fun x => Siz.siz x.facts ∧ Siz.siz x.init ∧ Siz.siz x.goal ∧ Siz.siz x.ops⟩
instance : Bytes TNode := ⟨40⟩
instance : Siz TNode := ⟨fun x => Siz.siz x.kind ∧ Siz.siz x.op ∧ Siz.siz x.fact ∧ Siz.siz x.yes ∧ Siz.siz x.no⟩
theorem cells3 : Tryz.prog.cellsOf 3 = 1 := by kernel_rfl
theorem cells22 : Tryz.prog.cellsOf 22 = 1 := by kernel_rfl
theorem cells23 : Tryz.prog.cellsOf 23 = 1 := by kernel_rfl
theorem cells25 : Tryz.prog.cellsOf 25 = 4 := by kernel_rfl
theorem cells54 : Tryz.prog.cellsOf 54 = 4 := by kernel_rfl
theorem cells102 : Tryz.prog.cellsOf 102 = 5 := by kernel_rfl
theorem list4 {β : Type} {l : List β} (h : l.length = 4) : ∃ c0 c1 c2 c3, l = [c0, c1, c2, c3] := by
 match l, h with
 | [c0, c1, c2, c3], _ => exact ⟨c0, c1, c2, c3, rfl⟩
theorem list5 {β : Type} {l : List β} (h : l.length = 5) : ∃ c0 c1 c2 c3 c4, l = [c0, c1, c2, c3, c4] := by
 match l, h with
 | [c0, c1, c2, c3, c4], _ => exact ⟨c0, c1, c2, c3, c4, rfl⟩
theorem reads_3 : Reads Tryz.prog Int 3 := reads_int Tryz.underlying3
theorem reads_22 : Reads Tryz.prog (List Int) 22 := reads_slice Tryz.underlying22 cells3 (by kernel_rfl) reads_3
theorem reads_54 : Reads Tryz.prog Operator 54 := fun H enc w b sp hd n cs z h => by
 obtain ⟨xs, n', _, rfl, hl, hlen, hf⟩ := DataW.trod_struct Tryz.underlying54 h
 obtain ⟨x0, r0, s0⟩ := reads_field Tryz.underlying54 hlen hf 0 rfl reads_22
 obtain ⟨x1, r1, s1⟩ := reads_field Tryz.underlying54 hlen hf 1 rfl reads_22
 obtain ⟨x2, r2, s2⟩ := reads_field Tryz.underlying54 hlen hf 2 rfl reads_22
 obtain ⟨x3, r3, s3⟩ := reads_field Tryz.underlying54 hlen hf 3 rfl reads_3
 rw [cells54] at hl
 obtain ⟨c0, c1, c2, c3, rfl⟩ := list4 hl
 replace r0 : Rep.rep (hold w) x0 (([c0, c1, c2, c3] : List Value).drop 0 |>.take (Tryz.prog.cellsOf 22)) := r0
 rw [cells22] at r0
 replace r1 : Rep.rep (hold w) x1 (([c0, c1, c2, c3] : List Value).drop 1 |>.take (Tryz.prog.cellsOf 22)) := r1
 rw [cells22] at r1
 replace r2 : Rep.rep (hold w) x2 (([c0, c1, c2, c3] : List Value).drop 2 |>.take (Tryz.prog.cellsOf 22)) := r2
 rw [cells22] at r2
 replace r3 : Rep.rep (hold w) x3 (([c0, c1, c2, c3] : List Value).drop 3 |>.take (Tryz.prog.cellsOf 3)) := r3
 rw [cells3] at r3
 obtain ⟨a0_0, k0_0, e0, l0_0, q0_0⟩ := r0
 replace e0 : ([c0] : List Value) = _ := e0
 simp only [List.cons.injEq, and_true] at e0
 obtain rfl := e0
 obtain ⟨a1_0, k1_0, e1, l1_0, q1_0⟩ := r1
 replace e1 : ([c1] : List Value) = _ := e1
 simp only [List.cons.injEq, and_true] at e1
 obtain rfl := e1
 obtain ⟨a2_0, k2_0, e2, l2_0, q2_0⟩ := r2
 replace e2 : ([c2] : List Value) = _ := e2
 simp only [List.cons.injEq, and_true] at e2
 obtain rfl := e2
 have e3 : ([c3] : List Value) = [.int .i64 x3] := r3
 simp only [List.cons.injEq, and_true] at e3
 obtain rfl := e3
 exact ⟨⟨x0, x1, x2, x3⟩, ⟨a0_0, k0_0, a1_0, k1_0, a2_0, k2_0, rfl, ⟨l0_0, q0_0⟩, ⟨l1_0, q1_0⟩, ⟨l2_0, q2_0⟩⟩, fun hw => ⟨s0 hw, s1 hw, s2 hw, s3 hw⟩⟩
theorem reads_23 : Reads Tryz.prog (List Operator) 23 := reads_slice Tryz.underlying23 cells54 (by kernel_rfl) reads_54
theorem reads_25 : Reads Tryz.prog Task 25 := fun H enc w b sp hd n cs z h => by
 obtain ⟨xs, n', _, rfl, hl, hlen, hf⟩ := DataW.trod_struct Tryz.underlying25 h
 obtain ⟨x0, r0, s0⟩ := reads_field Tryz.underlying25 hlen hf 0 rfl reads_3
 obtain ⟨x1, r1, s1⟩ := reads_field Tryz.underlying25 hlen hf 1 rfl reads_22
 obtain ⟨x2, r2, s2⟩ := reads_field Tryz.underlying25 hlen hf 2 rfl reads_22
 obtain ⟨x3, r3, s3⟩ := reads_field Tryz.underlying25 hlen hf 3 rfl reads_23
 rw [cells25] at hl
 obtain ⟨c0, c1, c2, c3, rfl⟩ := list4 hl
 replace r0 : Rep.rep (hold w) x0 (([c0, c1, c2, c3] : List Value).drop 0 |>.take (Tryz.prog.cellsOf 3)) := r0
 rw [cells3] at r0
 replace r1 : Rep.rep (hold w) x1 (([c0, c1, c2, c3] : List Value).drop 1 |>.take (Tryz.prog.cellsOf 22)) := r1
 rw [cells22] at r1
 replace r2 : Rep.rep (hold w) x2 (([c0, c1, c2, c3] : List Value).drop 2 |>.take (Tryz.prog.cellsOf 22)) := r2
 rw [cells22] at r2
 replace r3 : Rep.rep (hold w) x3 (([c0, c1, c2, c3] : List Value).drop 3 |>.take (Tryz.prog.cellsOf 23)) := r3
 rw [cells23] at r3
 have e0 : ([c0] : List Value) = [.int .i64 x0] := r0
 simp only [List.cons.injEq, and_true] at e0
 obtain rfl := e0
 obtain ⟨a1_0, k1_0, e1, l1_0, q1_0⟩ := r1
 replace e1 : ([c1] : List Value) = _ := e1
 simp only [List.cons.injEq, and_true] at e1
 obtain rfl := e1
 obtain ⟨a2_0, k2_0, e2, l2_0, q2_0⟩ := r2
 replace e2 : ([c2] : List Value) = _ := e2
 simp only [List.cons.injEq, and_true] at e2
 obtain rfl := e2
 obtain ⟨a3_0, k3_0, e3, l3_0, q3_0⟩ := r3
 replace e3 : ([c3] : List Value) = _ := e3
 simp only [List.cons.injEq, and_true] at e3
 obtain rfl := e3
 exact ⟨⟨x0, x1, x2, x3⟩, ⟨a1_0, k1_0, a2_0, k2_0, a3_0, k3_0, rfl, ⟨l1_0, q1_0⟩, ⟨l2_0, q2_0⟩, ⟨l3_0, q3_0⟩⟩, fun hw => ⟨s0 hw, s1 hw, s2 hw, s3 hw⟩⟩
theorem reads_102 : Reads Tryz.prog TNode 102 := fun H enc w b sp hd n cs z h => by
 obtain ⟨xs, n', _, rfl, hl, hlen, hf⟩ := DataW.trod_struct Tryz.underlying102 h
 obtain ⟨x0, r0, s0⟩ := reads_field Tryz.underlying102 hlen hf 0 rfl reads_3
 obtain ⟨x1, r1, s1⟩ := reads_field Tryz.underlying102 hlen hf 1 rfl reads_3
 obtain ⟨x2, r2, s2⟩ := reads_field Tryz.underlying102 hlen hf 2 rfl reads_3
 obtain ⟨x3, r3, s3⟩ := reads_field Tryz.underlying102 hlen hf 3 rfl reads_3
 obtain ⟨x4, r4, s4⟩ := reads_field Tryz.underlying102 hlen hf 4 rfl reads_3
 rw [cells102] at hl
 obtain ⟨c0, c1, c2, c3, c4, rfl⟩ := list5 hl
 replace r0 : Rep.rep (hold w) x0 (([c0, c1, c2, c3, c4] : List Value).drop 0 |>.take (Tryz.prog.cellsOf 3)) := r0
 rw [cells3] at r0
 replace r1 : Rep.rep (hold w) x1 (([c0, c1, c2, c3, c4] : List Value).drop 1 |>.take (Tryz.prog.cellsOf 3)) := r1
 rw [cells3] at r1
 replace r2 : Rep.rep (hold w) x2 (([c0, c1, c2, c3, c4] : List Value).drop 2 |>.take (Tryz.prog.cellsOf 3)) := r2
 rw [cells3] at r2
 replace r3 : Rep.rep (hold w) x3 (([c0, c1, c2, c3, c4] : List Value).drop 3 |>.take (Tryz.prog.cellsOf 3)) := r3
 rw [cells3] at r3
 replace r4 : Rep.rep (hold w) x4 (([c0, c1, c2, c3, c4] : List Value).drop 4 |>.take (Tryz.prog.cellsOf 3)) := r4
 rw [cells3] at r4
 have e0 : ([c0] : List Value) = [.int .i64 x0] := r0
 simp only [List.cons.injEq, and_true] at e0
 obtain rfl := e0
 have e1 : ([c1] : List Value) = [.int .i64 x1] := r1
 simp only [List.cons.injEq, and_true] at e1
 obtain rfl := e1
 have e2 : ([c2] : List Value) = [.int .i64 x2] := r2
 simp only [List.cons.injEq, and_true] at e2
 obtain rfl := e2
 have e3 : ([c3] : List Value) = [.int .i64 x3] := r3
 simp only [List.cons.injEq, and_true] at e3
 obtain rfl := e3
 have e4 : ([c4] : List Value) = [.int .i64 x4] := r4
 simp only [List.cons.injEq, and_true] at e4
 obtain rfl := e4
 exact ⟨⟨x0, x1, x2, x3, x4⟩, rfl, fun hw => ⟨s0 hw, s1 hw, s2 hw, s3 hw, s4 hw⟩⟩
theorem reads_60 : Reads Tryz.prog (List TNode) 60 := reads_slice Tryz.underlying60 cells102 (by kernel_rfl) reads_102
end Go.Proofs.YtojoehfldbimpaaGreatDoor.Pl

