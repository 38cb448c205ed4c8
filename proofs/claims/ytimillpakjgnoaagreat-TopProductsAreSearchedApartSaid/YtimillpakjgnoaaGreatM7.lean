import Derived.Test.YtimillpakjgnoaaGreatM1
import Derived.Test.YtimillpakjgnoaaGreatM6
import Derived.Test.YtimillpakjgnoaaGreatRows
import Derived.ProofKit
import Derived.OpenShut
import Derived.JoinedCond
import Derived.Carry
import Derived.Below
import Derived.ChangeSame
import Derived.Deep.Slices
import Derived.Deep.Fields
import Derived.Lib.SmallJoins
import Derived.SizedLaws
import Derived.Test.YtimillpakjgnoaaGreatM2
namespace Go.Proofs.YtimillpakjgnoaaGreat.Pl
open Go Go.RowKit
set_option maxHeartbeats 8000000 in
theorem w_stubborn {h : FH} {w : World} (hs : Sub h w) (t : Task) (at_ : Option Addr) (ct : Nat) (_q1 : RSl h at_ t.init) (_q2 : t.init.length ≤ ct) (at_2 : Option Addr) (ct2 : Nat) (_q3 : RSl h at_2 t.goal) (_q4 : t.goal.length ≤ ct2) (at_3 : Option Addr) (ct3 : Nat) (_q5 : RSl h at_3 t.ops) (_q6 : t.ops.length ≤ ct3) (s_ : List Int) (as_ : Option Addr) (cs_ : Nat) (_q7 : RSl h as_ s_) (_q8 : s_.length ≤ cs_) (K : (List Int) → Prop) (hF : F_stubborn t s_ K) : Calls Tryz.prog 57 #[.agg #[iV t.facts, .slice at_ t.init.length ct, .slice at_2 t.goal.length ct2, .slice at_3 t.ops.length ct3], .slice as_ s_.length cs_] w fun e w' => ∃ (r : List Int) (z : Option Addr × Nat) (h1 : FH), K r ∧ e = .returned (.slice z.1 r.length z.2) ∧ FH.le h h1 ∧ (RSl h1 z.1 r ∧ r.length ≤ z.2) ∧ SH (Kp.all w h) h1 w' [] := by
 refine enter (args := [.agg (tF t at_ ct at_2 ct2 at_3 ct3).toArray, vSl as_ s_ cs_]) Tryz.func57 rfl Tryz.ntmps57 rfl hs ?_
 refine .seq (.region ?_)
 refine bx (vs := (tF t at_ ct at_2 ct2 at_3 ct3)) rfl rfl rfl (fun pt => ?_)
 refine .V ag0 ?_
 refine .nil (.seqN (.seq (.region (.V mv0 ?_))))
 refine .V (fa rfl tF25_2) ?_
 refine .V (lB 2 0 tO22) ?_
 obtain ⟨q67, hF⟩ := hF
 obtain ⟨r2, q40⟩ : ∃ y_ : Int, y_ = sp_missingF s_ t.goal := ⟨_, rfl⟩
 replace hF := hF r2 q40
 refine .C (cl (v := iV r2) Tryz.call85 rfl rfl (fun w S => (by rw [q40]; exact c_missingF S.sub s_ as_ cs_ _q7 _q8 t.goal at_2 ct2 _q3 _q4 q67))) ?_
 refine .V ag0 ?_
 refine .nil (.seqN (.seq (.seq (.region (.V mv0 ?_)))))
 refine .V bi0 ?_
 refine .nil (.seqN ?_)
 refine .cond rfl (fun q12 => ?_) (fun q12 => ?_)
 ·replace hF := hF.1 q12
  refine .seq (.region (.V ag0 ?_))
  refine .nil (.seqN (.ret (.seqR ?_)))
  refine .res1 rfl (rvT rfl) (fun w' S => ⟨([] : List Int), (none, 0), h, hF, rfl, (FH.le_refl _), ⟨RSl.nil_, (Nat.le_refl 0)⟩, S.none⟩)
 replace hF := hF.2 q12
 refine .skip (.seqN (.seq (.region (.V (fa rfl tF25_3) ?_))))
 refine .V (lB 3 0 tO23) ?_
 refine .V (ln rfl tS23.is) ?_
 obtain ⟨q13, hF⟩ := hF
 refine mk (m := (((t.ops.length : Nat) : Int)).toNat) (cs' := flL (List.replicate (((t.ops.length : Nat) : Int)).toNat (false : Bool))) tS171 rfl rfl (Int.toNat_of_nonneg q13.1).symm q13.2.1 q13.2.2 (flL_rep1 rfl _) rfl (fun a c => ?_)
 have q68 : (List.replicate (((t.ops.length : Nat) : Int)).toNat (false : Bool)).length = (((t.ops.length : Nat) : Int)).toNat := List.length_replicate
 refine al tZ171 rfl (fun pin => ?_)
 refine st (p := pin) (off := 0) (k := 0) (vs := [.slice a ((((t.ops.length : Nat) : Int)).toNat) c]) rfl rfl rfl (fun w => (tO171 w).2) rfl rfl rfl rfl ?_
 refine .nil (.seqN (.seq (.region ?_)))
 refine al tZ22 rfl (fun pline => ?_)
 refine .nil (.seqN (.seq (.region (.V (mkf (vf := []) (vc := [vP pt, vP pin, vP pline]) rfl rfl) ?_))))
 refine .V ag0 ?_
 refine .nil (.seqN (.seq (.region (.V (mkf (vf := []) (vc := [vP pt]) rfl rfl) ?_))))
 refine .V ag0 ?_
 refine .nil (.seqN (.seq (.region (.V mv0 ?_))))
 refine .V mv0 ?_
 refine .V mv0 ?_
 refine .inl Tryz.func87 rfl Tryz.ntmps87 Tryz.call87 rfl rfl rfl rfl (fun a2 q69 => ?_)
 refine .seq (.region ?_)
 refine bx (vs := [iV r2]) rfl rfl rfl (fun pp => ?_)
 refine .V ag0 ?_
 refine .nil (.seqN (.seq (.region (.V (mkf (vf := []) (vc := [vP pt, vP pp]) rfl rfl) ?_))))
 refine .V ag0 ?_
 refine .nil (.seqN (.ret ?_))
 refine .res1 rfl (rvT rfl) (inl_back (v := .func (.func 88) #[] #[.pointer (some pt), .pointer (some pp)]) q69 rfl ?_)
 refine .inl Tryz.func86 rfl Tryz.ntmps86 Tryz.call86 rfl rfl rfl rfl (fun a3 q70 => ?_)
 refine .seq (.region (.V (fa rfl tF25_3) ?_))
 refine .V (lB 3 4 tO23) ?_
 refine .V (ln rfl tS23.is) ?_
 refine .V mv0 ?_
 refine .nil (.seqN (.block ?_))
 refine .nilSl 3 1 ?_
 refine .KA [oL 3 1 none ([] : List Int) 0, Box pp [iV r2], Box pline [.slice none 0 0], Box pin [.slice a ((((t.ops.length : Nat) : Int)).toNat) c], OwnSl 4 1 a ((((t.ops.length : Nat) : Int)).toNat) c (flL (List.replicate (((t.ops.length : Nat) : Int)).toNat (false : Bool))), Box pt (tF t at_ ct at_2 ct2 at_3 ct3)] ?_
 refine .sel0 [5, 1, 3, 2, 4, 0] (by decide) rfl ?_
 obtain ⟨I1, μ1, q14, q71⟩ := hF
 refine .loop' (σ := Int × List Bool × List Int × Option Addr × Nat) (fun z => I1 z.1 z.2.1 z.2.2.1 ∧ z.2.1.length = (((t.ops.length : Nat) : Int)).toNat) (fun z => μ1 z.1 z.2.1 z.2.2.1) (fun z => [(0, .func (.func 88) #[] #[vP pt, vP pp]), (2, vP pin), (3, vP pline), (8, iV ((t.ops.length : Nat) : Int)), (9, iV z.1)]) (fun z => [Box pt (tF t at_ ct at_2 ct2 at_3 ct3), Box pp [iV r2], Box pin [.slice a ((((t.ops.length : Nat) : Int)).toNat) c], Box pline [vSl z.2.2.2.1 z.2.2.1 z.2.2.2.2], OwnSl 4 1 a ((((t.ops.length : Nat) : Int)).toNat) c (flL z.2.1), oL 3 1 z.2.2.2.1 z.2.2.1 z.2.2.2.2]) (fun _ => h) (0, (List.replicate (((t.ops.length : Nat) : Int)).toNat (false : Bool)), ([] : List Int), none, 0) ⟨q14, q68⟩ sb rfl (FH.le_refl _) ?_
 rintro ⟨t9, l, l2, al2, cl2⟩ ⟨q14, q4⟩
 have hF := q71 t9 l l2 q14
 show J _ _ _ _ _ [(0, .func (.func 88) #[] #[vP pt, vP pp]), (2, vP pin), (3, vP pline), (8, iV ((t.ops.length : Nat) : Int)), (9, iV t9)] [Box pt (tF t at_ ct at_2 ct2 at_3 ct3), Box pp [iV r2], Box pin [.slice a ((((t.ops.length : Nat) : Int)).toNat) c], Box pline [vSl al2 l2 cl2], OwnSl 4 1 a ((((t.ops.length : Nat) : Int)).toNat) c (flL l), oL 3 1 al2 l2 cl2] h
 refine .seq (.region (.V bi0 ?_))
 refine .nil (.seqN (.seq ?_))
 refine .cond rfl (fun q15 => ?_) (fun q15 => ?_)
 ·replace hF := hF.1 q15
  refine .skip (.seqN ?_)
  refine .share (σ := List Bool × List Int × Option Addr × Nat) (fun z => F_stubborn_J1 l l2 t9 I1 μ1 z.1 z.2.1 ∧ z.1.length = (((t.ops.length : Nat) : Int)).toNat) (fun _ => [(0, .func (.func 88) #[] #[vP pt, vP pp]), (2, vP pin), (3, vP pline), (8, iV ((t.ops.length : Nat) : Int)), (9, iV t9)]) (fun z => [Box pt (tF t at_ ct at_2 ct2 at_3 ct3), Box pp [iV r2], Box pin [.slice a ((((t.ops.length : Nat) : Int)).toNat) c], Box pline [vSl z.2.2.1 z.2.1 z.2.2.2], OwnSl 4 1 a ((((t.ops.length : Nat) : Int)).toNat) c (flL z.1), oL 3 1 z.2.2.1 z.2.1 z.2.2.2]) (fun _ => h) ?_ (fun q41 => ?_)
  ·rintro ⟨l5, l6, al4, cl4⟩ ⟨hF, q72⟩
   show J _ _ _ _ _ [(0, .func (.func 88) #[] #[vP pt, vP pp]), (2, vP pin), (3, vP pline), (8, iV ((t.ops.length : Nat) : Int)), (9, iV t9)] [Box pt (tF t at_ ct at_2 ct2 at_3 ct3), Box pp [iV r2], Box pin [.slice a ((((t.ops.length : Nat) : Int)).toNat) c], Box pline [vSl al4 l6 cl4], OwnSl 4 1 a ((((t.ops.length : Nat) : Int)).toNat) c (flL l5), oL 3 1 al4 l6 cl4] h
   refine .region (.V bi0 ?_)
   refine .V mv0 ?_
   refine .nil ?_
   exact .RO (wr (t9 + 1), l5, l6, al4, cl4) ⟨hF.1, q72⟩ hF.2
  refine .block (.seq (.region (.V mv0 ?_)))
  refine .V ag0 ?_
  refine .nil (.seqN ?_)
  refine .share (σ := Bool) (fun z => F_stubborn_J2 z l l2 t9 I1 μ1) (fun z => [(0, .func (.func 88) #[] #[vP pt, vP pp]), (2, vP pin), (3, vP pline), (5, iV t9), (8, iV ((t.ops.length : Nat) : Int)), (9, iV t9), (21, .bool z)]) (fun _ => [Box pt (tF t at_ ct at_2 ct2 at_3 ct3), Box pp [iV r2], Box pin [.slice a ((((t.ops.length : Nat) : Int)).toNat) c], Box pline [vSl al2 l2 cl2], OwnSl 4 1 a ((((t.ops.length : Nat) : Int)).toNat) c (flL l), oL 3 1 al2 l2 cl2]) (fun _ => h) ?_ (fun q42 => ?_)
  ·rintro t21 hF
   show J _ _ _ _ _ [(0, .func (.func 88) #[] #[vP pt, vP pp]), (2, vP pin), (3, vP pline), (5, iV t9), (8, iV ((t.ops.length : Nat) : Int)), (9, iV t9), (21, .bool t21)] [Box pt (tF t at_ ct at_2 ct2 at_3 ct3), Box pp [iV r2], Box pin [.slice a ((((t.ops.length : Nat) : Int)).toNat) c], Box pline [vSl al2 l2 cl2], OwnSl 4 1 a ((((t.ops.length : Nat) : Int)).toNat) c (flL l), oL 3 1 al2 l2 cl2] h
   refine .cond rfl (fun q16 => ?_) (fun q16 => ?_)
   ·replace hF := hF.1 q16
    refine .seq (.region (.V (lB 0 2 tO171) ?_))
    refine .V mv0 ?_
    obtain ⟨q8, hF⟩ := hF
    refine .V (ixS rfl rfl tS171 (k := 4) rfl (inb_n q8 q4)) ?_
    obtain ⟨d, q17⟩ : ∃ y_ : List Bool, y_ = (l.set (t9).toNat true) := ⟨_, rfl⟩
    replace hF := hF d q17
    refine stS (k := 4) (cs' := flL d) rfl (fun _ => rfl) rfl rfl (fun w => (tO4 w).2) rfl rfl rfl (by rw [← q4]; exact inb_pos q8) (fl_room q8) (by rw [q17]; exact flL_set q8 true) ?_
    have q73 : d.length = (((t.ops.length : Nat) : Int)).toNat := by rw [q17]; exact List.length_set.trans q4
    refine .nil (.seqN (.region (.V (lB 0 3 tO22) ?_)))
    refine .V mv0 ?_
    refine bs2 (cs := #[iV t9]) (pv := [(0, iV t9)]) tS22 rfl rfl (by decide) (by decide) rfl rfl rfl (fun a4 _ => ?_)
    obtain ⟨q43, hF⟩ := hF
    have q18 : l2.length + ([t9] : List Int).length = ((l2 ++ ([t9] : List Int))).length := len_app rfl rfl
    refine app (k := 6) (news := flL ([t9] : List Int)) (cs' := flL (l2 ++ ([t9] : List Int))) (nm := ((l2 ++ ([t9] : List Int))).length) tS22 rfl (by decide) rfl rfl rfl ((flL_len _).trans rfl) (srcS (k := 0) rfl) (flL_one _) (room_of q18 q43).1 (room_of q18 q43).2 q18 (flL_append _ _).symm rfl (fun a5 c2 => ?_)
    refine st (p := pline) (off := 0) (k := 4) (vs := [vSl a5 (l2 ++ ([t9] : List Int)) c2]) rfl rfl rfl (fun w => (tO22 w).2) rfl rfl rfl rfl ?_
    refine .nil (.blkN ?_)
    refine .sel0 [1, 2, 3, 4, 5, 6] (by decide) rfl ?_
    exact .US q41 (d, (l2 ++ ([t9] : List Int)), a5, c2) ⟨hF, q73⟩
   replace hF := hF.2 q16
   refine .skip (.blkN ?_)
   exact .US q41 (l, l2, al2, cl2) ⟨hF, q4⟩
  refine .region (.V (lB 0 2 tO171) ?_)
  refine .V mv0 ?_
  obtain ⟨q44, hF⟩ := hF
  refine .V (ixS rfl rfl tS171 (k := 4) rfl (inb_n q44 q4)) ?_
  refine .V (ld1 (v := .bool (gt l t9)) rfl tO4 (cellS (k := 4) rfl (flL_get q44 (j := 0) rfl))) ?_
  refine .V (nt rfl) ?_
  refine .V mv0 ?_
  rcases Bool.eq_false_or_eq_true (!(gt l t9)) with q1 | q1
  ·replace hF := hF.1 q1
   refine .GV mv0 q1 ?_
   refine .GV mv0 q1 ?_
   refine .gR rfl rfl rfl q1 ?_
   refine .inl Tryz.func88 rfl Tryz.ntmps88 Tryz.call88 rfl rfl rfl rfl (fun a6 q74 => ?_)
   refine .seq (.region (.V ag0 ?_))
   refine .nil (.seqN (.seq ?_))
   obtain ⟨q19, hF⟩ := hF
   obtain ⟨_, ⟨a7, c3, a8, c4, a9, c5, rfl, ⟨q113, q114⟩, ⟨q75, q76⟩, q115, q116⟩, q77⟩ := _q5.elem q19
   obtain ⟨q78, hF⟩ := hF
   obtain ⟨r3, q45⟩ : ∃ y_ : Bool, y_ = sp_contains ((gt t.ops t9).add) r2 := ⟨_, rfl⟩
   replace hF := hF r3 q45
   refine .OA (s0 := [(0, iV t9), (1, vP pt), (2, vP pp)]) [0, 1, 2, 3, 4, 5, 6, 7, 8] [(0, vP (pt.add 3)), (1, vSl at_3 t.ops ct3), (2, iV t9), (3, vP (ead at_3 (t9.toNat * 4))), (4, vP ((ead at_3 (t9.toNat * 4)).add 1)), (5, .slice a8 ((gt t.ops t9).add.length) c4), (6, iV r2), (7, .bool r3), (8, .bool r3)] [0, 1, 2] [] ?_
   refine .LA [(5, vP (pt.add 3)), (6, vSl at_3 t.ops ct3), (7, iV t9), (8, vP (ead at_3 (t9.toNat * 4))), (9, vP ((ead at_3 (t9.toNat * 4)).add 1)), (10, .slice a8 ((gt t.ops t9).add.length) c4), (11, iV r2), (12, .bool r3), (4, .bool r3)] (.w [] rfl (fa rfl tF25_3) (.w [(5, vP (pt.add 3))] rfl (lB 3 0 tO23) (.w [] rfl mv0 (.w [(6, vSl at_3 t.ops ct3), (7, iV t9)] rfl (ix rfl rfl tS23 (_q5.ne (by decide) (inb_pos q19)) q19) (.w [(8, vP (ead at_3 (t9.toNat * 4)))] rfl (fa rfl tF52_1) (.w [(9, vP ((ead at_3 (t9.toNat * 4)).add 1))] rfl (ld1 (v := .slice a8 ((gt t.ops t9).add.length) c4) rfl tO22 (cellH (q77 (by decide) 1 _ rfl))) (.w [] rfl (lB 0 1 tO3) (.c [(10, .slice a8 ((gt t.ops t9).add.length) c4), (11, iV r2)] rfl rfl rfl rfl rfl rfl (fun _ => cl (v := .bool r3) Tryz.call89 rfl rfl (fun w S => (by rw [q45]; exact c_contains S.sub ((gt t.ops t9).add) a8 c4 q76 q75 r2 q78))) (.w [(12, .bool r3), (12, .bool r3), (5, vP (pt.add 3)), (6, vSl at_3 t.ops ct3), (7, iV t9), (8, vP (ead at_3 (t9.toNat * 4))), (9, vP ((ead at_3 (t9.toNat * 4)).add 1)), (10, .slice a8 ((gt t.ops t9).add.length) c4), (11, iV r2), (12, .bool r3)] rfl ag0 (.nil)))))))))) ?_
   refine .seqN (.ret ?_)
   refine .res1 rfl (rvT rfl) (inl_back (v := .bool r3) q74 rfl ?_)
   refine .V (pkT rfl q1 rfl) ?_
   refine .nil ?_
   exact .US q42 r3 hF
  replace hF := hF.2 q1
  refine .GS q1 ?_
  refine .GS q1 ?_
  refine .GS q1 ?_
  refine .V (pkF rfl q1 rfl) ?_
  refine .nil ?_
  exact .US q42 false hF
 replace hF := hF.2 q15
 refine .exit (.seqX (.seqX (.blkX ?_)))
 refine .res0 (.inr rfl) rfl (inl_back (v := .tuple #[]) q70 rfl ?_)
 refine .nil (.seqN (.seq (.seq (.region (.V ag0 ?_)))))
 refine .nil (.seqN (.block ?_))
 refine .sel0 [0, 2, 3, 4, 5] (by decide) rfl ?_
 obtain ⟨I2, μ2, q20, q79⟩ := hF
 refine .loop' (σ := Int × List Bool × List Int × Option Addr × Nat) (fun z => I2 z.1 z.2.1 z.2.2.1 ∧ z.2.1.length = (((t.ops.length : Nat) : Int)).toNat) (fun z => μ2 z.1 z.2.1 z.2.2.1) (fun z => [(1, vSl as_ s_ cs_), (2, vP pt), (6, vP pin), (7, vP pline), (8, .func (.func 86) #[] #[vP pt, vP pin, vP pline]), (9, .func (.func 87) #[] #[vP pt]), (10, iV z.1)]) (fun z => [Box pt (tF t at_ ct at_2 ct2 at_3 ct3), Box pin [.slice a ((((t.ops.length : Nat) : Int)).toNat) c], Box pline [vSl z.2.2.2.1 z.2.2.1 z.2.2.2.2], OwnSl 4 1 a ((((t.ops.length : Nat) : Int)).toNat) c (flL z.2.1), oL 3 1 z.2.2.2.1 z.2.2.1 z.2.2.2.2]) (fun _ => h) (0, l, l2, al2, cl2) ⟨q20, q4⟩ sb rfl (FH.le_refl _) ?_
 rintro ⟨k, l7, l8, al5, cl5⟩ ⟨q20, q21⟩
 have hF := q79 k l7 l8 q20
 show J _ _ _ _ _ [(1, vSl as_ s_ cs_), (2, vP pt), (6, vP pin), (7, vP pline), (8, .func (.func 86) #[] #[vP pt, vP pin, vP pline]), (9, .func (.func 87) #[] #[vP pt]), (10, iV k)] [Box pt (tF t at_ ct at_2 ct2 at_3 ct3), Box pin [.slice a ((((t.ops.length : Nat) : Int)).toNat) c], Box pline [vSl al5 l8 cl5], OwnSl 4 1 a ((((t.ops.length : Nat) : Int)).toNat) c (flL l7), oL 3 1 al5 l8 cl5] h
 refine .seq (.seq (.region (.V mv0 ?_)))
 refine .V (lB 0 2 tO22) ?_
 refine .V (ln rfl tS22.is) ?_
 refine .V bi0 ?_
 refine .nil (.seqN ?_)
 refine .cond rfl (fun q22 => ?_) (fun q22 => ?_)
 ·replace hF := hF.1 q22
  refine .skip (.seqN ?_)
  refine .share (σ := List Bool × List Int × Option Addr × Nat) (fun z => F_stubborn_J3 l7 l8 z.1 z.2.1 k I2 μ2 ∧ z.1.length = (((t.ops.length : Nat) : Int)).toNat) (fun _ => [(1, vSl as_ s_ cs_), (2, vP pt), (6, vP pin), (7, vP pline), (8, .func (.func 86) #[] #[vP pt, vP pin, vP pline]), (9, .func (.func 87) #[] #[vP pt]), (10, iV k)]) (fun z => [Box pt (tF t at_ ct at_2 ct2 at_3 ct3), Box pin [.slice a ((((t.ops.length : Nat) : Int)).toNat) c], Box pline [vSl z.2.2.1 z.2.1 z.2.2.2], OwnSl 4 1 a ((((t.ops.length : Nat) : Int)).toNat) c (flL z.1), oL 3 1 z.2.2.1 z.2.1 z.2.2.2]) (fun _ => h) ?_ (fun q46 => ?_)
  ·rintro ⟨l11, l12, al7, cl7⟩ ⟨hF, q80⟩
   show J _ _ _ _ _ [(1, vSl as_ s_ cs_), (2, vP pt), (6, vP pin), (7, vP pline), (8, .func (.func 86) #[] #[vP pt, vP pin, vP pline]), (9, .func (.func 87) #[] #[vP pt]), (10, iV k)] [Box pt (tF t at_ ct at_2 ct2 at_3 ct3), Box pin [.slice a ((((t.ops.length : Nat) : Int)).toNat) c], Box pline [vSl al7 l12 cl7], OwnSl 4 1 a ((((t.ops.length : Nat) : Int)).toNat) c (flL l11), oL 3 1 al7 l12 cl7] h
   refine .region (.V mv0 ?_)
   refine .V bi0 ?_
   refine .V ag0 ?_
   refine .nil ?_
   exact .RO (wr (k + 1), l11, l12, al7, cl7) ⟨hF.1, q80⟩ hF.2
  refine .block (.seq ?_)
  obtain ⟨q9, q7, hF⟩ := hF
  obtain ⟨_, ⟨a10, c6, a11, c7, a12, c8, rfl, ⟨q47, q48⟩, ⟨q81, q82⟩, q83, q84⟩, q49⟩ := _q5.elem q7
  refine .OA (s0 := [(1, vSl as_ s_ cs_), (2, vP pt), (6, vP pin), (7, vP pline), (8, .func (.func 86) #[] #[vP pt, vP pin, vP pline]), (9, .func (.func 87) #[] #[vP pt]), (10, iV k)]) [0, 1, 2, 3, 4, 5, 6, 7] [(0, vP (pt.add 3)), (1, vSl at_3 t.ops ct3), (2, vSl al5 l8 cl5), (3, iV k), (4, vP (ead al5 (k.toNat * 1))), (5, iV (gt l8 k)), (6, vP (ead at_3 ((gt l8 k).toNat * 4))), (7, .agg #[.slice a10 ((gt t.ops (gt l8 k)).pre.length) c6, .slice a11 ((gt t.ops (gt l8 k)).add.length) c7, .slice a12 ((gt t.ops (gt l8 k)).del.length) c8, iV ((gt t.ops (gt l8 k)).cost)])] [1, 2, 6, 7, 8, 9, 10] [] ?_
  refine .ST [8] 8 (.w [] rfl (fa rfl tF25_3) (.w [(39, vP (pt.add 3))] rfl (lB 3 0 tO23) (.w [] rfl (lB 0 2 tO22) (.w [] rfl mv0 (.w [(41, vSl al5 l8 cl5), (42, iV k)] rfl (ixS rfl rfl tS22 (k := 4) rfl q9) (.w [(43, vP (ead al5 (k.toNat * 1)))] rfl (ld1 (v := iV (gt l8 k)) rfl tO3 (cellS (k := 4) rfl (flL_get q9 (j := 0) rfl))) (.w [(40, vSl at_3 t.ops ct3), (44, iV (gt l8 k))] rfl (ix rfl rfl tS23 (_q5.ne (by decide) (inb_pos q7)) q7) (.w [(45, vP (ead at_3 ((gt l8 k).toNat * 4)))] rfl (ldA (cs := [.slice a10 ((gt t.ops (gt l8 k)).pre.length) c6, .slice a11 ((gt t.ops (gt l8 k)).add.length) c7, .slice a12 ((gt t.ops (gt l8 k)).del.length) c8, iV ((gt t.ops (gt l8 k)).cost)]) rfl tA52 rfl (cellsH (q49 (by decide)))) (.nil))))))))) (.cons [] rfl rfl (fun sL hL => ?_) (.nil))
  refine al tZ52 rfl (fun po => ?_)
  refine .nil ?_
  refine .ja (M := []) (C' := [0, 1, 2, 3, 4, 5, 6, 7]) (pre := [(8, vP po)]) [(1, vSl as_ s_ cs_), (2, vP pt), (6, vP pin), (7, vP pline), (8, .func (.func 86) #[] #[vP pt, vP pin, vP pline]), (9, .func (.func 87) #[] #[vP pt]), (10, iV k)] [1, 2, 6, 7, 8, 9, 10] hL rfl rfl rfl rfl rfl sb rfl rfl (by kernel_rfl) ?_
  refine .ST [9] 9 (.w [] rfl (fa rfl tF25_3) (.w [(39, vP (pt.add 3))] rfl (lB 3 1 tO23) (.w [] rfl (lB 0 3 tO22) (.w [] rfl mv0 (.w [(41, vSl al5 l8 cl5), (42, iV k)] rfl (ixS rfl rfl tS22 (k := 5) rfl q9) (.w [(43, vP (ead al5 (k.toNat * 1)))] rfl (ld1 (v := iV (gt l8 k)) rfl tO3 (cellS (k := 5) rfl (flL_get q9 (j := 0) rfl))) (.w [(40, vSl at_3 t.ops ct3), (44, iV (gt l8 k))] rfl (ix rfl rfl tS23 (_q5.ne (by decide) (inb_pos q7)) q7) (.w [(45, vP (ead at_3 ((gt l8 k).toNat * 4)))] rfl (ldA (cs := [.slice a10 ((gt t.ops (gt l8 k)).pre.length) c6, .slice a11 ((gt t.ops (gt l8 k)).add.length) c7, .slice a12 ((gt t.ops (gt l8 k)).del.length) c8, iV ((gt t.ops (gt l8 k)).cost)]) rfl tA52 rfl (cellsH (q49 (by decide)))) (.nil))))))))) (.cons [(11, vP po), (46, .agg #[.slice a10 ((gt t.ops (gt l8 k)).pre.length) c6, .slice a11 ((gt t.ops (gt l8 k)).add.length) c7, .slice a12 ((gt t.ops (gt l8 k)).del.length) c8, iV ((gt t.ops (gt l8 k)).cost)]), (39, vP (pt.add 3)), (40, vSl at_3 t.ops ct3), (41, vSl al5 l8 cl5), (42, iV k), (43, vP (ead al5 (k.toNat * 1))), (44, iV (gt l8 k)), (45, vP (ead at_3 ((gt l8 k).toNat * 4))), (46, .agg #[.slice a10 ((gt t.ops (gt l8 k)).pre.length) c6, .slice a11 ((gt t.ops (gt l8 k)).add.length) c7, .slice a12 ((gt t.ops (gt l8 k)).del.length) c8, iV ((gt t.ops (gt l8 k)).cost)]), (11, vP po)] rfl rfl (fun sL hL => ?_) (.nil))
  refine st (p := po) (off := 0) (k := 0) (vs := [.slice a10 ((gt t.ops (gt l8 k)).pre.length) c6, .slice a11 ((gt t.ops (gt l8 k)).add.length) c7, .slice a12 ((gt t.ops (gt l8 k)).del.length) c8, iV ((gt t.ops (gt l8 k)).cost)]) rfl rfl rfl (fun w => (tA52 w).2) rfl rfl rfl rfl ?_
  refine .nil ?_
  refine .jaN (M := [7, 0, 1, 2, 3, 4, 5, 6]) (C' := []) (pre := []) [1, 2, 6, 7, 8, 9, 10] hL rfl rfl rfl rfl rfl (by kernel_rfl) ?_
  refine .LA [(39, vP (pt.add 3)), (40, vSl at_3 t.ops ct3), (41, vSl al5 l8 cl5), (42, iV k), (43, vP (ead al5 (k.toNat * 1))), (44, iV (gt l8 k)), (45, vP (ead at_3 ((gt l8 k).toNat * 4))), (46, .agg #[.slice a10 ((gt t.ops (gt l8 k)).pre.length) c6, .slice a11 ((gt t.ops (gt l8 k)).add.length) c7, .slice a12 ((gt t.ops (gt l8 k)).del.length) c8, iV ((gt t.ops (gt l8 k)).cost)]), (11, vP po)] (.nil) ?_
  refine .seqN (.seq (.region (.V mv0 ?_)))
  refine .V (fa rfl tF52_0) ?_
  refine .V (lB 0 0 tO22) ?_
  obtain ⟨q85, hF⟩ := hF
  obtain ⟨r4, q50⟩ : ∃ y_ : Int, y_ = sp_missingF s_ ((gt t.ops (gt l8 k)).pre) := ⟨_, rfl⟩
  replace hF := hF r4 q50
  refine .C (cl (v := iV r4) Tryz.call85 rfl rfl (fun w S => (by rw [q50]; exact c_missingF S.sub s_ as_ cs_ _q7 _q8 ((gt t.ops (gt l8 k)).pre) a10 c6 q48 q47 q85))) ?_
  refine .V ag0 ?_
  refine .nil (.seqN (.seq (.region (.V mv0 ?_))))
  refine .V bi0 ?_
  refine .nil (.seqN ?_)
  refine .cond rfl (fun q23 => ?_) (fun q23 => ?_)
  ·replace hF := hF.1 q23
   refine .region (.V mv0 ?_)
   refine .V mv0 ?_
   refine .V mv0 ?_
   refine .inl Tryz.func87 rfl Tryz.ntmps87 Tryz.call87 rfl rfl rfl rfl (fun a13 q86 => ?_)
   refine .seq (.region ?_)
   refine bx (vs := [iV r4]) rfl rfl rfl (fun pp2 => ?_)
   refine .V ag0 ?_
   refine .nil (.seqN (.seq (.region (.V (mkf (vf := []) (vc := [vP pt, vP pp2]) rfl rfl) ?_))))
   refine .V ag0 ?_
   refine .nil (.seqN (.ret ?_))
   refine .res1 rfl (rvT rfl) (inl_back (v := .func (.func 88) #[] #[.pointer (some pt), .pointer (some pp2)]) q86 rfl ?_)
   refine .inl Tryz.func86 rfl Tryz.ntmps86 Tryz.call86 rfl rfl rfl rfl (fun a14 q87 => ?_)
   refine .seq (.region (.V (fa rfl tF25_3) ?_))
   refine .V (lB 3 2 tO23) ?_
   refine .V (ln rfl tS23.is) ?_
   refine .V mv0 ?_
   refine .nil (.seqN (.block ?_))
   refine .sel0 [2, 0, 3, 4, 5, 6] (by decide) rfl ?_
   obtain ⟨I3, μ3, q24, q88⟩ := hF
   refine .loop' (σ := Int × List Bool × List Int × Option Addr × Nat) (fun z => I3 z.1 z.2.1 z.2.2.1 ∧ z.2.1.length = (((t.ops.length : Nat) : Int)).toNat) (fun z => μ3 z.1 z.2.1 z.2.2.1) (fun z => [(0, .func (.func 88) #[] #[vP pt, vP pp2]), (2, vP pin), (3, vP pline), (8, iV ((t.ops.length : Nat) : Int)), (9, iV z.1)]) (fun z => [Box pt (tF t at_ ct at_2 ct2 at_3 ct3), Box pp2 [iV r4], Box pin [.slice a ((((t.ops.length : Nat) : Int)).toNat) c], Box pline [vSl z.2.2.2.1 z.2.2.1 z.2.2.2.2], OwnSl 4 1 a ((((t.ops.length : Nat) : Int)).toNat) c (flL z.2.1), oL 3 1 z.2.2.2.1 z.2.2.1 z.2.2.2.2]) (fun _ => h) (0, l7, l8, al5, cl5) ⟨q24, q21⟩ sb rfl (FH.le_refl _) ?_
   rintro ⟨t93, l13, l14, al8, cl8⟩ ⟨q24, q5⟩
   have hF := q88 t93 l13 l14 q24
   show J _ _ _ _ _ [(0, .func (.func 88) #[] #[vP pt, vP pp2]), (2, vP pin), (3, vP pline), (8, iV ((t.ops.length : Nat) : Int)), (9, iV t93)] [Box pt (tF t at_ ct at_2 ct2 at_3 ct3), Box pp2 [iV r4], Box pin [.slice a ((((t.ops.length : Nat) : Int)).toNat) c], Box pline [vSl al8 l14 cl8], OwnSl 4 1 a ((((t.ops.length : Nat) : Int)).toNat) c (flL l13), oL 3 1 al8 l14 cl8] h
   refine .seq (.region (.V bi0 ?_))
   refine .nil (.seqN (.seq ?_))
   refine .cond rfl (fun q25 => ?_) (fun q25 => ?_)
   ·replace hF := hF.1 q25
    refine .skip (.seqN ?_)
    refine .share (σ := List Bool × List Int × Option Addr × Nat) (fun z => F_stubborn_J4 t93 I3 μ3 l13 l14 z.1 z.2.1 ∧ z.1.length = (((t.ops.length : Nat) : Int)).toNat) (fun _ => [(0, .func (.func 88) #[] #[vP pt, vP pp2]), (2, vP pin), (3, vP pline), (8, iV ((t.ops.length : Nat) : Int)), (9, iV t93)]) (fun z => [Box pt (tF t at_ ct at_2 ct2 at_3 ct3), Box pp2 [iV r4], Box pin [.slice a ((((t.ops.length : Nat) : Int)).toNat) c], Box pline [vSl z.2.2.1 z.2.1 z.2.2.2], OwnSl 4 1 a ((((t.ops.length : Nat) : Int)).toNat) c (flL z.1), oL 3 1 z.2.2.1 z.2.1 z.2.2.2]) (fun _ => h) ?_ (fun q51 => ?_)
    ·rintro ⟨l17, l18, al10, cl10⟩ ⟨hF, q89⟩
     show J _ _ _ _ _ [(0, .func (.func 88) #[] #[vP pt, vP pp2]), (2, vP pin), (3, vP pline), (8, iV ((t.ops.length : Nat) : Int)), (9, iV t93)] [Box pt (tF t at_ ct at_2 ct2 at_3 ct3), Box pp2 [iV r4], Box pin [.slice a ((((t.ops.length : Nat) : Int)).toNat) c], Box pline [vSl al10 l18 cl10], OwnSl 4 1 a ((((t.ops.length : Nat) : Int)).toNat) c (flL l17), oL 3 1 al10 l18 cl10] h
     refine .region (.V bi0 ?_)
     refine .V mv0 ?_
     refine .nil ?_
     exact .RO (wr (t93 + 1), l17, l18, al10, cl10) ⟨hF.1, q89⟩ hF.2
    refine .block (.seq (.region (.V mv0 ?_)))
    refine .V ag0 ?_
    refine .nil (.seqN ?_)
    refine .share (σ := Bool) (fun z => F_stubborn_J5 z t93 I3 μ3 l13 l14) (fun z => [(0, .func (.func 88) #[] #[vP pt, vP pp2]), (2, vP pin), (3, vP pline), (5, iV t93), (8, iV ((t.ops.length : Nat) : Int)), (9, iV t93), (21, .bool z)]) (fun _ => [Box pt (tF t at_ ct at_2 ct2 at_3 ct3), Box pp2 [iV r4], Box pin [.slice a ((((t.ops.length : Nat) : Int)).toNat) c], Box pline [vSl al8 l14 cl8], OwnSl 4 1 a ((((t.ops.length : Nat) : Int)).toNat) c (flL l13), oL 3 1 al8 l14 cl8]) (fun _ => h) ?_ (fun q52 => ?_)
    ·rintro t212 hF
     show J _ _ _ _ _ [(0, .func (.func 88) #[] #[vP pt, vP pp2]), (2, vP pin), (3, vP pline), (5, iV t93), (8, iV ((t.ops.length : Nat) : Int)), (9, iV t93), (21, .bool t212)] [Box pt (tF t at_ ct at_2 ct2 at_3 ct3), Box pp2 [iV r4], Box pin [.slice a ((((t.ops.length : Nat) : Int)).toNat) c], Box pline [vSl al8 l14 cl8], OwnSl 4 1 a ((((t.ops.length : Nat) : Int)).toNat) c (flL l13), oL 3 1 al8 l14 cl8] h
     refine .cond rfl (fun q26 => ?_) (fun q26 => ?_)
     ·replace hF := hF.1 q26
      refine .seq (.region (.V (lB 0 2 tO171) ?_))
      refine .V mv0 ?_
      obtain ⟨q10, hF⟩ := hF
      refine .V (ixS rfl rfl tS171 (k := 4) rfl (inb_n q10 q5)) ?_
      obtain ⟨d2, q27⟩ : ∃ y_ : List Bool, y_ = (l13.set (t93).toNat true) := ⟨_, rfl⟩
      replace hF := hF d2 q27
      refine stS (k := 4) (cs' := flL d2) rfl (fun _ => rfl) rfl rfl (fun w => (tO4 w).2) rfl rfl rfl (by rw [← q5]; exact inb_pos q10) (fl_room q10) (by rw [q27]; exact flL_set q10 true) ?_
      have q90 : d2.length = (((t.ops.length : Nat) : Int)).toNat := by rw [q27]; exact List.length_set.trans q5
      refine .nil (.seqN (.region (.V (lB 0 3 tO22) ?_)))
      refine .V mv0 ?_
      refine bs2 (cs := #[iV t93]) (pv := [(0, iV t93)]) tS22 rfl rfl (by decide) (by decide) rfl rfl rfl (fun a15 _ => ?_)
      obtain ⟨q53, hF⟩ := hF
      have q28 : l14.length + ([t93] : List Int).length = ((l14 ++ ([t93] : List Int))).length := len_app rfl rfl
      refine app (k := 6) (news := flL ([t93] : List Int)) (cs' := flL (l14 ++ ([t93] : List Int))) (nm := ((l14 ++ ([t93] : List Int))).length) tS22 rfl (by decide) rfl rfl rfl ((flL_len _).trans rfl) (srcS (k := 0) rfl) (flL_one _) (room_of q28 q53).1 (room_of q28 q53).2 q28 (flL_append _ _).symm rfl (fun a16 c9 => ?_)
      refine st (p := pline) (off := 0) (k := 4) (vs := [vSl a16 (l14 ++ ([t93] : List Int)) c9]) rfl rfl rfl (fun w => (tO22 w).2) rfl rfl rfl rfl ?_
      refine .nil (.blkN ?_)
      refine .sel0 [1, 2, 3, 4, 5, 6] (by decide) rfl ?_
      exact .US q51 (d2, (l14 ++ ([t93] : List Int)), a16, c9) ⟨hF, q90⟩
     replace hF := hF.2 q26
     refine .skip (.blkN ?_)
     exact .US q51 (l13, l14, al8, cl8) ⟨hF, q5⟩
    refine .region (.V (lB 0 2 tO171) ?_)
    refine .V mv0 ?_
    obtain ⟨q54, hF⟩ := hF
    refine .V (ixS rfl rfl tS171 (k := 4) rfl (inb_n q54 q5)) ?_
    refine .V (ld1 (v := .bool (gt l13 t93)) rfl tO4 (cellS (k := 4) rfl (flL_get q54 (j := 0) rfl))) ?_
    refine .V (nt rfl) ?_
    refine .V mv0 ?_
    rcases Bool.eq_false_or_eq_true (!(gt l13 t93)) with q2 | q2
    ·replace hF := hF.1 q2
     refine .GV mv0 q2 ?_
     refine .GV mv0 q2 ?_
     refine .gR rfl rfl rfl q2 ?_
     refine .inl Tryz.func88 rfl Tryz.ntmps88 Tryz.call88 rfl rfl rfl rfl (fun a17 q91 => ?_)
     refine .seq (.region (.V ag0 ?_))
     refine .nil (.seqN (.seq ?_))
     obtain ⟨q29, hF⟩ := hF
     obtain ⟨_, ⟨a18, c10, a19, c11, a20, c12, rfl, ⟨q117, q118⟩, ⟨q92, q93⟩, q119, q120⟩, q94⟩ := _q5.elem q29
     obtain ⟨q95, hF⟩ := hF
     obtain ⟨r5, q55⟩ : ∃ y_ : Bool, y_ = sp_contains ((gt t.ops t93).add) r4 := ⟨_, rfl⟩
     replace hF := hF r5 q55
     refine .OA (s0 := [(0, iV t93), (1, vP pt), (2, vP pp2)]) [0, 1, 2, 3, 4, 5, 6, 7, 8] [(0, vP (pt.add 3)), (1, vSl at_3 t.ops ct3), (2, iV t93), (3, vP (ead at_3 (t93.toNat * 4))), (4, vP ((ead at_3 (t93.toNat * 4)).add 1)), (5, .slice a19 ((gt t.ops t93).add.length) c11), (6, iV r4), (7, .bool r5), (8, .bool r5)] [0, 1, 2] [] ?_
     refine .LA [(5, vP (pt.add 3)), (6, vSl at_3 t.ops ct3), (7, iV t93), (8, vP (ead at_3 (t93.toNat * 4))), (9, vP ((ead at_3 (t93.toNat * 4)).add 1)), (10, .slice a19 ((gt t.ops t93).add.length) c11), (11, iV r4), (12, .bool r5), (4, .bool r5)] (.w [] rfl (fa rfl tF25_3) (.w [(5, vP (pt.add 3))] rfl (lB 3 0 tO23) (.w [] rfl mv0 (.w [(6, vSl at_3 t.ops ct3), (7, iV t93)] rfl (ix rfl rfl tS23 (_q5.ne (by decide) (inb_pos q29)) q29) (.w [(8, vP (ead at_3 (t93.toNat * 4)))] rfl (fa rfl tF52_1) (.w [(9, vP ((ead at_3 (t93.toNat * 4)).add 1))] rfl (ld1 (v := .slice a19 ((gt t.ops t93).add.length) c11) rfl tO22 (cellH (q94 (by decide) 1 _ rfl))) (.w [] rfl (lB 0 1 tO3) (.c [(10, .slice a19 ((gt t.ops t93).add.length) c11), (11, iV r4)] rfl rfl rfl rfl rfl rfl (fun _ => cl (v := .bool r5) Tryz.call89 rfl rfl (fun w S => (by rw [q55]; exact c_contains S.sub ((gt t.ops t93).add) a19 c11 q93 q92 r4 q95))) (.w [(12, .bool r5), (12, .bool r5), (5, vP (pt.add 3)), (6, vSl at_3 t.ops ct3), (7, iV t93), (8, vP (ead at_3 (t93.toNat * 4))), (9, vP ((ead at_3 (t93.toNat * 4)).add 1)), (10, .slice a19 ((gt t.ops t93).add.length) c11), (11, iV r4), (12, .bool r5)] rfl ag0 (.nil)))))))))) ?_
     refine .seqN (.ret ?_)
     refine .res1 rfl (rvT rfl) (inl_back (v := .bool r5) q91 rfl ?_)
     refine .V (pkT rfl q2 rfl) ?_
     refine .nil ?_
     exact .US q52 r5 hF
    replace hF := hF.2 q2
    refine .GS q2 ?_
    refine .GS q2 ?_
    refine .GS q2 ?_
    refine .V (pkF rfl q2 rfl) ?_
    refine .nil ?_
    exact .US q52 false hF
   replace hF := hF.2 q25
   refine .exit (.seqX (.seqX (.blkX ?_)))
   refine .res0 (.inr rfl) rfl (inl_back (v := .tuple #[]) q87 rfl ?_)
   refine .nil (.blkN ?_)
   refine .sel0 [0, 2, 3, 4, 5] (by decide) rfl ?_
   exact .US q46 (l13, l14, al8, cl8) ⟨hF, q5⟩
  replace hF := hF.2 q23
  refine .region (.V mv0 ?_)
  refine .V (mkf (vf := []) (vc := [vP po, vP pt]) rfl rfl) ?_
  refine .inl Tryz.func86 rfl Tryz.ntmps86 Tryz.call86 rfl rfl rfl rfl (fun a21 q96 => ?_)
  refine .seq (.region (.V (fa rfl tF25_3) ?_))
  refine .V (lB 3 1 tO23) ?_
  refine .V (ln rfl tS23.is) ?_
  refine .V mv0 ?_
  refine .nil (.seqN (.block ?_))
  obtain ⟨I4, μ4, q30, q97⟩ := hF
  refine .loop' (σ := Int × List Bool × List Int × Option Addr × Nat) (fun z => I4 z.1 z.2.1 z.2.2.1 ∧ z.2.1.length = (((t.ops.length : Nat) : Int)).toNat) (fun z => μ4 z.1 z.2.1 z.2.2.1) (fun z => [(0, .func (.func 90) #[] #[vP po, vP pt]), (2, vP pin), (3, vP pline), (8, iV ((t.ops.length : Nat) : Int)), (9, iV z.1)]) (fun z => [Box po [.slice a10 ((gt t.ops (gt l8 k)).pre.length) c6, .slice a11 ((gt t.ops (gt l8 k)).add.length) c7, .slice a12 ((gt t.ops (gt l8 k)).del.length) c8, iV ((gt t.ops (gt l8 k)).cost)], Box pt (tF t at_ ct at_2 ct2 at_3 ct3), Box pin [.slice a ((((t.ops.length : Nat) : Int)).toNat) c], Box pline [vSl z.2.2.2.1 z.2.2.1 z.2.2.2.2], OwnSl 4 1 a ((((t.ops.length : Nat) : Int)).toNat) c (flL z.2.1), oL 3 1 z.2.2.2.1 z.2.2.1 z.2.2.2.2]) (fun _ => h) (0, l7, l8, al5, cl5) ⟨q30, q21⟩ sb rfl (FH.le_refl _) ?_
  rintro ⟨t95, l19, l20, al11, cl11⟩ ⟨q30, q6⟩
  have hF := q97 t95 l19 l20 q30
  show J _ _ _ _ _ [(0, .func (.func 90) #[] #[vP po, vP pt]), (2, vP pin), (3, vP pline), (8, iV ((t.ops.length : Nat) : Int)), (9, iV t95)] [Box po [.slice a10 ((gt t.ops (gt l8 k)).pre.length) c6, .slice a11 ((gt t.ops (gt l8 k)).add.length) c7, .slice a12 ((gt t.ops (gt l8 k)).del.length) c8, iV ((gt t.ops (gt l8 k)).cost)], Box pt (tF t at_ ct at_2 ct2 at_3 ct3), Box pin [.slice a ((((t.ops.length : Nat) : Int)).toNat) c], Box pline [vSl al11 l20 cl11], OwnSl 4 1 a ((((t.ops.length : Nat) : Int)).toNat) c (flL l19), oL 3 1 al11 l20 cl11] h
  refine .seq (.region (.V bi0 ?_))
  refine .nil (.seqN (.seq ?_))
  refine .cond rfl (fun q31 => ?_) (fun q31 => ?_)
  ·replace hF := hF.1 q31
   refine .skip (.seqN ?_)
   refine .share (σ := List Bool × List Int × Option Addr × Nat) (fun z => F_stubborn_J6 t95 I4 μ4 l19 l20 z.1 z.2.1 ∧ z.1.length = (((t.ops.length : Nat) : Int)).toNat) (fun _ => [(0, .func (.func 90) #[] #[vP po, vP pt]), (2, vP pin), (3, vP pline), (8, iV ((t.ops.length : Nat) : Int)), (9, iV t95)]) (fun z => [Box po [.slice a10 ((gt t.ops (gt l8 k)).pre.length) c6, .slice a11 ((gt t.ops (gt l8 k)).add.length) c7, .slice a12 ((gt t.ops (gt l8 k)).del.length) c8, iV ((gt t.ops (gt l8 k)).cost)], Box pt (tF t at_ ct at_2 ct2 at_3 ct3), Box pin [.slice a ((((t.ops.length : Nat) : Int)).toNat) c], Box pline [vSl z.2.2.1 z.2.1 z.2.2.2], OwnSl 4 1 a ((((t.ops.length : Nat) : Int)).toNat) c (flL z.1), oL 3 1 z.2.2.1 z.2.1 z.2.2.2]) (fun _ => h) ?_ (fun q56 => ?_)
   ·rintro ⟨l23, l24, al13, cl13⟩ ⟨hF, q98⟩
    show J _ _ _ _ _ [(0, .func (.func 90) #[] #[vP po, vP pt]), (2, vP pin), (3, vP pline), (8, iV ((t.ops.length : Nat) : Int)), (9, iV t95)] [Box po [.slice a10 ((gt t.ops (gt l8 k)).pre.length) c6, .slice a11 ((gt t.ops (gt l8 k)).add.length) c7, .slice a12 ((gt t.ops (gt l8 k)).del.length) c8, iV ((gt t.ops (gt l8 k)).cost)], Box pt (tF t at_ ct at_2 ct2 at_3 ct3), Box pin [.slice a ((((t.ops.length : Nat) : Int)).toNat) c], Box pline [vSl al13 l24 cl13], OwnSl 4 1 a ((((t.ops.length : Nat) : Int)).toNat) c (flL l23), oL 3 1 al13 l24 cl13] h
    refine .region (.V bi0 ?_)
    refine .V mv0 ?_
    refine .nil ?_
    exact .RO (wr (t95 + 1), l23, l24, al13, cl13) ⟨hF.1, q98⟩ hF.2
   refine .block (.seq (.region (.V mv0 ?_)))
   refine .V ag0 ?_
   refine .nil (.seqN ?_)
   refine .share (σ := Bool) (fun z => F_stubborn_J7 z t95 I4 μ4 l19 l20) (fun z => [(0, .func (.func 90) #[] #[vP po, vP pt]), (2, vP pin), (3, vP pline), (5, iV t95), (8, iV ((t.ops.length : Nat) : Int)), (9, iV t95), (21, .bool z)]) (fun _ => [Box po [.slice a10 ((gt t.ops (gt l8 k)).pre.length) c6, .slice a11 ((gt t.ops (gt l8 k)).add.length) c7, .slice a12 ((gt t.ops (gt l8 k)).del.length) c8, iV ((gt t.ops (gt l8 k)).cost)], Box pt (tF t at_ ct at_2 ct2 at_3 ct3), Box pin [.slice a ((((t.ops.length : Nat) : Int)).toNat) c], Box pline [vSl al11 l20 cl11], OwnSl 4 1 a ((((t.ops.length : Nat) : Int)).toNat) c (flL l19), oL 3 1 al11 l20 cl11]) (fun _ => h) ?_ (fun q57 => ?_)
   ·rintro t213 hF
    show J _ _ _ _ _ [(0, .func (.func 90) #[] #[vP po, vP pt]), (2, vP pin), (3, vP pline), (5, iV t95), (8, iV ((t.ops.length : Nat) : Int)), (9, iV t95), (21, .bool t213)] [Box po [.slice a10 ((gt t.ops (gt l8 k)).pre.length) c6, .slice a11 ((gt t.ops (gt l8 k)).add.length) c7, .slice a12 ((gt t.ops (gt l8 k)).del.length) c8, iV ((gt t.ops (gt l8 k)).cost)], Box pt (tF t at_ ct at_2 ct2 at_3 ct3), Box pin [.slice a ((((t.ops.length : Nat) : Int)).toNat) c], Box pline [vSl al11 l20 cl11], OwnSl 4 1 a ((((t.ops.length : Nat) : Int)).toNat) c (flL l19), oL 3 1 al11 l20 cl11] h
    refine .cond rfl (fun q32 => ?_) (fun q32 => ?_)
    ·replace hF := hF.1 q32
     refine .seq (.region (.V (lB 0 2 tO171) ?_))
     refine .V mv0 ?_
     obtain ⟨q11, hF⟩ := hF
     refine .V (ixS rfl rfl tS171 (k := 4) rfl (inb_n q11 q6)) ?_
     obtain ⟨d3, q33⟩ : ∃ y_ : List Bool, y_ = (l19.set (t95).toNat true) := ⟨_, rfl⟩
     replace hF := hF d3 q33
     refine stS (k := 4) (cs' := flL d3) rfl (fun _ => rfl) rfl rfl (fun w => (tO4 w).2) rfl rfl rfl (by rw [← q6]; exact inb_pos q11) (fl_room q11) (by rw [q33]; exact flL_set q11 true) ?_
     have q99 : d3.length = (((t.ops.length : Nat) : Int)).toNat := by rw [q33]; exact List.length_set.trans q6
     refine .nil (.seqN (.region (.V (lB 0 3 tO22) ?_)))
     refine .V mv0 ?_
     refine bs2 (cs := #[iV t95]) (pv := [(0, iV t95)]) tS22 rfl rfl (by decide) (by decide) rfl rfl rfl (fun a22 _ => ?_)
     obtain ⟨q58, hF⟩ := hF
     have q34 : l20.length + ([t95] : List Int).length = ((l20 ++ ([t95] : List Int))).length := len_app rfl rfl
     refine app (k := 6) (news := flL ([t95] : List Int)) (cs' := flL (l20 ++ ([t95] : List Int))) (nm := ((l20 ++ ([t95] : List Int))).length) tS22 rfl (by decide) rfl rfl rfl ((flL_len _).trans rfl) (srcS (k := 0) rfl) (flL_one _) (room_of q34 q58).1 (room_of q34 q58).2 q34 (flL_append _ _).symm rfl (fun a23 c13 => ?_)
     refine st (p := pline) (off := 0) (k := 4) (vs := [vSl a23 (l20 ++ ([t95] : List Int)) c13]) rfl rfl rfl (fun w => (tO22 w).2) rfl rfl rfl rfl ?_
     refine .nil (.blkN ?_)
     refine .sel0 [1, 2, 3, 4, 5, 6] (by decide) rfl ?_
     exact .US q56 (d3, (l20 ++ ([t95] : List Int)), a23, c13) ⟨hF, q99⟩
    replace hF := hF.2 q32
    refine .skip (.blkN ?_)
    exact .US q56 (l19, l20, al11, cl11) ⟨hF, q6⟩
   refine .region (.V (lB 0 2 tO171) ?_)
   refine .V mv0 ?_
   obtain ⟨q59, hF⟩ := hF
   refine .V (ixS rfl rfl tS171 (k := 4) rfl (inb_n q59 q6)) ?_
   refine .V (ld1 (v := .bool (gt l19 t95)) rfl tO4 (cellS (k := 4) rfl (flL_get q59 (j := 0) rfl))) ?_
   refine .V (nt rfl) ?_
   refine .V mv0 ?_
   rcases Bool.eq_false_or_eq_true (!(gt l19 t95)) with q3 | q3
   ·replace hF := hF.1 q3
    refine .GV mv0 q3 ?_
    refine .GV mv0 q3 ?_
    refine .gR rfl rfl rfl q3 ?_
    refine .inl Tryz.func90 rfl Tryz.ntmps90 Tryz.call90 rfl rfl rfl rfl (fun a24 q100 => ?_)
    refine .seq (.region (.V ag0 ?_))
    refine .nil (.seqN (.seq ?_))
    obtain ⟨q35, hF⟩ := hF
    obtain ⟨_, ⟨a25, c14, a26, c15, a27, c16, rfl, ⟨q101, q102⟩, ⟨q103, q104⟩, q105, q106⟩, q107⟩ := _q5.elem q35
    obtain ⟨q108, hF⟩ := hF
    obtain ⟨r6, q60⟩ : ∃ y_ : Bool, y_ = sp_indep (gt t.ops (gt l8 k)) (gt t.ops t95) := ⟨_, rfl⟩
    replace hF := hF r6 q60
    refine .OA (s0 := [(0, iV t95), (1, vP po), (2, vP pt)]) [0, 1, 2, 3, 4, 5, 6, 7, 8] [(0, .agg #[.slice a10 ((gt t.ops (gt l8 k)).pre.length) c6, .slice a11 ((gt t.ops (gt l8 k)).add.length) c7, .slice a12 ((gt t.ops (gt l8 k)).del.length) c8, iV ((gt t.ops (gt l8 k)).cost)]), (1, vP (pt.add 3)), (2, vSl at_3 t.ops ct3), (3, iV t95), (4, vP (ead at_3 (t95.toNat * 4))), (5, .agg #[.slice a25 ((gt t.ops t95).pre.length) c14, .slice a26 ((gt t.ops t95).add.length) c15, .slice a27 ((gt t.ops t95).del.length) c16, iV ((gt t.ops t95).cost)]), (6, .bool r6), (7, .bool (!r6)), (8, .bool (!r6))] [0, 1, 2] [] ?_
    refine .LA [(5, .agg #[.slice a10 ((gt t.ops (gt l8 k)).pre.length) c6, .slice a11 ((gt t.ops (gt l8 k)).add.length) c7, .slice a12 ((gt t.ops (gt l8 k)).del.length) c8, iV ((gt t.ops (gt l8 k)).cost)]), (6, vP (pt.add 3)), (7, vSl at_3 t.ops ct3), (8, iV t95), (9, vP (ead at_3 (t95.toNat * 4))), (10, .agg #[.slice a25 ((gt t.ops t95).pre.length) c14, .slice a26 ((gt t.ops t95).add.length) c15, .slice a27 ((gt t.ops t95).del.length) c16, iV ((gt t.ops t95).cost)]), (11, .bool r6), (12, .bool (!r6)), (4, .bool (!r6))] (.w [] rfl (ldA (cs := [.slice a10 ((gt t.ops (gt l8 k)).pre.length) c6, .slice a11 ((gt t.ops (gt l8 k)).add.length) c7, .slice a12 ((gt t.ops (gt l8 k)).del.length) c8, iV ((gt t.ops (gt l8 k)).cost)]) rfl tA52 rfl (cellsB (off := 0) (k := 0) rfl (m := 4) rfl)) (.w [] rfl (fa rfl tF25_3) (.w [(6, vP (pt.add 3))] rfl (lB 3 1 tO23) (.w [] rfl mv0 (.w [(7, vSl at_3 t.ops ct3), (8, iV t95)] rfl (ix rfl rfl tS23 (_q5.ne (by decide) (inb_pos q35)) q35) (.w [(9, vP (ead at_3 (t95.toNat * 4)))] rfl (ldA (cs := [.slice a25 ((gt t.ops t95).pre.length) c14, .slice a26 ((gt t.ops t95).add.length) c15, .slice a27 ((gt t.ops t95).del.length) c16, iV ((gt t.ops t95).cost)]) rfl tA52 rfl (cellsH (q107 (by decide)))) (.c [(5, .agg #[.slice a10 ((gt t.ops (gt l8 k)).pre.length) c6, .slice a11 ((gt t.ops (gt l8 k)).add.length) c7, .slice a12 ((gt t.ops (gt l8 k)).del.length) c8, iV ((gt t.ops (gt l8 k)).cost)]), (10, .agg #[.slice a25 ((gt t.ops t95).pre.length) c14, .slice a26 ((gt t.ops t95).add.length) c15, .slice a27 ((gt t.ops t95).del.length) c16, iV ((gt t.ops t95).cost)])] rfl rfl rfl rfl rfl rfl (fun _ => cl (v := .bool r6) Tryz.call91 rfl rfl (fun w S => (by rw [q60]; exact c_indep S.sub (gt t.ops (gt l8 k)) a10 c6 q48 q47 a11 c7 q82 q81 a12 c8 q84 q83 (gt t.ops t95) a25 c14 q102 q101 a26 c15 q104 q103 a27 c16 q106 q105 q108))) (.w [(11, .bool r6)] rfl (nt rfl) (.w [(12, .bool (!r6)), (11, .bool r6), (5, .agg #[.slice a10 ((gt t.ops (gt l8 k)).pre.length) c6, .slice a11 ((gt t.ops (gt l8 k)).add.length) c7, .slice a12 ((gt t.ops (gt l8 k)).del.length) c8, iV ((gt t.ops (gt l8 k)).cost)]), (6, vP (pt.add 3)), (7, vSl at_3 t.ops ct3), (8, iV t95), (9, vP (ead at_3 (t95.toNat * 4))), (10, .agg #[.slice a25 ((gt t.ops t95).pre.length) c14, .slice a26 ((gt t.ops t95).add.length) c15, .slice a27 ((gt t.ops t95).del.length) c16, iV ((gt t.ops t95).cost)]), (11, .bool r6), (12, .bool (!r6))] rfl ag0 (.nil)))))))))) ?_
    refine .seqN (.ret ?_)
    refine .res1 rfl (rvT rfl) (inl_back (v := .bool (!r6)) q100 rfl ?_)
    refine .V (pkT rfl q3 rfl) ?_
    refine .nil ?_
    exact .US q57 (!r6) hF
   replace hF := hF.2 q3
   refine .GS q3 ?_
   refine .GS q3 ?_
   refine .GS q3 ?_
   refine .V (pkF rfl q3 rfl) ?_
   refine .nil ?_
   exact .US q57 false hF
  replace hF := hF.2 q31
  refine .exit (.seqX (.seqX (.blkX ?_)))
  refine .res0 (.inr rfl) rfl (inl_back (v := .tuple #[]) q96 rfl ?_)
  refine .nil (.blkN ?_)
  refine .sel0 [1, 2, 3, 4, 5] (by decide) rfl ?_
  exact .US q46 (l19, l20, al11, cl11) ⟨hF, q6⟩
 replace hF := hF.2 q22
 refine .exit (.seqX (.seqX (.blkX (.seqN (.seq (.region (.V ag0 ?_)))))))
 refine .nil (.seqN (.seq (.seq (.region (.V (lB 0 1 tO171) ?_)))))
 refine .V (ln rfl tS171.is) ?_
 refine .V mv0 ?_
 refine .nil (.seqN (.block ?_))
 refine .nilSl 3 1 ?_
 refine .KA [oL 3 1 none ([] : List Int) 0, Box pt (tF t at_ ct at_2 ct2 at_3 ct3), Box pin [.slice a ((((t.ops.length : Nat) : Int)).toNat) c], Box pline [vSl al5 l8 cl5], OwnSl 4 1 a ((((t.ops.length : Nat) : Int)).toNat) c (flL l7), oL 3 1 al5 l8 cl5] ?_
 refine .sel0 [1, 0, 4] (by decide) rfl ?_
 obtain ⟨I5, μ5, q36, q109⟩ := hF
 refine .loop' (σ := Int × List Int × Option Addr × Nat) (fun z => I5 z.1 z.2.1) (fun z => μ5 z.1 z.2.1) (fun z => [(1, vSl as_ s_ cs_), (2, vP pt), (13, vSl z.2.2.1 z.2.1 z.2.2.2), (61, .slice a ((((t.ops.length : Nat) : Int)).toNat) c), (62, iV (((((t.ops.length : Nat) : Int)).toNat : Nat) : Int)), (63, iV z.1)]) (fun z => [Box pt (tF t at_ ct at_2 ct2 at_3 ct3), oL 3 1 z.2.2.1 z.2.1 z.2.2.2, OwnSl 4 1 a ((((t.ops.length : Nat) : Int)).toNat) c (flL l7)]) (fun _ => h) (0, ([] : List Int), none, 0) q36 sb rfl (FH.le_refl _) ?_
 rintro ⟨t63, out, aout, cout⟩ q36
 have hF := q109 t63 out q36
 show J _ _ _ _ _ [(1, vSl as_ s_ cs_), (2, vP pt), (13, vSl aout out cout), (61, .slice a ((((t.ops.length : Nat) : Int)).toNat) c), (62, iV (((((t.ops.length : Nat) : Int)).toNat : Nat) : Int)), (63, iV t63)] [Box pt (tF t at_ ct at_2 ct2 at_3 ct3), oL 3 1 aout out cout, OwnSl 4 1 a ((((t.ops.length : Nat) : Int)).toNat) c (flL l7)] h
 refine .seq (.region ?_)
 obtain ⟨x, q61⟩ : ∃ y_ : Bool, y_ = (decide (t63 < (((((t.ops.length : Nat) : Int)).toNat : Nat) : Int))) := ⟨_, rfl⟩
 replace hF := hF x q61
 refine .v (v := .bool x) (by rw [q61]; exact bi rfl rfl rfl) rfl rfl rfl ?_
 refine .nil (.seqN (.seq ?_))
 refine .cond rfl (fun q37 => ?_) (fun q37 => ?_)
 ·replace hF := hF.1 q37
  refine .skip (.seqN ?_)
  refine .share (σ := List Int × Option Addr × Nat) (fun z => F_stubborn_J8 out t63 I5 μ5 z.1) (fun z => [(1, vSl as_ s_ cs_), (2, vP pt), (13, vSl z.2.1 z.1 z.2.2), (61, .slice a ((((t.ops.length : Nat) : Int)).toNat) c), (62, iV (((((t.ops.length : Nat) : Int)).toNat : Nat) : Int)), (63, iV t63)]) (fun z => [Box pt (tF t at_ ct at_2 ct2 at_3 ct3), oL 3 1 z.2.1 z.1 z.2.2, OwnSl 4 1 a ((((t.ops.length : Nat) : Int)).toNat) c (flL l7)]) (fun _ => h) ?_ (fun q62 => ?_)
  ·rintro ⟨out3, aout3, cout3⟩ hF
   show J _ _ _ _ _ [(1, vSl as_ s_ cs_), (2, vP pt), (13, vSl aout3 out3 cout3), (61, .slice a ((((t.ops.length : Nat) : Int)).toNat) c), (62, iV (((((t.ops.length : Nat) : Int)).toNat : Nat) : Int)), (63, iV t63)] [Box pt (tF t at_ ct at_2 ct2 at_3 ct3), oL 3 1 aout3 out3 cout3, OwnSl 4 1 a ((((t.ops.length : Nat) : Int)).toNat) c (flL l7)] h
   refine .region (.V bi0 ?_)
   refine .V mv0 ?_
   refine .nil ?_
   exact .RO (wr (t63 + 1), out3, aout3, cout3) hF.1 hF.2
  refine .block (.seq (.region (.V mv0 ?_)))
  obtain ⟨q63, hF⟩ := hF
  refine .V (ixS rfl rfl tS171 (k := 2) rfl (inb_n q63 q21)) ?_
  refine .V (ld1 (v := .bool (gt l7 t63)) rfl tO4 (cellS (k := 2) rfl (flL_get q63 (j := 0) rfl))) ?_
  refine .V ag0 ?_
  refine .V ag0 ?_
  refine .nil (.seqN ?_)
  refine .share (σ := Bool) (fun z => F_stubborn_J9 z out t63 I5 μ5) (fun z => [(1, vSl as_ s_ cs_), (2, vP pt), (13, vSl aout out cout), (14, iV t63), (61, .slice a ((((t.ops.length : Nat) : Int)).toNat) c), (62, iV (((((t.ops.length : Nat) : Int)).toNat : Nat) : Int)), (63, iV t63), (74, .bool z)]) (fun _ => [Box pt (tF t at_ ct at_2 ct2 at_3 ct3), oL 3 1 aout out cout, OwnSl 4 1 a ((((t.ops.length : Nat) : Int)).toNat) c (flL l7)]) (fun _ => h) ?_ (fun q64 => ?_)
  ·rintro t74 hF
   show J _ _ _ _ _ [(1, vSl as_ s_ cs_), (2, vP pt), (13, vSl aout out cout), (14, iV t63), (61, .slice a ((((t.ops.length : Nat) : Int)).toNat) c), (62, iV (((((t.ops.length : Nat) : Int)).toNat : Nat) : Int)), (63, iV t63), (74, .bool t74)] [Box pt (tF t at_ ct at_2 ct2 at_3 ct3), oL 3 1 aout out cout, OwnSl 4 1 a ((((t.ops.length : Nat) : Int)).toNat) c (flL l7)] h
   refine .cond rfl (fun q38 => ?_) (fun q38 => ?_)
   ·replace hF := hF.1 q38
    refine .region (.V mv0 ?_)
    refine .V mv0 ?_
    refine bs2 (cs := #[iV t63]) (pv := [(0, iV t63)]) tS22 rfl rfl (by decide) (by decide) rfl rfl rfl (fun a28 _ => ?_)
    obtain ⟨q65, hF⟩ := hF
    have q39 : out.length + ([t63] : List Int).length = ((out ++ ([t63] : List Int))).length := len_app rfl rfl
    refine app (k := 2) (news := flL ([t63] : List Int)) (cs' := flL (out ++ ([t63] : List Int))) (nm := ((out ++ ([t63] : List Int))).length) tS22 rfl (by decide) rfl rfl rfl ((flL_len _).trans rfl) (srcS (k := 0) rfl) (flL_one _) (room_of q39 q65).1 (room_of q39 q65).2 q39 (flL_append _ _).symm rfl (fun a29 c17 => ?_)
    refine .V ag0 ?_
    refine .nil (.blkN ?_)
    refine .sel0 [1, 2, 3] (by decide) rfl ?_
    exact .US q62 ((out ++ ([t63] : List Int)), a29, c17) hF
   replace hF := hF.2 q38
   refine .skip (.blkN ?_)
   exact .US q62 (out, aout, cout) hF
  refine .region (.V mv0 ?_)
  refine .V mv0 ?_
  rcases Bool.eq_false_or_eq_true ((gt l7 t63)) with q0 | q0
  ·replace hF := hF.1 q0
   refine .GV (ldA (cs := (tF t at_ ct at_2 ct2 at_3 ct3)) rfl tA25 rfl (cellsB (off := 0) (k := 0) rfl (m := 4) rfl)) q0 ?_
   refine .GV mv0 q0 ?_
   refine .GV mv0 q0 ?_
   obtain ⟨q110, hF⟩ := hF
   obtain ⟨r7, q66⟩ : ∃ y_ : Bool, y_ = sp_applies t s_ t63 := ⟨_, rfl⟩
   replace hF := hF r7 q66
   refine .gc (cl (v := .bool r7) Tryz.call82 rfl rfl (fun w S => (by rw [q66]; exact c_can S.sub t at_ ct _q1 _q2 at_2 ct2 _q3 _q4 at_3 ct3 _q5 _q6 s_ as_ cs_ _q7 _q8 t63 q110))) rfl rfl rfl q0 rfl rfl ?_
   refine .V (pkT rfl q0 rfl) ?_
   refine .nil ?_
   exact .US q64 r7 hF
  replace hF := hF.2 q0
  refine .GS q0 ?_
  refine .GS q0 ?_
  refine .GS q0 ?_
  refine .GS q0 ?_
  refine .V (pkF rfl q0 rfl) ?_
  refine .nil ?_
  exact .US q64 false hF
 replace hF := hF.2 q37
 refine .exit (.seqX (.seqX (.blkX (.seqN (.seq (.region (.V mv0 ?_)))))))
 refine .V ag0 ?_
 refine .nil (.seqN ?_)
 refine .freezeL (k := 1) rfl (fun h1 le1 q111 q112 => ?_)
 refine .ret ?_
 refine .res1 rfl (rvT rfl) (fun w' S => ⟨out, (aout, cout), h1, hF, rfl, (le1), ⟨(RSl.of q112), (q111)⟩, S.none⟩)
theorem c_stubborn {h : FH} {w : World} (hs : Sub h w) (t : Task) (at_ : Option Addr) (ct : Nat) (_q1 : RSl h at_ t.init) (_q2 : t.init.length ≤ ct) (at_2 : Option Addr) (ct2 : Nat) (_q3 : RSl h at_2 t.goal) (_q4 : t.goal.length ≤ ct2) (at_3 : Option Addr) (ct3 : Nat) (_q5 : RSl h at_3 t.ops) (_q6 : t.ops.length ≤ ct3) (s_ : List Int) (as_ : Option Addr) (cs_ : Nat) (_q7 : RSl h as_ s_) (_q8 : s_.length ≤ cs_) (hp : pre_stubborn t s_) : Calls Tryz.prog 57 #[.agg #[iV t.facts, .slice at_ t.init.length ct, .slice at_2 t.goal.length ct2, .slice at_3 t.ops.length ct3], .slice as_ s_.length cs_] w fun e w' => ∃ (z : Option Addr × Nat) (h1 : FH), e = .returned (.slice z.1 (sp_stubborn t s_).length z.2) ∧ FH.le h h1 ∧ (RSl h1 z.1 (sp_stubborn t s_) ∧ (sp_stubborn t s_).length ≤ z.2) ∧ SH (Kp.all w h) h1 w' [] :=
 (w_stubborn hs t at_ ct _q1 _q2 at_2 ct2 _q3 _q4 at_3 ct3 _q5 _q6 s_ as_ cs_ _q7 _q8 (fun r => r = sp_stubborn t s_) (ok_stubborn t s_ hp)).mono fun _ _ ⟨r, z, h1, hk, he, hl, hf, hS⟩ => by subst hk; exact ⟨z, h1, he, hl, hf, hS⟩
set_option maxHeartbeats 8000000 in
theorem w_reachable {h : FH} {w : World} (hs : Sub h w) (t : Task) (at_ : Option Addr) (ct : Nat) (_q1 : RSl h at_ t.init) (_q2 : t.init.length ≤ ct) (at_2 : Option Addr) (ct2 : Nat) (_q3 : RSl h at_2 t.goal) (_q4 : t.goal.length ≤ ct2) (at_3 : Option Addr) (ct3 : Nat) (_q5 : RSl h at_3 t.ops) (_q6 : t.ops.length ≤ ct3) (K : Int → Prop) (hF : F_reachable t K) : Calls Tryz.prog 23 #[.agg #[iV t.facts, .slice at_ t.init.length ct, .slice at_2 t.goal.length ct2, .slice at_3 t.ops.length ct3]] w fun e w' => ∃ r : Int, K r ∧ e = .returned (iV r) ∧ Below w.heap.size w w' := by
 refine enterM (args := [.agg (tF t at_ ct at_2 ct2 at_3 ct3).toArray]) Tryz.func23 rfl Tryz.ntmps23 rfl hs ?_
 refine .seq (.region ?_)
 refine bx (vs := (tF t at_ ct at_2 ct2 at_3 ct3)) rfl rfl rfl (fun pt => ?_)
 refine al tZ3 rfl (fun pv => ?_)
 refine .nil (.seqN (.seq (.region ?_)))
 refine mmI .i64 (fun zE : Int => iV zE) rfl (fun bv => ?_)
 refine .V (fa rfl tF25_1) ?_
 refine .V (lB 1 2 tO22) ?_
 obtain ⟨q30, hF⟩ := hF
 obtain ⟨r2, q16⟩ : ∃ y_ : Int, y_ = sp_wordC t.init := ⟨_, rfl⟩
 replace hF := hF r2 q16
 refine .C (cl (v := iV r2) Tryz.call51 rfl rfl (fun w S => (by rw [q16]; exact c_wordC S.sub t.init at_ ct _q1 _q2 q30))) ?_
 refine miI (enc := (fun zE : Int => iV zE)) 0 tMI107 rfl rfl rfl (q := 0) rfl ?_
 obtain ⟨m, q17⟩ : ∃ y_ : List (Int × Int), y_ = (setA ([] : List (Int × Int)) r2 0) := ⟨_, rfl⟩
 replace hF := hF m q17
 refine .cast (A' := [OwnMapI bv .i64 (fun zE : Int => iV zE) m, Box pv [iV 0], Box pt (tF t at_ ct at_2 ct2 at_3 ct3), MkA []]) (by rw [q17]; rfl) ?_
 refine .V mv0 ?_
 refine al tZ107 rfl (fun pseen => ?_)
 refine st (p := pseen) (off := 0) (k := 0) (vs := [.map (some bv)]) rfl rfl rfl (fun w => (tO107 w).2) rfl rfl rfl rfl ?_
 refine .nil (.seqN (.seq (.region (.V (fa rfl tF25_1) ?_))))
 refine .V (lB 1 3 tO22) ?_
 refine bs2 (cs := #[vSl at_ t.init ct]) (pv := [(0, vSl at_ t.init ct)]) tS68 rfl rfl (by decide) (by decide) rfl rfl rfl (fun a _ => ?_)
 refine al tZ68 rfl (fun pline => ?_)
 refine st (p := pline) (off := 0) (k := 0) (vs := [vSl a ([t.init] : List (List Int)) 1]) rfl rfl rfl (fun w => (tO68 w).2) rfl rfl rfl rfl ?_
 refine .nil (.seqN (.seq (.seq (.region (.V ag0 ?_)))))
 refine .nil (.seqN (.block ?_))
 refine .sel0 [5, 4, 2, 0, 6, 3, 1] (by decide) rfl ?_
 obtain ⟨I1, μ1, q7, q31⟩ := hF
 refine .loopN' (σ := Int × List (Int × Int) × List (List Int) × List Nat × Option Addr × Nat × List Value × FH) (fun z => I1 z.1 z.2.1 z.2.2.1 ∧ RepL z.2.2.2.2.2.2.2 z.2.2.1 z.2.2.2.2.2.2.1 ∧ FH.le h z.2.2.2.2.2.2.2) (fun z => μ1 z.1 z.2.1 z.2.2.1) (fun z => ⟨55, none, z.2.2.2.1⟩) (fun z => [(1, vP pt), (2, vP pv), (3, vP pseen), (4, vP pline), (5, iV z.1)]) (fun z => [Box pt (tF t at_ ct at_2 ct2 at_3 ct3), Box pv [iV 0], Box pseen [.map (some bv)], Box pline [vSl z.2.2.2.2.1 z.2.2.1 z.2.2.2.2.2.1], MkA z.2.2.2.1, OwnMapI bv .i64 (fun zE : Int => iV zE) z.2.1, OwnSl 22 1 z.2.2.2.2.1 z.2.2.1.length z.2.2.2.2.2.1 z.2.2.2.2.2.2.1]) (fun z => z.2.2.2.2.2.2.2) (0, m, ([t.init] : List (List Int)), [], a, 1, [vSl at_ t.init ct], h) ⟨q7, (show RepL h ([t.init] : List (List Int)) [vSl at_ t.init ct] from ⟨[vSl at_ t.init ct], _, rfl, ⟨at_, ct, rfl, _q2, _q1⟩, rfl⟩), (FH.le_refl _)⟩ (fun _ => rfl) rfl sb rfl (FH.le_refl _) ?_
 rintro ⟨k, m2, l, dl, al2, cl2, csl, h163⟩ ⟨q7, q18, q2⟩
 have hF := q31 k m2 l q7
 show J _ _ ⟨55, none, dl⟩ _ _ [(1, vP pt), (2, vP pv), (3, vP pseen), (4, vP pline), (5, iV k)] [Box pt (tF t at_ ct at_2 ct2 at_3 ct3), Box pv [iV 0], Box pseen [.map (some bv)], Box pline [vSl al2 l cl2], MkA dl, OwnMapI bv .i64 (fun zE : Int => iV zE) m2, OwnSl 22 1 al2 l.length cl2 csl] h163
 refine .seq (.seq (.region (.V mv0 ?_)))
 refine .V (lB 0 3 tO68) ?_
 refine .V (ln rfl tS68.is) ?_
 refine .V bi0 ?_
 refine .nil (.seqN ?_)
 refine .cond rfl (fun q8 => ?_) (fun q8 => ?_)
 ·replace hF := hF.1 q8
  refine .skip (.seqN (.seq (.block (.seq ?_))))
  obtain ⟨q19, hF⟩ := hF
  obtain ⟨_, ⟨a2, c, rfl, q20, q21⟩, q32⟩ := RepL.get q18 (gt_get q19)
  refine .OA (s0 := [(1, vP pt), (2, vP pv), (3, vP pseen), (4, vP pline), (5, iV k)]) [0, 1, 2, 3, 4] [(0, .agg (tF t at_ ct at_2 ct2 at_3 ct3).toArray), (1, vSl al2 l cl2), (2, iV k), (3, vP (ead al2 (k.toNat * 1))), (4, vSl a2 (gt l k) c)] [1, 2, 3, 4, 5] [] ?_
  refine .ST [5] 5 (.w [] rfl (ldA (cs := (tF t at_ ct at_2 ct2 at_3 ct3)) rfl tA25 rfl (cellsB (off := 0) (k := 0) rfl (m := 4) rfl)) (.w [] rfl (lB 0 3 tO68) (.w [] rfl mv0 (.w [(25, vSl al2 l cl2), (26, iV k)] rfl (ixS rfl rfl tS68 (k := 6) rfl q19) (.w [(27, vP (ead al2 (k.toNat * 1)))] rfl (ld1 (v := vSl a2 (gt l k) c) rfl tO22 (cellS (k := 6) rfl (q32 0 _ rfl))) (.nil)))))) (.cons [(24, .agg (tF t at_ ct at_2 ct2 at_3 ct3).toArray), (28, vSl a2 (gt l k) c)] rfl rfl (fun sL hL => ?_) (.nil))
  refine .inl Tryz.func52 rfl Tryz.ntmps52 Tryz.call52 rfl rfl rfl rfl (fun a3 q33 => ?_)
  refine .seq (.region ?_)
  refine bx (vs := (tF t at_ ct at_2 ct2 at_3 ct3)) rfl rfl rfl (fun pt2 => ?_)
  refine bx (vs := [vSl a2 (gt l k) c]) rfl rfl rfl (fun ps => ?_)
  refine .V ag0 ?_
  refine .nil (.seqN (.seq (.region (.V (mkf (vf := []) (vc := [vP pt2, vP ps]) rfl rfl) ?_))))
  refine .V ag0 ?_
  refine .nil (.seqN (.ret ?_))
  refine .res1 rfl (rvT rfl) (inl_back (v := .func (.func 81) #[] #[.pointer (some pt2), .pointer (some ps)]) q33 rfl ?_)
  refine .nil ?_
  refine .ja (M := [0, 4, 3, 1, 2]) (C' := []) (pre := [(5, .func (.func 81) #[] #[vP pt2, vP ps])]) [(1, vP pt), (2, vP pv), (3, vP pseen), (4, vP pline), (5, iV k)] [1, 2, 3, 4, 5] hL rfl rfl rfl rfl rfl sb rfl rfl (by kernel_rfl) ?_
  refine .LA [(24, .agg (tF t at_ ct at_2 ct2 at_3 ct3).toArray), (25, vSl al2 l cl2), (26, iV k), (27, vP (ead al2 (k.toNat * 1))), (28, vSl a2 (gt l k) c), (29, .func (.func 81) #[] #[vP pt2, vP ps])] (.nil) ?_
  refine .seqN (.block ?_)
  refine .sub (s' := [(1, vP pt), (2, vP pv), (3, vP pseen), (4, vP pline), (5, iV k), (29, .func (.func 81) #[] #[vP pt2, vP ps])]) sb ?_
  refine .rangeF (k := 6) (caps := [vP pt2, vP ps]) rfl rfl Tryz.func81 rfl Tryz.ntmps81 rfl Tryz.call81 (fun l3 D LA a4 q3 q22 => ?_)
  refine .KA [LA .ready none, Box ps [vSl a2 (gt l k) c], Box pt2 (tF t at_ ct at_2 ct2 at_3 ct3), Box pt (tF t at_ ct at_2 ct2 at_3 ct3), Box pv [iV 0], Box pseen [.map (some bv)], Box pline [vSl al2 l cl2], MkA (D :: dl), OwnMapI bv .i64 (fun zE : Int => iV zE) m2, OwnSl 22 1 al2 l.length cl2 csl] ?_
  refine .seq (.region (.V (fa rfl tF25_3) ?_))
  refine .V (lB 3 2 tO23) ?_
  refine .V (ln rfl tS23.is) ?_
  refine .V mv0 ?_
  refine .nil (.seqN (.block ?_))
  refine .sel0 [0, 2, 1, 3, 4, 5, 6, 7, 8, 9] (by decide) rfl ?_
  obtain ⟨I2, μ2, q9, q34⟩ := hF
  refine .loop' (σ := Int × List (Int × Int) × List (List Int) × Option Addr × Nat × List Value × FH) (fun z => I2 z.1 z.2.1 z.2.2.1 ∧ RepL z.2.2.2.2.2.2 z.2.2.1 z.2.2.2.2.2.1 ∧ FH.le h163 z.2.2.2.2.2.2) (fun z => μ2 z.1 z.2.1 z.2.2.1) (fun z => [(0, .func (.yield l3) #[] #[]), (1, vP pt2), (2, vP ps), (7, iV ((t.ops.length : Nat) : Int)), (8, iV z.1)]) (fun z => [LA .ready none, Box pt2 (tF t at_ ct at_2 ct2 at_3 ct3), Box ps [vSl a2 (gt l k) c], Box pt (tF t at_ ct at_2 ct2 at_3 ct3), Box pv [iV 0], Box pseen [.map (some bv)], Box pline [vSl z.2.2.2.1 z.2.2.1 z.2.2.2.2.1], MkA (D :: dl), OwnMapI bv .i64 (fun zE : Int => iV zE) z.2.1, OwnSl 22 1 z.2.2.2.1 z.2.2.1.length z.2.2.2.2.1 z.2.2.2.2.2.1]) (fun z => z.2.2.2.2.2.2) (0, m2, l, al2, cl2, csl, h163) ⟨q9, q18, (FH.le_refl _)⟩ sb rfl (FH.le_refl _) ?_
  rintro ⟨v, m4, l4, al4, cl4, csl3, h235⟩ ⟨q9, q6, q1⟩
  have hF := q34 v m4 l4 q9
  show J _ _ _ _ _ [(0, .func (.yield l3) #[] #[]), (1, vP pt2), (2, vP ps), (7, iV ((t.ops.length : Nat) : Int)), (8, iV v)] [LA .ready none, Box pt2 (tF t at_ ct at_2 ct2 at_3 ct3), Box ps [vSl a2 (gt l k) c], Box pt (tF t at_ ct at_2 ct2 at_3 ct3), Box pv [iV 0], Box pseen [.map (some bv)], Box pline [vSl al4 l4 cl4], MkA (D :: dl), OwnMapI bv .i64 (fun zE : Int => iV zE) m4, OwnSl 22 1 al4 l4.length cl4 csl3] h235
  refine .seq (.region (.V bi0 ?_))
  refine .nil (.seqN (.seq ?_))
  refine .cond rfl (fun q10 => ?_) (fun q10 => ?_)
  ·replace hF := hF.1 q10
   refine .skip (.seqN ?_)
   refine .share (σ := List (Int × Int) × List (List Int) × Option Addr × Nat × List Value × FH) (fun z => F_reachable_J1 v m4 I2 μ2 l4 z.1 z.2.1 ∧ RepL z.2.2.2.2.2 z.2.1 z.2.2.2.2.1 ∧ FH.le h235 z.2.2.2.2.2) (fun _ => [(0, .func (.yield l3) #[] #[]), (1, vP pt2), (2, vP ps), (7, iV ((t.ops.length : Nat) : Int)), (8, iV v)]) (fun z => [LA .ready none, Box pt2 (tF t at_ ct at_2 ct2 at_3 ct3), Box ps [vSl a2 (gt l k) c], Box pt (tF t at_ ct at_2 ct2 at_3 ct3), Box pv [iV 0], Box pseen [.map (some bv)], Box pline [vSl z.2.2.1 z.2.1 z.2.2.2.1], MkA (D :: dl), OwnMapI bv .i64 (fun zE : Int => iV zE) z.1, OwnSl 22 1 z.2.2.1 z.2.1.length z.2.2.2.1 z.2.2.2.2.1]) (fun z => z.2.2.2.2.2) ?_ (fun q11 => ?_)
   ·rintro ⟨m6, l6, al6, cl6, csl5, h241⟩ ⟨hF, q35, q36⟩
    show J _ _ _ _ _ [(0, .func (.yield l3) #[] #[]), (1, vP pt2), (2, vP ps), (7, iV ((t.ops.length : Nat) : Int)), (8, iV v)] [LA .ready none, Box pt2 (tF t at_ ct at_2 ct2 at_3 ct3), Box ps [vSl a2 (gt l k) c], Box pt (tF t at_ ct at_2 ct2 at_3 ct3), Box pv [iV 0], Box pseen [.map (some bv)], Box pline [vSl al6 l6 cl6], MkA (D :: dl), OwnMapI bv .i64 (fun zE : Int => iV zE) m6, OwnSl 22 1 al6 l6.length cl6 csl5] h241
    refine .region (.V bi0 ?_)
    refine .V mv0 ?_
    refine .nil ?_
    exact .RO (wr (v + 1), m6, l6, al6, cl6, csl5, h241) ⟨hF.1, q35, (FH.le_trans (q1) (q36))⟩ hF.2
   refine .block (.seq (.region (.V mv0 ?_)))
   refine .V ag0 ?_
   refine .nil (.seqN (.seq (.region (.V (ldA (cs := (tF t at_ ct at_2 ct2 at_3 ct3)) rfl tA25 rfl (cellsB (off := 0) (k := 1) rfl (m := 4) rfl)) ?_))))
   refine .V (lB 0 2 tO22) ?_
   refine .V mv0 ?_
   obtain ⟨q37, hF⟩ := hF
   obtain ⟨r3, q23⟩ : ∃ y_ : Bool, y_ = sp_applies t (gt l k) v := ⟨_, rfl⟩
   replace hF := hF r3 q23
   refine .C (cl (v := .bool r3) Tryz.call82 rfl rfl (fun w S => (by rw [q23]; exact c_can S.sub t at_ ct (_q1.mono (FH.le_trans (q2) (q1))) _q2 at_2 ct2 (_q3.mono (FH.le_trans (q2) (q1))) _q4 at_3 ct3 (_q5.mono (FH.le_trans (q2) (q1))) _q6 (gt l k) a2 c (q21.mono (q1)) q20 v q37))) ?_
   refine .V mv0 ?_
   rcases Bool.eq_false_or_eq_true (r3) with q0 | q0
   ·replace hF := hF.1 q0
    refine .GV mv0 q0 ?_
    refine .GV mv0 q0 ?_
    refine .GV (ldA (cs := (tF t at_ ct at_2 ct2 at_3 ct3)) rfl tA25 rfl (cellsB (off := 0) (k := 1) rfl (m := 4) rfl)) q0 ?_
    refine .GV (lB 0 2 tO22) q0 ?_
    refine .GV mv0 q0 ?_
    obtain ⟨q38, hF⟩ := hF
    obtain ⟨r4, q24⟩ : ∃ y_ : List Int, y_ = sp_after t (gt l k) v := ⟨_, rfl⟩
    replace hF := hF r4 q24
    refine .gR rfl rfl rfl q0 ?_
    refine clR (α := Option Addr × Nat) (Φ := fun h1 z => RSl h1 z.1 r4 ∧ r4.length ≤ z.2) (V := fun z => vSl z.1 r4 z.2) Tryz.call58 rfl rfl (fun w S => (by rw [q24]; exact c_next S.sub t at_ ct (_q1.mono (FH.le_trans (q2) (q1))) _q2 at_2 ct2 (_q3.mono (FH.le_trans (q2) (q1))) _q4 at_3 ct3 (_q5.mono (FH.le_trans (q2) (q1))) _q6 (gt l k) a2 c (q21.mono (q1)) q20 v q38)) rfl (fun z h242 le242 hz => ?_)
    obtain ⟨a5, c2⟩ := z
    obtain ⟨q4, q5⟩ := hz
    refine .gR rfl rfl rfl q0 ?_
    refine .yld (k := 0) (vs := [iV v, vSl a5 r4 c2]) q3 rfl rfl rfl rfl rfl (fun aG q12 => ?_)
    refine .sub (s' := [(2, vP pv), (3, vP pseen), (4, vP pline), (31, vSl a5 r4 c2)]) sb ?_
    refine .region (.V ag0 ?_)
    refine .nil ?_
    refine .begin_ (k := 0) q3 rfl ?_
    refine .block (.seq ?_)
    obtain ⟨q25, hF⟩ := hF
    obtain ⟨r5, q26⟩ : ∃ y_ : Int, y_ = sp_wordC r4 := ⟨_, rfl⟩
    replace hF := hF r5 q26
    refine .OA (s0 := [(2, vP pv), (3, vP pseen), (4, vP pline), (7, vSl a5 r4 c2)]) [0, 1, 2, 3, 4, 5, 6, 7, 8] [(0, .map (some bv)), (1, vSl a5 r4 c2), (2, iV r5), (3, .tuple #[iV ((getA m4 r5).getD 0), .bool ((getA m4 r5).isSome)]), (4, .tuple #[iV ((getA m4 r5).getD 0), .bool ((getA m4 r5).isSome)]), (5, iV ((getA m4 r5).getD 0)), (6, .bool ((getA m4 r5).isSome)), (7, iV ((getA m4 r5).getD 0)), (8, .bool ((getA m4 r5).isSome))] [2, 3, 4, 7] [] ?_
    refine .LA [(33, .map (some bv)), (34, vSl a5 r4 c2), (35, iV r5), (36, .tuple #[iV ((getA m4 r5).getD 0), .bool ((getA m4 r5).isSome)]), (32, .tuple #[iV ((getA m4 r5).getD 0), .bool ((getA m4 r5).isSome)]), (37, iV ((getA m4 r5).getD 0)), (38, .bool ((getA m4 r5).isSome)), (8, iV ((getA m4 r5).getD 0)), (9, .bool ((getA m4 r5).isSome))] (.w [] rfl (lB 0 5 tO107) (.w [] rfl mv0 (.c [(34, vSl a5 r4 c2)] rfl rfl rfl rfl rfl rfl (fun _ => cl (v := iV r5) Tryz.call51 rfl rfl (fun w S => (by rw [q26]; exact c_wordC S.sub r4 a5 c2 q4 q5 q25))) (.w [(33, .map (some bv)), (35, iV r5)] rfl (lkI2 (enc := (fun zE : Int => iV zE)) 0 tMI107 rfl rfl (q := 8) rfl) (.w [(36, .tuple #[iV ((getA m4 r5).getD 0), .bool ((getA m4 r5).isSome)])] rfl mv0 (.w [(32, .tuple #[iV ((getA m4 r5).getD 0), .bool ((getA m4 r5).isSome)])] rfl (ext rfl rfl) (.w [(32, .tuple #[iV ((getA m4 r5).getD 0), .bool ((getA m4 r5).isSome)])] rfl (ext rfl rfl) (.w [(37, iV ((getA m4 r5).getD 0)), (35, iV r5), (33, .map (some bv)), (34, vSl a5 r4 c2), (35, iV r5), (36, .tuple #[iV ((getA m4 r5).getD 0), .bool ((getA m4 r5).isSome)]), (32, .tuple #[iV ((getA m4 r5).getD 0), .bool ((getA m4 r5).isSome)]), (37, iV ((getA m4 r5).getD 0))] rfl ag0 (.w [(38, .bool ((getA m4 r5).isSome)), (8, iV ((getA m4 r5).getD 0)), (33, .map (some bv)), (34, vSl a5 r4 c2), (35, iV r5), (36, .tuple #[iV ((getA m4 r5).getD 0), .bool ((getA m4 r5).isSome)]), (32, .tuple #[iV ((getA m4 r5).getD 0), .bool ((getA m4 r5).isSome)]), (37, iV ((getA m4 r5).getD 0)), (38, .bool ((getA m4 r5).isSome)), (8, iV ((getA m4 r5).getD 0))] rfl ag0 (.nil)))))))))) ?_
    refine .seqN (.seq (.region (.V mv0 ?_)))
    refine .V (nt rfl) ?_
    refine .nil (.seqN ?_)
    refine .cond rfl (fun q13 => ?_) (fun q13 => ?_)
    ·replace hF := hF.1 q13
     refine .seq (.seq (.region (.V (lB 0 6 tO68) ?_)))
     refine .V (ln rfl tS68.is) ?_
     refine .V bi0 ?_
     refine .nil (.seqN ?_)
     refine .cond rfl (fun q14 => ?_) (fun q14 => ?_)
     ·replace hF := hF.1 q14
      refine .seq (.region ?_)
      refine st (p := pv) (off := 0) (k := 4) (vs := [iV (-1)]) rfl rfl rfl (fun w => (tO3 w).2) rfl rfl rfl rfl ?_
      refine .nil (.seqN (.ret (.seqR (.blkR ?_))))
      refine .rdR (k := 0) q3 rfl q12 rfl ?_
      refine .GV (nt rfl) q0 ?_
      refine .V (pkT rfl q0 rfl) ?_
      refine .nil (.seqN ?_)
      refine .cond rfl (fun _ => ?_) (fun e => absurd (e.symm.trans rfl) (by decide))
      refine .ret (.blkR (.seqR (.seqR (.blkR ?_))))
      refine .res0 (.inl rfl) rfl (range_jump (k := 0) q3 rfl q22 ?_)
      refine .KA [tru, Box pt2 (tF t at_ ct at_2 ct2 at_3 ct3), Box ps [vSl a2 (gt l k) c], Box pt (tF t at_ ct at_2 ct2 at_3 ct3), Box pv [iV (-1)], Box pseen [.map (some bv)], Box pline [vSl al4 l4 cl4], MkA (D :: dl), OwnMapI bv .i64 (fun zE : Int => iV zE) m4, OwnSl 22 1 al4 l4.length cl4 csl3] ?_
      refine .ret (.blkR (.blkR (.seqR (.seqR (.blkR (.seqR ?_))))))
      refine .resM (k := 7) rfl ?_
      refine .res1 rfl (rvC1 rfl tO3 (k := 4) rfl) (fun w' S => ⟨(-1), hF, rfl, S.below⟩)
     replace hF := hF.2 q14
     refine .skip (.seqN (.seq ?_))
     obtain ⟨r6, q27⟩ : ∃ y_ : Int, y_ = sp_wordC r4 := ⟨_, rfl⟩
     replace hF := hF r6 q27
     refine .OA (s0 := [(3, vP pseen), (4, vP pline), (7, vSl a5 r4 c2)]) [0, 1, 2, 3, 4] [(0, .map (some bv)), (1, vSl a5 r4 c2), (2, iV r6), (3, vSl al4 l4 cl4), (4, iV ((l4.length : Nat) : Int))] [3, 4, 7] [] ?_
     refine .ST [5] 5 (.w [] rfl (lB 0 5 tO107) (.w [] rfl mv0 (.c [(45, vSl a5 r4 c2)] rfl rfl rfl rfl rfl rfl (fun _ => cl (v := iV r6) Tryz.call51 rfl rfl (fun w S => (by rw [q27]; exact c_wordC S.sub r4 a5 c2 q4 q5 q25))) (.w [] rfl (lB 0 6 tO68) (.w [(47, vSl al4 l4 cl4)] rfl (ln rfl tS68.is) (.nil)))))) (.cons [(44, .map (some bv)), (46, iV r6), (48, iV ((l4.length : Nat) : Int)), (46, iV r6), (44, .map (some bv)), (45, vSl a5 r4 c2), (46, iV r6), (47, vSl al4 l4 cl4), (48, iV ((l4.length : Nat) : Int))] rfl rfl (fun sL hL => ?_) (.nil))
     refine muI (enc := (fun zE : Int => iV zE)) ((l4.length : Nat) : Int) tMI107 rfl rfl rfl (q := 8) rfl ?_
     obtain ⟨m7, q28⟩ : ∃ y_ : List (Int × Int), y_ = (setA m4 r6 ((l4.length : Nat) : Int)) := ⟨_, rfl⟩
     replace hF := hF m7 q28
     refine .cast (A' := [LA .busy none, Box pt2 (tF t at_ ct at_2 ct2 at_3 ct3), Box ps [vSl a2 (gt l k) c], Box pt (tF t at_ ct at_2 ct2 at_3 ct3), Box pv [iV 0], Box pseen [.map (some bv)], Box pline [vSl al4 l4 cl4], MkA (D :: dl), OwnMapI bv .i64 (fun zE : Int => iV zE) m7, OwnSl 22 1 al4 l4.length cl4 csl3]) (by rw [q28]; rfl) ?_
     refine .nil ?_
     refine .jaN (M := [0, 2, 4, 1, 3]) (C' := []) (pre := []) [3, 4, 7] hL rfl rfl rfl rfl rfl (by kernel_rfl) ?_
     refine .LA [(44, .map (some bv)), (45, vSl a5 r4 c2), (46, iV r6), (47, vSl al4 l4 cl4), (48, iV ((l4.length : Nat) : Int))] (.nil) ?_
     refine .seqN (.region (.V (lB 0 6 tO68) ?_))
     refine .V mv0 ?_
     refine bs2 (cs := #[vSl a5 r4 c2]) (pv := [(0, vSl a5 r4 c2)]) tS68 rfl rfl (by decide) (by decide) rfl rfl rfl (fun a6 _ => ?_)
     obtain ⟨q29, hF⟩ := hF
     have q15 : l4.length + ([r4] : List (List Int)).length = ((l4 ++ ([r4] : List (List Int)))).length := len_app rfl rfl
     have q39 := RepL.append (RepL.mono (le242) q6) (show RepL h242 ([r4] : List (List Int)) [.slice a5 r4.length c2] from ⟨[.slice a5 r4.length c2], _, rfl, ⟨a5, c2, rfl, q5, q4⟩, rfl⟩)
     refine app (k := 10) (news := [vSl a5 r4 c2]) (cs' := (csl3 ++ [vSl a5 r4 c2])) (nm := ((l4 ++ ([r4] : List (List Int)))).length) tS68 rfl (by decide) rfl rfl rfl (RepL.len (show RepL h242 ([r4] : List (List Int)) [vSl a5 r4 c2] from ⟨[vSl a5 r4 c2], _, rfl, ⟨a5, c2, rfl, q5, q4⟩, rfl⟩)) (srcS (k := 0) rfl) (RepL.one (show RepL h242 ([r4] : List (List Int)) [vSl a5 r4 c2] from ⟨[vSl a5 r4 c2], _, rfl, ⟨a5, c2, rfl, q5, q4⟩, rfl⟩)) (room_of q15 q29).1 (room_of q15 q29).2 q15 rfl rfl (fun a7 c3 => ?_)
     refine st (p := pline) (off := 0) (k := 7) (vs := [vSl a7 (l4 ++ ([r4] : List (List Int))) c3]) rfl rfl rfl (fun w => (tO68 w).2) rfl rfl rfl rfl ?_
     refine .nil (.blkN ?_)
     refine .rdN (k := 1) q3 rfl q12 rfl ?_
     refine .GV (nt rfl) q0 ?_
     refine .V (pkT rfl q0 rfl) ?_
     refine .nil (.seqN ?_)
     refine .cond rfl (fun e => absurd (e.symm.trans rfl) (by decide)) (fun _ => ?_)
     refine .skip (.blkN ?_)
     refine .sel0 [1, 2, 3, 4, 5, 6, 7, 8, 9, 10] (by decide) rfl ?_
     exact .US q11 (m7, (l4 ++ ([r4] : List (List Int))), a7, c3, (csl3 ++ [vSl a5 r4 c2]), h242) ⟨hF, q39, (le242)⟩
    replace hF := hF.2 q13
    refine .skip (.blkN ?_)
    refine .rdN (k := 0) q3 rfl q12 rfl ?_
    refine .GV (nt rfl) q0 ?_
    refine .V (pkT rfl q0 rfl) ?_
    refine .nil (.seqN ?_)
    refine .cond rfl (fun e => absurd (e.symm.trans rfl) (by decide)) (fun _ => ?_)
    refine .skip (.blkN ?_)
    exact .US q11 (m4, l4, al4, cl4, csl3, h242) ⟨hF, (RepL.mono (le242) q6), (le242)⟩
   replace hF := hF.2 q0
   refine .GS q0 ?_
   refine .GS q0 ?_
   refine .GS q0 ?_
   refine .GS q0 ?_
   refine .GS q0 ?_
   refine .GS q0 ?_
   refine .GS q0 ?_
   refine .GS q0 ?_
   refine .V (pkF rfl q0 rfl) ?_
   refine .nil (.seqN ?_)
   refine .cond rfl (fun e => absurd (e.symm.trans rfl) (by decide)) (fun _ => ?_)
   refine .skip (.blkN ?_)
   exact .US q11 (m4, l4, al4, cl4, csl3, h235) ⟨hF, q6, (FH.le_refl _)⟩
  replace hF := hF.2 q10
  refine .exit (.seqX (.seqX (.blkX ?_)))
  refine .res0 (.inr rfl) rfl (range_done (k := 0) q3 rfl q22 ?_)
  refine .KA [tru, Box pt2 (tF t at_ ct at_2 ct2 at_3 ct3), Box ps [vSl a2 (gt l k) c], Box pt (tF t at_ ct at_2 ct2 at_3 ct3), Box pv [iV 0], Box pseen [.map (some bv)], Box pline [vSl al4 l4 cl4], MkA (D :: dl), OwnMapI bv .i64 (fun zE : Int => iV zE) m4, OwnSl 22 1 al4 l4.length cl4 csl3] ?_
  refine .blkN (.blkN (.seqN (.region (.V mv0 ?_))))
  refine .V bi0 ?_
  refine .V ag0 ?_
  refine .nil ?_
  refine .sel0 [3, 4, 5, 6, 7, 8, 9] (by decide) rfl ?_
  exact .roundN (wr (k + 1), m4, l4, D :: dl, al4, cl4, csl3, h235) ⟨hF.1, q6, (FH.le_trans (q2) (q1))⟩ hF.2 rfl sb rfl (FH.le_refl _)
 replace hF := hF.2 q8
 refine .exit (.seqX (.seqX (.blkX (.seqN (.seq (.region (.V (lB 0 3 tO68) ?_)))))))
 refine .V (ln rfl tS68.is) ?_
 refine st (p := pv) (off := 0) (k := 1) (vs := [iV ((l.length : Nat) : Int)]) rfl rfl rfl (fun w => (tO3 w).2) rfl rfl rfl rfl ?_
 refine .nil (.seqN (.ret ?_))
 refine .resM (k := 4) rfl ?_
 refine .res1 rfl (rvC1 rfl tO3 (k := 1) rfl) (fun w' S => ⟨((l.length : Nat) : Int), hF, rfl, S.below⟩)
theorem c_reachable {h : FH} {w : World} (hs : Sub h w) (t : Task) (at_ : Option Addr) (ct : Nat) (_q1 : RSl h at_ t.init) (_q2 : t.init.length ≤ ct) (at_2 : Option Addr) (ct2 : Nat) (_q3 : RSl h at_2 t.goal) (_q4 : t.goal.length ≤ ct2) (at_3 : Option Addr) (ct3 : Nat) (_q5 : RSl h at_3 t.ops) (_q6 : t.ops.length ≤ ct3) (hp : pre_reachable t) : Calls Tryz.prog 23 #[.agg #[iV t.facts, .slice at_ t.init.length ct, .slice at_2 t.goal.length ct2, .slice at_3 t.ops.length ct3]] w fun e w' => e = .returned (iV (sp_reachable t)) ∧ Below w.heap.size w w' :=
 (w_reachable hs t at_ ct _q1 _q2 at_2 ct2 _q3 _q4 at_3 ct3 _q5 _q6 (fun r => r = sp_reachable t) (ok_reachable t hp)).mono fun _ _ ⟨_, hk, he, hb⟩ => ⟨by rw [he, hk], hb⟩
theorem w_at_ {h : FH} {w : World} (hs : Sub h w) (code : Int) (index : Int) (K : Fault → Prop) (hF : F_at_ code index K) : Calls Tryz.prog 9 #[iV code, iV index] w fun e w' => ∃ r : Fault, K r ∧ e = .returned (.agg #[iV r.code, iV r.index]) ∧ Below w.heap.size w w' := by
 refine enter (args := [iV code, iV index]) Tryz.func9 rfl Tryz.ntmps9 rfl hs ?_
 refine .seq (.region ?_)
 refine al tZ27 rfl (fun pv => ?_)
 refine .nil (.seqN (.seq (.region (.V mv0 ?_))))
 refine .V mv0 ?_
 refine .V (bld (cs := #[iV code, iV index]) (pv := [(0, iV code), (1, iV index)]) tB27 rfl rfl) ?_
 refine st (p := pv) (off := 0) (k := 0) (vs := [iV code, iV index]) rfl rfl rfl (fun w => (tA27 w).2) rfl rfl rfl rfl ?_
 refine .KA [Box pv [iV code, iV index]] ?_
 refine .nil (.seqN (.ret ?_))
 refine .res1 rfl (rvC rfl tA27 (k := 0) rfl rfl) (fun w' S => ⟨(⟨code, index⟩ : Fault), hF, rfl, S.below⟩)
theorem c_at_ {h : FH} {w : World} (hs : Sub h w) (code : Int) (index : Int) : Calls Tryz.prog 9 #[iV code, iV index] w fun e w' => e = .returned (.agg #[iV (sp_at_ code index).code, iV (sp_at_ code index).index]) ∧ Below w.heap.size w w' :=
 (w_at_ hs code index (fun r => r = sp_at_ code index) (ok_at_ code index)).mono fun _ _ ⟨_, hk, he, hb⟩ => ⟨by rw [he, hk], hb⟩
set_option maxHeartbeats 8000000 in
theorem w_lawProd {h : FH} {w : World} (hs : Sub h w) (a : Task) (aa : Option Addr) (ca : Nat) (_q1 : RSl h aa a.init) (_q2 : a.init.length ≤ ca) (aa2 : Option Addr) (ca2 : Nat) (_q3 : RSl h aa2 a.goal) (_q4 : a.goal.length ≤ ca2) (aa3 : Option Addr) (ca3 : Nat) (_q5 : RSl h aa3 a.ops) (_q6 : a.ops.length ≤ ca3) (b : Task) (ab : Option Addr) (cb : Nat) (_q7 : RSl h ab b.init) (_q8 : b.init.length ≤ cb) (ab2 : Option Addr) (cb2 : Nat) (_q9 : RSl h ab2 b.goal) (_q10 : b.goal.length ≤ cb2) (ab3 : Option Addr) (cb3 : Nat) (_q11 : RSl h ab3 b.ops) (_q12 : b.ops.length ≤ cb3) (K : Bool → Prop) (hF : F_lawProd a b K) : Calls Tryz.prog 3 #[.agg #[iV a.facts, .slice aa a.init.length ca, .slice aa2 a.goal.length ca2, .slice aa3 a.ops.length ca3], .agg #[iV b.facts, .slice ab b.init.length cb, .slice ab2 b.goal.length cb2, .slice ab3 b.ops.length cb3]] w fun e w' => ∃ r : Bool, K r ∧ e = .returned (.bool r) ∧ Below w.heap.size w w' := by
 refine enter (args := [.agg (tF a aa ca aa2 ca2 aa3 ca3).toArray, .agg (tF b ab cb ab2 cb2 ab3 cb3).toArray]) Tryz.func3 rfl Tryz.ntmps3 rfl hs ?_
 refine .seq (.region ?_)
 refine bx (vs := (tF a aa ca aa2 ca2 aa3 ca3)) rfl rfl rfl (fun pa => ?_)
 refine bx (vs := (tF b ab cb ab2 cb2 ab3 cb3)) rfl rfl rfl (fun pb => ?_)
 refine .V ag0 ?_
 refine .nil (.seqN (.seq (.region (.V (ldA (cs := (tF a aa ca aa2 ca2 aa3 ca3)) rfl tA25 rfl (cellsB (off := 0) (k := 1) rfl (m := 4) rfl)) ?_))))
 refine .V (ldA (cs := (tF b ab cb ab2 cb2 ab3 cb3)) rfl tA25 rfl (cellsB (off := 0) (k := 0) rfl (m := 4) rfl)) ?_
 obtain ⟨r2, q104⟩ : ∃ y_ : Task × Fault, y_ = sp_product a b := ⟨_, rfl⟩
 replace hF := hF r2 q104
 refine clR (α := Option Addr × Nat × Option Addr × Nat × Option Addr × Nat) (Φ := fun h1 z => RSl h1 z.1 r2.1.init ∧ r2.1.init.length ≤ z.2.1 ∧ RSl h1 z.2.2.1 r2.1.goal ∧ r2.1.goal.length ≤ z.2.2.2.1 ∧ RSl h1 z.2.2.2.2.1 r2.1.ops ∧ r2.1.ops.length ≤ z.2.2.2.2.2) (V := fun z => .tuple #[.agg (tF r2.1 z.1 z.2.1 z.2.2.1 z.2.2.2.1 z.2.2.2.2.1 z.2.2.2.2.2).toArray, .agg #[iV r2.2.code, iV r2.2.index]]) Tryz.call5 rfl rfl (fun w S => (by rw [q104]; exact c_product S.sub a aa ca _q1 _q2 aa2 ca2 _q3 _q4 aa3 ca3 _q5 _q6 b ab cb _q7 _q8 ab2 cb2 _q9 _q10 ab3 cb3 _q11 _q12 )) rfl (fun z h1 le1 hz => ?_)
 obtain ⟨a2, c, a3, c2, a4, c3⟩ := z
 obtain ⟨q42, q43, q44, q45, q38, q49⟩ := hz
 refine .V mv0 ?_
 refine .V (ext rfl rfl) ?_
 refine .V (ext rfl rfl) ?_
 refine al tZ25 rfl (fun pt => ?_)
 refine al tZ27 rfl (fun pf => ?_)
 refine st (p := pt) (off := 0) (k := 1) (vs := (tF r2.1 a2 c a3 c2 a4 c3)) rfl rfl rfl (fun w => (tA25 w).2) rfl rfl rfl rfl ?_
 refine st (p := pf) (off := 0) (k := 0) (vs := [iV r2.2.code, iV r2.2.index]) rfl rfl rfl (fun w => (tA27 w).2) rfl rfl rfl rfl ?_
 refine .nil (.seqN (.seq ?_))
 refine .share (σ := Bool) (fun z => F_lawProd_J1 a b K r2 z) (fun z => [(2, vP pa), (3, vP pb), (5, vP pt), (25, .bool z)]) (fun _ => [Box pa (tF a aa ca aa2 ca2 aa3 ca3), Box pb (tF b ab cb ab2 cb2 ab3 cb3), Box pt (tF r2.1 a2 c a3 c2 a4 c3)]) (fun _ => h1) ?_ (fun q105 => ?_)
 ·rintro t25 hF
  show J _ _ _ _ _ [(2, vP pa), (3, vP pb), (5, vP pt), (25, .bool t25)] [Box pa (tF a aa ca aa2 ca2 aa3 ca3), Box pb (tF b ab cb ab2 cb2 ab3 cb3), Box pt (tF r2.1 a2 c a3 c2 a4 c3)] h1
  refine .cond rfl (fun q58 => ?_) (fun q58 => ?_)
  ·replace hF := hF.1 q58
   refine .seq (.region ?_)
   obtain ⟨r3, q106⟩ : ∃ y_ : Bool, y_ = sp_kernWorks := ⟨_, rfl⟩
   replace hF := hF r3 q106
   refine .C (cl (v := .bool r3) Tryz.call6 rfl rfl (fun w S => (by rw [q106]; exact c_kernWorks S.sub  ))) ?_
   refine .V mv0 ?_
   rcases Bool.eq_false_or_eq_true (r3) with q9 | q9
   ·replace hF := hF.1 q9
    refine .GV (fa rfl tF25_0) q9 ?_
    refine .GV (lB 0 2 tO3) q9 ?_
    refine .GV bi0 q9 ?_
    refine .V (pkT rfl q9 rfl) ?_
    refine .V ag0 ?_
    refine .nil (.seqN (.ret (.seqR ?_)))
    refine .res1 rfl (rvT rfl) (fun w' S => ⟨r2.1.facts == 0, hF, rfl, S.below⟩)
   replace hF := hF.2 q9
   refine .GS q9 ?_
   refine .GS q9 ?_
   refine .GS q9 ?_
   refine .V (pkF rfl q9 rfl) ?_
   refine .V ag0 ?_
   refine .nil (.seqN (.ret (.seqR ?_)))
   refine .res1 rfl (rvT rfl) (fun w' S => ⟨false, hF, rfl, S.below⟩)
  replace hF := hF.2 q58
  refine .skip (.seqN (.seq (.region (.V (ldA (cs := (tF a aa ca aa2 ca2 aa3 ca3)) rfl tA25 rfl (cellsB (off := 0) (k := 0) rfl (m := 4) rfl)) ?_))))
  obtain ⟨r4, q107⟩ : ∃ y_ : Int × Fault, y_ = sp_optimal a := ⟨_, rfl⟩
  replace hF := hF r4 q107
  refine .C (cl (v := .tuple #[iV r4.1, .agg #[iV r4.2.code, iV r4.2.index]]) Tryz.call7 rfl rfl (fun w S => (by rw [q107]; exact c_optimal S.sub a aa ca (_q1.mono (le1)) _q2 aa2 ca2 (_q3.mono (le1)) _q4 aa3 ca3 (_q5.mono (le1)) _q6 ))) ?_
  refine .V mv0 ?_
  refine .V (ext rfl rfl) ?_
  refine .V (ext rfl rfl) ?_
  refine al tZ27 rfl (fun pg => ?_)
  refine .V ag0 ?_
  refine st (p := pg) (off := 0) (k := 0) (vs := [iV r4.2.code, iV r4.2.index]) rfl rfl rfl (fun w => (tA27 w).2) rfl rfl rfl rfl ?_
  refine .nil (.seqN (.seq (.region (.V (ldA (cs := (tF b ab cb ab2 cb2 ab3 cb3)) rfl tA25 rfl (cellsB (off := 0) (k := 2) rfl (m := 4) rfl)) ?_))))
  obtain ⟨r5, q108⟩ : ∃ y_ : Int × Fault, y_ = sp_optimal b := ⟨_, rfl⟩
  replace hF := hF r5 q108
  refine .C (cl (v := .tuple #[iV r5.1, .agg #[iV r5.2.code, iV r5.2.index]]) Tryz.call7 rfl rfl (fun w S => (by rw [q108]; exact c_optimal S.sub b ab cb (_q7.mono (le1)) _q8 ab2 cb2 (_q9.mono (le1)) _q10 ab3 cb3 (_q11.mono (le1)) _q12 ))) ?_
  refine .V mv0 ?_
  refine .V (ext rfl rfl) ?_
  refine .V (ext rfl rfl) ?_
  refine al tZ27 rfl (fun ph => ?_)
  refine .V ag0 ?_
  refine st (p := ph) (off := 0) (k := 0) (vs := [iV r5.2.code, iV r5.2.index]) rfl rfl rfl (fun w => (tA27 w).2) rfl rfl rfl rfl ?_
  refine .nil (.seqN (.seq (.region (.V (ldA (cs := (tF r2.1 a2 c a3 c2 a4 c3)) rfl tA25 rfl (cellsB (off := 0) (k := 4) rfl (m := 4) rfl)) ?_))))
  refine .inl Tryz.func8 rfl Tryz.ntmps8 Tryz.call8 rfl rfl rfl rfl (fun a5 q50 => ?_)
  refine .seq (.region ?_)
  refine bx (vs := (tF r2.1 a2 c a3 c2 a4 c3)) rfl rfl rfl (fun pt2 => ?_)
  refine al tZ34 rfl (fun pv => ?_)
  refine al tZ27 rfl (fun pv2 => ?_)
  refine .nil (.seqN (.seq (.seq (.region (.V (ldA (cs := (tF r2.1 a2 c a3 c2 a4 c3)) rfl tA25 rfl (cellsB (off := 0) (k := 2) rfl (m := 4) rfl)) ?_)))))
  obtain ⟨r6, q109⟩ : ∃ y_ : Fault, y_ = sp_validate r2.1 := ⟨_, rfl⟩
  replace hF := hF r6 q109
  refine .C (cl (v := .agg #[iV r6.code, iV r6.index]) Tryz.call15 rfl rfl (fun w S => (by rw [q109]; exact c_validate S.sub r2.1 a2 c q42 q43 a3 c2 q44 q45 a4 c3 q38 q49 ))) ?_
  refine al tZ27 rfl (fun pf2 => ?_)
  refine st (p := pf2) (off := 0) (k := 0) (vs := [iV r6.code, iV r6.index]) rfl rfl rfl (fun w => (tA27 w).2) rfl rfl rfl rfl ?_
  refine .nil (.seqN (.seq (.region (.V (ldA (cs := [iV r6.code, iV r6.index]) rfl tA27 rfl (cellsB (off := 0) (k := 0) rfl (m := 2) rfl)) ?_))))
  refine .V (bld (cs := #[iV 0, iV 0]) (pv := []) tB27 rfl rfl) ?_
  refine .V (ne2 tE27 rfl rfl) ?_
  refine .nil (.seqN ?_)
  refine .cond rfl (fun q59 => ?_) (fun q59 => ?_)
  ·replace hF := hF.1 q59
   refine .seq ?_
   refine .OA (s0 := [(2, vP pv), (3, vP pv2), (4, vP pf2)]) [0, 1] [(0, .agg #[.bool false, .slice none 0 0, iV 0, iV 0]), (1, .agg #[iV r6.code, iV r6.index])] [2, 3, 4] [] ?_
   refine .ST [2] 2 (.w [] rfl (bld (cs := #[.bool false, .slice none 0 0, iV 0, iV 0]) (pv := []) tB34 rfl rfl) (.w [] rfl (ldA (cs := [iV r6.code, iV r6.index]) rfl tA27 rfl (cellsB (off := 0) (k := 0) rfl (m := 2) rfl)) (.nil))) (.cons [(10, .agg #[.bool false, .slice none 0 0, iV 0, iV 0]), (10, .agg #[.bool false, .slice none 0 0, iV 0, iV 0])] rfl rfl (fun sL hL => ?_) (.nil))
   refine st (p := pv) (off := 0) (k := 2) (vs := [.bool false, .slice none 0 0, iV 0, iV 0]) rfl rfl rfl (fun w => (tA34 w).2) rfl rfl rfl rfl ?_
   refine .nil ?_
   refine .jaN (M := [0]) (C' := [1]) (pre := []) [2, 3, 4] hL rfl rfl rfl rfl rfl (by kernel_rfl) ?_
   refine .ST [3] 3 (.w [] rfl (ldA (cs := [iV r6.code, iV r6.index]) rfl tA27 rfl (cellsB (off := 0) (k := 0) rfl (m := 2) rfl)) (.nil)) (.cons [(11, .agg #[iV r6.code, iV r6.index]), (10, .agg #[.bool false, .slice none 0 0, iV 0, iV 0]), (11, .agg #[iV r6.code, iV r6.index])] rfl rfl (fun sL hL => ?_) (.nil))
   refine st (p := pv2) (off := 0) (k := 1) (vs := [iV r6.code, iV r6.index]) rfl rfl rfl (fun w => (tA27 w).2) rfl rfl rfl rfl ?_
   refine .nil ?_
   refine .jaN (M := [1]) (C' := []) (pre := []) [2, 3, 4] hL rfl rfl rfl rfl rfl (by kernel_rfl) ?_
   refine .LA [(10, .agg #[.bool false, .slice none 0 0, iV 0, iV 0]), (11, .agg #[iV r6.code, iV r6.index])] (.nil) ?_
   refine .seqN (.ret (.seqR ?_))
   refine .res2 rfl (rvC rfl tA34 (k := 2) rfl rfl) (rvC rfl tA27 (k := 1) rfl rfl) (inl_back (v := .tuple #[.agg #[.bool false, .slice none 0 0, iV 0, iV 0], .agg #[iV r6.code, iV r6.index]]) q50 rfl ?_)
   refine .V mv0 ?_
   refine .V (ext rfl rfl) ?_
   refine .V (ext rfl rfl) ?_
   refine al tZ34 rfl (fun pr => ?_)
   refine al tZ27 rfl (fun pi => ?_)
   refine st (p := pr) (off := 0) (k := 1) (vs := [.bool false, .slice none 0 0, iV 0, iV 0]) rfl rfl rfl (fun w => (tA34 w).2) rfl rfl rfl rfl ?_
   refine st (p := pi) (off := 0) (k := 0) (vs := [iV r6.code, iV r6.index]) rfl rfl rfl (fun w => (tA27 w).2) rfl rfl rfl rfl ?_
   refine .KA [Box pi [iV r6.code, iV r6.index], Box pr [.bool false, .slice none 0 0, iV 0, iV 0], Box pf2 [iV r6.code, iV r6.index], Box pv2 [iV r6.code, iV r6.index], Box pv [.bool false, .slice none 0 0, iV 0, iV 0], Box pt2 (tF r2.1 a2 c a3 c2 a4 c3), Box ph [iV r5.2.code, iV r5.2.index], Box pg [iV r4.2.code, iV r4.2.index], Box pa (tF a aa ca aa2 ca2 aa3 ca3), Box pb (tF b ab cb ab2 cb2 ab3 cb3), Box pt (tF r2.1 a2 c a3 c2 a4 c3)] ?_
   refine .nil (.seqN (.seq ?_))
   refine .share (σ := Bool) (fun z => F_lawProd_J2 K r4 r5 r6 z) (fun z => [(7, iV r4.1), (8, vP pg), (9, iV r5.1), (10, vP ph), (11, vP pr), (12, vP pi), (59, .bool z)]) (fun _ => [Box pg [iV r4.2.code, iV r4.2.index], Box ph [iV r5.2.code, iV r5.2.index], Box pr [.bool false, .slice none 0 0, iV 0, iV 0], Box pi [iV r6.code, iV r6.index]]) (fun _ => h1) ?_ (fun q60 => ?_)
   ·rintro t59 hF
    show J _ _ _ _ _ [(7, iV r4.1), (8, vP pg), (9, iV r5.1), (10, vP ph), (11, vP pr), (12, vP pi), (59, .bool t59)] [Box pg [iV r4.2.code, iV r4.2.index], Box ph [iV r5.2.code, iV r5.2.index], Box pr [.bool false, .slice none 0 0, iV 0, iV 0], Box pi [iV r6.code, iV r6.index]] h1
    refine .cond rfl (fun q61 => ?_) (fun q61 => ?_)
    ·replace hF := hF.1 q61
     refine .seq ?_
     refine .open_ (by kernel_rfl) (by kernel_rfl) ?_
     refine .V (fa rfl tF27_0) ?_
     refine .V (lB 0 0 tO3) ?_
     refine .V bi0 ?_
     refine .V mv0 ?_
     rcases Bool.eq_false_or_eq_true (r4.2.code == 10) with q10 | q10
     ·replace hF := hF.1 q10
      refine .GS q10 ?_
      refine .GS q10 ?_
      refine .GS q10 ?_
      refine .V (pkT rfl q10 rfl) ?_
      refine .V mv0 ?_
      refine .GT ?_
      refine .GT ?_
      refine .GT ?_
      refine .V (pkT rfl rfl rfl) ?_
      refine .V ag0 ?_
      refine .fin ?_
      refine .seqN (.ret (.seqR ?_))
      refine .res1 rfl (rvT rfl) (fun w' S => ⟨true, hF, rfl, S.below⟩)
     replace hF := hF.2 q10
     refine .GV (fa rfl tF27_0) q10 ?_
     refine .GV (lB 0 1 tO3) q10 ?_
     refine .GV bi0 q10 ?_
     refine .V (pkF rfl q10 rfl) ?_
     refine .V mv0 ?_
     rcases Bool.eq_false_or_eq_true (r5.2.code == 10) with q11 | q11
     ·replace hF := hF.1 q11
      refine .GS q11 ?_
      refine .GS q11 ?_
      refine .GS q11 ?_
      refine .V (pkT rfl q11 rfl) ?_
      refine .V ag0 ?_
      refine .fin ?_
      refine .seqN (.ret (.seqR ?_))
      refine .res1 rfl (rvT rfl) (fun w' S => ⟨true, hF, rfl, S.below⟩)
     replace hF := hF.2 q11
     refine .GV (ldA (cs := [iV r6.code, iV r6.index]) rfl tA27 rfl (cellsB (off := 0) (k := 3) rfl (m := 2) rfl)) q11 ?_
     obtain ⟨r7, q110⟩ : ∃ y_ : Fault, y_ = sp_at_ 10 (-7) := ⟨_, rfl⟩
     replace hF := hF r7 q110
     refine .gc (cl (v := .agg #[iV r7.code, iV r7.index]) Tryz.call9 rfl rfl (fun w S => (by rw [q110]; exact c_at_ S.sub 10 (-7) ))) rfl rfl rfl q11 rfl rfl ?_
     refine .GV (eq2 tE27 rfl rfl) q11 ?_
     refine .V (pkF rfl q11 rfl) ?_
     refine .V ag0 ?_
     refine .fin ?_
     refine .seqN (.ret (.seqR ?_))
     refine .res1 rfl (rvT rfl) (fun w' S => ⟨(r6.code == r7.code) && (r6.index == r7.index), hF, rfl, S.below⟩)
    replace hF := hF.2 q61
    refine .skip (.seqN (.seq ?_))
    refine .share (σ := Bool) (fun z => F_lawProd_J3 K z) (fun z => [(7, iV r4.1), (9, iV r5.1), (11, vP pr), (78, .bool z)]) (fun _ => [Box pr [.bool false, .slice none 0 0, iV 0, iV 0]]) (fun _ => h1) ?_ (fun q111 => ?_)
    ·rintro t78 hF
     show J _ _ _ _ _ [(7, iV r4.1), (9, iV r5.1), (11, vP pr), (78, .bool t78)] [Box pr [.bool false, .slice none 0 0, iV 0, iV 0]] h1
     refine .cond rfl (fun q62 => ?_) (fun q62 => ?_)
     ·replace hF := hF.1 q62
      refine .seq (.region (.V (fa rfl tF34_0) ?_))
      refine .V (lB 0 0 tO4) ?_
      refine .V (nt rfl) ?_
      refine .V ag0 ?_
      refine .nil (.seqN (.ret (.seqR ?_)))
      refine .res1 rfl (rvT rfl) (fun w' S => ⟨!false, hF, rfl, S.below⟩)
     replace hF := hF.2 q62
     refine .skip (.seqN (.seq (.region (.V (fa rfl tF34_0) ?_))))
     refine .V (lB 0 0 tO4) ?_
     refine .V mv0 ?_
     refine .GT ?_
     refine .GT ?_
     refine .GT ?_
     refine .GT ?_
     refine .GT ?_
     refine .GT ?_
     refine .V (pkF rfl rfl rfl) ?_
     refine .V ag0 ?_
     refine .nil (.seqN (.ret ?_))
     refine .res1 rfl (rvT rfl) (fun w' S => ⟨false, hF, rfl, S.below⟩)
    refine .region (.V mv0 ?_)
    refine .V bi0 ?_
    refine .V mv0 ?_
    rcases Bool.eq_false_or_eq_true (r4.1 == 1000000000) with q31 | q31
    ·replace hF := hF.1 q31
     refine .GS q31 ?_
     refine .GS q31 ?_
     refine .V (pkT rfl q31 rfl) ?_
     refine .nil ?_
     refine .sel0 [2] (by decide) rfl ?_
     exact .US q111 true hF
    replace hF := hF.2 q31
    refine .GV mv0 q31 ?_
    refine .GV bi0 q31 ?_
    refine .V (pkF rfl q31 rfl) ?_
    refine .nil ?_
    refine .sel0 [2] (by decide) rfl ?_
    exact .US q111 (r5.1 == 1000000000) hF
   refine .region (.V (fa rfl tF27_0) ?_)
   refine .V (lB 0 7 tO3) ?_
   refine .V bi0 ?_
   refine .V mv0 ?_
   rcases Bool.eq_false_or_eq_true (r4.2.code != 0) with q12 | q12
   ·replace hF := hF.1 q12
    refine .GS q12 ?_
    refine .GS q12 ?_
    refine .GS q12 ?_
    refine .V (pkT rfl q12 rfl) ?_
    refine .V mv0 ?_
    refine .GT ?_
    refine .GT ?_
    refine .GT ?_
    refine .V (pkT rfl rfl rfl) ?_
    refine .nil ?_
    refine .sel0 [7, 6, 1, 0] (by decide) rfl ?_
    exact .US q60 true hF
   replace hF := hF.2 q12
   refine .GV (fa rfl tF27_0) q12 ?_
   refine .GV (lB 0 6 tO3) q12 ?_
   refine .GV bi0 q12 ?_
   refine .V (pkF rfl q12 rfl) ?_
   refine .V mv0 ?_
   rcases Bool.eq_false_or_eq_true (r5.2.code != 0) with q13 | q13
   ·replace hF := hF.1 q13
    refine .GS q13 ?_
    refine .GS q13 ?_
    refine .GS q13 ?_
    refine .V (pkT rfl q13 rfl) ?_
    refine .nil ?_
    refine .sel0 [7, 6, 1, 0] (by decide) rfl ?_
    exact .US q60 true hF
   replace hF := hF.2 q13
   refine .GV (fa rfl tF27_0) q13 ?_
   refine .GV (lB 0 0 tO3) q13 ?_
   refine .GV bi0 q13 ?_
   refine .V (pkF rfl q13 rfl) ?_
   refine .nil ?_
   refine .sel0 [7, 6, 1, 0] (by decide) rfl ?_
   exact .US q60 (r6.code != 0) hF
  replace hF := hF.2 q59
  refine .skip (.seqN (.seq (.seq (.region (.V (ldA (cs := (tF r2.1 a2 c a3 c2 a4 c3)) rfl tA25 rfl (cellsB (off := 0) (k := 3) rfl (m := 4) rfl)) ?_)))))
  obtain ⟨q162, hF⟩ := hF
  obtain ⟨r8, q112⟩ : ∃ y_ : Int, y_ = sp_reachable r2.1 := ⟨_, rfl⟩
  replace hF := hF r8 q112
  refine .C (cl (v := iV r8) Tryz.call23 rfl rfl (fun w S => (by rw [q112]; exact c_reachable S.sub r2.1 a2 c q42 q43 a3 c2 q44 q45 a4 c3 q38 q49 q162))) ?_
  refine .V bi0 ?_
  refine .nil (.seqN ?_)
  refine .cond rfl (fun q63 => ?_) (fun q63 => ?_)
  ·replace hF := hF.1 q63
   refine .seq (.region (.V (bld (cs := #[.bool false, .slice none 0 0, iV 0, iV 0]) (pv := []) tB34 rfl rfl) ?_))
   refine .V (bld (cs := #[iV 10, iV (-7)]) (pv := [(0, iV 10), (1, iV (-7))]) tB27 rfl rfl) ?_
   refine st (p := pv) (off := 0) (k := 2) (vs := [.bool false, .slice none 0 0, iV 0, iV 0]) rfl rfl rfl (fun w => (tA34 w).2) rfl rfl rfl rfl ?_
   refine st (p := pv2) (off := 0) (k := 1) (vs := [iV 10, iV (-7)]) rfl rfl rfl (fun w => (tA27 w).2) rfl rfl rfl rfl ?_
   refine .nil (.seqN (.ret (.seqR ?_)))
   refine .res2 rfl (rvC rfl tA34 (k := 2) rfl rfl) (rvC rfl tA27 (k := 1) rfl rfl) (inl_back (v := .tuple #[.agg #[.bool false, .slice none 0 0, iV 0, iV 0], .agg #[iV 10, iV (-7)]]) q50 rfl ?_)
   refine .V mv0 ?_
   refine .V (ext rfl rfl) ?_
   refine .V (ext rfl rfl) ?_
   refine al tZ34 rfl (fun pr2 => ?_)
   refine al tZ27 rfl (fun pi2 => ?_)
   refine st (p := pr2) (off := 0) (k := 1) (vs := [.bool false, .slice none 0 0, iV 0, iV 0]) rfl rfl rfl (fun w => (tA34 w).2) rfl rfl rfl rfl ?_
   refine st (p := pi2) (off := 0) (k := 0) (vs := [iV 10, iV (-7)]) rfl rfl rfl (fun w => (tA27 w).2) rfl rfl rfl rfl ?_
   refine .KA [Box pi2 [iV 10, iV (-7)], Box pr2 [.bool false, .slice none 0 0, iV 0, iV 0], Box pf2 [iV r6.code, iV r6.index], Box pv2 [iV 10, iV (-7)], Box pv [.bool false, .slice none 0 0, iV 0, iV 0], Box pt2 (tF r2.1 a2 c a3 c2 a4 c3), Box ph [iV r5.2.code, iV r5.2.index], Box pg [iV r4.2.code, iV r4.2.index], Box pa (tF a aa ca aa2 ca2 aa3 ca3), Box pb (tF b ab cb ab2 cb2 ab3 cb3), Box pt (tF r2.1 a2 c a3 c2 a4 c3)] ?_
   refine .nil (.seqN (.seq ?_))
   refine .share (σ := Bool) (fun z => F_lawProd_J4 K r4 r5 z) (fun z => [(7, iV r4.1), (8, vP pg), (9, iV r5.1), (10, vP ph), (11, vP pr2), (12, vP pi2), (59, .bool z)]) (fun _ => [Box pg [iV r4.2.code, iV r4.2.index], Box ph [iV r5.2.code, iV r5.2.index], Box pr2 [.bool false, .slice none 0 0, iV 0, iV 0], Box pi2 [iV 10, iV (-7)]]) (fun _ => h1) ?_ (fun q64 => ?_)
   ·rintro t592 hF
    show J _ _ _ _ _ [(7, iV r4.1), (8, vP pg), (9, iV r5.1), (10, vP ph), (11, vP pr2), (12, vP pi2), (59, .bool t592)] [Box pg [iV r4.2.code, iV r4.2.index], Box ph [iV r5.2.code, iV r5.2.index], Box pr2 [.bool false, .slice none 0 0, iV 0, iV 0], Box pi2 [iV 10, iV (-7)]] h1
    refine .cond rfl (fun q65 => ?_) (fun q65 => ?_)
    ·replace hF := hF.1 q65
     refine .seq ?_
     refine .open_ (by kernel_rfl) (by kernel_rfl) ?_
     refine .V (fa rfl tF27_0) ?_
     refine .V (lB 0 0 tO3) ?_
     refine .V bi0 ?_
     refine .V mv0 ?_
     rcases Bool.eq_false_or_eq_true (r4.2.code == 10) with q14 | q14
     ·replace hF := hF.1 q14
      refine .GS q14 ?_
      refine .GS q14 ?_
      refine .GS q14 ?_
      refine .V (pkT rfl q14 rfl) ?_
      refine .V mv0 ?_
      refine .GT ?_
      refine .GT ?_
      refine .GT ?_
      refine .V (pkT rfl rfl rfl) ?_
      refine .V ag0 ?_
      refine .fin ?_
      refine .seqN (.ret (.seqR ?_))
      refine .res1 rfl (rvT rfl) (fun w' S => ⟨true, hF, rfl, S.below⟩)
     replace hF := hF.2 q14
     refine .GV (fa rfl tF27_0) q14 ?_
     refine .GV (lB 0 1 tO3) q14 ?_
     refine .GV bi0 q14 ?_
     refine .V (pkF rfl q14 rfl) ?_
     refine .V mv0 ?_
     rcases Bool.eq_false_or_eq_true (r5.2.code == 10) with q15 | q15
     ·replace hF := hF.1 q15
      refine .GS q15 ?_
      refine .GS q15 ?_
      refine .GS q15 ?_
      refine .V (pkT rfl q15 rfl) ?_
      refine .V ag0 ?_
      refine .fin ?_
      refine .seqN (.ret (.seqR ?_))
      refine .res1 rfl (rvT rfl) (fun w' S => ⟨true, hF, rfl, S.below⟩)
     replace hF := hF.2 q15
     refine .GV (ldA (cs := [iV 10, iV (-7)]) rfl tA27 rfl (cellsB (off := 0) (k := 3) rfl (m := 2) rfl)) q15 ?_
     obtain ⟨r9, q113⟩ : ∃ y_ : Fault, y_ = sp_at_ 10 (-7) := ⟨_, rfl⟩
     replace hF := hF r9 q113
     refine .gc (cl (v := .agg #[iV r9.code, iV r9.index]) Tryz.call9 rfl rfl (fun w S => (by rw [q113]; exact c_at_ S.sub 10 (-7) ))) rfl rfl rfl q15 rfl rfl ?_
     refine .GV (eq2 tE27 rfl rfl) q15 ?_
     refine .V (pkF rfl q15 rfl) ?_
     refine .V ag0 ?_
     refine .fin ?_
     refine .seqN (.ret (.seqR ?_))
     refine .res1 rfl (rvT rfl) (fun w' S => ⟨(10 == r9.code) && ((-7) == r9.index), hF, rfl, S.below⟩)
    replace hF := hF.2 q65
    refine .skip (.seqN (.seq ?_))
    refine .share (σ := Bool) (fun z => F_lawProd_J5 K z) (fun z => [(7, iV r4.1), (9, iV r5.1), (11, vP pr2), (78, .bool z)]) (fun _ => [Box pr2 [.bool false, .slice none 0 0, iV 0, iV 0]]) (fun _ => h1) ?_ (fun q114 => ?_)
    ·rintro t782 hF
     show J _ _ _ _ _ [(7, iV r4.1), (9, iV r5.1), (11, vP pr2), (78, .bool t782)] [Box pr2 [.bool false, .slice none 0 0, iV 0, iV 0]] h1
     refine .cond rfl (fun q66 => ?_) (fun q66 => ?_)
     ·replace hF := hF.1 q66
      refine .seq (.region (.V (fa rfl tF34_0) ?_))
      refine .V (lB 0 0 tO4) ?_
      refine .V (nt rfl) ?_
      refine .V ag0 ?_
      refine .nil (.seqN (.ret (.seqR ?_)))
      refine .res1 rfl (rvT rfl) (fun w' S => ⟨!false, hF, rfl, S.below⟩)
     replace hF := hF.2 q66
     refine .skip (.seqN (.seq (.region (.V (fa rfl tF34_0) ?_))))
     refine .V (lB 0 0 tO4) ?_
     refine .V mv0 ?_
     refine .GT ?_
     refine .GT ?_
     refine .GT ?_
     refine .GT ?_
     refine .GT ?_
     refine .GT ?_
     refine .V (pkF rfl rfl rfl) ?_
     refine .V ag0 ?_
     refine .nil (.seqN (.ret ?_))
     refine .res1 rfl (rvT rfl) (fun w' S => ⟨false, hF, rfl, S.below⟩)
    refine .region (.V mv0 ?_)
    refine .V bi0 ?_
    refine .V mv0 ?_
    rcases Bool.eq_false_or_eq_true (r4.1 == 1000000000) with q32 | q32
    ·replace hF := hF.1 q32
     refine .GS q32 ?_
     refine .GS q32 ?_
     refine .V (pkT rfl q32 rfl) ?_
     refine .nil ?_
     refine .sel0 [2] (by decide) rfl ?_
     exact .US q114 true hF
    replace hF := hF.2 q32
    refine .GV mv0 q32 ?_
    refine .GV bi0 q32 ?_
    refine .V (pkF rfl q32 rfl) ?_
    refine .nil ?_
    refine .sel0 [2] (by decide) rfl ?_
    exact .US q114 (r5.1 == 1000000000) hF
   refine .region (.V (fa rfl tF27_0) ?_)
   refine .V (lB 0 7 tO3) ?_
   refine .V bi0 ?_
   refine .V mv0 ?_
   rcases Bool.eq_false_or_eq_true (r4.2.code != 0) with q16 | q16
   ·replace hF := hF.1 q16
    refine .GS q16 ?_
    refine .GS q16 ?_
    refine .GS q16 ?_
    refine .V (pkT rfl q16 rfl) ?_
    refine .V mv0 ?_
    refine .GT ?_
    refine .GT ?_
    refine .GT ?_
    refine .V (pkT rfl rfl rfl) ?_
    refine .nil ?_
    refine .sel0 [7, 6, 1, 0] (by decide) rfl ?_
    exact .US q64 true hF
   replace hF := hF.2 q16
   refine .GV (fa rfl tF27_0) q16 ?_
   refine .GV (lB 0 6 tO3) q16 ?_
   refine .GV bi0 q16 ?_
   refine .V (pkF rfl q16 rfl) ?_
   refine .V mv0 ?_
   rcases Bool.eq_false_or_eq_true (r5.2.code != 0) with q17 | q17
   ·replace hF := hF.1 q17
    refine .GS q17 ?_
    refine .GS q17 ?_
    refine .GS q17 ?_
    refine .V (pkT rfl q17 rfl) ?_
    refine .nil ?_
    refine .sel0 [7, 6, 1, 0] (by decide) rfl ?_
    exact .US q64 true hF
   replace hF := hF.2 q17
   refine .GV (fa rfl tF27_0) q17 ?_
   refine .GV (lB 0 0 tO3) q17 ?_
   refine .GV bi0 q17 ?_
   refine .V (pkF rfl q17 rfl) ?_
   refine .nil ?_
   refine .sel0 [7, 6, 1, 0] (by decide) rfl ?_
   exact .US q64 (10 != 0) hF
  replace hF := hF.2 q63
  refine .skip (.seqN (.seq (.region (.V (ldA (cs := (tF r2.1 a2 c a3 c2 a4 c3)) rfl tA25 rfl (cellsB (off := 0) (k := 3) rfl (m := 4) rfl)) ?_))))
  refine .inl Tryz.func24 rfl Tryz.ntmps24 Tryz.call24 rfl rfl rfl rfl (fun a6 q115 => ?_)
  refine .seq (.region ?_)
  refine bx (vs := (tF r2.1 a2 c a3 c2 a4 c3)) rfl rfl rfl (fun pt3 => ?_)
  refine al tZ34 rfl (fun pv3 => ?_)
  refine .nil (.seqN (.seq (.region ?_)))
  refine al tZ34 rfl (fun pout => ?_)
  refine .nil (.seqN (.seq (.region (.V (fa rfl tF25_1) ?_))))
  refine .V (lB 1 2 tO22) ?_
  refine .V (bld (cs := #[vSl a2 r2.1.init c, iV 0, iV (-1), iV 0]) (pv := [(0, vSl a2 r2.1.init c), (2, iV (-1))]) tB112 rfl rfl) ?_
  refine bs2 (cs := #[vSl a2 r2.1.init c, iV 0, iV (-1), iV 0]) (pv := [(0, .agg #[vSl a2 r2.1.init c, iV 0, iV (-1), iV 0])]) tS113 rfl rfl (by decide) (by decide) rfl rfl rfl (fun a7 _ => ?_)
  refine al tZ113 rfl (fun pnodes => ?_)
  refine st (p := pnodes) (off := 0) (k := 0) (vs := [vSl a7 ([(⟨r2.1.init, 0, (-1), 0⟩ : Node)] : List Node) 1]) rfl rfl rfl (fun w => (tO113 w).2) rfl rfl rfl rfl ?_
  refine .nil (.seqN (.seq (.region ?_)))
  refine bs2 (cs := #[iV 0]) (pv := [(0, iV 0)]) tS22 rfl rfl (by decide) (by decide) rfl rfl rfl (fun a8 _ => ?_)
  refine .V (bld (cs := #[vP pnodes, vSl a8 ([0] : List Int) 1]) (pv := [(0, vP pnodes), (1, vSl a8 ([0] : List Int) 1)]) tB117 rfl rfl) ?_
  refine bx (vs := [vP pnodes, vSl a8 ([0] : List Int) 1]) rfl rfl rfl (fun pv4 => ?_)
  refine .V ag0 ?_
  refine .nil (.seqN (.seq (.region ?_)))
  refine mmI .i64 (fun zE : Int => iV zE) rfl (fun bv => ?_)
  refine .V ag0 ?_
  refine .nil (.seqN (.seq (.block ?_)))
  refine .sel0 [7, 6, 5, 3, 1, 0, 13, 12, 10, 9, 4, 2] (by decide) rfl ?_
  obtain ⟨I1, μ1, q67, q163⟩ := hF
  refine .loop' (σ := Int × List (Int × Int) × List Node × List Int × Option Addr × Nat × List Value × Option Addr × Nat × FH) (fun z => I1 z.1 z.2.1 z.2.2.1 z.2.2.2.1 ∧ RepL z.2.2.2.2.2.2.2.2.2 z.2.2.1 z.2.2.2.2.2.2.1 ∧ FH.le h1 z.2.2.2.2.2.2.2.2.2) (fun z => μ1 z.1 z.2.1 z.2.2.1 z.2.2.2.1) (fun _ => [(1, vP pt3), (2, vP pv3), (3, vP pout), (4, vP pnodes), (5, vP pv4), (6, .map (some bv))]) (fun z => [Box pt3 (tF r2.1 a2 c a3 c2 a4 c3), Box pv3 [.bool false, .slice none 0 0, iV 0, iV 0], Box pout [.bool false, .slice none 0 0, iV 0, iV z.1], Box pnodes [vSl z.2.2.2.2.1 z.2.2.1 z.2.2.2.2.2.1], Box pv4 [vP pnodes, vSl z.2.2.2.2.2.2.2.1 z.2.2.2.1 z.2.2.2.2.2.2.2.2.1], OwnMapI bv .i64 (fun zE : Int => iV zE) z.2.1, Box pg [iV r4.2.code, iV r4.2.index], Box ph [iV r5.2.code, iV r5.2.index], Box pv [.bool false, .slice none 0 0, iV 0, iV 0], Box pv2 [iV 0, iV 0], OwnSl 112 4 z.2.2.2.2.1 z.2.2.1.length z.2.2.2.2.2.1 z.2.2.2.2.2.2.1, oL 3 1 z.2.2.2.2.2.2.2.1 z.2.2.2.1 z.2.2.2.2.2.2.2.2.1]) (fun z => z.2.2.2.2.2.2.2.2.2) (0, ([] : List (Int × Int)), ([(⟨r2.1.init, 0, (-1), 0⟩ : Node)] : List Node), ([0] : List Int), a7, 1, [vSl a2 r2.1.init c, iV 0, iV (-1), iV 0], a8, 1, h1) ⟨q67, (show RepL h1 ([(⟨r2.1.init, 0, (-1), 0⟩ : Node)] : List Node) [vSl a2 r2.1.init c, iV 0, iV (-1), iV 0] from ⟨[vSl a2 r2.1.init c, iV 0, iV (-1), iV 0], _, rfl, ⟨a2, c, rfl, ⟨q43, q42⟩⟩, rfl⟩), (FH.le_refl _)⟩ sb rfl (FH.le_refl _) ?_
  rintro ⟨x, m, l, l2, al2, cl2, csl, al3, cl3, h208⟩ ⟨q67, q37, q18⟩
  have hF := q163 x m l l2 q67
  show J _ _ _ _ _ [(1, vP pt3), (2, vP pv3), (3, vP pout), (4, vP pnodes), (5, vP pv4), (6, .map (some bv))] [Box pt3 (tF r2.1 a2 c a3 c2 a4 c3), Box pv3 [.bool false, .slice none 0 0, iV 0, iV 0], Box pout [.bool false, .slice none 0 0, iV 0, iV x], Box pnodes [vSl al2 l cl2], Box pv4 [vP pnodes, vSl al3 l2 cl3], OwnMapI bv .i64 (fun zE : Int => iV zE) m, Box pg [iV r4.2.code, iV r4.2.index], Box ph [iV r5.2.code, iV r5.2.index], Box pv [.bool false, .slice none 0 0, iV 0, iV 0], Box pv2 [iV 0, iV 0], OwnSl 112 4 al2 l.length cl2 csl, oL 3 1 al3 l2 cl3] h208
  refine .seq (.seq (.region (.V mv0 ?_)))
  refine .inl Tryz.func53 rfl Tryz.ntmps53 Tryz.call53 rfl rfl rfl rfl (fun a9 q164 => ?_)
  refine .seq (.region (.V ag0 ?_))
  refine .nil (.seqN (.seq (.region (.V mv0 ?_))))
  refine .V (nck rfl) ?_
  refine .V (fa rfl tF117_1) ?_
  refine .V (lB 1 4 tO22) ?_
  refine .V (ln rfl tS22.is) ?_
  refine .V ag0 ?_
  refine .nil (.seqN (.ret ?_))
  refine .res1 rfl (rvT rfl) (inl_back (v := iV ((l2.length : Nat) : Int)) q164 rfl ?_)
  refine .V bi0 ?_
  refine .nil (.seqN ?_)
  refine .cond rfl (fun q68 => ?_) (fun q68 => ?_)
  ·replace hF := hF.1 q68
   refine .skip (.seqN (.block (.seq (.region (.V mv0 ?_)))))
   refine .V (mkI tC114 rfl) ?_
   refine .inl Tryz.func54 rfl Tryz.ntmps54 Tryz.call54 rfl rfl rfl rfl (fun a10 q165 => ?_)
   refine .seq (.region (.V ag0 ?_))
   refine .nil (.seqN (.seq (.region (.V mv0 ?_))))
   refine .inlI Tryz.func53 rfl Tryz.ntmps53 Tryz.call53 tm114_Len rfl rfl rfl (fun a11 q166 => ?_)
   refine .seq (.region (.V ag0 ?_))
   refine .nil (.seqN (.seq (.region (.V mv0 ?_))))
   refine .V (nck rfl) ?_
   refine .V (fa rfl tF117_1) ?_
   refine .V (lB 1 4 tO22) ?_
   refine .V (ln rfl tS22.is) ?_
   refine .V ag0 ?_
   refine .nil (.seqN (.ret ?_))
   refine .res1 rfl (rvT rfl) (inl_back (v := iV ((l2.length : Nat) : Int)) q166 rfl ?_)
   refine .V bi0 ?_
   refine .V ag0 ?_
   refine .nil (.seqN (.seq (.region (.V mv0 ?_))))
   refine .V mv0 ?_
   refine .inlI Tryz.func159 rfl Tryz.ntmps159 Tryz.call159 tm114_Swap rfl rfl rfl (fun a12 q167 => ?_)
   obtain ⟨q116, q39, hF⟩ := hF
   refine .OA (s0 := [(0, vP pv4), (1, iV 0), (2, iV (nM l2))]) [0, 1, 2, 3, 4, 5, 6, 7, 8, 9, 10, 11, 12, 13, 14, 15, 16, 17, 18, 19, 20, 21, 22, 23, 24] [(0, vP pv4), (1, vP pv4), (2, vP (pv4.add 1)), (3, vSl al3 l2 cl3), (4, iV 0), (5, vP pv4), (6, vP pv4), (7, vP (pv4.add 1)), (8, vSl al3 l2 cl3), (9, iV (nM l2)), (10, vP pv4), (11, vP pv4), (12, vP (pv4.add 1)), (13, vSl al3 l2 cl3), (14, iV (nM l2)), (15, vP (ead al3 ((nM l2).toNat * 1))), (16, iV (gt l2 (nM l2))), (17, vP pv4), (18, vP pv4), (19, vP (pv4.add 1)), (20, vSl al3 l2 cl3), (21, iV 0), (22, vP (ead al3 ((0 : Int).toNat * 1))), (23, iV (gt l2 (0 : Int))), (24, vP (ead al3 ((0 : Int).toNat * 1)))] [0, 1, 2] [] ?_
   refine .ST [25] 25 (.w [] rfl mv0 (.w [(6, vP pv4)] rfl (nck rfl) (.w [(7, vP pv4)] rfl (fa rfl tF117_1) (.w [(8, vP (pv4.add 1))] rfl (lB 1 4 tO22) (.w [] rfl mv0 (.w [] rfl mv0 (.w [(11, vP pv4)] rfl (nck rfl) (.w [(12, vP pv4)] rfl (fa rfl tF117_1) (.w [(13, vP (pv4.add 1))] rfl (lB 1 4 tO22) (.w [] rfl mv0 (.w [] rfl mv0 (.w [(16, vP pv4)] rfl (nck rfl) (.w [(17, vP pv4)] rfl (fa rfl tF117_1) (.w [(18, vP (pv4.add 1))] rfl (lB 1 4 tO22) (.w [] rfl mv0 (.w [(19, vSl al3 l2 cl3), (20, iV (nM l2))] rfl (ixS rfl rfl tS22 (k := 11) rfl q116) (.w [(21, vP (ead al3 ((nM l2).toNat * 1)))] rfl (ld1 (v := iV (gt l2 (nM l2))) rfl tO3 (cellS (k := 11) rfl (flL_get q116 (j := 0) rfl))) (.w [] rfl mv0 (.w [(23, vP pv4)] rfl (nck rfl) (.w [(24, vP pv4)] rfl (fa rfl tF117_1) (.w [(25, vP (pv4.add 1))] rfl (lB 1 4 tO22) (.w [] rfl mv0 (.w [(26, vSl al3 l2 cl3), (27, iV 0)] rfl (ixS rfl rfl tS22 (k := 11) rfl q39) (.w [(28, vP (ead al3 ((0 : Int).toNat * 1)))] rfl (ld1 (v := iV (gt l2 (0 : Int))) rfl tO3 (cellS (k := 11) rfl (flL_get q39 (j := 0) rfl))) (.w [(9, vSl al3 l2 cl3), (10, iV 0), (6, vP pv4), (7, vP pv4), (8, vP (pv4.add 1)), (9, vSl al3 l2 cl3), (10, iV 0), (14, vSl al3 l2 cl3), (16, vP pv4), (17, vP pv4), (18, vP (pv4.add 1)), (19, vSl al3 l2 cl3), (20, iV (nM l2)), (21, vP (ead al3 ((nM l2).toNat * 1))), (22, iV (gt l2 (nM l2))), (26, vSl al3 l2 cl3), (29, iV (gt l2 (0 : Int)))] rfl (ixS rfl rfl tS22 (k := 11) rfl q39) (.nil)))))))))))))))))))))))))) (.cons [(30, vP (ead al3 ((0 : Int).toNat * 1))), (22, iV (gt l2 (nM l2))), (6, vP pv4), (7, vP pv4), (8, vP (pv4.add 1)), (9, vSl al3 l2 cl3), (10, iV 0), (14, vSl al3 l2 cl3), (16, vP pv4), (17, vP pv4), (18, vP (pv4.add 1)), (19, vSl al3 l2 cl3), (20, iV (nM l2)), (21, vP (ead al3 ((nM l2).toNat * 1))), (22, iV (gt l2 (nM l2))), (26, vSl al3 l2 cl3), (29, iV (gt l2 (0 : Int)))] rfl rfl (fun sL hL => ?_) (.nil))
   obtain ⟨d, q69⟩ : ∃ y_ : List Int, y_ = (l2.set ((0 : Int)).toNat (gt l2 (wr (((l2.length : Nat) : Int) - 1)))) := ⟨_, rfl⟩
   replace hF := hF d q69
   refine stS (k := 11) (cs' := flL d) rfl (fun _ => rfl) rfl rfl (fun w => (tO3 w).2) rfl rfl rfl (inb_pos q39) (fl_room q39) (by rw [q69]; exact flL_set q39 (gt l2 (nM l2))) ?_
   have q70 : d.length = l2.length := by rw [q69]; exact List.length_set
   refine .nil ?_
   obtain ⟨q51, hF⟩ := hF
   refine .jaN (M := [24, 16, 0, 1, 2, 3, 4, 8, 10, 11, 12, 13, 14, 15, 20, 23, 7, 19, 22, 6, 18, 21, 5, 17]) (C' := [9, 26]) (pre := [(26, vP (ead al3 ((nM l2).toNat * 1)))]) [0, 1, 2] hL rfl rfl rfl rfl rfl (by kernel_rfl) ?_
   refine .ST [27] 27 (.w [] rfl mv0 (.w [(14, vSl al3 l2 cl3), (15, iV (nM l2)), (6, vP pv4), (7, vP pv4), (8, vP (pv4.add 1)), (9, vSl al3 l2 cl3), (10, iV 0), (11, vP pv4), (12, vP pv4), (13, vP (pv4.add 1)), (14, vSl al3 l2 cl3), (15, iV (nM l2)), (16, vP pv4), (17, vP pv4), (18, vP (pv4.add 1)), (19, vSl al3 l2 cl3), (20, iV (nM l2)), (21, vP (ead al3 ((nM l2).toNat * 1))), (22, iV (gt l2 (nM l2))), (23, vP pv4), (24, vP pv4), (25, vP (pv4.add 1)), (26, vSl al3 l2 cl3), (27, iV 0), (28, vP (ead al3 ((0 : Int).toNat * 1))), (29, iV (gt l2 (0 : Int))), (30, vP (ead al3 ((0 : Int).toNat * 1)))] rfl (ixS rfl rfl tS22 (k := 11) rfl (inb_n q51 q70)) (.nil))) (.cons [(31, vP (ead al3 ((nM l2).toNat * 1))), (29, iV (gt l2 (0 : Int))), (6, vP pv4), (7, vP pv4), (8, vP (pv4.add 1)), (9, vSl al3 l2 cl3), (10, iV 0), (11, vP pv4), (12, vP pv4), (13, vP (pv4.add 1)), (14, vSl al3 l2 cl3), (15, iV (nM l2)), (16, vP pv4), (17, vP pv4), (18, vP (pv4.add 1)), (19, vSl al3 l2 cl3), (20, iV (nM l2)), (21, vP (ead al3 ((nM l2).toNat * 1))), (22, iV (gt l2 (nM l2))), (23, vP pv4), (24, vP pv4), (25, vP (pv4.add 1)), (26, vSl al3 l2 cl3), (27, iV 0), (28, vP (ead al3 ((0 : Int).toNat * 1))), (29, iV (gt l2 (0 : Int))), (30, vP (ead al3 ((0 : Int).toNat * 1)))] rfl rfl (fun sL hL => ?_) (.nil))
   obtain ⟨d2, q71⟩ : ∃ y_ : List Int, y_ = (d.set (wr (((l2.length : Nat) : Int) - 1)).toNat (gt l2 (0 : Int))) := ⟨_, rfl⟩
   replace hF := hF d2 q71
   refine stS (k := 11) (cs' := flL d2) rfl (fun _ => rfl) rfl rfl (fun w => (tO3 w).2) rfl rfl rfl (by rw [← q70]; exact inb_pos q51) (fl_room q51) (by rw [q71]; exact flL_set q51 (gt l2 (0 : Int))) ?_
   have q168 : d2.length = l2.length := by rw [q71]; exact List.length_set.trans q70
   refine .nil ?_
   refine .jaN (M := [26, 9]) (C' := []) (pre := []) [0, 1, 2] hL rfl rfl rfl rfl rfl (by kernel_rfl) ?_
   refine .LA [(6, vP pv4), (7, vP pv4), (8, vP (pv4.add 1)), (9, vSl al3 l2 cl3), (10, iV 0), (11, vP pv4), (12, vP pv4), (13, vP (pv4.add 1)), (14, vSl al3 l2 cl3), (15, iV (nM l2)), (16, vP pv4), (17, vP pv4), (18, vP (pv4.add 1)), (19, vSl al3 l2 cl3), (20, iV (nM l2)), (21, vP (ead al3 ((nM l2).toNat * 1))), (22, iV (gt l2 (nM l2))), (23, vP pv4), (24, vP pv4), (25, vP (pv4.add 1)), (26, vSl al3 l2 cl3), (27, iV 0), (28, vP (ead al3 ((0 : Int).toNat * 1))), (29, iV (gt l2 (0 : Int))), (30, vP (ead al3 ((0 : Int).toNat * 1))), (31, vP (ead al3 ((nM l2).toNat * 1)))] (.nil) ?_
   refine .res0 (.inr rfl) rfl (inl_back (v := .tuple #[]) q167 rfl ?_)
   refine .nil (.seqN (.seq (.region (.V mv0 ?_))))
   refine .V mv0 ?_
   refine .inl Tryz.func83 rfl Tryz.ntmps83 Tryz.call83 rfl rfl rfl rfl (fun a13 q169 => ?_)
   refine .seq (.region (.V ag0 ?_))
   refine .nil (.seqN (.seq (.region (.V mv0 ?_))))
   refine .V ag0 ?_
   refine .nil (.seqN ?_)
   refine .share (σ := Int × List Int) (fun z => F_lawProd_J6 K r2 r4 r5 x l l2 m z.2 I1 μ1 ∧ z.2.length = l2.length) (fun z => [(1, iV 0), (7, iV z.1)]) (fun z => [Box pg [iV r4.2.code, iV r4.2.index], Box ph [iV r5.2.code, iV r5.2.index], Box pv [.bool false, .slice none 0 0, iV 0, iV 0], Box pv2 [iV 0, iV 0], Box pt3 (tF r2.1 a2 c a3 c2 a4 c3), Box pv3 [.bool false, .slice none 0 0, iV 0, iV 0], Box pout [.bool false, .slice none 0 0, iV 0, iV x], Box pnodes [vSl al2 l cl2], Box pv4 [vP pnodes, vSl al3 l2 cl3], OwnMapI bv .i64 (fun zE : Int => iV zE) m, OwnSl 112 4 al2 l.length cl2 csl, OwnSl 3 1 al3 l2.length cl3 (flL z.2)]) (fun _ => h208) ?_ (fun q72 => ?_)
   ·rintro ⟨i, l5⟩ ⟨hF, q117⟩
    show J _ _ _ _ _ [(1, iV 0), (7, iV i)] [Box pg [iV r4.2.code, iV r4.2.index], Box ph [iV r5.2.code, iV r5.2.index], Box pv [.bool false, .slice none 0 0, iV 0, iV 0], Box pv2 [iV 0, iV 0], Box pt3 (tF r2.1 a2 c a3 c2 a4 c3), Box pv3 [.bool false, .slice none 0 0, iV 0, iV 0], Box pout [.bool false, .slice none 0 0, iV 0, iV x], Box pnodes [vSl al2 l cl2], Box pv4 [vP pnodes, vSl al3 l2 cl3], OwnMapI bv .i64 (fun zE : Int => iV zE) m, OwnSl 112 4 al2 l.length cl2 csl, OwnSl 3 1 al3 l2.length cl3 (flL l5)] h208
    refine .seq (.region (.V mv0 ?_))
    refine .V mv0 ?_
    refine .V bi0 ?_
    refine .V ag0 ?_
    refine .nil (.seqN (.ret ?_))
    refine .res1 rfl (rvT rfl) (inl_back (v := .bool (decide (0 < i))) q169 rfl ?_)
    refine .nil (.seqN (.seq (.region (.V mv0 ?_))))
    refine .inlI Tryz.func157 rfl Tryz.ntmps157 Tryz.call157 tm114_Pop rfl rfl rfl (fun a14 q170 => ?_)
    refine .seq (.region (.V ag0 ?_))
    refine .nil (.seqN (.seq ?_))
    refine .open_ (by kernel_rfl) (by kernel_rfl) ?_
    refine .V mv0 ?_
    refine .V (nck rfl) ?_
    refine .V (fa rfl tF117_1) ?_
    refine .V (lB 1 8 tO22) ?_
    refine .V mv0 ?_
    refine .V (nck rfl) ?_
    refine .V (fa rfl tF117_1) ?_
    refine .V (lB 1 8 tO22) ?_
    refine .V (ln rfl tS22.is) ?_
    refine .V bi0 ?_
    obtain ⟨q118, hF⟩ := hF
    refine .V (ixS rfl rfl tS22 (k := 11) rfl (inb_n q118 q117)) ?_
    refine .V (ld1 (v := iV (gt l5 (nM l2))) rfl tO3 (cellS (k := 11) rfl (flL_get q118 (j := 0) rfl))) ?_
    refine .V ag0 ?_
    refine .fin ?_
    refine .seqN (.seq ?_)
    refine .fact (fun w S => look_len S (k := 10) rfl) (fun q200 => ?_)
    refine .fact (fun w S => look_len S (k := 11) rfl) (fun q171 => ?_)
    obtain ⟨q52, hF⟩ := hF
    refine .OA (s0 := [(0, vP pv4), (3, iV (gt l5 (nM l2)))]) [0, 1, 2, 3, 4, 5, 6, 7, 8, 9, 10, 11, 12, 13] [(0, vP pv4), (1, vP pv4), (2, vP pv4), (3, vP (pv4.add 1)), (4, vSl al3 l2 cl3), (5, vP pv4), (6, vP pv4), (7, vP (pv4.add 1)), (8, vSl al3 l2 cl3), (9, iV ((l2.length : Nat) : Int)), (10, iV (nM l2)), (11, .slice al3 ((nM l2).toNat) cl3), (12, vP pv4), (13, vP (pv4.add 1))] [0, 3] [] ?_
    refine .ST [14] 14 (.w [] rfl mv0 (.w [] rfl mv0 (.w [(17, vP pv4)] rfl (nck rfl) (.w [(18, vP pv4)] rfl (fa rfl tF117_1) (.w [(19, vP (pv4.add 1))] rfl (lB 1 8 tO22) (.w [] rfl mv0 (.w [(21, vP pv4)] rfl (nck rfl) (.w [(22, vP pv4)] rfl (fa rfl tF117_1) (.w [(23, vP (pv4.add 1))] rfl (lB 1 8 tO22) (.w [(24, vSl al3 l2 cl3)] rfl (ln rfl tS22.is) (.w [(25, iV ((l2.length : Nat) : Int))] rfl bi0 (.w [(20, vSl al3 l2 cl3), (26, iV (nM l2))] rfl (slH tS22 rfl rfl q52.1 rfl (Nat.le_trans (Int.toNat_le.2 q52.2) q171)) (.w [(16, vP pv4), (16, vP pv4), (17, vP pv4), (18, vP pv4), (19, vP (pv4.add 1)), (20, vSl al3 l2 cl3), (21, vP pv4), (22, vP pv4), (23, vP (pv4.add 1)), (24, vSl al3 l2 cl3), (25, iV ((l2.length : Nat) : Int)), (26, iV (nM l2)), (27, .slice al3 ((nM l2).toNat) cl3)] rfl (nck rfl) (.w [(28, vP pv4), (16, vP pv4), (17, vP pv4), (18, vP pv4), (19, vP (pv4.add 1)), (20, vSl al3 l2 cl3), (21, vP pv4), (22, vP pv4), (23, vP (pv4.add 1)), (24, vSl al3 l2 cl3), (25, iV ((l2.length : Nat) : Int)), (26, iV (nM l2)), (27, .slice al3 ((nM l2).toNat) cl3)] rfl (fa rfl tF117_1) (.nil))))))))))))))) (.cons [(29, vP (pv4.add 1)), (27, .slice al3 ((nM l2).toNat) cl3), (16, vP pv4), (17, vP pv4), (18, vP pv4), (19, vP (pv4.add 1)), (20, vSl al3 l2 cl3), (21, vP pv4), (22, vP pv4), (23, vP (pv4.add 1)), (24, vSl al3 l2 cl3), (25, iV ((l2.length : Nat) : Int)), (26, iV (nM l2)), (27, .slice al3 ((nM l2).toNat) cl3)] rfl rfl (fun sL hL => ?_) (.nil))
    obtain ⟨d3, q73⟩ : ∃ y_ : List Int, y_ = (l5.take (wr (((l2.length : Nat) : Int) - 1)).toNat) := ⟨_, rfl⟩
    replace hF := hF d3 q73
    have q172 : d3.length = (wr (((l2.length : Nat) : Int) - 1)).toNat := by rw [q73]; exact len_take q117 (Int.toNat_le.2 q52.2)
    refine .shrink (k := 11) (m' := (nM l2).toNat) (cs' := flL d3) rfl (Int.toNat_le.2 q52.2) (by rw [Nat.mul_one, q73]; exact flL_take _ _ rfl) ?_
    refine st (p := pv4) (off := 1) (k := 8) (vs := [.slice al3 ((nM l2).toNat) cl3]) rfl rfl rfl (fun w => (tO22 w).2) rfl rfl rfl rfl ?_
    refine .cast (A' := [Box pg [iV r4.2.code, iV r4.2.index], Box ph [iV r5.2.code, iV r5.2.index], Box pv [.bool false, .slice none 0 0, iV 0, iV 0], Box pv2 [iV 0, iV 0], Box pt3 (tF r2.1 a2 c a3 c2 a4 c3), Box pv3 [.bool false, .slice none 0 0, iV 0, iV 0], Box pout [.bool false, .slice none 0 0, iV 0, iV x], Box pnodes [vSl al2 l cl2], Box pv4 [vP pnodes, vSl al3 d3 cl3], OwnMapI bv .i64 (fun zE : Int => iV zE) m, OwnSl 112 4 al2 l.length cl2 csl, oL 3 1 al3 d3 cl3]) (congrArg (fun z_ : Nat => [Box pg [iV r4.2.code, iV r4.2.index], Box ph [iV r5.2.code, iV r5.2.index], Box pv [.bool false, .slice none 0 0, iV 0, iV 0], Box pv2 [iV 0, iV 0], Box pt3 (tF r2.1 a2 c a3 c2 a4 c3), Box pv3 [.bool false, .slice none 0 0, iV 0, iV 0], Box pout [.bool false, .slice none 0 0, iV 0, iV x], Box pnodes [vSl al2 l cl2], Box pv4 [vP pnodes, .slice al3 z_ cl3], OwnMapI bv .i64 (fun zE : Int => iV zE) m, OwnSl 112 4 al2 l.length cl2 csl, OwnSl 3 1 al3 z_ cl3 (flL d3)]) (q172).symm) ?_
    refine .nil ?_
    refine .jaN (M := [13, 11, 0, 1, 2, 3, 4, 5, 6, 7, 8, 9, 10, 12]) (C' := []) (pre := []) [0, 3] hL rfl rfl rfl rfl rfl (by kernel_rfl) ?_
    refine .LA [(16, vP pv4), (17, vP pv4), (18, vP pv4), (19, vP (pv4.add 1)), (20, vSl al3 l2 cl3), (21, vP pv4), (22, vP pv4), (23, vP (pv4.add 1)), (24, vSl al3 l2 cl3), (25, iV ((l2.length : Nat) : Int)), (26, iV (nM l2)), (27, .slice al3 ((nM l2).toNat) cl3), (28, vP pv4), (29, vP (pv4.add 1))] (.nil) ?_
    refine .seqN (.seq (.region (.V mv0 ?_)))
    refine .V (mkI tC3 rfl) ?_
    refine .V ag0 ?_
    refine .nil (.seqN (.ret ?_))
    refine .res1 rfl (rvT rfl) (inl_back (v := .iface 3 (iV (gt l5 (wr (((l2.length : Nat) : Int) - 1))))) q170 rfl ?_)
    refine .V ag0 ?_
    refine .nil (.seqN (.ret ?_))
    refine .res1 rfl (rvT rfl) (inl_back (v := .iface 3 (iV (gt l5 (wr (((l2.length : Nat) : Int) - 1))))) q165 rfl ?_)
    refine .V (tas tC3 rfl) ?_
    refine .V ag0 ?_
    refine .nil (.seqN (.seq (.region (.V (lB 0 7 tO113) ?_))))
    refine .V mv0 ?_
    obtain ⟨q119, hF⟩ := hF
    refine .V (ixS rfl rfl tS113 (k := 10) rfl q119) ?_
    obtain ⟨_, ⟨a15, c4, rfl, q46, q47⟩, q173⟩ := RepL.get q37 (gt_get q119)
    refine .V (ldA (cs := [.slice a15 ((gt l (gt l5 (nM l2))).state.length) c4, iV ((gt l (gt l5 (nM l2))).cost), iV ((gt l (gt l5 (nM l2))).parent), iV ((gt l (gt l5 (nM l2))).op)]) rfl tA112 rfl (cellsO (k := 10) rfl q173)) ?_
    refine al tZ112 rfl (fun pn => ?_)
    refine st (p := pn) (off := 0) (k := 0) (vs := [.slice a15 ((gt l (gt l5 (nM l2))).state.length) c4, iV ((gt l (gt l5 (nM l2))).cost), iV ((gt l (gt l5 (nM l2))).parent), iV ((gt l (gt l5 (nM l2))).op)]) rfl rfl rfl (fun w => (tA112 w).2) rfl rfl rfl rfl ?_
    refine .nil (.seqN (.seq (.seq (.region (.V mv0 ?_)))))
    refine .V (fa rfl tF112_0) ?_
    refine .V (lB 0 0 tO22) ?_
    obtain ⟨q120, hF⟩ := hF
    obtain ⟨r10, q121⟩ : ∃ y_ : Int, y_ = sp_wordC ((gt l (gt l5 (wr (((l2.length : Nat) : Int) - 1)))).state) := ⟨_, rfl⟩
    replace hF := hF r10 q121
    refine .C (cl (v := iV r10) Tryz.call51 rfl rfl (fun w S => (by rw [q121]; exact c_wordC S.sub ((gt l (gt l5 (nM l2))).state) a15 c4 q47 q46 q120))) ?_
    refine .V (lkI2 (enc := (fun zE : Int => iV zE)) 0 tMI107 rfl rfl (q := 10) rfl) ?_
    refine .V mv0 ?_
    refine .V (ext rfl rfl) ?_
    refine .V (ext rfl rfl) ?_
    refine .V ag0 ?_
    refine .V ag0 ?_
    refine .nil (.seqN (.seq (.region (.V mv0 ?_))))
    refine .nil (.seqN ?_)
    refine .cond rfl (fun q74 => ?_) (fun q74 => ?_)
    ·replace hF := hF.1 q74
     refine .exit (.seqX (.blkX ?_))
     refine .sel0 [5, 6, 7, 8, 9, 10, 1, 2, 3, 4, 11, 12] (by decide) rfl ?_
     exact .RO (x, m, l, d3, al2, cl2, csl, al3, cl3, h208) ⟨hF.1, q37, (q18)⟩ hF.2
    replace hF := hF.2 q74
    refine .skip (.seqN (.seq (.region (.V mv0 ?_))))
    refine .V (fa rfl tF112_0) ?_
    refine .V (lB 0 0 tO22) ?_
    obtain ⟨r11, q122⟩ : ∃ y_ : Int, y_ = sp_wordC ((gt l (gt l5 (wr (((l2.length : Nat) : Int) - 1)))).state) := ⟨_, rfl⟩
    replace hF := hF r11 q122
    refine .C (cl (v := iV r11) Tryz.call51 rfl rfl (fun w S => (by rw [q122]; exact c_wordC S.sub ((gt l (gt l5 (nM l2))).state) a15 c4 q47 q46 q120))) ?_
    refine .V mv0 ?_
    refine muI (enc := (fun zE : Int => iV zE)) (gt l5 (nM l2)) tMI107 rfl rfl rfl (q := 10) rfl ?_
    obtain ⟨m3, q123⟩ : ∃ y_ : List (Int × Int), y_ = (setA m r11 (gt l5 (wr (((l2.length : Nat) : Int) - 1)))) := ⟨_, rfl⟩
    replace hF := hF m3 q123
    refine .cast (A' := [Box pn [.slice a15 ((gt l (gt l5 (nM l2))).state.length) c4, iV ((gt l (gt l5 (nM l2))).cost), iV ((gt l (gt l5 (nM l2))).parent), iV ((gt l (gt l5 (nM l2))).op)], Box pg [iV r4.2.code, iV r4.2.index], Box ph [iV r5.2.code, iV r5.2.index], Box pv [.bool false, .slice none 0 0, iV 0, iV 0], Box pv2 [iV 0, iV 0], Box pt3 (tF r2.1 a2 c a3 c2 a4 c3), Box pv3 [.bool false, .slice none 0 0, iV 0, iV 0], Box pout [.bool false, .slice none 0 0, iV 0, iV x], Box pnodes [vSl al2 l cl2], Box pv4 [vP pnodes, vSl al3 d3 cl3], OwnMapI bv .i64 (fun zE : Int => iV zE) m3, OwnSl 112 4 al2 l.length cl2 csl, oL 3 1 al3 d3 cl3]) (by rw [q123]; rfl) ?_
    refine .nil (.seqN (.seq (.seq (.region (.V (fa rfl tF112_0) ?_)))))
    refine .V (lB 0 0 tO22) ?_
    refine .V (fa rfl tF25_2) ?_
    refine .V (lB 2 5 tO22) ?_
    obtain ⟨q174, hF⟩ := hF
    obtain ⟨r12, q124⟩ : ∃ y_ : Bool, y_ = sp_contains2 ((gt l (gt l5 (wr (((l2.length : Nat) : Int) - 1)))).state) r2.1.goal := ⟨_, rfl⟩
    replace hF := hF r12 q124
    refine .C (cl (v := .bool r12) Tryz.call55 rfl rfl (fun w S => (by rw [q124]; exact c_contains2 S.sub ((gt l (gt l5 (nM l2))).state) a15 c4 q47 q46 r2.1.goal a3 c2 (q44.mono (q18)) q45 q174))) ?_
    refine .nil (.seqN ?_)
    refine .cond rfl (fun q75 => ?_) (fun q75 => ?_)
    ·replace hF := hF.1 q75
     refine .seq ?_
     refine .OA (s0 := [(2, vP pv3), (3, vP pout), (4, vP pnodes), (7, iV (gt l5 (nM l2))), (8, vP pn)]) [0, 1, 3, 4, 5, 6] [(0, vSl al2 l cl2), (1, iV (gt l5 (nM l2))), (3, vP (pn.add 1)), (4, iV ((gt l (gt l5 (nM l2))).cost)), (5, vP (pout.add 3)), (6, iV x)] [2, 3, 4, 7, 8] [] ?_
     refine .ST [2] 2 (.w [] rfl (lB 0 8 tO113) (.w [] rfl mv0 (.w [] rfl (fa rfl tF112_1) (.w [(54, vP (pn.add 1))] rfl (lB 1 0 tO3) (.w [] rfl (fa rfl tF34_3) (.w [(56, vP (pout.add 3))] rfl (lB 3 7 tO3) (.nil))))))) (.cons [(51, vSl al2 l cl2), (52, iV (gt l5 (nM l2)))] rfl rfl (fun sL hL => ?_) (.nil))
     refine .freezeL (k := 11) rfl (fun h244 le244 q175 q176 => ?_)
     obtain ⟨q177, hF⟩ := hF
     obtain ⟨r13, q125⟩ : ∃ y_ : List Int, y_ = sp_pathC l (gt l5 (wr (((l2.length : Nat) : Int) - 1))) := ⟨_, rfl⟩
     replace hF := hF r13 q125
     refine clR (α := Option Addr × Nat) (Φ := fun h1 z => RSl h1 z.1 r13 ∧ r13.length ≤ z.2) (V := fun z => vSl z.1 r13 z.2) Tryz.call56 rfl rfl (fun w S => (by rw [q125]; exact c_pathC S.sub l al2 cl2 (show RSl h244 al2 l from ⟨_, q37.mono (le244), q176⟩) (q175) (gt l5 (nM l2)) q177)) rfl (fun z h245 le245 hz => ?_)
     obtain ⟨a16, c5⟩ := z
     obtain ⟨q201, q202⟩ := hz
     refine .nil ?_
     refine .ja (M := [0, 1]) (C' := [3, 4, 5, 6, 7]) (pre := [(2, vSl a16 r13 c5), (7, .agg #[.bool true, vSl a16 r13 c5, iV ((gt l (gt l5 (nM l2))).cost), iV x])]) [(2, vP pv3), (3, vP pout), (4, vP pnodes), (7, iV (gt l5 (nM l2))), (8, vP pn)] [2, 3, 4, 7, 8] hL rfl rfl rfl rfl rfl sb rfl rfl (by kernel_rfl) ?_
     refine .ST [8] 8 (.w [] rfl (fa rfl tF112_1) (.w [(54, vP (pn.add 1))] rfl (lB 1 0 tO3) (.w [] rfl (fa rfl tF34_3) (.w [(56, vP (pout.add 3))] rfl (lB 3 7 tO3) (.w [(53, vSl a16 r13 c5), (55, iV ((gt l (gt l5 (nM l2))).cost)), (57, iV x)] rfl (bld (cs := #[.bool true, vSl a16 r13 c5, iV ((gt l (gt l5 (nM l2))).cost), iV x]) (pv := [(0, .bool true), (1, vSl a16 r13 c5), (2, iV ((gt l (gt l5 (nM l2))).cost)), (3, iV x)]) tB34 rfl rfl) (.nil)))))) (.cons [(58, .agg #[.bool true, vSl a16 r13 c5, iV ((gt l (gt l5 (nM l2))).cost), iV x]), (53, vSl a16 r13 c5), (51, vSl al2 l cl2), (52, iV (gt l5 (nM l2))), (53, vSl a16 r13 c5), (54, vP (pn.add 1)), (55, iV ((gt l (gt l5 (nM l2))).cost)), (56, vP (pout.add 3)), (57, iV x), (58, .agg #[.bool true, vSl a16 r13 c5, iV ((gt l (gt l5 (nM l2))).cost), iV x])] rfl rfl (fun sL hL => ?_) (.nil))
     refine st (p := pv3) (off := 0) (k := 6) (vs := [.bool true, vSl a16 r13 c5, iV ((gt l (gt l5 (nM l2))).cost), iV x]) rfl rfl rfl (fun w => (tA34 w).2) rfl rfl rfl rfl ?_
     refine .nil ?_
     refine .jaN (M := [7, 3, 4, 5, 6]) (C' := []) (pre := []) [2, 3, 4, 7, 8] hL rfl rfl rfl rfl rfl (by kernel_rfl) ?_
     refine .LA [(51, vSl al2 l cl2), (52, iV (gt l5 (nM l2))), (53, vSl a16 r13 c5), (54, vP (pn.add 1)), (55, iV ((gt l (gt l5 (nM l2))).cost)), (56, vP (pout.add 3)), (57, iV x), (58, .agg #[.bool true, vSl a16 r13 c5, iV ((gt l (gt l5 (nM l2))).cost), iV x])] (.nil) ?_
     refine .seqN (.ret (.seqR (.blkR (.seqR (.blkR (.seqR ?_))))))
     refine .res1 rfl (rvC rfl tA34 (k := 6) rfl rfl) (inl_back (v := .agg #[.bool true, .slice a16 r13.length c5, iV ((gt l (gt l5 (wr (((l2.length : Nat) : Int) - 1)))).cost), iV x]) q115 rfl ?_)
     refine .KA [Box pn [.slice a15 ((gt l (gt l5 (nM l2))).state.length) c4, iV ((gt l (gt l5 (nM l2))).cost), iV ((gt l (gt l5 (nM l2))).parent), iV ((gt l (gt l5 (nM l2))).op)], Box pg [iV r4.2.code, iV r4.2.index], Box ph [iV r5.2.code, iV r5.2.index], Box pv [.bool false, .slice none 0 0, iV 0, iV 0], Box pv2 [iV 0, iV 0], Box pt3 (tF r2.1 a2 c a3 c2 a4 c3), Box pv3 [.bool true, vSl a16 r13 c5, iV ((gt l (gt l5 (nM l2))).cost), iV x], Box pout [.bool false, .slice none 0 0, iV 0, iV x], Box pnodes [vSl al2 l cl2], Box pv4 [vP pnodes, vSl al3 d3 cl3], OwnMapI bv .i64 (fun zE : Int => iV zE) m3, tru, oL 3 1 al3 d3 cl3] ?_
     refine .V (bld (cs := #[iV 0, iV 0]) (pv := []) tB27 rfl rfl) ?_
     refine st (p := pv) (off := 0) (k := 3) (vs := [.bool true, vSl a16 r13 c5, iV ((gt l (gt l5 (nM l2))).cost), iV x]) rfl rfl rfl (fun w => (tA34 w).2) rfl rfl rfl rfl ?_
     refine st (p := pv2) (off := 0) (k := 4) (vs := [iV 0, iV 0]) rfl rfl rfl (fun w => (tA27 w).2) rfl rfl rfl rfl ?_
     refine .nil (.seqN (.ret ?_))
     refine .res2 rfl (rvC rfl tA34 (k := 3) rfl rfl) (rvC rfl tA27 (k := 4) rfl rfl) (inl_back (v := .tuple #[.agg #[.bool true, .slice a16 r13.length c5, iV ((gt l (gt l5 (wr (((l2.length : Nat) : Int) - 1)))).cost), iV x], .agg #[iV 0, iV 0]]) q50 rfl ?_)
     refine .V mv0 ?_
     refine .V (ext rfl rfl) ?_
     refine .V (ext rfl rfl) ?_
     refine al tZ34 rfl (fun pr3 => ?_)
     refine al tZ27 rfl (fun pi3 => ?_)
     refine st (p := pr3) (off := 0) (k := 1) (vs := [.bool true, vSl a16 r13 c5, iV ((gt l (gt l5 (nM l2))).cost), iV x]) rfl rfl rfl (fun w => (tA34 w).2) rfl rfl rfl rfl ?_
     refine st (p := pi3) (off := 0) (k := 0) (vs := [iV 0, iV 0]) rfl rfl rfl (fun w => (tA27 w).2) rfl rfl rfl rfl ?_
     refine .nil (.seqN (.seq ?_))
     refine .share (σ := Bool) (fun z => F_lawProd_J7 K r4 r5 l l2 l5 z) (fun z => [(7, iV r4.1), (8, vP pg), (9, iV r5.1), (10, vP ph), (11, vP pr3), (12, vP pi3), (59, .bool z)]) (fun _ => [Box pg [iV r4.2.code, iV r4.2.index], Box ph [iV r5.2.code, iV r5.2.index], Box pr3 [.bool true, vSl a16 r13 c5, iV ((gt l (gt l5 (nM l2))).cost), iV x], Box pi3 [iV 0, iV 0]]) (fun _ => h245) ?_ (fun q76 => ?_)
     ·rintro t593 hF
      show J _ _ _ _ _ [(7, iV r4.1), (8, vP pg), (9, iV r5.1), (10, vP ph), (11, vP pr3), (12, vP pi3), (59, .bool t593)] [Box pg [iV r4.2.code, iV r4.2.index], Box ph [iV r5.2.code, iV r5.2.index], Box pr3 [.bool true, vSl a16 r13 c5, iV ((gt l (gt l5 (nM l2))).cost), iV x], Box pi3 [iV 0, iV 0]] h245
      refine .cond rfl (fun q77 => ?_) (fun q77 => ?_)
      ·replace hF := hF.1 q77
       refine .seq ?_
       refine .open_ (by kernel_rfl) (by kernel_rfl) ?_
       refine .V (fa rfl tF27_0) ?_
       refine .V (lB 0 0 tO3) ?_
       refine .V bi0 ?_
       refine .V mv0 ?_
       rcases Bool.eq_false_or_eq_true (r4.2.code == 10) with q19 | q19
       ·replace hF := hF.1 q19
        refine .GS q19 ?_
        refine .GS q19 ?_
        refine .GS q19 ?_
        refine .V (pkT rfl q19 rfl) ?_
        refine .V mv0 ?_
        refine .GT ?_
        refine .GT ?_
        refine .GT ?_
        refine .V (pkT rfl rfl rfl) ?_
        refine .V ag0 ?_
        refine .fin ?_
        refine .seqN (.ret (.seqR ?_))
        refine .res1 rfl (rvT rfl) (fun w' S => ⟨true, hF, rfl, S.below⟩)
       replace hF := hF.2 q19
       refine .GV (fa rfl tF27_0) q19 ?_
       refine .GV (lB 0 1 tO3) q19 ?_
       refine .GV bi0 q19 ?_
       refine .V (pkF rfl q19 rfl) ?_
       refine .V mv0 ?_
       rcases Bool.eq_false_or_eq_true (r5.2.code == 10) with q20 | q20
       ·replace hF := hF.1 q20
        refine .GS q20 ?_
        refine .GS q20 ?_
        refine .GS q20 ?_
        refine .V (pkT rfl q20 rfl) ?_
        refine .V ag0 ?_
        refine .fin ?_
        refine .seqN (.ret (.seqR ?_))
        refine .res1 rfl (rvT rfl) (fun w' S => ⟨true, hF, rfl, S.below⟩)
       replace hF := hF.2 q20
       refine .GV (ldA (cs := [iV 0, iV 0]) rfl tA27 rfl (cellsB (off := 0) (k := 3) rfl (m := 2) rfl)) q20 ?_
       obtain ⟨r14, q126⟩ : ∃ y_ : Fault, y_ = sp_at_ 10 (-7) := ⟨_, rfl⟩
       replace hF := hF r14 q126
       refine .gc (cl (v := .agg #[iV r14.code, iV r14.index]) Tryz.call9 rfl rfl (fun w S => (by rw [q126]; exact c_at_ S.sub 10 (-7) ))) rfl rfl rfl q20 rfl rfl ?_
       refine .GV (eq2 tE27 rfl rfl) q20 ?_
       refine .V (pkF rfl q20 rfl) ?_
       refine .V ag0 ?_
       refine .fin ?_
       refine .seqN (.ret (.seqR ?_))
       refine .res1 rfl (rvT rfl) (fun w' S => ⟨(0 == r14.code) && (0 == r14.index), hF, rfl, S.below⟩)
      replace hF := hF.2 q77
      refine .skip (.seqN (.seq ?_))
      refine .share (σ := Bool) (fun z => F_lawProd_J8 K r4 r5 l l2 l5 z) (fun z => [(7, iV r4.1), (9, iV r5.1), (11, vP pr3), (78, .bool z)]) (fun _ => [Box pr3 [.bool true, vSl a16 r13 c5, iV ((gt l (gt l5 (nM l2))).cost), iV x]]) (fun _ => h245) ?_ (fun q127 => ?_)
      ·rintro t783 hF
       show J _ _ _ _ _ [(7, iV r4.1), (9, iV r5.1), (11, vP pr3), (78, .bool t783)] [Box pr3 [.bool true, vSl a16 r13 c5, iV ((gt l (gt l5 (nM l2))).cost), iV x]] h245
       refine .cond rfl (fun q78 => ?_) (fun q78 => ?_)
       ·replace hF := hF.1 q78
        refine .seq (.region (.V (fa rfl tF34_0) ?_))
        refine .V (lB 0 0 tO4) ?_
        refine .V (nt rfl) ?_
        refine .V ag0 ?_
        refine .nil (.seqN (.ret (.seqR ?_)))
        refine .res1 rfl (rvT rfl) (fun w' S => ⟨!true, hF, rfl, S.below⟩)
       replace hF := hF.2 q78
       refine .skip (.seqN (.seq (.region (.V (fa rfl tF34_0) ?_))))
       refine .V (lB 0 0 tO4) ?_
       refine .V mv0 ?_
       refine .gv (fa rfl tF34_2) rfl rfl rfl rfl rfl rfl ?_
       refine .gv (lB 2 0 tO3) rfl rfl rfl rfl rfl rfl ?_
       refine .gv mv0 rfl rfl rfl rfl rfl rfl ?_
       refine .gv mv0 rfl rfl rfl rfl rfl rfl ?_
       refine .gv bi0 rfl rfl rfl rfl rfl rfl ?_
       obtain ⟨x3, q128⟩ : ∃ y_ : Bool, y_ = (((gt l (gt l5 (wr (((l2.length : Nat) : Int) - 1)))).cost) == (wr (r4.1 + r5.1))) := ⟨_, rfl⟩
       replace hF := hF x3 q128
       refine .gv (v := .bool x3) (by rw [q128]; exact bi rfl rfl rfl) rfl rfl rfl rfl rfl rfl ?_
       refine .V (pkT rfl rfl rfl) ?_
       refine .V ag0 ?_
       refine .nil (.seqN (.ret ?_))
       refine .res1 rfl (rvT rfl) (fun w' S => ⟨x3, hF, rfl, S.below⟩)
      refine .region (.V mv0 ?_)
      refine .V bi0 ?_
      refine .V mv0 ?_
      rcases Bool.eq_false_or_eq_true (r4.1 == 1000000000) with q33 | q33
      ·replace hF := hF.1 q33
       refine .GS q33 ?_
       refine .GS q33 ?_
       refine .V (pkT rfl q33 rfl) ?_
       refine .nil ?_
       refine .sel0 [2] (by decide) rfl ?_
       exact .US q127 true hF
      replace hF := hF.2 q33
      refine .GV mv0 q33 ?_
      refine .GV bi0 q33 ?_
      refine .V (pkF rfl q33 rfl) ?_
      refine .nil ?_
      refine .sel0 [2] (by decide) rfl ?_
      exact .US q127 (r5.1 == 1000000000) hF
     refine .region (.V (fa rfl tF27_0) ?_)
     refine .V (lB 0 3 tO3) ?_
     refine .V bi0 ?_
     refine .V mv0 ?_
     rcases Bool.eq_false_or_eq_true (r4.2.code != 0) with q21 | q21
     ·replace hF := hF.1 q21
      refine .GS q21 ?_
      refine .GS q21 ?_
      refine .GS q21 ?_
      refine .V (pkT rfl q21 rfl) ?_
      refine .V mv0 ?_
      refine .GT ?_
      refine .GT ?_
      refine .GT ?_
      refine .V (pkT rfl rfl rfl) ?_
      refine .nil ?_
      refine .sel0 [3, 4, 1, 0] (by decide) rfl ?_
      exact .US q76 true hF
     replace hF := hF.2 q21
     refine .GV (fa rfl tF27_0) q21 ?_
     refine .GV (lB 0 4 tO3) q21 ?_
     refine .GV bi0 q21 ?_
     refine .V (pkF rfl q21 rfl) ?_
     refine .V mv0 ?_
     rcases Bool.eq_false_or_eq_true (r5.2.code != 0) with q22 | q22
     ·replace hF := hF.1 q22
      refine .GS q22 ?_
      refine .GS q22 ?_
      refine .GS q22 ?_
      refine .V (pkT rfl q22 rfl) ?_
      refine .nil ?_
      refine .sel0 [3, 4, 1, 0] (by decide) rfl ?_
      exact .US q76 true hF
     replace hF := hF.2 q22
     refine .GV (fa rfl tF27_0) q22 ?_
     refine .GV (lB 0 0 tO3) q22 ?_
     refine .GV bi0 q22 ?_
     refine .V (pkF rfl q22 rfl) ?_
     refine .nil ?_
     refine .sel0 [3, 4, 1, 0] (by decide) rfl ?_
     exact .US q76 (0 != 0) hF
    replace hF := hF.2 q75
    refine .skip (.seqN (.seq (.region (.V (fa rfl tF34_3) ?_))))
    refine .V (lB 3 7 tO3) ?_
    refine .V bi0 ?_
    refine .V (fa rfl tF34_3) ?_
    refine st (p := pout) (off := 3) (k := 7) (vs := [iV (wr (x + 1))]) rfl rfl rfl (fun w => (tO3 w).2) rfl rfl rfl rfl ?_
    refine .nil (.seqN (.seq (.region (.V (ldA (cs := (tF r2.1 a2 c a3 c2 a4 c3)) rfl tA25 rfl (cellsB (off := 0) (k := 5) rfl (m := 4) rfl)) ?_))))
    refine .V (fa rfl tF112_0) ?_
    refine .V (lB 0 0 tO22) ?_
    obtain ⟨q178, hF⟩ := hF
    obtain ⟨r15, q129⟩ : ∃ y_ : List Int, y_ = sp_stubborn r2.1 ((gt l (gt l5 (wr (((l2.length : Nat) : Int) - 1)))).state) := ⟨_, rfl⟩
    replace hF := hF r15 q129
    refine clR (α := Option Addr × Nat) (Φ := fun h1 z => RSl h1 z.1 r15 ∧ r15.length ≤ z.2) (V := fun z => vSl z.1 r15 z.2) Tryz.call57 rfl rfl (fun w S => (by rw [q129]; exact c_stubborn S.sub r2.1 a2 c (q42.mono (q18)) q43 a3 c2 (q44.mono (q18)) q45 a4 c3 (q38.mono (q18)) q49 ((gt l (gt l5 (nM l2))).state) a15 c4 q47 q46 q178)) rfl (fun z h246 le246 hz => ?_)
    obtain ⟨a17, c6⟩ := z
    obtain ⟨q130, q203⟩ := hz
    refine .V (ln rfl tS22.is) ?_
    refine .V mv0 ?_
    refine .nil (.seqN (.block ?_))
    refine .sel0 [5, 6, 7, 8, 9, 10, 0, 1, 2, 3, 4, 11, 12] (by decide) rfl ?_
    obtain ⟨I2, μ2, q79, q179⟩ := hF
    refine .loop' (σ := Int × List Node × List Int × Option Addr × Nat × List Value × Option Addr × Nat × FH) (fun z => I2 z.1 z.2.1 z.2.2.1 ∧ RepL z.2.2.2.2.2.2.2.2 z.2.1 z.2.2.2.2.2.1 ∧ FH.le h246 z.2.2.2.2.2.2.2.2) (fun z => μ2 z.1 z.2.1 z.2.2.1) (fun z => [(1, vP pt3), (2, vP pv3), (3, vP pout), (4, vP pnodes), (5, vP pv4), (6, .map (some bv)), (7, iV (gt l5 (nM l2))), (8, vP pn), (66, vSl a17 r15 c6), (67, iV ((r15.length : Nat) : Int)), (68, iV z.1)]) (fun z => [Box pt3 (tF r2.1 a2 c a3 c2 a4 c3), Box pv3 [.bool false, .slice none 0 0, iV 0, iV 0], Box pout [.bool false, .slice none 0 0, iV 0, iV (wr (x + 1))], Box pnodes [vSl z.2.2.2.1 z.2.1 z.2.2.2.2.1], Box pv4 [vP pnodes, vSl z.2.2.2.2.2.2.1 z.2.2.1 z.2.2.2.2.2.2.2.1], OwnMapI bv .i64 (fun zE : Int => iV zE) m3, Box pn [.slice a15 ((gt l (gt l5 (nM l2))).state.length) c4, iV ((gt l (gt l5 (nM l2))).cost), iV ((gt l (gt l5 (nM l2))).parent), iV ((gt l (gt l5 (nM l2))).op)], Box pg [iV r4.2.code, iV r4.2.index], Box ph [iV r5.2.code, iV r5.2.index], Box pv [.bool false, .slice none 0 0, iV 0, iV 0], Box pv2 [iV 0, iV 0], OwnSl 112 4 z.2.2.2.1 z.2.1.length z.2.2.2.2.1 z.2.2.2.2.2.1, oL 3 1 z.2.2.2.2.2.2.1 z.2.2.1 z.2.2.2.2.2.2.2.1]) (fun z => z.2.2.2.2.2.2.2.2) (0, l, d3, al2, cl2, csl, al3, cl3, h246) ⟨q79, (RepL.mono (le246) q37), (FH.le_refl _)⟩ sb rfl (FH.le_refl _) ?_
    rintro ⟨t68, l6, l7, al6, cl6, csl3, al7, cl7, h254⟩ ⟨q79, q131, q34⟩
    have hF := q179 t68 l6 l7 q79
    show J _ _ _ _ _ [(1, vP pt3), (2, vP pv3), (3, vP pout), (4, vP pnodes), (5, vP pv4), (6, .map (some bv)), (7, iV (gt l5 (nM l2))), (8, vP pn), (66, vSl a17 r15 c6), (67, iV ((r15.length : Nat) : Int)), (68, iV t68)] [Box pt3 (tF r2.1 a2 c a3 c2 a4 c3), Box pv3 [.bool false, .slice none 0 0, iV 0, iV 0], Box pout [.bool false, .slice none 0 0, iV 0, iV (wr (x + 1))], Box pnodes [vSl al6 l6 cl6], Box pv4 [vP pnodes, vSl al7 l7 cl7], OwnMapI bv .i64 (fun zE : Int => iV zE) m3, Box pn [.slice a15 ((gt l (gt l5 (nM l2))).state.length) c4, iV ((gt l (gt l5 (nM l2))).cost), iV ((gt l (gt l5 (nM l2))).parent), iV ((gt l (gt l5 (nM l2))).op)], Box pg [iV r4.2.code, iV r4.2.index], Box ph [iV r5.2.code, iV r5.2.index], Box pv [.bool false, .slice none 0 0, iV 0, iV 0], Box pv2 [iV 0, iV 0], OwnSl 112 4 al6 l6.length cl6 csl3, oL 3 1 al7 l7 cl7] h254
    refine .seq (.region (.V bi0 ?_))
    refine .nil (.seqN (.seq ?_))
    refine .cond rfl (fun q80 => ?_) (fun q80 => ?_)
    ·replace hF := hF.1 q80
     refine .skip (.seqN ?_)
     refine .share (σ := List Node × List Int × Option Addr × Nat × List Value × Option Addr × Nat × FH) (fun z => F_lawProd_J9 I2 μ2 t68 l6 l7 z.1 z.2.1 ∧ RepL z.2.2.2.2.2.2.2 z.1 z.2.2.2.2.1 ∧ FH.le h254 z.2.2.2.2.2.2.2) (fun _ => [(1, vP pt3), (2, vP pv3), (3, vP pout), (4, vP pnodes), (5, vP pv4), (6, .map (some bv)), (7, iV (gt l5 (nM l2))), (8, vP pn), (66, vSl a17 r15 c6), (67, iV ((r15.length : Nat) : Int)), (68, iV t68)]) (fun z => [Box pt3 (tF r2.1 a2 c a3 c2 a4 c3), Box pv3 [.bool false, .slice none 0 0, iV 0, iV 0], Box pout [.bool false, .slice none 0 0, iV 0, iV (wr (x + 1))], Box pnodes [vSl z.2.2.1 z.1 z.2.2.2.1], Box pv4 [vP pnodes, vSl z.2.2.2.2.2.1 z.2.1 z.2.2.2.2.2.2.1], OwnMapI bv .i64 (fun zE : Int => iV zE) m3, Box pn [.slice a15 ((gt l (gt l5 (nM l2))).state.length) c4, iV ((gt l (gt l5 (nM l2))).cost), iV ((gt l (gt l5 (nM l2))).parent), iV ((gt l (gt l5 (nM l2))).op)], Box pg [iV r4.2.code, iV r4.2.index], Box ph [iV r5.2.code, iV r5.2.index], Box pv [.bool false, .slice none 0 0, iV 0, iV 0], Box pv2 [iV 0, iV 0], OwnSl 112 4 z.2.2.1 z.1.length z.2.2.2.1 z.2.2.2.2.1, oL 3 1 z.2.2.2.2.2.1 z.2.1 z.2.2.2.2.2.2.1]) (fun z => z.2.2.2.2.2.2.2) ?_ (fun q132 => ?_)
     ·rintro ⟨l10, l11, al10, cl10, csl5, al11, cl11, h263⟩ ⟨hF, q180, q181⟩
      show J _ _ _ _ _ [(1, vP pt3), (2, vP pv3), (3, vP pout), (4, vP pnodes), (5, vP pv4), (6, .map (some bv)), (7, iV (gt l5 (nM l2))), (8, vP pn), (66, vSl a17 r15 c6), (67, iV ((r15.length : Nat) : Int)), (68, iV t68)] [Box pt3 (tF r2.1 a2 c a3 c2 a4 c3), Box pv3 [.bool false, .slice none 0 0, iV 0, iV 0], Box pout [.bool false, .slice none 0 0, iV 0, iV (wr (x + 1))], Box pnodes [vSl al10 l10 cl10], Box pv4 [vP pnodes, vSl al11 l11 cl11], OwnMapI bv .i64 (fun zE : Int => iV zE) m3, Box pn [.slice a15 ((gt l (gt l5 (nM l2))).state.length) c4, iV ((gt l (gt l5 (nM l2))).cost), iV ((gt l (gt l5 (nM l2))).parent), iV ((gt l (gt l5 (nM l2))).op)], Box pg [iV r4.2.code, iV r4.2.index], Box ph [iV r5.2.code, iV r5.2.index], Box pv [.bool false, .slice none 0 0, iV 0, iV 0], Box pv2 [iV 0, iV 0], OwnSl 112 4 al10 l10.length cl10 csl5, oL 3 1 al11 l11 cl11] h263
      refine .region (.V bi0 ?_)
      refine .V mv0 ?_
      refine .nil ?_
      exact .RO (wr (t68 + 1), l10, l11, al10, cl10, csl5, al11, cl11, h263) ⟨hF.1, q180, (FH.le_trans (q34) (q181))⟩ hF.2
     refine .block (.seq (.region ?_))
     obtain ⟨q81, hF⟩ := hF
     refine .V (ix rfl rfl tS22 (q130.ne (by decide) (inb_pos q81)) q81) ?_
     refine .V (ld1 (v := iV (gt r15 t68)) rfl tO3 (cellH ((q130.mono (q34)).elemF q81 (by decide) 0 _ rfl))) ?_
     refine .V ag0 ?_
     refine .nil (.seqN (.seq ?_))
     obtain ⟨q48, hF⟩ := hF
     obtain ⟨_, ⟨a18, c7, a19, c8, a20, c9, rfl, ⟨q204, q205⟩, ⟨q206, q207⟩, q208, q209⟩, q133⟩ := q38.elem q48
     refine .OA (s0 := [(1, vP pt3), (2, vP pv3), (3, vP pout), (4, vP pnodes), (5, vP pv4), (6, .map (some bv)), (7, iV (gt l5 (nM l2))), (8, vP pn), (12, iV (gt r15 t68)), (66, vSl a17 r15 c6), (67, iV ((r15.length : Nat) : Int)), (68, iV t68)]) [0, 1, 2, 3, 4, 6, 7, 8, 9, 10, 11, 12, 13, 14, 15, 16] [(0, vSl al6 l6 cl6), (1, .agg (tF r2.1 a2 c a3 c2 a4 c3).toArray), (2, vP (pn.add 0)), (3, .slice a15 ((gt l (gt l5 (nM l2))).state.length) c4), (4, iV (gt r15 t68)), (6, vP (pn.add 1)), (7, iV ((gt l (gt l5 (nM l2))).cost)), (8, vP (pt3.add 3)), (9, vSl a4 r2.1.ops c3), (10, iV (gt r15 t68)), (11, vP (ead a4 ((gt r15 t68).toNat * 4))), (12, vP ((ead a4 ((gt r15 t68).toNat * 4)).add 3)), (13, iV ((gt r2.1.ops (gt r15 t68)).cost)), (14, iV (wr (((gt l (gt l5 (nM l2))).cost) + ((gt r2.1.ops (gt r15 t68)).cost)))), (15, iV (gt l5 (nM l2))), (16, iV (gt r15 t68))] [1, 2, 3, 4, 5, 6, 7, 8, 12, 66, 67, 68] [] ?_
     refine .ST [5] 5 (.w [] rfl (lB 0 3 tO113) (.w [] rfl (ldA (cs := (tF r2.1 a2 c a3 c2 a4 c3)) rfl tA25 rfl (cellsB (off := 0) (k := 0) rfl (m := 4) rfl)) (.w [] rfl (fa rfl tF112_0) (.w [(74, vP (pn.add 0))] rfl (lB 0 6 tO22) (.w [] rfl mv0 (.w [] rfl (fa rfl tF112_1) (.w [(78, vP (pn.add 1))] rfl (lB 1 6 tO3) (.w [] rfl (fa rfl tF25_3) (.w [(80, vP (pt3.add 3))] rfl (lB 3 0 tO23) (.w [] rfl mv0 (.w [(81, vSl a4 r2.1.ops c3), (82, iV (gt r15 t68))] rfl (ix rfl rfl tS23 (q38.ne (by decide) (inb_pos q48)) q48) (.w [(83, vP (ead a4 ((gt r15 t68).toNat * 4)))] rfl (fa rfl tF52_3) (.w [(84, vP ((ead a4 ((gt r15 t68).toNat * 4)).add 3))] rfl (ld1 (v := iV ((gt r2.1.ops (gt r15 t68)).cost)) rfl tO3 (cellH ((fun q => (q133 q).mono (FH.le_trans (FH.le_trans (q18) (le246)) (q34))) (by decide) 3 _ rfl))) (.w [(79, iV ((gt l (gt l5 (nM l2))).cost)), (85, iV ((gt r2.1.ops (gt r15 t68)).cost))] rfl bi0 (.w [] rfl mv0 (.w [] rfl mv0 (.nil))))))))))))))))) (.cons [(73, .agg (tF r2.1 a2 c a3 c2 a4 c3).toArray), (75, .slice a15 ((gt l (gt l5 (nM l2))).state.length) c4), (76, iV (gt r15 t68))] rfl rfl (fun sL hL => ?_) (.nil))
     obtain ⟨q182, hF⟩ := hF
     obtain ⟨r16, q134⟩ : ∃ y_ : List Int, y_ = sp_after r2.1 ((gt l (gt l5 (wr (((l2.length : Nat) : Int) - 1)))).state) (gt r15 t68) := ⟨_, rfl⟩
     replace hF := hF r16 q134
     refine clR (α := Option Addr × Nat) (Φ := fun h1 z => RSl h1 z.1 r16 ∧ r16.length ≤ z.2) (V := fun z => vSl z.1 r16 z.2) Tryz.call58 rfl rfl (fun w S => (by rw [q134]; exact c_next S.sub r2.1 a2 c (q42.mono (FH.le_trans (FH.le_trans (q18) (le246)) (q34))) q43 a3 c2 (q44.mono (FH.le_trans (FH.le_trans (q18) (le246)) (q34))) q45 a4 c3 (q38.mono (FH.le_trans (FH.le_trans (q18) (le246)) (q34))) q49 ((gt l (gt l5 (nM l2))).state) a15 c4 (q47.mono (FH.le_trans (le246) (q34))) q46 (gt r15 t68) q182)) rfl (fun z h265 le265 hz => ?_)
     obtain ⟨a21, c10⟩ := z
     obtain ⟨q82, q83⟩ := hz
     refine .nil ?_
     refine .ja (M := [1, 3, 4, 2]) (C' := [0, 6, 7, 8, 9, 10, 11, 12, 13, 14, 15, 16, 17]) (pre := [(5, vSl a21 r16 c10), (17, .agg #[vSl a21 r16 c10, iV (wr (((gt l (gt l5 (nM l2))).cost) + ((gt r2.1.ops (gt r15 t68)).cost))), iV (gt l5 (nM l2)), iV (gt r15 t68)])]) [(1, vP pt3), (2, vP pv3), (3, vP pout), (4, vP pnodes), (5, vP pv4), (6, .map (some bv)), (7, iV (gt l5 (nM l2))), (8, vP pn), (12, iV (gt r15 t68)), (66, vSl a17 r15 c6), (67, iV ((r15.length : Nat) : Int)), (68, iV t68)] [1, 2, 3, 4, 5, 6, 7, 8, 12, 66, 67, 68] hL rfl rfl rfl rfl rfl sb rfl rfl (by kernel_rfl) ?_
     refine .ST [18] 18 (.w [] rfl (lB 0 3 tO113) (.w [] rfl (fa rfl tF112_1) (.w [(78, vP (pn.add 1))] rfl (lB 1 6 tO3) (.w [] rfl (fa rfl tF25_3) (.w [(80, vP (pt3.add 3))] rfl (lB 3 0 tO23) (.w [] rfl mv0 (.w [(81, vSl a4 r2.1.ops c3), (82, iV (gt r15 t68))] rfl (ix rfl rfl tS23 (q38.ne (by decide) (inb_pos q48)) q48) (.w [(83, vP (ead a4 ((gt r15 t68).toNat * 4)))] rfl (fa rfl tF52_3) (.w [(84, vP ((ead a4 ((gt r15 t68).toNat * 4)).add 3))] rfl (ld1 (v := iV ((gt r2.1.ops (gt r15 t68)).cost)) rfl tO3 (cellH ((fun q => (q133 q).mono (FH.le_trans (FH.le_trans (FH.le_trans (q18) (le246)) (q34)) (le265))) (by decide) 3 _ rfl))) (.w [(79, iV ((gt l (gt l5 (nM l2))).cost)), (85, iV ((gt r2.1.ops (gt r15 t68)).cost))] rfl bi0 (.w [] rfl mv0 (.w [] rfl mv0 (.w [(77, vSl a21 r16 c10), (86, iV (wr (((gt l (gt l5 (nM l2))).cost) + ((gt r2.1.ops (gt r15 t68)).cost)))), (87, iV (gt l5 (nM l2))), (88, iV (gt r15 t68))] rfl (bld (cs := #[vSl a21 r16 c10, iV (wr (((gt l (gt l5 (nM l2))).cost) + ((gt r2.1.ops (gt r15 t68)).cost))), iV (gt l5 (nM l2)), iV (gt r15 t68)]) (pv := [(0, vSl a21 r16 c10), (1, iV (wr (((gt l (gt l5 (nM l2))).cost) + ((gt r2.1.ops (gt r15 t68)).cost)))), (2, iV (gt l5 (nM l2))), (3, iV (gt r15 t68))]) tB112 rfl rfl) (.nil)))))))))))))) (.cons [(89, .agg #[vSl a21 r16 c10, iV (wr (((gt l (gt l5 (nM l2))).cost) + ((gt r2.1.ops (gt r15 t68)).cost))), iV (gt l5 (nM l2)), iV (gt r15 t68)])] rfl rfl (fun sL hL => ?_) (.nil))
     refine bs2 (cs := #[vSl a21 r16 c10, iV (wr (((gt l (gt l5 (nM l2))).cost) + ((gt r2.1.ops (gt r15 t68)).cost))), iV (gt l5 (nM l2)), iV (gt r15 t68)]) (pv := [(0, .agg #[vSl a21 r16 c10, iV (wr (((gt l (gt l5 (nM l2))).cost) + ((gt r2.1.ops (gt r15 t68)).cost))), iV (gt l5 (nM l2)), iV (gt r15 t68)])]) tS113 rfl rfl (by decide) (by decide) rfl rfl rfl (fun a22 _ => ?_)
     refine .nil ?_
     refine .ja (M := [17, 14, 15, 16, 7, 13, 6, 12, 11, 9, 10, 8]) (C' := [0]) (pre := [(18, vSl a22 ([(⟨r16, wr (((gt l (gt l5 (nM l2))).cost) + ((gt r2.1.ops (gt r15 t68)).cost)), (gt l5 (nM l2)), (gt r15 t68)⟩ : Node)] : List Node) 1)]) [(1, vP pt3), (2, vP pv3), (3, vP pout), (4, vP pnodes), (5, vP pv4), (6, .map (some bv)), (7, iV (gt l5 (nM l2))), (8, vP pn), (12, iV (gt r15 t68)), (66, vSl a17 r15 c6), (67, iV ((r15.length : Nat) : Int)), (68, iV t68)] [1, 2, 3, 4, 5, 6, 7, 8, 12, 66, 67, 68] hL rfl rfl rfl rfl rfl sb rfl rfl (by kernel_rfl) ?_
     refine .ST [19] 19 (.w [] rfl (lB 0 4 tO113) (.nil)) (.cons [(72, vSl al6 l6 cl6), (90, vSl a22 ([(⟨r16, wr (((gt l (gt l5 (nM l2))).cost) + ((gt r2.1.ops (gt r15 t68)).cost)), (gt l5 (nM l2)), (gt r15 t68)⟩ : Node)] : List Node) 1), (77, vSl a21 r16 c10)] rfl rfl (fun sL hL => ?_) (.nil))
     obtain ⟨q135, hF⟩ := hF
     have q84 : l6.length + ([(⟨r16, wr (((gt l (gt l5 (wr (((l2.length : Nat) : Int) - 1)))).cost) + ((gt r2.1.ops (gt r15 t68)).cost)), (gt l5 (wr (((l2.length : Nat) : Int) - 1))), (gt r15 t68)⟩ : Node)] : List Node).length = ((l6 ++ ([(⟨r16, wr (((gt l (gt l5 (wr (((l2.length : Nat) : Int) - 1)))).cost) + ((gt r2.1.ops (gt r15 t68)).cost)), (gt l5 (wr (((l2.length : Nat) : Int) - 1))), (gt r15 t68)⟩ : Node)] : List Node))).length := len_app rfl rfl
     have q53 := RepL.append (RepL.mono (le265) q131) (show RepL h265 ([(⟨r16, wr (((gt l (gt l5 (wr (((l2.length : Nat) : Int) - 1)))).cost) + ((gt r2.1.ops (gt r15 t68)).cost)), (gt l5 (wr (((l2.length : Nat) : Int) - 1))), (gt r15 t68)⟩ : Node)] : List Node) [.slice a21 r16.length c10, iV (wr (((gt l (gt l5 (wr (((l2.length : Nat) : Int) - 1)))).cost) + ((gt r2.1.ops (gt r15 t68)).cost))), iV (gt l5 (wr (((l2.length : Nat) : Int) - 1))), iV (gt r15 t68)] from ⟨[.slice a21 r16.length c10, iV (wr (((gt l (gt l5 (wr (((l2.length : Nat) : Int) - 1)))).cost) + ((gt r2.1.ops (gt r15 t68)).cost))), iV (gt l5 (wr (((l2.length : Nat) : Int) - 1))), iV (gt r15 t68)], _, rfl, ⟨a21, c10, rfl, ⟨q83, q82⟩⟩, rfl⟩)
     refine app (k := 12) (news := [vSl a21 r16 c10, iV (wr (((gt l (gt l5 (nM l2))).cost) + ((gt r2.1.ops (gt r15 t68)).cost))), iV (gt l5 (nM l2)), iV (gt r15 t68)]) (cs' := (csl3 ++ [vSl a21 r16 c10, iV (wr (((gt l (gt l5 (nM l2))).cost) + ((gt r2.1.ops (gt r15 t68)).cost))), iV (gt l5 (nM l2)), iV (gt r15 t68)])) (nm := ((l6 ++ ([(⟨r16, wr (((gt l (gt l5 (nM l2))).cost) + ((gt r2.1.ops (gt r15 t68)).cost)), (gt l5 (nM l2)), (gt r15 t68)⟩ : Node)] : List Node))).length) tS113 rfl (by decide) rfl rfl rfl (RepL.len (show RepL h265 ([(⟨r16, wr (((gt l (gt l5 (nM l2))).cost) + ((gt r2.1.ops (gt r15 t68)).cost)), (gt l5 (nM l2)), (gt r15 t68)⟩ : Node)] : List Node) [vSl a21 r16 c10, iV (wr (((gt l (gt l5 (nM l2))).cost) + ((gt r2.1.ops (gt r15 t68)).cost))), iV (gt l5 (nM l2)), iV (gt r15 t68)] from ⟨[vSl a21 r16 c10, iV (wr (((gt l (gt l5 (nM l2))).cost) + ((gt r2.1.ops (gt r15 t68)).cost))), iV (gt l5 (nM l2)), iV (gt r15 t68)], _, rfl, ⟨a21, c10, rfl, ⟨q83, q82⟩⟩, rfl⟩)) (srcS (k := 0) rfl) (RepL.one (show RepL h265 ([(⟨r16, wr (((gt l (gt l5 (nM l2))).cost) + ((gt r2.1.ops (gt r15 t68)).cost)), (gt l5 (nM l2)), (gt r15 t68)⟩ : Node)] : List Node) [vSl a21 r16 c10, iV (wr (((gt l (gt l5 (nM l2))).cost) + ((gt r2.1.ops (gt r15 t68)).cost))), iV (gt l5 (nM l2)), iV (gt r15 t68)] from ⟨[vSl a21 r16 c10, iV (wr (((gt l (gt l5 (nM l2))).cost) + ((gt r2.1.ops (gt r15 t68)).cost))), iV (gt l5 (nM l2)), iV (gt r15 t68)], _, rfl, ⟨a21, c10, rfl, ⟨q83, q82⟩⟩, rfl⟩)) (room_of q84 q135).1 (room_of q84 q135).2 q84 rfl rfl (fun a23 c11 => ?_)
     refine .nil ?_
     refine .ja (M := [0]) (C' := []) (pre := [(19, vSl a23 (l6 ++ ([(⟨r16, wr (((gt l (gt l5 (nM l2))).cost) + ((gt r2.1.ops (gt r15 t68)).cost)), (gt l5 (nM l2)), (gt r15 t68)⟩ : Node)] : List Node)) c11)]) [(1, vP pt3), (2, vP pv3), (3, vP pout), (4, vP pnodes), (5, vP pv4), (6, .map (some bv)), (7, iV (gt l5 (nM l2))), (8, vP pn), (12, iV (gt r15 t68)), (66, vSl a17 r15 c6), (67, iV ((r15.length : Nat) : Int)), (68, iV t68)] [1, 2, 3, 4, 5, 6, 7, 8, 12, 66, 67, 68] hL rfl rfl rfl rfl rfl sb rfl rfl (by kernel_rfl) ?_
     refine .ST [20] 20 (.nil) (.cons [(91, vSl a23 (l6 ++ ([(⟨r16, wr (((gt l (gt l5 (nM l2))).cost) + ((gt r2.1.ops (gt r15 t68)).cost)), (gt l5 (nM l2)), (gt r15 t68)⟩ : Node)] : List Node)) c11), (91, vSl a23 (l6 ++ ([(⟨r16, wr (((gt l (gt l5 (nM l2))).cost) + ((gt r2.1.ops (gt r15 t68)).cost)), (gt l5 (nM l2)), (gt r15 t68)⟩ : Node)] : List Node)) c11), (72, vSl al6 l6 cl6), (73, .agg (tF r2.1 a2 c a3 c2 a4 c3).toArray), (74, vP (pn.add 0)), (75, .slice a15 ((gt l (gt l5 (nM l2))).state.length) c4), (76, iV (gt r15 t68)), (77, vSl a21 r16 c10), (78, vP (pn.add 1)), (79, iV ((gt l (gt l5 (nM l2))).cost)), (80, vP (pt3.add 3)), (81, vSl a4 r2.1.ops c3), (82, iV (gt r15 t68)), (83, vP (ead a4 ((gt r15 t68).toNat * 4))), (84, vP ((ead a4 ((gt r15 t68).toNat * 4)).add 3)), (85, iV ((gt r2.1.ops (gt r15 t68)).cost)), (86, iV (wr (((gt l (gt l5 (nM l2))).cost) + ((gt r2.1.ops (gt r15 t68)).cost)))), (87, iV (gt l5 (nM l2))), (88, iV (gt r15 t68)), (89, .agg #[vSl a21 r16 c10, iV (wr (((gt l (gt l5 (nM l2))).cost) + ((gt r2.1.ops (gt r15 t68)).cost))), iV (gt l5 (nM l2)), iV (gt r15 t68)]), (90, vSl a22 ([(⟨r16, wr (((gt l (gt l5 (nM l2))).cost) + ((gt r2.1.ops (gt r15 t68)).cost)), (gt l5 (nM l2)), (gt r15 t68)⟩ : Node)] : List Node) 1), (91, vSl a23 (l6 ++ ([(⟨r16, wr (((gt l (gt l5 (nM l2))).cost) + ((gt r2.1.ops (gt r15 t68)).cost)), (gt l5 (nM l2)), (gt r15 t68)⟩ : Node)] : List Node)) c11)] rfl rfl (fun sL hL => ?_) (.nil))
     refine st (p := pnodes) (off := 0) (k := 4) (vs := [vSl a23 (l6 ++ ([(⟨r16, wr (((gt l (gt l5 (nM l2))).cost) + ((gt r2.1.ops (gt r15 t68)).cost)), (gt l5 (nM l2)), (gt r15 t68)⟩ : Node)] : List Node)) c11]) rfl rfl rfl (fun w => (tO113 w).2) rfl rfl rfl rfl ?_
     refine .nil ?_
     refine .jaN (M := []) (C' := []) (pre := []) [1, 2, 3, 4, 5, 6, 7, 8, 12, 66, 67, 68] hL rfl rfl rfl rfl rfl (by kernel_rfl) ?_
     refine .LA [(72, vSl al6 l6 cl6), (73, .agg (tF r2.1 a2 c a3 c2 a4 c3).toArray), (74, vP (pn.add 0)), (75, .slice a15 ((gt l (gt l5 (nM l2))).state.length) c4), (76, iV (gt r15 t68)), (77, vSl a21 r16 c10), (78, vP (pn.add 1)), (79, iV ((gt l (gt l5 (nM l2))).cost)), (80, vP (pt3.add 3)), (81, vSl a4 r2.1.ops c3), (82, iV (gt r15 t68)), (83, vP (ead a4 ((gt r15 t68).toNat * 4))), (84, vP ((ead a4 ((gt r15 t68).toNat * 4)).add 3)), (85, iV ((gt r2.1.ops (gt r15 t68)).cost)), (86, iV (wr (((gt l (gt l5 (nM l2))).cost) + ((gt r2.1.ops (gt r15 t68)).cost)))), (87, iV (gt l5 (nM l2))), (88, iV (gt r15 t68)), (89, .agg #[vSl a21 r16 c10, iV (wr (((gt l (gt l5 (nM l2))).cost) + ((gt r2.1.ops (gt r15 t68)).cost))), iV (gt l5 (nM l2)), iV (gt r15 t68)]), (90, vSl a22 ([(⟨r16, wr (((gt l (gt l5 (nM l2))).cost) + ((gt r2.1.ops (gt r15 t68)).cost)), (gt l5 (nM l2)), (gt r15 t68)⟩ : Node)] : List Node) 1), (91, vSl a23 (l6 ++ ([(⟨r16, wr (((gt l (gt l5 (nM l2))).cost) + ((gt r2.1.ops (gt r15 t68)).cost)), (gt l5 (nM l2)), (gt r15 t68)⟩ : Node)] : List Node)) c11)] (.nil) ?_
     refine .seqN (.region (.V mv0 ?_))
     refine .V (mkI tC114 rfl) ?_
     refine .V (lB 0 4 tO113) ?_
     obtain ⟨x4, q136⟩ : ∃ y_ : Int, y_ = (((l6 ++ ([(⟨r16, wr (((gt l (gt l5 (wr (((l2.length : Nat) : Int) - 1)))).cost) + ((gt r2.1.ops (gt r15 t68)).cost)), (gt l5 (wr (((l2.length : Nat) : Int) - 1))), (gt r15 t68)⟩ : Node)] : List Node)).length : Nat) : Int) := ⟨_, rfl⟩
     replace hF := hF x4 q136
     refine .v (v := iV x4) (by rw [q136]; exact ln rfl tS113.is) rfl rfl rfl ?_
     refine .V bi0 ?_
     refine .V (mkI tC3 rfl) ?_
     refine .inl Tryz.func59 rfl Tryz.ntmps59 Tryz.call59 rfl rfl rfl rfl (fun a24 q137 => ?_)
     refine .seq (.region (.V mv0 ?_))
     refine .V mv0 ?_
     refine .inlI Tryz.func158 rfl Tryz.ntmps158 Tryz.call158 tm114_Push rfl rfl rfl (fun a25 q183 => ?_)
     refine .OA (s0 := [(0, vP pv4), (1, .iface 3 (iV (wr (x4 - 1))))]) [0, 1, 2, 3, 4, 5, 6] [(0, vP pv4), (1, vP pv4), (2, vP pv4), (3, vP (pv4.add 1)), (4, vSl al7 l7 cl7), (5, .iface 3 (iV (wr (x4 - 1)))), (6, iV (wr (x4 - 1)))] [0, 1] [] ?_
     refine .ST [7] 7 (.w [] rfl mv0 (.w [] rfl mv0 (.w [(5, vP pv4)] rfl (nck rfl) (.w [(6, vP pv4)] rfl (fa rfl tF117_1) (.w [(7, vP (pv4.add 1))] rfl (lB 1 5 tO22) (.w [] rfl mv0 (.w [(9, .iface 3 (iV (wr (x4 - 1))))] rfl (tas tC3 rfl) (.nil)))))))) (.cons [(10, iV (wr (x4 - 1)))] rfl rfl (fun sL hL => ?_) (.nil))
     refine bs2 (cs := #[iV (wr (x4 - 1))]) (pv := [(0, iV (wr (x4 - 1)))]) tS22 rfl rfl (by decide) (by decide) rfl rfl rfl (fun a26 _ => ?_)
     refine .nil ?_
     refine .ja (M := [6, 5]) (C' := [0, 1, 2, 3, 4]) (pre := [(7, vSl a26 ([wr (x4 - 1)] : List Int) 1)]) [(0, vP pv4), (1, .iface 3 (iV (wr (x4 - 1))))] [0, 1] hL rfl rfl rfl rfl rfl sb rfl rfl (by kernel_rfl) ?_
     refine .ST [8] 8 (.w [] rfl mv0 (.w [] rfl mv0 (.w [(5, vP pv4)] rfl (nck rfl) (.w [(6, vP pv4)] rfl (fa rfl tF117_1) (.w [(7, vP (pv4.add 1))] rfl (lB 1 6 tO22) (.nil)))))) (.cons [(8, vSl al7 l7 cl7), (11, vSl a26 ([wr (x4 - 1)] : List Int) 1)] rfl rfl (fun sL hL => ?_) (.nil))
     obtain ⟨q138, hF⟩ := hF
     have q85 : l7.length + ([wr (x4 - 1)] : List Int).length = ((l7 ++ ([wr (x4 - 1)] : List Int))).length := len_app rfl rfl
     refine app (k := 14) (news := flL ([wr (x4 - 1)] : List Int)) (cs' := flL (l7 ++ ([wr (x4 - 1)] : List Int))) (nm := ((l7 ++ ([wr (x4 - 1)] : List Int))).length) tS22 rfl (by decide) rfl rfl rfl ((flL_len _).trans rfl) (srcS (k := 0) rfl) (flL_one _) (room_of q85 q138).1 (room_of q85 q138).2 q85 (flL_append _ _).symm rfl (fun a27 c12 => ?_)
     refine .nil ?_
     refine .ja (M := [4, 3, 2, 1]) (C' := [0, 9, 10]) (pre := [(8, vSl a27 (l7 ++ ([wr (x4 - 1)] : List Int)) c12), (9, vP pv4), (10, vP (pv4.add 1))]) [(0, vP pv4), (1, .iface 3 (iV (wr (x4 - 1))))] [0, 1] hL rfl rfl rfl rfl rfl sb rfl rfl (by kernel_rfl) ?_
     refine .ST [11] 11 (.w [] rfl mv0 (.w [(4, vP pv4), (4, vP pv4), (5, vP pv4), (6, vP pv4), (7, vP (pv4.add 1)), (8, vSl al7 l7 cl7), (9, .iface 3 (iV (wr (x4 - 1)))), (10, iV (wr (x4 - 1))), (11, vSl a26 ([wr (x4 - 1)] : List Int) 1), (12, vSl a27 (l7 ++ ([wr (x4 - 1)] : List Int)) c12)] rfl (nck rfl) (.w [(13, vP pv4), (4, vP pv4), (5, vP pv4), (6, vP pv4), (7, vP (pv4.add 1)), (8, vSl al7 l7 cl7), (9, .iface 3 (iV (wr (x4 - 1)))), (10, iV (wr (x4 - 1))), (11, vSl a26 ([wr (x4 - 1)] : List Int) 1), (12, vSl a27 (l7 ++ ([wr (x4 - 1)] : List Int)) c12)] rfl (fa rfl tF117_1) (.nil)))) (.cons [(14, vP (pv4.add 1)), (12, vSl a27 (l7 ++ ([wr (x4 - 1)] : List Int)) c12), (12, vSl a27 (l7 ++ ([wr (x4 - 1)] : List Int)) c12), (4, vP pv4), (5, vP pv4), (6, vP pv4), (7, vP (pv4.add 1)), (8, vSl al7 l7 cl7), (9, .iface 3 (iV (wr (x4 - 1)))), (10, iV (wr (x4 - 1))), (11, vSl a26 ([wr (x4 - 1)] : List Int) 1), (12, vSl a27 (l7 ++ ([wr (x4 - 1)] : List Int)) c12)] rfl rfl (fun sL hL => ?_) (.nil))
     refine st (p := pv4) (off := 1) (k := 6) (vs := [vSl a27 (l7 ++ ([wr (x4 - 1)] : List Int)) c12]) rfl rfl rfl (fun w => (tO22 w).2) rfl rfl rfl rfl ?_
     refine .nil ?_
     refine .jaN (M := [10, 0, 9]) (C' := []) (pre := []) [0, 1] hL rfl rfl rfl rfl rfl (by kernel_rfl) ?_
     refine .LA [(4, vP pv4), (5, vP pv4), (6, vP pv4), (7, vP (pv4.add 1)), (8, vSl al7 l7 cl7), (9, .iface 3 (iV (wr (x4 - 1)))), (10, iV (wr (x4 - 1))), (11, vSl a26 ([wr (x4 - 1)] : List Int) 1), (12, vSl a27 (l7 ++ ([wr (x4 - 1)] : List Int)) c12), (13, vP pv4), (14, vP (pv4.add 1))] (.nil) ?_
     refine .res0 (.inr rfl) rfl (inl_back (v := .tuple #[]) q183 rfl ?_)
     refine .nil (.seqN (.region (.V mv0 ?_)))
     refine .V mv0 ?_
     refine .inlI Tryz.func53 rfl Tryz.ntmps53 Tryz.call53 tm114_Len rfl rfl rfl (fun a28 q184 => ?_)
     refine .seq (.region (.V ag0 ?_))
     refine .nil (.seqN (.seq (.region (.V mv0 ?_))))
     refine .V (nck rfl) ?_
     refine .V (fa rfl tF117_1) ?_
     refine .V (lB 1 6 tO22) ?_
     obtain ⟨x5, q139⟩ : ∃ y_ : Int, y_ = (((l7 ++ ([wr (x4 - 1)] : List Int)).length : Nat) : Int) := ⟨_, rfl⟩
     replace hF := hF x5 q139
     refine .v (v := iV x5) (by rw [q139]; exact ln rfl tS22.is) rfl rfl rfl ?_
     refine .V ag0 ?_
     refine .nil (.seqN (.ret ?_))
     refine .res1 rfl (rvT rfl) (inl_back (v := iV x5) q184 rfl ?_)
     refine .KA [oL 3 1 a26 ([wr (x4 - 1)] : List Int) 1, OwnSl 112 4 a22 (([(⟨r16, wr (((gt l (gt l5 (nM l2))).cost) + ((gt r2.1.ops (gt r15 t68)).cost)), (gt l5 (nM l2)), (gt r15 t68)⟩ : Node)] : List Node).length) 1 [vSl a21 r16 c10, iV (wr (((gt l (gt l5 (nM l2))).cost) + ((gt r2.1.ops (gt r15 t68)).cost))), iV (gt l5 (nM l2)), iV (gt r15 t68)], Box pt3 (tF r2.1 a2 c a3 c2 a4 c3), Box pv3 [.bool false, .slice none 0 0, iV 0, iV 0], Box pout [.bool false, .slice none 0 0, iV 0, iV (wr (x + 1))], Box pnodes [vSl a23 (l6 ++ ([(⟨r16, wr (((gt l (gt l5 (nM l2))).cost) + ((gt r2.1.ops (gt r15 t68)).cost)), (gt l5 (nM l2)), (gt r15 t68)⟩ : Node)] : List Node)) c11], Box pv4 [vP pnodes, vSl a27 (l7 ++ ([wr (x4 - 1)] : List Int)) c12], OwnMapI bv .i64 (fun zE : Int => iV zE) m3, Box pn [.slice a15 ((gt l (gt l5 (nM l2))).state.length) c4, iV ((gt l (gt l5 (nM l2))).cost), iV ((gt l (gt l5 (nM l2))).parent), iV ((gt l (gt l5 (nM l2))).op)], Box pg [iV r4.2.code, iV r4.2.index], Box ph [iV r5.2.code, iV r5.2.index], Box pv [.bool false, .slice none 0 0, iV 0, iV 0], Box pv2 [iV 0, iV 0], OwnSl 112 4 a23 ((l6 ++ ([(⟨r16, wr (((gt l (gt l5 (nM l2))).cost) + ((gt r2.1.ops (gt r15 t68)).cost)), (gt l5 (nM l2)), (gt r15 t68)⟩ : Node)] : List Node)).length) c11 (csl3 ++ [vSl a21 r16 c10, iV (wr (((gt l (gt l5 (nM l2))).cost) + ((gt r2.1.ops (gt r15 t68)).cost))), iV (gt l5 (nM l2)), iV (gt r15 t68)]), oL 3 1 a27 (l7 ++ ([wr (x4 - 1)] : List Int)) c12] ?_
     refine .V bi0 ?_
     refine .inl Tryz.func93 rfl Tryz.ntmps93 Tryz.call93 rfl rfl rfl rfl (fun a29 q140 => ?_)
     refine .block ?_
     refine .sel0 [6, 9, 10, 11, 12, 2, 3, 4, 5, 7, 8, 14, 13] (by decide) rfl ?_
     obtain ⟨I3, μ3, q86, q185⟩ := hF
     refine .loop' (σ := Int × List Int) (fun z => I3 z.1 z.2 ∧ z.2.length = (l7 ++ ([wr (x4 - 1)] : List Int)).length) (fun z => μ3 z.1 z.2) (fun z => [(0, .iface 114 (vP pv4)), (1, iV z.1)]) (fun z => [Box pv4 [vP pnodes, vSl a27 (l7 ++ ([wr (x4 - 1)] : List Int)) c12], Box pg [iV r4.2.code, iV r4.2.index], Box ph [iV r5.2.code, iV r5.2.index], Box pv [.bool false, .slice none 0 0, iV 0, iV 0], Box pv2 [iV 0, iV 0], Box pt3 (tF r2.1 a2 c a3 c2 a4 c3), Box pv3 [.bool false, .slice none 0 0, iV 0, iV 0], Box pout [.bool false, .slice none 0 0, iV 0, iV (wr (x + 1))], Box pnodes [vSl a23 (l6 ++ ([(⟨r16, wr (((gt l (gt l5 (nM l2))).cost) + ((gt r2.1.ops (gt r15 t68)).cost)), (gt l5 (nM l2)), (gt r15 t68)⟩ : Node)] : List Node)) c11], OwnMapI bv .i64 (fun zE : Int => iV zE) m3, Box pn [.slice a15 ((gt l (gt l5 (nM l2))).state.length) c4, iV ((gt l (gt l5 (nM l2))).cost), iV ((gt l (gt l5 (nM l2))).parent), iV ((gt l (gt l5 (nM l2))).op)], OwnSl 3 1 a27 ((l7 ++ ([wr (x4 - 1)] : List Int)).length) c12 (flL z.2), OwnSl 112 4 a23 ((l6 ++ ([(⟨r16, wr (((gt l (gt l5 (nM l2))).cost) + ((gt r2.1.ops (gt r15 t68)).cost)), (gt l5 (nM l2)), (gt r15 t68)⟩ : Node)] : List Node)).length) c11 (csl3 ++ [vSl a21 r16 c10, iV (wr (((gt l (gt l5 (nM l2))).cost) + ((gt r2.1.ops (gt r15 t68)).cost))), iV (gt l5 (nM l2)), iV (gt r15 t68)])]) (fun _ => h265) (wr (x5 - 1), (l7 ++ ([wr (x4 - 1)] : List Int))) ⟨q86, rfl⟩ sb rfl (FH.le_refl _) ?_
     rintro ⟨j, l12⟩ ⟨q86, q23⟩
     have hF := q185 j l12 q86
     show J _ _ _ _ _ [(0, .iface 114 (vP pv4)), (1, iV j)] [Box pv4 [vP pnodes, vSl a27 (l7 ++ ([wr (x4 - 1)] : List Int)) c12], Box pg [iV r4.2.code, iV r4.2.index], Box ph [iV r5.2.code, iV r5.2.index], Box pv [.bool false, .slice none 0 0, iV 0, iV 0], Box pv2 [iV 0, iV 0], Box pt3 (tF r2.1 a2 c a3 c2 a4 c3), Box pv3 [.bool false, .slice none 0 0, iV 0, iV 0], Box pout [.bool false, .slice none 0 0, iV 0, iV (wr (x + 1))], Box pnodes [vSl a23 (l6 ++ ([(⟨r16, wr (((gt l (gt l5 (nM l2))).cost) + ((gt r2.1.ops (gt r15 t68)).cost)), (gt l5 (nM l2)), (gt r15 t68)⟩ : Node)] : List Node)) c11], OwnMapI bv .i64 (fun zE : Int => iV zE) m3, Box pn [.slice a15 ((gt l (gt l5 (nM l2))).state.length) c4, iV ((gt l (gt l5 (nM l2))).cost), iV ((gt l (gt l5 (nM l2))).parent), iV ((gt l (gt l5 (nM l2))).op)], OwnSl 3 1 a27 ((l7 ++ ([wr (x4 - 1)] : List Int)).length) c12 (flL l12), OwnSl 112 4 a23 ((l6 ++ ([(⟨r16, wr (((gt l (gt l5 (nM l2))).cost) + ((gt r2.1.ops (gt r15 t68)).cost)), (gt l5 (nM l2)), (gt r15 t68)⟩ : Node)] : List Node)).length) c11 (csl3 ++ [vSl a21 r16 c10, iV (wr (((gt l (gt l5 (nM l2))).cost) + ((gt r2.1.ops (gt r15 t68)).cost))), iV (gt l5 (nM l2)), iV (gt r15 t68)])] h265
     refine .block (.seq (.region (.V mv0 ?_)))
     refine .V bi0 ?_
     refine .V (bq rfl rfl (by decide)) ?_
     refine .V ag0 ?_
     refine .nil (.seqN (.seq (.seq (.region (.V mv0 ?_)))))
     refine .V mv0 ?_
     refine .V bi0 ?_
     refine .V mv0 ?_
     rcases Bool.eq_false_or_eq_true ((wr (Int.tdiv (wr (j - 1)) 2)) == j) with q7 | q7
     ·replace hF := hF.1 q7
      refine .GS q7 ?_
      refine .GS q7 ?_
      refine .GS q7 ?_
      refine .GS q7 ?_
      refine .GS q7 ?_
      refine .V (pkT rfl q7 rfl) ?_
      refine .nil (.seqN ?_)
      refine .cond rfl (fun _ => ?_) (fun e => absurd (e.symm.trans rfl) (by decide))
      refine .exit (.seqX ?_)
      refine .blkY rfl ?_
      refine .seqX (.blkX ?_)
      refine .res0 (.inr rfl) rfl (inl_back (v := .tuple #[]) q140 rfl ?_)
      refine .nil ?_
      refine .res0 (.inr rfl) rfl (inl_back (v := .tuple #[]) q137 rfl ?_)
      refine .nil (.blkN ?_)
      refine .cast (A' := [Box pv4 [vP pnodes, vSl a27 l12 c12], Box pg [iV r4.2.code, iV r4.2.index], Box ph [iV r5.2.code, iV r5.2.index], Box pv [.bool false, .slice none 0 0, iV 0, iV 0], Box pv2 [iV 0, iV 0], Box pt3 (tF r2.1 a2 c a3 c2 a4 c3), Box pv3 [.bool false, .slice none 0 0, iV 0, iV 0], Box pout [.bool false, .slice none 0 0, iV 0, iV (wr (x + 1))], Box pnodes [vSl a23 (l6 ++ ([(⟨r16, wr (((gt l (gt l5 (nM l2))).cost) + ((gt r2.1.ops (gt r15 t68)).cost)), (gt l5 (nM l2)), (gt r15 t68)⟩ : Node)] : List Node)) c11], OwnMapI bv .i64 (fun zE : Int => iV zE) m3, Box pn [.slice a15 ((gt l (gt l5 (nM l2))).state.length) c4, iV ((gt l (gt l5 (nM l2))).cost), iV ((gt l (gt l5 (nM l2))).parent), iV ((gt l (gt l5 (nM l2))).op)], oL 3 1 a27 l12 c12, OwnSl 112 4 a23 ((l6 ++ ([(⟨r16, wr (((gt l (gt l5 (nM l2))).cost) + ((gt r2.1.ops (gt r15 t68)).cost)), (gt l5 (nM l2)), (gt r15 t68)⟩ : Node)] : List Node)).length) c11 (csl3 ++ [vSl a21 r16 c10, iV (wr (((gt l (gt l5 (nM l2))).cost) + ((gt r2.1.ops (gt r15 t68)).cost))), iV (gt l5 (nM l2)), iV (gt r15 t68)])]) (congrArg (fun z_ : Nat => [Box pv4 [vP pnodes, .slice a27 z_ c12], Box pg [iV r4.2.code, iV r4.2.index], Box ph [iV r5.2.code, iV r5.2.index], Box pv [.bool false, .slice none 0 0, iV 0, iV 0], Box pv2 [iV 0, iV 0], Box pt3 (tF r2.1 a2 c a3 c2 a4 c3), Box pv3 [.bool false, .slice none 0 0, iV 0, iV 0], Box pout [.bool false, .slice none 0 0, iV 0, iV (wr (x + 1))], Box pnodes [vSl a23 (l6 ++ ([(⟨r16, wr (((gt l (gt l5 (nM l2))).cost) + ((gt r2.1.ops (gt r15 t68)).cost)), (gt l5 (nM l2)), (gt r15 t68)⟩ : Node)] : List Node)) c11], OwnMapI bv .i64 (fun zE : Int => iV zE) m3, Box pn [.slice a15 ((gt l (gt l5 (nM l2))).state.length) c4, iV ((gt l (gt l5 (nM l2))).cost), iV ((gt l (gt l5 (nM l2))).parent), iV ((gt l (gt l5 (nM l2))).op)], OwnSl 3 1 a27 z_ c12 (flL l12), OwnSl 112 4 a23 ((l6 ++ ([(⟨r16, wr (((gt l (gt l5 (nM l2))).cost) + ((gt r2.1.ops (gt r15 t68)).cost)), (gt l5 (nM l2)), (gt r15 t68)⟩ : Node)] : List Node)).length) c11 (csl3 ++ [vSl a21 r16 c10, iV (wr (((gt l (gt l5 (nM l2))).cost) + ((gt r2.1.ops (gt r15 t68)).cost))), iV (gt l5 (nM l2)), iV (gt r15 t68)])]) (q23).symm) ?_
      refine .sel0 [5, 6, 7, 8, 0, 9, 10, 1, 2, 3, 4, 12, 11] (by decide) rfl ?_
      exact .US q132 ((l6 ++ ([(⟨r16, wr (((gt l (gt l5 (nM l2))).cost) + ((gt r2.1.ops (gt r15 t68)).cost)), (gt l5 (nM l2)), (gt r15 t68)⟩ : Node)] : List Node)), l12, a23, c11, (csl3 ++ [vSl a21 r16 c10, iV (wr (((gt l (gt l5 (nM l2))).cost) + ((gt r2.1.ops (gt r15 t68)).cost))), iV (gt l5 (nM l2)), iV (gt r15 t68)]), a27, c12, h265) ⟨hF, q53, (le265)⟩
     replace hF := hF.2 q7
     refine .GV mv0 q7 ?_
     refine .GV mv0 q7 ?_
     refine .GV mv0 q7 ?_
     refine .gR rfl rfl rfl q7 ?_
     refine .inlI Tryz.func156 rfl Tryz.ntmps156 Tryz.call156 tm114_Less rfl rfl rfl (fun a30 q186 => ?_)
     refine .seq (.region (.V ag0 ?_))
     refine .nil (.seqN (.seq ?_))
     refine .open_ (by kernel_rfl) (by kernel_rfl) ?_
     refine .V mv0 ?_
     refine .V (nck rfl) ?_
     refine .V (fa rfl tF117_0) ?_
     refine .V (lB 0 0 tO115) ?_
     refine .V (nck rfl) ?_
     refine .V (lB 0 8 tO113) ?_
     refine .V mv0 ?_
     refine .V (nck rfl) ?_
     refine .V (fa rfl tF117_1) ?_
     refine .V (lB 1 0 tO22) ?_
     refine .V mv0 ?_
     obtain ⟨q40, hF⟩ := hF
     refine .V (ixS rfl rfl tS22 (k := 11) rfl (inb_n q40 q23)) ?_
     refine .V (ld1 (v := iV (gt l12 j)) rfl tO3 (cellS (k := 11) rfl (flL_get q40 (j := 0) rfl))) ?_
     obtain ⟨q141, hF⟩ := hF
     refine .V (ixS rfl rfl tS113 (k := 12) rfl q141) ?_
     refine .V (fa rfl tF112_1) ?_
     obtain ⟨_, ⟨a31, c13, rfl, q210, q211⟩, q187⟩ := RepL.get q53 (gt_get q141)
     refine .V (ld1 (v := iV ((gt (l6 ++ ([(⟨r16, wr (((gt l (gt l5 (nM l2))).cost) + ((gt r2.1.ops (gt r15 t68)).cost)), (gt l5 (nM l2)), (gt r15 t68)⟩ : Node)] : List Node)) (gt l12 j)).cost)) rfl tO3 (cellF (k := 12) rfl (q187 1 _ rfl))) ?_
     refine .V mv0 ?_
     refine .V (nck rfl) ?_
     refine .V (fa rfl tF117_0) ?_
     refine .V (lB 0 0 tO115) ?_
     refine .V (nck rfl) ?_
     refine .V (lB 0 8 tO113) ?_
     refine .V mv0 ?_
     refine .V (nck rfl) ?_
     refine .V (fa rfl tF117_1) ?_
     refine .V (lB 1 0 tO22) ?_
     refine .V mv0 ?_
     obtain ⟨q29, hF⟩ := hF
     refine .V (ixS rfl rfl tS22 (k := 11) rfl (inb_n q29 q23)) ?_
     refine .V (ld1 (v := iV (gt l12 (wr (Int.tdiv (wr (j - 1)) 2)))) rfl tO3 (cellS (k := 11) rfl (flL_get q29 (j := 0) rfl))) ?_
     obtain ⟨q142, hF⟩ := hF
     refine .V (ixS rfl rfl tS113 (k := 12) rfl q142) ?_
     refine .V (fa rfl tF112_1) ?_
     obtain ⟨_, ⟨a32, c14, rfl, q212, q213⟩, q188⟩ := RepL.get q53 (gt_get q142)
     refine .V (ld1 (v := iV ((gt (l6 ++ ([(⟨r16, wr (((gt l (gt l5 (nM l2))).cost) + ((gt r2.1.ops (gt r15 t68)).cost)), (gt l5 (nM l2)), (gt r15 t68)⟩ : Node)] : List Node)) (gt l12 (wr (Int.tdiv (wr (j - 1)) 2)))).cost)) rfl tO3 (cellF (k := 12) rfl (q188 1 _ rfl))) ?_
     refine .V ag0 ?_
     refine .V ag0 ?_
     refine .fin ?_
     refine .seqN ?_
     refine .share (σ := Bool) (fun z => F_lawProd_J10 r2 z j l l2 I2 μ2 r15 I3 μ3 l5 t68 l6 l7 l12 r16) (fun z => [(6, .bool z)]) (fun _ => [Box pg [iV r4.2.code, iV r4.2.index], Box ph [iV r5.2.code, iV r5.2.index], Box pv [.bool false, .slice none 0 0, iV 0, iV 0], Box pv2 [iV 0, iV 0], Box pt3 (tF r2.1 a2 c a3 c2 a4 c3), Box pv3 [.bool false, .slice none 0 0, iV 0, iV 0], Box pout [.bool false, .slice none 0 0, iV 0, iV (wr (x + 1))], Box pnodes [vSl a23 (l6 ++ ([(⟨r16, wr (((gt l (gt l5 (nM l2))).cost) + ((gt r2.1.ops (gt r15 t68)).cost)), (gt l5 (nM l2)), (gt r15 t68)⟩ : Node)] : List Node)) c11], Box pv4 [vP pnodes, vSl a27 (l7 ++ ([wr (x4 - 1)] : List Int)) c12], OwnMapI bv .i64 (fun zE : Int => iV zE) m3, Box pn [.slice a15 ((gt l (gt l5 (nM l2))).state.length) c4, iV ((gt l (gt l5 (nM l2))).cost), iV ((gt l (gt l5 (nM l2))).parent), iV ((gt l (gt l5 (nM l2))).op)], OwnSl 112 4 a23 ((l6 ++ ([(⟨r16, wr (((gt l (gt l5 (nM l2))).cost) + ((gt r2.1.ops (gt r15 t68)).cost)), (gt l5 (nM l2)), (gt r15 t68)⟩ : Node)] : List Node)).length) c11 (csl3 ++ [vSl a21 r16 c10, iV (wr (((gt l (gt l5 (nM l2))).cost) + ((gt r2.1.ops (gt r15 t68)).cost))), iV (gt l5 (nM l2)), iV (gt r15 t68)]), OwnSl 3 1 a27 ((l7 ++ ([wr (x4 - 1)] : List Int)).length) c12 (flL l12)]) (fun _ => h265) ?_ (fun q87 => ?_)
     ·rintro t6 hF
      show J _ _ _ _ _ [(6, .bool t6)] [Box pg [iV r4.2.code, iV r4.2.index], Box ph [iV r5.2.code, iV r5.2.index], Box pv [.bool false, .slice none 0 0, iV 0, iV 0], Box pv2 [iV 0, iV 0], Box pt3 (tF r2.1 a2 c a3 c2 a4 c3), Box pv3 [.bool false, .slice none 0 0, iV 0, iV 0], Box pout [.bool false, .slice none 0 0, iV 0, iV (wr (x + 1))], Box pnodes [vSl a23 (l6 ++ ([(⟨r16, wr (((gt l (gt l5 (nM l2))).cost) + ((gt r2.1.ops (gt r15 t68)).cost)), (gt l5 (nM l2)), (gt r15 t68)⟩ : Node)] : List Node)) c11], Box pv4 [vP pnodes, vSl a27 (l7 ++ ([wr (x4 - 1)] : List Int)) c12], OwnMapI bv .i64 (fun zE : Int => iV zE) m3, Box pn [.slice a15 ((gt l (gt l5 (nM l2))).state.length) c4, iV ((gt l (gt l5 (nM l2))).cost), iV ((gt l (gt l5 (nM l2))).parent), iV ((gt l (gt l5 (nM l2))).op)], OwnSl 112 4 a23 ((l6 ++ ([(⟨r16, wr (((gt l (gt l5 (nM l2))).cost) + ((gt r2.1.ops (gt r15 t68)).cost)), (gt l5 (nM l2)), (gt r15 t68)⟩ : Node)] : List Node)).length) c11 (csl3 ++ [vSl a21 r16 c10, iV (wr (((gt l (gt l5 (nM l2))).cost) + ((gt r2.1.ops (gt r15 t68)).cost))), iV (gt l5 (nM l2)), iV (gt r15 t68)]), OwnSl 3 1 a27 ((l7 ++ ([wr (x4 - 1)] : List Int)).length) c12 (flL l12)] h265
      refine .ret ?_
      refine .res1 rfl (rvT rfl) (inl_back (v := .bool t6) q186 rfl ?_)
      refine .GV (nt rfl) q7 ?_
      refine .V (pkF rfl q7 rfl) ?_
      refine .nil (.seqN ?_)
      refine .cond rfl (fun q88 => ?_) (fun q88 => ?_)
      ·replace hF := hF.1 q88
       refine .exit (.seqX ?_)
       refine .blkY rfl ?_
       refine .seqX (.blkX ?_)
       refine .res0 (.inr rfl) rfl (inl_back (v := .tuple #[]) q140 rfl ?_)
       refine .nil ?_
       refine .res0 (.inr rfl) rfl (inl_back (v := .tuple #[]) q137 rfl ?_)
       refine .nil (.blkN ?_)
       refine .cast (A' := [Box pg [iV r4.2.code, iV r4.2.index], Box ph [iV r5.2.code, iV r5.2.index], Box pv [.bool false, .slice none 0 0, iV 0, iV 0], Box pv2 [iV 0, iV 0], Box pt3 (tF r2.1 a2 c a3 c2 a4 c3), Box pv3 [.bool false, .slice none 0 0, iV 0, iV 0], Box pout [.bool false, .slice none 0 0, iV 0, iV (wr (x + 1))], Box pnodes [vSl a23 (l6 ++ ([(⟨r16, wr (((gt l (gt l5 (nM l2))).cost) + ((gt r2.1.ops (gt r15 t68)).cost)), (gt l5 (nM l2)), (gt r15 t68)⟩ : Node)] : List Node)) c11], Box pv4 [vP pnodes, vSl a27 l12 c12], OwnMapI bv .i64 (fun zE : Int => iV zE) m3, Box pn [.slice a15 ((gt l (gt l5 (nM l2))).state.length) c4, iV ((gt l (gt l5 (nM l2))).cost), iV ((gt l (gt l5 (nM l2))).parent), iV ((gt l (gt l5 (nM l2))).op)], OwnSl 112 4 a23 ((l6 ++ ([(⟨r16, wr (((gt l (gt l5 (nM l2))).cost) + ((gt r2.1.ops (gt r15 t68)).cost)), (gt l5 (nM l2)), (gt r15 t68)⟩ : Node)] : List Node)).length) c11 (csl3 ++ [vSl a21 r16 c10, iV (wr (((gt l (gt l5 (nM l2))).cost) + ((gt r2.1.ops (gt r15 t68)).cost))), iV (gt l5 (nM l2)), iV (gt r15 t68)]), oL 3 1 a27 l12 c12]) (congrArg (fun z_ : Nat => [Box pg [iV r4.2.code, iV r4.2.index], Box ph [iV r5.2.code, iV r5.2.index], Box pv [.bool false, .slice none 0 0, iV 0, iV 0], Box pv2 [iV 0, iV 0], Box pt3 (tF r2.1 a2 c a3 c2 a4 c3), Box pv3 [.bool false, .slice none 0 0, iV 0, iV 0], Box pout [.bool false, .slice none 0 0, iV 0, iV (wr (x + 1))], Box pnodes [vSl a23 (l6 ++ ([(⟨r16, wr (((gt l (gt l5 (nM l2))).cost) + ((gt r2.1.ops (gt r15 t68)).cost)), (gt l5 (nM l2)), (gt r15 t68)⟩ : Node)] : List Node)) c11], Box pv4 [vP pnodes, .slice a27 z_ c12], OwnMapI bv .i64 (fun zE : Int => iV zE) m3, Box pn [.slice a15 ((gt l (gt l5 (nM l2))).state.length) c4, iV ((gt l (gt l5 (nM l2))).cost), iV ((gt l (gt l5 (nM l2))).parent), iV ((gt l (gt l5 (nM l2))).op)], OwnSl 112 4 a23 ((l6 ++ ([(⟨r16, wr (((gt l (gt l5 (nM l2))).cost) + ((gt r2.1.ops (gt r15 t68)).cost)), (gt l5 (nM l2)), (gt r15 t68)⟩ : Node)] : List Node)).length) c11 (csl3 ++ [vSl a21 r16 c10, iV (wr (((gt l (gt l5 (nM l2))).cost) + ((gt r2.1.ops (gt r15 t68)).cost))), iV (gt l5 (nM l2)), iV (gt r15 t68)]), OwnSl 3 1 a27 z_ c12 (flL l12)]) (q23).symm) ?_
       refine .sel0 [4, 5, 6, 7, 8, 9, 10, 0, 1, 2, 3, 11, 12] (by decide) rfl ?_
       exact .US q132 ((l6 ++ ([(⟨r16, wr (((gt l (gt l5 (nM l2))).cost) + ((gt r2.1.ops (gt r15 t68)).cost)), (gt l5 (nM l2)), (gt r15 t68)⟩ : Node)] : List Node)), l12, a23, c11, (csl3 ++ [vSl a21 r16 c10, iV (wr (((gt l (gt l5 (nM l2))).cost) + ((gt r2.1.ops (gt r15 t68)).cost))), iV (gt l5 (nM l2)), iV (gt r15 t68)]), a27, c12, h265) ⟨hF, q53, (le265)⟩
      replace hF := hF.2 q88
      refine .skip (.seqN (.seq (.region (.V mv0 ?_))))
      refine .V mv0 ?_
      refine .V mv0 ?_
      refine .inlI Tryz.func159 rfl Tryz.ntmps159 Tryz.call159 tm114_Swap rfl rfl rfl (fun a33 q189 => ?_)
      refine .OA (s0 := [(0, vP pv4), (1, iV (wr (Int.tdiv (wr (j - 1)) 2))), (2, iV j)]) [0, 1, 2, 3, 4, 5, 6, 7, 8, 9, 10, 11, 12, 13, 14, 15, 16, 17, 18, 19, 20, 21, 22, 23, 24] [(0, vP pv4), (1, vP pv4), (2, vP (pv4.add 1)), (3, vSl a27 (l7 ++ ([wr (x4 - 1)] : List Int)) c12), (4, iV (wr (Int.tdiv (wr (j - 1)) 2))), (5, vP pv4), (6, vP pv4), (7, vP (pv4.add 1)), (8, vSl a27 (l7 ++ ([wr (x4 - 1)] : List Int)) c12), (9, iV j), (10, vP pv4), (11, vP pv4), (12, vP (pv4.add 1)), (13, vSl a27 (l7 ++ ([wr (x4 - 1)] : List Int)) c12), (14, iV j), (15, vP (ead a27 (j.toNat * 1))), (16, iV (gt l12 j)), (17, vP pv4), (18, vP pv4), (19, vP (pv4.add 1)), (20, vSl a27 (l7 ++ ([wr (x4 - 1)] : List Int)) c12), (21, iV (wr (Int.tdiv (wr (j - 1)) 2))), (22, vP (ead a27 ((wr (Int.tdiv (wr (j - 1)) 2)).toNat * 1))), (23, iV (gt l12 (wr (Int.tdiv (wr (j - 1)) 2)))), (24, vP (ead a27 ((wr (Int.tdiv (wr (j - 1)) 2)).toNat * 1)))] [0, 1, 2] [] ?_
      refine .ST [25] 25 (.w [] rfl mv0 (.w [(6, vP pv4)] rfl (nck rfl) (.w [(7, vP pv4)] rfl (fa rfl tF117_1) (.w [(8, vP (pv4.add 1))] rfl (lB 1 8 tO22) (.w [] rfl mv0 (.w [] rfl mv0 (.w [(11, vP pv4)] rfl (nck rfl) (.w [(12, vP pv4)] rfl (fa rfl tF117_1) (.w [(13, vP (pv4.add 1))] rfl (lB 1 8 tO22) (.w [] rfl mv0 (.w [] rfl mv0 (.w [(16, vP pv4)] rfl (nck rfl) (.w [(17, vP pv4)] rfl (fa rfl tF117_1) (.w [(18, vP (pv4.add 1))] rfl (lB 1 8 tO22) (.w [] rfl mv0 (.w [(19, vSl a27 (l7 ++ ([wr (x4 - 1)] : List Int)) c12), (20, iV j)] rfl (ixS rfl rfl tS22 (k := 12) rfl (inb_n q40 q23)) (.w [(21, vP (ead a27 (j.toNat * 1)))] rfl (ld1 (v := iV (gt l12 j)) rfl tO3 (cellS (k := 12) rfl (flL_get q40 (j := 0) rfl))) (.w [] rfl mv0 (.w [(23, vP pv4)] rfl (nck rfl) (.w [(24, vP pv4)] rfl (fa rfl tF117_1) (.w [(25, vP (pv4.add 1))] rfl (lB 1 8 tO22) (.w [] rfl mv0 (.w [(26, vSl a27 (l7 ++ ([wr (x4 - 1)] : List Int)) c12), (27, iV (wr (Int.tdiv (wr (j - 1)) 2)))] rfl (ixS rfl rfl tS22 (k := 12) rfl (inb_n q29 q23)) (.w [(28, vP (ead a27 ((wr (Int.tdiv (wr (j - 1)) 2)).toNat * 1)))] rfl (ld1 (v := iV (gt l12 (wr (Int.tdiv (wr (j - 1)) 2)))) rfl tO3 (cellS (k := 12) rfl (flL_get q29 (j := 0) rfl))) (.w [(9, vSl a27 (l7 ++ ([wr (x4 - 1)] : List Int)) c12), (10, iV (wr (Int.tdiv (wr (j - 1)) 2))), (6, vP pv4), (7, vP pv4), (8, vP (pv4.add 1)), (9, vSl a27 (l7 ++ ([wr (x4 - 1)] : List Int)) c12), (10, iV (wr (Int.tdiv (wr (j - 1)) 2))), (14, vSl a27 (l7 ++ ([wr (x4 - 1)] : List Int)) c12), (16, vP pv4), (17, vP pv4), (18, vP (pv4.add 1)), (19, vSl a27 (l7 ++ ([wr (x4 - 1)] : List Int)) c12), (20, iV j), (21, vP (ead a27 (j.toNat * 1))), (22, iV (gt l12 j)), (26, vSl a27 (l7 ++ ([wr (x4 - 1)] : List Int)) c12), (29, iV (gt l12 (wr (Int.tdiv (wr (j - 1)) 2))))] rfl (ixS rfl rfl tS22 (k := 12) rfl (inb_n q29 q23)) (.nil)))))))))))))))))))))))))) (.cons [(30, vP (ead a27 ((wr (Int.tdiv (wr (j - 1)) 2)).toNat * 1))), (22, iV (gt l12 j)), (6, vP pv4), (7, vP pv4), (8, vP (pv4.add 1)), (9, vSl a27 (l7 ++ ([wr (x4 - 1)] : List Int)) c12), (10, iV (wr (Int.tdiv (wr (j - 1)) 2))), (14, vSl a27 (l7 ++ ([wr (x4 - 1)] : List Int)) c12), (16, vP pv4), (17, vP pv4), (18, vP (pv4.add 1)), (19, vSl a27 (l7 ++ ([wr (x4 - 1)] : List Int)) c12), (20, iV j), (21, vP (ead a27 (j.toNat * 1))), (22, iV (gt l12 j)), (26, vSl a27 (l7 ++ ([wr (x4 - 1)] : List Int)) c12), (29, iV (gt l12 (wr (Int.tdiv (wr (j - 1)) 2))))] rfl rfl (fun sL hL => ?_) (.nil))
      obtain ⟨d4, q89⟩ : ∃ y_ : List Int, y_ = (l12.set (wr (Int.tdiv (wr (j - 1)) 2)).toNat (gt l12 j)) := ⟨_, rfl⟩
      replace hF := hF d4 q89
      refine stS (k := 12) (cs' := flL d4) rfl (fun _ => rfl) rfl rfl (fun w => (tO3 w).2) rfl rfl rfl (by rw [← q23]; exact inb_pos q29) (fl_room q29) (by rw [q89]; exact flL_set q29 (gt l12 j)) ?_
      have q90 : d4.length = (l7 ++ ([wr (x4 - 1)] : List Int)).length := by rw [q89]; exact List.length_set.trans q23
      refine .nil ?_
      obtain ⟨q54, hF⟩ := hF
      refine .jaN (M := [24, 16, 0, 1, 2, 3, 4, 8, 10, 11, 12, 13, 14, 15, 20, 23, 7, 19, 22, 6, 18, 21, 5, 17]) (C' := [9, 26]) (pre := [(26, vP (ead a27 (j.toNat * 1)))]) [0, 1, 2] hL rfl rfl rfl rfl rfl (by kernel_rfl) ?_
      refine .ST [27] 27 (.w [] rfl mv0 (.w [(14, vSl a27 (l7 ++ ([wr (x4 - 1)] : List Int)) c12), (15, iV j), (6, vP pv4), (7, vP pv4), (8, vP (pv4.add 1)), (9, vSl a27 (l7 ++ ([wr (x4 - 1)] : List Int)) c12), (10, iV (wr (Int.tdiv (wr (j - 1)) 2))), (11, vP pv4), (12, vP pv4), (13, vP (pv4.add 1)), (14, vSl a27 (l7 ++ ([wr (x4 - 1)] : List Int)) c12), (15, iV j), (16, vP pv4), (17, vP pv4), (18, vP (pv4.add 1)), (19, vSl a27 (l7 ++ ([wr (x4 - 1)] : List Int)) c12), (20, iV j), (21, vP (ead a27 (j.toNat * 1))), (22, iV (gt l12 j)), (23, vP pv4), (24, vP pv4), (25, vP (pv4.add 1)), (26, vSl a27 (l7 ++ ([wr (x4 - 1)] : List Int)) c12), (27, iV (wr (Int.tdiv (wr (j - 1)) 2))), (28, vP (ead a27 ((wr (Int.tdiv (wr (j - 1)) 2)).toNat * 1))), (29, iV (gt l12 (wr (Int.tdiv (wr (j - 1)) 2)))), (30, vP (ead a27 ((wr (Int.tdiv (wr (j - 1)) 2)).toNat * 1)))] rfl (ixS rfl rfl tS22 (k := 12) rfl (inb_n q54 q90)) (.nil))) (.cons [(31, vP (ead a27 (j.toNat * 1))), (29, iV (gt l12 (wr (Int.tdiv (wr (j - 1)) 2)))), (6, vP pv4), (7, vP pv4), (8, vP (pv4.add 1)), (9, vSl a27 (l7 ++ ([wr (x4 - 1)] : List Int)) c12), (10, iV (wr (Int.tdiv (wr (j - 1)) 2))), (11, vP pv4), (12, vP pv4), (13, vP (pv4.add 1)), (14, vSl a27 (l7 ++ ([wr (x4 - 1)] : List Int)) c12), (15, iV j), (16, vP pv4), (17, vP pv4), (18, vP (pv4.add 1)), (19, vSl a27 (l7 ++ ([wr (x4 - 1)] : List Int)) c12), (20, iV j), (21, vP (ead a27 (j.toNat * 1))), (22, iV (gt l12 j)), (23, vP pv4), (24, vP pv4), (25, vP (pv4.add 1)), (26, vSl a27 (l7 ++ ([wr (x4 - 1)] : List Int)) c12), (27, iV (wr (Int.tdiv (wr (j - 1)) 2))), (28, vP (ead a27 ((wr (Int.tdiv (wr (j - 1)) 2)).toNat * 1))), (29, iV (gt l12 (wr (Int.tdiv (wr (j - 1)) 2)))), (30, vP (ead a27 ((wr (Int.tdiv (wr (j - 1)) 2)).toNat * 1)))] rfl rfl (fun sL hL => ?_) (.nil))
      obtain ⟨d5, q91⟩ : ∃ y_ : List Int, y_ = (d4.set (j).toNat (gt l12 (wr (Int.tdiv (wr (j - 1)) 2)))) := ⟨_, rfl⟩
      replace hF := hF d5 q91
      refine stS (k := 12) (cs' := flL d5) rfl (fun _ => rfl) rfl rfl (fun w => (tO3 w).2) rfl rfl rfl (by rw [← q90]; exact inb_pos q54) (fl_room q54) (by rw [q91]; exact flL_set q54 (gt l12 (wr (Int.tdiv (wr (j - 1)) 2)))) ?_
      have q190 : d5.length = (l7 ++ ([wr (x4 - 1)] : List Int)).length := by rw [q91]; exact List.length_set.trans q90
      refine .nil ?_
      refine .jaN (M := [26, 9]) (C' := []) (pre := []) [0, 1, 2] hL rfl rfl rfl rfl rfl (by kernel_rfl) ?_
      refine .LA [(6, vP pv4), (7, vP pv4), (8, vP (pv4.add 1)), (9, vSl a27 (l7 ++ ([wr (x4 - 1)] : List Int)) c12), (10, iV (wr (Int.tdiv (wr (j - 1)) 2))), (11, vP pv4), (12, vP pv4), (13, vP (pv4.add 1)), (14, vSl a27 (l7 ++ ([wr (x4 - 1)] : List Int)) c12), (15, iV j), (16, vP pv4), (17, vP pv4), (18, vP (pv4.add 1)), (19, vSl a27 (l7 ++ ([wr (x4 - 1)] : List Int)) c12), (20, iV j), (21, vP (ead a27 (j.toNat * 1))), (22, iV (gt l12 j)), (23, vP pv4), (24, vP pv4), (25, vP (pv4.add 1)), (26, vSl a27 (l7 ++ ([wr (x4 - 1)] : List Int)) c12), (27, iV (wr (Int.tdiv (wr (j - 1)) 2))), (28, vP (ead a27 ((wr (Int.tdiv (wr (j - 1)) 2)).toNat * 1))), (29, iV (gt l12 (wr (Int.tdiv (wr (j - 1)) 2)))), (30, vP (ead a27 ((wr (Int.tdiv (wr (j - 1)) 2)).toNat * 1))), (31, vP (ead a27 (j.toNat * 1)))] (.nil) ?_
      refine .res0 (.inr rfl) rfl (inl_back (v := .tuple #[]) q189 rfl ?_)
      refine .nil (.seqN (.region (.V mv0 ?_)))
      refine .V ag0 ?_
      refine .nil (.blkN ?_)
      refine .sel0 [8, 0, 1, 2, 3, 4, 5, 6, 7, 9, 10, 12, 11] (by decide) rfl ?_
      exact .RO (wr (Int.tdiv (wr (j - 1)) 2), d5) ⟨hF.1, q190⟩ hF.2
     refine .open_ (by kernel_rfl) (by kernel_rfl) ?_
     refine .V mv0 ?_
     refine .V mv0 ?_
     obtain ⟨x6, q143⟩ : ∃ y_ : Bool, y_ = (decide (((gt (l6 ++ ([(⟨r16, wr (((gt l (gt l5 (wr (((l2.length : Nat) : Int) - 1)))).cost) + ((gt r2.1.ops (gt r15 t68)).cost)), (gt l5 (wr (((l2.length : Nat) : Int) - 1))), (gt r15 t68)⟩ : Node)] : List Node)) (gt l12 j)).cost) < ((gt (l6 ++ ([(⟨r16, wr (((gt l (gt l5 (wr (((l2.length : Nat) : Int) - 1)))).cost) + ((gt r2.1.ops (gt r15 t68)).cost)), (gt l5 (wr (((l2.length : Nat) : Int) - 1))), (gt r15 t68)⟩ : Node)] : List Node)) (gt l12 (wr (Int.tdiv (wr (j - 1)) 2)))).cost))) := ⟨_, rfl⟩
     replace hF := hF x6 q143
     refine .v (v := .bool x6) (by rw [q143]; exact bi rfl rfl rfl) rfl rfl rfl ?_
     refine .V mv0 ?_
     rcases Bool.eq_false_or_eq_true (x6) with q3 | q3
     ·replace hF := hF.1 q3
      refine .GS q3 ?_
      refine .GS q3 ?_
      refine .GS q3 ?_
      refine .GS q3 ?_
      refine .GU ?_
      refine .GU ?_
      refine .GU ?_
      refine .GU ?_
      refine .GU ?_
      refine .GU ?_
      refine .GU ?_
      refine .GU ?_
      refine .GU ?_
      refine .GU ?_
      refine .GU ?_
      refine .GU ?_
      refine .GU ?_
      refine .GU ?_
      refine .GU ?_
      refine .GS q3 ?_
      refine .V (pkT rfl q3 rfl) ?_
      refine .V ag0 ?_
      refine .fin ?_
      refine .sel0 [1, 2, 3, 4, 5, 6, 7, 8, 0, 9, 10, 12, 11] (by decide) rfl ?_
      exact .US q87 true hF
     replace hF := hF.2 q3
     refine .GV mv0 q3 ?_
     refine .GV mv0 q3 ?_
     obtain ⟨x7, q144⟩ : ∃ y_ : Bool, y_ = (((gt (l6 ++ ([(⟨r16, wr (((gt l (gt l5 (wr (((l2.length : Nat) : Int) - 1)))).cost) + ((gt r2.1.ops (gt r15 t68)).cost)), (gt l5 (wr (((l2.length : Nat) : Int) - 1))), (gt r15 t68)⟩ : Node)] : List Node)) (gt l12 j)).cost) == ((gt (l6 ++ ([(⟨r16, wr (((gt l (gt l5 (wr (((l2.length : Nat) : Int) - 1)))).cost) + ((gt r2.1.ops (gt r15 t68)).cost)), (gt l5 (wr (((l2.length : Nat) : Int) - 1))), (gt r15 t68)⟩ : Node)] : List Node)) (gt l12 (wr (Int.tdiv (wr (j - 1)) 2)))).cost)) := ⟨_, rfl⟩
     replace hF := hF x7 q144
     refine .gv (v := .bool x7) (by rw [q144]; exact bi rfl rfl rfl) rfl rfl rfl q3 rfl rfl ?_
     refine .GV mv0 q3 ?_
     rcases Bool.eq_false_or_eq_true (x7) with q0 | q0
     ·replace hF := hF.1 q0
      refine .GV mv0 q0 ?_
      refine .GV (nck rfl) q0 ?_
      refine .GV (fa rfl tF117_1) q0 ?_
      refine .GV (lB 1 0 tO22) q0 ?_
      refine .GV mv0 q0 ?_
      refine .GV (ixS rfl rfl tS22 (k := 11) rfl (inb_n q40 q23)) q0 ?_
      refine .GV (ld1 (v := iV (gt l12 j)) rfl tO3 (cellS (k := 11) rfl (flL_get q40 (j := 0) rfl))) q0 ?_
      refine .GV mv0 q0 ?_
      refine .GV (nck rfl) q0 ?_
      refine .GV (fa rfl tF117_1) q0 ?_
      refine .GV (lB 1 0 tO22) q0 ?_
      refine .GV mv0 q0 ?_
      refine .GV (ixS rfl rfl tS22 (k := 11) rfl (inb_n q29 q23)) q0 ?_
      refine .GV (ld1 (v := iV (gt l12 (wr (Int.tdiv (wr (j - 1)) 2)))) rfl tO3 (cellS (k := 11) rfl (flL_get q29 (j := 0) rfl))) q0 ?_
      obtain ⟨x8, q145⟩ : ∃ y_ : Bool, y_ = (decide ((gt l12 j) < (gt l12 (wr (Int.tdiv (wr (j - 1)) 2))))) := ⟨_, rfl⟩
      replace hF := hF x8 q145
      refine .gv (v := .bool x8) (by rw [q145]; exact bi rfl rfl rfl) rfl rfl rfl q0 rfl rfl ?_
      refine .GV (pkT rfl q0 rfl) q3 ?_
      refine .V (pkF rfl q3 rfl) ?_
      refine .V ag0 ?_
      refine .fin ?_
      refine .sel0 [1, 2, 3, 4, 5, 6, 7, 8, 0, 9, 10, 12, 11] (by decide) rfl ?_
      exact .US q87 x8 hF
     replace hF := hF.2 q0
     refine .GS q0 ?_
     refine .GS q0 ?_
     refine .GS q0 ?_
     refine .GS q0 ?_
     refine .GS q0 ?_
     refine .GS q0 ?_
     refine .GS q0 ?_
     refine .GS q0 ?_
     refine .GS q0 ?_
     refine .GS q0 ?_
     refine .GS q0 ?_
     refine .GS q0 ?_
     refine .GS q0 ?_
     refine .GS q0 ?_
     refine .GS q0 ?_
     refine .GV (pkF rfl q0 rfl) q3 ?_
     refine .V (pkF rfl q3 rfl) ?_
     refine .V ag0 ?_
     refine .fin ?_
     refine .sel0 [1, 2, 3, 4, 5, 6, 7, 8, 0, 9, 10, 12, 11] (by decide) rfl ?_
     exact .US q87 false hF
    replace hF := hF.2 q80
    refine .exit (.seqX (.seqX (.blkX (.blkN ?_))))
    refine .sel0 [0, 1, 2, 3, 4, 5, 7, 8, 9, 10, 11, 12] (by decide) rfl ?_
    exact .RO (wr (x + 1), m3, l6, l7, al6, cl6, csl3, al7, cl7, h254) ⟨hF.1, q131, (FH.le_trans (FH.le_trans (q18) (le246)) (q34))⟩ hF.2
   refine .block ?_
   refine .sel0 [4, 6, 7, 8, 9, 0, 1, 2, 3, 5, 11, 10] (by decide) rfl ?_
   obtain ⟨I4, μ4, q92, q191⟩ := hF
   refine .loop' (σ := Int × List Int) (fun z => I4 z.1 z.2 ∧ z.2.length = l2.length) (fun z => μ4 z.1 z.2) (fun z => [(0, .iface 114 (vP pv4)), (1, iV 0), (2, iV (nM l2)), (7, iV z.1)]) (fun z => [Box pv4 [vP pnodes, vSl al3 l2 cl3], Box pg [iV r4.2.code, iV r4.2.index], Box ph [iV r5.2.code, iV r5.2.index], Box pv [.bool false, .slice none 0 0, iV 0, iV 0], Box pv2 [iV 0, iV 0], Box pt3 (tF r2.1 a2 c a3 c2 a4 c3), Box pv3 [.bool false, .slice none 0 0, iV 0, iV 0], Box pout [.bool false, .slice none 0 0, iV 0, iV x], Box pnodes [vSl al2 l cl2], OwnMapI bv .i64 (fun zE : Int => iV zE) m, OwnSl 3 1 al3 l2.length cl3 (flL z.2), OwnSl 112 4 al2 l.length cl2 csl]) (fun _ => h208) (0, d2) ⟨q92, q168⟩ sb rfl (FH.le_refl _) ?_
   rintro ⟨i2, l14⟩ ⟨q92, q6⟩
   have hF := q191 i2 l14 q92
   show J _ _ _ _ _ [(0, .iface 114 (vP pv4)), (1, iV 0), (2, iV (nM l2)), (7, iV i2)] [Box pv4 [vP pnodes, vSl al3 l2 cl3], Box pg [iV r4.2.code, iV r4.2.index], Box ph [iV r5.2.code, iV r5.2.index], Box pv [.bool false, .slice none 0 0, iV 0, iV 0], Box pv2 [iV 0, iV 0], Box pt3 (tF r2.1 a2 c a3 c2 a4 c3), Box pv3 [.bool false, .slice none 0 0, iV 0, iV 0], Box pout [.bool false, .slice none 0 0, iV 0, iV x], Box pnodes [vSl al2 l cl2], OwnMapI bv .i64 (fun zE : Int => iV zE) m, OwnSl 3 1 al3 l2.length cl3 (flL l14), OwnSl 112 4 al2 l.length cl2 csl] h208
   refine .block (.seq (.region (.V mv0 ?_)))
   refine .V bi0 ?_
   refine .V bi0 ?_
   refine .V ag0 ?_
   refine .nil (.seqN (.seq (.seq (.region (.V mv0 ?_)))))
   refine .V mv0 ?_
   obtain ⟨x9, q146⟩ : ∃ y_ : Bool, y_ = (decide ((wr (((l2.length : Nat) : Int) - 1)) ≤ (wr ((wr (2 * i2)) + 1)))) := ⟨_, rfl⟩
   replace hF := hF x9 q146
   refine .v (v := .bool x9) (by rw [q146]; exact bi rfl rfl rfl) rfl rfl rfl ?_
   refine .V mv0 ?_
   rcases Bool.eq_false_or_eq_true (x9) with q35 | q35
   ·replace hF := hF.1 q35
    refine .GS q35 ?_
    refine .GS q35 ?_
    refine .V (pkT rfl q35 rfl) ?_
    refine .nil (.seqN ?_)
    refine .cond rfl (fun _ => ?_) (fun e => absurd (e.symm.trans rfl) (by decide))
    refine .exit (.seqX ?_)
    refine .blkY rfl ?_
    refine .seqX (.blkX ?_)
    refine .sel0 [1, 2, 3, 4, 5, 6, 7, 8, 0, 9, 11, 10] (by decide) rfl ?_
    exact .US q72 (i2, l14) ⟨hF, q6⟩
   replace hF := hF.2 q35
   refine .GV mv0 q35 ?_
   obtain ⟨x10, q147⟩ : ∃ y_ : Bool, y_ = (decide ((wr ((wr (2 * i2)) + 1)) < 0)) := ⟨_, rfl⟩
   replace hF := hF x10 q147
   refine .gv (v := .bool x10) (by rw [q147]; exact bi rfl rfl rfl) rfl rfl rfl q35 rfl rfl ?_
   refine .V (pkF rfl q35 rfl) ?_
   refine .nil (.seqN ?_)
   refine .cond rfl (fun q93 => ?_) (fun q93 => ?_)
   ·replace hF := hF.1 q93
    refine .exit (.seqX ?_)
    refine .blkY rfl ?_
    refine .seqX (.blkX ?_)
    refine .sel0 [1, 2, 3, 4, 5, 6, 7, 8, 0, 9, 11, 10] (by decide) rfl ?_
    exact .US q72 (i2, l14) ⟨hF, q6⟩
   replace hF := hF.2 q93
   refine .skip (.seqN (.seq (.region (.V mv0 ?_))))
   refine .V ag0 ?_
   refine .nil (.seqN (.seq (.seq (.region (.V mv0 ?_)))))
   obtain ⟨x11, q148⟩ : ∃ y_ : Int, y_ = (wr ((wr ((wr (2 * i2)) + 1)) + 1)) := ⟨_, rfl⟩
   replace hF := hF x11 q148
   refine .v (v := iV x11) (by rw [q148]; exact bi rfl rfl rfl) rfl rfl rfl ?_
   refine .V ag0 ?_
   refine .nil (.seqN ?_)
   refine .share (σ := Bool) (fun z => F_lawProd_J11 K r2 r4 r5 x z l i2 l2 m x11 I4 μ4 I1 μ1 l14) (fun z => [(0, .iface 114 (vP pv4)), (1, iV 0), (2, iV (nM l2)), (7, iV i2), (9, iV (wr ((wr (2 * i2)) + 1))), (10, iV x11), (33, .bool z)]) (fun _ => [Box pv4 [vP pnodes, vSl al3 l2 cl3], Box pg [iV r4.2.code, iV r4.2.index], Box ph [iV r5.2.code, iV r5.2.index], Box pv [.bool false, .slice none 0 0, iV 0, iV 0], Box pv2 [iV 0, iV 0], Box pt3 (tF r2.1 a2 c a3 c2 a4 c3), Box pv3 [.bool false, .slice none 0 0, iV 0, iV 0], Box pout [.bool false, .slice none 0 0, iV 0, iV x], Box pnodes [vSl al2 l cl2], OwnMapI bv .i64 (fun zE : Int => iV zE) m, OwnSl 3 1 al3 l2.length cl3 (flL l14), OwnSl 112 4 al2 l.length cl2 csl]) (fun _ => h208) ?_ (fun q149 => ?_)
   ·rintro t33 hF
    show J _ _ _ _ _ [(0, .iface 114 (vP pv4)), (1, iV 0), (2, iV (nM l2)), (7, iV i2), (9, iV (wr ((wr (2 * i2)) + 1))), (10, iV x11), (33, .bool t33)] [Box pv4 [vP pnodes, vSl al3 l2 cl3], Box pg [iV r4.2.code, iV r4.2.index], Box ph [iV r5.2.code, iV r5.2.index], Box pv [.bool false, .slice none 0 0, iV 0, iV 0], Box pv2 [iV 0, iV 0], Box pt3 (tF r2.1 a2 c a3 c2 a4 c3), Box pv3 [.bool false, .slice none 0 0, iV 0, iV 0], Box pout [.bool false, .slice none 0 0, iV 0, iV x], Box pnodes [vSl al2 l cl2], OwnMapI bv .i64 (fun zE : Int => iV zE) m, OwnSl 3 1 al3 l2.length cl3 (flL l14), OwnSl 112 4 al2 l.length cl2 csl] h208
    refine .shareT (σ := Int) (fun z => F_lawProd_J12 K r2 r4 r5 x l i2 l2 m z I4 μ4 I1 μ1 l14) (fun z => [(0, .iface 114 (vP pv4)), (1, iV 0), (2, iV (nM l2)), (7, iV i2), (9, iV z)]) (fun _ => [Box pv4 [vP pnodes, vSl al3 l2 cl3], Box pg [iV r4.2.code, iV r4.2.index], Box ph [iV r5.2.code, iV r5.2.index], Box pv [.bool false, .slice none 0 0, iV 0, iV 0], Box pv2 [iV 0, iV 0], Box pt3 (tF r2.1 a2 c a3 c2 a4 c3), Box pv3 [.bool false, .slice none 0 0, iV 0, iV 0], Box pout [.bool false, .slice none 0 0, iV 0, iV x], Box pnodes [vSl al2 l cl2], OwnMapI bv .i64 (fun zE : Int => iV zE) m, OwnSl 3 1 al3 l2.length cl3 (flL l14), OwnSl 112 4 al2 l.length cl2 csl]) (fun _ => h208) ?_ (fun q150 => ?_)
    ·rintro j3 hF
     show J _ _ _ _ _ [(0, .iface 114 (vP pv4)), (1, iV 0), (2, iV (nM l2)), (7, iV i2), (9, iV j3)] [Box pv4 [vP pnodes, vSl al3 l2 cl3], Box pg [iV r4.2.code, iV r4.2.index], Box ph [iV r5.2.code, iV r5.2.index], Box pv [.bool false, .slice none 0 0, iV 0, iV 0], Box pv2 [iV 0, iV 0], Box pt3 (tF r2.1 a2 c a3 c2 a4 c3), Box pv3 [.bool false, .slice none 0 0, iV 0, iV 0], Box pout [.bool false, .slice none 0 0, iV 0, iV x], Box pnodes [vSl al2 l cl2], OwnMapI bv .i64 (fun zE : Int => iV zE) m, OwnSl 3 1 al3 l2.length cl3 (flL l14), OwnSl 112 4 al2 l.length cl2 csl] h208
     refine .seq (.seq (.region (.V mv0 ?_)))
     refine .V mv0 ?_
     refine .V mv0 ?_
     refine .inlI Tryz.func156 rfl Tryz.ntmps156 Tryz.call156 tm114_Less rfl rfl rfl (fun a34 q192 => ?_)
     refine .seq (.region (.V ag0 ?_))
     refine .nil (.seqN (.seq ?_))
     refine .open_ (by kernel_rfl) (by kernel_rfl) ?_
     refine .V mv0 ?_
     refine .V (nck rfl) ?_
     refine .V (fa rfl tF117_0) ?_
     refine .V (lB 0 0 tO115) ?_
     refine .V (nck rfl) ?_
     refine .V (lB 0 8 tO113) ?_
     refine .V mv0 ?_
     refine .V (nck rfl) ?_
     refine .V (fa rfl tF117_1) ?_
     refine .V (lB 1 0 tO22) ?_
     refine .V mv0 ?_
     obtain ⟨q41, hF⟩ := hF
     refine .V (ixS rfl rfl tS22 (k := 10) rfl (inb_n q41 q6)) ?_
     refine .V (ld1 (v := iV (gt l14 j3)) rfl tO3 (cellS (k := 10) rfl (flL_get q41 (j := 0) rfl))) ?_
     obtain ⟨q151, hF⟩ := hF
     refine .V (ixS rfl rfl tS113 (k := 11) rfl q151) ?_
     refine .V (fa rfl tF112_1) ?_
     obtain ⟨_, ⟨a35, c15, rfl, q214, q215⟩, q193⟩ := RepL.get q37 (gt_get q151)
     refine .V (ld1 (v := iV ((gt l (gt l14 j3)).cost)) rfl tO3 (cellF (k := 11) rfl (q193 1 _ rfl))) ?_
     refine .V mv0 ?_
     refine .V (nck rfl) ?_
     refine .V (fa rfl tF117_0) ?_
     refine .V (lB 0 0 tO115) ?_
     refine .V (nck rfl) ?_
     refine .V (lB 0 8 tO113) ?_
     refine .V mv0 ?_
     refine .V (nck rfl) ?_
     refine .V (fa rfl tF117_1) ?_
     refine .V (lB 1 0 tO22) ?_
     refine .V mv0 ?_
     obtain ⟨q30, hF⟩ := hF
     refine .V (ixS rfl rfl tS22 (k := 10) rfl (inb_n q30 q6)) ?_
     refine .V (ld1 (v := iV (gt l14 i2)) rfl tO3 (cellS (k := 10) rfl (flL_get q30 (j := 0) rfl))) ?_
     obtain ⟨q152, hF⟩ := hF
     refine .V (ixS rfl rfl tS113 (k := 11) rfl q152) ?_
     refine .V (fa rfl tF112_1) ?_
     obtain ⟨_, ⟨a36, c16, rfl, q216, q217⟩, q194⟩ := RepL.get q37 (gt_get q152)
     refine .V (ld1 (v := iV ((gt l (gt l14 i2)).cost)) rfl tO3 (cellF (k := 11) rfl (q194 1 _ rfl))) ?_
     refine .V ag0 ?_
     refine .V ag0 ?_
     refine .fin ?_
     refine .seqN ?_
     refine .share (σ := Bool) (fun z => F_lawProd_J13 K r2 r4 r5 x z l i2 l2 m j3 I4 μ4 I1 μ1 l14) (fun z => [(6, .bool z)]) (fun _ => [Box pg [iV r4.2.code, iV r4.2.index], Box ph [iV r5.2.code, iV r5.2.index], Box pv [.bool false, .slice none 0 0, iV 0, iV 0], Box pv2 [iV 0, iV 0], Box pt3 (tF r2.1 a2 c a3 c2 a4 c3), Box pv3 [.bool false, .slice none 0 0, iV 0, iV 0], Box pout [.bool false, .slice none 0 0, iV 0, iV x], Box pnodes [vSl al2 l cl2], Box pv4 [vP pnodes, vSl al3 l2 cl3], OwnMapI bv .i64 (fun zE : Int => iV zE) m, OwnSl 112 4 al2 l.length cl2 csl, OwnSl 3 1 al3 l2.length cl3 (flL l14)]) (fun _ => h208) ?_ (fun q94 => ?_)
     ·rintro t62 hF
      show J _ _ _ _ _ [(6, .bool t62)] [Box pg [iV r4.2.code, iV r4.2.index], Box ph [iV r5.2.code, iV r5.2.index], Box pv [.bool false, .slice none 0 0, iV 0, iV 0], Box pv2 [iV 0, iV 0], Box pt3 (tF r2.1 a2 c a3 c2 a4 c3), Box pv3 [.bool false, .slice none 0 0, iV 0, iV 0], Box pout [.bool false, .slice none 0 0, iV 0, iV x], Box pnodes [vSl al2 l cl2], Box pv4 [vP pnodes, vSl al3 l2 cl3], OwnMapI bv .i64 (fun zE : Int => iV zE) m, OwnSl 112 4 al2 l.length cl2 csl, OwnSl 3 1 al3 l2.length cl3 (flL l14)] h208
      refine .ret ?_
      refine .res1 rfl (rvT rfl) (inl_back (v := .bool t62) q192 rfl ?_)
      refine .V (nt rfl) ?_
      refine .nil (.seqN ?_)
      refine .cond rfl (fun q95 => ?_) (fun q95 => ?_)
      ·replace hF := hF.1 q95
       refine .exit (.seqX ?_)
       refine .blkY rfl ?_
       refine .seqX (.blkX ?_)
       exact .US q72 (i2, l14) ⟨hF, q6⟩
      replace hF := hF.2 q95
      refine .skip (.seqN (.seq (.region (.V mv0 ?_))))
      refine .V mv0 ?_
      refine .V mv0 ?_
      refine .inlI Tryz.func159 rfl Tryz.ntmps159 Tryz.call159 tm114_Swap rfl rfl rfl (fun a37 q195 => ?_)
      refine .OA (s0 := [(0, vP pv4), (1, iV i2), (2, iV j3)]) [0, 1, 2, 3, 4, 5, 6, 7, 8, 9, 10, 11, 12, 13, 14, 15, 16, 17, 18, 19, 20, 21, 22, 23, 24] [(0, vP pv4), (1, vP pv4), (2, vP (pv4.add 1)), (3, vSl al3 l2 cl3), (4, iV i2), (5, vP pv4), (6, vP pv4), (7, vP (pv4.add 1)), (8, vSl al3 l2 cl3), (9, iV j3), (10, vP pv4), (11, vP pv4), (12, vP (pv4.add 1)), (13, vSl al3 l2 cl3), (14, iV j3), (15, vP (ead al3 (j3.toNat * 1))), (16, iV (gt l14 j3)), (17, vP pv4), (18, vP pv4), (19, vP (pv4.add 1)), (20, vSl al3 l2 cl3), (21, iV i2), (22, vP (ead al3 (i2.toNat * 1))), (23, iV (gt l14 i2)), (24, vP (ead al3 (i2.toNat * 1)))] [0, 1, 2] [] ?_
      refine .ST [25] 25 (.w [] rfl mv0 (.w [(6, vP pv4)] rfl (nck rfl) (.w [(7, vP pv4)] rfl (fa rfl tF117_1) (.w [(8, vP (pv4.add 1))] rfl (lB 1 8 tO22) (.w [] rfl mv0 (.w [] rfl mv0 (.w [(11, vP pv4)] rfl (nck rfl) (.w [(12, vP pv4)] rfl (fa rfl tF117_1) (.w [(13, vP (pv4.add 1))] rfl (lB 1 8 tO22) (.w [] rfl mv0 (.w [] rfl mv0 (.w [(16, vP pv4)] rfl (nck rfl) (.w [(17, vP pv4)] rfl (fa rfl tF117_1) (.w [(18, vP (pv4.add 1))] rfl (lB 1 8 tO22) (.w [] rfl mv0 (.w [(19, vSl al3 l2 cl3), (20, iV j3)] rfl (ixS rfl rfl tS22 (k := 11) rfl (inb_n q41 q6)) (.w [(21, vP (ead al3 (j3.toNat * 1)))] rfl (ld1 (v := iV (gt l14 j3)) rfl tO3 (cellS (k := 11) rfl (flL_get q41 (j := 0) rfl))) (.w [] rfl mv0 (.w [(23, vP pv4)] rfl (nck rfl) (.w [(24, vP pv4)] rfl (fa rfl tF117_1) (.w [(25, vP (pv4.add 1))] rfl (lB 1 8 tO22) (.w [] rfl mv0 (.w [(26, vSl al3 l2 cl3), (27, iV i2)] rfl (ixS rfl rfl tS22 (k := 11) rfl (inb_n q30 q6)) (.w [(28, vP (ead al3 (i2.toNat * 1)))] rfl (ld1 (v := iV (gt l14 i2)) rfl tO3 (cellS (k := 11) rfl (flL_get q30 (j := 0) rfl))) (.w [(9, vSl al3 l2 cl3), (10, iV i2), (6, vP pv4), (7, vP pv4), (8, vP (pv4.add 1)), (9, vSl al3 l2 cl3), (10, iV i2), (14, vSl al3 l2 cl3), (16, vP pv4), (17, vP pv4), (18, vP (pv4.add 1)), (19, vSl al3 l2 cl3), (20, iV j3), (21, vP (ead al3 (j3.toNat * 1))), (22, iV (gt l14 j3)), (26, vSl al3 l2 cl3), (29, iV (gt l14 i2))] rfl (ixS rfl rfl tS22 (k := 11) rfl (inb_n q30 q6)) (.nil)))))))))))))))))))))))))) (.cons [(30, vP (ead al3 (i2.toNat * 1))), (22, iV (gt l14 j3)), (6, vP pv4), (7, vP pv4), (8, vP (pv4.add 1)), (9, vSl al3 l2 cl3), (10, iV i2), (14, vSl al3 l2 cl3), (16, vP pv4), (17, vP pv4), (18, vP (pv4.add 1)), (19, vSl al3 l2 cl3), (20, iV j3), (21, vP (ead al3 (j3.toNat * 1))), (22, iV (gt l14 j3)), (26, vSl al3 l2 cl3), (29, iV (gt l14 i2))] rfl rfl (fun sL hL => ?_) (.nil))
      obtain ⟨d6, q96⟩ : ∃ y_ : List Int, y_ = (l14.set (i2).toNat (gt l14 j3)) := ⟨_, rfl⟩
      replace hF := hF d6 q96
      refine stS (k := 11) (cs' := flL d6) rfl (fun _ => rfl) rfl rfl (fun w => (tO3 w).2) rfl rfl rfl (by rw [← q6]; exact inb_pos q30) (fl_room q30) (by rw [q96]; exact flL_set q30 (gt l14 j3)) ?_
      have q97 : d6.length = l2.length := by rw [q96]; exact List.length_set.trans q6
      refine .nil ?_
      obtain ⟨q55, hF⟩ := hF
      refine .jaN (M := [24, 16, 0, 1, 2, 3, 4, 8, 10, 11, 12, 13, 14, 15, 20, 23, 7, 19, 22, 6, 18, 21, 5, 17]) (C' := [9, 26]) (pre := [(26, vP (ead al3 (j3.toNat * 1)))]) [0, 1, 2] hL rfl rfl rfl rfl rfl (by kernel_rfl) ?_
      refine .ST [27] 27 (.w [] rfl mv0 (.w [(14, vSl al3 l2 cl3), (15, iV j3), (6, vP pv4), (7, vP pv4), (8, vP (pv4.add 1)), (9, vSl al3 l2 cl3), (10, iV i2), (11, vP pv4), (12, vP pv4), (13, vP (pv4.add 1)), (14, vSl al3 l2 cl3), (15, iV j3), (16, vP pv4), (17, vP pv4), (18, vP (pv4.add 1)), (19, vSl al3 l2 cl3), (20, iV j3), (21, vP (ead al3 (j3.toNat * 1))), (22, iV (gt l14 j3)), (23, vP pv4), (24, vP pv4), (25, vP (pv4.add 1)), (26, vSl al3 l2 cl3), (27, iV i2), (28, vP (ead al3 (i2.toNat * 1))), (29, iV (gt l14 i2)), (30, vP (ead al3 (i2.toNat * 1)))] rfl (ixS rfl rfl tS22 (k := 11) rfl (inb_n q55 q97)) (.nil))) (.cons [(31, vP (ead al3 (j3.toNat * 1))), (29, iV (gt l14 i2)), (6, vP pv4), (7, vP pv4), (8, vP (pv4.add 1)), (9, vSl al3 l2 cl3), (10, iV i2), (11, vP pv4), (12, vP pv4), (13, vP (pv4.add 1)), (14, vSl al3 l2 cl3), (15, iV j3), (16, vP pv4), (17, vP pv4), (18, vP (pv4.add 1)), (19, vSl al3 l2 cl3), (20, iV j3), (21, vP (ead al3 (j3.toNat * 1))), (22, iV (gt l14 j3)), (23, vP pv4), (24, vP pv4), (25, vP (pv4.add 1)), (26, vSl al3 l2 cl3), (27, iV i2), (28, vP (ead al3 (i2.toNat * 1))), (29, iV (gt l14 i2)), (30, vP (ead al3 (i2.toNat * 1)))] rfl rfl (fun sL hL => ?_) (.nil))
      obtain ⟨d7, q98⟩ : ∃ y_ : List Int, y_ = (d6.set (j3).toNat (gt l14 i2)) := ⟨_, rfl⟩
      replace hF := hF d7 q98
      refine stS (k := 11) (cs' := flL d7) rfl (fun _ => rfl) rfl rfl (fun w => (tO3 w).2) rfl rfl rfl (by rw [← q97]; exact inb_pos q55) (fl_room q55) (by rw [q98]; exact flL_set q55 (gt l14 i2)) ?_
      have q196 : d7.length = l2.length := by rw [q98]; exact List.length_set.trans q97
      refine .nil ?_
      refine .jaN (M := [26, 9]) (C' := []) (pre := []) [0, 1, 2] hL rfl rfl rfl rfl rfl (by kernel_rfl) ?_
      refine .LA [(6, vP pv4), (7, vP pv4), (8, vP (pv4.add 1)), (9, vSl al3 l2 cl3), (10, iV i2), (11, vP pv4), (12, vP pv4), (13, vP (pv4.add 1)), (14, vSl al3 l2 cl3), (15, iV j3), (16, vP pv4), (17, vP pv4), (18, vP (pv4.add 1)), (19, vSl al3 l2 cl3), (20, iV j3), (21, vP (ead al3 (j3.toNat * 1))), (22, iV (gt l14 j3)), (23, vP pv4), (24, vP pv4), (25, vP (pv4.add 1)), (26, vSl al3 l2 cl3), (27, iV i2), (28, vP (ead al3 (i2.toNat * 1))), (29, iV (gt l14 i2)), (30, vP (ead al3 (i2.toNat * 1))), (31, vP (ead al3 (j3.toNat * 1)))] (.nil) ?_
      refine .res0 (.inr rfl) rfl (inl_back (v := .tuple #[]) q195 rfl ?_)
      refine .nil (.seqN (.region (.V mv0 ?_)))
      refine .V ag0 ?_
      refine .nil (.blkN ?_)
      refine .sel0 [8, 0, 1, 2, 3, 4, 5, 6, 7, 9, 11, 10] (by decide) rfl ?_
      exact .RO (j3, d7) ⟨hF.1, q196⟩ hF.2
     refine .open_ (by kernel_rfl) (by kernel_rfl) ?_
     refine .V mv0 ?_
     refine .V mv0 ?_
     refine .V bi0 ?_
     refine .V mv0 ?_
     rcases Bool.eq_false_or_eq_true (decide (((gt l (gt l14 j3)).cost) < ((gt l (gt l14 i2)).cost))) with q4 | q4
     ·replace hF := hF.1 q4
      refine .GS q4 ?_
      refine .GS q4 ?_
      refine .GS q4 ?_
      refine .GS q4 ?_
      refine .GU ?_
      refine .GU ?_
      refine .GU ?_
      refine .GU ?_
      refine .GU ?_
      refine .GU ?_
      refine .GU ?_
      refine .GU ?_
      refine .GU ?_
      refine .GU ?_
      refine .GU ?_
      refine .GU ?_
      refine .GU ?_
      refine .GU ?_
      refine .GU ?_
      refine .GS q4 ?_
      refine .V (pkT rfl q4 rfl) ?_
      refine .V ag0 ?_
      refine .fin ?_
      refine .sel0 [1, 2, 3, 4, 5, 6, 7, 8, 0, 9, 11, 10] (by decide) rfl ?_
      exact .US q94 true hF
     replace hF := hF.2 q4
     refine .GV mv0 q4 ?_
     refine .GV mv0 q4 ?_
     refine .GV bi0 q4 ?_
     refine .GV mv0 q4 ?_
     rcases Bool.eq_false_or_eq_true (((gt l (gt l14 j3)).cost) == ((gt l (gt l14 i2)).cost)) with q1 | q1
     ·replace hF := hF.1 q1
      refine .GV mv0 q1 ?_
      refine .GV (nck rfl) q1 ?_
      refine .GV (fa rfl tF117_1) q1 ?_
      refine .GV (lB 1 0 tO22) q1 ?_
      refine .GV mv0 q1 ?_
      refine .GV (ixS rfl rfl tS22 (k := 10) rfl (inb_n q41 q6)) q1 ?_
      refine .GV (ld1 (v := iV (gt l14 j3)) rfl tO3 (cellS (k := 10) rfl (flL_get q41 (j := 0) rfl))) q1 ?_
      refine .GV mv0 q1 ?_
      refine .GV (nck rfl) q1 ?_
      refine .GV (fa rfl tF117_1) q1 ?_
      refine .GV (lB 1 0 tO22) q1 ?_
      refine .GV mv0 q1 ?_
      refine .GV (ixS rfl rfl tS22 (k := 10) rfl (inb_n q30 q6)) q1 ?_
      refine .GV (ld1 (v := iV (gt l14 i2)) rfl tO3 (cellS (k := 10) rfl (flL_get q30 (j := 0) rfl))) q1 ?_
      refine .GV bi0 q1 ?_
      refine .GV (pkT rfl q1 rfl) q4 ?_
      refine .V (pkF rfl q4 rfl) ?_
      refine .V ag0 ?_
      refine .fin ?_
      refine .sel0 [1, 2, 3, 4, 5, 6, 7, 8, 0, 9, 11, 10] (by decide) rfl ?_
      exact .US q94 (decide ((gt l14 j3) < (gt l14 i2))) hF
     replace hF := hF.2 q1
     refine .GS q1 ?_
     refine .GS q1 ?_
     refine .GS q1 ?_
     refine .GS q1 ?_
     refine .GS q1 ?_
     refine .GS q1 ?_
     refine .GS q1 ?_
     refine .GS q1 ?_
     refine .GS q1 ?_
     refine .GS q1 ?_
     refine .GS q1 ?_
     refine .GS q1 ?_
     refine .GS q1 ?_
     refine .GS q1 ?_
     refine .GS q1 ?_
     refine .GV (pkF rfl q1 rfl) q4 ?_
     refine .V (pkF rfl q4 rfl) ?_
     refine .V ag0 ?_
     refine .fin ?_
     refine .sel0 [1, 2, 3, 4, 5, 6, 7, 8, 0, 9, 11, 10] (by decide) rfl ?_
     exact .US q94 false hF
    refine .cond rfl (fun q99 => ?_) (fun q99 => ?_)
    ·replace hF := hF.1 q99
     refine .region (.V mv0 ?_)
     refine .V ag0 ?_
     refine .nil ?_
     exact .US q150 x11 hF
    replace hF := hF.2 q99
    refine .skip ?_
    exact .US q150 (wr ((wr (2 * i2)) + 1)) hF
   refine .region (.V mv0 ?_)
   refine .V mv0 ?_
   obtain ⟨x12, q153⟩ : ∃ y_ : Bool, y_ = (decide (x11 < (wr (((l2.length : Nat) : Int) - 1)))) := ⟨_, rfl⟩
   replace hF := hF x12 q153
   refine .v (v := .bool x12) (by rw [q153]; exact bi rfl rfl rfl) rfl rfl rfl ?_
   refine .V mv0 ?_
   rcases Bool.eq_false_or_eq_true (x12) with q8 | q8
   ·replace hF := hF.1 q8
    refine .GV mv0 q8 ?_
    refine .GV mv0 q8 ?_
    refine .GV mv0 q8 ?_
    refine .gR rfl rfl rfl q8 ?_
    refine .inlI Tryz.func156 rfl Tryz.ntmps156 Tryz.call156 tm114_Less rfl rfl rfl (fun a38 q197 => ?_)
    refine .seq (.region (.V ag0 ?_))
    refine .nil (.seqN (.seq ?_))
    refine .open_ (by kernel_rfl) (by kernel_rfl) ?_
    refine .V mv0 ?_
    refine .V (nck rfl) ?_
    refine .V (fa rfl tF117_0) ?_
    refine .V (lB 0 0 tO115) ?_
    refine .V (nck rfl) ?_
    refine .V (lB 0 8 tO113) ?_
    refine .V mv0 ?_
    refine .V (nck rfl) ?_
    refine .V (fa rfl tF117_1) ?_
    refine .V (lB 1 0 tO22) ?_
    refine .V mv0 ?_
    obtain ⟨q56, hF⟩ := hF
    refine .V (ixS rfl rfl tS22 (k := 10) rfl (inb_n q56 q6)) ?_
    refine .V (ld1 (v := iV (gt l14 x11)) rfl tO3 (cellS (k := 10) rfl (flL_get q56 (j := 0) rfl))) ?_
    obtain ⟨q154, hF⟩ := hF
    refine .V (ixS rfl rfl tS113 (k := 11) rfl q154) ?_
    refine .V (fa rfl tF112_1) ?_
    obtain ⟨_, ⟨a39, c17, rfl, q218, q219⟩, q198⟩ := RepL.get q37 (gt_get q154)
    refine .V (ld1 (v := iV ((gt l (gt l14 x11)).cost)) rfl tO3 (cellF (k := 11) rfl (q198 1 _ rfl))) ?_
    refine .V mv0 ?_
    refine .V (nck rfl) ?_
    refine .V (fa rfl tF117_0) ?_
    refine .V (lB 0 0 tO115) ?_
    refine .V (nck rfl) ?_
    refine .V (lB 0 8 tO113) ?_
    refine .V mv0 ?_
    refine .V (nck rfl) ?_
    refine .V (fa rfl tF117_1) ?_
    refine .V (lB 1 0 tO22) ?_
    refine .V mv0 ?_
    obtain ⟨q57, hF⟩ := hF
    refine .V (ixS rfl rfl tS22 (k := 10) rfl (inb_n q57 q6)) ?_
    refine .V (ld1 (v := iV (gt l14 (wr ((wr (2 * i2)) + 1)))) rfl tO3 (cellS (k := 10) rfl (flL_get q57 (j := 0) rfl))) ?_
    obtain ⟨q155, hF⟩ := hF
    refine .V (ixS rfl rfl tS113 (k := 11) rfl q155) ?_
    refine .V (fa rfl tF112_1) ?_
    obtain ⟨_, ⟨a40, c18, rfl, q220, q221⟩, q199⟩ := RepL.get q37 (gt_get q155)
    refine .V (ld1 (v := iV ((gt l (gt l14 (wr ((wr (2 * i2)) + 1)))).cost)) rfl tO3 (cellF (k := 11) rfl (q199 1 _ rfl))) ?_
    refine .V ag0 ?_
    refine .V ag0 ?_
    refine .fin ?_
    refine .seqN ?_
    refine .share (σ := Bool) (fun z => F_lawProd_J14 K r2 r4 r5 x l i2 l2 m x11 z I4 μ4 I1 μ1 l14) (fun z => [(6, .bool z)]) (fun _ => [Box pg [iV r4.2.code, iV r4.2.index], Box ph [iV r5.2.code, iV r5.2.index], Box pv [.bool false, .slice none 0 0, iV 0, iV 0], Box pv2 [iV 0, iV 0], Box pt3 (tF r2.1 a2 c a3 c2 a4 c3), Box pv3 [.bool false, .slice none 0 0, iV 0, iV 0], Box pout [.bool false, .slice none 0 0, iV 0, iV x], Box pnodes [vSl al2 l cl2], Box pv4 [vP pnodes, vSl al3 l2 cl3], OwnMapI bv .i64 (fun zE : Int => iV zE) m, OwnSl 112 4 al2 l.length cl2 csl, OwnSl 3 1 al3 l2.length cl3 (flL l14)]) (fun _ => h208) ?_ (fun q100 => ?_)
    ·rintro t63 hF
     show J _ _ _ _ _ [(6, .bool t63)] [Box pg [iV r4.2.code, iV r4.2.index], Box ph [iV r5.2.code, iV r5.2.index], Box pv [.bool false, .slice none 0 0, iV 0, iV 0], Box pv2 [iV 0, iV 0], Box pt3 (tF r2.1 a2 c a3 c2 a4 c3), Box pv3 [.bool false, .slice none 0 0, iV 0, iV 0], Box pout [.bool false, .slice none 0 0, iV 0, iV x], Box pnodes [vSl al2 l cl2], Box pv4 [vP pnodes, vSl al3 l2 cl3], OwnMapI bv .i64 (fun zE : Int => iV zE) m, OwnSl 112 4 al2 l.length cl2 csl, OwnSl 3 1 al3 l2.length cl3 (flL l14)] h208
     refine .ret ?_
     refine .res1 rfl (rvT rfl) (inl_back (v := .bool t63) q197 rfl ?_)
     refine .V (pkT rfl q8 rfl) ?_
     refine .nil ?_
     refine .sel0 [8, 0, 1, 2, 3, 4, 5, 6, 7, 9, 11, 10] (by decide) rfl ?_
     exact .US q149 t63 hF
    refine .open_ (by kernel_rfl) (by kernel_rfl) ?_
    refine .V mv0 ?_
    refine .V mv0 ?_
    obtain ⟨x13, q156⟩ : ∃ y_ : Bool, y_ = (decide (((gt l (gt l14 x11)).cost) < ((gt l (gt l14 (wr ((wr (2 * i2)) + 1)))).cost))) := ⟨_, rfl⟩
    replace hF := hF x13 q156
    refine .v (v := .bool x13) (by rw [q156]; exact bi rfl rfl rfl) rfl rfl rfl ?_
    refine .V mv0 ?_
    rcases Bool.eq_false_or_eq_true (x13) with q5 | q5
    ·replace hF := hF.1 q5
     refine .GS q5 ?_
     refine .GS q5 ?_
     refine .GS q5 ?_
     refine .GS q5 ?_
     refine .GU ?_
     refine .GU ?_
     refine .GU ?_
     refine .GU ?_
     refine .GU ?_
     refine .GU ?_
     refine .GU ?_
     refine .GU ?_
     refine .GU ?_
     refine .GU ?_
     refine .GU ?_
     refine .GU ?_
     refine .GU ?_
     refine .GU ?_
     refine .GU ?_
     refine .GS q5 ?_
     refine .V (pkT rfl q5 rfl) ?_
     refine .V ag0 ?_
     refine .fin ?_
     refine .sel0 [1, 2, 3, 4, 5, 6, 7, 8, 0, 9, 11, 10] (by decide) rfl ?_
     exact .US q100 true hF
    replace hF := hF.2 q5
    refine .GV mv0 q5 ?_
    refine .GV mv0 q5 ?_
    obtain ⟨x14, q157⟩ : ∃ y_ : Bool, y_ = (((gt l (gt l14 x11)).cost) == ((gt l (gt l14 (wr ((wr (2 * i2)) + 1)))).cost)) := ⟨_, rfl⟩
    replace hF := hF x14 q157
    refine .gv (v := .bool x14) (by rw [q157]; exact bi rfl rfl rfl) rfl rfl rfl q5 rfl rfl ?_
    refine .GV mv0 q5 ?_
    rcases Bool.eq_false_or_eq_true (x14) with q2 | q2
    ·replace hF := hF.1 q2
     refine .GV mv0 q2 ?_
     refine .GV (nck rfl) q2 ?_
     refine .GV (fa rfl tF117_1) q2 ?_
     refine .GV (lB 1 0 tO22) q2 ?_
     refine .GV mv0 q2 ?_
     refine .GV (ixS rfl rfl tS22 (k := 10) rfl (inb_n q56 q6)) q2 ?_
     refine .GV (ld1 (v := iV (gt l14 x11)) rfl tO3 (cellS (k := 10) rfl (flL_get q56 (j := 0) rfl))) q2 ?_
     refine .GV mv0 q2 ?_
     refine .GV (nck rfl) q2 ?_
     refine .GV (fa rfl tF117_1) q2 ?_
     refine .GV (lB 1 0 tO22) q2 ?_
     refine .GV mv0 q2 ?_
     refine .GV (ixS rfl rfl tS22 (k := 10) rfl (inb_n q57 q6)) q2 ?_
     refine .GV (ld1 (v := iV (gt l14 (wr ((wr (2 * i2)) + 1)))) rfl tO3 (cellS (k := 10) rfl (flL_get q57 (j := 0) rfl))) q2 ?_
     obtain ⟨x15, q158⟩ : ∃ y_ : Bool, y_ = (decide ((gt l14 x11) < (gt l14 (wr ((wr (2 * i2)) + 1))))) := ⟨_, rfl⟩
     replace hF := hF x15 q158
     refine .gv (v := .bool x15) (by rw [q158]; exact bi rfl rfl rfl) rfl rfl rfl q2 rfl rfl ?_
     refine .GV (pkT rfl q2 rfl) q5 ?_
     refine .V (pkF rfl q5 rfl) ?_
     refine .V ag0 ?_
     refine .fin ?_
     refine .sel0 [1, 2, 3, 4, 5, 6, 7, 8, 0, 9, 11, 10] (by decide) rfl ?_
     exact .US q100 x15 hF
    replace hF := hF.2 q2
    refine .GS q2 ?_
    refine .GS q2 ?_
    refine .GS q2 ?_
    refine .GS q2 ?_
    refine .GS q2 ?_
    refine .GS q2 ?_
    refine .GS q2 ?_
    refine .GS q2 ?_
    refine .GS q2 ?_
    refine .GS q2 ?_
    refine .GS q2 ?_
    refine .GS q2 ?_
    refine .GS q2 ?_
    refine .GS q2 ?_
    refine .GS q2 ?_
    refine .GV (pkF rfl q2 rfl) q5 ?_
    refine .V (pkF rfl q5 rfl) ?_
    refine .V ag0 ?_
    refine .fin ?_
    refine .sel0 [1, 2, 3, 4, 5, 6, 7, 8, 0, 9, 11, 10] (by decide) rfl ?_
    exact .US q100 false hF
   replace hF := hF.2 q8
   refine .GS q8 ?_
   refine .GS q8 ?_
   refine .GS q8 ?_
   refine .GS q8 ?_
   refine .V (pkF rfl q8 rfl) ?_
   refine .nil ?_
   exact .US q149 false hF
  replace hF := hF.2 q68
  refine .exit (.seqX (.seqX (.blkX (.seqN (.seq (.region (.V (ldA (cs := [.bool false, .slice none 0 0, iV 0, iV x]) rfl tA34 rfl (cellsB (off := 0) (k := 2) rfl (m := 4) rfl)) ?_)))))))
  refine st (p := pv3) (off := 0) (k := 1) (vs := [.bool false, .slice none 0 0, iV 0, iV x]) rfl rfl rfl (fun w => (tA34 w).2) rfl rfl rfl rfl ?_
  refine .nil (.seqN (.ret ?_))
  refine .res1 rfl (rvC rfl tA34 (k := 1) rfl rfl) (inl_back (v := .agg #[.bool false, .slice none 0 0, iV 0, iV x]) q115 rfl ?_)
  refine .V (bld (cs := #[iV 0, iV 0]) (pv := []) tB27 rfl rfl) ?_
  refine st (p := pv) (off := 0) (k := 8) (vs := [.bool false, .slice none 0 0, iV 0, iV x]) rfl rfl rfl (fun w => (tA34 w).2) rfl rfl rfl rfl ?_
  refine st (p := pv2) (off := 0) (k := 9) (vs := [iV 0, iV 0]) rfl rfl rfl (fun w => (tA27 w).2) rfl rfl rfl rfl ?_
  refine .nil (.seqN (.ret ?_))
  refine .res2 rfl (rvC rfl tA34 (k := 8) rfl rfl) (rvC rfl tA27 (k := 9) rfl rfl) (inl_back (v := .tuple #[.agg #[.bool false, .slice none 0 0, iV 0, iV x], .agg #[iV 0, iV 0]]) q50 rfl ?_)
  refine .V mv0 ?_
  refine .V (ext rfl rfl) ?_
  refine .V (ext rfl rfl) ?_
  refine al tZ34 rfl (fun pr4 => ?_)
  refine al tZ27 rfl (fun pi4 => ?_)
  refine st (p := pr4) (off := 0) (k := 1) (vs := [.bool false, .slice none 0 0, iV 0, iV x]) rfl rfl rfl (fun w => (tA34 w).2) rfl rfl rfl rfl ?_
  refine st (p := pi4) (off := 0) (k := 0) (vs := [iV 0, iV 0]) rfl rfl rfl (fun w => (tA27 w).2) rfl rfl rfl rfl ?_
  refine .KA [Box pi4 [iV 0, iV 0], Box pr4 [.bool false, .slice none 0 0, iV 0, iV x], Box pt3 (tF r2.1 a2 c a3 c2 a4 c3), Box pv3 [.bool false, .slice none 0 0, iV 0, iV x], Box pout [.bool false, .slice none 0 0, iV 0, iV x], Box pnodes [vSl al2 l cl2], Box pv4 [vP pnodes, vSl al3 l2 cl3], OwnMapI bv .i64 (fun zE : Int => iV zE) m, Box pg [iV r4.2.code, iV r4.2.index], Box ph [iV r5.2.code, iV r5.2.index], Box pv [.bool false, .slice none 0 0, iV 0, iV x], Box pv2 [iV 0, iV 0], OwnSl 112 4 al2 l.length cl2 csl, oL 3 1 al3 l2 cl3] ?_
  refine .nil (.seqN (.seq ?_))
  refine .share (σ := Bool) (fun z => F_lawProd_J15 K r4 r5 z) (fun z => [(7, iV r4.1), (8, vP pg), (9, iV r5.1), (10, vP ph), (11, vP pr4), (12, vP pi4), (59, .bool z)]) (fun _ => [Box pg [iV r4.2.code, iV r4.2.index], Box ph [iV r5.2.code, iV r5.2.index], Box pr4 [.bool false, .slice none 0 0, iV 0, iV x], Box pi4 [iV 0, iV 0]]) (fun _ => h208) ?_ (fun q101 => ?_)
  ·rintro t594 hF
   show J _ _ _ _ _ [(7, iV r4.1), (8, vP pg), (9, iV r5.1), (10, vP ph), (11, vP pr4), (12, vP pi4), (59, .bool t594)] [Box pg [iV r4.2.code, iV r4.2.index], Box ph [iV r5.2.code, iV r5.2.index], Box pr4 [.bool false, .slice none 0 0, iV 0, iV x], Box pi4 [iV 0, iV 0]] h208
   refine .cond rfl (fun q102 => ?_) (fun q102 => ?_)
   ·replace hF := hF.1 q102
    refine .seq ?_
    refine .open_ (by kernel_rfl) (by kernel_rfl) ?_
    refine .V (fa rfl tF27_0) ?_
    refine .V (lB 0 0 tO3) ?_
    refine .V bi0 ?_
    refine .V mv0 ?_
    rcases Bool.eq_false_or_eq_true (r4.2.code == 10) with q24 | q24
    ·replace hF := hF.1 q24
     refine .GS q24 ?_
     refine .GS q24 ?_
     refine .GS q24 ?_
     refine .V (pkT rfl q24 rfl) ?_
     refine .V mv0 ?_
     refine .GT ?_
     refine .GT ?_
     refine .GT ?_
     refine .V (pkT rfl rfl rfl) ?_
     refine .V ag0 ?_
     refine .fin ?_
     refine .seqN (.ret (.seqR ?_))
     refine .res1 rfl (rvT rfl) (fun w' S => ⟨true, hF, rfl, S.below⟩)
    replace hF := hF.2 q24
    refine .GV (fa rfl tF27_0) q24 ?_
    refine .GV (lB 0 1 tO3) q24 ?_
    refine .GV bi0 q24 ?_
    refine .V (pkF rfl q24 rfl) ?_
    refine .V mv0 ?_
    rcases Bool.eq_false_or_eq_true (r5.2.code == 10) with q25 | q25
    ·replace hF := hF.1 q25
     refine .GS q25 ?_
     refine .GS q25 ?_
     refine .GS q25 ?_
     refine .V (pkT rfl q25 rfl) ?_
     refine .V ag0 ?_
     refine .fin ?_
     refine .seqN (.ret (.seqR ?_))
     refine .res1 rfl (rvT rfl) (fun w' S => ⟨true, hF, rfl, S.below⟩)
    replace hF := hF.2 q25
    refine .GV (ldA (cs := [iV 0, iV 0]) rfl tA27 rfl (cellsB (off := 0) (k := 3) rfl (m := 2) rfl)) q25 ?_
    obtain ⟨r17, q159⟩ : ∃ y_ : Fault, y_ = sp_at_ 10 (-7) := ⟨_, rfl⟩
    replace hF := hF r17 q159
    refine .gc (cl (v := .agg #[iV r17.code, iV r17.index]) Tryz.call9 rfl rfl (fun w S => (by rw [q159]; exact c_at_ S.sub 10 (-7) ))) rfl rfl rfl q25 rfl rfl ?_
    refine .GV (eq2 tE27 rfl rfl) q25 ?_
    refine .V (pkF rfl q25 rfl) ?_
    refine .V ag0 ?_
    refine .fin ?_
    refine .seqN (.ret (.seqR ?_))
    refine .res1 rfl (rvT rfl) (fun w' S => ⟨(0 == r17.code) && (0 == r17.index), hF, rfl, S.below⟩)
   replace hF := hF.2 q102
   refine .skip (.seqN (.seq ?_))
   refine .share (σ := Bool) (fun z => F_lawProd_J16 K z) (fun z => [(7, iV r4.1), (9, iV r5.1), (11, vP pr4), (78, .bool z)]) (fun _ => [Box pr4 [.bool false, .slice none 0 0, iV 0, iV x]]) (fun _ => h208) ?_ (fun q160 => ?_)
   ·rintro t784 hF
    show J _ _ _ _ _ [(7, iV r4.1), (9, iV r5.1), (11, vP pr4), (78, .bool t784)] [Box pr4 [.bool false, .slice none 0 0, iV 0, iV x]] h208
    refine .cond rfl (fun q103 => ?_) (fun q103 => ?_)
    ·replace hF := hF.1 q103
     refine .seq (.region (.V (fa rfl tF34_0) ?_))
     refine .V (lB 0 0 tO4) ?_
     refine .V (nt rfl) ?_
     refine .V ag0 ?_
     refine .nil (.seqN (.ret (.seqR ?_)))
     refine .res1 rfl (rvT rfl) (fun w' S => ⟨!false, hF, rfl, S.below⟩)
    replace hF := hF.2 q103
    refine .skip (.seqN (.seq (.region (.V (fa rfl tF34_0) ?_))))
    refine .V (lB 0 0 tO4) ?_
    refine .V mv0 ?_
    refine .GT ?_
    refine .GT ?_
    refine .GT ?_
    refine .GT ?_
    refine .GT ?_
    refine .GT ?_
    refine .V (pkF rfl rfl rfl) ?_
    refine .V ag0 ?_
    refine .nil (.seqN (.ret ?_))
    refine .res1 rfl (rvT rfl) (fun w' S => ⟨false, hF, rfl, S.below⟩)
   refine .region (.V mv0 ?_)
   refine .V bi0 ?_
   refine .V mv0 ?_
   rcases Bool.eq_false_or_eq_true (r4.1 == 1000000000) with q36 | q36
   ·replace hF := hF.1 q36
    refine .GS q36 ?_
    refine .GS q36 ?_
    refine .V (pkT rfl q36 rfl) ?_
    refine .nil ?_
    refine .sel0 [2] (by decide) rfl ?_
    exact .US q160 true hF
   replace hF := hF.2 q36
   refine .GV mv0 q36 ?_
   refine .GV bi0 q36 ?_
   refine .V (pkF rfl q36 rfl) ?_
   refine .nil ?_
   refine .sel0 [2] (by decide) rfl ?_
   exact .US q160 (r5.1 == 1000000000) hF
  refine .region (.V (fa rfl tF27_0) ?_)
  refine .V (lB 0 8 tO3) ?_
  refine .V bi0 ?_
  refine .V mv0 ?_
  rcases Bool.eq_false_or_eq_true (r4.2.code != 0) with q26 | q26
  ·replace hF := hF.1 q26
   refine .GS q26 ?_
   refine .GS q26 ?_
   refine .GS q26 ?_
   refine .V (pkT rfl q26 rfl) ?_
   refine .V mv0 ?_
   refine .GT ?_
   refine .GT ?_
   refine .GT ?_
   refine .V (pkT rfl rfl rfl) ?_
   refine .nil ?_
   refine .sel0 [8, 9, 1, 0] (by decide) rfl ?_
   exact .US q101 true hF
  replace hF := hF.2 q26
  refine .GV (fa rfl tF27_0) q26 ?_
  refine .GV (lB 0 9 tO3) q26 ?_
  refine .GV bi0 q26 ?_
  refine .V (pkF rfl q26 rfl) ?_
  refine .V mv0 ?_
  rcases Bool.eq_false_or_eq_true (r5.2.code != 0) with q27 | q27
  ·replace hF := hF.1 q27
   refine .GS q27 ?_
   refine .GS q27 ?_
   refine .GS q27 ?_
   refine .V (pkT rfl q27 rfl) ?_
   refine .nil ?_
   refine .sel0 [8, 9, 1, 0] (by decide) rfl ?_
   exact .US q101 true hF
  replace hF := hF.2 q27
  refine .GV (fa rfl tF27_0) q27 ?_
  refine .GV (lB 0 0 tO3) q27 ?_
  refine .GV bi0 q27 ?_
  refine .V (pkF rfl q27 rfl) ?_
  refine .nil ?_
  refine .sel0 [8, 9, 1, 0] (by decide) rfl ?_
  exact .US q101 (0 != 0) hF
 refine .region ?_
 obtain ⟨r18, q161⟩ : ∃ y_ : Bool, y_ = sp_kernWorks := ⟨_, rfl⟩
 replace hF := hF r18 q161
 refine .C (cl (v := .bool r18) Tryz.call6 rfl rfl (fun w S => (by rw [q161]; exact c_kernWorks S.sub  ))) ?_
 refine .V (nt rfl) ?_
 refine .V mv0 ?_
 rcases Bool.eq_false_or_eq_true (!r18) with q28 | q28
 ·replace hF := hF.1 q28
  refine .GS q28 ?_
  refine .GS q28 ?_
  refine .GS q28 ?_
  refine .V (pkT rfl q28 rfl) ?_
  refine .nil ?_
  refine .sel0 [3, 2, 1] (by decide) rfl ?_
  exact .US q105 true hF
 replace hF := hF.2 q28
 refine .GV (fa rfl tF27_0) q28 ?_
 refine .GV (lB 0 0 tO3) q28 ?_
 refine .GV bi0 q28 ?_
 refine .V (pkF rfl q28 rfl) ?_
 refine .nil ?_
 refine .sel0 [3, 2, 1] (by decide) rfl ?_
 exact .US q105 (r2.2.code != 0) hF
theorem c_lawProd {h : FH} {w : World} (hs : Sub h w) (a : Task) (aa : Option Addr) (ca : Nat) (_q1 : RSl h aa a.init) (_q2 : a.init.length ≤ ca) (aa2 : Option Addr) (ca2 : Nat) (_q3 : RSl h aa2 a.goal) (_q4 : a.goal.length ≤ ca2) (aa3 : Option Addr) (ca3 : Nat) (_q5 : RSl h aa3 a.ops) (_q6 : a.ops.length ≤ ca3) (b : Task) (ab : Option Addr) (cb : Nat) (_q7 : RSl h ab b.init) (_q8 : b.init.length ≤ cb) (ab2 : Option Addr) (cb2 : Nat) (_q9 : RSl h ab2 b.goal) (_q10 : b.goal.length ≤ cb2) (ab3 : Option Addr) (cb3 : Nat) (_q11 : RSl h ab3 b.ops) (_q12 : b.ops.length ≤ cb3) : Calls Tryz.prog 3 #[.agg #[iV a.facts, .slice aa a.init.length ca, .slice aa2 a.goal.length ca2, .slice aa3 a.ops.length ca3], .agg #[iV b.facts, .slice ab b.init.length cb, .slice ab2 b.goal.length cb2, .slice ab3 b.ops.length cb3]] w fun e w' => e = .returned (.bool (sp_lawProd a b)) ∧ Below w.heap.size w w' :=
 (w_lawProd hs a aa ca _q1 _q2 aa2 ca2 _q3 _q4 aa3 ca3 _q5 _q6 b ab cb _q7 _q8 ab2 cb2 _q9 _q10 ab3 cb3 _q11 _q12 (fun r => r = sp_lawProd a b) (ok_lawProd a b)).mono fun _ _ ⟨_, hk, he, hb⟩ => ⟨by rw [he, hk], hb⟩
end Go.Proofs.YtimillpakjgnoaaGreat.Pl

namespace Go.Proofs.YtimillpakjgnoaaGreat.Pl
open Go Go.RowKit Go.WideShapes Go.ChangeShapes Go.ChangeAt Go.Joins Go.Deep
section
variable {H : Type} {enc : TypeId × Value → H} {P : Program}
theorem all_stays (hl : laidOutB P = true) {W W' : World} (hb : Go.RowKit.Below W.heap.size W W') {sp : Nat → Bool} : ∀ (ts : List TypeId) (vs : List Value) (ds : List (DataW H)) (ps : List MemPlace),
  (ts.all fun t => P.readableRec t && decide (t < P.types.size)) = true → DataW.TrodAll enc P W 0 (fun _ => true) true ts vs ds ps → (∀ x ∈ ps, x.block < W.heap.size) → (∀ x ∈ ps, sp x.block = true) → DataW.TrodAll enc P W' 0 sp true ts vs ds ps
 | [], vs, ds, ps, _, h, _, _ => by
  cases vs with
  | nil => cases ds with
   | nil => exact h
   | cons _ _ => exact h.elim
  | cons _ _ => exact h.elim
 | t :: ts, vs, ds, ps, hr, h, hlt, hsp => by
  obtain ⟨v0, vs0, d0, ds0, p0, q0, rfl, rfl, rfl, h0, r0⟩ := trodAll_cons h
  simp only [List.all_cons, Bool.and_eq_true, decide_eq_true_eq] at hr
  refine trodAll_cons_mk (WideElems.Trod_stays hl hr.1.1 hr.1.2 h0 (fun x hx => hb.same (hlt x (by simp [hx]))) (fun x hx => hsp x (by simp [hx]))) ?_
  exact all_stays hl hb ts vs0 ds0 q0 (by simpa using hr.2) r0 (fun x hx => hlt x (by simp [hx])) (fun x hx => hsp x (by simp [hx]))
def hold (W : World) : FH := fun b => W.heap[b]?
theorem hold_sub (W : World) : Sub (hold W) W := fun _ _ e => e
theorem hold_cell {W : World} {a : Addr} {v : Value} (e : W.cell? a = some v) : (hold W).cell a = some v := by
 unfold World.cell? at e
 unfold FH.cell hold
 cases hb : W.heap[a.block]? with
 | none => rw [hb] at e; cases e
 | some o => rw [hb] at e; cases o <;> simp_all
theorem rsl_of {α : Type} [Rep α] {h : FH} : ∀ (xs : List α) (a : Addr), (∀ (i : Nat) (x : α), xs[i]? = some x → ∃ cs, Rep.rep h x cs ∧ CellsAt h (a.add (i * Rep.sz α)) cs) → RSl h (some a) xs
 | [], a, _ => RSl.nil_
 | x :: r, a, hx => by
  obtain ⟨cs, h1, h2⟩ := hx 0 x rfl
  obtain ⟨ds, g1, g2⟩ := rsl_of r (a.add (Rep.sz α)) fun i y hy => by
   obtain ⟨c, k1, k2⟩ := hx (i + 1) y (by simpa using hy)
   refine ⟨c, k1, ?_⟩
   rw [add_add, show Rep.sz α + i * Rep.sz α = (i + 1) * Rep.sz α by rw [Nat.add_mul]; omega]
   exact k2
  have hl := Rep.len h1
  refine ⟨cs ++ ds, ⟨cs, ds, rfl, h1, g1⟩, fun j v e => ⟨by simp, ?_⟩⟩
  show h.cell (a.add j) = some v
  by_cases hj : j < cs.length
  ·rw [List.getElem?_append_left hj] at e
   have := h2 j v e
   rwa [add_add, Nat.zero_mul, Nat.zero_add] at this
  ·rw [List.getElem?_append_right (by omega)] at e
   have := (g2 (j - cs.length) v e).2
   have e2 : ead (some (a.add (Rep.sz α))) (j - cs.length) = a.add j := by
    show (a.add (Rep.sz α)).add (j - cs.length) = a.add j
    rw [add_add, hl]; congr 1; omega
   rwa [e2] at this
class Bytes (α : Type) where
 n : Nat
instance : Bytes Int := ⟨8⟩
instance {α : Type} : Bytes (List α) := ⟨24⟩
class Siz (α : Type) where
 siz : α → Prop
instance : Siz Int := ⟨fun _ => True⟩
instance : Siz Bool := ⟨fun _ => True⟩
instance {α : Type} [Bytes α] [Siz α] : Siz (List α) := ⟨fun xs => xs.length * Bytes.n α ≤ reachBytes ∧ ∀ x ∈ xs, Siz.siz x⟩
def Reads (P : Program) (α : Type) [Rep α] [Siz α] (t : TypeId) : Prop := ∀ (H : Type) (enc : TypeId × Value → H) (w : World) (b : Nat) (sp : Nat → Bool) (hd : Bool) (n : Nat) (cs : List Value) (z : DataW H × List MemPlace), DataW.trod enc P w b sp hd n t cs = some z →
 ∃ x : α, Rep.rep (hold w) x cs ∧ ((∀ m ∈ z.1.weights P t, m ≤ reachBytes) → Siz.siz x)
theorem reads_int {t : TypeId} (ht : P.underlying t = some (.int .i64)) : Reads P Int t := fun H enc w b sp hd n cs z h => by
 obtain ⟨x, e, _⟩ := DataW.trod_int ht h
 exact ⟨x, e, fun _ => trivial⟩
theorem listed_ {α : Type} {p : Nat → α → Prop} : ∀ (m : Nat), (∀ i, i < m → ∃ x : α, p i x) → ∃ xs : List α, xs.length = m ∧ ∀ (i : Nat) (x : α), xs[i]? = some x → p i x
 | 0, _ => ⟨[], rfl, fun i x e => by simp at e⟩
 | k + 1, hx => by
  obtain ⟨xs, h1, h2⟩ := listed_ k fun i hi => hx i (by omega)
  obtain ⟨x, h3⟩ := hx k (by omega)
  refine ⟨xs ++ [x], by simp [h1], fun i y e => ?_⟩
  by_cases hik : i < xs.length
  ·rw [List.getElem?_append_left hik] at e; exact h2 i y e
  ·rw [List.getElem?_append_right (by omega)] at e
   have e0 : i - xs.length = 0 := by have := (List.getElem?_eq_some_iff.1 e).1; simp at this; omega
   rw [e0] at e
   simp at e; subst e
   have : i = k := by omega
   subst this
   exact h3
theorem weights_all {e : TypeId} : ∀ {l : List (DataW H)} {d : DataW H}, d ∈ l → ∀ n ∈ d.weights P e, n ∈ DataW.weightsAll P e l
 | [], _, h, _, _ => by cases h
 | x :: r, d, h, n, hn => by
  simp only [DataW.weightsAll, List.mem_append]
  rcases List.mem_cons.1 h with rfl | h
  ·exact .inl hn
  ·exact .inr (weights_all h n hn)
theorem reads_slice {α : Type} [Rep α] [Bytes α] [Siz α] {t e : TypeId} (ht : P.underlying t = some (.slice e)) (hc : P.cellsOf e = Rep.sz α) (hby : P.bytesOf e = Bytes.n α) (he : Reads P α e) : Reads P (List α) t := fun H enc w b sp hd n cs z h => by
 rcases open_slice ht h with ⟨rfl, _⟩ | ⟨a, len, cap, m, n', D, Q, rfl, _, hl, _, hm, hz, hi⟩
 ·exact ⟨[], ⟨none, 0, rfl, Nat.le_refl _, RSl.nil_⟩, fun _ => ⟨by simp, fun x hx => by cases hx⟩⟩
 ·have hx : ∀ i, i < len → ∃ x : α, (∃ cs, Rep.rep (hold w) x cs ∧ CellsAt (hold w) (a.add (i * Rep.sz α)) cs) ∧ ((∀ m ∈ (D i).weights P e, m ≤ reachBytes) → Siz.siz x) := fun i hlt => by
   have hlm : len ≤ m := by rw [hm]; split <;> omega
   obtain ⟨cs', hcs, ht'⟩ := hi i (by omega)
   obtain ⟨x, hx, hsz⟩ := he H enc w b sp hd n' cs' _ ht'
   obtain ⟨_, hcl, hat⟩ := World.cells?_some hcs
   refine ⟨x, ⟨cs', hx, fun j v e => hold_cell ?_⟩, hsz⟩
   rw [hc] at hat hcl
   rw [hat j (by rw [← hcl]; exact (List.getElem?_eq_some_iff.1 e).1)]
   exact e
  obtain ⟨xs, hxl, hxs⟩ := listed_ len hx
  refine ⟨xs, ⟨some a, cap, by rw [hxl], by omega, rsl_of xs a fun i x hix => (hxs i x hix).1⟩, fun hw => ⟨?_, fun x hx => ?_⟩⟩
  ·have := hw ((((List.range len).map D).length + ((List.range (m - len)).map fun j => D (len + j)).length) * P.bytesOf e) (by rw [hz]; simp [DataW.weights, ht])
   simp only [List.length_map, List.length_range] at this
   rw [hxl, ← hby]
   refine Nat.le_trans (Nat.mul_le_mul_right _ ?_) this
   omega
  ·obtain ⟨i, hi', hix⟩ := List.mem_iff_getElem.1 hx
   refine (hxs i x (by rw [List.getElem?_eq_getElem hi', hix])).2 fun k hk => hw k ?_
   rw [hz]
   simp only [DataW.weights, ht, List.mem_cons, List.mem_append]
   refine .inr (.inl (weights_all (d := D i) ?_ k hk))
   exact List.mem_map.2 ⟨i, List.mem_range.2 (by omega), rfl⟩
theorem reads_field {α : Type} [Rep α] [Siz α] {fs : Array Field} {t : TypeId} {w : World} {b : Nat} {sp : Nat → Bool} {hd : Bool} {n : Nat} {cs : List Value} {xs : List (DataW H × List MemPlace)} (hs : P.underlying t = some (.struct fs)) (hlen : xs.length = fs.size) (hf : ∀ (i : Nat) (f : Field), fs[i]? = some f → DataW.trod enc P w b sp hd n f.type ((cs.drop f.offset).take (P.cellsOf f.type)) = xs[i]?)
  (i : Nat) {f : Field} (hi : fs[i]? = some f) (r : Reads P α f.type) : ∃ x : α, Rep.rep (hold w) x ((cs.drop f.offset).take (P.cellsOf f.type)) ∧ ((∀ m ∈ (DataW.agg (xs.map (·.1))).weights P t, m ≤ reachBytes) → Siz.siz x) := by
 have h1 := hf i f hi
 have hlt : i < xs.length := by rw [hlen]; exact (Array.getElem?_eq_some_iff.1 hi).1
 rw [List.getElem?_eq_getElem hlt] at h1
 obtain ⟨x, hx, hw⟩ := r H enc w b sp hd n _ _ h1
 refine ⟨x, hx, fun hm => hw fun m hm' => hm m ?_⟩
 simp only [DataW.weights, hs]
 refine DataW.weights_mem_each (j := i) (t := f.type) (d := xs[i].1) ?_ ?_ m hm'
 ·rw [List.getElem?_map, Array.getElem?_toList, hi]; rfl
 ·rw [List.getElem?_map, List.getElem?_eq_getElem hlt]; rfl
theorem open_aggR {α : Type} [Rep α] [Siz α] {r : Reach} {b0 b : Nat} {sp : Nat → Bool} {hd : Bool} {t : TypeId} {fs : Array Field} {w : World} {v : Value} {d : DataW H} {p : List MemPlace} (hs : P.underlying t = some (.struct fs)) (hr : Reads P α t) (hv : Value.okWide P w r b0 t v) (h : DataW.Trod enc P w b sp hd t v d p) :
  ∃ (x : α) (cs : List Value), v = .agg cs.toArray ∧ Rep.rep (hold w) x cs ∧ ((∀ m ∈ d.weights P t, m ≤ reachBytes) → Siz.siz x) := by
 obtain ⟨cs, rfl, _⟩ := okWide_struct hs hv
 obtain ⟨fuel, hf⟩ := h
 obtain ⟨x, hx, hz⟩ := hr H enc w b sp hd fuel _ _ hf
 exact ⟨x, cs.toList, by simp, hx, hz⟩
end
end Go.Proofs.YtimillpakjgnoaaGreat.Pl

namespace Go.Proofs.YtimillpakjgnoaaGreat.Pl
open Go Go.RowKit Go.WideShapes Go.ChangeShapes Go.ChangeAt Go.Joins Go.Deep
instance : Bytes Operator := ⟨80⟩
instance : Siz Operator := ⟨fun x => Siz.siz x.pre ∧ Siz.siz x.add ∧ Siz.siz x.del ∧ Siz.siz x.cost⟩
instance : Bytes Task := ⟨80⟩
instance : Siz Task := ⟨fun x => Siz.siz x.facts ∧ Siz.siz x.init ∧ Siz.siz x.goal ∧ Siz.siz x.ops⟩
theorem cells3 : Tryz.prog.cellsOf 3 = 1 := by kernel_rfl
theorem cells22 : Tryz.prog.cellsOf 22 = 1 := by kernel_rfl
theorem cells23 : Tryz.prog.cellsOf 23 = 1 := by kernel_rfl
theorem cells25 : Tryz.prog.cellsOf 25 = 4 := by kernel_rfl
theorem cells52 : Tryz.prog.cellsOf 52 = 4 := by kernel_rfl
theorem list4 {β : Type} {l : List β} (h : l.length = 4) : ∃ c0 c1 c2 c3, l = [c0, c1, c2, c3] := by
 match l, h with
 | [c0, c1, c2, c3], _ => exact ⟨c0, c1, c2, c3, rfl⟩
theorem reads_3 : Reads Tryz.prog Int 3 := reads_int Tryz.underlying3
theorem reads_22 : Reads Tryz.prog (List Int) 22 := reads_slice Tryz.underlying22 cells3 (by kernel_rfl) reads_3
theorem reads_52 : Reads Tryz.prog Operator 52 := fun H enc w b sp hd n cs z h => by
 obtain ⟨xs, n', _, rfl, hl, hlen, hf⟩ := DataW.trod_struct Tryz.underlying52 h
 obtain ⟨x0, r0, s0⟩ := reads_field Tryz.underlying52 hlen hf 0 rfl reads_22
 obtain ⟨x1, r1, s1⟩ := reads_field Tryz.underlying52 hlen hf 1 rfl reads_22
 obtain ⟨x2, r2, s2⟩ := reads_field Tryz.underlying52 hlen hf 2 rfl reads_22
 obtain ⟨x3, r3, s3⟩ := reads_field Tryz.underlying52 hlen hf 3 rfl reads_3
 rw [cells52] at hl
 obtain ⟨c0, c1, c2, c3, rfl⟩ := list4 hl
 replace r0 : Rep.rep (hold w) x0 (([c0, c1, c2, c3] : List Value).drop 0 |>.take (Tryz.prog.cellsOf 22)) := r0
 rw [cells22] at r0
 replace r1 : Rep.rep (hold w) x1 (([c0, c1, c2, c3] : List Value).drop 1 |>.take (Tryz.prog.cellsOf 22)) := r1
 rw [cells22] at r1
 replace r2 : Rep.rep (hold w) x2 (([c0, c1, c2, c3] : List Value).drop 2 |>.take (Tryz.prog.cellsOf 22)) := r2
 rw [cells22] at r2
 replace r3 : Rep.rep (hold w) x3 (([c0, c1, c2, c3] : List Value).drop 3 |>.take (Tryz.prog.cellsOf 3)) := r3
 rw [cells3] at r3
 obtain ⟨a0_0, k0_0, e0, l0_0, q0_0⟩ := r0
 replace e0 : ([c0] : List Value) = _ := e0
 simp only [List.cons.injEq, and_true] at e0
 obtain rfl := e0
 obtain ⟨a1_0, k1_0, e1, l1_0, q1_0⟩ := r1
 replace e1 : ([c1] : List Value) = _ := e1
 simp only [List.cons.injEq, and_true] at e1
 obtain rfl := e1
 obtain ⟨a2_0, k2_0, e2, l2_0, q2_0⟩ := r2
 replace e2 : ([c2] : List Value) = _ := e2
 simp only [List.cons.injEq, and_true] at e2
 obtain rfl := e2
 have e3 : ([c3] : List Value) = [.int .i64 x3] := r3
 simp only [List.cons.injEq, and_true] at e3
 obtain rfl := e3
 exact ⟨⟨x0, x1, x2, x3⟩, ⟨a0_0, k0_0, a1_0, k1_0, a2_0, k2_0, rfl, ⟨l0_0, q0_0⟩, ⟨l1_0, q1_0⟩, ⟨l2_0, q2_0⟩⟩, fun hw => ⟨s0 hw, s1 hw, s2 hw, s3 hw⟩⟩
theorem reads_23 : Reads Tryz.prog (List Operator) 23 := reads_slice Tryz.underlying23 cells52 (by kernel_rfl) reads_52
theorem reads_25 : Reads Tryz.prog Task 25 := fun H enc w b sp hd n cs z h => by
 obtain ⟨xs, n', _, rfl, hl, hlen, hf⟩ := DataW.trod_struct Tryz.underlying25 h
 obtain ⟨x0, r0, s0⟩ := reads_field Tryz.underlying25 hlen hf 0 rfl reads_3
 obtain ⟨x1, r1, s1⟩ := reads_field Tryz.underlying25 hlen hf 1 rfl reads_22
 obtain ⟨x2, r2, s2⟩ := reads_field Tryz.underlying25 hlen hf 2 rfl reads_22
 obtain ⟨x3, r3, s3⟩ := reads_field Tryz.underlying25 hlen hf 3 rfl reads_23
 rw [cells25] at hl
 obtain ⟨c0, c1, c2, c3, rfl⟩ := list4 hl
 replace r0 : Rep.rep (hold w) x0 (([c0, c1, c2, c3] : List Value).drop 0 |>.take (Tryz.prog.cellsOf 3)) := r0
 rw [cells3] at r0
 replace r1 : Rep.rep (hold w) x1 (([c0, c1, c2, c3] : List Value).drop 1 |>.take (Tryz.prog.cellsOf 22)) := r1
 rw [cells22] at r1
 replace r2 : Rep.rep (hold w) x2 (([c0, c1, c2, c3] : List Value).drop 2 |>.take (Tryz.prog.cellsOf 22)) := r2
 rw [cells22] at r2
 replace r3 : Rep.rep (hold w) x3 (([c0, c1, c2, c3] : List Value).drop 3 |>.take (Tryz.prog.cellsOf 23)) := r3
 rw [cells23] at r3
 have e0 : ([c0] : List Value) = [.int .i64 x0] := r0
 simp only [List.cons.injEq, and_true] at e0
 obtain rfl := e0
 obtain ⟨a1_0, k1_0, e1, l1_0, q1_0⟩ := r1
 replace e1 : ([c1] : List Value) = _ := e1
 simp only [List.cons.injEq, and_true] at e1
 obtain rfl := e1
 obtain ⟨a2_0, k2_0, e2, l2_0, q2_0⟩ := r2
 replace e2 : ([c2] : List Value) = _ := e2
 simp only [List.cons.injEq, and_true] at e2
 obtain rfl := e2
 obtain ⟨a3_0, k3_0, e3, l3_0, q3_0⟩ := r3
 replace e3 : ([c3] : List Value) = _ := e3
 simp only [List.cons.injEq, and_true] at e3
 obtain rfl := e3
 exact ⟨⟨x0, x1, x2, x3⟩, ⟨a1_0, k1_0, a2_0, k2_0, a3_0, k3_0, rfl, ⟨l1_0, q1_0⟩, ⟨l2_0, q2_0⟩, ⟨l3_0, q3_0⟩⟩, fun hw => ⟨s0 hw, s1 hw, s2 hw, s3 hw⟩⟩
end Go.Proofs.YtimillpakjgnoaaGreat.Pl

