import Derived.Test.YtimillpakjgnoaaGreatDoorM1
import Derived.Test.YtimillpakjgnoaaGreatDoorM3
namespace Go.Proofs.YtimillpakjgnoaaGreatDoor.Pl
open Go Go.RowKit
theorem w_compactR {h : FH} {w : World} (hs : Sub h w) (s_ : List (List Int)) (as_ : Option Addr) (cs_ : Nat) {cs : List Value} (q1 : RepL h s_ cs) {gX : FH} (ownX : OwnSl 22 1 as_ s_.length cs_ cs gX) (subX : Sub gX w) (disX : Disj h gX) (K : (List (List Int)) → Prop) (hF : F_compactR s_ K) : Calls Tryz.prog 69 #[.slice as_ s_.length cs_, .func (.func 70) #[] #[]] w fun e w' => ∃ r : List (List Int), K r ∧ e = .returned (.slice as_ r.length cs_) ∧ SH (Kp.ex w h gX) h w' [OwnPX h 22 1 as_ cs_ r] := by
 refine enterX (X := OwnSl 22 1 as_ s_.length cs_ cs) (args := [vSl as_ s_ cs_, .func (.func 70) #[] #[]]) Tryz.func69 rfl Tryz.ntmps69 rfl hs subX disX ownX ?_
 refine .seq (.region (.V ag0 ?_))
 refine .nil (.seqN (.seq (.seq (.region (.V mv0 ?_)))))
 refine .V (ln rfl tS35.is) ?_
 refine .V bi0 ?_
 refine .nil (.seqN ?_)
 refine .cond rfl (fun q3 => ?_) (fun q3 => ?_)
 ·replace hF := hF.1 q3
  refine .seq (.region (.V mv0 ?_))
  refine .V ag0 ?_
  refine .nil (.seqN (.ret (.seqR ?_)))
  refine .res1 rfl (rvT rfl) (fun w' S => ⟨s_, hF, rfl, S.wholeP (k := 0) rfl q1 rfl⟩)
 replace hF := hF.2 q3
 refine .skip (.seqN (.seq (.seq (.region (.V ag0 ?_)))))
 refine .nil (.seqN (.block ?_))
 obtain ⟨I1, μ1, q4021, q4022⟩ := hF
 refine .loop' (σ := Int) (fun z => I1 z) (fun z => μ1 z) (fun z => [(0, vSl as_ s_ cs_), (1, .func (.func 70) #[] #[]), (5, iV z)]) (fun _ => [OwnSl 22 1 as_ s_.length cs_ cs]) (fun _ => h) 1 q4021 sb rfl (FH.le_refl _) ?_
 rintro k q4021
 have hF := q4022 k q4021
 show J _ _ _ _ _ [(0, vSl as_ s_ cs_), (1, .func (.func 70) #[] #[]), (5, iV k)] [OwnSl 22 1 as_ s_.length cs_ cs] h
 refine .seq (.seq (.region (.V mv0 ?_)))
 refine .V mv0 ?_
 refine .V (ln rfl tS35.is) ?_
 refine .V bi0 ?_
 refine .nil (.seqN ?_)
 refine .cond rfl (fun q4024 => ?_) (fun q4024 => ?_)
 ·replace hF := hF.1 q4024
  refine .skip (.seqN (.seq (.block (.seq ?_))))
  refine .open_ (by kernel_rfl) (by kernel_rfl) ?_
  refine .V mv0 ?_
  refine .V mv0 ?_
  refine .V mv0 ?_
  obtain ⟨q4559, hF⟩ := hF
  refine .V (ixS rfl rfl tS35 (k := 0) rfl q4559) ?_
  obtain ⟨_, ⟨a, c, rfl, q4560, q4561⟩, q4562⟩ := RepL.get q1 (gt_get q4559)
  refine .V (ld1 (v := .slice a ((gt s_ k).length) c) rfl tO22 (cellS (k := 0) rfl (q4562 0 _ rfl))) ?_
  refine .V mv0 ?_
  refine .V mv0 ?_
  refine .V bi0 ?_
  obtain ⟨q4563, hF⟩ := hF
  refine .V (ixS rfl rfl tS35 (k := 0) rfl q4563) ?_
  obtain ⟨_, ⟨a2, c2, rfl, q4564, q4565⟩, q4566⟩ := RepL.get q1 (gt_get q4563)
  refine .V (ld1 (v := .slice a2 ((gt s_ (wr (k - 1))).length) c2) rfl tO22 (cellS (k := 0) rfl (q4566 0 _ rfl))) ?_
  obtain ⟨q4567, hF⟩ := hF
  obtain ⟨r2, q4568⟩ : ∃ y_ : Bool, y_ = sp_sequal (gt s_ k) (gt s_ (wr (k - 1))) := ⟨_, rfl⟩
  replace hF := hF r2 q4568
  refine .C (cl (v := .bool r2) Tryz.call70 rfl rfl (fun w S => (by rw [q4568]; exact c_sequal S.sub (gt s_ k) a c q4561 q4560 (gt s_ (wr (k - 1))) a2 c2 q4565 q4564 q4567))) ?_
  refine .fin ?_
  refine .seqN ?_
  refine .cond rfl (fun q4569 => ?_) (fun q4569 => ?_)
  ·replace hF := hF.1 q4569
   refine .seq ?_
   refine .fact (fun w S => look_len S (k := 0) rfl) (fun q4570 => ?_)
   refine .region (.V mv0 ?_)
   refine .V mv0 ?_
   obtain ⟨q4571, hF⟩ := hF
   refine .V (slL tS35 rfl rfl q4571.1 rfl (Int.toNat_le.2 q4571.2)) ?_
   refine .V ag0 ?_
   refine .nil (.seqN (.seq (.seq (.region (.V ag0 ?_)))))
   refine .nil (.seqN (.block ?_))
   obtain ⟨I2, μ2, q4781, q4782⟩ := hF
   refine .loop' (σ := Int × Int × List (List Int) × List Value) (fun z => I2 z.1 z.2.1 z.2.2.1 ∧ RepL h z.2.2.1 z.2.2.2 ∧ z.2.2.1.length = s_.length) (fun z => μ2 z.1 z.2.1 z.2.2.1) (fun z => [(0, vSl as_ s_ cs_), (1, .func (.func 70) #[] #[]), (5, iV z.1), (6, .slice (sla as_ cs_ (k).toNat 1) (s_.length - (k).toNat) (cs_ - (k).toNat)), (7, iV z.2.1)]) (fun z => [OwnSl 22 1 as_ s_.length cs_ z.2.2.2]) (fun _ => h) (k, 1, s_, cs) ⟨q4781, q1, rfl⟩ sb rfl (FH.le_refl _) ?_
   rintro ⟨k3, k22, s_2, css⟩ ⟨q4781, q4738, q4739⟩
   have hF := q4782 k3 k22 s_2 q4781
   show J _ _ _ _ _ [(0, vSl as_ s_ cs_), (1, .func (.func 70) #[] #[]), (5, iV k3), (6, .slice (sla as_ cs_ (k).toNat 1) (s_.length - (k).toNat) (cs_ - (k).toNat)), (7, iV k22)] [OwnSl 22 1 as_ s_.length cs_ css] h
   refine .seq (.seq (.region (.V mv0 ?_)))
   refine .V mv0 ?_
   refine .V (ln rfl tS35.is) ?_
   refine .V bi0 ?_
   refine .nil (.seqN ?_)
   refine .cond rfl (fun q4784 => ?_) (fun q4784 => ?_)
   ·replace hF := hF.1 q4784
    refine .skip (.seqN ?_)
    refine .share (σ := Int × List (List Int) × List Value) (fun z => F_compactR_J1 s_2 k3 k22 I2 μ2 z.2.1 z.1 ∧ RepL h z.2.1 z.2.2 ∧ z.2.1.length = s_.length) (fun z => [(0, vSl as_ s_ cs_), (1, .func (.func 70) #[] #[]), (5, iV z.1), (6, .slice (sla as_ cs_ (k).toNat 1) (s_.length - (k).toNat) (cs_ - (k).toNat)), (7, iV k22)]) (fun z => [OwnSl 22 1 as_ s_.length cs_ z.2.2]) (fun _ => h) ?_ (fun q4804 => ?_)
    ·rintro ⟨k5, s_4, css3⟩ ⟨hF, q4802, q4803⟩
     show J _ _ _ _ _ [(0, vSl as_ s_ cs_), (1, .func (.func 70) #[] #[]), (5, iV k5), (6, .slice (sla as_ cs_ (k).toNat 1) (s_.length - (k).toNat) (cs_ - (k).toNat)), (7, iV k22)] [OwnSl 22 1 as_ s_.length cs_ css3] h
     refine .region (.V mv0 ?_)
     refine .V bi0 ?_
     refine .V ag0 ?_
     refine .nil ?_
     exact .RO (k5, wr (k22 + 1), s_4, css3) ⟨hF.1, q4802, q4803⟩ hF.2
    refine .block (.seq ?_)
    refine .open_ (by kernel_rfl) (by kernel_rfl) ?_
    refine .V mv0 ?_
    refine .V mv0 ?_
    refine .V mv0 ?_
    obtain ⟨q4805, q4806, hF⟩ := hF
    refine .V (ixV rfl rfl tS35 (k := 0) rfl q4805 (inb_n q4806 q4739)) ?_
    obtain ⟨_, ⟨a3, c3, rfl, q4807, q4808⟩, q4809⟩ := RepL.get q4738 (gt_get q4806)
    refine .V (ld1 (v := .slice a3 ((gt s_2 ((((k).toNat : Nat) : Int) + k22)).length) c3) rfl tO22 (cellS (k := 0) rfl (q4809 0 _ rfl))) ?_
    refine .V mv0 ?_
    refine .V mv0 ?_
    refine .V bi0 ?_
    obtain ⟨q4810, q4811, hF⟩ := hF
    refine .V (ixV rfl rfl tS35 (k := 0) rfl q4810 (inb_n q4811 q4739)) ?_
    obtain ⟨_, ⟨a4, c4, rfl, q4812, q4813⟩, q4814⟩ := RepL.get q4738 (gt_get q4811)
    refine .V (ld1 (v := .slice a4 ((gt s_2 ((((k).toNat : Nat) : Int) + (wr (k22 - 1)))).length) c4) rfl tO22 (cellS (k := 0) rfl (q4814 0 _ rfl))) ?_
    obtain ⟨q4815, hF⟩ := hF
    obtain ⟨r3, q4816⟩ : ∃ y_ : Bool, y_ = sp_sequal (gt s_2 ((((k).toNat : Nat) : Int) + k22)) (gt s_2 ((((k).toNat : Nat) : Int) + (wr (k22 - 1)))) := ⟨_, rfl⟩
    replace hF := hF r3 q4816
    refine .C (cl (v := .bool r3) Tryz.call70 rfl rfl (fun w S => (by rw [q4816]; exact c_sequal S.sub (gt s_2 ((((k).toNat : Nat) : Int) + k22)) a3 c3 q4808 q4807 (gt s_2 ((((k).toNat : Nat) : Int) + (wr (k22 - 1)))) a4 c4 q4813 q4812 q4815))) ?_
    refine .V (nt rfl) ?_
    refine .fin ?_
    refine .seqN ?_
    refine .cond rfl (fun q4817 => ?_) (fun q4817 => ?_)
    ·replace hF := hF.1 q4817
     refine .seq (.region (.V mv0 ?_))
     refine .V mv0 ?_
     refine .V mv0 ?_
     refine .V mv0 ?_
     refine .V (ixV rfl rfl tS35 (k := 0) rfl q4805 (inb_n q4806 q4739)) ?_
     refine .V (ld1 (v := .slice a3 ((gt s_2 ((((k).toNat : Nat) : Int) + k22)).length) c3) rfl tO22 (cellS (k := 0) rfl (q4809 0 _ rfl))) ?_
     obtain ⟨q4818, hF⟩ := hF
     refine .V (ixS rfl rfl tS35 (k := 0) rfl (inb_n q4818 q4739)) ?_
     obtain ⟨d, q4819⟩ : ∃ y_ : List (List Int), y_ = (s_2.set (k3).toNat (gt s_2 ((((k).toNat : Nat) : Int) + k22))) := ⟨_, rfl⟩
     replace hF := hF d q4819
     have q4821 : d.length = s_.length := by rw [q4819]; exact List.length_set.trans q4739
     have q4820 : RepL h d (wrL css ((k3).toNat * 1) [.slice a3 ((gt s_2 ((((k).toNat : Nat) : Int) + k22)).length) c3]) := by rw [q4819]; exact RepL.set q4738 (inb_lt q4818) ⟨a3, c3, rfl, q4807, q4808⟩
     refine stS (k := 0) (cs' := (wrL css ((k3).toNat * 1) [.slice a3 ((gt s_2 ((((k).toNat : Nat) : Int) + k22)).length) c3])) rfl (fun _ => rfl) rfl rfl (fun w => (tO22 w).2) rfl rfl rfl (by rw [← q4739]; exact inb_pos q4818) (rep_room q4738 q4818) rfl ?_
     refine .KA [OwnSl 22 1 as_ s_.length cs_ (wrL css ((k3).toNat * 1) [.slice a3 ((gt s_2 ((((k).toNat : Nat) : Int) + k22)).length) c3])] ?_
     refine .nil (.seqN (.region (.V mv0 ?_)))
     refine .V bi0 ?_
     refine .V ag0 ?_
     refine .nil (.blkN ?_)
     exact .US q4804 (wr (k3 + 1), d, (wrL css ((k3).toNat * 1) [.slice a3 ((gt s_2 ((((k).toNat : Nat) : Int) + k22)).length) c3])) ⟨hF, q4820, q4821⟩
    replace hF := hF.2 q4817
    refine .skip (.blkN ?_)
    exact .US q4804 (k3, s_2, css) ⟨hF, q4738, q4739⟩
   replace hF := hF.2 q4784
   refine .exit (.seqX (.seqX (.blkX (.seqN (.seq ?_)))))
   refine .fact (fun w S => look_len S (k := 0) rfl) (fun q4822 => ?_)
   refine .region (.V mv0 ?_)
   refine .V mv0 ?_
   obtain ⟨q4823, hF⟩ := hF
   refine .V (slL tS35 rfl rfl q4823.1 rfl (Int.toNat_le.2 q4823.2)) ?_
   have q4824 : RepL h (s_2.take (k3).toNat ++ List.replicate (s_.length - (k3).toNat) []) (css.take (k3).toNat ++ List.replicate (s_.length - (k3).toNat) (.slice none 0 0)) := RepL.append (by have := RepL.take_ q4738 (k3).toNat; rwa [show Rep.sz (List Int) = 1 from rfl, Nat.mul_one] at this) (rep_nils _)
   have q4825 : (s_2.take (k3).toNat ++ List.replicate (s_.length - (k3).toNat) []).length = s_.length := take_rep q4739 (Int.toNat_le.2 q4823.2)
   refine clS (k := 0) (lo := (k3).toNat) tS35 rfl rfl rfl rfl rfl (Int.toNat_le.2 q4823.2) rfl ?_
   refine .KA [OwnSl 22 1 as_ s_.length cs_ (css.take (k3).toNat ++ List.replicate (s_.length - (k3).toNat) (.slice none 0 0))] ?_
   refine .nil (.seqN (.seq (.region (.V mv0 ?_))))
   refine .V mv0 ?_
   refine .V (slH tS35 rfl rfl q4823.1 rfl (Nat.le_trans (Int.toNat_le.2 q4823.2) q4822)) ?_
   refine .V ag0 ?_
   refine .nil (.seqN (.ret (.blkR (.seqR (.seqR (.blkR (.seqR ?_)))))))
   refine .res1 rfl (rvT rfl) (fun w' S => ⟨((s_2.take (k3).toNat ++ List.replicate (s_.length - (k3).toNat) []).take ((k3).toNat)), hF, (by rw [len_take (q4825) (Int.toNat_le.2 q4823.2)]), S.prefixP (k := 0) rfl q4824 q4825 (Int.toNat_le.2 q4823.2)⟩)
  replace hF := hF.2 q4569
  refine .skip (.blkN (.seqN (.region (.V mv0 ?_))))
  refine .V bi0 ?_
  refine .V ag0 ?_
  refine .nil ?_
  exact .RO (wr (k + 1)) hF.1 hF.2
 replace hF := hF.2 q4024
 refine .exit (.seqX (.seqX (.blkX (.seqN (.seq (.region (.V mv0 ?_)))))))
 refine .V ag0 ?_
 refine .nil (.seqN (.ret ?_))
 refine .res1 rfl (rvT rfl) (fun w' S => ⟨s_, hF, rfl, S.wholeP (k := 0) rfl q1 rfl⟩)
theorem c_compactR {h : FH} {w : World} (hs : Sub h w) (s_ : List (List Int)) (as_ : Option Addr) (cs_ : Nat) {cs : List Value} (q1 : RepL h s_ cs) {gX : FH} (ownX : OwnSl 22 1 as_ s_.length cs_ cs gX) (subX : Sub gX w) (disX : Disj h gX) (hp : pre_compactR s_) : Calls Tryz.prog 69 #[.slice as_ s_.length cs_, .func (.func 70) #[] #[]] w fun e w' => e = .returned (.slice as_ (sp_compactR s_).length cs_) ∧ SH (Kp.ex w h gX) h w' [OwnPX h 22 1 as_ cs_ (sp_compactR s_)] :=
 (w_compactR hs s_ as_ cs_ q1 ownX subX disX  (fun r => r = sp_compactR s_) (ok_compactR s_ hp)).mono fun _ _ ⟨r, hk, he, hS⟩ => ⟨by rw [← hk]; exact he, by rw [← hk]; exact hS⟩
theorem w_normal {h : FH} {w : World} (hs : Sub h w) (l : List (List Int)) (al2 : Option Addr) (cl2 : Nat) {cs : List Value} (q1 : RepL h l cs) {gX : FH} (ownX : OwnSl 22 1 al2 l.length cl2 cs gX) (subX : Sub gX w) (disX : Disj h gX) (K : (List (List Int)) → Prop) (hF : F_normal l K) : Calls Tryz.prog 42 #[.slice al2 l.length cl2] w fun e w' => ∃ r : List (List Int), K r ∧ e = .returned (.slice al2 r.length cl2) ∧ SH (Kp.ex w h gX) h w' [OwnPX h 22 1 al2 cl2 r] := by
 refine enterX (X := OwnSl 22 1 al2 l.length cl2 cs) (args := [vSl al2 l cl2]) Tryz.func42 rfl Tryz.ntmps42 rfl hs subX disX ownX ?_
 refine .seq (.region (.V ag0 ?_))
 refine .nil (.seqN (.seq (.region (.V mv0 ?_))))
 obtain ⟨q2, hF⟩ := hF
 obtain ⟨r2, q3⟩ : ∃ y_ : List (List Int), y_ = sp_sortR l := ⟨_, rfl⟩
 replace hF := hF r2 q3
 refine callX (k := 0) (v := .tuple #[]) (X' := OwnPX h 22 1 al2 cl2 r2) rfl Tryz.call68 rfl rfl (fun w g hx sg hd hs' => ?_) rfl ?_
 ·rw [q3]; exact c_sortR hs' l al2 cl2 q1 (own_n (rfl).symm hx) sg hd q2
 have q5 : r2.length = l.length := by rw [q3]; exact (sortR_len l).trans rfl
 refine .openPn (k := 0) rfl q5 (fun cs2 q4 => ?_)
 refine .KA [OwnSl 22 1 al2 l.length cl2 cs2] ?_
 refine .nil (.seqN (.seq (.region (.V mv0 ?_))))
 obtain ⟨q6, hF⟩ := hF
 obtain ⟨r3, q7⟩ : ∃ y_ : List (List Int), y_ = sp_compactR r2 := ⟨_, rfl⟩
 replace hF := hF r3 q7
 refine callX (k := 0) (v := vSl al2 r3 cl2) (X' := OwnPX h 22 1 al2 cl2 r3) rfl Tryz.call69 rfl rfl (fun w g hx sg hd hs' => ?_) rfl ?_
 ·rw [q7]; have hc_ := c_compactR hs' r2 al2 cl2 q4 (own_n (q5).symm hx) sg hd q6; rw [q5] at hc_; exact hc_
 refine .openP (k := 0) rfl (fun cs3 q8 => ?_)
 refine .KA [OwnSl 22 1 al2 r3.length cl2 cs3] ?_
 refine .V ag0 ?_
 refine .nil (.seqN (.ret ?_))
 refine .res1 rfl (rvT rfl) (fun w' S => ⟨r3, hF, rfl, S.wholeP (k := 0) rfl q8 rfl⟩)
theorem c_normal {h : FH} {w : World} (hs : Sub h w) (l : List (List Int)) (al2 : Option Addr) (cl2 : Nat) {cs : List Value} (q1 : RepL h l cs) {gX : FH} (ownX : OwnSl 22 1 al2 l.length cl2 cs gX) (subX : Sub gX w) (disX : Disj h gX) (hp : pre_normal l) : Calls Tryz.prog 42 #[.slice al2 l.length cl2] w fun e w' => e = .returned (.slice al2 (sp_normal l).length cl2) ∧ SH (Kp.ex w h gX) h w' [OwnPX h 22 1 al2 cl2 (sp_normal l)] :=
 (w_normal hs l al2 cl2 q1 ownX subX disX (fun r => r = sp_normal l) (ok_normal l hp)).mono fun _ _ ⟨r, hk, he, hS⟩ => ⟨by rw [← hk]; exact he, by rw [← hk]; exact hS⟩
set_option maxHeartbeats 8000000 in
theorem w_worlds {h : FH} {w : World} (hs : Sub h w) (t : Task) (at_ : Option Addr) (ct : Nat) (_q1 : RSl h at_ t.init) (_q2 : t.init.length ≤ ct) (at_2 : Option Addr) (ct2 : Nat) (_q3 : RSl h at_2 t.goal) (_q4 : t.goal.length ≤ ct2) (at_3 : Option Addr) (ct3 : Nat) (_q5 : RSl h at_3 t.ops) (_q6 : t.ops.length ≤ ct3) (unknown : List Int) (aunknown : Option Addr) (cunknown : Nat) (_q7 : RSl h aunknown unknown) (_q8 : unknown.length ≤ cunknown) (K : (List (List Int)) → Prop) (hF : F_worlds t unknown K) : Calls Tryz.prog 16 #[.agg #[iV t.facts, .slice at_ t.init.length ct, .slice at_2 t.goal.length ct2, .slice at_3 t.ops.length ct3], .slice aunknown unknown.length cunknown] w fun e w' => ∃ (r : List (List Int)) (z : Option Addr × Nat) (h1 : FH), K r ∧ e = .returned (.slice z.1 r.length z.2) ∧ FH.le h h1 ∧ (RSl h1 z.1 r ∧ r.length ≤ z.2) ∧ SH (Kp.all w h) h1 w' [] := by
 refine enter (args := [.agg (tF t at_ ct at_2 ct2 at_3 ct3).toArray, vSl aunknown unknown cunknown]) Tryz.func16 rfl Tryz.ntmps16 rfl hs ?_
 refine .seq (.region ?_)
 refine bx (vs := (tF t at_ ct at_2 ct2 at_3 ct3)) rfl rfl rfl (fun pt => ?_)
 refine .V ag0 ?_
 refine .nil (.seqN (.seq (.region (.V ag0 ?_))))
 refine .nil (.seqN (.seq (.seq (.region (.V mv0 ?_)))))
 refine .V (ln rfl tS22.is) ?_
 obtain ⟨q9, hF⟩ := hF
 obtain ⟨x, q10⟩ : ∃ y_ : Int, y_ = (wr (1 * 2 ^ (min ((((unknown.length : Nat) : Int) : Int)).toNat (IntKind.bits .i64)))) := ⟨_, rfl⟩
 replace hF := hF x q10
 refine .v (v := iV x) (by rw [q10]; exact bsh rfl rfl q9 rfl) rfl rfl rfl ?_
 refine .V mv0 ?_
 refine .nil (.seqN (.block ?_))
 refine .nilSl 22 1 ?_
 refine .KA [OwnSl 22 1 none (([] : List (List Int)).length) 0 [], Box pt (tF t at_ ct at_2 ct2 at_3 ct3)] ?_
 refine .sel0 [1, 0] (by decide) rfl ?_
 obtain ⟨I1, μ1, q1784, q1785⟩ := hF
 refine .loop' (σ := Int × List (List Int) × Option Addr × Nat × List Value × FH) (fun z => I1 z.1 z.2.1 ∧ RepL z.2.2.2.2.2 z.2.1 z.2.2.2.2.1 ∧ FH.le h z.2.2.2.2.2) (fun z => μ1 z.1 z.2.1) (fun z => [(1, vSl aunknown unknown cunknown), (2, .pointer (some pt)), (5, vSl z.2.2.1 z.2.1 z.2.2.2.1), (12, iV x), (13, iV z.1)]) (fun z => [Box pt (tF t at_ ct at_2 ct2 at_3 ct3), OwnSl 22 1 z.2.2.1 z.2.1.length z.2.2.2.1 z.2.2.2.2.1]) (fun z => z.2.2.2.2.2) (0, ([] : List (List Int)), none, 0, [], h) ⟨q1784, (show RepL h ([] : List (List Int)) [] from rfl), (FH.le_refl _)⟩ sb rfl (FH.le_refl _) ?_
 rintro ⟨t13, out, aout, cout, csout, h19⟩ ⟨q1784, q1429, q1430⟩
 have hF := q1785 t13 out q1784
 show J _ _ _ _ _ [(1, vSl aunknown unknown cunknown), (2, .pointer (some pt)), (5, vSl aout out cout), (12, iV x), (13, iV t13)] [Box pt (tF t at_ ct at_2 ct2 at_3 ct3), OwnSl 22 1 aout out.length cout csout] h19
 refine .seq (.region (.V bi0 ?_))
 refine .nil (.seqN (.seq ?_))
 refine .cond rfl (fun q1788 => ?_) (fun q1788 => ?_)
 ·replace hF := hF.1 q1788
  refine .skip (.seqN (.seq (.block (.seq (.region (.V mv0 ?_))))))
  refine .V ag0 ?_
  refine .nil (.seqN (.seq (.region (.V ag0 ?_))))
  refine .nil (.seqN (.seq (.seq (.region (.V mv0 ?_)))))
  refine .V (ln rfl tS22.is) ?_
  refine .V mv0 ?_
  refine .nil (.seqN (.block ?_))
  refine .nilSl 3 1 ?_
  refine .KA [oL 3 1 none ([] : List Int) 0, Box pt (tF t at_ ct at_2 ct2 at_3 ct3), OwnSl 22 1 aout out.length cout csout] ?_
  refine .sel0 [1, 2, 0] (by decide) rfl ?_
  obtain ⟨I2, μ2, q2109, q2110⟩ := hF
  refine .loop' (σ := Int × List Int × Option Addr × Nat) (fun z => I2 z.1 z.2.1) (fun z => μ2 z.1 z.2.1) (fun z => [(1, vSl aunknown unknown cunknown), (2, .pointer (some pt)), (5, vSl aout out cout), (6, iV t13), (7, vSl z.2.2.1 z.2.1 z.2.2.2), (12, iV x), (13, iV t13), (16, vSl aunknown unknown cunknown), (17, iV ((unknown.length : Nat) : Int)), (18, iV z.1)]) (fun z => [Box pt (tF t at_ ct at_2 ct2 at_3 ct3), OwnSl 22 1 aout out.length cout csout, oL 3 1 z.2.2.1 z.2.1 z.2.2.2]) (fun _ => h19) (0, ([] : List Int), none, 0) q2109 sb rfl (FH.le_refl _) ?_
  rintro ⟨t18, add, aadd, cadd⟩ q2109
  have hF := q2110 t18 add q2109
  show J _ _ _ _ _ [(1, vSl aunknown unknown cunknown), (2, .pointer (some pt)), (5, vSl aout out cout), (6, iV t13), (7, vSl aadd add cadd), (12, iV x), (13, iV t13), (16, vSl aunknown unknown cunknown), (17, iV ((unknown.length : Nat) : Int)), (18, iV t18)] [Box pt (tF t at_ ct at_2 ct2 at_3 ct3), OwnSl 22 1 aout out.length cout csout, oL 3 1 aadd add cadd] h19
  refine .seq (.region (.V bi0 ?_))
  refine .nil (.seqN (.seq ?_))
  refine .cond rfl (fun q2113 => ?_) (fun q2113 => ?_)
  ·replace hF := hF.1 q2113
   refine .skip (.seqN ?_)
   refine .share (σ := List Int × Option Addr × Nat) (fun z => F_worlds_J1 add t18 I2 μ2 z.1) (fun z => [(1, vSl aunknown unknown cunknown), (2, .pointer (some pt)), (5, vSl aout out cout), (6, iV t13), (7, vSl z.2.1 z.1 z.2.2), (12, iV x), (13, iV t13), (16, vSl aunknown unknown cunknown), (17, iV ((unknown.length : Nat) : Int)), (18, iV t18)]) (fun z => [Box pt (tF t at_ ct at_2 ct2 at_3 ct3), OwnSl 22 1 aout out.length cout csout, oL 3 1 z.2.1 z.1 z.2.2]) (fun _ => h19) ?_ (fun q2121 => ?_)
   ·rintro ⟨add3, aadd3, cadd3⟩ hF
    show J _ _ _ _ _ [(1, vSl aunknown unknown cunknown), (2, .pointer (some pt)), (5, vSl aout out cout), (6, iV t13), (7, vSl aadd3 add3 cadd3), (12, iV x), (13, iV t13), (16, vSl aunknown unknown cunknown), (17, iV ((unknown.length : Nat) : Int)), (18, iV t18)] [Box pt (tF t at_ ct at_2 ct2 at_3 ct3), OwnSl 22 1 aout out.length cout csout, oL 3 1 aadd3 add3 cadd3] h19
    refine .region (.V bi0 ?_)
    refine .V mv0 ?_
    refine .nil ?_
    exact .RO (wr (t18 + 1), add3, aadd3, cadd3) hF.1 hF.2
   refine .block (.seq (.region (.V mv0 ?_)))
   obtain ⟨q2122, hF⟩ := hF
   refine .V (ix rfl rfl tS22 (_q7.ne (by decide) (inb_pos q2122)) q2122) ?_
   refine .V (ld1 (v := iV (gt unknown t18)) rfl tO3 (cellH ((_q7.mono (q1430)).elemF q2122 (by decide) 0 _ rfl))) ?_
   refine .V ag0 ?_
   refine .V ag0 ?_
   refine .nil (.seqN (.seq (.region (.V mv0 ?_))))
   refine .V mv0 ?_
   obtain ⟨q2123, hF⟩ := hF
   refine .V (bsh rfl rfl q2123 rfl) ?_
   obtain ⟨x2, q2124⟩ : ∃ y_ : Int, y_ = (bits .and .i64 (Int.fdiv t13 (2 ^ (min ((t18 : Int)).toNat (IntKind.bits .i64)))) 1) := ⟨_, rfl⟩
   replace hF := hF x2 q2124
   refine .v (v := iV x2) (by rw [q2124]; exact bi rfl rfl rfl) rfl rfl rfl ?_
   refine .V bi0 ?_
   refine .nil (.seqN ?_)
   refine .cond rfl (fun q2125 => ?_) (fun q2125 => ?_)
   ·replace hF := hF.1 q2125
    refine .region (.V mv0 ?_)
    refine .V mv0 ?_
    refine bs2 (cs := #[iV (gt unknown t18)]) (pv := [(0, iV (gt unknown t18))]) tS22 rfl rfl (by decide) (by decide) rfl rfl rfl (fun a _ => ?_)
    refine .KA [oL 3 1 a ([(gt unknown t18)] : List Int) 1, Box pt (tF t at_ ct at_2 ct2 at_3 ct3), OwnSl 22 1 aout out.length cout csout, oL 3 1 aadd add cadd] ?_
    obtain ⟨q2127, hF⟩ := hF
    have q2128 : add.length + ([(gt unknown t18)] : List Int).length = ((add ++ ([(gt unknown t18)] : List Int))).length := len_app rfl rfl
    refine app (k := 3) (news := flL ([(gt unknown t18)] : List Int)) (cs' := flL (add ++ ([(gt unknown t18)] : List Int))) (nm := ((add ++ ([(gt unknown t18)] : List Int))).length) tS22 rfl (by decide) rfl rfl rfl ((flL_len _).trans rfl) (srcS (k := 0) rfl) (flL_one _) (room_of q2128 q2127).1 (room_of q2128 q2127).2 q2128 (flL_append _ _).symm rfl (fun a2 c => ?_)
    refine .KA [oL 3 1 a ([(gt unknown t18)] : List Int) 1, Box pt (tF t at_ ct at_2 ct2 at_3 ct3), OwnSl 22 1 aout out.length cout csout, oL 3 1 a2 (add ++ ([(gt unknown t18)] : List Int)) c] ?_
    refine .V ag0 ?_
    refine .nil (.blkN ?_)
    refine .sel0 [1, 2, 3] (by decide) rfl ?_
    exact .US q2121 ((add ++ ([(gt unknown t18)] : List Int)), a2, c) hF
   replace hF := hF.2 q2125
   refine .skip (.blkN ?_)
   exact .US q2121 (add, aadd, cadd) hF
  replace hF := hF.2 q2113
  refine .exit (.seqX (.seqX (.blkX (.seqN (.region (.V mv0 ?_))))))
  refine .V (fa rfl tF25_1) ?_
  refine .V (ld1 rfl tO22 (cellB (off := 1) (k := 0) rfl rfl)) ?_
  refine .V mv0 ?_
  refine .V mv0 ?_
  obtain ⟨q2129, hF⟩ := hF
  obtain ⟨r2, q2130⟩ : ∃ y_ : List Int, y_ = sp_update t.init add unknown := ⟨_, rfl⟩
  replace hF := hF r2 q2130
  refine clO (α := Option Addr × Nat) (V := fun z => vSl z.1 r2 z.2) (Ψ := fun z => True) (B := fun z => [oL 3 1 z.1 r2 z.2]) Tryz.call35 rfl rfl (fun w S => (by rw [q2130]; obtain ⟨h_, hl_, hs_, hne_, hr_⟩ := look S (k := 2) rfl; exact (c_update hs_ t.init at_ ct (RSl.mono hl_ (_q1.mono (q1430))) _q2 add aadd cadd (RSl.of hr_) (look_len S (k := 2) rfl) unknown aunknown cunknown (RSl.mono hl_ (_q7.mono (q1430))) _q8 q2129).mono fun _ _ ⟨z, h0, h1, e1, e2, e3, e4⟩ => ⟨z, h0, h1, e1, e2, FH.le_trans hl_ e3, e4⟩)) rfl (fun z _ => ?_)
  obtain ⟨a3, c2⟩ := z
  refine .KA [oL 3 1 a3 r2 c2, Box pt (tF t at_ ct at_2 ct2 at_3 ct3), OwnSl 22 1 aout out.length cout csout, oL 3 1 aadd add cadd] ?_
  refine .freezeL (k := 0) rfl (fun h26 le26 q2132 q2131 => ?_)
  refine .KA [tru, Box pt (tF t at_ ct at_2 ct2 at_3 ct3), OwnSl 22 1 aout out.length cout csout, oL 3 1 aadd add cadd] ?_
  refine bs2 (cs := #[vSl a3 r2 c2]) (pv := [(0, vSl a3 r2 c2)]) tS35 rfl rfl (by decide) (by decide) rfl rfl rfl (fun a4 _ => ?_)
  refine .KA [OwnSl 22 1 a4 (([r2] : List (List Int)).length) 1 [vSl a3 r2 c2], tru, Box pt (tF t at_ ct at_2 ct2 at_3 ct3), OwnSl 22 1 aout out.length cout csout, oL 3 1 aadd add cadd] ?_
  obtain ⟨q2134, hF⟩ := hF
  have q2135 : out.length + ([r2] : List (List Int)).length = ((out ++ ([r2] : List (List Int)))).length := len_app rfl rfl
  have q2136 := RepL.append (RepL.mono (le26) q1429) (show RepL h26 ([r2] : List (List Int)) [.slice a3 r2.length c2] from ⟨[.slice a3 r2.length c2], _, rfl, ⟨a3, c2, rfl, (q2132), (RSl.of q2131)⟩, rfl⟩)
  refine app (k := 3) (news := [vSl a3 r2 c2]) (cs' := (csout ++ [vSl a3 r2 c2])) (nm := ((out ++ ([r2] : List (List Int)))).length) tS35 rfl (by decide) rfl rfl rfl (RepL.len (show RepL h26 ([r2] : List (List Int)) [vSl a3 r2 c2] from ⟨[vSl a3 r2 c2], _, rfl, ⟨a3, c2, rfl, (q2132), (RSl.of q2131)⟩, rfl⟩)) (srcS (k := 0) rfl) (RepL.one (show RepL h26 ([r2] : List (List Int)) [vSl a3 r2 c2] from ⟨[vSl a3 r2 c2], _, rfl, ⟨a3, c2, rfl, (q2132), (RSl.of q2131)⟩, rfl⟩)) (room_of q2135 q2134).1 (room_of q2135 q2134).2 q2135 rfl rfl (fun a5 c3 => ?_)
  refine .KA [OwnSl 22 1 a4 (([r2] : List (List Int)).length) 1 [vSl a3 r2 c2], tru, Box pt (tF t at_ ct at_2 ct2 at_3 ct3), OwnSl 22 1 a5 ((out ++ ([r2] : List (List Int))).length) c3 (csout ++ [vSl a3 r2 c2]), oL 3 1 aadd add cadd] ?_
  refine .V ag0 ?_
  refine .nil (.blkN (.seqN (.region (.V bi0 ?_))))
  refine .V mv0 ?_
  refine .nil ?_
  refine .sel0 [2, 3] (by decide) rfl ?_
  exact .RO (wr (t13 + 1), (out ++ ([r2] : List (List Int))), a5, c3, (csout ++ [vSl a3 r2 c2]), h26) ⟨hF.1, q2136, (FH.le_trans (q1430) (le26))⟩ hF.2
 replace hF := hF.2 q1788
 refine .exit (.seqX (.seqX (.blkX (.seqN (.seq (.region (.V mv0 ?_)))))))
 obtain ⟨q2137, hF⟩ := hF
 obtain ⟨r3, q2138⟩ : ∃ y_ : List (List Int), y_ = sp_normal out := ⟨_, rfl⟩
 replace hF := hF r3 q2138
 refine callX (k := 1) (v := vSl aout r3 cout) (X' := OwnPX h19 22 1 aout cout r3) rfl Tryz.call42 rfl rfl (fun w g hx sg hd hs' => ?_) rfl ?_
 ·rw [q2138]; exact c_normal hs' out aout cout q1429 (own_n (rfl).symm hx) sg hd q2137
 refine .openP (k := 1) rfl (fun cs q2139 => ?_)
 refine .KA [Box pt (tF t at_ ct at_2 ct2 at_3 ct3), OwnSl 22 1 aout r3.length cout cs] ?_
 refine .V ag0 ?_
 refine .nil (.seqN ?_)
 refine .freezeL (k := 1) rfl (fun h27 le27 q2141 q2140 => ?_)
 refine .KA [Box pt (tF t at_ ct at_2 ct2 at_3 ct3), tru] ?_
 refine .ret ?_
 refine .res1 rfl (rvT rfl) (fun w' S => ⟨r3, (aout, cout), h27, hF, rfl, (FH.le_trans (q1430) (le27)), ⟨(show RSl h27 aout r3 from ⟨_, q2139.mono (le27), q2140⟩), (q2141)⟩, S.none⟩)
theorem c_worlds {h : FH} {w : World} (hs : Sub h w) (t : Task) (at_ : Option Addr) (ct : Nat) (_q1 : RSl h at_ t.init) (_q2 : t.init.length ≤ ct) (at_2 : Option Addr) (ct2 : Nat) (_q3 : RSl h at_2 t.goal) (_q4 : t.goal.length ≤ ct2) (at_3 : Option Addr) (ct3 : Nat) (_q5 : RSl h at_3 t.ops) (_q6 : t.ops.length ≤ ct3) (unknown : List Int) (aunknown : Option Addr) (cunknown : Nat) (_q7 : RSl h aunknown unknown) (_q8 : unknown.length ≤ cunknown) (hp : pre_worlds t unknown) : Calls Tryz.prog 16 #[.agg #[iV t.facts, .slice at_ t.init.length ct, .slice at_2 t.goal.length ct2, .slice at_3 t.ops.length ct3], .slice aunknown unknown.length cunknown] w fun e w' => ∃ (z : Option Addr × Nat) (h1 : FH), e = .returned (.slice z.1 (sp_worlds t unknown).length z.2) ∧ FH.le h h1 ∧ (RSl h1 z.1 (sp_worlds t unknown) ∧ (sp_worlds t unknown).length ≤ z.2) ∧ SH (Kp.all w h) h1 w' [] :=
 (w_worlds hs t at_ ct _q1 _q2 at_2 ct2 _q3 _q4 at_3 ct3 _q5 _q6 unknown aunknown cunknown _q7 _q8 (fun r => r = sp_worlds t unknown) (ok_worlds t unknown hp)).mono fun _ _ ⟨r, z, h1, hk, he, hl, hf, hS⟩ => by subst hk; exact ⟨z, h1, he, hl, hf, hS⟩
theorem w_bafter {h : FH} {w : World} (hs : Sub h w) (t : Task) (at_ : Option Addr) (ct : Nat) (_q1 : RSl h at_ t.init) (_q2 : t.init.length ≤ ct) (at_2 : Option Addr) (ct2 : Nat) (_q3 : RSl h at_2 t.goal) (_q4 : t.goal.length ≤ ct2) (at_3 : Option Addr) (ct3 : Nat) (_q5 : RSl h at_3 t.ops) (_q6 : t.ops.length ≤ ct3) (worlds : List (List Int)) (aworlds : Option Addr) (cworlds : Nat) (_q7 : RSl h aworlds worlds) (_q8 : worlds.length ≤ cworlds) (op : Int) (K : (List (List Int)) → Prop) (hF : F_bafter t worlds op K) : Calls Tryz.prog 67 #[.agg #[iV t.facts, .slice at_ t.init.length ct, .slice at_2 t.goal.length ct2, .slice at_3 t.ops.length ct3], .slice aworlds worlds.length cworlds, iV op] w fun e w' => ∃ (r : List (List Int)) (z : Option Addr × Nat) (h1 : FH), K r ∧ e = .returned (.slice z.1 r.length z.2) ∧ FH.le h h1 ∧ (RSl h1 z.1 r ∧ r.length ≤ z.2) ∧ SH (Kp.all w h) h1 w' [] := by
 refine enter (args := [.agg (tF t at_ ct at_2 ct2 at_3 ct3).toArray, vSl aworlds worlds cworlds, iV op]) Tryz.func67 rfl Tryz.ntmps67 rfl hs ?_
 refine .seq (.region ?_)
 refine bx (vs := (tF t at_ ct at_2 ct2 at_3 ct3)) rfl rfl rfl (fun pt => ?_)
 refine .V ag0 ?_
 refine .nil (.seqN (.seq (.region (.V ag0 ?_))))
 refine .nil (.seqN (.seq (.seq (.region (.V mv0 ?_)))))
 refine .V (ln rfl tS35.is) ?_
 refine .V mv0 ?_
 refine .nil (.seqN (.block ?_))
 refine .nilSl 22 1 ?_
 refine .KA [OwnSl 22 1 none (([] : List (List Int)).length) 0 [], Box pt (tF t at_ ct at_2 ct2 at_3 ct3)] ?_
 refine .sel0 [1, 0] (by decide) rfl ?_
 obtain ⟨I1, μ1, q222, q223⟩ := hF
 refine .loop' (σ := Int × List (List Int) × Option Addr × Nat × List Value × FH) (fun z => I1 z.1 z.2.1 ∧ RepL z.2.2.2.2.2 z.2.1 z.2.2.2.2.1 ∧ FH.le h z.2.2.2.2.2) (fun z => μ1 z.1 z.2.1) (fun z => [(2, iV op), (3, .pointer (some pt)), (7, vSl z.2.2.1 z.2.1 z.2.2.2.1), (10, vSl aworlds worlds cworlds), (11, iV ((worlds.length : Nat) : Int)), (12, iV z.1)]) (fun z => [Box pt (tF t at_ ct at_2 ct2 at_3 ct3), OwnSl 22 1 z.2.2.1 z.2.1.length z.2.2.2.1 z.2.2.2.2.1]) (fun z => z.2.2.2.2.2) (0, ([] : List (List Int)), none, 0, [], h) ⟨q222, (show RepL h ([] : List (List Int)) [] from rfl), (FH.le_refl _)⟩ sb rfl (FH.le_refl _) ?_
 rintro ⟨t12, out, aout, cout, csout, h19⟩ ⟨q222, q179, q180⟩
 have hF := q223 t12 out q222
 show J _ _ _ _ _ [(2, iV op), (3, .pointer (some pt)), (7, vSl aout out cout), (10, vSl aworlds worlds cworlds), (11, iV ((worlds.length : Nat) : Int)), (12, iV t12)] [Box pt (tF t at_ ct at_2 ct2 at_3 ct3), OwnSl 22 1 aout out.length cout csout] h19
 refine .seq (.region (.V bi0 ?_))
 refine .nil (.seqN (.seq ?_))
 refine .cond rfl (fun q226 => ?_) (fun q226 => ?_)
 ·replace hF := hF.1 q226
  refine .skip (.seqN (.seq (.block (.seq (.region ?_)))))
  obtain ⟨q251, hF⟩ := hF
  refine .V (ix rfl rfl tS35 (_q7.ne (by decide) (inb_pos q251)) q251) ?_
  obtain ⟨_, ⟨a, c, rfl, q252, q253⟩, q254⟩ := _q7.elem q251
  refine .V (ld1 (v := .slice a ((gt worlds t12).length) c) rfl tO22 (cellH ((fun q => (q254 q).mono (q180)) (by decide) 0 _ rfl))) ?_
  refine .V ag0 ?_
  refine .nil (.seqN (.region (.V mv0 ?_)))
  refine .V (ldA (cs := (tF t at_ ct at_2 ct2 at_3 ct3)) rfl tA25 rfl (cellsB (off := 0) (k := 0) rfl (m := 4) rfl)) ?_
  refine .V mv0 ?_
  refine .V mv0 ?_
  obtain ⟨q255, hF⟩ := hF
  obtain ⟨r2, q256⟩ : ∃ y_ : List Int, y_ = sp_after t (gt worlds t12) op := ⟨_, rfl⟩
  replace hF := hF r2 q256
  refine clR (α := Option Addr × Nat) (Φ := fun h1 z => RSl h1 z.1 r2 ∧ r2.length ≤ z.2) (V := fun z => vSl z.1 r2 z.2) Tryz.call59 rfl rfl (fun w S => (by rw [q256]; exact c_next S.sub t at_ ct (_q1.mono (q180)) _q2 at_2 ct2 (_q3.mono (q180)) _q4 at_3 ct3 (_q5.mono (q180)) _q6 (gt worlds t12) a c (q253.mono (q180)) q252 op q255)) rfl (fun z h26 le26 hz => ?_)
  obtain ⟨a2, c2⟩ := z
  obtain ⟨q257, q258⟩ := hz
  refine bs2 (cs := #[vSl a2 r2 c2]) (pv := [(0, vSl a2 r2 c2)]) tS35 rfl rfl (by decide) (by decide) rfl rfl rfl (fun a3 _ => ?_)
  refine .KA [OwnSl 22 1 a3 (([r2] : List (List Int)).length) 1 [vSl a2 r2 c2], Box pt (tF t at_ ct at_2 ct2 at_3 ct3), OwnSl 22 1 aout out.length cout csout] ?_
  obtain ⟨q260, hF⟩ := hF
  have q261 : out.length + ([r2] : List (List Int)).length = ((out ++ ([r2] : List (List Int)))).length := len_app rfl rfl
  have q262 := RepL.append (RepL.mono (le26) q179) (show RepL h26 ([r2] : List (List Int)) [.slice a2 r2.length c2] from ⟨[.slice a2 r2.length c2], _, rfl, ⟨a2, c2, rfl, q258, q257⟩, rfl⟩)
  refine app (k := 2) (news := [vSl a2 r2 c2]) (cs' := (csout ++ [vSl a2 r2 c2])) (nm := ((out ++ ([r2] : List (List Int)))).length) tS35 rfl (by decide) rfl rfl rfl (RepL.len (show RepL h26 ([r2] : List (List Int)) [vSl a2 r2 c2] from ⟨[vSl a2 r2 c2], _, rfl, ⟨a2, c2, rfl, q258, q257⟩, rfl⟩)) (srcS (k := 0) rfl) (RepL.one (show RepL h26 ([r2] : List (List Int)) [vSl a2 r2 c2] from ⟨[vSl a2 r2 c2], _, rfl, ⟨a2, c2, rfl, q258, q257⟩, rfl⟩)) (room_of q261 q260).1 (room_of q261 q260).2 q261 rfl rfl (fun a4 c3 => ?_)
  refine .KA [OwnSl 22 1 a3 (([r2] : List (List Int)).length) 1 [vSl a2 r2 c2], Box pt (tF t at_ ct at_2 ct2 at_3 ct3), OwnSl 22 1 a4 ((out ++ ([r2] : List (List Int))).length) c3 (csout ++ [vSl a2 r2 c2])] ?_
  refine .V ag0 ?_
  refine .nil (.blkN (.seqN (.region (.V bi0 ?_))))
  refine .V mv0 ?_
  refine .nil ?_
  refine .sel0 [1, 2] (by decide) rfl ?_
  exact .RO (wr (t12 + 1), (out ++ ([r2] : List (List Int))), a4, c3, (csout ++ [vSl a2 r2 c2]), h26) ⟨hF.1, q262, (FH.le_trans (q180) (le26))⟩ hF.2
 replace hF := hF.2 q226
 refine .exit (.seqX (.seqX (.blkX (.seqN (.seq (.region (.V mv0 ?_)))))))
 obtain ⟨q263, hF⟩ := hF
 obtain ⟨r3, q264⟩ : ∃ y_ : List (List Int), y_ = sp_normal out := ⟨_, rfl⟩
 replace hF := hF r3 q264
 refine callX (k := 1) (v := vSl aout r3 cout) (X' := OwnPX h19 22 1 aout cout r3) rfl Tryz.call42 rfl rfl (fun w g hx sg hd hs' => ?_) rfl ?_
 ·rw [q264]; exact c_normal hs' out aout cout q179 (own_n (rfl).symm hx) sg hd q263
 refine .openP (k := 1) rfl (fun cs q265 => ?_)
 refine .KA [Box pt (tF t at_ ct at_2 ct2 at_3 ct3), OwnSl 22 1 aout r3.length cout cs] ?_
 refine .V ag0 ?_
 refine .nil (.seqN ?_)
 refine .freezeL (k := 1) rfl (fun h27 le27 q267 q266 => ?_)
 refine .KA [Box pt (tF t at_ ct at_2 ct2 at_3 ct3), tru] ?_
 refine .ret ?_
 refine .res1 rfl (rvT rfl) (fun w' S => ⟨r3, (aout, cout), h27, hF, rfl, (FH.le_trans (q180) (le27)), ⟨(show RSl h27 aout r3 from ⟨_, q265.mono (le27), q266⟩), (q267)⟩, S.none⟩)
theorem c_bafter {h : FH} {w : World} (hs : Sub h w) (t : Task) (at_ : Option Addr) (ct : Nat) (_q1 : RSl h at_ t.init) (_q2 : t.init.length ≤ ct) (at_2 : Option Addr) (ct2 : Nat) (_q3 : RSl h at_2 t.goal) (_q4 : t.goal.length ≤ ct2) (at_3 : Option Addr) (ct3 : Nat) (_q5 : RSl h at_3 t.ops) (_q6 : t.ops.length ≤ ct3) (worlds : List (List Int)) (aworlds : Option Addr) (cworlds : Nat) (_q7 : RSl h aworlds worlds) (_q8 : worlds.length ≤ cworlds) (op : Int) (hp : pre_bafter t worlds op) : Calls Tryz.prog 67 #[.agg #[iV t.facts, .slice at_ t.init.length ct, .slice at_2 t.goal.length ct2, .slice at_3 t.ops.length ct3], .slice aworlds worlds.length cworlds, iV op] w fun e w' => ∃ (z : Option Addr × Nat) (h1 : FH), e = .returned (.slice z.1 (sp_bafter t worlds op).length z.2) ∧ FH.le h h1 ∧ (RSl h1 z.1 (sp_bafter t worlds op) ∧ (sp_bafter t worlds op).length ≤ z.2) ∧ SH (Kp.all w h) h1 w' [] :=
 (w_bafter hs t at_ ct _q1 _q2 at_2 ct2 _q3 _q4 at_3 ct3 _q5 _q6 worlds aworlds cworlds _q7 _q8 op (fun r => r = sp_bafter t worlds op) (ok_bafter t worlds op hp)).mono fun _ _ ⟨r, z, h1, hk, he, hl, hf, hS⟩ => by subst hk; exact ⟨z, h1, he, hl, hf, hS⟩
theorem w_succ {h : FH} {w : World} (hs : Sub h w) (t : Task) (at_ : Option Addr) (ct : Nat) (_q1 : RSl h at_ t.init) (_q2 : t.init.length ≤ ct) (at_2 : Option Addr) (ct2 : Nat) (_q3 : RSl h at_2 t.goal) (_q4 : t.goal.length ≤ ct2) (at_3 : Option Addr) (ct3 : Nat) (_q5 : RSl h at_3 t.ops) (_q6 : t.ops.length ≤ ct3) (worlds : List (List Int)) (aworlds : Option Addr) (cworlds : Nat) (_q7 : RSl h aworlds worlds) (_q8 : worlds.length ≤ cworlds) (K : Unit → Prop) (hF : F_succ t worlds K) : Calls Tryz.prog 40 #[.agg #[iV t.facts, .slice at_ t.init.length ct, .slice at_2 t.goal.length ct2, .slice at_3 t.ops.length ct3], .slice aworlds worlds.length cworlds] w fun e w' => ∃ (r : Unit) (z : Addr × Addr) (h1 : FH), K r ∧ e = .returned (.func (.func 66) #[] #[.pointer (some z.1), .pointer (some z.2)]) ∧ FH.le h h1 ∧ (CellsAt h1 z.1 [iV t.facts, .slice at_ t.init.length ct, .slice at_2 t.goal.length ct2, .slice at_3 t.ops.length ct3] ∧ CellsAt h1 z.2 [.slice aworlds worlds.length cworlds]) ∧ SH (Kp.all w h) h1 w' [] := by
 refine enter (args := [.agg (tF t at_ ct at_2 ct2 at_3 ct3).toArray, vSl aworlds worlds cworlds]) Tryz.func40 rfl Tryz.ntmps40 rfl hs ?_
 refine .seq (.region ?_)
 refine bx (vs := (tF t at_ ct at_2 ct2 at_3 ct3)) rfl rfl rfl (fun pt => ?_)
 refine bx (vs := [vSl aworlds worlds cworlds]) rfl rfl rfl (fun pworlds => ?_)
 refine .V ag0 ?_
 refine .nil (.seqN (.seq (.region (.V (mkf (vf := []) (vc := [.pointer (some pt), .pointer (some pworlds)]) rfl rfl) ?_))))
 refine .V ag0 ?_
 refine .nil (.seqN ?_)
 refine .freezeBx (k := 1) rfl (fun h1 le1 q9 => ?_)
 refine .KA [Box pworlds [vSl aworlds worlds cworlds], tru] ?_
 refine .freezeBx (k := 0) rfl (fun h2 le2 q10 => ?_)
 refine .KA [tru, tru] ?_
 refine .ret ?_
 refine .res1 rfl (rvT rfl) (fun w' S => ⟨(), (pt, pworlds), h2, hF, rfl, (FH.le_trans (le1) (le2)), ⟨(CellsAt.mono (le2) q9), (CellsAt.mono (FH.le_refl _) q10)⟩, S.none⟩)
theorem c_succ {h : FH} {w : World} (hs : Sub h w) (t : Task) (at_ : Option Addr) (ct : Nat) (_q1 : RSl h at_ t.init) (_q2 : t.init.length ≤ ct) (at_2 : Option Addr) (ct2 : Nat) (_q3 : RSl h at_2 t.goal) (_q4 : t.goal.length ≤ ct2) (at_3 : Option Addr) (ct3 : Nat) (_q5 : RSl h at_3 t.ops) (_q6 : t.ops.length ≤ ct3) (worlds : List (List Int)) (aworlds : Option Addr) (cworlds : Nat) (_q7 : RSl h aworlds worlds) (_q8 : worlds.length ≤ cworlds) : Calls Tryz.prog 40 #[.agg #[iV t.facts, .slice at_ t.init.length ct, .slice at_2 t.goal.length ct2, .slice at_3 t.ops.length ct3], .slice aworlds worlds.length cworlds] w fun e w' => ∃ (z : Addr × Addr) (h1 : FH), e = .returned (.func (.func 66) #[] #[.pointer (some z.1), .pointer (some z.2)]) ∧ FH.le h h1 ∧ (CellsAt h1 z.1 [iV t.facts, .slice at_ t.init.length ct, .slice at_2 t.goal.length ct2, .slice at_3 t.ops.length ct3] ∧ CellsAt h1 z.2 [.slice aworlds worlds.length cworlds]) ∧ SH (Kp.all w h) h1 w' [] :=
 (w_succ hs t at_ ct _q1 _q2 at_2 ct2 _q3 _q4 at_3 ct3 _q5 _q6 worlds aworlds cworlds _q7 _q8 (fun r => r = sp_succ t worlds) (ok_succ t worlds)).mono fun _ _ ⟨r, z, h1, hk, he, hl, hf, hS⟩ => by subst hk; exact ⟨z, h1, he, hl, hf, hS⟩
theorem w_bnext {h : FH} {w : World} (hs : Sub h w) (t : Task) (at_ : Option Addr) (ct : Nat) (_q1 : RSl h at_ t.init) (_q2 : t.init.length ≤ ct) (at_2 : Option Addr) (ct2 : Nat) (_q3 : RSl h at_2 t.goal) (_q4 : t.goal.length ≤ ct2) (at_3 : Option Addr) (ct3 : Nat) (_q5 : RSl h at_3 t.ops) (_q6 : t.ops.length ≤ ct3) (K : Unit → Prop) (hF : F_bnext t K) : Calls Tryz.prog 14 #[.agg #[iV t.facts, .slice at_ t.init.length ct, .slice at_2 t.goal.length ct2, .slice at_3 t.ops.length ct3]] w fun e w' => ∃ (r : Unit) (z : Addr) (h1 : FH), K r ∧ e = .returned (.func (.func 39) #[] #[.pointer (some z)]) ∧ FH.le h h1 ∧ (CellsAt h1 z [iV t.facts, .slice at_ t.init.length ct, .slice at_2 t.goal.length ct2, .slice at_3 t.ops.length ct3]) ∧ SH (Kp.all w h) h1 w' [] := by
 refine enter (args := [.agg (tF t at_ ct at_2 ct2 at_3 ct3).toArray]) Tryz.func14 rfl Tryz.ntmps14 rfl hs ?_
 refine .seq (.region ?_)
 refine bx (vs := (tF t at_ ct at_2 ct2 at_3 ct3)) rfl rfl rfl (fun pt => ?_)
 refine .V ag0 ?_
 refine .nil (.seqN (.seq (.region (.V (mkf (vf := []) (vc := [.pointer (some pt)]) rfl rfl) ?_))))
 refine .V ag0 ?_
 refine .nil (.seqN ?_)
 refine .freezeBx (k := 0) rfl (fun h1 le1 q7 => ?_)
 refine .KA [tru] ?_
 refine .ret ?_
 refine .res1 rfl (rvT rfl) (fun w' S => ⟨(), pt, h1, hF, rfl, (le1), (CellsAt.mono (FH.le_refl _) q7), S.none⟩)
theorem c_bnext {h : FH} {w : World} (hs : Sub h w) (t : Task) (at_ : Option Addr) (ct : Nat) (_q1 : RSl h at_ t.init) (_q2 : t.init.length ≤ ct) (at_2 : Option Addr) (ct2 : Nat) (_q3 : RSl h at_2 t.goal) (_q4 : t.goal.length ≤ ct2) (at_3 : Option Addr) (ct3 : Nat) (_q5 : RSl h at_3 t.ops) (_q6 : t.ops.length ≤ ct3) : Calls Tryz.prog 14 #[.agg #[iV t.facts, .slice at_ t.init.length ct, .slice at_2 t.goal.length ct2, .slice at_3 t.ops.length ct3]] w fun e w' => ∃ (z : Addr) (h1 : FH), e = .returned (.func (.func 39) #[] #[.pointer (some z)]) ∧ FH.le h h1 ∧ (CellsAt h1 z [iV t.facts, .slice at_ t.init.length ct, .slice at_2 t.goal.length ct2, .slice at_3 t.ops.length ct3]) ∧ SH (Kp.all w h) h1 w' [] :=
 (w_bnext hs t at_ ct _q1 _q2 at_2 ct2 _q3 _q4 at_3 ct3 _q5 _q6 (fun r => r = sp_bnext t) (ok_bnext t)).mono fun _ _ ⟨r, z, h1, hk, he, hl, hf, hS⟩ => by subst hk; exact ⟨z, h1, he, hl, hf, hS⟩
theorem w_bnext1 {h : FH} {w : World} (hs : Sub h w) (worlds : List (List Int)) (aworlds : Option Addr) (cworlds : Nat) (_q1 : RSl h aworlds worlds) (_q2 : worlds.length ≤ cworlds) (x : Task) (ax : Option Addr) (cx : Nat) (_q3 : RSl h ax x.init) (_q4 : x.init.length ≤ cx) (ax2 : Option Addr) (cx2 : Nat) (_q5 : RSl h ax2 x.goal) (_q6 : x.goal.length ≤ cx2) (ax3 : Option Addr) (cx3 : Nat) (_q7 : RSl h ax3 x.ops) (_q8 : x.ops.length ≤ cx3) (px : Addr) (_q9 : CellsAt h px [iV x.facts, .slice ax x.init.length cx, .slice ax2 x.goal.length cx2, .slice ax3 x.ops.length cx3]) (K : Unit → Prop) (hF : F_bnext1 worlds x K) : Calls Tryz.prog 39 #[.slice aworlds worlds.length cworlds, .pointer (some px)] w fun e w' => ∃ (r : Unit) (z : Addr × Addr) (h1 : FH), K r ∧ e = .returned (.func (.func 66) #[] #[.pointer (some z.1), .pointer (some z.2)]) ∧ FH.le h h1 ∧ (CellsAt h1 z.1 [iV x.facts, .slice ax x.init.length cx, .slice ax2 x.goal.length cx2, .slice ax3 x.ops.length cx3] ∧ CellsAt h1 z.2 [.slice aworlds worlds.length cworlds]) ∧ SH (Kp.all w h) h1 w' [] := by
 refine enter (args := [vSl aworlds worlds cworlds, .pointer (some px)]) Tryz.func39 rfl Tryz.ntmps39 rfl hs ?_
 refine .seq (.region (.V ag0 ?_))
 refine .nil (.seqN (.seq (.region (.V (ldA (cs := (tF x ax cx ax2 cx2 ax3 cx3)) rfl tA25 rfl (cellsH (_q9.mono (FH.le_refl _)))) ?_))))
 refine .V mv0 ?_
 obtain ⟨r2, q10⟩ : ∃ y_ : Unit, y_ = sp_succ x worlds := ⟨_, rfl⟩
 replace hF := hF r2 q10
 refine clR (α := Addr × Addr) (Φ := fun h1 z => CellsAt h1 z.1 (tF x ax cx ax2 cx2 ax3 cx3) ∧ CellsAt h1 z.2 [vSl aworlds worlds cworlds]) (V := fun z => .func (.func 66) #[] #[.pointer (some z.1), .pointer (some z.2)]) Tryz.call40 rfl rfl (fun w S => (by exact c_succ S.sub x ax cx _q3 _q4 ax2 cx2 _q5 _q6 ax3 cx3 _q7 _q8 worlds aworlds cworlds _q1 _q2 )) rfl (fun z h1 le1 hz => ?_)
 obtain ⟨p, p2⟩ := z
 obtain ⟨q11, q12⟩ := hz
 refine .V ag0 ?_
 refine .nil (.seqN (.ret ?_))
 refine .res1 rfl (rvT rfl) (fun w' S => ⟨(), (p, p2), h1, hF, rfl, (le1), ⟨(CellsAt.mono (FH.le_refl _) q11), (CellsAt.mono (FH.le_refl _) q12)⟩, S.none⟩)
theorem c_bnext1 {h : FH} {w : World} (hs : Sub h w) (worlds : List (List Int)) (aworlds : Option Addr) (cworlds : Nat) (_q1 : RSl h aworlds worlds) (_q2 : worlds.length ≤ cworlds) (x : Task) (ax : Option Addr) (cx : Nat) (_q3 : RSl h ax x.init) (_q4 : x.init.length ≤ cx) (ax2 : Option Addr) (cx2 : Nat) (_q5 : RSl h ax2 x.goal) (_q6 : x.goal.length ≤ cx2) (ax3 : Option Addr) (cx3 : Nat) (_q7 : RSl h ax3 x.ops) (_q8 : x.ops.length ≤ cx3) (px : Addr) (_q9 : CellsAt h px [iV x.facts, .slice ax x.init.length cx, .slice ax2 x.goal.length cx2, .slice ax3 x.ops.length cx3]) : Calls Tryz.prog 39 #[.slice aworlds worlds.length cworlds, .pointer (some px)] w fun e w' => ∃ (z : Addr × Addr) (h1 : FH), e = .returned (.func (.func 66) #[] #[.pointer (some z.1), .pointer (some z.2)]) ∧ FH.le h h1 ∧ (CellsAt h1 z.1 [iV x.facts, .slice ax x.init.length cx, .slice ax2 x.goal.length cx2, .slice ax3 x.ops.length cx3] ∧ CellsAt h1 z.2 [.slice aworlds worlds.length cworlds]) ∧ SH (Kp.all w h) h1 w' [] :=
 (w_bnext1 hs worlds aworlds cworlds _q1 _q2 x ax cx _q3 _q4 ax2 cx2 _q5 _q6 ax3 cx3 _q7 _q8 px _q9 (fun r => r = sp_bnext1 worlds x) (ok_bnext1 worlds x)).mono fun _ _ ⟨r, z, h1, hk, he, hl, hf, hS⟩ => by subst hk; exact ⟨z, h1, he, hl, hf, hS⟩
theorem w_small1 {h : FH} {w : World} (hs : Sub h w) (x : List (List Int)) (ax : Option Addr) (cx : Nat) (_q1 : RSl h ax x) (_q2 : x.length ≤ cx) (K : Bool → Prop) (hF : F_small1 x K) : Calls Tryz.prog 41 #[.slice ax x.length cx] w fun e w' => ∃ r : Bool, K r ∧ e = .returned (.bool r) ∧ Below w.heap.size w w' := by
 refine enter (args := [vSl ax x cx]) Tryz.func41 rfl Tryz.ntmps41 rfl hs ?_
 refine .seq (.region (.V ag0 ?_))
 refine .nil (.seqN (.seq (.region (.V ag0 ?_))))
 refine .nil (.seqN (.ret ?_))
 refine .res1 rfl (rvT rfl) (fun w' S => ⟨false, hF, rfl, S.below⟩)
theorem c_small1 {h : FH} {w : World} (hs : Sub h w) (x : List (List Int)) (ax : Option Addr) (cx : Nat) (_q1 : RSl h ax x) (_q2 : x.length ≤ cx) : Calls Tryz.prog 41 #[.slice ax x.length cx] w fun e w' => e = .returned (.bool (sp_small1 x)) ∧ Below w.heap.size w w' :=
 (w_small1 hs x ax cx _q1 _q2 (fun r => r = sp_small1 x) (ok_small1 x)).mono fun _ _ ⟨_, hk, he, hb⟩ => ⟨by rw [he, hk], hb⟩
theorem w_plan1 {h : FH} {w : World} (hs : Sub h w) (w_ : List (List Int)) (aw_ : Option Addr) (cw_ : Nat) (_q1 : RSl h aw_ w_) (_q2 : w_.length ≤ cw_) (x : Task) (ax : Option Addr) (cx : Nat) (_q3 : RSl h ax x.init) (_q4 : x.init.length ≤ cx) (ax2 : Option Addr) (cx2 : Nat) (_q5 : RSl h ax2 x.goal) (_q6 : x.goal.length ≤ cx2) (ax3 : Option Addr) (cx3 : Nat) (_q7 : RSl h ax3 x.ops) (_q8 : x.ops.length ≤ cx3) (px : Addr) (_q9 : CellsAt h px [iV x.facts, .slice ax x.init.length cx, .slice ax2 x.goal.length cx2, .slice ax3 x.ops.length cx3]) (K : Bool → Prop) (hF : F_plan1 w_ x K) : Calls Tryz.prog 19 #[.slice aw_ w_.length cw_, .pointer (some px)] w fun e w' => ∃ r : Bool, K r ∧ e = .returned (.bool r) ∧ Below w.heap.size w w' := by
 refine enter (args := [vSl aw_ w_ cw_, .pointer (some px)]) Tryz.func19 rfl Tryz.ntmps19 rfl hs ?_
 refine .seq (.region (.V ag0 ?_))
 refine .nil (.seqN (.seq (.region (.V mv0 ?_))))
 refine .V (fa rfl tF25_2) ?_
 refine .V (ld1 (v := vSl ax2 x.goal cx2) rfl tO22 (cellH (CellsAt.mono (FH.le_refl _) _q9 2 _ rfl))) ?_
 obtain ⟨q10, hF⟩ := hF
 obtain ⟨r2, q11⟩ : ∃ y_ : Bool, y_ = sp_sure w_ x.goal := ⟨_, rfl⟩
 replace hF := hF r2 q11
 refine .C (cl (v := .bool r2) Tryz.call20 rfl rfl (fun w S => (by rw [q11]; exact c_sure S.sub w_ aw_ cw_ _q1 _q2 x.goal ax2 cx2 _q5 _q6 q10))) ?_
 refine .V ag0 ?_
 refine .nil (.seqN (.ret ?_))
 refine .res1 rfl (rvT rfl) (fun w' S => ⟨r2, hF, rfl, S.below⟩)
theorem c_plan1 {h : FH} {w : World} (hs : Sub h w) (w_ : List (List Int)) (aw_ : Option Addr) (cw_ : Nat) (_q1 : RSl h aw_ w_) (_q2 : w_.length ≤ cw_) (x : Task) (ax : Option Addr) (cx : Nat) (_q3 : RSl h ax x.init) (_q4 : x.init.length ≤ cx) (ax2 : Option Addr) (cx2 : Nat) (_q5 : RSl h ax2 x.goal) (_q6 : x.goal.length ≤ cx2) (ax3 : Option Addr) (cx3 : Nat) (_q7 : RSl h ax3 x.ops) (_q8 : x.ops.length ≤ cx3) (px : Addr) (_q9 : CellsAt h px [iV x.facts, .slice ax x.init.length cx, .slice ax2 x.goal.length cx2, .slice ax3 x.ops.length cx3]) (hp : pre_plan1 w_ x) : Calls Tryz.prog 19 #[.slice aw_ w_.length cw_, .pointer (some px)] w fun e w' => e = .returned (.bool (sp_plan1 w_ x)) ∧ Below w.heap.size w w' :=
 (w_plan1 hs w_ aw_ cw_ _q1 _q2 x ax cx _q3 _q4 ax2 cx2 _q5 _q6 ax3 cx3 _q7 _q8 px _q9 (fun r => r = sp_plan1 w_ x) (ok_plan1 w_ x hp)).mono fun _ _ ⟨_, hk, he, hb⟩ => ⟨by rw [he, hk], hb⟩
set_option maxHeartbeats 8000000 in
theorem w_breadthS {h : FH} {w : World} (hs : Sub h w) (ht : TabH Tryz.prog h) (start2 : List (List Int)) (astart2 : Option Addr) (cstart2 : Nat) (_q1 : RSl h astart2 start2) (_q2 : start2.length ≤ cstart2) (x : Task) (ax : Option Addr) (cx : Nat) (_q3 : RSl h ax x.init) (_q4 : x.init.length ≤ cx) (ax2 : Option Addr) (cx2 : Nat) (_q5 : RSl h ax2 x.goal) (_q6 : x.goal.length ≤ cx2) (ax3 : Option Addr) (cx3 : Nat) (_q7 : RSl h ax3 x.ops) (_q8 : x.ops.length ≤ cx3) (px : Addr) (_q9 : CellsAt h px [iV x.facts, .slice ax x.init.length cx, .slice ax2 x.goal.length cx2, .slice ax3 x.ops.length cx3]) (K : (List Int × Bool × Bool) → Prop) (hF : F_breadthS start2 x K) : Calls Tryz.prog 18 #[.slice astart2 start2.length cstart2, .func (.func 17) #[] #[], .func (.func 39) #[] #[.pointer (some px)], .func (.func 41) #[] #[]] w fun e w' => ∃ (r : List Int × Bool × Bool) (z : Option Addr × Nat) (h1 : FH), K r ∧ e = .returned (.tuple #[.slice z.1 r.1.length z.2, .bool r.2.1, .bool r.2.2]) ∧ FH.le h h1 ∧ (RSl h1 z.1 r.1 ∧ r.1.length ≤ z.2) ∧ SH (Kp.all w h) h1 w' [] := by
 refine enterM (args := [vSl astart2 start2 cstart2, .func (.func 17) #[] #[], .func (.func 39) #[] #[.pointer (some px)], .func (.func 41) #[] #[]]) Tryz.func18 rfl Tryz.ntmps18 rfl hs ?_
 refine .seq (.region ?_)
 refine bx (vs := [.func (.func 17) #[] #[]]) rfl rfl rfl (fun pkey => ?_)
 refine al tZ22 rfl (fun pv => ?_)
 refine al tZ4 rfl (fun pv2 => ?_)
 refine al tZ4 rfl (fun pv3 => ?_)
 refine .nil (.seqN (.seq (.region (.V mv0 ?_))))
 refine .V (bld (cs := #[vSl astart2 start2 cstart2, iV (-1), iV 0]) (pv := [(0, vSl astart2 start2 cstart2), (1, iV (-1))]) tB84 rfl rfl) ?_
 refine bs2 (cs := #[vSl astart2 start2 cstart2, iV (-1), iV 0]) (pv := [(0, .agg #[vSl astart2 start2 cstart2, iV (-1), iV 0])]) tS85 rfl rfl (by decide) (by decide) rfl rfl rfl (fun a _ => ?_)
 refine .KA [OwnSl 84 3 a (([(⟨start2, (-1), 0⟩ : Entry)] : List Entry).length) 1 [vSl astart2 start2 cstart2, iV (-1), iV 0], Box pv3 [.bool false], Box pv2 [.bool false], Box pv [.slice none 0 0], Box pkey [.func (.func 17) #[] #[]], MkA []] ?_
 refine al tZ85 rfl (fun pqueue => ?_)
 refine st (p := pqueue) (off := 0) (k := 0) (vs := [.slice a (([(⟨start2, (-1), 0⟩ : Entry)] : List Entry).length) 1]) rfl rfl rfl (fun w => (tO85 w).2) rfl rfl rfl rfl ?_
 refine .KA [Box pqueue [.slice a (([(⟨start2, (-1), 0⟩ : Entry)] : List Entry).length) 1], OwnSl 84 3 a (([(⟨start2, (-1), 0⟩ : Entry)] : List Entry).length) 1 [vSl astart2 start2 cstart2, iV (-1), iV 0], Box pv3 [.bool false], Box pv2 [.bool false], Box pv [.slice none 0 0], Box pkey [.func (.func 17) #[] #[]], MkA []] ?_
 refine .nil (.seqN (.seq (.region ?_)))
 refine mm rfl (fun bv => ?_)
 refine .V (ld1 rfl tO48 (cellB (off := 0) (k := 6) rfl rfl)) ?_
 refine .V mv0 ?_
 obtain ⟨q11, hF⟩ := hF
 obtain ⟨r2, q12⟩ : ∃ y_ : List UInt8, y_ = sp_key start2 := ⟨_, rfl⟩
 replace hF := hF r2 q12
 refine .C (cl (v := strV r2) Tryz.call17 rfl rfl (fun w S => (by rw [q12]; exact c_key S.sub (ht.mono (FH.le_refl _)) start2 astart2 cstart2 _q1 _q2 q11))) ?_
 refine mi tM86 rfl rfl rfl (kk := 0) rfl ?_
 refine .KA [OwnMap bv (upd (fun _ => 0) r2 1), Box pqueue [.slice a (([(⟨start2, (-1), 0⟩ : Entry)] : List Entry).length) 1], OwnSl 84 3 a (([(⟨start2, (-1), 0⟩ : Entry)] : List Entry).length) 1 [vSl astart2 start2 cstart2, iV (-1), iV 0], Box pv3 [.bool false], Box pv2 [.bool false], Box pv [.slice none 0 0], Box pkey [.func (.func 17) #[] #[]], MkA []] ?_
 refine .V mv0 ?_
 refine al tZ86 rfl (fun pseen => ?_)
 refine st (p := pseen) (off := 0) (k := 0) (vs := [.map (some bv)]) rfl rfl rfl (fun w => (tO86 w).2) rfl rfl rfl rfl ?_
 refine .KA [Box pseen [.map (some bv)], OwnMap bv (upd (fun _ => 0) r2 1), Box pqueue [.slice a (([(⟨start2, (-1), 0⟩ : Entry)] : List Entry).length) 1], OwnSl 84 3 a (([(⟨start2, (-1), 0⟩ : Entry)] : List Entry).length) 1 [vSl astart2 start2 cstart2, iV (-1), iV 0], Box pv3 [.bool false], Box pv2 [.bool false], Box pv [.slice none 0 0], Box pkey [.func (.func 17) #[] #[]], MkA []] ?_
 refine .nil (.seqN (.seq (.seq (.region ?_))))
 refine al tZ3 rfl (fun pat => ?_)
 refine st (p := pat) (off := 0) (k := 0) (vs := [iV 0]) rfl rfl rfl (fun w => (tO3 w).2) rfl rfl rfl rfl ?_
 refine .KA [Box pat [iV 0], Box pseen [.map (some bv)], OwnMap bv (upd (fun _ => 0) r2 1), Box pqueue [.slice a (([(⟨start2, (-1), 0⟩ : Entry)] : List Entry).length) 1], OwnSl 84 3 a (([(⟨start2, (-1), 0⟩ : Entry)] : List Entry).length) 1 [vSl astart2 start2 cstart2, iV (-1), iV 0], Box pv3 [.bool false], Box pv2 [.bool false], Box pv [.slice none 0 0], Box pkey [.func (.func 17) #[] #[]], MkA []] ?_
 refine .nil (.seqN (.block ?_))
 refine .sel0 [8, 7, 6, 5, 3, 1, 0, 9, 4, 2] (by decide) rfl ?_
 obtain ⟨I1, μ1, q5797, q5798⟩ := hF
 refine .loopN' (σ := Int × List Entry × (List UInt8 → Int) × Addr × List Nat × Option Addr × Nat × List Value × FH) (fun z => I1 z.1 z.2.1 z.2.2.1 ∧ RepL z.2.2.2.2.2.2.2.2 z.2.1 z.2.2.2.2.2.2.2.1 ∧ FH.le h z.2.2.2.2.2.2.2.2) (fun z => μ1 z.1 z.2.1 z.2.2.1) (fun z => ⟨92, none, z.2.2.2.2.1⟩) (fun z => [(2, .func (.func 39) #[] #[.pointer (some px)]), (3, .func (.func 41) #[] #[]), (5, .pointer (some pkey)), (8, .pointer (some pv)), (9, .pointer (some pv2)), (10, .pointer (some pv3)), (11, .pointer (some pqueue)), (12, .pointer (some pseen)), (13, .pointer (some z.2.2.2.1))]) (fun z => [Box pkey [.func (.func 17) #[] #[]], Box pv [.slice none 0 0], Box pv2 [.bool false], Box pv3 [.bool false], Box pqueue [vSl z.2.2.2.2.2.1 z.2.1 z.2.2.2.2.2.2.1], Box pseen [.map (some bv)], Box z.2.2.2.1 [iV z.1], MkA z.2.2.2.2.1, OwnSl 84 3 z.2.2.2.2.2.1 z.2.1.length z.2.2.2.2.2.2.1 z.2.2.2.2.2.2.2.1, OwnMap bv z.2.2.1]) (fun z => z.2.2.2.2.2.2.2.2) (0, ([(⟨start2, (-1), 0⟩ : Entry)] : List Entry), (upd (fun _ => 0) r2 1), pat, [], a, 1, [vSl astart2 start2 cstart2, iV (-1), iV 0], h) ⟨q5797, (show RepL h ([(⟨start2, (-1), 0⟩ : Entry)] : List Entry) [vSl astart2 start2 cstart2, iV (-1), iV 0] from ⟨[vSl astart2 start2 cstart2, iV (-1), iV 0], _, rfl, ⟨astart2, cstart2, rfl, ⟨_q2, _q1⟩⟩, rfl⟩), (FH.le_refl _)⟩ (fun _ => rfl) rfl sb rfl (FH.le_refl _) ?_
 rintro ⟨x2, l, m, p, dl, al2, cl2, csl, h199⟩ ⟨q5797, q4657, q4658⟩
 have hF := q5798 x2 l m q5797
 show J _ _ ⟨92, none, dl⟩ _ _ [(2, .func (.func 39) #[] #[.pointer (some px)]), (3, .func (.func 41) #[] #[]), (5, .pointer (some pkey)), (8, .pointer (some pv)), (9, .pointer (some pv2)), (10, .pointer (some pv3)), (11, .pointer (some pqueue)), (12, .pointer (some pseen)), (13, .pointer (some p))] [Box pkey [.func (.func 17) #[] #[]], Box pv [.slice none 0 0], Box pv2 [.bool false], Box pv3 [.bool false], Box pqueue [vSl al2 l cl2], Box pseen [.map (some bv)], Box p [iV x2], MkA dl, OwnSl 84 3 al2 l.length cl2 csl, OwnMap bv m] h199
 refine .seq (.seq (.region (.V (ld1 rfl tO3 (cellB (off := 0) (k := 6) rfl rfl)) ?_)))
 refine .V (ld1 rfl tO85 (cellB (off := 0) (k := 4) rfl rfl)) ?_
 refine .V (ln rfl tS85.is) ?_
 refine .V bi0 ?_
 refine .nil (.seqN ?_)
 refine .cond rfl (fun q5800 => ?_) (fun q5800 => ?_)
 ·replace hF := hF.1 q5800
  refine .skip (.seqN (.seq (.block (.seq (.seq (.region (.V mv0 ?_)))))))
  refine .V (ld1 rfl tO85 (cellB (off := 0) (k := 4) rfl rfl)) ?_
  refine .V (ld1 rfl tO3 (cellB (off := 0) (k := 6) rfl rfl)) ?_
  obtain ⟨q6557, hF⟩ := hF
  refine .V (ixS rfl rfl tS85 (k := 8) rfl q6557) ?_
  refine .V (fa rfl tF84_0) ?_
  obtain ⟨_, ⟨a2, c, rfl, q6558, q6559⟩, q6560⟩ := RepL.get q4657 (gt_get q6557)
  refine .V (ld1 (v := .slice a2 ((gt l x2).node.length) c) rfl tO35 (cellF (k := 8) rfl (q6560 0 _ rfl))) ?_
  obtain ⟨r3, q6561⟩ : ∃ y_ : Bool, y_ = sp_small1 ((gt l x2).node) := ⟨_, rfl⟩
  replace hF := hF r3 q6561
  refine .C (cl (v := .bool r3) Tryz.call41 rfl rfl (fun w S => (by rw [q6561]; exact c_small1 S.sub ((gt l x2).node) a2 c q6559 q6558 ))) ?_
  refine .nil (.seqN ?_)
  refine .cond rfl (fun q6654 => ?_) (fun q6654 => ?_)
  ·replace hF := hF.1 q6654
   refine .seq (.region (.V ag0 ?_))
   refine .nil (.seqN (.seq (.seq (.region (.V (ld1 rfl tO3 (cellB (off := 0) (k := 6) rfl rfl)) ?_)))))
   refine .V ag0 ?_
   refine .nil (.seqN (.block ?_))
   refine .nilSl 3 1 ?_
   refine .KA [oL 3 1 none ([] : List Int) 0, Box pkey [.func (.func 17) #[] #[]], Box pv [.slice none 0 0], Box pv2 [.bool false], Box pv3 [.bool false], Box pqueue [vSl al2 l cl2], Box pseen [.map (some bv)], Box p [iV x2], MkA dl, OwnSl 84 3 al2 l.length cl2 csl, OwnMap bv m] ?_
   refine .sel0 [2, 3, 4, 5, 0, 8, 9] (by decide) rfl ?_
   obtain ⟨I2, μ2, q6724, q6725⟩ := hF
   refine .loop' (σ := Int × List Int × Option Addr × Nat) (fun z => I2 z.1 z.2.1) (fun z => μ2 z.1 z.2.1) (fun z => [(8, .pointer (some pv)), (9, .pointer (some pv2)), (10, .pointer (some pv3)), (11, .pointer (some pqueue)), (14, vSl z.2.2.1 z.2.1 z.2.2.2), (15, iV z.1)]) (fun z => [Box pv [.slice none 0 0], Box pv2 [.bool false], Box pv3 [.bool false], Box pqueue [vSl al2 l cl2], oL 3 1 z.2.2.1 z.2.1 z.2.2.2, MkA dl, OwnSl 84 3 al2 l.length cl2 csl]) (fun _ => h199) (x2, ([] : List Int), none, 0) q6724 sb rfl (FH.le_refl _) ?_
   rintro ⟨i, out, aout, cout⟩ q6724
   have hF := q6725 i out q6724
   show J _ _ _ _ _ [(8, .pointer (some pv)), (9, .pointer (some pv2)), (10, .pointer (some pv3)), (11, .pointer (some pqueue)), (14, vSl aout out cout), (15, iV i)] [Box pv [.slice none 0 0], Box pv2 [.bool false], Box pv3 [.bool false], Box pqueue [vSl al2 l cl2], oL 3 1 aout out cout, MkA dl, OwnSl 84 3 al2 l.length cl2 csl] h199
   refine .seq (.seq (.region (.V (ld1 rfl tO85 (cellB (off := 0) (k := 3) rfl rfl)) ?_)))
   refine .V mv0 ?_
   obtain ⟨q6726, hF⟩ := hF
   refine .V (ixS rfl rfl tS85 (k := 6) rfl q6726) ?_
   refine .V (fa rfl tF84_1) ?_
   obtain ⟨_, ⟨a3, c2, rfl, q6727, q6728⟩, q6729⟩ := RepL.get q4657 (gt_get q6726)
   refine .V (ld1 (v := iV ((gt l i).from_)) rfl tO3 (cellF (k := 6) rfl (q6729 1 _ rfl))) ?_
   refine .V bi0 ?_
   refine .nil (.seqN ?_)
   refine .cond rfl (fun q6731 => ?_) (fun q6731 => ?_)
   ·replace hF := hF.1 q6731
    refine .skip (.seqN (.seq (.block (.region (.V mv0 ?_)))))
    refine .V (ld1 rfl tO85 (cellB (off := 0) (k := 3) rfl rfl)) ?_
    refine .V mv0 ?_
    refine .V (ixS rfl rfl tS85 (k := 6) rfl q6726) ?_
    refine .V (fa rfl tF84_2) ?_
    refine .V (ld1 (v := iV ((gt l i).step)) rfl tO3 (cellF (k := 6) rfl (q6729 2 _ rfl))) ?_
    refine bs2 (cs := #[iV ((gt l i).step)]) (pv := [(0, iV ((gt l i).step))]) tS22 rfl rfl (by decide) (by decide) rfl rfl rfl (fun a4 _ => ?_)
    refine .KA [oL 3 1 a4 ([(gt l i).step] : List Int) 1, Box pv [.slice none 0 0], Box pv2 [.bool false], Box pv3 [.bool false], Box pqueue [vSl al2 l cl2], oL 3 1 aout out cout, MkA dl, OwnSl 84 3 al2 l.length cl2 csl] ?_
    obtain ⟨q6739, hF⟩ := hF
    have q6740 : out.length + ([(gt l i).step] : List Int).length = ((out ++ ([(gt l i).step] : List Int))).length := len_app rfl rfl
    refine app (k := 5) (news := flL ([(gt l i).step] : List Int)) (cs' := flL (out ++ ([(gt l i).step] : List Int))) (nm := ((out ++ ([(gt l i).step] : List Int))).length) tS22 rfl (by decide) rfl rfl rfl ((flL_len _).trans rfl) (srcS (k := 0) rfl) (flL_one _) (room_of q6740 q6739).1 (room_of q6740 q6739).2 q6740 (flL_append _ _).symm rfl (fun a5 c3 => ?_)
    refine .KA [oL 3 1 a4 ([(gt l i).step] : List Int) 1, Box pv [.slice none 0 0], Box pv2 [.bool false], Box pv3 [.bool false], Box pqueue [vSl al2 l cl2], oL 3 1 a5 (out ++ ([(gt l i).step] : List Int)) c3, MkA dl, OwnSl 84 3 al2 l.length cl2 csl] ?_
    refine .V ag0 ?_
    refine .nil (.blkN (.seqN (.region (.V (ld1 rfl tO85 (cellB (off := 0) (k := 4) rfl rfl)) ?_))))
    refine .V mv0 ?_
    refine .V (ixS rfl rfl tS85 (k := 7) rfl q6726) ?_
    refine .V (fa rfl tF84_1) ?_
    refine .V (ld1 (v := iV ((gt l i).from_)) rfl tO3 (cellF (k := 7) rfl (q6729 1 _ rfl))) ?_
    refine .V ag0 ?_
    refine .nil ?_
    refine .sel0 [1, 2, 3, 4, 5, 6, 7] (by decide) rfl ?_
    exact .RO ((gt l i).from_, (out ++ ([(gt l i).step] : List Int)), a5, c3) hF.1 hF.2
   replace hF := hF.2 q6731
   refine .exit (.seqX (.seqX (.blkX (.seqN (.seq (.region (.V mv0 ?_)))))))
   obtain ⟨q6741, hF⟩ := hF
   obtain ⟨r4, q6742⟩ : ∃ y_ : List Int, y_ = sp_reverse out := ⟨_, rfl⟩
   replace hF := hF r4 q6742
   refine callX (k := 4) (v := .tuple #[]) (X' := OwnSl 3 1 aout out.length cout (flL r4)) rfl Tryz.call44 rfl rfl (fun w g hx sg hd hs' => ?_) rfl ?_
   ·rw [q6742]; exact c_reverse hs' out aout cout hx sg hd q6741
   have q6743 : r4.length = out.length := by rw [q6742]; exact (sp_reverse_len out).trans rfl
   refine .KA [Box pv [.slice none 0 0], Box pv2 [.bool false], Box pv3 [.bool false], Box pqueue [vSl al2 l cl2], OwnSl 3 1 aout out.length cout (flL r4), MkA dl, OwnSl 84 3 al2 l.length cl2 csl] ?_
   refine .nil (.seqN (.seq (.region (.V mv0 ?_))))
   refine st (p := pv) (off := 0) (k := 0) (vs := [vSl aout out cout]) rfl rfl rfl (fun w => (tO22 w).2) rfl rfl rfl rfl ?_
   refine .KA [Box pv [vSl aout out cout], Box pv2 [.bool false], Box pv3 [.bool false], Box pqueue [vSl al2 l cl2], OwnSl 3 1 aout out.length cout (flL r4), MkA dl, OwnSl 84 3 al2 l.length cl2 csl] ?_
   refine st (p := pv2) (off := 0) (k := 1) (vs := [.bool true]) rfl rfl rfl (fun w => (tO4 w).2) rfl rfl rfl rfl ?_
   refine .KA [Box pv [vSl aout out cout], Box pv2 [.bool true], Box pv3 [.bool false], Box pqueue [vSl al2 l cl2], OwnSl 3 1 aout out.length cout (flL r4), MkA dl, OwnSl 84 3 al2 l.length cl2 csl] ?_
   refine st (p := pv3) (off := 0) (k := 2) (vs := [.bool true]) rfl rfl rfl (fun w => (tO4 w).2) rfl rfl rfl rfl ?_
   refine .KA [Box pv [vSl aout out cout], Box pv2 [.bool true], Box pv3 [.bool true], Box pqueue [vSl al2 l cl2], OwnSl 3 1 aout out.length cout (flL r4), MkA dl, OwnSl 84 3 al2 l.length cl2 csl] ?_
   refine .nil (.seqN ?_)
   refine .freezeL (k := 4) rfl (fun h282 le282 q6745 q6744 => ?_)
   refine .KA [Box pv [vSl aout out cout], Box pv2 [.bool true], Box pv3 [.bool true], Box pqueue [vSl al2 l cl2], tru, MkA dl, OwnSl 84 3 al2 l.length cl2 csl] ?_
   refine .ret (.seqR (.blkR (.seqR (.seqR (.blkR (.seqR ?_))))))
   refine .resM (k := 5) rfl ?_
   refine .res3 rfl (rvC1 rfl tO22 (k := 0) rfl) (rvC1 rfl tO4 (k := 1) rfl) (rvC1 rfl tO4 (k := 2) rfl) (fun w' S => ⟨(r4, true, true), (aout, cout), h282, hF, (by simp only [q6743] <;> rfl), (FH.le_trans (q4658) (le282)), ⟨(RSl.of q6744), (by rw [q6743]; exact q6745)⟩, S.none⟩)
  replace hF := hF.2 q6654
  refine .skip (.seqN (.seq (.region (.V mv0 ?_))))
  refine .V (ld1 rfl tO85 (cellB (off := 0) (k := 4) rfl rfl)) ?_
  refine .V (ld1 rfl tO3 (cellB (off := 0) (k := 6) rfl rfl)) ?_
  refine .V (ixS rfl rfl tS85 (k := 8) rfl q6557) ?_
  refine .V (fa rfl tF84_0) ?_
  refine .V (ld1 (v := .slice a2 ((gt l x2).node.length) c) rfl tO35 (cellF (k := 8) rfl (q6560 0 _ rfl))) ?_
  obtain ⟨r5, q6746⟩ : ∃ y_ : Unit, y_ = sp_bnext1 ((gt l x2).node) x := ⟨_, rfl⟩
  replace hF := hF r5 q6746
  refine clR (α := Addr × Addr) (Φ := fun h1 z => CellsAt h1 z.1 (tF x ax cx ax2 cx2 ax3 cx3) ∧ CellsAt h1 z.2 [.slice a2 ((gt l x2).node.length) c]) (V := fun z => .func (.func 66) #[] #[.pointer (some z.1), .pointer (some z.2)]) Tryz.call39 rfl rfl (fun w S => (by exact c_bnext1 S.sub ((gt l x2).node) a2 c q6559 q6558 x ax cx (_q3.mono (q4658)) _q4 ax2 cx2 (_q5.mono (q4658)) _q6 ax3 cx3 (_q7.mono (q4658)) _q8 px (CellsAt.mono (q4658) _q9) )) rfl (fun z h283 le283 hz => ?_)
  obtain ⟨p3, p4⟩ := z
  obtain ⟨q6747, q6748⟩ := hz
  refine .nil (.seqN (.block ?_))
  refine .sub (s' := [(2, .func (.func 39) #[] #[.pointer (some px)]), (3, .func (.func 41) #[] #[]), (5, .pointer (some pkey)), (8, .pointer (some pv)), (9, .pointer (some pv2)), (10, .pointer (some pv3)), (11, .pointer (some pqueue)), (12, .pointer (some pseen)), (13, .pointer (some p)), (69, .func (.func 66) #[] #[.pointer (some p3), .pointer (some p4)])]) sb ?_
  refine .rangeF (k := 7) (caps := [.pointer (some p3), .pointer (some p4)]) rfl rfl Tryz.func66 rfl Tryz.ntmps66 rfl Tryz.call66 (fun l3 D LA a6 q6749 q6750 => ?_)
  refine .KA [LA .ready none, Box pkey [.func (.func 17) #[] #[]], Box pv [.slice none 0 0], Box pv2 [.bool false], Box pv3 [.bool false], Box pqueue [vSl al2 l cl2], Box pseen [.map (some bv)], Box p [iV x2], MkA (D :: dl), OwnSl 84 3 al2 l.length cl2 csl, OwnMap bv m] ?_
  refine .seq (.region (.V (fa rfl tF25_3) ?_))
  refine .V (ld1 (v := vSl ax3 x.ops cx3) rfl tO23 (cellH (CellsAt.mono (FH.le_refl _) q6747 3 _ rfl))) ?_
  refine .V (ln rfl tS23.is) ?_
  refine .V mv0 ?_
  refine .nil (.seqN (.block ?_))
  obtain ⟨I3, μ3, q6875, q6876⟩ := hF
  refine .loop' (σ := Int × List Entry × (List UInt8 → Int) × Option Addr × Nat × List Value × FH) (fun z => I3 z.1 z.2.1 z.2.2.1 ∧ RepL z.2.2.2.2.2.2 z.2.1 z.2.2.2.2.2.1 ∧ FH.le h283 z.2.2.2.2.2.2) (fun z => μ3 z.1 z.2.1 z.2.2.1) (fun z => [(0, .func (.yield l3) #[] #[]), (1, .pointer (some p3)), (2, .pointer (some p4)), (7, vSl ax3 x.ops cx3), (8, iV ((x.ops.length : Nat) : Int)), (9, iV z.1)]) (fun z => [LA .ready none, Box pkey [.func (.func 17) #[] #[]], Box pv [.slice none 0 0], Box pv2 [.bool false], Box pv3 [.bool false], Box pqueue [vSl z.2.2.2.1 z.2.1 z.2.2.2.2.1], Box pseen [.map (some bv)], Box p [iV x2], MkA (D :: dl), OwnSl 84 3 z.2.2.2.1 z.2.1.length z.2.2.2.2.1 z.2.2.2.2.2.1, OwnMap bv z.2.2.1]) (fun z => z.2.2.2.2.2.2) (0, l, m, al2, cl2, csl, h283) ⟨q6875, (RepL.mono (le283) q4657), (FH.le_refl _)⟩ sb rfl (FH.le_refl _) ?_
  rintro ⟨t9, l4, m3, al4, cl4, csl3, h289⟩ ⟨q6875, q6813, q6814⟩
  have hF := q6876 t9 l4 m3 q6875
  show J _ _ _ _ _ [(0, .func (.yield l3) #[] #[]), (1, .pointer (some p3)), (2, .pointer (some p4)), (7, vSl ax3 x.ops cx3), (8, iV ((x.ops.length : Nat) : Int)), (9, iV t9)] [LA .ready none, Box pkey [.func (.func 17) #[] #[]], Box pv [.slice none 0 0], Box pv2 [.bool false], Box pv3 [.bool false], Box pqueue [vSl al4 l4 cl4], Box pseen [.map (some bv)], Box p [iV x2], MkA (D :: dl), OwnSl 84 3 al4 l4.length cl4 csl3, OwnMap bv m3] h289
  refine .seq (.region (.V bi0 ?_))
  refine .nil (.seqN (.seq ?_))
  refine .cond rfl (fun q6879 => ?_) (fun q6879 => ?_)
  ·replace hF := hF.1 q6879
   refine .skip (.seqN ?_)
   refine .share (σ := List Entry × (List UInt8 → Int) × Option Addr × Nat × List Value × FH) (fun z => F_breadthS_J1 t9 I3 μ3 l4 m3 z.1 z.2.1 ∧ RepL z.2.2.2.2.2 z.1 z.2.2.2.2.1 ∧ FH.le h289 z.2.2.2.2.2) (fun _ => [(0, .func (.yield l3) #[] #[]), (1, .pointer (some p3)), (2, .pointer (some p4)), (7, vSl ax3 x.ops cx3), (8, iV ((x.ops.length : Nat) : Int)), (9, iV t9)]) (fun z => [LA .ready none, Box pkey [.func (.func 17) #[] #[]], Box pv [.slice none 0 0], Box pv2 [.bool false], Box pv3 [.bool false], Box pqueue [vSl z.2.2.1 z.1 z.2.2.2.1], Box pseen [.map (some bv)], Box p [iV x2], MkA (D :: dl), OwnSl 84 3 z.2.2.1 z.1.length z.2.2.2.1 z.2.2.2.2.1, OwnMap bv z.2.1]) (fun z => z.2.2.2.2.2) ?_ (fun q6908 => ?_)
   ·rintro ⟨l6, m5, al6, cl6, csl5, h295⟩ ⟨hF, q6906, q6907⟩
    show J _ _ _ _ _ [(0, .func (.yield l3) #[] #[]), (1, .pointer (some p3)), (2, .pointer (some p4)), (7, vSl ax3 x.ops cx3), (8, iV ((x.ops.length : Nat) : Int)), (9, iV t9)] [LA .ready none, Box pkey [.func (.func 17) #[] #[]], Box pv [.slice none 0 0], Box pv2 [.bool false], Box pv3 [.bool false], Box pqueue [vSl al6 l6 cl6], Box pseen [.map (some bv)], Box p [iV x2], MkA (D :: dl), OwnSl 84 3 al6 l6.length cl6 csl5, OwnMap bv m5] h295
    refine .region (.V bi0 ?_)
    refine .V mv0 ?_
    refine .nil ?_
    exact .RO (wr (t9 + 1), l6, m5, al6, cl6, csl5, h295) ⟨hF.1, q6906, (FH.le_trans (q6814) (q6907))⟩ hF.2
   refine .block (.seq (.region (.V mv0 ?_)))
   obtain ⟨q6909, hF⟩ := hF
   refine .V (ix rfl rfl tS23 (_q7.ne (by decide) (inb_pos q6909)) q6909) ?_
   obtain ⟨_, ⟨a7, c4, a8, c5, a9, c6, rfl, ⟨q6910, q6911⟩, ⟨q6912, q6913⟩, q6914, q6915⟩, q6916⟩ := _q7.elem q6909
   refine .V (ldA (cs := [.slice a7 ((gt x.ops t9).pre.length) c4, .slice a8 ((gt x.ops t9).add.length) c5, .slice a9 ((gt x.ops t9).del.length) c6, iV ((gt x.ops t9).cost)]) rfl tA114 rfl (cellsH ((fun q => (q6916 q).mono (FH.le_trans (FH.le_trans (q4658) (le283)) (q6814))) (by decide)))) ?_
   refine al tZ114 rfl (fun pkey2 => ?_)
   refine .V ag0 ?_
   refine st (p := pkey2) (off := 0) (k := 0) (vs := [.slice a7 ((gt x.ops t9).pre.length) c4, .slice a8 ((gt x.ops t9).add.length) c5, .slice a9 ((gt x.ops t9).del.length) c6, iV ((gt x.ops t9).cost)]) rfl rfl rfl (fun w => (tA114 w).2) rfl rfl rfl rfl ?_
   refine .KA [Box pkey2 [.slice a7 ((gt x.ops t9).pre.length) c4, .slice a8 ((gt x.ops t9).add.length) c5, .slice a9 ((gt x.ops t9).del.length) c6, iV ((gt x.ops t9).cost)], LA .ready none, Box pkey [.func (.func 17) #[] #[]], Box pv [.slice none 0 0], Box pv2 [.bool false], Box pv3 [.bool false], Box pqueue [vSl al4 l4 cl4], Box pseen [.map (some bv)], Box p [iV x2], MkA (D :: dl), OwnSl 84 3 al4 l4.length cl4 csl3, OwnMap bv m3] ?_
   refine .nil (.seqN (.seq (.region (.V (ld1 (v := .slice a2 ((gt l x2).node.length) c) rfl tO35 (cellH (CellsAt.mono (q6814) q6748 0 _ rfl))) ?_))))
   refine .V (fa rfl tF114_0) ?_
   refine .V (ld1 rfl tO22 (cellB (off := 0) (k := 0) rfl rfl)) ?_
   obtain ⟨q6917, hF⟩ := hF
   obtain ⟨r6, q6918⟩ : ∃ y_ : Bool, y_ = sp_sure ((gt l x2).node) ((gt x.ops t9).pre) := ⟨_, rfl⟩
   replace hF := hF r6 q6918
   refine .C (cl (v := .bool r6) Tryz.call20 rfl rfl (fun w S => (by rw [q6918]; exact c_sure S.sub ((gt l x2).node) a2 c (q6559.mono (FH.le_trans (le283) (q6814))) q6558 ((gt x.ops t9).pre) a7 c4 (q6911.mono (FH.le_trans (FH.le_trans (q4658) (le283)) (q6814))) q6910 q6917))) ?_
   refine .V mv0 ?_
   rcases Bool.eq_false_or_eq_true (r6) with q6919 | q6919
   ·replace hF := hF.1 q6919
    refine .GV mv0 q6919 ?_
    refine .GV mv0 q6919 ?_
    refine .GV (ldA (cs := (tF x ax cx ax2 cx2 ax3 cx3)) rfl tA25 rfl (cellsH (q6747.mono (q6814)))) q6919 ?_
    refine .GV (ld1 (v := .slice a2 ((gt l x2).node.length) c) rfl tO35 (cellH (CellsAt.mono (q6814) q6748 0 _ rfl))) q6919 ?_
    refine .GV mv0 q6919 ?_
    obtain ⟨q6920, hF⟩ := hF
    obtain ⟨r7, q6921⟩ : ∃ y_ : List (List Int), y_ = sp_bafter x ((gt l x2).node) t9 := ⟨_, rfl⟩
    replace hF := hF r7 q6921
    refine .gR rfl rfl rfl q6919 ?_
    refine clR (α := Option Addr × Nat) (Φ := fun h1 z => RSl h1 z.1 r7 ∧ r7.length ≤ z.2) (V := fun z => vSl z.1 r7 z.2) Tryz.call67 rfl rfl (fun w S => (by rw [q6921]; exact c_bafter S.sub x ax cx (_q3.mono (FH.le_trans (FH.le_trans (q4658) (le283)) (q6814))) _q4 ax2 cx2 (_q5.mono (FH.le_trans (FH.le_trans (q4658) (le283)) (q6814))) _q6 ax3 cx3 (_q7.mono (FH.le_trans (FH.le_trans (q4658) (le283)) (q6814))) _q8 ((gt l x2).node) a2 c (q6559.mono (FH.le_trans (le283) (q6814))) q6558 t9 q6920)) rfl (fun z h296 le296 hz => ?_)
    obtain ⟨a10, c7⟩ := z
    obtain ⟨q6922, q6923⟩ := hz
    refine .gR rfl rfl rfl q6919 ?_
    refine .yld (k := 1) (vs := [iV t9, vSl a10 r7 c7]) q6749 rfl rfl rfl rfl rfl (fun aG q6924 => ?_)
    refine .sub (s' := [(5, .pointer (some pkey)), (8, .pointer (some pv)), (9, .pointer (some pv2)), (10, .pointer (some pv3)), (11, .pointer (some pqueue)), (12, .pointer (some pseen)), (13, .pointer (some p)), (70, iV t9), (71, vSl a10 r7 c7)]) sb ?_
    refine .seq (.region (.V ag0 ?_))
    refine .nil (.seqN (.region (.V ag0 ?_)))
    refine .nil ?_
    refine .begin_ (k := 1) q6749 rfl ?_
    refine .KA [Box pkey2 [.slice a7 ((gt x.ops t9).pre.length) c4, .slice a8 ((gt x.ops t9).add.length) c5, .slice a9 ((gt x.ops t9).del.length) c6, iV ((gt x.ops t9).cost)], LA .busy none, Box pkey [.func (.func 17) #[] #[]], Box pv [.slice none 0 0], Box pv2 [.bool false], Box pv3 [.bool false], Box pqueue [vSl al4 l4 cl4], Box pseen [.map (some bv)], Box p [iV x2], MkA (D :: dl), OwnSl 84 3 al4 l4.length cl4 csl3, OwnMap bv m3] ?_
    refine .block (.seq (.region (.V (ld1 rfl tO48 (cellB (off := 0) (k := 2) rfl rfl)) ?_)))
    refine .V mv0 ?_
    obtain ⟨q6925, hF⟩ := hF
    obtain ⟨r8, q6926⟩ : ∃ y_ : List UInt8, y_ = sp_key r7 := ⟨_, rfl⟩
    replace hF := hF r8 q6926
    refine .C (cl (v := strV r8) Tryz.call17 rfl rfl (fun w S => (by rw [q6926]; exact c_key S.sub (ht.mono (FH.le_trans (FH.le_trans (FH.le_trans (q4658) (le283)) (q6814)) (le296))) r7 a10 c7 q6922 q6923 q6925))) ?_
    refine .V ag0 ?_
    refine .nil (.seqN (.seq (.seq (.region (.V (ld1 rfl tO86 (cellB (off := 0) (k := 7) rfl rfl)) ?_)))))
    refine .V mv0 ?_
    refine .V (lk tM86 rfl rfl (kk := 11) rfl) ?_
    refine .V bi0 ?_
    refine .nil (.seqN ?_)
    refine .cond rfl (fun q6928 => ?_) (fun q6928 => ?_)
    ·replace hF := hF.1 q6928
     refine .exit (.seqX (.blkX ?_))
     refine .rdN (k := 1) q6749 rfl q6924 rfl ?_
     refine .KA [Box pkey2 [.slice a7 ((gt x.ops t9).pre.length) c4, .slice a8 ((gt x.ops t9).add.length) c5, .slice a9 ((gt x.ops t9).del.length) c6, iV ((gt x.ops t9).cost)], LA .ready none, Box pkey [.func (.func 17) #[] #[]], Box pv [.slice none 0 0], Box pv2 [.bool false], Box pv3 [.bool false], Box pqueue [vSl al4 l4 cl4], Box pseen [.map (some bv)], Box p [iV x2], MkA (D :: dl), OwnSl 84 3 al4 l4.length cl4 csl3, OwnMap bv m3] ?_
     refine .GV (nt rfl) q6919 ?_
     refine .V (pkT rfl q6919 rfl) ?_
     refine .nil (.seqN ?_)
     refine .cond rfl (fun e => absurd (e.symm.trans rfl) (by decide)) (fun _ => ?_)
     refine .skip (.blkN ?_)
     refine .sel0 [1, 2, 3, 4, 5, 6, 7, 8, 9, 10, 11] (by decide) rfl ?_
     exact .US q6908 (l4, m3, al4, cl4, csl3, h296) ⟨hF, (RepL.mono (le296) q6813), (le296)⟩
    replace hF := hF.2 q6928
    refine .skip (.seqN (.seq (.seq (.region (.V (ld1 rfl tO85 (cellB (off := 0) (k := 6) rfl rfl)) ?_)))))
    refine .V (ln rfl tS85.is) ?_
    refine .V bi0 ?_
    refine .nil (.seqN ?_)
    refine .cond rfl (fun q6930 => ?_) (fun q6930 => ?_)
    ·replace hF := hF.1 q6930
     refine .seq (.region ?_)
     refine st (p := pv) (off := 0) (k := 3) (vs := [.slice none 0 0]) rfl rfl rfl (fun w => (tO22 w).2) rfl rfl rfl rfl ?_
     refine .KA [Box pkey2 [.slice a7 ((gt x.ops t9).pre.length) c4, .slice a8 ((gt x.ops t9).add.length) c5, .slice a9 ((gt x.ops t9).del.length) c6, iV ((gt x.ops t9).cost)], LA .busy none, Box pkey [.func (.func 17) #[] #[]], Box pv [.slice none 0 0], Box pv2 [.bool false], Box pv3 [.bool false], Box pqueue [vSl al4 l4 cl4], Box pseen [.map (some bv)], Box p [iV x2], MkA (D :: dl), OwnSl 84 3 al4 l4.length cl4 csl3, OwnMap bv m3] ?_
     refine st (p := pv2) (off := 0) (k := 4) (vs := [.bool false]) rfl rfl rfl (fun w => (tO4 w).2) rfl rfl rfl rfl ?_
     refine .KA [Box pkey2 [.slice a7 ((gt x.ops t9).pre.length) c4, .slice a8 ((gt x.ops t9).add.length) c5, .slice a9 ((gt x.ops t9).del.length) c6, iV ((gt x.ops t9).cost)], LA .busy none, Box pkey [.func (.func 17) #[] #[]], Box pv [.slice none 0 0], Box pv2 [.bool false], Box pv3 [.bool false], Box pqueue [vSl al4 l4 cl4], Box pseen [.map (some bv)], Box p [iV x2], MkA (D :: dl), OwnSl 84 3 al4 l4.length cl4 csl3, OwnMap bv m3] ?_
     refine st (p := pv3) (off := 0) (k := 5) (vs := [.bool false]) rfl rfl rfl (fun w => (tO4 w).2) rfl rfl rfl rfl ?_
     refine .KA [Box pkey2 [.slice a7 ((gt x.ops t9).pre.length) c4, .slice a8 ((gt x.ops t9).add.length) c5, .slice a9 ((gt x.ops t9).del.length) c6, iV ((gt x.ops t9).cost)], LA .busy none, Box pkey [.func (.func 17) #[] #[]], Box pv [.slice none 0 0], Box pv2 [.bool false], Box pv3 [.bool false], Box pqueue [vSl al4 l4 cl4], Box pseen [.map (some bv)], Box p [iV x2], MkA (D :: dl), OwnSl 84 3 al4 l4.length cl4 csl3, OwnMap bv m3] ?_
     refine .nil (.seqN (.ret (.seqR (.blkR ?_))))
     refine .rdR (k := 1) q6749 rfl q6924 rfl ?_
     refine .KA [Box pkey2 [.slice a7 ((gt x.ops t9).pre.length) c4, .slice a8 ((gt x.ops t9).add.length) c5, .slice a9 ((gt x.ops t9).del.length) c6, iV ((gt x.ops t9).cost)], LA .done (some .ret), Box pkey [.func (.func 17) #[] #[]], Box pv [.slice none 0 0], Box pv2 [.bool false], Box pv3 [.bool false], Box pqueue [vSl al4 l4 cl4], Box pseen [.map (some bv)], Box p [iV x2], MkA (D :: dl), OwnSl 84 3 al4 l4.length cl4 csl3, OwnMap bv m3] ?_
     refine .GV (nt rfl) q6919 ?_
     refine .V (pkT rfl q6919 rfl) ?_
     refine .nil (.seqN ?_)
     refine .cond rfl (fun _ => ?_) (fun e => absurd (e.symm.trans rfl) (by decide))
     refine .ret (.blkR (.seqR (.seqR (.blkR ?_))))
     refine .res0 (.inl rfl) rfl (range_jump (k := 1) q6749 rfl q6750 ?_)
     refine .KA [Box pkey2 [.slice a7 ((gt x.ops t9).pre.length) c4, .slice a8 ((gt x.ops t9).add.length) c5, .slice a9 ((gt x.ops t9).del.length) c6, iV ((gt x.ops t9).cost)], tru, Box pkey [.func (.func 17) #[] #[]], Box pv [.slice none 0 0], Box pv2 [.bool false], Box pv3 [.bool false], Box pqueue [vSl al4 l4 cl4], Box pseen [.map (some bv)], Box p [iV x2], MkA (D :: dl), OwnSl 84 3 al4 l4.length cl4 csl3, OwnMap bv m3] ?_
     refine .ret (.blkR (.blkR (.seqR (.seqR (.blkR (.seqR ?_))))))
     refine .resM (k := 9) rfl ?_
     refine .res3 rfl (rvC1 rfl tO22 (k := 3) rfl) (rvC1 rfl tO4 (k := 4) rfl) (rvC1 rfl tO4 (k := 5) rfl) (fun w' S => ⟨(([] : List Int), false, false), (none, 0), h296, hF, rfl, (FH.le_trans (FH.le_trans (FH.le_trans (q4658) (le283)) (q6814)) (le296)), ⟨RSl.nil_, (Nat.le_refl 0)⟩, S.none⟩)
    replace hF := hF.2 q6930
    refine .skip (.seqN (.seq (.region (.V (ld1 rfl tO86 (cellB (off := 0) (k := 7) rfl rfl)) ?_))))
    refine .V mv0 ?_
    refine mu tM86 rfl rfl rfl (kk := 11) rfl ?_
    refine .KA [Box pkey2 [.slice a7 ((gt x.ops t9).pre.length) c4, .slice a8 ((gt x.ops t9).add.length) c5, .slice a9 ((gt x.ops t9).del.length) c6, iV ((gt x.ops t9).cost)], LA .busy none, Box pkey [.func (.func 17) #[] #[]], Box pv [.slice none 0 0], Box pv2 [.bool false], Box pv3 [.bool false], Box pqueue [vSl al4 l4 cl4], Box pseen [.map (some bv)], Box p [iV x2], MkA (D :: dl), OwnSl 84 3 al4 l4.length cl4 csl3, OwnMap bv (upd m3 r8 1)] ?_
    refine .nil (.seqN (.region (.V (ld1 rfl tO85 (cellB (off := 0) (k := 6) rfl rfl)) ?_)))
    refine .V mv0 ?_
    refine .V (ld1 rfl tO3 (cellB (off := 0) (k := 8) rfl rfl)) ?_
    refine .V mv0 ?_
    refine .V (bld (cs := #[vSl a10 r7 c7, iV x2, iV t9]) (pv := [(0, vSl a10 r7 c7), (1, iV x2), (2, iV t9)]) tB84 rfl rfl) ?_
    refine bs2 (cs := #[vSl a10 r7 c7, iV x2, iV t9]) (pv := [(0, .agg #[vSl a10 r7 c7, iV x2, iV t9])]) tS85 rfl rfl (by decide) (by decide) rfl rfl rfl (fun a11 _ => ?_)
    refine .KA [OwnSl 84 3 a11 (([(⟨r7, x2, t9⟩ : Entry)] : List Entry).length) 1 [vSl a10 r7 c7, iV x2, iV t9], Box pkey2 [.slice a7 ((gt x.ops t9).pre.length) c4, .slice a8 ((gt x.ops t9).add.length) c5, .slice a9 ((gt x.ops t9).del.length) c6, iV ((gt x.ops t9).cost)], LA .busy none, Box pkey [.func (.func 17) #[] #[]], Box pv [.slice none 0 0], Box pv2 [.bool false], Box pv3 [.bool false], Box pqueue [vSl al4 l4 cl4], Box pseen [.map (some bv)], Box p [iV x2], MkA (D :: dl), OwnSl 84 3 al4 l4.length cl4 csl3, OwnMap bv (upd m3 r8 1)] ?_
    obtain ⟨q6932, hF⟩ := hF
    have q6933 : l4.length + ([(⟨r7, x2, t9⟩ : Entry)] : List Entry).length = ((l4 ++ ([(⟨r7, x2, t9⟩ : Entry)] : List Entry))).length := len_app rfl rfl
    have q6934 := RepL.append (RepL.mono (le296) q6813) (show RepL h296 ([(⟨r7, x2, t9⟩ : Entry)] : List Entry) [.slice a10 r7.length c7, iV x2, iV t9] from ⟨[.slice a10 r7.length c7, iV x2, iV t9], _, rfl, ⟨a10, c7, rfl, ⟨q6923, q6922⟩⟩, rfl⟩)
    refine app (k := 11) (news := [vSl a10 r7 c7, iV x2, iV t9]) (cs' := (csl3 ++ [vSl a10 r7 c7, iV x2, iV t9])) (nm := ((l4 ++ ([(⟨r7, x2, t9⟩ : Entry)] : List Entry))).length) tS85 rfl (by decide) rfl rfl rfl (RepL.len (show RepL h296 ([(⟨r7, x2, t9⟩ : Entry)] : List Entry) [vSl a10 r7 c7, iV x2, iV t9] from ⟨[vSl a10 r7 c7, iV x2, iV t9], _, rfl, ⟨a10, c7, rfl, ⟨q6923, q6922⟩⟩, rfl⟩)) (srcS (k := 0) rfl) (RepL.one (show RepL h296 ([(⟨r7, x2, t9⟩ : Entry)] : List Entry) [vSl a10 r7 c7, iV x2, iV t9] from ⟨[vSl a10 r7 c7, iV x2, iV t9], _, rfl, ⟨a10, c7, rfl, ⟨q6923, q6922⟩⟩, rfl⟩)) (room_of q6933 q6932).1 (room_of q6933 q6932).2 q6933 rfl rfl (fun a12 c8 => ?_)
    refine .KA [OwnSl 84 3 a11 (([(⟨r7, x2, t9⟩ : Entry)] : List Entry).length) 1 [vSl a10 r7 c7, iV x2, iV t9], Box pkey2 [.slice a7 ((gt x.ops t9).pre.length) c4, .slice a8 ((gt x.ops t9).add.length) c5, .slice a9 ((gt x.ops t9).del.length) c6, iV ((gt x.ops t9).cost)], LA .busy none, Box pkey [.func (.func 17) #[] #[]], Box pv [.slice none 0 0], Box pv2 [.bool false], Box pv3 [.bool false], Box pqueue [vSl al4 l4 cl4], Box pseen [.map (some bv)], Box p [iV x2], MkA (D :: dl), OwnSl 84 3 a12 ((l4 ++ ([(⟨r7, x2, t9⟩ : Entry)] : List Entry)).length) c8 (csl3 ++ [vSl a10 r7 c7, iV x2, iV t9]), OwnMap bv (upd m3 r8 1)] ?_
    refine st (p := pqueue) (off := 0) (k := 7) (vs := [.slice a12 ((l4 ++ ([(⟨r7, x2, t9⟩ : Entry)] : List Entry)).length) c8]) rfl rfl rfl (fun w => (tO85 w).2) rfl rfl rfl rfl ?_
    refine .KA [OwnSl 84 3 a11 (([(⟨r7, x2, t9⟩ : Entry)] : List Entry).length) 1 [vSl a10 r7 c7, iV x2, iV t9], Box pkey2 [.slice a7 ((gt x.ops t9).pre.length) c4, .slice a8 ((gt x.ops t9).add.length) c5, .slice a9 ((gt x.ops t9).del.length) c6, iV ((gt x.ops t9).cost)], LA .busy none, Box pkey [.func (.func 17) #[] #[]], Box pv [.slice none 0 0], Box pv2 [.bool false], Box pv3 [.bool false], Box pqueue [.slice a12 ((l4 ++ ([(⟨r7, x2, t9⟩ : Entry)] : List Entry)).length) c8], Box pseen [.map (some bv)], Box p [iV x2], MkA (D :: dl), OwnSl 84 3 a12 ((l4 ++ ([(⟨r7, x2, t9⟩ : Entry)] : List Entry)).length) c8 (csl3 ++ [vSl a10 r7 c7, iV x2, iV t9]), OwnMap bv (upd m3 r8 1)] ?_
    refine .nil (.blkN ?_)
    refine .rdN (k := 2) q6749 rfl q6924 rfl ?_
    refine .KA [OwnSl 84 3 a11 (([(⟨r7, x2, t9⟩ : Entry)] : List Entry).length) 1 [vSl a10 r7 c7, iV x2, iV t9], Box pkey2 [.slice a7 ((gt x.ops t9).pre.length) c4, .slice a8 ((gt x.ops t9).add.length) c5, .slice a9 ((gt x.ops t9).del.length) c6, iV ((gt x.ops t9).cost)], LA .ready none, Box pkey [.func (.func 17) #[] #[]], Box pv [.slice none 0 0], Box pv2 [.bool false], Box pv3 [.bool false], Box pqueue [.slice a12 ((l4 ++ ([(⟨r7, x2, t9⟩ : Entry)] : List Entry)).length) c8], Box pseen [.map (some bv)], Box p [iV x2], MkA (D :: dl), OwnSl 84 3 a12 ((l4 ++ ([(⟨r7, x2, t9⟩ : Entry)] : List Entry)).length) c8 (csl3 ++ [vSl a10 r7 c7, iV x2, iV t9]), OwnMap bv (upd m3 r8 1)] ?_
    refine .GV (nt rfl) q6919 ?_
    refine .V (pkT rfl q6919 rfl) ?_
    refine .nil (.seqN ?_)
    refine .cond rfl (fun e => absurd (e.symm.trans rfl) (by decide)) (fun _ => ?_)
    refine .skip (.blkN ?_)
    refine .sel0 [2, 3, 4, 5, 6, 7, 8, 9, 10, 11, 12] (by decide) rfl ?_
    exact .US q6908 ((l4 ++ ([(⟨r7, x2, t9⟩ : Entry)] : List Entry)), (upd m3 r8 1), a12, c8, (csl3 ++ [vSl a10 r7 c7, iV x2, iV t9]), h296) ⟨hF, q6934, (le296)⟩
   replace hF := hF.2 q6919
   refine .GS q6919 ?_
   refine .GS q6919 ?_
   refine .GS q6919 ?_
   refine .GS q6919 ?_
   refine .GS q6919 ?_
   refine .GS q6919 ?_
   refine .GS q6919 ?_
   refine .GS q6919 ?_
   refine .V (pkF rfl q6919 rfl) ?_
   refine .nil (.seqN ?_)
   refine .cond rfl (fun e => absurd (e.symm.trans rfl) (by decide)) (fun _ => ?_)
   refine .skip (.blkN ?_)
   refine .sel0 [1, 2, 3, 4, 5, 6, 7, 8, 9, 10, 11] (by decide) rfl ?_
   exact .US q6908 (l4, m3, al4, cl4, csl3, h289) ⟨hF, q6813, (FH.le_refl _)⟩
  replace hF := hF.2 q6879
  refine .exit (.seqX (.seqX (.blkX ?_)))
  refine .res0 (.inr rfl) rfl (range_done (k := 0) q6749 rfl q6750 ?_)
  refine .KA [tru, Box pkey [.func (.func 17) #[] #[]], Box pv [.slice none 0 0], Box pv2 [.bool false], Box pv3 [.bool false], Box pqueue [vSl al4 l4 cl4], Box pseen [.map (some bv)], Box p [iV x2], MkA (D :: dl), OwnSl 84 3 al4 l4.length cl4 csl3, OwnMap bv m3] ?_
  refine .blkN (.blkN (.seqN (.seq (.seq (.region (.V (ld1 rfl tO3 (cellB (off := 0) (k := 7) rfl rfl)) ?_))))))
  refine .nil (.seqN (.region ?_))
  refine al tZ3 rfl (fun pat2 => ?_)
  refine st (p := pat2) (off := 0) (k := 0) (vs := [iV x2]) rfl rfl rfl (fun w => (tO3 w).2) rfl rfl rfl rfl ?_
  refine .KA [Box pat2 [iV x2], tru, Box pkey [.func (.func 17) #[] #[]], Box pv [.slice none 0 0], Box pv2 [.bool false], Box pv3 [.bool false], Box pqueue [vSl al4 l4 cl4], Box pseen [.map (some bv)], Box p [iV x2], MkA (D :: dl), OwnSl 84 3 al4 l4.length cl4 csl3, OwnMap bv m3] ?_
  refine .nil (.seqN (.region (.V (ld1 rfl tO3 (cellB (off := 0) (k := 0) rfl rfl)) ?_)))
  refine .V bi0 ?_
  refine st (p := pat2) (off := 0) (k := 0) (vs := [iV (wr (x2 + 1))]) rfl rfl rfl (fun w => (tO3 w).2) rfl rfl rfl rfl ?_
  refine .KA [Box pat2 [iV (wr (x2 + 1))], tru, Box pkey [.func (.func 17) #[] #[]], Box pv [.slice none 0 0], Box pv2 [.bool false], Box pv3 [.bool false], Box pqueue [vSl al4 l4 cl4], Box pseen [.map (some bv)], Box p [iV x2], MkA (D :: dl), OwnSl 84 3 al4 l4.length cl4 csl3, OwnMap bv m3] ?_
  refine .nil ?_
  refine .sel0 [2, 3, 4, 5, 6, 7, 0, 9, 10, 11] (by decide) rfl ?_
  exact .roundN (wr (x2 + 1), l4, m3, pat2, D :: dl, al4, cl4, csl3, h289) ⟨hF.1, q6813, (FH.le_trans (FH.le_trans (q4658) (le283)) (q6814))⟩ hF.2 rfl sb rfl (FH.le_refl _)
 replace hF := hF.2 q5800
 refine .exit (.seqX (.seqX (.blkX (.seqN (.seq (.region ?_))))))
 refine st (p := pv) (off := 0) (k := 1) (vs := [.slice none 0 0]) rfl rfl rfl (fun w => (tO22 w).2) rfl rfl rfl rfl ?_
 refine .KA [Box pkey [.func (.func 17) #[] #[]], Box pv [.slice none 0 0], Box pv2 [.bool false], Box pv3 [.bool false], Box pqueue [vSl al2 l cl2], Box pseen [.map (some bv)], Box p [iV x2], MkA dl, OwnSl 84 3 al2 l.length cl2 csl, OwnMap bv m] ?_
 refine st (p := pv2) (off := 0) (k := 2) (vs := [.bool false]) rfl rfl rfl (fun w => (tO4 w).2) rfl rfl rfl rfl ?_
 refine .KA [Box pkey [.func (.func 17) #[] #[]], Box pv [.slice none 0 0], Box pv2 [.bool false], Box pv3 [.bool false], Box pqueue [vSl al2 l cl2], Box pseen [.map (some bv)], Box p [iV x2], MkA dl, OwnSl 84 3 al2 l.length cl2 csl, OwnMap bv m] ?_
 refine st (p := pv3) (off := 0) (k := 3) (vs := [.bool true]) rfl rfl rfl (fun w => (tO4 w).2) rfl rfl rfl rfl ?_
 refine .KA [Box pkey [.func (.func 17) #[] #[]], Box pv [.slice none 0 0], Box pv2 [.bool false], Box pv3 [.bool true], Box pqueue [vSl al2 l cl2], Box pseen [.map (some bv)], Box p [iV x2], MkA dl, OwnSl 84 3 al2 l.length cl2 csl, OwnMap bv m] ?_
 refine .nil (.seqN (.ret ?_))
 refine .resM (k := 7) rfl ?_
 refine .res3 rfl (rvC1 rfl tO22 (k := 1) rfl) (rvC1 rfl tO4 (k := 2) rfl) (rvC1 rfl tO4 (k := 3) rfl) (fun w' S => ⟨(([] : List Int), false, true), (none, 0), h199, hF, rfl, (q4658), ⟨RSl.nil_, (Nat.le_refl 0)⟩, S.none⟩)
theorem c_breadthS {h : FH} {w : World} (hs : Sub h w) (ht : TabH Tryz.prog h) (start2 : List (List Int)) (astart2 : Option Addr) (cstart2 : Nat) (_q1 : RSl h astart2 start2) (_q2 : start2.length ≤ cstart2) (x : Task) (ax : Option Addr) (cx : Nat) (_q3 : RSl h ax x.init) (_q4 : x.init.length ≤ cx) (ax2 : Option Addr) (cx2 : Nat) (_q5 : RSl h ax2 x.goal) (_q6 : x.goal.length ≤ cx2) (ax3 : Option Addr) (cx3 : Nat) (_q7 : RSl h ax3 x.ops) (_q8 : x.ops.length ≤ cx3) (px : Addr) (_q9 : CellsAt h px [iV x.facts, .slice ax x.init.length cx, .slice ax2 x.goal.length cx2, .slice ax3 x.ops.length cx3]) (hp : pre_breadthS start2 x) : Calls Tryz.prog 18 #[.slice astart2 start2.length cstart2, .func (.func 17) #[] #[], .func (.func 39) #[] #[.pointer (some px)], .func (.func 41) #[] #[]] w fun e w' => ∃ (z : Option Addr × Nat) (h1 : FH), e = .returned (.tuple #[.slice z.1 (sp_breadthS start2 x).1.length z.2, .bool (sp_breadthS start2 x).2.1, .bool (sp_breadthS start2 x).2.2]) ∧ FH.le h h1 ∧ (RSl h1 z.1 (sp_breadthS start2 x).1 ∧ (sp_breadthS start2 x).1.length ≤ z.2) ∧ SH (Kp.all w h) h1 w' [] :=
 (w_breadthS hs ht start2 astart2 cstart2 _q1 _q2  x ax cx _q3 _q4 ax2 cx2 _q5 _q6 ax3 cx3 _q7 _q8 px _q9  (fun r => r = sp_breadthS start2 x) (ok_breadthS start2 x hp)).mono fun _ _ ⟨r, z, h1, hk, he, hl, hf, hS⟩ => by subst hk; exact ⟨z, h1, he, hl, hf, hS⟩
set_option maxHeartbeats 8000000 in
theorem w_breadthP {h : FH} {w : World} (hs : Sub h w) (ht : TabH Tryz.prog h) (start2 : List (List Int)) (astart2 : Option Addr) (cstart2 : Nat) (_q1 : RSl h astart2 start2) (_q2 : start2.length ≤ cstart2) (x : Task) (ax : Option Addr) (cx : Nat) (_q3 : RSl h ax x.init) (_q4 : x.init.length ≤ cx) (ax2 : Option Addr) (cx2 : Nat) (_q5 : RSl h ax2 x.goal) (_q6 : x.goal.length ≤ cx2) (ax3 : Option Addr) (cx3 : Nat) (_q7 : RSl h ax3 x.ops) (_q8 : x.ops.length ≤ cx3) (px : Addr) (_q9 : CellsAt h px [iV x.facts, .slice ax x.init.length cx, .slice ax2 x.goal.length cx2, .slice ax3 x.ops.length cx3]) (x2 : Task) (ax22 : Option Addr) (cx22 : Nat) (_q10 : RSl h ax22 x2.init) (_q11 : x2.init.length ≤ cx22) (ax23 : Option Addr) (cx23 : Nat) (_q12 : RSl h ax23 x2.goal) (_q13 : x2.goal.length ≤ cx23) (ax24 : Option Addr) (cx24 : Nat) (_q14 : RSl h ax24 x2.ops) (_q15 : x2.ops.length ≤ cx24) (px2 : Addr) (_q16 : CellsAt h px2 [iV x2.facts, .slice ax22 x2.init.length cx22, .slice ax23 x2.goal.length cx23, .slice ax24 x2.ops.length cx24]) (K : (List Int × Bool × Bool) → Prop) (hF : F_breadthP start2 x x2 K) : Calls Tryz.prog 18 #[.slice astart2 start2.length cstart2, .func (.func 17) #[] #[], .func (.func 39) #[] #[.pointer (some px)], .func (.func 19) #[] #[.pointer (some px2)]] w fun e w' => ∃ (r : List Int × Bool × Bool) (z : Option Addr × Nat) (h1 : FH), K r ∧ e = .returned (.tuple #[.slice z.1 r.1.length z.2, .bool r.2.1, .bool r.2.2]) ∧ FH.le h h1 ∧ (RSl h1 z.1 r.1 ∧ r.1.length ≤ z.2) ∧ SH (Kp.all w h) h1 w' [] := by
 refine enterM (args := [vSl astart2 start2 cstart2, .func (.func 17) #[] #[], .func (.func 39) #[] #[.pointer (some px)], .func (.func 19) #[] #[.pointer (some px2)]]) Tryz.func18 rfl Tryz.ntmps18 rfl hs ?_
 refine .seq (.region ?_)
 refine bx (vs := [.func (.func 17) #[] #[]]) rfl rfl rfl (fun pkey => ?_)
 refine al tZ22 rfl (fun pv => ?_)
 refine al tZ4 rfl (fun pv2 => ?_)
 refine al tZ4 rfl (fun pv3 => ?_)
 refine .nil (.seqN (.seq (.region (.V mv0 ?_))))
 refine .V (bld (cs := #[vSl astart2 start2 cstart2, iV (-1), iV 0]) (pv := [(0, vSl astart2 start2 cstart2), (1, iV (-1))]) tB84 rfl rfl) ?_
 refine bs2 (cs := #[vSl astart2 start2 cstart2, iV (-1), iV 0]) (pv := [(0, .agg #[vSl astart2 start2 cstart2, iV (-1), iV 0])]) tS85 rfl rfl (by decide) (by decide) rfl rfl rfl (fun a _ => ?_)
 refine .KA [OwnSl 84 3 a (([(⟨start2, (-1), 0⟩ : Entry)] : List Entry).length) 1 [vSl astart2 start2 cstart2, iV (-1), iV 0], Box pv3 [.bool false], Box pv2 [.bool false], Box pv [.slice none 0 0], Box pkey [.func (.func 17) #[] #[]], MkA []] ?_
 refine al tZ85 rfl (fun pqueue => ?_)
 refine st (p := pqueue) (off := 0) (k := 0) (vs := [.slice a (([(⟨start2, (-1), 0⟩ : Entry)] : List Entry).length) 1]) rfl rfl rfl (fun w => (tO85 w).2) rfl rfl rfl rfl ?_
 refine .KA [Box pqueue [.slice a (([(⟨start2, (-1), 0⟩ : Entry)] : List Entry).length) 1], OwnSl 84 3 a (([(⟨start2, (-1), 0⟩ : Entry)] : List Entry).length) 1 [vSl astart2 start2 cstart2, iV (-1), iV 0], Box pv3 [.bool false], Box pv2 [.bool false], Box pv [.slice none 0 0], Box pkey [.func (.func 17) #[] #[]], MkA []] ?_
 refine .nil (.seqN (.seq (.region ?_)))
 refine mm rfl (fun bv => ?_)
 refine .V (ld1 rfl tO48 (cellB (off := 0) (k := 6) rfl rfl)) ?_
 refine .V mv0 ?_
 obtain ⟨q18, hF⟩ := hF
 obtain ⟨r2, q19⟩ : ∃ y_ : List UInt8, y_ = sp_key start2 := ⟨_, rfl⟩
 replace hF := hF r2 q19
 refine .C (cl (v := strV r2) Tryz.call17 rfl rfl (fun w S => (by rw [q19]; exact c_key S.sub (ht.mono (FH.le_refl _)) start2 astart2 cstart2 _q1 _q2 q18))) ?_
 refine mi tM86 rfl rfl rfl (kk := 0) rfl ?_
 refine .KA [OwnMap bv (upd (fun _ => 0) r2 1), Box pqueue [.slice a (([(⟨start2, (-1), 0⟩ : Entry)] : List Entry).length) 1], OwnSl 84 3 a (([(⟨start2, (-1), 0⟩ : Entry)] : List Entry).length) 1 [vSl astart2 start2 cstart2, iV (-1), iV 0], Box pv3 [.bool false], Box pv2 [.bool false], Box pv [.slice none 0 0], Box pkey [.func (.func 17) #[] #[]], MkA []] ?_
 refine .V mv0 ?_
 refine al tZ86 rfl (fun pseen => ?_)
 refine st (p := pseen) (off := 0) (k := 0) (vs := [.map (some bv)]) rfl rfl rfl (fun w => (tO86 w).2) rfl rfl rfl rfl ?_
 refine .KA [Box pseen [.map (some bv)], OwnMap bv (upd (fun _ => 0) r2 1), Box pqueue [.slice a (([(⟨start2, (-1), 0⟩ : Entry)] : List Entry).length) 1], OwnSl 84 3 a (([(⟨start2, (-1), 0⟩ : Entry)] : List Entry).length) 1 [vSl astart2 start2 cstart2, iV (-1), iV 0], Box pv3 [.bool false], Box pv2 [.bool false], Box pv [.slice none 0 0], Box pkey [.func (.func 17) #[] #[]], MkA []] ?_
 refine .nil (.seqN (.seq (.seq (.region ?_))))
 refine al tZ3 rfl (fun pat => ?_)
 refine st (p := pat) (off := 0) (k := 0) (vs := [iV 0]) rfl rfl rfl (fun w => (tO3 w).2) rfl rfl rfl rfl ?_
 refine .KA [Box pat [iV 0], Box pseen [.map (some bv)], OwnMap bv (upd (fun _ => 0) r2 1), Box pqueue [.slice a (([(⟨start2, (-1), 0⟩ : Entry)] : List Entry).length) 1], OwnSl 84 3 a (([(⟨start2, (-1), 0⟩ : Entry)] : List Entry).length) 1 [vSl astart2 start2 cstart2, iV (-1), iV 0], Box pv3 [.bool false], Box pv2 [.bool false], Box pv [.slice none 0 0], Box pkey [.func (.func 17) #[] #[]], MkA []] ?_
 refine .nil (.seqN (.block ?_))
 refine .sel0 [8, 7, 6, 5, 3, 1, 0, 9, 4, 2] (by decide) rfl ?_
 obtain ⟨I1, μ1, q5819, q5820⟩ := hF
 refine .loopN' (σ := Int × List Entry × (List UInt8 → Int) × Addr × List Nat × Option Addr × Nat × List Value × FH) (fun z => I1 z.1 z.2.1 z.2.2.1 ∧ RepL z.2.2.2.2.2.2.2.2 z.2.1 z.2.2.2.2.2.2.2.1 ∧ FH.le h z.2.2.2.2.2.2.2.2) (fun z => μ1 z.1 z.2.1 z.2.2.1) (fun z => ⟨92, none, z.2.2.2.2.1⟩) (fun z => [(2, .func (.func 39) #[] #[.pointer (some px)]), (3, .func (.func 19) #[] #[.pointer (some px2)]), (5, .pointer (some pkey)), (8, .pointer (some pv)), (9, .pointer (some pv2)), (10, .pointer (some pv3)), (11, .pointer (some pqueue)), (12, .pointer (some pseen)), (13, .pointer (some z.2.2.2.1))]) (fun z => [Box pkey [.func (.func 17) #[] #[]], Box pv [.slice none 0 0], Box pv2 [.bool false], Box pv3 [.bool false], Box pqueue [vSl z.2.2.2.2.2.1 z.2.1 z.2.2.2.2.2.2.1], Box pseen [.map (some bv)], Box z.2.2.2.1 [iV z.1], MkA z.2.2.2.2.1, OwnSl 84 3 z.2.2.2.2.2.1 z.2.1.length z.2.2.2.2.2.2.1 z.2.2.2.2.2.2.2.1, OwnMap bv z.2.2.1]) (fun z => z.2.2.2.2.2.2.2.2) (0, ([(⟨start2, (-1), 0⟩ : Entry)] : List Entry), (upd (fun _ => 0) r2 1), pat, [], a, 1, [vSl astart2 start2 cstart2, iV (-1), iV 0], h) ⟨q5819, (show RepL h ([(⟨start2, (-1), 0⟩ : Entry)] : List Entry) [vSl astart2 start2 cstart2, iV (-1), iV 0] from ⟨[vSl astart2 start2 cstart2, iV (-1), iV 0], _, rfl, ⟨astart2, cstart2, rfl, ⟨_q2, _q1⟩⟩, rfl⟩), (FH.le_refl _)⟩ (fun _ => rfl) rfl sb rfl (FH.le_refl _) ?_
 rintro ⟨x3, l, m, p, dl, al2, cl2, csl, h199⟩ ⟨q5819, q4676, q4677⟩
 have hF := q5820 x3 l m q5819
 show J _ _ ⟨92, none, dl⟩ _ _ [(2, .func (.func 39) #[] #[.pointer (some px)]), (3, .func (.func 19) #[] #[.pointer (some px2)]), (5, .pointer (some pkey)), (8, .pointer (some pv)), (9, .pointer (some pv2)), (10, .pointer (some pv3)), (11, .pointer (some pqueue)), (12, .pointer (some pseen)), (13, .pointer (some p))] [Box pkey [.func (.func 17) #[] #[]], Box pv [.slice none 0 0], Box pv2 [.bool false], Box pv3 [.bool false], Box pqueue [vSl al2 l cl2], Box pseen [.map (some bv)], Box p [iV x3], MkA dl, OwnSl 84 3 al2 l.length cl2 csl, OwnMap bv m] h199
 refine .seq (.seq (.region (.V (ld1 rfl tO3 (cellB (off := 0) (k := 6) rfl rfl)) ?_)))
 refine .V (ld1 rfl tO85 (cellB (off := 0) (k := 4) rfl rfl)) ?_
 refine .V (ln rfl tS85.is) ?_
 refine .V bi0 ?_
 refine .nil (.seqN ?_)
 refine .cond rfl (fun q5822 => ?_) (fun q5822 => ?_)
 ·replace hF := hF.1 q5822
  refine .skip (.seqN (.seq (.block (.seq (.seq (.region (.V mv0 ?_)))))))
  refine .V (ld1 rfl tO85 (cellB (off := 0) (k := 4) rfl rfl)) ?_
  refine .V (ld1 rfl tO3 (cellB (off := 0) (k := 6) rfl rfl)) ?_
  obtain ⟨q6581, hF⟩ := hF
  refine .V (ixS rfl rfl tS85 (k := 8) rfl q6581) ?_
  refine .V (fa rfl tF84_0) ?_
  obtain ⟨_, ⟨a2, c, rfl, q6582, q6583⟩, q6584⟩ := RepL.get q4676 (gt_get q6581)
  refine .V (ld1 (v := .slice a2 ((gt l x3).node.length) c) rfl tO35 (cellF (k := 8) rfl (q6584 0 _ rfl))) ?_
  obtain ⟨q6585, hF⟩ := hF
  obtain ⟨r3, q6586⟩ : ∃ y_ : Bool, y_ = sp_plan1 ((gt l x3).node) x2 := ⟨_, rfl⟩
  replace hF := hF r3 q6586
  refine .C (cl (v := .bool r3) Tryz.call19 rfl rfl (fun w S => (by rw [q6586]; exact c_plan1 S.sub ((gt l x3).node) a2 c q6583 q6582 x2 ax22 cx22 (_q10.mono (q4677)) _q11 ax23 cx23 (_q12.mono (q4677)) _q13 ax24 cx24 (_q14.mono (q4677)) _q15 px2 (CellsAt.mono (q4677) _q16) q6585))) ?_
  refine .nil (.seqN ?_)
  refine .cond rfl (fun q6679 => ?_) (fun q6679 => ?_)
  ·replace hF := hF.1 q6679
   refine .seq (.region (.V ag0 ?_))
   refine .nil (.seqN (.seq (.seq (.region (.V (ld1 rfl tO3 (cellB (off := 0) (k := 6) rfl rfl)) ?_)))))
   refine .V ag0 ?_
   refine .nil (.seqN (.block ?_))
   refine .nilSl 3 1 ?_
   refine .KA [oL 3 1 none ([] : List Int) 0, Box pkey [.func (.func 17) #[] #[]], Box pv [.slice none 0 0], Box pv2 [.bool false], Box pv3 [.bool false], Box pqueue [vSl al2 l cl2], Box pseen [.map (some bv)], Box p [iV x3], MkA dl, OwnSl 84 3 al2 l.length cl2 csl, OwnMap bv m] ?_
   refine .sel0 [2, 3, 4, 5, 0, 8, 9] (by decide) rfl ?_
   obtain ⟨I2, μ2, q6749, q6750⟩ := hF
   refine .loop' (σ := Int × List Int × Option Addr × Nat) (fun z => I2 z.1 z.2.1) (fun z => μ2 z.1 z.2.1) (fun z => [(8, .pointer (some pv)), (9, .pointer (some pv2)), (10, .pointer (some pv3)), (11, .pointer (some pqueue)), (14, vSl z.2.2.1 z.2.1 z.2.2.2), (15, iV z.1)]) (fun z => [Box pv [.slice none 0 0], Box pv2 [.bool false], Box pv3 [.bool false], Box pqueue [vSl al2 l cl2], oL 3 1 z.2.2.1 z.2.1 z.2.2.2, MkA dl, OwnSl 84 3 al2 l.length cl2 csl]) (fun _ => h199) (x3, ([] : List Int), none, 0) q6749 sb rfl (FH.le_refl _) ?_
   rintro ⟨i, out, aout, cout⟩ q6749
   have hF := q6750 i out q6749
   show J _ _ _ _ _ [(8, .pointer (some pv)), (9, .pointer (some pv2)), (10, .pointer (some pv3)), (11, .pointer (some pqueue)), (14, vSl aout out cout), (15, iV i)] [Box pv [.slice none 0 0], Box pv2 [.bool false], Box pv3 [.bool false], Box pqueue [vSl al2 l cl2], oL 3 1 aout out cout, MkA dl, OwnSl 84 3 al2 l.length cl2 csl] h199
   refine .seq (.seq (.region (.V (ld1 rfl tO85 (cellB (off := 0) (k := 3) rfl rfl)) ?_)))
   refine .V mv0 ?_
   obtain ⟨q6751, hF⟩ := hF
   refine .V (ixS rfl rfl tS85 (k := 6) rfl q6751) ?_
   refine .V (fa rfl tF84_1) ?_
   obtain ⟨_, ⟨a3, c2, rfl, q6752, q6753⟩, q6754⟩ := RepL.get q4676 (gt_get q6751)
   refine .V (ld1 (v := iV ((gt l i).from_)) rfl tO3 (cellF (k := 6) rfl (q6754 1 _ rfl))) ?_
   refine .V bi0 ?_
   refine .nil (.seqN ?_)
   refine .cond rfl (fun q6756 => ?_) (fun q6756 => ?_)
   ·replace hF := hF.1 q6756
    refine .skip (.seqN (.seq (.block (.region (.V mv0 ?_)))))
    refine .V (ld1 rfl tO85 (cellB (off := 0) (k := 3) rfl rfl)) ?_
    refine .V mv0 ?_
    refine .V (ixS rfl rfl tS85 (k := 6) rfl q6751) ?_
    refine .V (fa rfl tF84_2) ?_
    refine .V (ld1 (v := iV ((gt l i).step)) rfl tO3 (cellF (k := 6) rfl (q6754 2 _ rfl))) ?_
    refine bs2 (cs := #[iV ((gt l i).step)]) (pv := [(0, iV ((gt l i).step))]) tS22 rfl rfl (by decide) (by decide) rfl rfl rfl (fun a4 _ => ?_)
    refine .KA [oL 3 1 a4 ([(gt l i).step] : List Int) 1, Box pv [.slice none 0 0], Box pv2 [.bool false], Box pv3 [.bool false], Box pqueue [vSl al2 l cl2], oL 3 1 aout out cout, MkA dl, OwnSl 84 3 al2 l.length cl2 csl] ?_
    obtain ⟨q6764, hF⟩ := hF
    have q6765 : out.length + ([(gt l i).step] : List Int).length = ((out ++ ([(gt l i).step] : List Int))).length := len_app rfl rfl
    refine app (k := 5) (news := flL ([(gt l i).step] : List Int)) (cs' := flL (out ++ ([(gt l i).step] : List Int))) (nm := ((out ++ ([(gt l i).step] : List Int))).length) tS22 rfl (by decide) rfl rfl rfl ((flL_len _).trans rfl) (srcS (k := 0) rfl) (flL_one _) (room_of q6765 q6764).1 (room_of q6765 q6764).2 q6765 (flL_append _ _).symm rfl (fun a5 c3 => ?_)
    refine .KA [oL 3 1 a4 ([(gt l i).step] : List Int) 1, Box pv [.slice none 0 0], Box pv2 [.bool false], Box pv3 [.bool false], Box pqueue [vSl al2 l cl2], oL 3 1 a5 (out ++ ([(gt l i).step] : List Int)) c3, MkA dl, OwnSl 84 3 al2 l.length cl2 csl] ?_
    refine .V ag0 ?_
    refine .nil (.blkN (.seqN (.region (.V (ld1 rfl tO85 (cellB (off := 0) (k := 4) rfl rfl)) ?_))))
    refine .V mv0 ?_
    refine .V (ixS rfl rfl tS85 (k := 7) rfl q6751) ?_
    refine .V (fa rfl tF84_1) ?_
    refine .V (ld1 (v := iV ((gt l i).from_)) rfl tO3 (cellF (k := 7) rfl (q6754 1 _ rfl))) ?_
    refine .V ag0 ?_
    refine .nil ?_
    refine .sel0 [1, 2, 3, 4, 5, 6, 7] (by decide) rfl ?_
    exact .RO ((gt l i).from_, (out ++ ([(gt l i).step] : List Int)), a5, c3) hF.1 hF.2
   replace hF := hF.2 q6756
   refine .exit (.seqX (.seqX (.blkX (.seqN (.seq (.region (.V mv0 ?_)))))))
   obtain ⟨q6766, hF⟩ := hF
   obtain ⟨r4, q6767⟩ : ∃ y_ : List Int, y_ = sp_reverse out := ⟨_, rfl⟩
   replace hF := hF r4 q6767
   refine callX (k := 4) (v := .tuple #[]) (X' := OwnSl 3 1 aout out.length cout (flL r4)) rfl Tryz.call44 rfl rfl (fun w g hx sg hd hs' => ?_) rfl ?_
   ·rw [q6767]; exact c_reverse hs' out aout cout hx sg hd q6766
   have q6768 : r4.length = out.length := by rw [q6767]; exact (sp_reverse_len out).trans rfl
   refine .KA [Box pv [.slice none 0 0], Box pv2 [.bool false], Box pv3 [.bool false], Box pqueue [vSl al2 l cl2], OwnSl 3 1 aout out.length cout (flL r4), MkA dl, OwnSl 84 3 al2 l.length cl2 csl] ?_
   refine .nil (.seqN (.seq (.region (.V mv0 ?_))))
   refine st (p := pv) (off := 0) (k := 0) (vs := [vSl aout out cout]) rfl rfl rfl (fun w => (tO22 w).2) rfl rfl rfl rfl ?_
   refine .KA [Box pv [vSl aout out cout], Box pv2 [.bool false], Box pv3 [.bool false], Box pqueue [vSl al2 l cl2], OwnSl 3 1 aout out.length cout (flL r4), MkA dl, OwnSl 84 3 al2 l.length cl2 csl] ?_
   refine st (p := pv2) (off := 0) (k := 1) (vs := [.bool true]) rfl rfl rfl (fun w => (tO4 w).2) rfl rfl rfl rfl ?_
   refine .KA [Box pv [vSl aout out cout], Box pv2 [.bool true], Box pv3 [.bool false], Box pqueue [vSl al2 l cl2], OwnSl 3 1 aout out.length cout (flL r4), MkA dl, OwnSl 84 3 al2 l.length cl2 csl] ?_
   refine st (p := pv3) (off := 0) (k := 2) (vs := [.bool true]) rfl rfl rfl (fun w => (tO4 w).2) rfl rfl rfl rfl ?_
   refine .KA [Box pv [vSl aout out cout], Box pv2 [.bool true], Box pv3 [.bool true], Box pqueue [vSl al2 l cl2], OwnSl 3 1 aout out.length cout (flL r4), MkA dl, OwnSl 84 3 al2 l.length cl2 csl] ?_
   refine .nil (.seqN ?_)
   refine .freezeL (k := 4) rfl (fun h282 le282 q6770 q6769 => ?_)
   refine .KA [Box pv [vSl aout out cout], Box pv2 [.bool true], Box pv3 [.bool true], Box pqueue [vSl al2 l cl2], tru, MkA dl, OwnSl 84 3 al2 l.length cl2 csl] ?_
   refine .ret (.seqR (.blkR (.seqR (.seqR (.blkR (.seqR ?_))))))
   refine .resM (k := 5) rfl ?_
   refine .res3 rfl (rvC1 rfl tO22 (k := 0) rfl) (rvC1 rfl tO4 (k := 1) rfl) (rvC1 rfl tO4 (k := 2) rfl) (fun w' S => ⟨(r4, true, true), (aout, cout), h282, hF, (by simp only [q6768] <;> rfl), (FH.le_trans (q4677) (le282)), ⟨(RSl.of q6769), (by rw [q6768]; exact q6770)⟩, S.none⟩)
  replace hF := hF.2 q6679
  refine .skip (.seqN (.seq (.region (.V mv0 ?_))))
  refine .V (ld1 rfl tO85 (cellB (off := 0) (k := 4) rfl rfl)) ?_
  refine .V (ld1 rfl tO3 (cellB (off := 0) (k := 6) rfl rfl)) ?_
  refine .V (ixS rfl rfl tS85 (k := 8) rfl q6581) ?_
  refine .V (fa rfl tF84_0) ?_
  refine .V (ld1 (v := .slice a2 ((gt l x3).node.length) c) rfl tO35 (cellF (k := 8) rfl (q6584 0 _ rfl))) ?_
  obtain ⟨r5, q6771⟩ : ∃ y_ : Unit, y_ = sp_bnext1 ((gt l x3).node) x := ⟨_, rfl⟩
  replace hF := hF r5 q6771
  refine clR (α := Addr × Addr) (Φ := fun h1 z => CellsAt h1 z.1 (tF x ax cx ax2 cx2 ax3 cx3) ∧ CellsAt h1 z.2 [.slice a2 ((gt l x3).node.length) c]) (V := fun z => .func (.func 66) #[] #[.pointer (some z.1), .pointer (some z.2)]) Tryz.call39 rfl rfl (fun w S => (by exact c_bnext1 S.sub ((gt l x3).node) a2 c q6583 q6582 x ax cx (_q3.mono (q4677)) _q4 ax2 cx2 (_q5.mono (q4677)) _q6 ax3 cx3 (_q7.mono (q4677)) _q8 px (CellsAt.mono (q4677) _q9) )) rfl (fun z h283 le283 hz => ?_)
  obtain ⟨p3, p4⟩ := z
  obtain ⟨q6772, q6773⟩ := hz
  refine .nil (.seqN (.block ?_))
  refine .sub (s' := [(2, .func (.func 39) #[] #[.pointer (some px)]), (3, .func (.func 19) #[] #[.pointer (some px2)]), (5, .pointer (some pkey)), (8, .pointer (some pv)), (9, .pointer (some pv2)), (10, .pointer (some pv3)), (11, .pointer (some pqueue)), (12, .pointer (some pseen)), (13, .pointer (some p)), (69, .func (.func 66) #[] #[.pointer (some p3), .pointer (some p4)])]) sb ?_
  refine .rangeF (k := 7) (caps := [.pointer (some p3), .pointer (some p4)]) rfl rfl Tryz.func66 rfl Tryz.ntmps66 rfl Tryz.call66 (fun l3 D LA a6 q6774 q6775 => ?_)
  refine .KA [LA .ready none, Box pkey [.func (.func 17) #[] #[]], Box pv [.slice none 0 0], Box pv2 [.bool false], Box pv3 [.bool false], Box pqueue [vSl al2 l cl2], Box pseen [.map (some bv)], Box p [iV x3], MkA (D :: dl), OwnSl 84 3 al2 l.length cl2 csl, OwnMap bv m] ?_
  refine .seq (.region (.V (fa rfl tF25_3) ?_))
  refine .V (ld1 (v := vSl ax3 x.ops cx3) rfl tO23 (cellH (CellsAt.mono (FH.le_refl _) q6772 3 _ rfl))) ?_
  refine .V (ln rfl tS23.is) ?_
  refine .V mv0 ?_
  refine .nil (.seqN (.block ?_))
  obtain ⟨I3, μ3, q6900, q6901⟩ := hF
  refine .loop' (σ := Int × List Entry × (List UInt8 → Int) × Option Addr × Nat × List Value × FH) (fun z => I3 z.1 z.2.1 z.2.2.1 ∧ RepL z.2.2.2.2.2.2 z.2.1 z.2.2.2.2.2.1 ∧ FH.le h283 z.2.2.2.2.2.2) (fun z => μ3 z.1 z.2.1 z.2.2.1) (fun z => [(0, .func (.yield l3) #[] #[]), (1, .pointer (some p3)), (2, .pointer (some p4)), (7, vSl ax3 x.ops cx3), (8, iV ((x.ops.length : Nat) : Int)), (9, iV z.1)]) (fun z => [LA .ready none, Box pkey [.func (.func 17) #[] #[]], Box pv [.slice none 0 0], Box pv2 [.bool false], Box pv3 [.bool false], Box pqueue [vSl z.2.2.2.1 z.2.1 z.2.2.2.2.1], Box pseen [.map (some bv)], Box p [iV x3], MkA (D :: dl), OwnSl 84 3 z.2.2.2.1 z.2.1.length z.2.2.2.2.1 z.2.2.2.2.2.1, OwnMap bv z.2.2.1]) (fun z => z.2.2.2.2.2.2) (0, l, m, al2, cl2, csl, h283) ⟨q6900, (RepL.mono (le283) q4676), (FH.le_refl _)⟩ sb rfl (FH.le_refl _) ?_
  rintro ⟨t9, l4, m3, al4, cl4, csl3, h289⟩ ⟨q6900, q6838, q6839⟩
  have hF := q6901 t9 l4 m3 q6900
  show J _ _ _ _ _ [(0, .func (.yield l3) #[] #[]), (1, .pointer (some p3)), (2, .pointer (some p4)), (7, vSl ax3 x.ops cx3), (8, iV ((x.ops.length : Nat) : Int)), (9, iV t9)] [LA .ready none, Box pkey [.func (.func 17) #[] #[]], Box pv [.slice none 0 0], Box pv2 [.bool false], Box pv3 [.bool false], Box pqueue [vSl al4 l4 cl4], Box pseen [.map (some bv)], Box p [iV x3], MkA (D :: dl), OwnSl 84 3 al4 l4.length cl4 csl3, OwnMap bv m3] h289
  refine .seq (.region (.V bi0 ?_))
  refine .nil (.seqN (.seq ?_))
  refine .cond rfl (fun q6904 => ?_) (fun q6904 => ?_)
  ·replace hF := hF.1 q6904
   refine .skip (.seqN ?_)
   refine .share (σ := List Entry × (List UInt8 → Int) × Option Addr × Nat × List Value × FH) (fun z => F_breadthP_J1 t9 I3 μ3 l4 m3 z.1 z.2.1 ∧ RepL z.2.2.2.2.2 z.1 z.2.2.2.2.1 ∧ FH.le h289 z.2.2.2.2.2) (fun _ => [(0, .func (.yield l3) #[] #[]), (1, .pointer (some p3)), (2, .pointer (some p4)), (7, vSl ax3 x.ops cx3), (8, iV ((x.ops.length : Nat) : Int)), (9, iV t9)]) (fun z => [LA .ready none, Box pkey [.func (.func 17) #[] #[]], Box pv [.slice none 0 0], Box pv2 [.bool false], Box pv3 [.bool false], Box pqueue [vSl z.2.2.1 z.1 z.2.2.2.1], Box pseen [.map (some bv)], Box p [iV x3], MkA (D :: dl), OwnSl 84 3 z.2.2.1 z.1.length z.2.2.2.1 z.2.2.2.2.1, OwnMap bv z.2.1]) (fun z => z.2.2.2.2.2) ?_ (fun q6933 => ?_)
   ·rintro ⟨l6, m5, al6, cl6, csl5, h295⟩ ⟨hF, q6931, q6932⟩
    show J _ _ _ _ _ [(0, .func (.yield l3) #[] #[]), (1, .pointer (some p3)), (2, .pointer (some p4)), (7, vSl ax3 x.ops cx3), (8, iV ((x.ops.length : Nat) : Int)), (9, iV t9)] [LA .ready none, Box pkey [.func (.func 17) #[] #[]], Box pv [.slice none 0 0], Box pv2 [.bool false], Box pv3 [.bool false], Box pqueue [vSl al6 l6 cl6], Box pseen [.map (some bv)], Box p [iV x3], MkA (D :: dl), OwnSl 84 3 al6 l6.length cl6 csl5, OwnMap bv m5] h295
    refine .region (.V bi0 ?_)
    refine .V mv0 ?_
    refine .nil ?_
    exact .RO (wr (t9 + 1), l6, m5, al6, cl6, csl5, h295) ⟨hF.1, q6931, (FH.le_trans (q6839) (q6932))⟩ hF.2
   refine .block (.seq (.region (.V mv0 ?_)))
   obtain ⟨q6934, hF⟩ := hF
   refine .V (ix rfl rfl tS23 (_q7.ne (by decide) (inb_pos q6934)) q6934) ?_
   obtain ⟨_, ⟨a7, c4, a8, c5, a9, c6, rfl, ⟨q6935, q6936⟩, ⟨q6937, q6938⟩, q6939, q6940⟩, q6941⟩ := _q7.elem q6934
   refine .V (ldA (cs := [.slice a7 ((gt x.ops t9).pre.length) c4, .slice a8 ((gt x.ops t9).add.length) c5, .slice a9 ((gt x.ops t9).del.length) c6, iV ((gt x.ops t9).cost)]) rfl tA114 rfl (cellsH ((fun q => (q6941 q).mono (FH.le_trans (FH.le_trans (q4677) (le283)) (q6839))) (by decide)))) ?_
   refine al tZ114 rfl (fun pkey2 => ?_)
   refine .V ag0 ?_
   refine st (p := pkey2) (off := 0) (k := 0) (vs := [.slice a7 ((gt x.ops t9).pre.length) c4, .slice a8 ((gt x.ops t9).add.length) c5, .slice a9 ((gt x.ops t9).del.length) c6, iV ((gt x.ops t9).cost)]) rfl rfl rfl (fun w => (tA114 w).2) rfl rfl rfl rfl ?_
   refine .KA [Box pkey2 [.slice a7 ((gt x.ops t9).pre.length) c4, .slice a8 ((gt x.ops t9).add.length) c5, .slice a9 ((gt x.ops t9).del.length) c6, iV ((gt x.ops t9).cost)], LA .ready none, Box pkey [.func (.func 17) #[] #[]], Box pv [.slice none 0 0], Box pv2 [.bool false], Box pv3 [.bool false], Box pqueue [vSl al4 l4 cl4], Box pseen [.map (some bv)], Box p [iV x3], MkA (D :: dl), OwnSl 84 3 al4 l4.length cl4 csl3, OwnMap bv m3] ?_
   refine .nil (.seqN (.seq (.region (.V (ld1 (v := .slice a2 ((gt l x3).node.length) c) rfl tO35 (cellH (CellsAt.mono (q6839) q6773 0 _ rfl))) ?_))))
   refine .V (fa rfl tF114_0) ?_
   refine .V (ld1 rfl tO22 (cellB (off := 0) (k := 0) rfl rfl)) ?_
   obtain ⟨q6942, hF⟩ := hF
   obtain ⟨r6, q6943⟩ : ∃ y_ : Bool, y_ = sp_sure ((gt l x3).node) ((gt x.ops t9).pre) := ⟨_, rfl⟩
   replace hF := hF r6 q6943
   refine .C (cl (v := .bool r6) Tryz.call20 rfl rfl (fun w S => (by rw [q6943]; exact c_sure S.sub ((gt l x3).node) a2 c (q6583.mono (FH.le_trans (le283) (q6839))) q6582 ((gt x.ops t9).pre) a7 c4 (q6936.mono (FH.le_trans (FH.le_trans (q4677) (le283)) (q6839))) q6935 q6942))) ?_
   refine .V mv0 ?_
   rcases Bool.eq_false_or_eq_true (r6) with q6944 | q6944
   ·replace hF := hF.1 q6944
    refine .GV mv0 q6944 ?_
    refine .GV mv0 q6944 ?_
    refine .GV (ldA (cs := (tF x ax cx ax2 cx2 ax3 cx3)) rfl tA25 rfl (cellsH (q6772.mono (q6839)))) q6944 ?_
    refine .GV (ld1 (v := .slice a2 ((gt l x3).node.length) c) rfl tO35 (cellH (CellsAt.mono (q6839) q6773 0 _ rfl))) q6944 ?_
    refine .GV mv0 q6944 ?_
    obtain ⟨q6945, hF⟩ := hF
    obtain ⟨r7, q6946⟩ : ∃ y_ : List (List Int), y_ = sp_bafter x ((gt l x3).node) t9 := ⟨_, rfl⟩
    replace hF := hF r7 q6946
    refine .gR rfl rfl rfl q6944 ?_
    refine clR (α := Option Addr × Nat) (Φ := fun h1 z => RSl h1 z.1 r7 ∧ r7.length ≤ z.2) (V := fun z => vSl z.1 r7 z.2) Tryz.call67 rfl rfl (fun w S => (by rw [q6946]; exact c_bafter S.sub x ax cx (_q3.mono (FH.le_trans (FH.le_trans (q4677) (le283)) (q6839))) _q4 ax2 cx2 (_q5.mono (FH.le_trans (FH.le_trans (q4677) (le283)) (q6839))) _q6 ax3 cx3 (_q7.mono (FH.le_trans (FH.le_trans (q4677) (le283)) (q6839))) _q8 ((gt l x3).node) a2 c (q6583.mono (FH.le_trans (le283) (q6839))) q6582 t9 q6945)) rfl (fun z h296 le296 hz => ?_)
    obtain ⟨a10, c7⟩ := z
    obtain ⟨q6947, q6948⟩ := hz
    refine .gR rfl rfl rfl q6944 ?_
    refine .yld (k := 1) (vs := [iV t9, vSl a10 r7 c7]) q6774 rfl rfl rfl rfl rfl (fun aG q6949 => ?_)
    refine .sub (s' := [(5, .pointer (some pkey)), (8, .pointer (some pv)), (9, .pointer (some pv2)), (10, .pointer (some pv3)), (11, .pointer (some pqueue)), (12, .pointer (some pseen)), (13, .pointer (some p)), (70, iV t9), (71, vSl a10 r7 c7)]) sb ?_
    refine .seq (.region (.V ag0 ?_))
    refine .nil (.seqN (.region (.V ag0 ?_)))
    refine .nil ?_
    refine .begin_ (k := 1) q6774 rfl ?_
    refine .KA [Box pkey2 [.slice a7 ((gt x.ops t9).pre.length) c4, .slice a8 ((gt x.ops t9).add.length) c5, .slice a9 ((gt x.ops t9).del.length) c6, iV ((gt x.ops t9).cost)], LA .busy none, Box pkey [.func (.func 17) #[] #[]], Box pv [.slice none 0 0], Box pv2 [.bool false], Box pv3 [.bool false], Box pqueue [vSl al4 l4 cl4], Box pseen [.map (some bv)], Box p [iV x3], MkA (D :: dl), OwnSl 84 3 al4 l4.length cl4 csl3, OwnMap bv m3] ?_
    refine .block (.seq (.region (.V (ld1 rfl tO48 (cellB (off := 0) (k := 2) rfl rfl)) ?_)))
    refine .V mv0 ?_
    obtain ⟨q6950, hF⟩ := hF
    obtain ⟨r8, q6951⟩ : ∃ y_ : List UInt8, y_ = sp_key r7 := ⟨_, rfl⟩
    replace hF := hF r8 q6951
    refine .C (cl (v := strV r8) Tryz.call17 rfl rfl (fun w S => (by rw [q6951]; exact c_key S.sub (ht.mono (FH.le_trans (FH.le_trans (FH.le_trans (q4677) (le283)) (q6839)) (le296))) r7 a10 c7 q6947 q6948 q6950))) ?_
    refine .V ag0 ?_
    refine .nil (.seqN (.seq (.seq (.region (.V (ld1 rfl tO86 (cellB (off := 0) (k := 7) rfl rfl)) ?_)))))
    refine .V mv0 ?_
    refine .V (lk tM86 rfl rfl (kk := 11) rfl) ?_
    refine .V bi0 ?_
    refine .nil (.seqN ?_)
    refine .cond rfl (fun q6953 => ?_) (fun q6953 => ?_)
    ·replace hF := hF.1 q6953
     refine .exit (.seqX (.blkX ?_))
     refine .rdN (k := 1) q6774 rfl q6949 rfl ?_
     refine .KA [Box pkey2 [.slice a7 ((gt x.ops t9).pre.length) c4, .slice a8 ((gt x.ops t9).add.length) c5, .slice a9 ((gt x.ops t9).del.length) c6, iV ((gt x.ops t9).cost)], LA .ready none, Box pkey [.func (.func 17) #[] #[]], Box pv [.slice none 0 0], Box pv2 [.bool false], Box pv3 [.bool false], Box pqueue [vSl al4 l4 cl4], Box pseen [.map (some bv)], Box p [iV x3], MkA (D :: dl), OwnSl 84 3 al4 l4.length cl4 csl3, OwnMap bv m3] ?_
     refine .GV (nt rfl) q6944 ?_
     refine .V (pkT rfl q6944 rfl) ?_
     refine .nil (.seqN ?_)
     refine .cond rfl (fun e => absurd (e.symm.trans rfl) (by decide)) (fun _ => ?_)
     refine .skip (.blkN ?_)
     refine .sel0 [1, 2, 3, 4, 5, 6, 7, 8, 9, 10, 11] (by decide) rfl ?_
     exact .US q6933 (l4, m3, al4, cl4, csl3, h296) ⟨hF, (RepL.mono (le296) q6838), (le296)⟩
    replace hF := hF.2 q6953
    refine .skip (.seqN (.seq (.seq (.region (.V (ld1 rfl tO85 (cellB (off := 0) (k := 6) rfl rfl)) ?_)))))
    refine .V (ln rfl tS85.is) ?_
    refine .V bi0 ?_
    refine .nil (.seqN ?_)
    refine .cond rfl (fun q6955 => ?_) (fun q6955 => ?_)
    ·replace hF := hF.1 q6955
     refine .seq (.region ?_)
     refine st (p := pv) (off := 0) (k := 3) (vs := [.slice none 0 0]) rfl rfl rfl (fun w => (tO22 w).2) rfl rfl rfl rfl ?_
     refine .KA [Box pkey2 [.slice a7 ((gt x.ops t9).pre.length) c4, .slice a8 ((gt x.ops t9).add.length) c5, .slice a9 ((gt x.ops t9).del.length) c6, iV ((gt x.ops t9).cost)], LA .busy none, Box pkey [.func (.func 17) #[] #[]], Box pv [.slice none 0 0], Box pv2 [.bool false], Box pv3 [.bool false], Box pqueue [vSl al4 l4 cl4], Box pseen [.map (some bv)], Box p [iV x3], MkA (D :: dl), OwnSl 84 3 al4 l4.length cl4 csl3, OwnMap bv m3] ?_
     refine st (p := pv2) (off := 0) (k := 4) (vs := [.bool false]) rfl rfl rfl (fun w => (tO4 w).2) rfl rfl rfl rfl ?_
     refine .KA [Box pkey2 [.slice a7 ((gt x.ops t9).pre.length) c4, .slice a8 ((gt x.ops t9).add.length) c5, .slice a9 ((gt x.ops t9).del.length) c6, iV ((gt x.ops t9).cost)], LA .busy none, Box pkey [.func (.func 17) #[] #[]], Box pv [.slice none 0 0], Box pv2 [.bool false], Box pv3 [.bool false], Box pqueue [vSl al4 l4 cl4], Box pseen [.map (some bv)], Box p [iV x3], MkA (D :: dl), OwnSl 84 3 al4 l4.length cl4 csl3, OwnMap bv m3] ?_
     refine st (p := pv3) (off := 0) (k := 5) (vs := [.bool false]) rfl rfl rfl (fun w => (tO4 w).2) rfl rfl rfl rfl ?_
     refine .KA [Box pkey2 [.slice a7 ((gt x.ops t9).pre.length) c4, .slice a8 ((gt x.ops t9).add.length) c5, .slice a9 ((gt x.ops t9).del.length) c6, iV ((gt x.ops t9).cost)], LA .busy none, Box pkey [.func (.func 17) #[] #[]], Box pv [.slice none 0 0], Box pv2 [.bool false], Box pv3 [.bool false], Box pqueue [vSl al4 l4 cl4], Box pseen [.map (some bv)], Box p [iV x3], MkA (D :: dl), OwnSl 84 3 al4 l4.length cl4 csl3, OwnMap bv m3] ?_
     refine .nil (.seqN (.ret (.seqR (.blkR ?_))))
     refine .rdR (k := 1) q6774 rfl q6949 rfl ?_
     refine .KA [Box pkey2 [.slice a7 ((gt x.ops t9).pre.length) c4, .slice a8 ((gt x.ops t9).add.length) c5, .slice a9 ((gt x.ops t9).del.length) c6, iV ((gt x.ops t9).cost)], LA .done (some .ret), Box pkey [.func (.func 17) #[] #[]], Box pv [.slice none 0 0], Box pv2 [.bool false], Box pv3 [.bool false], Box pqueue [vSl al4 l4 cl4], Box pseen [.map (some bv)], Box p [iV x3], MkA (D :: dl), OwnSl 84 3 al4 l4.length cl4 csl3, OwnMap bv m3] ?_
     refine .GV (nt rfl) q6944 ?_
     refine .V (pkT rfl q6944 rfl) ?_
     refine .nil (.seqN ?_)
     refine .cond rfl (fun _ => ?_) (fun e => absurd (e.symm.trans rfl) (by decide))
     refine .ret (.blkR (.seqR (.seqR (.blkR ?_))))
     refine .res0 (.inl rfl) rfl (range_jump (k := 1) q6774 rfl q6775 ?_)
     refine .KA [Box pkey2 [.slice a7 ((gt x.ops t9).pre.length) c4, .slice a8 ((gt x.ops t9).add.length) c5, .slice a9 ((gt x.ops t9).del.length) c6, iV ((gt x.ops t9).cost)], tru, Box pkey [.func (.func 17) #[] #[]], Box pv [.slice none 0 0], Box pv2 [.bool false], Box pv3 [.bool false], Box pqueue [vSl al4 l4 cl4], Box pseen [.map (some bv)], Box p [iV x3], MkA (D :: dl), OwnSl 84 3 al4 l4.length cl4 csl3, OwnMap bv m3] ?_
     refine .ret (.blkR (.blkR (.seqR (.seqR (.blkR (.seqR ?_))))))
     refine .resM (k := 9) rfl ?_
     refine .res3 rfl (rvC1 rfl tO22 (k := 3) rfl) (rvC1 rfl tO4 (k := 4) rfl) (rvC1 rfl tO4 (k := 5) rfl) (fun w' S => ⟨(([] : List Int), false, false), (none, 0), h296, hF, rfl, (FH.le_trans (FH.le_trans (FH.le_trans (q4677) (le283)) (q6839)) (le296)), ⟨RSl.nil_, (Nat.le_refl 0)⟩, S.none⟩)
    replace hF := hF.2 q6955
    refine .skip (.seqN (.seq (.region (.V (ld1 rfl tO86 (cellB (off := 0) (k := 7) rfl rfl)) ?_))))
    refine .V mv0 ?_
    refine mu tM86 rfl rfl rfl (kk := 11) rfl ?_
    refine .KA [Box pkey2 [.slice a7 ((gt x.ops t9).pre.length) c4, .slice a8 ((gt x.ops t9).add.length) c5, .slice a9 ((gt x.ops t9).del.length) c6, iV ((gt x.ops t9).cost)], LA .busy none, Box pkey [.func (.func 17) #[] #[]], Box pv [.slice none 0 0], Box pv2 [.bool false], Box pv3 [.bool false], Box pqueue [vSl al4 l4 cl4], Box pseen [.map (some bv)], Box p [iV x3], MkA (D :: dl), OwnSl 84 3 al4 l4.length cl4 csl3, OwnMap bv (upd m3 r8 1)] ?_
    refine .nil (.seqN (.region (.V (ld1 rfl tO85 (cellB (off := 0) (k := 6) rfl rfl)) ?_)))
    refine .V mv0 ?_
    refine .V (ld1 rfl tO3 (cellB (off := 0) (k := 8) rfl rfl)) ?_
    refine .V mv0 ?_
    refine .V (bld (cs := #[vSl a10 r7 c7, iV x3, iV t9]) (pv := [(0, vSl a10 r7 c7), (1, iV x3), (2, iV t9)]) tB84 rfl rfl) ?_
    refine bs2 (cs := #[vSl a10 r7 c7, iV x3, iV t9]) (pv := [(0, .agg #[vSl a10 r7 c7, iV x3, iV t9])]) tS85 rfl rfl (by decide) (by decide) rfl rfl rfl (fun a11 _ => ?_)
    refine .KA [OwnSl 84 3 a11 (([(⟨r7, x3, t9⟩ : Entry)] : List Entry).length) 1 [vSl a10 r7 c7, iV x3, iV t9], Box pkey2 [.slice a7 ((gt x.ops t9).pre.length) c4, .slice a8 ((gt x.ops t9).add.length) c5, .slice a9 ((gt x.ops t9).del.length) c6, iV ((gt x.ops t9).cost)], LA .busy none, Box pkey [.func (.func 17) #[] #[]], Box pv [.slice none 0 0], Box pv2 [.bool false], Box pv3 [.bool false], Box pqueue [vSl al4 l4 cl4], Box pseen [.map (some bv)], Box p [iV x3], MkA (D :: dl), OwnSl 84 3 al4 l4.length cl4 csl3, OwnMap bv (upd m3 r8 1)] ?_
    obtain ⟨q6957, hF⟩ := hF
    have q6958 : l4.length + ([(⟨r7, x3, t9⟩ : Entry)] : List Entry).length = ((l4 ++ ([(⟨r7, x3, t9⟩ : Entry)] : List Entry))).length := len_app rfl rfl
    have q6959 := RepL.append (RepL.mono (le296) q6838) (show RepL h296 ([(⟨r7, x3, t9⟩ : Entry)] : List Entry) [.slice a10 r7.length c7, iV x3, iV t9] from ⟨[.slice a10 r7.length c7, iV x3, iV t9], _, rfl, ⟨a10, c7, rfl, ⟨q6948, q6947⟩⟩, rfl⟩)
    refine app (k := 11) (news := [vSl a10 r7 c7, iV x3, iV t9]) (cs' := (csl3 ++ [vSl a10 r7 c7, iV x3, iV t9])) (nm := ((l4 ++ ([(⟨r7, x3, t9⟩ : Entry)] : List Entry))).length) tS85 rfl (by decide) rfl rfl rfl (RepL.len (show RepL h296 ([(⟨r7, x3, t9⟩ : Entry)] : List Entry) [vSl a10 r7 c7, iV x3, iV t9] from ⟨[vSl a10 r7 c7, iV x3, iV t9], _, rfl, ⟨a10, c7, rfl, ⟨q6948, q6947⟩⟩, rfl⟩)) (srcS (k := 0) rfl) (RepL.one (show RepL h296 ([(⟨r7, x3, t9⟩ : Entry)] : List Entry) [vSl a10 r7 c7, iV x3, iV t9] from ⟨[vSl a10 r7 c7, iV x3, iV t9], _, rfl, ⟨a10, c7, rfl, ⟨q6948, q6947⟩⟩, rfl⟩)) (room_of q6958 q6957).1 (room_of q6958 q6957).2 q6958 rfl rfl (fun a12 c8 => ?_)
    refine .KA [OwnSl 84 3 a11 (([(⟨r7, x3, t9⟩ : Entry)] : List Entry).length) 1 [vSl a10 r7 c7, iV x3, iV t9], Box pkey2 [.slice a7 ((gt x.ops t9).pre.length) c4, .slice a8 ((gt x.ops t9).add.length) c5, .slice a9 ((gt x.ops t9).del.length) c6, iV ((gt x.ops t9).cost)], LA .busy none, Box pkey [.func (.func 17) #[] #[]], Box pv [.slice none 0 0], Box pv2 [.bool false], Box pv3 [.bool false], Box pqueue [vSl al4 l4 cl4], Box pseen [.map (some bv)], Box p [iV x3], MkA (D :: dl), OwnSl 84 3 a12 ((l4 ++ ([(⟨r7, x3, t9⟩ : Entry)] : List Entry)).length) c8 (csl3 ++ [vSl a10 r7 c7, iV x3, iV t9]), OwnMap bv (upd m3 r8 1)] ?_
    refine st (p := pqueue) (off := 0) (k := 7) (vs := [.slice a12 ((l4 ++ ([(⟨r7, x3, t9⟩ : Entry)] : List Entry)).length) c8]) rfl rfl rfl (fun w => (tO85 w).2) rfl rfl rfl rfl ?_
    refine .KA [OwnSl 84 3 a11 (([(⟨r7, x3, t9⟩ : Entry)] : List Entry).length) 1 [vSl a10 r7 c7, iV x3, iV t9], Box pkey2 [.slice a7 ((gt x.ops t9).pre.length) c4, .slice a8 ((gt x.ops t9).add.length) c5, .slice a9 ((gt x.ops t9).del.length) c6, iV ((gt x.ops t9).cost)], LA .busy none, Box pkey [.func (.func 17) #[] #[]], Box pv [.slice none 0 0], Box pv2 [.bool false], Box pv3 [.bool false], Box pqueue [.slice a12 ((l4 ++ ([(⟨r7, x3, t9⟩ : Entry)] : List Entry)).length) c8], Box pseen [.map (some bv)], Box p [iV x3], MkA (D :: dl), OwnSl 84 3 a12 ((l4 ++ ([(⟨r7, x3, t9⟩ : Entry)] : List Entry)).length) c8 (csl3 ++ [vSl a10 r7 c7, iV x3, iV t9]), OwnMap bv (upd m3 r8 1)] ?_
    refine .nil (.blkN ?_)
    refine .rdN (k := 2) q6774 rfl q6949 rfl ?_
    refine .KA [OwnSl 84 3 a11 (([(⟨r7, x3, t9⟩ : Entry)] : List Entry).length) 1 [vSl a10 r7 c7, iV x3, iV t9], Box pkey2 [.slice a7 ((gt x.ops t9).pre.length) c4, .slice a8 ((gt x.ops t9).add.length) c5, .slice a9 ((gt x.ops t9).del.length) c6, iV ((gt x.ops t9).cost)], LA .ready none, Box pkey [.func (.func 17) #[] #[]], Box pv [.slice none 0 0], Box pv2 [.bool false], Box pv3 [.bool false], Box pqueue [.slice a12 ((l4 ++ ([(⟨r7, x3, t9⟩ : Entry)] : List Entry)).length) c8], Box pseen [.map (some bv)], Box p [iV x3], MkA (D :: dl), OwnSl 84 3 a12 ((l4 ++ ([(⟨r7, x3, t9⟩ : Entry)] : List Entry)).length) c8 (csl3 ++ [vSl a10 r7 c7, iV x3, iV t9]), OwnMap bv (upd m3 r8 1)] ?_
    refine .GV (nt rfl) q6944 ?_
    refine .V (pkT rfl q6944 rfl) ?_
    refine .nil (.seqN ?_)
    refine .cond rfl (fun e => absurd (e.symm.trans rfl) (by decide)) (fun _ => ?_)
    refine .skip (.blkN ?_)
    refine .sel0 [2, 3, 4, 5, 6, 7, 8, 9, 10, 11, 12] (by decide) rfl ?_
    exact .US q6933 ((l4 ++ ([(⟨r7, x3, t9⟩ : Entry)] : List Entry)), (upd m3 r8 1), a12, c8, (csl3 ++ [vSl a10 r7 c7, iV x3, iV t9]), h296) ⟨hF, q6959, (le296)⟩
   replace hF := hF.2 q6944
   refine .GS q6944 ?_
   refine .GS q6944 ?_
   refine .GS q6944 ?_
   refine .GS q6944 ?_
   refine .GS q6944 ?_
   refine .GS q6944 ?_
   refine .GS q6944 ?_
   refine .GS q6944 ?_
   refine .V (pkF rfl q6944 rfl) ?_
   refine .nil (.seqN ?_)
   refine .cond rfl (fun e => absurd (e.symm.trans rfl) (by decide)) (fun _ => ?_)
   refine .skip (.blkN ?_)
   refine .sel0 [1, 2, 3, 4, 5, 6, 7, 8, 9, 10, 11] (by decide) rfl ?_
   exact .US q6933 (l4, m3, al4, cl4, csl3, h289) ⟨hF, q6838, (FH.le_refl _)⟩
  replace hF := hF.2 q6904
  refine .exit (.seqX (.seqX (.blkX ?_)))
  refine .res0 (.inr rfl) rfl (range_done (k := 0) q6774 rfl q6775 ?_)
  refine .KA [tru, Box pkey [.func (.func 17) #[] #[]], Box pv [.slice none 0 0], Box pv2 [.bool false], Box pv3 [.bool false], Box pqueue [vSl al4 l4 cl4], Box pseen [.map (some bv)], Box p [iV x3], MkA (D :: dl), OwnSl 84 3 al4 l4.length cl4 csl3, OwnMap bv m3] ?_
  refine .blkN (.blkN (.seqN (.seq (.seq (.region (.V (ld1 rfl tO3 (cellB (off := 0) (k := 7) rfl rfl)) ?_))))))
  refine .nil (.seqN (.region ?_))
  refine al tZ3 rfl (fun pat2 => ?_)
  refine st (p := pat2) (off := 0) (k := 0) (vs := [iV x3]) rfl rfl rfl (fun w => (tO3 w).2) rfl rfl rfl rfl ?_
  refine .KA [Box pat2 [iV x3], tru, Box pkey [.func (.func 17) #[] #[]], Box pv [.slice none 0 0], Box pv2 [.bool false], Box pv3 [.bool false], Box pqueue [vSl al4 l4 cl4], Box pseen [.map (some bv)], Box p [iV x3], MkA (D :: dl), OwnSl 84 3 al4 l4.length cl4 csl3, OwnMap bv m3] ?_
  refine .nil (.seqN (.region (.V (ld1 rfl tO3 (cellB (off := 0) (k := 0) rfl rfl)) ?_)))
  refine .V bi0 ?_
  refine st (p := pat2) (off := 0) (k := 0) (vs := [iV (wr (x3 + 1))]) rfl rfl rfl (fun w => (tO3 w).2) rfl rfl rfl rfl ?_
  refine .KA [Box pat2 [iV (wr (x3 + 1))], tru, Box pkey [.func (.func 17) #[] #[]], Box pv [.slice none 0 0], Box pv2 [.bool false], Box pv3 [.bool false], Box pqueue [vSl al4 l4 cl4], Box pseen [.map (some bv)], Box p [iV x3], MkA (D :: dl), OwnSl 84 3 al4 l4.length cl4 csl3, OwnMap bv m3] ?_
  refine .nil ?_
  refine .sel0 [2, 3, 4, 5, 6, 7, 0, 9, 10, 11] (by decide) rfl ?_
  exact .roundN (wr (x3 + 1), l4, m3, pat2, D :: dl, al4, cl4, csl3, h289) ⟨hF.1, q6838, (FH.le_trans (FH.le_trans (q4677) (le283)) (q6839))⟩ hF.2 rfl sb rfl (FH.le_refl _)
 replace hF := hF.2 q5822
 refine .exit (.seqX (.seqX (.blkX (.seqN (.seq (.region ?_))))))
 refine st (p := pv) (off := 0) (k := 1) (vs := [.slice none 0 0]) rfl rfl rfl (fun w => (tO22 w).2) rfl rfl rfl rfl ?_
 refine .KA [Box pkey [.func (.func 17) #[] #[]], Box pv [.slice none 0 0], Box pv2 [.bool false], Box pv3 [.bool false], Box pqueue [vSl al2 l cl2], Box pseen [.map (some bv)], Box p [iV x3], MkA dl, OwnSl 84 3 al2 l.length cl2 csl, OwnMap bv m] ?_
 refine st (p := pv2) (off := 0) (k := 2) (vs := [.bool false]) rfl rfl rfl (fun w => (tO4 w).2) rfl rfl rfl rfl ?_
 refine .KA [Box pkey [.func (.func 17) #[] #[]], Box pv [.slice none 0 0], Box pv2 [.bool false], Box pv3 [.bool false], Box pqueue [vSl al2 l cl2], Box pseen [.map (some bv)], Box p [iV x3], MkA dl, OwnSl 84 3 al2 l.length cl2 csl, OwnMap bv m] ?_
 refine st (p := pv3) (off := 0) (k := 3) (vs := [.bool true]) rfl rfl rfl (fun w => (tO4 w).2) rfl rfl rfl rfl ?_
 refine .KA [Box pkey [.func (.func 17) #[] #[]], Box pv [.slice none 0 0], Box pv2 [.bool false], Box pv3 [.bool true], Box pqueue [vSl al2 l cl2], Box pseen [.map (some bv)], Box p [iV x3], MkA dl, OwnSl 84 3 al2 l.length cl2 csl, OwnMap bv m] ?_
 refine .nil (.seqN (.ret ?_))
 refine .resM (k := 7) rfl ?_
 refine .res3 rfl (rvC1 rfl tO22 (k := 1) rfl) (rvC1 rfl tO4 (k := 2) rfl) (rvC1 rfl tO4 (k := 3) rfl) (fun w' S => ⟨(([] : List Int), false, true), (none, 0), h199, hF, rfl, (q4677), ⟨RSl.nil_, (Nat.le_refl 0)⟩, S.none⟩)
theorem c_breadthP {h : FH} {w : World} (hs : Sub h w) (ht : TabH Tryz.prog h) (start2 : List (List Int)) (astart2 : Option Addr) (cstart2 : Nat) (_q1 : RSl h astart2 start2) (_q2 : start2.length ≤ cstart2) (x : Task) (ax : Option Addr) (cx : Nat) (_q3 : RSl h ax x.init) (_q4 : x.init.length ≤ cx) (ax2 : Option Addr) (cx2 : Nat) (_q5 : RSl h ax2 x.goal) (_q6 : x.goal.length ≤ cx2) (ax3 : Option Addr) (cx3 : Nat) (_q7 : RSl h ax3 x.ops) (_q8 : x.ops.length ≤ cx3) (px : Addr) (_q9 : CellsAt h px [iV x.facts, .slice ax x.init.length cx, .slice ax2 x.goal.length cx2, .slice ax3 x.ops.length cx3]) (x2 : Task) (ax22 : Option Addr) (cx22 : Nat) (_q10 : RSl h ax22 x2.init) (_q11 : x2.init.length ≤ cx22) (ax23 : Option Addr) (cx23 : Nat) (_q12 : RSl h ax23 x2.goal) (_q13 : x2.goal.length ≤ cx23) (ax24 : Option Addr) (cx24 : Nat) (_q14 : RSl h ax24 x2.ops) (_q15 : x2.ops.length ≤ cx24) (px2 : Addr) (_q16 : CellsAt h px2 [iV x2.facts, .slice ax22 x2.init.length cx22, .slice ax23 x2.goal.length cx23, .slice ax24 x2.ops.length cx24]) (hp : pre_breadthP start2 x x2) : Calls Tryz.prog 18 #[.slice astart2 start2.length cstart2, .func (.func 17) #[] #[], .func (.func 39) #[] #[.pointer (some px)], .func (.func 19) #[] #[.pointer (some px2)]] w fun e w' => ∃ (z : Option Addr × Nat) (h1 : FH), e = .returned (.tuple #[.slice z.1 (sp_breadthP start2 x x2).1.length z.2, .bool (sp_breadthP start2 x x2).2.1, .bool (sp_breadthP start2 x x2).2.2]) ∧ FH.le h h1 ∧ (RSl h1 z.1 (sp_breadthP start2 x x2).1 ∧ (sp_breadthP start2 x x2).1.length ≤ z.2) ∧ SH (Kp.all w h) h1 w' [] :=
 (w_breadthP hs ht start2 astart2 cstart2 _q1 _q2  x ax cx _q3 _q4 ax2 cx2 _q5 _q6 ax3 cx3 _q7 _q8 px _q9 x2 ax22 cx22 _q10 _q11 ax23 cx23 _q12 _q13 ax24 cx24 _q14 _q15 px2 _q16 (fun r => r = sp_breadthP start2 x x2) (ok_breadthP start2 x x2 hp)).mono fun _ _ ⟨r, z, h1, hk, he, hl, hf, hS⟩ => by subst hk; exact ⟨z, h1, he, hl, hf, hS⟩
end Go.Proofs.YtimillpakjgnoaaGreatDoor.Pl

namespace Go.Proofs.YtimillpakjgnoaaGreatDoor.Pl
open Go Go.RowKit
theorem w_small {h : FH} {w : World} (hs : Sub h w) (ht : TabH Tryz.prog h) (start2 : List (List Int)) (astart2 : Option Addr) (cstart2 : Nat) (_q1 : RSl h astart2 start2) (_q2 : start2.length ≤ cstart2) (x : Task) (ax : Option Addr) (cx : Nat) (_q3 : RSl h ax x.init) (_q4 : x.init.length ≤ cx) (ax2 : Option Addr) (cx2 : Nat) (_q5 : RSl h ax2 x.goal) (_q6 : x.goal.length ≤ cx2) (ax3 : Option Addr) (cx3 : Nat) (_q7 : RSl h ax3 x.ops) (_q8 : x.ops.length ≤ cx3) (px : Addr) (_q9 : CellsAt h px [iV x.facts, .slice ax x.init.length cx, .slice ax2 x.goal.length cx2, .slice ax3 x.ops.length cx3]) (K : Bool → Prop) (hF : F_small start2 x K) : Calls Tryz.prog 15 #[.slice astart2 start2.length cstart2, .func (.func 17) #[] #[], .func (.func 39) #[] #[.pointer (some px)]] w fun e w' => ∃ r : Bool, K r ∧ e = .returned (.bool r) ∧ Below w.heap.size w w' := by
 refine enter (args := [vSl astart2 start2 cstart2, .func (.func 17) #[] #[], .func (.func 39) #[] #[.pointer (some px)]]) Tryz.func15 rfl Tryz.ntmps15 rfl hs ?_
 refine .seq (.region (.V ag0 ?_))
 refine .nil (.seqN (.seq (.region (.V mv0 ?_))))
 refine .V mv0 ?_
 refine .V mv0 ?_
 obtain ⟨q10, hF⟩ := hF
 obtain ⟨r2, q11⟩ : ∃ y_ : List Int × Bool × Bool, y_ = sp_breadthS start2 x := ⟨_, rfl⟩
 replace hF := hF r2 q11
 refine clR (α := Option Addr × Nat) (Φ := fun h1 z => RSl h1 z.1 r2.1 ∧ r2.1.length ≤ z.2) (V := fun z => .tuple #[vSl z.1 r2.1 z.2, .bool r2.2.1, .bool r2.2.2]) Tryz.call18 rfl rfl (fun w S => (by rw [q11]; exact c_breadthS S.sub (ht.mono (FH.le_refl _)) start2 astart2 cstart2 _q1 _q2 x ax cx _q3 _q4 ax2 cx2 _q5 _q6 ax3 cx3 _q7 _q8 px (CellsAt.mono (FH.le_refl _) _q9) q10)) rfl (fun z h1 le1 hz => ?_)
 obtain ⟨a, c⟩ := z
 obtain ⟨q12, q13⟩ := hz
 refine .V mv0 ?_
 refine .V (ext rfl rfl) ?_
 refine .V (ext rfl rfl) ?_
 refine .V (ext rfl rfl) ?_
 refine .V ag0 ?_
 refine .V ag0 ?_
 refine .V ag0 ?_
 refine .nil (.seqN (.seq (.region (.V mv0 ?_))))
 refine .V ag0 ?_
 refine .nil (.seqN (.ret ?_))
 refine .res1 rfl (rvT rfl) (fun w' S => ⟨r2.2.2, hF, rfl, S.below⟩)
theorem c_small {h : FH} {w : World} (hs : Sub h w) (ht : TabH Tryz.prog h) (start2 : List (List Int)) (astart2 : Option Addr) (cstart2 : Nat) (_q1 : RSl h astart2 start2) (_q2 : start2.length ≤ cstart2) (x : Task) (ax : Option Addr) (cx : Nat) (_q3 : RSl h ax x.init) (_q4 : x.init.length ≤ cx) (ax2 : Option Addr) (cx2 : Nat) (_q5 : RSl h ax2 x.goal) (_q6 : x.goal.length ≤ cx2) (ax3 : Option Addr) (cx3 : Nat) (_q7 : RSl h ax3 x.ops) (_q8 : x.ops.length ≤ cx3) (px : Addr) (_q9 : CellsAt h px [iV x.facts, .slice ax x.init.length cx, .slice ax2 x.goal.length cx2, .slice ax3 x.ops.length cx3]) (hp : pre_small start2 x) : Calls Tryz.prog 15 #[.slice astart2 start2.length cstart2, .func (.func 17) #[] #[], .func (.func 39) #[] #[.pointer (some px)]] w fun e w' => e = .returned (.bool (sp_small start2 x)) ∧ Below w.heap.size w w' :=
 (w_small hs ht start2 astart2 cstart2 _q1 _q2  x ax cx _q3 _q4 ax2 cx2 _q5 _q6 ax3 cx3 _q7 _q8 px _q9 (fun r => r = sp_small start2 x) (ok_small start2 x hp)).mono fun _ _ ⟨_, hk, he, hb⟩ => ⟨by rw [he, hk], hb⟩
set_option maxHeartbeats 8000000 in
theorem w_bplan {h : FH} {w : World} (hs : Sub h w) (ht : TabH Tryz.prog h) (t : Task) (at_ : Option Addr) (ct : Nat) (_q1 : RSl h at_ t.init) (_q2 : t.init.length ≤ ct) (at_2 : Option Addr) (ct2 : Nat) (_q3 : RSl h at_2 t.goal) (_q4 : t.goal.length ≤ ct2) (at_3 : Option Addr) (ct3 : Nat) (_q5 : RSl h at_3 t.ops) (_q6 : t.ops.length ≤ ct3) (unknown : List Int) (aunknown : Option Addr) (cunknown : Nat) (_q7 : RSl h aunknown unknown) (_q8 : unknown.length ≤ cunknown) (K : (List Int × Bool × Fault) → Prop) (hF : F_bplan t unknown K) : Calls Tryz.prog 5 #[.agg #[iV t.facts, .slice at_ t.init.length ct, .slice at_2 t.goal.length ct2, .slice at_3 t.ops.length ct3], .slice aunknown unknown.length cunknown] w fun e w' => ∃ (r : List Int × Bool × Fault) (z : Option Addr × Nat) (h1 : FH), K r ∧ e = .returned (.tuple #[.slice z.1 r.1.length z.2, .bool r.2.1, .agg #[iV r.2.2.code, iV r.2.2.index]]) ∧ FH.le h h1 ∧ (RSl h1 z.1 r.1 ∧ r.1.length ≤ z.2) ∧ SH (Kp.all w h) h1 w' [] := by
 refine enter (args := [.agg (tF t at_ ct at_2 ct2 at_3 ct3).toArray, vSl aunknown unknown cunknown]) Tryz.func5 rfl Tryz.ntmps5 rfl hs ?_
 refine .seq (.region ?_)
 refine bx (vs := (tF t at_ ct at_2 ct2 at_3 ct3)) rfl rfl rfl (fun pt => ?_)
 refine .V ag0 ?_
 refine .V ag0 ?_
 refine al tZ27 rfl (fun pv => ?_)
 refine .nil (.seqN (.seq (.seq (.region (.V (ldA (cs := (tF t at_ ct at_2 ct2 at_3 ct3)) rfl tA25 rfl (cellsB (off := 0) (k := 1) rfl (m := 4) rfl)) ?_)))))
 refine .V mv0 ?_
 obtain ⟨r2, q9⟩ : ∃ y_ : Fault, y_ = sp_unknownFault t unknown := ⟨_, rfl⟩
 replace hF := hF r2 q9
 refine .C (cl (v := .agg #[iV r2.code, iV r2.index]) Tryz.call13 rfl rfl (fun w S => (by rw [q9]; exact c_unknownFault S.sub t at_ ct _q1 _q2 at_2 ct2 _q3 _q4 at_3 ct3 _q5 _q6 unknown aunknown cunknown _q7 _q8 ))) ?_
 refine al tZ27 rfl (fun pf => ?_)
 refine st (p := pf) (off := 0) (k := 0) (vs := [iV r2.code, iV r2.index]) rfl rfl rfl (fun w => (tA27 w).2) rfl rfl rfl rfl ?_
 refine .KA [Box pf [iV r2.code, iV r2.index], Box pv [iV 0, iV 0], Box pt (tF t at_ ct at_2 ct2 at_3 ct3)] ?_
 refine .nil (.seqN (.seq (.region (.V (ldA (cs := [iV r2.code, iV r2.index]) rfl tA27 rfl (cellsB (off := 0) (k := 0) rfl (m := 2) rfl)) ?_))))
 refine .V (bld (cs := #[iV 0, iV 0]) (pv := []) tB27 rfl rfl) ?_
 refine .V (ne2 tE27 rfl rfl) ?_
 refine .nil (.seqN ?_)
 refine .cond rfl (fun q11 => ?_) (fun q11 => ?_)
 ·replace hF := hF.1 q11
  refine .seq ?_
  refine .openL (by kernel_rfl) rfl (by kernel_rfl) (by kernel_rfl) ?_
  refine .V (ldA (cs := [iV r2.code, iV r2.index]) rfl tA27 rfl (cellsB (off := 0) (k := 0) rfl (m := 2) rfl)) ?_
  refine .V ag0 ?_
  refine .V ag0 ?_
  refine .tail ?_
  refine st (p := pv) (off := 0) (k := 1) (vs := [iV r2.code, iV r2.index]) rfl rfl rfl (fun w => (tA27 w).2) rfl rfl rfl rfl ?_
  refine .KA [Box pf [iV r2.code, iV r2.index], Box pv [iV r2.code, iV r2.index], Box pt (tF t at_ ct at_2 ct2 at_3 ct3)] ?_
  refine .nil (.seqN (.ret (.seqR ?_)))
  refine .res3 rfl (rvT rfl) (rvT rfl) (rvC rfl tA27 (k := 1) rfl rfl) (fun w' S => ⟨(([] : List Int), false, r2), (none, 0), h, hF, rfl, (FH.le_refl _), ⟨RSl.nil_, (Nat.le_refl 0)⟩, S.none⟩)
 replace hF := hF.2 q11
 refine .skip (.seqN (.seq (.region (.V (ldA (cs := (tF t at_ ct at_2 ct2 at_3 ct3)) rfl tA25 rfl (cellsB (off := 0) (k := 2) rfl (m := 4) rfl)) ?_))))
 obtain ⟨r3, q12⟩ : ∃ y_ : Unit, y_ = sp_bnext t := ⟨_, rfl⟩
 replace hF := hF r3 q12
 refine clR (α := Addr) (Φ := fun h1 z => CellsAt h1 z (tF t at_ ct at_2 ct2 at_3 ct3)) (V := fun z => .func (.func 39) #[] #[.pointer (some z)]) Tryz.call14 rfl rfl (fun w S => (by exact c_bnext S.sub t at_ ct _q1 _q2 at_2 ct2 _q3 _q4 at_3 ct3 _q5 _q6 )) rfl (fun z h1 le1 hz => ?_)
 obtain ⟨p, rfl⟩ : ∃ y_, y_ = z := ⟨_, rfl⟩
 have q13 := hz
 refine .V ag0 ?_
 refine .nil (.seqN (.seq (.seq (.region (.V (ldA (cs := (tF t at_ ct at_2 ct2 at_3 ct3)) rfl tA25 rfl (cellsB (off := 0) (k := 2) rfl (m := 4) rfl)) ?_)))))
 refine .V mv0 ?_
 obtain ⟨q14, hF⟩ := hF
 obtain ⟨r4, q15⟩ : ∃ y_ : List (List Int), y_ = sp_worlds t unknown := ⟨_, rfl⟩
 replace hF := hF r4 q15
 refine clR (α := Option Addr × Nat) (Φ := fun h1 z => RSl h1 z.1 r4 ∧ r4.length ≤ z.2) (V := fun z => vSl z.1 r4 z.2) Tryz.call16 rfl rfl (fun w S => (by rw [q15]; exact c_worlds S.sub t at_ ct (_q1.mono (le1)) _q2 at_2 ct2 (_q3.mono (le1)) _q4 at_3 ct3 (_q5.mono (le1)) _q6 unknown aunknown cunknown (_q7.mono (le1)) _q8 q14)) rfl (fun z h2 le2 hz => ?_)
 obtain ⟨a, c⟩ := z
 obtain ⟨q16, q17⟩ := hz
 refine .V mv0 ?_
 obtain ⟨q18, hF⟩ := hF
 obtain ⟨r5, q19⟩ : ∃ y_ : Bool, y_ = sp_small r4 t := ⟨_, rfl⟩
 replace hF := hF r5 q19
 refine .C (cl (v := .bool r5) Tryz.call15 rfl rfl (fun w S => (by rw [q19]; exact c_small S.sub (ht.mono (FH.le_trans (le1) (le2))) r4 a c q16 q17 t at_ ct (_q1.mono (FH.le_trans (le1) (le2))) _q2 at_2 ct2 (_q3.mono (FH.le_trans (le1) (le2))) _q4 at_3 ct3 (_q5.mono (FH.le_trans (le1) (le2))) _q6 p (CellsAt.mono (le2) q13) q18))) ?_
 refine .V (nt rfl) ?_
 refine .nil (.seqN ?_)
 refine .cond rfl (fun q21 => ?_) (fun q21 => ?_)
 ·replace hF := hF.1 q21
  refine .seq (.region (.V (bld (cs := #[iV 10, iV (-7)]) (pv := [(0, iV 10), (1, iV (-7))]) tB27 rfl rfl) ?_))
  refine .V ag0 ?_
  refine .V ag0 ?_
  refine st (p := pv) (off := 0) (k := 1) (vs := [iV 10, iV (-7)]) rfl rfl rfl (fun w => (tA27 w).2) rfl rfl rfl rfl ?_
  refine .KA [Box pf [iV r2.code, iV r2.index], Box pv [iV 10, iV (-7)], Box pt (tF t at_ ct at_2 ct2 at_3 ct3)] ?_
  refine .nil (.seqN (.ret (.seqR ?_)))
  refine .res3 rfl (rvT rfl) (rvT rfl) (rvC rfl tA27 (k := 1) rfl rfl) (fun w' S => ⟨(([] : List Int), false, (⟨10, (-7)⟩ : Fault)), (none, 0), h2, hF, rfl, (FH.le_trans (le1) (le2)), ⟨RSl.nil_, (Nat.le_refl 0)⟩, S.none⟩)
 replace hF := hF.2 q21
 refine .skip (.seqN (.seq (.region (.V (ldA (cs := (tF t at_ ct at_2 ct2 at_3 ct3)) rfl tA25 rfl (cellsB (off := 0) (k := 2) rfl (m := 4) rfl)) ?_))))
 refine .V mv0 ?_
 obtain ⟨r6, q22⟩ : ∃ y_ : List (List Int), y_ = sp_worlds t unknown := ⟨_, rfl⟩
 replace hF := hF r6 q22
 refine clR (α := Option Addr × Nat) (Φ := fun h1 z => RSl h1 z.1 r6 ∧ r6.length ≤ z.2) (V := fun z => vSl z.1 r6 z.2) Tryz.call16 rfl rfl (fun w S => (by rw [q22]; exact c_worlds S.sub t at_ ct (_q1.mono (FH.le_trans (le1) (le2))) _q2 at_2 ct2 (_q3.mono (FH.le_trans (le1) (le2))) _q4 at_3 ct3 (_q5.mono (FH.le_trans (le1) (le2))) _q6 unknown aunknown cunknown (_q7.mono (FH.le_trans (le1) (le2))) _q8 q14)) rfl (fun z h3 le3 hz => ?_)
 obtain ⟨a2, c2⟩ := z
 obtain ⟨q23, q24⟩ := hz
 refine .V mv0 ?_
 refine .V (mkf (vf := []) (vc := [.pointer (some pt)]) rfl rfl) ?_
 refine .freezeBx (k := 2) rfl (fun h4 le4 q25 => ?_)
 refine .KA [Box pf [iV r2.code, iV r2.index], Box pv [iV 0, iV 0], tru] ?_
 obtain ⟨q26, hF⟩ := hF
 obtain ⟨r7, q27⟩ : ∃ y_ : List Int × Bool × Bool, y_ = sp_breadthP r6 t t := ⟨_, rfl⟩
 replace hF := hF r7 q27
 refine clR (α := Option Addr × Nat) (Φ := fun h1 z => RSl h1 z.1 r7.1 ∧ r7.1.length ≤ z.2) (V := fun z => .tuple #[vSl z.1 r7.1 z.2, .bool r7.2.1, .bool r7.2.2]) Tryz.call18 rfl rfl (fun w S => (by rw [q27]; exact c_breadthP S.sub (ht.mono (FH.le_trans (FH.le_trans (FH.le_trans (le1) (le2)) (le3)) (le4))) r6 a2 c2 (q23.mono (le4)) q24 t at_ ct (_q1.mono (FH.le_trans (FH.le_trans (FH.le_trans (le1) (le2)) (le3)) (le4))) _q2 at_2 ct2 (_q3.mono (FH.le_trans (FH.le_trans (FH.le_trans (le1) (le2)) (le3)) (le4))) _q4 at_3 ct3 (_q5.mono (FH.le_trans (FH.le_trans (FH.le_trans (le1) (le2)) (le3)) (le4))) _q6 p (CellsAt.mono (FH.le_trans (FH.le_trans (le2) (le3)) (le4)) q13) t at_ ct (_q1.mono (FH.le_trans (FH.le_trans (FH.le_trans (le1) (le2)) (le3)) (le4))) _q2 at_2 ct2 (_q3.mono (FH.le_trans (FH.le_trans (FH.le_trans (le1) (le2)) (le3)) (le4))) _q4 at_3 ct3 (_q5.mono (FH.le_trans (FH.le_trans (FH.le_trans (le1) (le2)) (le3)) (le4))) _q6 pt (CellsAt.mono (FH.le_refl _) q25) q26)) rfl (fun z h5 le5 hz => ?_)
 obtain ⟨a3, c3⟩ := z
 obtain ⟨q28, q29⟩ := hz
 refine .V mv0 ?_
 refine .V (ext rfl rfl) ?_
 refine .V (ext rfl rfl) ?_
 refine .V (ext rfl rfl) ?_
 refine .V ag0 ?_
 refine .V ag0 ?_
 refine .V ag0 ?_
 refine .nil (.seqN (.seq (.seq (.region (.V mv0 ?_)))))
 refine .V (ln rfl tS22.is) ?_
 refine .V bi0 ?_
 refine .nil (.seqN ?_)
 refine .cond rfl (fun q31 => ?_) (fun q31 => ?_)
 ·replace hF := hF.1 q31
  refine .seq (.region (.V (bld (cs := #[iV 10, iV (-5)]) (pv := [(0, iV 10), (1, iV (-5))]) tB27 rfl rfl) ?_))
  refine .V ag0 ?_
  refine .V ag0 ?_
  refine st (p := pv) (off := 0) (k := 1) (vs := [iV 10, iV (-5)]) rfl rfl rfl (fun w => (tA27 w).2) rfl rfl rfl rfl ?_
  refine .KA [Box pf [iV r2.code, iV r2.index], Box pv [iV 10, iV (-5)], tru] ?_
  refine .nil (.seqN (.ret (.seqR ?_)))
  refine .res3 rfl (rvT rfl) (rvT rfl) (rvC rfl tA27 (k := 1) rfl rfl) (fun w' S => ⟨(([] : List Int), false, (⟨10, (-5)⟩ : Fault)), (none, 0), h5, hF, rfl, (FH.le_trans (FH.le_trans (FH.le_trans (FH.le_trans (le1) (le2)) (le3)) (le4)) (le5)), ⟨RSl.nil_, (Nat.le_refl 0)⟩, S.none⟩)
 replace hF := hF.2 q31
 refine .skip (.seqN (.seq (.region (.V mv0 ?_))))
 refine .V mv0 ?_
 refine .V (bld (cs := #[iV 0, iV 0]) (pv := []) tB27 rfl rfl) ?_
 refine .V ag0 ?_
 refine .V ag0 ?_
 refine st (p := pv) (off := 0) (k := 1) (vs := [iV 0, iV 0]) rfl rfl rfl (fun w => (tA27 w).2) rfl rfl rfl rfl ?_
 refine .KA [Box pf [iV r2.code, iV r2.index], Box pv [iV 0, iV 0], tru] ?_
 refine .nil (.seqN (.ret ?_))
 refine .res3 rfl (rvT rfl) (rvT rfl) (rvC rfl tA27 (k := 1) rfl rfl) (fun w' S => ⟨(r7.1, r7.2.1, (⟨0, 0⟩ : Fault)), (a3, c3), h5, hF, rfl, (FH.le_trans (FH.le_trans (FH.le_trans (FH.le_trans (le1) (le2)) (le3)) (le4)) (le5)), ⟨q28, q29⟩, S.none⟩)
theorem c_bplan {h : FH} {w : World} (hs : Sub h w) (ht : TabH Tryz.prog h) (t : Task) (at_ : Option Addr) (ct : Nat) (_q1 : RSl h at_ t.init) (_q2 : t.init.length ≤ ct) (at_2 : Option Addr) (ct2 : Nat) (_q3 : RSl h at_2 t.goal) (_q4 : t.goal.length ≤ ct2) (at_3 : Option Addr) (ct3 : Nat) (_q5 : RSl h at_3 t.ops) (_q6 : t.ops.length ≤ ct3) (unknown : List Int) (aunknown : Option Addr) (cunknown : Nat) (_q7 : RSl h aunknown unknown) (_q8 : unknown.length ≤ cunknown) : Calls Tryz.prog 5 #[.agg #[iV t.facts, .slice at_ t.init.length ct, .slice at_2 t.goal.length ct2, .slice at_3 t.ops.length ct3], .slice aunknown unknown.length cunknown] w fun e w' => ∃ (z : Option Addr × Nat) (h1 : FH), e = .returned (.tuple #[.slice z.1 (sp_bplan t unknown).1.length z.2, .bool (sp_bplan t unknown).2.1, .agg #[iV (sp_bplan t unknown).2.2.code, iV (sp_bplan t unknown).2.2.index]]) ∧ FH.le h h1 ∧ (RSl h1 z.1 (sp_bplan t unknown).1 ∧ (sp_bplan t unknown).1.length ≤ z.2) ∧ SH (Kp.all w h) h1 w' [] :=
 (w_bplan hs ht t at_ ct _q1 _q2 at_2 ct2 _q3 _q4 at_3 ct3 _q5 _q6 unknown aunknown cunknown _q7 _q8 (fun r => r = sp_bplan t unknown) (ok_bplan t unknown)).mono fun _ _ ⟨r, z, h1, hk, he, hl, hf, hS⟩ => by subst hk; exact ⟨z, h1, he, hl, hf, hS⟩
theorem w_ints {h : FH} {w : World} (hs : Sub h w) (a : List Int) (aa : Option Addr) (ca : Nat) (_q1 : RSl h aa a) (_q2 : a.length ≤ ca) (b : List Int) (ab : Option Addr) (cb : Nat) (_q3 : RSl h ab b) (_q4 : b.length ≤ cb) (K : Bool → Prop) (hF : F_ints a b K) : Calls Tryz.prog 27 #[.slice aa a.length ca, .slice ab b.length cb] w fun e w' => ∃ r : Bool, K r ∧ e = .returned (.bool r) ∧ Below w.heap.size w w' := by
 refine enter (args := [vSl aa a ca, vSl ab b cb]) Tryz.func27 rfl Tryz.ntmps27 rfl hs ?_
 refine .seq (.region (.V ag0 ?_))
 refine .nil (.seqN (.seq (.seq (.region (.V mv0 ?_)))))
 refine .V (ln rfl tS22.is) ?_
 refine .V mv0 ?_
 refine .V (ln rfl tS22.is) ?_
 refine .V bi0 ?_
 refine .nil (.seqN ?_)
 refine .cond rfl (fun q6 => ?_) (fun q6 => ?_)
 ·replace hF := hF.1 q6
  refine .seq (.region (.V ag0 ?_))
  refine .nil (.seqN (.ret (.seqR ?_)))
  refine .res1 rfl (rvT rfl) (fun w' S => ⟨false, hF, rfl, S.below⟩)
 replace hF := hF.2 q6
 refine .skip (.seqN (.seq (.seq (.region (.V ag0 ?_)))))
 refine .nil (.seqN (.block ?_))
 obtain ⟨I1, μ1, q64, q65⟩ := hF
 refine .loop' (σ := Int) (fun z => I1 z) (fun z => μ1 z) (fun z => [(0, vSl aa a ca), (1, vSl ab b cb), (5, iV z)]) (fun _ => []) (fun _ => h) 0 q64 sb rfl (FH.le_refl _) ?_
 rintro i q64
 have hF := q65 i q64
 show J _ _ _ _ _ [(0, vSl aa a ca), (1, vSl ab b cb), (5, iV i)] [] h
 refine .seq (.seq (.region (.V mv0 ?_)))
 refine .V mv0 ?_
 refine .V (ln rfl tS22.is) ?_
 refine .V bi0 ?_
 refine .nil (.seqN ?_)
 refine .cond rfl (fun q67 => ?_) (fun q67 => ?_)
 ·replace hF := hF.1 q67
  refine .skip (.seqN (.seq (.block (.seq ?_))))
  refine .open_ (by kernel_rfl) (by kernel_rfl) ?_
  refine .V mv0 ?_
  refine .V mv0 ?_
  obtain ⟨q74, hF⟩ := hF
  refine .V (ix rfl rfl tS22 (_q1.ne (by decide) (inb_pos q74)) q74) ?_
  refine .V (ld1 (v := iV (gt a i)) rfl tO3 (cellH (_q1.elemF q74 (by decide) 0 _ rfl))) ?_
  refine .V mv0 ?_
  refine .V mv0 ?_
  obtain ⟨q75, hF⟩ := hF
  refine .V (ix rfl rfl tS22 (_q3.ne (by decide) (inb_pos q75)) q75) ?_
  refine .V (ld1 (v := iV (gt b i)) rfl tO3 (cellH (_q3.elemF q75 (by decide) 0 _ rfl))) ?_
  refine .V bi0 ?_
  refine .fin ?_
  refine .seqN ?_
  refine .cond rfl (fun q76 => ?_) (fun q76 => ?_)
  ·replace hF := hF.1 q76
   refine .seq (.region (.V ag0 ?_))
   refine .nil (.seqN (.ret (.blkR (.seqR (.seqR (.blkR (.seqR ?_)))))))
   refine .res1 rfl (rvT rfl) (fun w' S => ⟨false, hF, rfl, S.below⟩)
  replace hF := hF.2 q76
  refine .skip (.blkN (.seqN (.region (.V mv0 ?_))))
  refine .V bi0 ?_
  refine .V ag0 ?_
  refine .nil ?_
  exact .RO (wr (i + 1)) hF.1 hF.2
 replace hF := hF.2 q67
 refine .exit (.seqX (.seqX (.blkX (.seqN (.seq (.region (.V ag0 ?_)))))))
 refine .nil (.seqN (.ret ?_))
 refine .res1 rfl (rvT rfl) (fun w' S => ⟨true, hF, rfl, S.below⟩)
theorem c_ints {h : FH} {w : World} (hs : Sub h w) (a : List Int) (aa : Option Addr) (ca : Nat) (_q1 : RSl h aa a) (_q2 : a.length ≤ ca) (b : List Int) (ab : Option Addr) (cb : Nat) (_q3 : RSl h ab b) (_q4 : b.length ≤ cb) (hp : pre_ints a b) : Calls Tryz.prog 27 #[.slice aa a.length ca, .slice ab b.length cb] w fun e w' => e = .returned (.bool (sp_ints a b)) ∧ Below w.heap.size w w' :=
 (w_ints hs a aa ca _q1 _q2 b ab cb _q3 _q4 (fun r => r = sp_ints a b) (ok_ints a b hp)).mono fun _ _ ⟨_, hk, he, hb⟩ => ⟨by rw [he, hk], hb⟩
theorem w_word {h : FH} {w : World} (hs : Sub h w) (s_ : List Int) (as_ : Option Addr) (cs_ : Nat) (_q1 : RSl h as_ s_) (_q2 : s_.length ≤ cs_) (K : Int → Prop) (hF : F_word s_ K) : Calls Tryz.prog 73 #[.slice as_ s_.length cs_] w fun e w' => ∃ r : Int, K r ∧ e = .returned (.int .u32 r) ∧ Below w.heap.size w w' := by
 refine enter (args := [vSl as_ s_ cs_]) Tryz.func73 rfl Tryz.ntmps73 rfl hs ?_
 refine .seq (.region (.V ag0 ?_))
 refine .nil (.seqN (.seq (.region (.V ag0 ?_))))
 refine .nil (.seqN (.seq (.seq (.region (.V mv0 ?_)))))
 refine .V (ln rfl tS22.is) ?_
 refine .V mv0 ?_
 refine .nil (.seqN (.block ?_))
 obtain ⟨I1, μ1, q65, q66⟩ := hF
 refine .loop' (σ := Int × Int) (fun z => I1 z.1 z.2) (fun z => μ1 z.1 z.2) (fun z => [(3, .int .u32 z.1), (6, vSl as_ s_ cs_), (7, iV ((s_.length : Nat) : Int)), (8, iV z.2)]) (fun _ => []) (fun _ => h) (0, 0) q65 sb rfl (FH.le_refl _) ?_
 rintro ⟨w_, t8⟩ q65
 have hF := q66 w_ t8 q65
 show J _ _ _ _ _ [(3, .int .u32 w_), (6, vSl as_ s_ cs_), (7, iV ((s_.length : Nat) : Int)), (8, iV t8)] [] h
 refine .seq (.region (.V bi0 ?_))
 refine .nil (.seqN (.seq ?_))
 refine .cond rfl (fun q69 => ?_) (fun q69 => ?_)
 ·replace hF := hF.1 q69
  refine .skip (.seqN (.seq (.block (.seq (.region ?_)))))
  obtain ⟨q76, hF⟩ := hF
  refine .V (ix rfl rfl tS22 (_q1.ne (by decide) (inb_pos q76)) q76) ?_
  refine .V (ld1 (v := iV (gt s_ t8)) rfl tO3 (cellH (_q1.elemF q76 (by decide) 0 _ rfl))) ?_
  refine .V ag0 ?_
  refine .nil (.seqN (.region (.V mv0 ?_)))
  refine .V mv0 ?_
  obtain ⟨q77, hF⟩ := hF
  obtain ⟨x, q78⟩ : ∃ y_ : Int, y_ = (IntKind.u32.wrap (1 * 2 ^ (min (((gt s_ t8) : Int)).toNat (IntKind.bits .u32)))) := ⟨_, rfl⟩
  replace hF := hF x q78
  refine .v (v := .int .u32 x) (by rw [q78]; exact bsh rfl rfl q77 rfl) rfl rfl rfl ?_
  refine .V bi0 ?_
  refine .V ag0 ?_
  refine .nil (.blkN (.seqN (.region (.V bi0 ?_))))
  refine .V mv0 ?_
  refine .nil ?_
  exact .RO (bits .or .u32 w_ x, wr (t8 + 1)) hF.1 hF.2
 replace hF := hF.2 q69
 refine .exit (.seqX (.seqX (.blkX (.seqN (.seq (.region (.V mv0 ?_)))))))
 refine .V ag0 ?_
 refine .nil (.seqN (.ret ?_))
 refine .res1 rfl (rvT rfl) (fun w' S => ⟨w_, hF, rfl, S.below⟩)
theorem c_word {h : FH} {w : World} (hs : Sub h w) (s_ : List Int) (as_ : Option Addr) (cs_ : Nat) (_q1 : RSl h as_ s_) (_q2 : s_.length ≤ cs_) (hp : pre_word s_) : Calls Tryz.prog 73 #[.slice as_ s_.length cs_] w fun e w' => e = .returned (.int .u32 (sp_word s_)) ∧ Below w.heap.size w w' :=
 (w_word hs s_ as_ cs_ _q1 _q2 (fun r => r = sp_word s_) (ok_word s_ hp)).mono fun _ _ ⟨_, hk, he, hb⟩ => ⟨by rw [he, hk], hb⟩
theorem w_facts {h : FH} {w : World} (hs : Sub h w) (w_ : Int) (K : (List Int) → Prop) (hF : F_facts w_ K) : Calls Tryz.prog 52 #[.int .u32 w_] w fun e w' => ∃ (r : List Int) (z : Option Addr × Nat) (h1 : FH), K r ∧ e = .returned (.slice z.1 r.length z.2) ∧ FH.le h h1 ∧ (RSl h1 z.1 r ∧ r.length ≤ z.2) ∧ SH (Kp.all w h) h1 w' [] := by
 refine enter (args := [.int .u32 w_]) Tryz.func52 rfl Tryz.ntmps52 rfl hs ?_
 refine .seq (.region (.V ag0 ?_))
 refine .nil (.seqN (.seq (.region (.V ag0 ?_))))
 refine .nil (.seqN (.seq (.seq (.region (.V mv0 ?_)))))
 refine .nil (.seqN (.block ?_))
 refine .nilSl 3 1 ?_
 refine .KA [oL 3 1 none ([] : List Int) 0] ?_
 obtain ⟨I1, μ1, q73, q74⟩ := hF
 refine .loop' (σ := Int × List Int × Option Addr × Nat) (fun z => I1 z.1 z.2.1) (fun z => μ1 z.1 z.2.1) (fun z => [(0, .int .u32 w_), (3, vSl z.2.2.1 z.2.1 z.2.2.2), (5, iV z.1)]) (fun z => [oL 3 1 z.2.2.1 z.2.1 z.2.2.2]) (fun _ => h) (0, ([] : List Int), none, 0) q73 sb rfl (FH.le_refl _) ?_
 rintro ⟨t5, out, aout, cout⟩ q73
 have hF := q74 t5 out q73
 show J _ _ _ _ _ [(0, .int .u32 w_), (3, vSl aout out cout), (5, iV t5)] [oL 3 1 aout out cout] h
 refine .seq (.region (.V bi0 ?_))
 refine .nil (.seqN (.seq ?_))
 refine .cond rfl (fun q77 => ?_) (fun q77 => ?_)
 ·replace hF := hF.1 q77
  refine .skip (.seqN ?_)
  refine .share (σ := List Int × Option Addr × Nat) (fun z => F_facts_J1 out t5 I1 μ1 z.1) (fun z => [(0, .int .u32 w_), (3, vSl z.2.1 z.1 z.2.2), (5, iV t5)]) (fun z => [oL 3 1 z.2.1 z.1 z.2.2]) (fun _ => h) ?_ (fun q84 => ?_)
  ·rintro ⟨out3, aout3, cout3⟩ hF
   show J _ _ _ _ _ [(0, .int .u32 w_), (3, vSl aout3 out3 cout3), (5, iV t5)] [oL 3 1 aout3 out3 cout3] h
   refine .region (.V bi0 ?_)
   refine .V mv0 ?_
   refine .nil ?_
   exact .RO (wr (t5 + 1), out3, aout3, cout3) hF.1 hF.2
  refine .block (.seq (.region (.V mv0 ?_)))
  refine .V ag0 ?_
  refine .nil (.seqN (.seq (.region (.V mv0 ?_))))
  refine .V mv0 ?_
  obtain ⟨q85, hF⟩ := hF
  refine .V (bsh rfl rfl q85 rfl) ?_
  obtain ⟨x, q86⟩ : ∃ y_ : Int, y_ = (bits .and .u32 (Int.fdiv w_ (2 ^ (min ((t5 : Int)).toNat (IntKind.bits .u32)))) 1) := ⟨_, rfl⟩
  replace hF := hF x q86
  refine .v (v := .int .u32 x) (by rw [q86]; exact bi rfl rfl rfl) rfl rfl rfl ?_
  refine .V bi0 ?_
  refine .nil (.seqN ?_)
  refine .cond rfl (fun q87 => ?_) (fun q87 => ?_)
  ·replace hF := hF.1 q87
   refine .region (.V mv0 ?_)
   refine .V mv0 ?_
   refine bs2 (cs := #[iV t5]) (pv := [(0, iV t5)]) tS22 rfl rfl (by decide) (by decide) rfl rfl rfl (fun a _ => ?_)
   refine .KA [oL 3 1 a ([t5] : List Int) 1, oL 3 1 aout out cout] ?_
   obtain ⟨q89, hF⟩ := hF
   have q90 : out.length + ([t5] : List Int).length = ((out ++ ([t5] : List Int))).length := len_app rfl rfl
   refine app (k := 1) (news := flL ([t5] : List Int)) (cs' := flL (out ++ ([t5] : List Int))) (nm := ((out ++ ([t5] : List Int))).length) tS22 rfl (by decide) rfl rfl rfl ((flL_len _).trans rfl) (srcS (k := 0) rfl) (flL_one _) (room_of q90 q89).1 (room_of q90 q89).2 q90 (flL_append _ _).symm rfl (fun a2 c => ?_)
   refine .KA [oL 3 1 a ([t5] : List Int) 1, oL 3 1 a2 (out ++ ([t5] : List Int)) c] ?_
   refine .V ag0 ?_
   refine .nil (.blkN ?_)
   refine .sel0 [1] (by decide) rfl ?_
   exact .US q84 ((out ++ ([t5] : List Int)), a2, c) hF
  replace hF := hF.2 q87
  refine .skip (.blkN ?_)
  exact .US q84 (out, aout, cout) hF
 replace hF := hF.2 q77
 refine .exit (.seqX (.seqX (.blkX (.seqN (.seq (.region (.V mv0 ?_)))))))
 refine .V ag0 ?_
 refine .nil (.seqN ?_)
 refine .freezeL (k := 0) rfl (fun h1 le1 q92 q91 => ?_)
 refine .KA [tru] ?_
 refine .ret ?_
 refine .res1 rfl (rvT rfl) (fun w' S => ⟨out, (aout, cout), h1, hF, rfl, (le1), ⟨(RSl.of q91), (q92)⟩, S.none⟩)
theorem c_facts {h : FH} {w : World} (hs : Sub h w) (w_ : Int) (hp : pre_facts w_) : Calls Tryz.prog 52 #[.int .u32 w_] w fun e w' => ∃ (z : Option Addr × Nat) (h1 : FH), e = .returned (.slice z.1 (sp_facts w_).length z.2) ∧ FH.le h h1 ∧ (RSl h1 z.1 (sp_facts w_) ∧ (sp_facts w_).length ≤ z.2) ∧ SH (Kp.all w h) h1 w' [] :=
 (w_facts hs w_ (fun r => r = sp_facts w_) (ok_facts w_ hp)).mono fun _ _ ⟨r, z, h1, hk, he, hl, hf, hS⟩ => by subst hk; exact ⟨z, h1, he, hl, hf, hS⟩
theorem w_wcmp {h : FH} {w : World} (hs : Sub h w) (a : Int) (b : Int) (K : Int → Prop) (hF : F_wcmp a b K) : Calls Tryz.prog 50 #[.int .u32 a, .int .u32 b] w fun e w' => ∃ r : Int, K r ∧ e = .returned (iV r) ∧ Below w.heap.size w w' := by
 refine enter (args := [.int .u32 a, .int .u32 b]) Tryz.func50 rfl Tryz.ntmps50 rfl hs ?_
 refine .seq (.region (.V ag0 ?_))
 refine .nil (.seqN (.seq (.region (.V mv0 ?_))))
 obtain ⟨q1, hF⟩ := hF
 obtain ⟨r2, q2⟩ : ∃ y_ : List Int, y_ = sp_facts a := ⟨_, rfl⟩
 replace hF := hF r2 q2
 refine clR (α := Option Addr × Nat) (Φ := fun h1 z => RSl h1 z.1 r2 ∧ r2.length ≤ z.2) (V := fun z => vSl z.1 r2 z.2) Tryz.call52 rfl rfl (fun w S => (by rw [q2]; exact c_facts S.sub a q1)) rfl (fun z h1 le1 hz => ?_)
 obtain ⟨a2, c⟩ := z
 obtain ⟨q3, q4⟩ := hz
 refine .V mv0 ?_
 obtain ⟨q5, hF⟩ := hF
 obtain ⟨r3, q6⟩ : ∃ y_ : List Int, y_ = sp_facts b := ⟨_, rfl⟩
 replace hF := hF r3 q6
 refine clR (α := Option Addr × Nat) (Φ := fun h1 z => RSl h1 z.1 r3 ∧ r3.length ≤ z.2) (V := fun z => vSl z.1 r3 z.2) Tryz.call52 rfl rfl (fun w S => (by rw [q6]; exact c_facts S.sub b q5)) rfl (fun z h2 le2 hz => ?_)
 obtain ⟨a3, c2⟩ := z
 obtain ⟨q7, q8⟩ := hz
 obtain ⟨q9, hF⟩ := hF
 obtain ⟨r4, q10⟩ : ∃ y_ : Int, y_ = sp_scompare r2 r3 := ⟨_, rfl⟩
 replace hF := hF r4 q10
 refine .C (cl (v := iV r4) Tryz.call51 rfl rfl (fun w S => (by rw [q10]; exact c_scompare S.sub r2 a2 c (q3.mono (le2)) q4 r3 a3 c2 q7 q8 q9))) ?_
 refine .V ag0 ?_
 refine .nil (.seqN (.ret ?_))
 refine .res1 rfl (rvT rfl) (fun w' S => ⟨r4, hF, rfl, S.below⟩)
theorem c_wcmp {h : FH} {w : World} (hs : Sub h w) (a : Int) (b : Int) (hp : pre_wcmp a b) : Calls Tryz.prog 50 #[.int .u32 a, .int .u32 b] w fun e w' => e = .returned (iV (sp_wcmp a b)) ∧ Below w.heap.size w w' :=
 (w_wcmp hs a b (fun r => r = sp_wcmp a b) (ok_wcmp a b hp)).mono fun _ _ ⟨_, hk, he, hb⟩ => ⟨by rw [he, hk], hb⟩
end Go.Proofs.YtimillpakjgnoaaGreatDoor.Pl

namespace Go.Proofs
open Go.Shelf
def YtimillpakjgnoaaGreatDoor.laysSW_ren : Go.Shelf.Ren := ⟨fun | 6 => 49 | 15 => 75 | 14 => 74 | 28 => 96 | 29 => 97 | 20 => 88 | 21 => 89 | 22 => 90 | 23 => 91 | 24 => 92 | 25 => 93 | 26 => 94 | 27 => 95 | 46 => 125 | 47 => 126 | 48 => 127 | 49 => 128 | 50 => 129 | 57 => 144 | n => n, fun | 22 => 54 | 24 => 60 | 25 => 96 | 3 => 3 | 39 => 138 | 0 => 0 | 53 => 60 | 55 => 148 | 4 => 4 | 46 => 152 | 45 => 151 | 50 => 122 | 5 => 5 | 9 => 9 | 66 => 185 | 70 => 189 | 76 => 213 | 77 => 214 | n => n, fun | n => n⟩
theorem YtimillpakjgnoaaGreatDoor.laysSW : Go.Proofs.SlLaysF.n6 Tryz.prog YtimillpakjgnoaaGreatDoor.laysSW_ren := {
  mixed := by kernel_rfl
  f6 := ⟨Tryz.f49.name, by decide, Tryz.func49.trans (congrArg some (by kernel_rfl))⟩
  f14 := ⟨Tryz.f74.name, by decide, Tryz.func74.trans (congrArg some (by kernel_rfl))⟩
  f15 := Tryz.func75.trans (congrArg some (by kernel_rfl))
  f20 := ⟨Tryz.f88.name, by decide, Tryz.func88.trans (congrArg some (by kernel_rfl))⟩
  f21 := ⟨Tryz.f89.name, by decide, Tryz.func89.trans (congrArg some (by kernel_rfl))⟩
  f22 := ⟨Tryz.f90.name, by decide, Tryz.func90.trans (congrArg some (by kernel_rfl))⟩
  f23 := ⟨Tryz.f91.name, by decide, Tryz.func91.trans (congrArg some (by kernel_rfl))⟩
  f24 := ⟨Tryz.f92.name, by decide, Tryz.func92.trans (congrArg some (by kernel_rfl))⟩
  f25 := ⟨Tryz.f93.name, by decide, Tryz.func93.trans (congrArg some (by kernel_rfl))⟩
  f26 := ⟨Tryz.f94.name, by decide, Tryz.func94.trans (congrArg some (by kernel_rfl))⟩
  f27 := ⟨Tryz.f95.name, by decide, Tryz.func95.trans (congrArg some (by kernel_rfl))⟩
  f28 := Tryz.func96.trans (congrArg some (by kernel_rfl))
  f29 := Tryz.func97.trans (congrArg some (by kernel_rfl))
  f46 := ⟨Tryz.f125.name, by decide, Tryz.func125.trans (congrArg some (by kernel_rfl))⟩
  f47 := Tryz.func126.trans (congrArg some (by kernel_rfl))
  f48 := Tryz.func127.trans (congrArg some (by kernel_rfl))
  f49 := ⟨Tryz.f128.name, by decide, Tryz.func128.trans (congrArg some (by kernel_rfl))⟩
  f50 := ⟨Tryz.f129.name, by decide, Tryz.func129.trans (congrArg some (by kernel_rfl))⟩
  f57 := ⟨Tryz.f144.name, by decide, Tryz.func144.trans (congrArg some (by kernel_rfl))⟩
  t0 := Tryz.underlying0
  a0 := Tryz.isAgg0
  z0 := Tryz.sizeOf0
  v0 := Tryz.zeroValue0
  t3 := Tryz.underlying3
  a3 := Tryz.isAgg3
  z3 := Tryz.sizeOf3
  v3 := Tryz.zeroValue3
  t4 := Tryz.underlying4
  a4 := Tryz.isAgg4
  z4 := Tryz.sizeOf4
  v4 := Tryz.zeroValue4
  t5 := Tryz.underlying5
  a5 := Tryz.isAgg5
  z5 := Tryz.sizeOf5
  v5 := Tryz.zeroValue5
  t9 := Tryz.underlying9
  a9 := Tryz.isAgg9
  z9 := Tryz.sizeOf9
  v9 := Tryz.zeroValue9
  t22 := Tryz.underlying54
  a22 := Tryz.isAgg54
  z22 := Tryz.sizeOf54
  v22 := Tryz.zeroValue54
  a24 := Tryz.isAgg60
  z24 := Tryz.sizeOf60
  t25 := Tryz.underlying96
  a25 := Tryz.isAgg96
  z25 := Tryz.sizeOf96
  v25 := Tryz.zeroValue96
  t39 := Tryz.underlying138
  a39 := Tryz.isAgg138
  z39 := Tryz.sizeOf138
  v39 := Tryz.zeroValue138
  t45 := Tryz.underlying151
  a45 := Tryz.isAgg151
  z45 := Tryz.sizeOf151
  v45 := Tryz.zeroValue151
  t46 := Tryz.underlying152
  a46 := Tryz.isAgg152
  z46 := Tryz.sizeOf152
  v46 := Tryz.zeroValue152
  t50 := Tryz.underlying122
  a50 := Tryz.isAgg122
  z50 := Tryz.sizeOf122
  v50 := Tryz.zeroValue122
  t53 := Tryz.underlying60
  a53 := Tryz.isAgg60
  z53 := Tryz.sizeOf60
  v53 := Tryz.zeroValue60
  t55 := Tryz.underlying148
  a55 := Tryz.isAgg148
  z55 := Tryz.sizeOf148
  v55 := Tryz.zeroValue148
  t66 := Tryz.underlying185
  a66 := Tryz.isAgg185
  z66 := Tryz.sizeOf185
  v66 := Tryz.zeroValue185
  t70 := Tryz.underlying189
  a70 := Tryz.isAgg189
  z70 := Tryz.sizeOf189
  v70 := Tryz.zeroValue189
  t76 := Tryz.underlying213
  a76 := Tryz.isAgg213
  z76 := Tryz.sizeOf213
  v76 := Tryz.zeroValue213
  t77 := Tryz.underlying214
  a77 := Tryz.isAgg214
  z77 := Tryz.sizeOf214
  v77 := Tryz.zeroValue214 }
end Go.Proofs
namespace Go.Proofs.YtimillpakjgnoaaGreatDoor.Pl
open Go Go.RowKit Go.Sort
abbrev UW := {w : Int // U32 w}
instance : Inhabited UW := ⟨⟨0, by decide, by decide⟩⟩
def encU (p : UW) : Value := .int .u32 p.1
def cfU (p q : UW) : Int := sp_wcmp p.1 q.1
theorem wd_self {w : Int} (h : U32 w) : Wd w (fun p => (w.toNat).testBit p.toNat = true) := by
 obtain ⟨n, rfl⟩ : ∃ n : Nat, w = n := ⟨w.toNat, by have := h.1; omega⟩
 exact ⟨n, rfl, by have := h.2; omega, fun i _ => by simp⟩
theorem facts_inj {a b : Int} (ha : U32 a) (hb : U32 b) (e : sp_facts a = sp_facts b) : a = b := by
 refine Wd.unique (wd_self ha) ((wd_self hb).iff fun i hi => ?_)
 have h1 := mem_facts (wd_self ha) (p := (i : Int))
 have h2 := mem_facts (wd_self hb) (p := (i : Int))
 rw [e] at h1
 have h3 : (0 : Int) ≤ i ∧ (i : Int) < 32 := by omega
 constructor
 ·intro q; exact (h1.1 (h2.2 ⟨h3, q⟩)).2
 ·intro q; exact (h2.1 (h1.2 ⟨h3, q⟩)).2
theorem sortW_perm (l : List Int) : (sp_sortW l).Perm l := List.mergeSort_perm _ _
theorem sortW_len (l : List Int) : (sp_sortW l).length = l.length := (sortW_perm l).length_eq
theorem wle_nle (a b : Int) : decide (sp_wcmp a b ≤ 0) = true ↔ Nle (sp_facts a) (sp_facts b) := by
 rw [decide_eq_true_eq]
 unfold sp_wcmp Nle
 have h1 := scompare_before (sp_facts a) (sp_facts b)
 rcases before_tri (sp_facts a) (sp_facts b) with h | h | h
 ·have h2 := h1.1.2 h
  constructor
  ·intro _
   cases e : sp_before (sp_facts b) (sp_facts a) with
   | false => rfl
   | true => have := before_trans _ _ _ h e; rw [before_irr] at this; cases this
  ·intro _; omega
 ·have h2 := h1.2.2 h
  constructor
  ·intro _; rw [h]; exact before_irr _
  ·intro _; omega
 ·constructor
  ·intro q
   by_cases h0 : sp_scompare (sp_facts a) (sp_facts b) = 0
   ·have := h1.2.1 h0
    rw [this, before_irr] at h; cases h
   ·have := h1.1.1 (by omega)
    have := before_trans _ _ _ h this
    rw [before_irr] at this; cases this
  ·intro q; rw [q] at h; cases h
theorem sortW_sorted (l : List Int) : (sp_sortW l).Pairwise fun a b => Nle (sp_facts a) (sp_facts b) := by
 have := List.pairwise_mergeSort (le := fun a b => decide (sp_wcmp a b ≤ 0)) (fun a b c h g => by
  rw [wle_nle] at *
  exact nle_trans h g) (fun a b => by
  rw [Bool.or_eq_true, wle_nle, wle_nle]
  rcases before_tri (sp_facts a) (sp_facts b) with h | h | h
  ·refine .inl ?_
   unfold Nle
   cases e : sp_before (sp_facts b) (sp_facts a) with
   | false => rfl
   | true => have := before_trans _ _ _ h e; rw [before_irr] at this; cases this
  ·refine .inl ?_; rw [h]; exact before_irr _
  ·refine .inr ?_
   unfold Nle
   cases e : sp_before (sp_facts a) (sp_facts b) with
   | false => rfl
   | true => have := before_trans _ _ _ h e; rw [before_irr] at this; cases this) l
 exact this.imp fun h => (wle_nle _ _).1 h
theorem sortW_two {a b : Int} (h : sp_wcmp a b ≤ 0) : sp_sortW [a, b] = [a, b] :=
 List.mergeSort_of_pairwise (by simp [h])
theorem map_inj : ∀ (a b : List Int), (∀ x ∈ a, U32 x) → (∀ x ∈ b, U32 x) → a.map sp_facts = b.map sp_facts → a = b
 | [], [], _, _, _ => rfl
 | [], _ :: _, _, _, h => by simp at h
 | _ :: _, [], _, _, h => by simp at h
 | x :: a, y :: b, ha, hb, h => by
  rw [List.map_cons, List.map_cons, List.cons.injEq] at h
  rw [facts_inj (ha x List.mem_cons_self) (hb y List.mem_cons_self) h.1, map_inj a b (fun z hz => ha z (List.mem_cons_of_mem _ hz)) (fun z hz => hb z (List.mem_cons_of_mem _ hz)) h.2]
theorem wsorted_perm {a b : List Int} (h0 : ∀ x ∈ a, U32 x) (ha : a.Pairwise fun a b => Nle (sp_facts a) (sp_facts b)) (hb : b.Pairwise fun a b => Nle (sp_facts a) (sp_facts b)) (h : a.Perm b) : a = b :=
 map_inj a b h0 (fun x hx => h0 x (h.mem_iff.2 hx)) (sorted_perm _ _ (List.pairwise_map.2 ha) (List.pairwise_map.2 hb) (h.map _))
theorem ltU (p q : UW) : ltOf cfU p q = sp_before (sp_facts p.1) (sp_facts q.1) := by
 unfold ltOf cfU
 rw [Bool.eq_iff_iff, decide_eq_true_eq]
 exact (scompare_before _ _).1
theorem swoU : SWO (ltOf cfU) := ⟨fun x => by rw [ltU]; exact before_irr _, fun x y z h1 h2 => by
 rw [ltU] at *; exact before_trans _ _ _ h1 h2, fun x y z h1 h2 => by
 rw [ltU] at *; exact nle_trans (y := sp_facts y.1) h2 h1⟩
theorem flW : ∀ xs : List Int, flL (α := W32) xs = xs.map (Value.int .u32 ·)
 | [] => rfl
 | x :: r => (flL_append (α := W32) [x] r).trans (congrArg (fun z => [Value.int .u32 x] ++ z) (flW r))
theorem c_sortW {h : FH} {w : World} (hs : Sub h w) (x : List Int) (a : Option Addr) (c : Nat) {gX : FH} (ownX : OwnSl 60 1 a x.length c (flL (α := W32) x) gX) (subX : Sub gX w) (disX : Disj h gX) (hp : pre_sortW x) :
  Calls Tryz.prog 49 #[.slice a x.length c, .func (.func 50) #[] #[]] w fun e w' => e = .returned (.tuple #[]) ∧ SH (Kp.ex w h gX) h w' [OwnSl 60 1 a x.length c (flL (α := W32) (sp_sortW x))] := by
 have own0 := ownX
 obtain ⟨h1, ⟨rfl, h2, rfl, rfl⟩ | ⟨b, cur, rfl, rfl, h4, h5, h6, h7⟩⟩ := ownX
 ·have e : x = [] := List.length_eq_zero_iff.1 h2
  subst e
  refine (AnyF.slices_SortFunc_none { YtimillpakjgnoaaGreatDoor.laysSW with } none 0 _ w).mono fun e w' ⟨he, hw⟩ => ⟨he, ?_⟩
  subst hw
  rw [show sp_sortW [] = [] by simp [sp_sortW]]
  exact SH.startX hs subX disX own0
 ·have hb := subX b _ (FH.one_self _ _)
  have hlt := subX.lt (FH.one_self _ _)
  have hnb : ∀ i, h i ≠ none → b ≠ i := fun i hi q => by
   subst q
   rcases disX b with g | g
   ·exact hi g
   ·rw [FH.one_self] at g; cases g
  obtain ⟨ds, d1⟩ : ∃ ds : List UW, ds.map (·.1) = x := ⟨x.attach.map fun p => ⟨p.1, hp.2 p.1 p.2⟩, by rw [List.map_map]; exact List.attach_map_subtype_val x⟩
  have d2 : ds.map encU = flL (α := W32) x := by rw [flW, ← d1, List.map_map]; rfl
  have hdl : ds.length = x.length := by rw [← d1, List.length_map]
  have hcmp : CmpLays1 Tryz.prog 50 #[] encU cfU b 0 ds.toArray.size w := fun m os dk _ u v => by
   have hsW : Sub h (sortWorld encU w b 0 m dk os) := fun i o ho => by
    have hi := hs.lt ho
    show ((w.heap.modify b (onCells (putCells encU 0 dk))) ++ os)[i]? = _
    rw [Array.getElem?_append_left (by rw [Array.size_modify]; exact hi), Array.getElem?_modify, if_neg (hnb i (by rw [ho]; simp))]
    exact hs i o ho
   exact (Pd.c_wcmp hsW u.1 v.1 trivial).mono fun e w' ⟨he, hb⟩ => ⟨he, grow_of_drawn hb⟩
  have hH : Go.Sort.Holds encU w b 0 ds.toArray := holds_map encU (by
   rw [List.map_toArray, d2]
   exact ownHoldsG hb h1 h7)
  have hsz : ds.toArray.size = x.length := by simpa using hdl
  have key := Any.slices_SortFunc YtimillpakjgnoaaGreatDoor.laysSW encU (fun p => rfl) cfU swoU 50 #[] b 0 c ds.toArray w Tryz.call50 hcmp hH hlt (by rw [hsz]; have := hp.1; omega)
  rw [hsz] at key
  refine key.mono fun e w' ⟨he, d', n, os, hp', hs', hw⟩ => ⟨he, ?_⟩
  subst hw
  obtain ⟨p1, _, p3⟩ := hp'
  have hx1 : d'.extract 0 x.length = d' := by rw [← hsz, ← p1]; exact Array.extract_size
  have hx2 : ds.toArray.extract 0 x.length = ds.toArray := by rw [← hsz]; exact Array.extract_size
  rw [hx1, hx2] at p3
  have hsort : sp_sortW x = d'.toList.map (·.1) := by
   refine wsorted_perm (fun y hy => hp.2 y ((sortW_perm x).mem_iff.1 hy)) (sortW_sorted x) ?_ ?_
   ·rw [List.pairwise_map, List.pairwise_iff_getElem]
    intro i j hi hj hij
    have hsz' : d'.size = x.length := by rw [p1, hsz]
    have hj' : j < d'.size := by simpa using hj
    have := hs' i j (Nat.zero_le _) hij (by omega)
    rw [ltU, getElem!_pos d' j hj', getElem!_pos d' i (by omega)] at this
    exact this
   ·refine (sortW_perm x).trans ?_
    have := (p3.map (fun p : UW => p.1)).symm
    rw [List.toList_toArray, d1] at this
    exact this
  have hrep : d'.toList.map encU = flL (α := W32) (sp_sortW x) := by rw [hsort, flW, List.map_map]; rfl
  have hlen : (d'.toList.map encU).length = x.length * 1 := by
   rw [List.length_map, Array.length_toList, p1, hsz, Nat.mul_one]
  have big := putG (q := n) (os := os) (ds := d'.toList.map encU) (m := x.length) (sz := 1) hs subX disX h5 h6 hlen h4
  unfold sortWorld
  rw [putRow_map]
  have e5 : d'.map encU = (d'.toList.map encU).toArray := by
   apply Array.toList_inj.1; simp
  rw [e5, ← hrep]
  exact big
end Go.Proofs.YtimillpakjgnoaaGreatDoor.Pl

namespace Go.Proofs.YtimillpakjgnoaaGreatDoor.Pl
open Go Go.RowKit
set_option maxHeartbeats 8000000 in
theorem w_all {h : FH} {w : World} (hs : Sub h w) (x : WordsT) (ax : Option Addr) (cx : Nat) (_q1 : RSl h ax x.ops) (_q2 : x.ops.length ≤ cx) (px : Addr) (_q3 : CellsAt h px [.int .u32 x.start, .int .u32 x.goal, .slice ax x.ops.length cx]) (K : (List Int × Bool) → Prop) (hF : F_all x K) : Calls Tryz.prog 48 #[.iface 53 (.pointer (some px))] w fun e w' => ∃ (r : List Int × Bool) (z : Option Addr × Nat) (h1 : FH), K r ∧ e = .returned (.tuple #[.slice z.1 r.1.length z.2, .bool r.2]) ∧ FH.le h h1 ∧ True ∧ SH (Kp.all w h) h1 w' [OwnSl 60 1 z.1 r.1.length z.2 (flL (α := W32) r.1)] := by
 refine enterM (args := [.iface 53 (.pointer (some px))]) Tryz.func48 rfl Tryz.ntmps48 rfl hs ?_
 refine .seq (.region (.V ag0 ?_))
 refine .V ag0 ?_
 refine .nil (.seqN (.seq (.region (.V mv0 ?_))))
 refine .inlI Tryz.func80 rfl Tryz.ntmps80 Tryz.call80 tm53_Start rfl rfl rfl (fun a q4 => ?_)
 refine .seq (.region (.V ag0 ?_))
 refine .nil (.seqN (.seq (.region (.V mv0 ?_))))
 refine .V (nck rfl) ?_
 refine .V (fa rfl tF112_0) ?_
 refine .V (ld1 (v := .int .u32 x.start) rfl tO60 (cellH (CellsAt.mono (FH.le_refl _) _q3 0 _ rfl))) ?_
 refine .V ag0 ?_
 refine .nil (.seqN (.ret ?_))
 refine .res1 rfl (rvT rfl) (inl_back (v := .int .u32 x.start) q4 rfl ?_)
 refine .KA [MkA []] ?_
 refine bs2 (cs := #[.int .u32 x.start]) (pv := [(0, .int .u32 x.start)]) tS54 rfl rfl (by decide) (by decide) rfl rfl rfl (fun a2 _ => ?_)
 refine .KA [OwnSl 60 1 a2 (([x.start] : List Int).length) 1 (flL (α := W32) ([x.start] : List Int)), MkA []] ?_
 refine al tZ54 rfl (fun pstack => ?_)
 refine st (p := pstack) (off := 0) (k := 0) (vs := [.slice a2 (([x.start] : List Int).length) 1]) rfl rfl rfl (fun w => (tO54 w).2) rfl rfl rfl rfl ?_
 refine .KA [Box pstack [.slice a2 (([x.start] : List Int).length) 1], OwnSl 60 1 a2 (([x.start] : List Int).length) 1 (flL (α := W32) ([x.start] : List Int)), MkA []] ?_
 refine .nil (.seqN (.seq (.region ?_)))
 refine mmI .u32 (fun _ : Unit => .agg #[]) rfl (fun bv => ?_)
 refine .KA [OwnMapI bv .u32 (fun _ : Unit => .agg #[]) ([] : List (Int × Unit)), Box pstack [.slice a2 (([x.start] : List Int).length) 1], OwnSl 60 1 a2 (([x.start] : List Int).length) 1 (flL (α := W32) ([x.start] : List Int)), MkA []] ?_
 refine .V mv0 ?_
 refine .inlI Tryz.func80 rfl Tryz.ntmps80 Tryz.call80 tm53_Start rfl rfl rfl (fun a3 q6 => ?_)
 refine .seq (.region (.V ag0 ?_))
 refine .nil (.seqN (.seq (.region (.V mv0 ?_))))
 refine .V (nck rfl) ?_
 refine .V (fa rfl tF112_0) ?_
 refine .V (ld1 (v := .int .u32 x.start) rfl tO60 (cellH (CellsAt.mono (FH.le_refl _) _q3 0 _ rfl))) ?_
 refine .V ag0 ?_
 refine .nil (.seqN (.ret ?_))
 refine .res1 rfl (rvT rfl) (inl_back (v := .int .u32 x.start) q6 rfl ?_)
 refine .KA [OwnMapI bv .u32 (fun _ : Unit => .agg #[]) ([] : List (Int × Unit)), Box pstack [.slice a2 (([x.start] : List Int).length) 1], OwnSl 60 1 a2 (([x.start] : List Int).length) 1 (flL (α := W32) ([x.start] : List Int)), MkA []] ?_
 refine .V (bld (cs := #[]) (pv := []) tB133 rfl rfl) ?_
 refine miI (enc := (fun _ : Unit => .agg #[])) () tMI134 rfl rfl rfl (q := 0) rfl ?_
 obtain ⟨m, q7⟩ : ∃ y_ : List (Int × Unit), y_ = (setA ([] : List (Int × Unit)) x.start ()) := ⟨_, rfl⟩
 replace hF := hF m q7
 refine .cast (A' := [OwnMapI bv .u32 (fun _ : Unit => .agg #[]) m, Box pstack [.slice a2 (([x.start] : List Int).length) 1], OwnSl 60 1 a2 (([x.start] : List Int).length) 1 (flL (α := W32) ([x.start] : List Int)), MkA []]) (by rw [q7]; rfl) ?_
 refine .V mv0 ?_
 refine al tZ134 rfl (fun pseen => ?_)
 refine st (p := pseen) (off := 0) (k := 0) (vs := [.map (some bv)]) rfl rfl rfl (fun w => (tO134 w).2) rfl rfl rfl rfl ?_
 refine .KA [Box pseen [.map (some bv)], OwnMapI bv .u32 (fun _ : Unit => .agg #[]) m, Box pstack [.slice a2 (([x.start] : List Int).length) 1], OwnSl 60 1 a2 (([x.start] : List Int).length) 1 (flL (α := W32) ([x.start] : List Int)), MkA []] ?_
 refine .nil (.seqN (.seq (.region (.V ag0 ?_))))
 refine .nil (.seqN (.seq (.block ?_)))
 refine .nilSl 60 1 ?_
 refine .KA [OwnSl 60 1 none (([] : List Int).length) 0 (flL (α := W32) ([] : List Int)), Box pseen [.map (some bv)], OwnMapI bv .u32 (fun _ : Unit => .agg #[]) m, Box pstack [.slice a2 (([x.start] : List Int).length) 1], OwnSl 60 1 a2 (([x.start] : List Int).length) 1 (flL (α := W32) ([x.start] : List Int)), MkA []] ?_
 refine .sel0 [3, 1, 0, 5, 4, 2] (by decide) rfl ?_
 obtain ⟨I1, μ1, q1355, q1356⟩ := hF
 refine .loopN' (σ := List Int × List Int × List (Int × Unit) × Option Addr × Nat × List Nat × Option Addr × Nat) (fun z => I1 z.1 z.2.1 z.2.2.1) (fun z => μ1 z.1 z.2.1 z.2.2.1) (fun z => ⟨63, none, z.2.2.2.2.2.1⟩) (fun z => [(0, .iface 53 (.pointer (some px))), (4, .pointer (some pstack)), (5, .pointer (some pseen)), (6, vSl z.2.2.2.1 z.1 z.2.2.2.2.1)]) (fun z => [Box pstack [vSl z.2.2.2.2.2.2.1 z.2.1 z.2.2.2.2.2.2.2], Box pseen [.map (some bv)], OwnSl 60 1 z.2.2.2.1 z.1.length z.2.2.2.2.1 (flL (α := W32) z.1), MkA z.2.2.2.2.2.1, OwnSl 60 1 z.2.2.2.2.2.2.1 z.2.1.length z.2.2.2.2.2.2.2 (flL (α := W32) z.2.1), OwnMapI bv .u32 (fun _ : Unit => .agg #[]) z.2.2.1]) (fun _ => h) (([] : List Int), ([x.start] : List Int), m, none, 0, [], a2, 1) q1355 (fun _ => rfl) rfl sb rfl (FH.le_refl _) ?_
 rintro ⟨out, l, m2, aout, cout, dl, al2, cl2⟩ q1355
 have hF := q1356 out l m2 q1355
 show J _ _ ⟨63, none, dl⟩ _ _ [(0, .iface 53 (.pointer (some px))), (4, .pointer (some pstack)), (5, .pointer (some pseen)), (6, vSl aout out cout)] [Box pstack [vSl al2 l cl2], Box pseen [.map (some bv)], OwnSl 60 1 aout out.length cout (flL (α := W32) out), MkA dl, OwnSl 60 1 al2 l.length cl2 (flL (α := W32) l), OwnMapI bv .u32 (fun _ : Unit => .agg #[]) m2] h
 refine .seq (.seq (.region (.V (ld1 rfl tO54 (cellB (off := 0) (k := 0) rfl rfl)) ?_)))
 refine .V (ln rfl tS54.is) ?_
 refine .V bi0 ?_
 refine .nil (.seqN ?_)
 refine .cond rfl (fun q1358 => ?_) (fun q1358 => ?_)
 ·replace hF := hF.1 q1358
  refine .skip (.seqN (.block (.seq (.region (.V (ld1 rfl tO54 (cellB (off := 0) (k := 0) rfl rfl)) ?_)))))
  refine .V (ld1 rfl tO54 (cellB (off := 0) (k := 0) rfl rfl)) ?_
  refine .V (ln rfl tS54.is) ?_
  refine .V bi0 ?_
  obtain ⟨q1359, hF⟩ := hF
  refine .V (ixS rfl rfl tS54 (k := 4) rfl q1359) ?_
  refine .V (ld1 (v := .int .u32 (gt l (wr (((l.length : Nat) : Int) - 1)))) rfl tO60 (cellS (k := 4) rfl (flL_get (α := W32) q1359 (j := 0) rfl))) ?_
  refine .V ag0 ?_
  refine .nil (.seqN (.seq ?_))
  refine .fact (fun w S => look_len S (k := 2) rfl) (fun q1360 => ?_)
  refine .fact (fun w S => look_len S (k := 4) rfl) (fun q1361 => ?_)
  refine .region (.V (ld1 rfl tO54 (cellB (off := 0) (k := 0) rfl rfl)) ?_)
  refine .V (ld1 rfl tO54 (cellB (off := 0) (k := 0) rfl rfl)) ?_
  refine .V (ln rfl tS54.is) ?_
  refine .V bi0 ?_
  obtain ⟨q1362, hF⟩ := hF
  obtain ⟨d, q1363⟩ : ∃ y_ : List Int, y_ = (l.take (wr (((l.length : Nat) : Int) - 1)).toNat) := ⟨_, rfl⟩
  replace hF := hF d q1363
  have q1364 : d.length = (wr (((l.length : Nat) : Int) - 1)).toNat := by rw [q1363]; exact len_take rfl (Int.toNat_le.2 q1362.2)
  refine .v (v := .slice al2 (List.length d) cl2) (by rw [q1364]; exact slH tS54 rfl rfl q1362.1 rfl (Nat.le_trans (Int.toNat_le.2 q1362.2) q1361)) rfl rfl rfl ?_
  refine .shrink (k := 4) (m' := d.length) (cs' := flL (α := W32) d) rfl (by rw [q1364]; exact (Int.toNat_le.2 q1362.2)) (by rw [q1364, Nat.mul_one, q1363]; exact flL_take _ _ rfl) ?_
  refine .KA [Box pstack [vSl al2 l cl2], Box pseen [.map (some bv)], OwnSl 60 1 aout out.length cout (flL (α := W32) out), MkA dl, OwnSl 60 1 al2 d.length cl2 (flL (α := W32) d), OwnMapI bv .u32 (fun _ : Unit => .agg #[]) m2] ?_
  refine st (p := pstack) (off := 0) (k := 0) (vs := [vSl al2 d cl2]) rfl rfl rfl (fun w => (tO54 w).2) rfl rfl rfl rfl ?_
  refine .KA [Box pstack [vSl al2 d cl2], Box pseen [.map (some bv)], OwnSl 60 1 aout out.length cout (flL (α := W32) out), MkA dl, OwnSl 60 1 al2 d.length cl2 (flL (α := W32) d), OwnMapI bv .u32 (fun _ : Unit => .agg #[]) m2] ?_
  refine .nil (.seqN (.seq (.region (.V mv0 ?_))))
  refine .V mv0 ?_
  refine bs2 (cs := #[.int .u32 (gt l (wr (((l.length : Nat) : Int) - 1)))]) (pv := [(0, .int .u32 (gt l (wr (((l.length : Nat) : Int) - 1))))]) tS54 rfl rfl (by decide) (by decide) rfl rfl rfl (fun a4 _ => ?_)
  refine .KA [OwnSl 60 1 a4 (([(gt l (wr (((l.length : Nat) : Int) - 1)))] : List Int).length) 1 (flL (α := W32) ([(gt l (wr (((l.length : Nat) : Int) - 1)))] : List Int)), Box pstack [vSl al2 d cl2], Box pseen [.map (some bv)], OwnSl 60 1 aout out.length cout (flL (α := W32) out), MkA dl, OwnSl 60 1 al2 d.length cl2 (flL (α := W32) d), OwnMapI bv .u32 (fun _ : Unit => .agg #[]) m2] ?_
  obtain ⟨q1366, hF⟩ := hF
  have q1367 : out.length + ([(gt l (wr (((l.length : Nat) : Int) - 1)))] : List Int).length = ((out ++ ([(gt l (wr (((l.length : Nat) : Int) - 1)))] : List Int))).length := len_app rfl rfl
  refine app (k := 3) (news := flL (α := W32) ([(gt l (wr (((l.length : Nat) : Int) - 1)))] : List Int)) (cs' := flL (α := W32) (out ++ ([(gt l (wr (((l.length : Nat) : Int) - 1)))] : List Int))) (nm := ((out ++ ([(gt l (wr (((l.length : Nat) : Int) - 1)))] : List Int))).length) tS54 rfl (by decide) rfl rfl rfl ((flL_len _).trans rfl) (srcS (k := 0) rfl) (flL_one _) (room_of q1367 q1366).1 (room_of q1367 q1366).2 q1367 (flL_append _ _).symm rfl (fun a5 c => ?_)
  refine .KA [OwnSl 60 1 a4 (([(gt l (wr (((l.length : Nat) : Int) - 1)))] : List Int).length) 1 (flL (α := W32) ([(gt l (wr (((l.length : Nat) : Int) - 1)))] : List Int)), Box pstack [vSl al2 d cl2], Box pseen [.map (some bv)], OwnSl 60 1 a5 ((out ++ ([(gt l (wr (((l.length : Nat) : Int) - 1)))] : List Int)).length) c (flL (α := W32) (out ++ ([(gt l (wr (((l.length : Nat) : Int) - 1)))] : List Int))), MkA dl, OwnSl 60 1 al2 d.length cl2 (flL (α := W32) d), OwnMapI bv .u32 (fun _ : Unit => .agg #[]) m2] ?_
  refine .V ag0 ?_
  refine .nil (.seqN (.seq (.seq (.region (.V mv0 ?_)))))
  refine .V mv0 ?_
  refine .inlI Tryz.func101 rfl Tryz.ntmps101 Tryz.call101 tm53_Steps rfl rfl rfl (fun a6 q1368 => ?_)
  refine .seq (.region ?_)
  refine bx (vs := [.pointer (some px)]) rfl rfl rfl (fun pw => ?_)
  refine bx (vs := [.int .u32 (gt l (wr (((l.length : Nat) : Int) - 1)))]) rfl rfl rfl (fun ps => ?_)
  refine .V ag0 ?_
  refine .nil (.seqN (.seq (.region (.V (mkf (vf := []) (vc := [.pointer (some pw), .pointer (some ps)]) rfl rfl) ?_))))
  refine .V ag0 ?_
  refine .nil (.seqN (.ret ?_))
  refine .res1 rfl (rvT rfl) (inl_back (v := .func (.func 132) #[] #[.pointer (some pw), .pointer (some ps)]) q1368 rfl ?_)
  refine .KA [Box ps [.int .u32 (gt l (wr (((l.length : Nat) : Int) - 1)))], Box pw [.pointer (some px)], OwnSl 60 1 a4 (([(gt l (wr (((l.length : Nat) : Int) - 1)))] : List Int).length) 1 (flL (α := W32) ([(gt l (wr (((l.length : Nat) : Int) - 1)))] : List Int)), Box pstack [vSl al2 d cl2], Box pseen [.map (some bv)], OwnSl 60 1 a5 ((out ++ ([(gt l (wr (((l.length : Nat) : Int) - 1)))] : List Int)).length) c (flL (α := W32) (out ++ ([(gt l (wr (((l.length : Nat) : Int) - 1)))] : List Int))), MkA dl, OwnSl 60 1 al2 d.length cl2 (flL (α := W32) d), OwnMapI bv .u32 (fun _ : Unit => .agg #[]) m2] ?_
  refine .nil (.seqN (.block ?_))
  refine .sub (s' := [(0, .iface 53 (.pointer (some px))), (4, .pointer (some pstack)), (5, .pointer (some pseen)), (6, .slice a5 ((out ++ ([(gt l (wr (((l.length : Nat) : Int) - 1)))] : List Int)).length) c), (39, .func (.func 132) #[] #[.pointer (some pw), .pointer (some ps)])]) sb ?_
  refine .rangeF (k := 6) (caps := [.pointer (some pw), .pointer (some ps)]) rfl rfl Tryz.func132 rfl Tryz.ntmps132 rfl Tryz.call132 (fun l3 D LA a7 q1447 q1448 => ?_)
  refine .KA [LA .ready none, Box ps [.int .u32 (gt l (wr (((l.length : Nat) : Int) - 1)))], Box pw [.pointer (some px)], OwnSl 60 1 a4 (([(gt l (wr (((l.length : Nat) : Int) - 1)))] : List Int).length) 1 (flL (α := W32) ([(gt l (wr (((l.length : Nat) : Int) - 1)))] : List Int)), Box pstack [vSl al2 d cl2], Box pseen [.map (some bv)], OwnSl 60 1 a5 ((out ++ ([(gt l (wr (((l.length : Nat) : Int) - 1)))] : List Int)).length) c (flL (α := W32) (out ++ ([(gt l (wr (((l.length : Nat) : Int) - 1)))] : List Int))), MkA (D :: dl), OwnSl 60 1 al2 d.length cl2 (flL (α := W32) d), OwnMapI bv .u32 (fun _ : Unit => .agg #[]) m2] ?_
  refine .seq (.region (.V (ld1 rfl tO53 (cellB (off := 0) (k := 2) rfl rfl)) ?_))
  refine .V (nck rfl) ?_
  refine .V (fa rfl tF112_2) ?_
  refine .V (ld1 (v := vSl ax x.ops cx) rfl tO110 (cellH (CellsAt.mono (FH.le_refl _) _q3 2 _ rfl))) ?_
  refine .V (ln rfl tS110.is) ?_
  refine .V mv0 ?_
  refine .nil (.seqN (.block ?_))
  refine .sel0 [0, 1, 4, 5, 6, 2, 7, 8, 9] (by decide) rfl ?_
  obtain ⟨I2, μ2, q1499, q1500⟩ := hF
  refine .loop' (σ := Int × List Int × List (Int × Unit) × Option Addr × Nat) (fun z => I2 z.1 z.2.1 z.2.2.1) (fun z => μ2 z.1 z.2.1 z.2.2.1) (fun z => [(0, .func (.yield l3) #[] #[]), (2, .pointer (some ps)), (9, vSl ax x.ops cx), (10, iV ((x.ops.length : Nat) : Int)), (11, iV z.1)]) (fun z => [LA .ready none, Box ps [.int .u32 (gt l (wr (((l.length : Nat) : Int) - 1)))], Box pstack [vSl z.2.2.2.1 z.2.1 z.2.2.2.2], Box pseen [.map (some bv)], OwnSl 60 1 a5 ((out ++ ([(gt l (wr (((l.length : Nat) : Int) - 1)))] : List Int)).length) c (flL (α := W32) (out ++ ([(gt l (wr (((l.length : Nat) : Int) - 1)))] : List Int))), Box pw [.pointer (some px)], MkA (D :: dl), OwnSl 60 1 z.2.2.2.1 z.2.1.length z.2.2.2.2 (flL (α := W32) z.2.1), OwnMapI bv .u32 (fun _ : Unit => .agg #[]) z.2.2.1]) (fun _ => h) (0, d, m2, al2, cl2) q1499 sb rfl (FH.le_refl _) ?_
  rintro ⟨t11, l4, m4, al4, cl4⟩ q1499
  have hF := q1500 t11 l4 m4 q1499
  show J _ _ _ _ _ [(0, .func (.yield l3) #[] #[]), (2, .pointer (some ps)), (9, vSl ax x.ops cx), (10, iV ((x.ops.length : Nat) : Int)), (11, iV t11)] [LA .ready none, Box ps [.int .u32 (gt l (wr (((l.length : Nat) : Int) - 1)))], Box pstack [vSl al4 l4 cl4], Box pseen [.map (some bv)], OwnSl 60 1 a5 ((out ++ ([(gt l (wr (((l.length : Nat) : Int) - 1)))] : List Int)).length) c (flL (α := W32) (out ++ ([(gt l (wr (((l.length : Nat) : Int) - 1)))] : List Int))), Box pw [.pointer (some px)], MkA (D :: dl), OwnSl 60 1 al4 l4.length cl4 (flL (α := W32) l4), OwnMapI bv .u32 (fun _ : Unit => .agg #[]) m4] h
  refine .seq (.region (.V bi0 ?_))
  refine .nil (.seqN (.seq ?_))
  refine .cond rfl (fun q1503 => ?_) (fun q1503 => ?_)
  ·replace hF := hF.1 q1503
   refine .skip (.seqN ?_)
   refine .share (σ := List Int × List (Int × Unit) × Option Addr × Nat) (fun z => F_all_J1 t11 m4 I2 μ2 l4 z.2.1 z.1) (fun _ => [(0, .func (.yield l3) #[] #[]), (2, .pointer (some ps)), (9, vSl ax x.ops cx), (10, iV ((x.ops.length : Nat) : Int)), (11, iV t11)]) (fun z => [LA .ready none, Box ps [.int .u32 (gt l (wr (((l.length : Nat) : Int) - 1)))], Box pstack [vSl z.2.2.1 z.1 z.2.2.2], Box pseen [.map (some bv)], OwnSl 60 1 a5 ((out ++ ([(gt l (wr (((l.length : Nat) : Int) - 1)))] : List Int)).length) c (flL (α := W32) (out ++ ([(gt l (wr (((l.length : Nat) : Int) - 1)))] : List Int))), Box pw [.pointer (some px)], MkA (D :: dl), OwnSl 60 1 z.2.2.1 z.1.length z.2.2.2 (flL (α := W32) z.1), OwnMapI bv .u32 (fun _ : Unit => .agg #[]) z.2.1]) (fun _ => h) ?_ (fun q1514 => ?_)
   ·rintro ⟨l6, m6, al6, cl6⟩ hF
    show J _ _ _ _ _ [(0, .func (.yield l3) #[] #[]), (2, .pointer (some ps)), (9, vSl ax x.ops cx), (10, iV ((x.ops.length : Nat) : Int)), (11, iV t11)] [LA .ready none, Box ps [.int .u32 (gt l (wr (((l.length : Nat) : Int) - 1)))], Box pstack [vSl al6 l6 cl6], Box pseen [.map (some bv)], OwnSl 60 1 a5 ((out ++ ([(gt l (wr (((l.length : Nat) : Int) - 1)))] : List Int)).length) c (flL (α := W32) (out ++ ([(gt l (wr (((l.length : Nat) : Int) - 1)))] : List Int))), Box pw [.pointer (some px)], MkA (D :: dl), OwnSl 60 1 al6 l6.length cl6 (flL (α := W32) l6), OwnMapI bv .u32 (fun _ : Unit => .agg #[]) m6] h
    refine .region (.V bi0 ?_)
    refine .V mv0 ?_
    refine .nil ?_
    exact .RO (wr (t11 + 1), l6, m6, al6, cl6) hF.1 hF.2
   refine .block (.seq (.region (.V mv0 ?_)))
   obtain ⟨q1515, hF⟩ := hF
   refine .V (ix rfl rfl tS110 (_q1.ne (by decide) (inb_pos q1515)) q1515) ?_
   refine .V (ldA (cs := [.int .u32 ((gt x.ops t11).pre), .int .u32 ((gt x.ops t11).add), .int .u32 ((gt x.ops t11).del), iV ((gt x.ops t11).cost)]) rfl tA132 rfl (cellsH (_q1.elemF q1515 (by decide)))) ?_
   refine al tZ132 rfl (fun pseen2 => ?_)
   refine .V ag0 ?_
   refine st (p := pseen2) (off := 0) (k := 0) (vs := [.int .u32 ((gt x.ops t11).pre), .int .u32 ((gt x.ops t11).add), .int .u32 ((gt x.ops t11).del), iV ((gt x.ops t11).cost)]) rfl rfl rfl (fun w => (tA132 w).2) rfl rfl rfl rfl ?_
   refine .KA [Box pseen2 [.int .u32 ((gt x.ops t11).pre), .int .u32 ((gt x.ops t11).add), .int .u32 ((gt x.ops t11).del), iV ((gt x.ops t11).cost)], LA .ready none, Box ps [.int .u32 (gt l (wr (((l.length : Nat) : Int) - 1)))], Box pstack [vSl al4 l4 cl4], Box pseen [.map (some bv)], OwnSl 60 1 a5 ((out ++ ([(gt l (wr (((l.length : Nat) : Int) - 1)))] : List Int)).length) c (flL (α := W32) (out ++ ([(gt l (wr (((l.length : Nat) : Int) - 1)))] : List Int))), Box pw [.pointer (some px)], MkA (D :: dl), OwnSl 60 1 al4 l4.length cl4 (flL (α := W32) l4), OwnMapI bv .u32 (fun _ : Unit => .agg #[]) m4] ?_
   refine .nil (.seqN (.seq (.region (.V (ld1 rfl tO60 (cellB (off := 0) (k := 2) rfl rfl)) ?_))))
   refine .V (fa rfl tF132_0) ?_
   refine .V (ld1 rfl tO60 (cellB (off := 0) (k := 0) rfl rfl)) ?_
   obtain ⟨x2, q1516⟩ : ∃ y_ : Int, y_ = (bits .and .u32 (gt l (wr (((l.length : Nat) : Int) - 1))) ((gt x.ops t11).pre)) := ⟨_, rfl⟩
   replace hF := hF x2 q1516
   refine .v (v := .int .u32 x2) (by rw [q1516]; exact bi rfl rfl rfl) rfl rfl rfl ?_
   refine .V (fa rfl tF132_0) ?_
   refine .V (ld1 rfl tO60 (cellB (off := 0) (k := 0) rfl rfl)) ?_
   refine .V bi0 ?_
   refine .V mv0 ?_
   rcases Bool.eq_false_or_eq_true (x2 == ((gt x.ops t11).pre)) with q1517 | q1517
   ·replace hF := hF.1 q1517
    refine .GV mv0 q1517 ?_
    refine .GV mv0 q1517 ?_
    refine .GV (fa rfl tF132_3) q1517 ?_
    refine .GV (ld1 rfl tO3 (cellB (off := 3) (k := 0) rfl rfl)) q1517 ?_
    refine .GV (ld1 rfl tO60 (cellB (off := 0) (k := 2) rfl rfl)) q1517 ?_
    refine .GV (fa rfl tF132_2) q1517 ?_
    refine .GV (ld1 rfl tO60 (cellB (off := 2) (k := 0) rfl rfl)) q1517 ?_
    obtain ⟨x3, q1518⟩ : ∃ y_ : Int, y_ = (bits .andNot .u32 (gt l (wr (((l.length : Nat) : Int) - 1))) ((gt x.ops t11).del)) := ⟨_, rfl⟩
    replace hF := hF x3 q1518
    refine .gv (v := .int .u32 x3) (by rw [q1518]; exact bi rfl rfl rfl) rfl rfl rfl q1517 rfl rfl ?_
    refine .GV (fa rfl tF132_1) q1517 ?_
    refine .GV (ld1 rfl tO60 (cellB (off := 1) (k := 0) rfl rfl)) q1517 ?_
    refine .GV bi0 q1517 ?_
    refine .GV (bld (cs := #[iV t11, iV ((gt x.ops t11).cost), .int .u32 (bits .or .u32 x3 ((gt x.ops t11).add))]) (pv := [(0, iV t11), (1, iV ((gt x.ops t11).cost)), (2, .int .u32 (bits .or .u32 x3 ((gt x.ops t11).add)))]) tB108 rfl rfl) q1517 ?_
    refine .gR rfl rfl rfl q1517 ?_
    refine .yld (k := 1) (vs := [.agg #[iV t11, iV ((gt x.ops t11).cost), .int .u32 (bits .or .u32 x3 ((gt x.ops t11).add))]]) q1447 rfl rfl rfl rfl rfl (fun aG q1519 => ?_)
    refine .sub (s' := [(4, .pointer (some pstack)), (5, .pointer (some pseen)), (40, .agg #[iV t11, iV ((gt x.ops t11).cost), .int .u32 (bits .or .u32 x3 ((gt x.ops t11).add))])]) sb ?_
    refine .region ?_
    refine al tZ108 rfl (fun pe => ?_)
    refine st (p := pe) (off := 0) (k := 0) (vs := [iV t11, iV ((gt x.ops t11).cost), .int .u32 (bits .or .u32 x3 ((gt x.ops t11).add))]) rfl rfl rfl (fun w => (tA108 w).2) rfl rfl rfl rfl ?_
    refine .KA [Box pe [iV t11, iV ((gt x.ops t11).cost), .int .u32 (bits .or .u32 x3 ((gt x.ops t11).add))], Box pseen2 [.int .u32 ((gt x.ops t11).pre), .int .u32 ((gt x.ops t11).add), .int .u32 ((gt x.ops t11).del), iV ((gt x.ops t11).cost)], LA .ready none, Box ps [.int .u32 (gt l (wr (((l.length : Nat) : Int) - 1)))], Box pstack [vSl al4 l4 cl4], Box pseen [.map (some bv)], OwnSl 60 1 a5 ((out ++ ([(gt l (wr (((l.length : Nat) : Int) - 1)))] : List Int)).length) c (flL (α := W32) (out ++ ([(gt l (wr (((l.length : Nat) : Int) - 1)))] : List Int))), Box pw [.pointer (some px)], MkA (D :: dl), OwnSl 60 1 al4 l4.length cl4 (flL (α := W32) l4), OwnMapI bv .u32 (fun _ : Unit => .agg #[]) m4] ?_
    refine .nil ?_
    refine .begin_ (k := 2) q1447 rfl ?_
    refine .KA [Box pe [iV t11, iV ((gt x.ops t11).cost), .int .u32 (bits .or .u32 x3 ((gt x.ops t11).add))], Box pseen2 [.int .u32 ((gt x.ops t11).pre), .int .u32 ((gt x.ops t11).add), .int .u32 ((gt x.ops t11).del), iV ((gt x.ops t11).cost)], LA .busy none, Box ps [.int .u32 (gt l (wr (((l.length : Nat) : Int) - 1)))], Box pstack [vSl al4 l4 cl4], Box pseen [.map (some bv)], OwnSl 60 1 a5 ((out ++ ([(gt l (wr (((l.length : Nat) : Int) - 1)))] : List Int)).length) c (flL (α := W32) (out ++ ([(gt l (wr (((l.length : Nat) : Int) - 1)))] : List Int))), Box pw [.pointer (some px)], MkA (D :: dl), OwnSl 60 1 al4 l4.length cl4 (flL (α := W32) l4), OwnMapI bv .u32 (fun _ : Unit => .agg #[]) m4] ?_
    refine .block (.seq (.region (.V (ld1 rfl tO134 (cellB (off := 0) (k := 5) rfl rfl)) ?_)))
    refine .V (fa rfl tF108_2) ?_
    refine .V (ld1 rfl tO60 (cellB (off := 2) (k := 0) rfl rfl)) ?_
    refine .V (lkI2 (enc := (fun _ : Unit => .agg #[])) () tMI134 rfl rfl (q := 10) rfl) ?_
    refine .V mv0 ?_
    refine .V (ext rfl rfl) ?_
    refine .V (ext rfl rfl) ?_
    refine al tZ133 rfl (fun p_ => ?_)
    refine st (p := p_) (off := 0) (k := 0) (vs := []) rfl rfl rfl (fun w => (tA133 w).2) rfl rfl rfl rfl ?_
    refine .KA [Box p_ [], Box pe [iV t11, iV ((gt x.ops t11).cost), .int .u32 (bits .or .u32 x3 ((gt x.ops t11).add))], Box pseen2 [.int .u32 ((gt x.ops t11).pre), .int .u32 ((gt x.ops t11).add), .int .u32 ((gt x.ops t11).del), iV ((gt x.ops t11).cost)], LA .busy none, Box ps [.int .u32 (gt l (wr (((l.length : Nat) : Int) - 1)))], Box pstack [vSl al4 l4 cl4], Box pseen [.map (some bv)], OwnSl 60 1 a5 ((out ++ ([(gt l (wr (((l.length : Nat) : Int) - 1)))] : List Int)).length) c (flL (α := W32) (out ++ ([(gt l (wr (((l.length : Nat) : Int) - 1)))] : List Int))), Box pw [.pointer (some px)], MkA (D :: dl), OwnSl 60 1 al4 l4.length cl4 (flL (α := W32) l4), OwnMapI bv .u32 (fun _ : Unit => .agg #[]) m4] ?_
    refine .V ag0 ?_
    refine .nil (.seqN (.seq (.region (.V mv0 ?_))))
    refine .V (nt rfl) ?_
    refine .nil (.seqN ?_)
    refine .cond rfl (fun q1520 => ?_) (fun q1520 => ?_)
    ·replace hF := hF.1 q1520
     refine .seq (.region (.V (ld1 rfl tO134 (cellB (off := 0) (k := 6) rfl rfl)) ?_))
     refine .V (fa rfl tF108_2) ?_
     refine .V (ld1 rfl tO60 (cellB (off := 2) (k := 1) rfl rfl)) ?_
     refine .V (bld (cs := #[]) (pv := []) tB133 rfl rfl) ?_
     refine muI (enc := (fun _ : Unit => .agg #[])) () tMI134 rfl rfl rfl (q := 11) rfl ?_
     obtain ⟨m7, q1521⟩ : ∃ y_ : List (Int × Unit), y_ = (setA m4 (bits .or .u32 x3 ((gt x.ops t11).add)) ()) := ⟨_, rfl⟩
     replace hF := hF m7 q1521
     refine .cast (A' := [Box p_ [], Box pe [iV t11, iV ((gt x.ops t11).cost), .int .u32 (bits .or .u32 x3 ((gt x.ops t11).add))], Box pseen2 [.int .u32 ((gt x.ops t11).pre), .int .u32 ((gt x.ops t11).add), .int .u32 ((gt x.ops t11).del), iV ((gt x.ops t11).cost)], LA .busy none, Box ps [.int .u32 (gt l (wr (((l.length : Nat) : Int) - 1)))], Box pstack [vSl al4 l4 cl4], Box pseen [.map (some bv)], OwnSl 60 1 a5 ((out ++ ([(gt l (wr (((l.length : Nat) : Int) - 1)))] : List Int)).length) c (flL (α := W32) (out ++ ([(gt l (wr (((l.length : Nat) : Int) - 1)))] : List Int))), Box pw [.pointer (some px)], MkA (D :: dl), OwnSl 60 1 al4 l4.length cl4 (flL (α := W32) l4), OwnMapI bv .u32 (fun _ : Unit => .agg #[]) m7]) (by rw [q1521]; rfl) ?_
     refine .nil (.seqN (.region (.V (ld1 rfl tO54 (cellB (off := 0) (k := 5) rfl rfl)) ?_)))
     refine .V (fa rfl tF108_2) ?_
     refine .V (ld1 rfl tO60 (cellB (off := 2) (k := 1) rfl rfl)) ?_
     refine bs2 (cs := #[.int .u32 (bits .or .u32 x3 ((gt x.ops t11).add))]) (pv := [(0, .int .u32 (bits .or .u32 x3 ((gt x.ops t11).add)))]) tS54 rfl rfl (by decide) (by decide) rfl rfl rfl (fun a8 _ => ?_)
     refine .KA [OwnSl 60 1 a8 (([bits .or .u32 x3 ((gt x.ops t11).add)] : List Int).length) 1 (flL (α := W32) ([bits .or .u32 x3 ((gt x.ops t11).add)] : List Int)), Box p_ [], Box pe [iV t11, iV ((gt x.ops t11).cost), .int .u32 (bits .or .u32 x3 ((gt x.ops t11).add))], Box pseen2 [.int .u32 ((gt x.ops t11).pre), .int .u32 ((gt x.ops t11).add), .int .u32 ((gt x.ops t11).del), iV ((gt x.ops t11).cost)], LA .busy none, Box ps [.int .u32 (gt l (wr (((l.length : Nat) : Int) - 1)))], Box pstack [vSl al4 l4 cl4], Box pseen [.map (some bv)], OwnSl 60 1 a5 ((out ++ ([(gt l (wr (((l.length : Nat) : Int) - 1)))] : List Int)).length) c (flL (α := W32) (out ++ ([(gt l (wr (((l.length : Nat) : Int) - 1)))] : List Int))), Box pw [.pointer (some px)], MkA (D :: dl), OwnSl 60 1 al4 l4.length cl4 (flL (α := W32) l4), OwnMapI bv .u32 (fun _ : Unit => .agg #[]) m7] ?_
     obtain ⟨q1523, hF⟩ := hF
     have q1524 : l4.length + ([bits .or .u32 x3 ((gt x.ops t11).add)] : List Int).length = ((l4 ++ ([bits .or .u32 x3 ((gt x.ops t11).add)] : List Int))).length := len_app rfl rfl
     refine app (k := 11) (news := flL (α := W32) ([bits .or .u32 x3 ((gt x.ops t11).add)] : List Int)) (cs' := flL (α := W32) (l4 ++ ([bits .or .u32 x3 ((gt x.ops t11).add)] : List Int))) (nm := ((l4 ++ ([bits .or .u32 x3 ((gt x.ops t11).add)] : List Int))).length) tS54 rfl (by decide) rfl rfl rfl ((flL_len _).trans rfl) (srcS (k := 0) rfl) (flL_one _) (room_of q1524 q1523).1 (room_of q1524 q1523).2 q1524 (flL_append _ _).symm rfl (fun a9 c2 => ?_)
     refine .KA [OwnSl 60 1 a8 (([bits .or .u32 x3 ((gt x.ops t11).add)] : List Int).length) 1 (flL (α := W32) ([bits .or .u32 x3 ((gt x.ops t11).add)] : List Int)), Box p_ [], Box pe [iV t11, iV ((gt x.ops t11).cost), .int .u32 (bits .or .u32 x3 ((gt x.ops t11).add))], Box pseen2 [.int .u32 ((gt x.ops t11).pre), .int .u32 ((gt x.ops t11).add), .int .u32 ((gt x.ops t11).del), iV ((gt x.ops t11).cost)], LA .busy none, Box ps [.int .u32 (gt l (wr (((l.length : Nat) : Int) - 1)))], Box pstack [vSl al4 l4 cl4], Box pseen [.map (some bv)], OwnSl 60 1 a5 ((out ++ ([(gt l (wr (((l.length : Nat) : Int) - 1)))] : List Int)).length) c (flL (α := W32) (out ++ ([(gt l (wr (((l.length : Nat) : Int) - 1)))] : List Int))), Box pw [.pointer (some px)], MkA (D :: dl), OwnSl 60 1 a9 ((l4 ++ ([bits .or .u32 x3 ((gt x.ops t11).add)] : List Int)).length) c2 (flL (α := W32) (l4 ++ ([bits .or .u32 x3 ((gt x.ops t11).add)] : List Int))), OwnMapI bv .u32 (fun _ : Unit => .agg #[]) m7] ?_
     refine st (p := pstack) (off := 0) (k := 6) (vs := [.slice a9 ((l4 ++ ([bits .or .u32 x3 ((gt x.ops t11).add)] : List Int)).length) c2]) rfl rfl rfl (fun w => (tO54 w).2) rfl rfl rfl rfl ?_
     refine .KA [OwnSl 60 1 a8 (([bits .or .u32 x3 ((gt x.ops t11).add)] : List Int).length) 1 (flL (α := W32) ([bits .or .u32 x3 ((gt x.ops t11).add)] : List Int)), Box p_ [], Box pe [iV t11, iV ((gt x.ops t11).cost), .int .u32 (bits .or .u32 x3 ((gt x.ops t11).add))], Box pseen2 [.int .u32 ((gt x.ops t11).pre), .int .u32 ((gt x.ops t11).add), .int .u32 ((gt x.ops t11).del), iV ((gt x.ops t11).cost)], LA .busy none, Box ps [.int .u32 (gt l (wr (((l.length : Nat) : Int) - 1)))], Box pstack [.slice a9 ((l4 ++ ([bits .or .u32 x3 ((gt x.ops t11).add)] : List Int)).length) c2], Box pseen [.map (some bv)], OwnSl 60 1 a5 ((out ++ ([(gt l (wr (((l.length : Nat) : Int) - 1)))] : List Int)).length) c (flL (α := W32) (out ++ ([(gt l (wr (((l.length : Nat) : Int) - 1)))] : List Int))), Box pw [.pointer (some px)], MkA (D :: dl), OwnSl 60 1 a9 ((l4 ++ ([bits .or .u32 x3 ((gt x.ops t11).add)] : List Int)).length) c2 (flL (α := W32) (l4 ++ ([bits .or .u32 x3 ((gt x.ops t11).add)] : List Int))), OwnMapI bv .u32 (fun _ : Unit => .agg #[]) m7] ?_
     refine .nil (.blkN ?_)
     refine .rdN (k := 4) q1447 rfl q1519 rfl ?_
     refine .KA [OwnSl 60 1 a8 (([bits .or .u32 x3 ((gt x.ops t11).add)] : List Int).length) 1 (flL (α := W32) ([bits .or .u32 x3 ((gt x.ops t11).add)] : List Int)), Box p_ [], Box pe [iV t11, iV ((gt x.ops t11).cost), .int .u32 (bits .or .u32 x3 ((gt x.ops t11).add))], Box pseen2 [.int .u32 ((gt x.ops t11).pre), .int .u32 ((gt x.ops t11).add), .int .u32 ((gt x.ops t11).del), iV ((gt x.ops t11).cost)], LA .ready none, Box ps [.int .u32 (gt l (wr (((l.length : Nat) : Int) - 1)))], Box pstack [.slice a9 ((l4 ++ ([bits .or .u32 x3 ((gt x.ops t11).add)] : List Int)).length) c2], Box pseen [.map (some bv)], OwnSl 60 1 a5 ((out ++ ([(gt l (wr (((l.length : Nat) : Int) - 1)))] : List Int)).length) c (flL (α := W32) (out ++ ([(gt l (wr (((l.length : Nat) : Int) - 1)))] : List Int))), Box pw [.pointer (some px)], MkA (D :: dl), OwnSl 60 1 a9 ((l4 ++ ([bits .or .u32 x3 ((gt x.ops t11).add)] : List Int)).length) c2 (flL (α := W32) (l4 ++ ([bits .or .u32 x3 ((gt x.ops t11).add)] : List Int))), OwnMapI bv .u32 (fun _ : Unit => .agg #[]) m7] ?_
     refine .GV (nt rfl) q1517 ?_
     refine .V (pkT rfl q1517 rfl) ?_
     refine .nil (.seqN ?_)
     refine .cond rfl (fun e => absurd (e.symm.trans rfl) (by decide)) (fun _ => ?_)
     refine .skip (.blkN ?_)
     refine .sel0 [4, 5, 6, 7, 8, 9, 10, 11, 12] (by decide) rfl ?_
     exact .US q1514 ((l4 ++ ([bits .or .u32 x3 ((gt x.ops t11).add)] : List Int)), m7, a9, c2) hF
    replace hF := hF.2 q1520
    refine .skip (.blkN ?_)
    refine .rdN (k := 3) q1447 rfl q1519 rfl ?_
    refine .KA [Box p_ [], Box pe [iV t11, iV ((gt x.ops t11).cost), .int .u32 (bits .or .u32 x3 ((gt x.ops t11).add))], Box pseen2 [.int .u32 ((gt x.ops t11).pre), .int .u32 ((gt x.ops t11).add), .int .u32 ((gt x.ops t11).del), iV ((gt x.ops t11).cost)], LA .ready none, Box ps [.int .u32 (gt l (wr (((l.length : Nat) : Int) - 1)))], Box pstack [vSl al4 l4 cl4], Box pseen [.map (some bv)], OwnSl 60 1 a5 ((out ++ ([(gt l (wr (((l.length : Nat) : Int) - 1)))] : List Int)).length) c (flL (α := W32) (out ++ ([(gt l (wr (((l.length : Nat) : Int) - 1)))] : List Int))), Box pw [.pointer (some px)], MkA (D :: dl), OwnSl 60 1 al4 l4.length cl4 (flL (α := W32) l4), OwnMapI bv .u32 (fun _ : Unit => .agg #[]) m4] ?_
    refine .GV (nt rfl) q1517 ?_
    refine .V (pkT rfl q1517 rfl) ?_
    refine .nil (.seqN ?_)
    refine .cond rfl (fun e => absurd (e.symm.trans rfl) (by decide)) (fun _ => ?_)
    refine .skip (.blkN ?_)
    refine .sel0 [3, 4, 5, 6, 7, 8, 9, 10, 11] (by decide) rfl ?_
    exact .US q1514 (l4, m4, al4, cl4) hF
   replace hF := hF.2 q1517
   refine .GS q1517 ?_
   refine .GS q1517 ?_
   refine .GS q1517 ?_
   refine .GS q1517 ?_
   refine .GS q1517 ?_
   refine .GS q1517 ?_
   refine .GS q1517 ?_
   refine .GS q1517 ?_
   refine .GS q1517 ?_
   refine .GS q1517 ?_
   refine .GS q1517 ?_
   refine .GS q1517 ?_
   refine .GS q1517 ?_
   refine .GS q1517 ?_
   refine .V (pkF rfl q1517 rfl) ?_
   refine .nil (.seqN ?_)
   refine .cond rfl (fun e => absurd (e.symm.trans rfl) (by decide)) (fun _ => ?_)
   refine .skip (.blkN ?_)
   refine .sel0 [1, 2, 3, 4, 5, 6, 7, 8, 9] (by decide) rfl ?_
   exact .US q1514 (l4, m4, al4, cl4) hF
  replace hF := hF.2 q1503
  refine .exit (.seqX (.seqX (.blkX ?_)))
  refine .res0 (.inr rfl) rfl (range_done (k := 0) q1447 rfl q1448 ?_)
  refine .KA [tru, Box ps [.int .u32 (gt l (wr (((l.length : Nat) : Int) - 1)))], Box pstack [vSl al4 l4 cl4], Box pseen [.map (some bv)], OwnSl 60 1 a5 ((out ++ ([(gt l (wr (((l.length : Nat) : Int) - 1)))] : List Int)).length) c (flL (α := W32) (out ++ ([(gt l (wr (((l.length : Nat) : Int) - 1)))] : List Int))), Box pw [.pointer (some px)], MkA (D :: dl), OwnSl 60 1 al4 l4.length cl4 (flL (α := W32) l4), OwnMapI bv .u32 (fun _ : Unit => .agg #[]) m4] ?_
  refine .blkN (.seqN (.seq (.region (.V (ld1 rfl tO134 (cellB (off := 0) (k := 3) rfl rfl)) ?_))))
  refine .V (lnI tMI134 rfl (q := 8) rfl) ?_
  refine .V bi0 ?_
  refine .nil (.seqN ?_)
  refine .cond rfl (fun q1525 => ?_) (fun q1525 => ?_)
  ·replace hF := hF.1 q1525
   refine .seq (.region (.V ag0 ?_))
   refine .V ag0 ?_
   refine .nil (.seqN ?_)
   refine .nilSl 60 1 ?_
   refine .KA [OwnSl 60 1 none (([] : List Int).length) 0 (flL (α := W32) ([] : List Int)), tru, Box ps [.int .u32 (gt l (wr (((l.length : Nat) : Int) - 1)))], Box pstack [vSl al4 l4 cl4], Box pseen [.map (some bv)], OwnSl 60 1 a5 ((out ++ ([(gt l (wr (((l.length : Nat) : Int) - 1)))] : List Int)).length) c (flL (α := W32) (out ++ ([(gt l (wr (((l.length : Nat) : Int) - 1)))] : List Int))), Box pw [.pointer (some px)], MkA (D :: dl), OwnSl 60 1 al4 l4.length cl4 (flL (α := W32) l4), OwnMapI bv .u32 (fun _ : Unit => .agg #[]) m4] ?_
   refine .ret (.blkR (.seqR (.blkR (.seqR ?_))))
   refine .resM (k := 7) rfl ?_
   refine .res2 rfl (rvT rfl) (rvT rfl) (fun w' S => ⟨(([] : List Int), false), (none, 0), h, hF, rfl, (FH.le_refl _), trivial, S.pick (k := 0) rfl⟩)
  replace hF := hF.2 q1525
  refine .skip (.blkN ?_)
  refine .sel0 [2, 3, 4, 6, 7, 8] (by decide) rfl ?_
  exact .roundN ((out ++ ([(gt l (wr (((l.length : Nat) : Int) - 1)))] : List Int)), l4, m4, a5, c, D :: dl, al4, cl4) hF.1 hF.2 rfl sb rfl (FH.le_refl _)
 replace hF := hF.2 q1358
 refine .exit (.seqX (.seqX (.blkX (.seqN (.seq (.region (.V mv0 ?_)))))))
 refine .V ag0 ?_
 refine .V ag0 ?_
 refine .nil (.seqN (.ret ?_))
 refine .resM (k := 3) rfl ?_
 refine .res2 rfl (rvT rfl) (rvT rfl) (fun w' S => ⟨(out, true), (aout, cout), h, hF, rfl, (FH.le_refl _), trivial, S.pick (k := 2) rfl⟩)
theorem c_all {h : FH} {w : World} (hs : Sub h w) (x : WordsT) (ax : Option Addr) (cx : Nat) (_q1 : RSl h ax x.ops) (_q2 : x.ops.length ≤ cx) (px : Addr) (_q3 : CellsAt h px [.int .u32 x.start, .int .u32 x.goal, .slice ax x.ops.length cx]) (hp : pre_all x) : Calls Tryz.prog 48 #[.iface 53 (.pointer (some px))] w fun e w' => ∃ (z : Option Addr × Nat) (h0 h1 : FH), e = .returned (.tuple #[.slice z.1 (sp_all x).1.length z.2, .bool (sp_all x).2]) ∧ (True) ∧ FH.le h h1 ∧ SH (Kp.all w h0) h1 w' [OwnSl 60 1 z.1 (sp_all x).1.length z.2 (flL (α := W32) (sp_all x).1)] :=
 (w_all hs x ax cx _q1 _q2 px _q3 (fun r => r = sp_all x) (ok_all x hp)).mono fun _ _ ⟨r, z, h1, hk, he, hl, hψ, hS⟩ => by subst hk; exact ⟨z, h, h1, he, hψ, hl, hS⟩
set_option maxHeartbeats 8000000 in
theorem w_brplan {h : FH} {w : World} (hs : Sub h w) (t : Task) (at_ : Option Addr) (ct : Nat) (_q1 : RSl h at_ t.init) (_q2 : t.init.length ≤ ct) (at_2 : Option Addr) (ct2 : Nat) (_q3 : RSl h at_2 t.goal) (_q4 : t.goal.length ≤ ct2) (at_3 : Option Addr) (ct3 : Nat) (_q5 : RSl h at_3 t.ops) (_q6 : t.ops.length ≤ ct3) (K : (List Int × Bool × Fault) → Prop) (hF : F_brplan t K) : Calls Tryz.prog 6 #[.agg #[iV t.facts, .slice at_ t.init.length ct, .slice at_2 t.goal.length ct2, .slice at_3 t.ops.length ct3]] w fun e w' => ∃ (r : List Int × Bool × Fault) (z : Option Addr × Nat) (h1 : FH), K r ∧ e = .returned (.tuple #[.slice z.1 r.1.length z.2, .bool r.2.1, .agg #[iV r.2.2.code, iV r.2.2.index]]) ∧ FH.le h h1 ∧ (RSl h1 z.1 r.1 ∧ r.1.length ≤ z.2) ∧ SH (Kp.all w h) h1 w' [] := by
 refine enter (args := [.agg (tF t at_ ct at_2 ct2 at_3 ct3).toArray]) Tryz.func6 rfl Tryz.ntmps6 rfl hs ?_
 refine .seq (.region ?_)
 refine bx (vs := (tF t at_ ct at_2 ct2 at_3 ct3)) rfl rfl rfl (fun pt => ?_)
 refine .V ag0 ?_
 refine .V ag0 ?_
 refine al tZ27 rfl (fun pv => ?_)
 refine .nil (.seqN (.seq (.region (.V (ldA (cs := (tF t at_ ct at_2 ct2 at_3 ct3)) rfl tA25 rfl (cellsB (off := 0) (k := 1) rfl (m := 4) rfl)) ?_))))
 refine .inl Tryz.func21 rfl Tryz.ntmps21 Tryz.call21 rfl rfl rfl rfl (fun a q7 => ?_)
 refine .seq (.region ?_)
 refine bx (vs := (tF t at_ ct at_2 ct2 at_3 ct3)) rfl rfl rfl (fun pt2 => ?_)
 refine .V ag0 ?_
 refine .V ag0 ?_
 refine al tZ27 rfl (fun pv2 => ?_)
 refine .nil (.seqN (.seq (.seq (.region (.V (ldA (cs := (tF t at_ ct at_2 ct2 at_3 ct3)) rfl tA25 rfl (cellsB (off := 0) (k := 1) rfl (m := 4) rfl)) ?_)))))
 obtain ⟨r2, q8⟩ : ∃ y_ : Fault, y_ = sp_validate t := ⟨_, rfl⟩
 replace hF := hF r2 q8
 refine .C (cl (v := .agg #[iV r2.code, iV r2.index]) Tryz.call37 rfl rfl (fun w S => (by rw [q8]; exact c_validate S.sub t at_ ct _q1 _q2 at_2 ct2 _q3 _q4 at_3 ct3 _q5 _q6 ))) ?_
 refine al tZ27 rfl (fun pf => ?_)
 refine st (p := pf) (off := 0) (k := 0) (vs := [iV r2.code, iV r2.index]) rfl rfl rfl (fun w => (tA27 w).2) rfl rfl rfl rfl ?_
 refine .KA [Box pf [iV r2.code, iV r2.index], Box pv2 [iV 0, iV 0], Box pt2 (tF t at_ ct at_2 ct2 at_3 ct3), Box pv [iV 0, iV 0], Box pt (tF t at_ ct at_2 ct2 at_3 ct3)] ?_
 refine .nil (.seqN (.seq (.region (.V (ldA (cs := [iV r2.code, iV r2.index]) rfl tA27 rfl (cellsB (off := 0) (k := 0) rfl (m := 2) rfl)) ?_))))
 refine .V (bld (cs := #[iV 0, iV 0]) (pv := []) tB27 rfl rfl) ?_
 refine .V (ne2 tE27 rfl rfl) ?_
 refine .nil (.seqN ?_)
 refine .cond rfl (fun q10 => ?_) (fun q10 => ?_)
 ·replace hF := hF.1 q10
  refine .seq ?_
  refine .openA (s0 := [(4, .pointer (some pv2)), (5, .pointer (some pf))]) [0, 1, 2] [(0, .agg #[iV r2.code, iV r2.index]), (1, .pointer none), (2, .slice none 0 0)] (by kernel_rfl) sb [4, 5] [] rfl (by kernel_rfl) ?_
  refine .step [3] 3 rfl (by kernel_rfl) (by kernel_rfl) (.v [] rfl rfl rfl rfl rfl rfl (fun _ => ldA (cs := [iV r2.code, iV r2.index]) rfl tA27 rfl (cellsB (off := 0) (k := 0) rfl (m := 2) rfl)) (.v [] rfl rfl rfl rfl rfl rfl (fun _ => asg rfl) (.v [(2, .pointer none), (2, .pointer none)] rfl rfl rfl rfl rfl rfl (fun _ => asg rfl) (.nil)))) (.cons [(14, .agg #[iV r2.code, iV r2.index]), (3, .slice none 0 0), (14, .agg #[iV r2.code, iV r2.index]), (2, .pointer none), (3, .slice none 0 0)] rfl rfl (fun sL hL => ?_) (.nil))
  refine st (p := pv2) (off := 0) (k := 1) (vs := [iV r2.code, iV r2.index]) rfl rfl rfl (fun w => (tA27 w).2) rfl rfl rfl rfl ?_
  refine .KA [Box pf [iV r2.code, iV r2.index], Box pv2 [iV r2.code, iV r2.index], Box pt2 (tF t at_ ct at_2 ct2 at_3 ct3), Box pv [iV 0, iV 0], Box pt (tF t at_ ct at_2 ct2 at_3 ct3)] ?_
  refine .nil ?_
  refine .jaN (M := [0, 2, 1]) (C' := []) (pre := []) [4, 5] hL rfl rfl rfl rfl rfl (by kernel_rfl) ?_
  refine .last [(14, .agg #[iV r2.code, iV r2.index]), (2, .pointer none), (3, .slice none 0 0)] rfl (by kernel_rfl) (.nil) rfl ?_
  refine .seqN (.ret (.seqR ?_))
  refine .res3 rfl (rvT rfl) (rvT rfl) (rvC rfl tA27 (k := 1) rfl rfl) (inl_back (v := .tuple #[.pointer none, .slice none 0 0, .agg #[iV r2.code, iV r2.index]]) q7 rfl ?_)
  refine .KA [Box pf [iV r2.code, iV r2.index], Box pv2 [iV r2.code, iV r2.index], Box pt2 (tF t at_ ct at_2 ct2 at_3 ct3), Box pv [iV 0, iV 0], Box pt (tF t at_ ct at_2 ct2 at_3 ct3)] ?_
  refine .V mv0 ?_
  refine .V (ext rfl rfl) ?_
  refine .V (ext rfl rfl) ?_
  refine .V (ext rfl rfl) ?_
  refine al tZ27 rfl (fun pf2 => ?_)
  refine .V ag0 ?_
  refine .V ag0 ?_
  refine st (p := pf2) (off := 0) (k := 0) (vs := [iV r2.code, iV r2.index]) rfl rfl rfl (fun w => (tA27 w).2) rfl rfl rfl rfl ?_
  refine .KA [Box pf2 [iV r2.code, iV r2.index], Box pf [iV r2.code, iV r2.index], Box pv2 [iV r2.code, iV r2.index], Box pt2 (tF t at_ ct at_2 ct2 at_3 ct3), Box pv [iV 0, iV 0], Box pt (tF t at_ ct at_2 ct2 at_3 ct3)] ?_
  refine .nil (.seqN (.seq (.seq (.region (.V (ldA (cs := [iV r2.code, iV r2.index]) rfl tA27 rfl (cellsB (off := 0) (k := 0) rfl (m := 2) rfl)) ?_)))))
  refine .V (bld (cs := #[iV 0, iV 0]) (pv := []) tB27 rfl rfl) ?_
  refine .V (ne2 tE27 rfl rfl) ?_
  refine .nil (.seqN ?_)
  refine .cond rfl (fun _ => ?_) (fun e => absurd (e.symm.trans q10) (by decide))
  refine .seq ?_
  refine .openL (by kernel_rfl) rfl (by kernel_rfl) (by kernel_rfl) ?_
  refine .V (ldA (cs := [iV r2.code, iV r2.index]) rfl tA27 rfl (cellsB (off := 0) (k := 0) rfl (m := 2) rfl)) ?_
  refine .V ag0 ?_
  refine .V ag0 ?_
  refine .tail ?_
  refine st (p := pv) (off := 0) (k := 4) (vs := [iV r2.code, iV r2.index]) rfl rfl rfl (fun w => (tA27 w).2) rfl rfl rfl rfl ?_
  refine .KA [Box pf2 [iV r2.code, iV r2.index], Box pf [iV r2.code, iV r2.index], Box pv2 [iV r2.code, iV r2.index], Box pt2 (tF t at_ ct at_2 ct2 at_3 ct3), Box pv [iV r2.code, iV r2.index], Box pt (tF t at_ ct at_2 ct2 at_3 ct3)] ?_
  refine .nil (.seqN (.ret (.seqR ?_)))
  refine .res3 rfl (rvT rfl) (rvT rfl) (rvC rfl tA27 (k := 4) rfl rfl) (fun w' S => ⟨(([] : List Int), false, r2), (none, 0), h, hF, rfl, (FH.le_refl _), ⟨RSl.nil_, (Nat.le_refl 0)⟩, S.none⟩)
 replace hF := hF.2 q10
 refine .skip (.seqN (.seq (.region (.V (ldA (cs := (tF t at_ ct at_2 ct2 at_3 ct3)) rfl tA25 rfl (cellsB (off := 0) (k := 2) rfl (m := 4) rfl)) ?_))))
 refine .inl Tryz.func47 rfl Tryz.ntmps47 Tryz.call47 rfl rfl rfl rfl (fun a2 q11 => ?_)
 refine .seq (.region ?_)
 refine bx (vs := (tF t at_ ct at_2 ct2 at_3 ct3)) rfl rfl rfl (fun pt3 => ?_)
 refine .V ag0 ?_
 refine .nil (.seqN (.seq ?_))
 obtain ⟨q12, hF⟩ := hF
 obtain ⟨r3, q13⟩ : ∃ y_ : Int, y_ = sp_word t.init := ⟨_, rfl⟩
 replace hF := hF r3 q13
 obtain ⟨q14, hF⟩ := hF
 obtain ⟨r4, q15⟩ : ∃ y_ : Int, y_ = sp_word t.goal := ⟨_, rfl⟩
 replace hF := hF r4 q15
 refine .openA (s0 := [(1, .pointer (some pt3))]) [0, 1, 2, 3, 4, 5, 6] [(0, .pointer (some (pt3.add 1))), (1, vSl at_ t.init ct), (2, .int .u32 r3), (3, .pointer (some (pt3.add 2))), (4, vSl at_2 t.goal ct2), (5, .int .u32 r4), (6, .agg #[.int .u32 r3, .int .u32 r4, .slice none 0 0])] (by kernel_rfl) sb [1] [] rfl (by kernel_rfl) ?_
 refine .step [7] 7 rfl (by kernel_rfl) (by kernel_rfl) (.v [] rfl rfl rfl rfl rfl rfl (fun _ => fa rfl tF25_1) (.v [(6, .pointer (some (pt3.add 1)))] rfl rfl rfl rfl rfl rfl (fun _ => ld1 rfl tO22 (cellB (off := 1) (k := 0) rfl rfl)) (.c [(7, vSl at_ t.init ct)] rfl rfl rfl rfl rfl rfl (fun _ => cl (v := .int .u32 r3) Tryz.call73 rfl rfl (fun w S => (by rw [q13]; exact c_word S.sub t.init at_ ct _q1 _q2 q12))) (.v [] rfl rfl rfl rfl rfl rfl (fun _ => fa rfl tF25_2) (.v [(9, .pointer (some (pt3.add 2)))] rfl rfl rfl rfl rfl rfl (fun _ => ld1 rfl tO22 (cellB (off := 2) (k := 0) rfl rfl)) (.c [(10, vSl at_2 t.goal ct2), (8, .int .u32 r3)] rfl rfl rfl rfl rfl rfl (fun _ => cl (v := .int .u32 r4) Tryz.call73 rfl rfl (fun w S => (by rw [q15]; exact c_word S.sub t.goal at_2 ct2 _q3 _q4 q14))) (.v [(8, .int .u32 r3), (11, .int .u32 r4)] rfl rfl rfl rfl rfl rfl (fun _ => bld (cs := #[.int .u32 r3, .int .u32 r4, .slice none 0 0]) (pv := [(0, .int .u32 r3), (1, .int .u32 r4)]) tB112 rfl rfl) (.nil)))))))) (.cons [(12, .agg #[.int .u32 r3, .int .u32 r4, .slice none 0 0])] rfl rfl (fun sL hL => ?_) (.nil))
 refine bx (vs := [.int .u32 r3, .int .u32 r4, .slice none 0 0]) rfl rfl rfl (fun pv3 => ?_)
 refine .nil ?_
 refine .ja (M := [6, 2, 5, 1, 4, 0, 3]) (C' := [8]) (pre := [(7, .pointer (some pv3)), (8, .pointer (some pv3))]) [(1, .pointer (some pt3))] [1] hL rfl rfl rfl rfl rfl sb rfl rfl (by kernel_rfl) ?_
 refine .last [(6, .pointer (some (pt3.add 1))), (7, vSl at_ t.init ct), (8, .int .u32 r3), (9, .pointer (some (pt3.add 2))), (10, vSl at_2 t.goal ct2), (11, .int .u32 r4), (12, .agg #[.int .u32 r3, .int .u32 r4, .slice none 0 0]), (13, .pointer (some pv3)), (3, .pointer (some pv3))] rfl (by kernel_rfl) (.v [(13, .pointer (some pv3)), (11, .int .u32 r4), (6, .pointer (some (pt3.add 1))), (7, vSl at_ t.init ct), (8, .int .u32 r3), (9, .pointer (some (pt3.add 2))), (10, vSl at_2 t.goal ct2), (11, .int .u32 r4), (12, .agg #[.int .u32 r3, .int .u32 r4, .slice none 0 0]), (13, .pointer (some pv3))] rfl rfl rfl rfl rfl rfl (fun _ => asg rfl) (.nil)) rfl ?_
 refine .seqN (.seq (.seq (.region (.V (fa rfl tF25_3) ?_))))
 refine .V (ld1 rfl tO23 (cellB (off := 3) (k := 1) rfl rfl)) ?_
 refine .V (ln rfl tS23.is) ?_
 refine .V mv0 ?_
 refine .nil (.seqN (.block ?_))
 refine .nilSl 132 4 ?_
 refine .KA [oL 132 4 none ([] : List Masks) 0, Box pv3 [.int .u32 r3, .int .u32 r4, .slice none 0 0], Box pt3 (tF t at_ ct at_2 ct2 at_3 ct3), Box pf [iV r2.code, iV r2.index], Box pv2 [iV 0, iV 0], Box pt2 (tF t at_ ct at_2 ct2 at_3 ct3), Box pv [iV 0, iV 0], Box pt (tF t at_ ct at_2 ct2 at_3 ct3)] ?_
 refine .sel0 [1, 6, 4, 0] (by decide) rfl ?_
 obtain ⟨I1, μ1, q288, q289⟩ := hF
 refine .loop' (σ := Int × List Masks × Option Addr × Nat) (fun z => I1 z.1 z.2.1) (fun z => μ1 z.1 z.2.1) (fun z => [(3, .pointer (some pv3)), (15, vSl at_3 t.ops ct3), (16, iV ((t.ops.length : Nat) : Int)), (17, iV z.1)]) (fun z => [Box pv3 [.int .u32 r3, .int .u32 r4, vSl z.2.2.1 z.2.1 z.2.2.2], Box pv [iV 0, iV 0], Box pv2 [iV 0, iV 0], oL 132 4 z.2.2.1 z.2.1 z.2.2.2]) (fun _ => h) (0, ([] : List Masks), none, 0) q288 sb rfl (FH.le_refl _) ?_
 rintro ⟨t17, l, al2, cl2⟩ q288
 have hF := q289 t17 l q288
 show J _ _ _ _ _ [(3, .pointer (some pv3)), (15, vSl at_3 t.ops ct3), (16, iV ((t.ops.length : Nat) : Int)), (17, iV t17)] [Box pv3 [.int .u32 r3, .int .u32 r4, vSl al2 l cl2], Box pv [iV 0, iV 0], Box pv2 [iV 0, iV 0], oL 132 4 al2 l cl2] h
 refine .seq (.region (.V bi0 ?_))
 refine .nil (.seqN (.seq ?_))
 refine .cond rfl (fun q292 => ?_) (fun q292 => ?_)
 ·replace hF := hF.1 q292
  refine .skip (.seqN (.seq (.block (.seq (.region ?_)))))
  obtain ⟨q327, hF⟩ := hF
  refine .V (ix rfl rfl tS23 (_q5.ne (by decide) (inb_pos q327)) q327) ?_
  obtain ⟨_, ⟨a3, c, a4, c2, a5, c3, rfl, ⟨q328, q329⟩, ⟨q330, q331⟩, q332, q333⟩, q334⟩ := _q5.elem q327
  refine .V (ldA (cs := [.slice a3 ((gt t.ops t17).pre.length) c, .slice a4 ((gt t.ops t17).add.length) c2, .slice a5 ((gt t.ops t17).del.length) c3, iV ((gt t.ops t17).cost)]) rfl tA114 rfl (cellsH (q334 (by decide)))) ?_
  refine al tZ114 rfl (fun po => ?_)
  refine st (p := po) (off := 0) (k := 0) (vs := [.slice a3 ((gt t.ops t17).pre.length) c, .slice a4 ((gt t.ops t17).add.length) c2, .slice a5 ((gt t.ops t17).del.length) c3, iV ((gt t.ops t17).cost)]) rfl rfl rfl (fun w => (tA114 w).2) rfl rfl rfl rfl ?_
  refine .KA [Box po [.slice a3 ((gt t.ops t17).pre.length) c, .slice a4 ((gt t.ops t17).add.length) c2, .slice a5 ((gt t.ops t17).del.length) c3, iV ((gt t.ops t17).cost)], Box pv3 [.int .u32 r3, .int .u32 r4, vSl al2 l cl2], Box pv [iV 0, iV 0], Box pv2 [iV 0, iV 0], oL 132 4 al2 l cl2] ?_
  refine .nil (.seqN ?_)
  obtain ⟨q335, hF⟩ := hF
  obtain ⟨r5, q336⟩ : ∃ y_ : Int, y_ = sp_word ((gt t.ops t17).pre) := ⟨_, rfl⟩
  replace hF := hF r5 q336
  obtain ⟨q337, hF⟩ := hF
  obtain ⟨r6, q338⟩ : ∃ y_ : Int, y_ = sp_word ((gt t.ops t17).add) := ⟨_, rfl⟩
  replace hF := hF r6 q338
  obtain ⟨q339, hF⟩ := hF
  obtain ⟨r7, q340⟩ : ∃ y_ : Int, y_ = sp_word ((gt t.ops t17).del) := ⟨_, rfl⟩
  replace hF := hF r7 q340
  refine .openA (s0 := [(3, .pointer (some pv3)), (5, .pointer (some po)), (15, vSl at_3 t.ops ct3), (16, iV ((t.ops.length : Nat) : Int)), (17, iV t17)]) [0, 1, 2, 3, 4, 5, 6, 7, 8, 9, 10, 11, 12, 13, 14, 15, 16] [(0, .pointer (some pv3)), (1, .pointer (some pv3)), (2, .pointer (some pv3)), (3, .pointer (some (pv3.add 2))), (4, vSl al2 l cl2), (5, .pointer (some (po.add 0))), (6, .slice a3 ((gt t.ops t17).pre.length) c), (7, .int .u32 r5), (8, .pointer (some (po.add 1))), (9, .slice a4 ((gt t.ops t17).add.length) c2), (10, .int .u32 r6), (11, .pointer (some (po.add 2))), (12, .slice a5 ((gt t.ops t17).del.length) c3), (13, .int .u32 r7), (14, .pointer (some (po.add 3))), (15, iV ((gt t.ops t17).cost)), (16, .agg #[.int .u32 r5, .int .u32 r6, .int .u32 r7, iV ((gt t.ops t17).cost)])] (by kernel_rfl) sb [3, 5, 15, 16, 17] [] rfl (by kernel_rfl) ?_
  refine .step [17] 17 rfl (by kernel_rfl) (by kernel_rfl) (.v [] rfl rfl rfl rfl rfl rfl (fun _ => mv rfl) (.v [] rfl rfl rfl rfl rfl rfl (fun _ => mv rfl) (.v [(22, .pointer (some pv3))] rfl rfl rfl rfl rfl rfl (fun _ => nck rfl) (.v [(23, .pointer (some pv3))] rfl rfl rfl rfl rfl rfl (fun _ => fa rfl tF112_2) (.v [(24, .pointer (some (pv3.add 2)))] rfl rfl rfl rfl rfl rfl (fun _ => ld1 rfl tO110 (cellB (off := 2) (k := 1) rfl rfl)) (.v [] rfl rfl rfl rfl rfl rfl (fun _ => fa rfl tF114_0) (.v [(26, .pointer (some (po.add 0)))] rfl rfl rfl rfl rfl rfl (fun _ => ld1 rfl tO22 (cellB (off := 0) (k := 0) rfl rfl)) (.c [(27, .slice a3 ((gt t.ops t17).pre.length) c)] rfl rfl rfl rfl rfl rfl (fun _ => cl (v := .int .u32 r5) Tryz.call73 rfl rfl (fun w S => (by rw [q336]; exact c_word S.sub ((gt t.ops t17).pre) a3 c q329 q328 q335))) (.v [] rfl rfl rfl rfl rfl rfl (fun _ => fa rfl tF114_1) (.v [(29, .pointer (some (po.add 1)))] rfl rfl rfl rfl rfl rfl (fun _ => ld1 rfl tO22 (cellB (off := 1) (k := 0) rfl rfl)) (.c [(30, .slice a4 ((gt t.ops t17).add.length) c2), (28, .int .u32 r5)] rfl rfl rfl rfl rfl rfl (fun _ => cl (v := .int .u32 r6) Tryz.call73 rfl rfl (fun w S => (by rw [q338]; exact c_word S.sub ((gt t.ops t17).add) a4 c2 q331 q330 q337))) (.v [] rfl rfl rfl rfl rfl rfl (fun _ => fa rfl tF114_2) (.v [(32, .pointer (some (po.add 2)))] rfl rfl rfl rfl rfl rfl (fun _ => ld1 rfl tO22 (cellB (off := 2) (k := 0) rfl rfl)) (.c [(33, .slice a5 ((gt t.ops t17).del.length) c3), (31, .int .u32 r6)] rfl rfl rfl rfl rfl rfl (fun _ => cl (v := .int .u32 r7) Tryz.call73 rfl rfl (fun w S => (by rw [q340]; exact c_word S.sub ((gt t.ops t17).del) a5 c3 q333 q332 q339))) (.v [] rfl rfl rfl rfl rfl rfl (fun _ => fa rfl tF114_3) (.v [(35, .pointer (some (po.add 3)))] rfl rfl rfl rfl rfl rfl (fun _ => ld1 rfl tO3 (cellB (off := 3) (k := 0) rfl rfl)) (.v [(28, .int .u32 r5), (31, .int .u32 r6), (34, .int .u32 r7), (36, iV ((gt t.ops t17).cost))] rfl rfl rfl rfl rfl rfl (fun _ => bld (cs := #[.int .u32 r5, .int .u32 r6, .int .u32 r7, iV ((gt t.ops t17).cost)]) (pv := [(0, .int .u32 r5), (1, .int .u32 r6), (2, .int .u32 r7), (3, iV ((gt t.ops t17).cost))]) tB132 rfl rfl) (.nil)))))))))))))))))) (.cons [(37, .agg #[.int .u32 r5, .int .u32 r6, .int .u32 r7, iV ((gt t.ops t17).cost)])] rfl rfl (fun sL hL => ?_) (.nil))
  refine bs2 (cs := #[.int .u32 r5, .int .u32 r6, .int .u32 r7, iV ((gt t.ops t17).cost)]) (pv := [(0, .agg #[.int .u32 r5, .int .u32 r6, .int .u32 r7, iV ((gt t.ops t17).cost)])]) tS110 rfl rfl (by decide) (by decide) rfl rfl rfl (fun a6 _ => ?_)
  refine .KA [oL 132 4 a6 ([(⟨r5, r6, r7, (gt t.ops t17).cost⟩ : Masks)] : List Masks) 1, Box po [.slice a3 ((gt t.ops t17).pre.length) c, .slice a4 ((gt t.ops t17).add.length) c2, .slice a5 ((gt t.ops t17).del.length) c3, iV ((gt t.ops t17).cost)], Box pv3 [.int .u32 r3, .int .u32 r4, vSl al2 l cl2], Box pv [iV 0, iV 0], Box pv2 [iV 0, iV 0], oL 132 4 al2 l cl2] ?_
  refine .nil ?_
  refine .ja (M := [16, 7, 10, 13, 15, 6, 9, 12, 14, 5, 8, 11]) (C' := [0, 1, 2, 3, 4]) (pre := [(17, .slice a6 (([(⟨r5, r6, r7, (gt t.ops t17).cost⟩ : Masks)] : List Masks).length) 1)]) [(3, .pointer (some pv3)), (5, .pointer (some po)), (15, vSl at_3 t.ops ct3), (16, iV ((t.ops.length : Nat) : Int)), (17, iV t17)] [3, 5, 15, 16, 17] hL rfl rfl rfl rfl rfl sb rfl rfl (by kernel_rfl) ?_
  refine .step [18] 18 rfl (by kernel_rfl) (by kernel_rfl) (.v [] rfl rfl rfl rfl rfl rfl (fun _ => mv rfl) (.v [] rfl rfl rfl rfl rfl rfl (fun _ => mv rfl) (.v [(22, .pointer (some pv3))] rfl rfl rfl rfl rfl rfl (fun _ => nck rfl) (.v [(23, .pointer (some pv3))] rfl rfl rfl rfl rfl rfl (fun _ => fa rfl tF112_2) (.v [(24, .pointer (some (pv3.add 2)))] rfl rfl rfl rfl rfl rfl (fun _ => ld1 rfl tO110 (cellB (off := 2) (k := 2) rfl rfl)) (.nil)))))) (.cons [(25, vSl al2 l cl2), (38, .slice a6 (([(⟨r5, r6, r7, (gt t.ops t17).cost⟩ : Masks)] : List Masks).length) 1), (34, .int .u32 r7)] rfl rfl (fun sL hL => ?_) (.nil))
  obtain ⟨q342, hF⟩ := hF
  have q343 : l.length + ([(⟨r5, r6, r7, (gt t.ops t17).cost⟩ : Masks)] : List Masks).length = ((l ++ ([(⟨r5, r6, r7, (gt t.ops t17).cost⟩ : Masks)] : List Masks))).length := len_app rfl rfl
  refine app (k := 5) (news := flL ([(⟨r5, r6, r7, (gt t.ops t17).cost⟩ : Masks)] : List Masks)) (cs' := flL (l ++ ([(⟨r5, r6, r7, (gt t.ops t17).cost⟩ : Masks)] : List Masks))) (nm := ((l ++ ([(⟨r5, r6, r7, (gt t.ops t17).cost⟩ : Masks)] : List Masks))).length) tS110 rfl (by decide) rfl rfl rfl ((flL_len _).trans rfl) (srcS (k := 0) rfl) (flL_one _) (room_of q343 q342).1 (room_of q343 q342).2 q343 (flL_append _ _).symm rfl (fun a7 c4 => ?_)
  refine .KA [oL 132 4 a6 ([(⟨r5, r6, r7, (gt t.ops t17).cost⟩ : Masks)] : List Masks) 1, Box po [.slice a3 ((gt t.ops t17).pre.length) c, .slice a4 ((gt t.ops t17).add.length) c2, .slice a5 ((gt t.ops t17).del.length) c3, iV ((gt t.ops t17).cost)], Box pv3 [.int .u32 r3, .int .u32 r4, vSl al2 l cl2], Box pv [iV 0, iV 0], Box pv2 [iV 0, iV 0], oL 132 4 a7 (l ++ ([(⟨r5, r6, r7, (gt t.ops t17).cost⟩ : Masks)] : List Masks)) c4] ?_
  refine .nil ?_
  refine .ja (M := [4, 3, 2, 1]) (C' := [0, 19, 20]) (pre := [(18, .slice a7 ((l ++ ([(⟨r5, r6, r7, (gt t.ops t17).cost⟩ : Masks)] : List Masks)).length) c4), (19, .pointer (some pv3)), (20, .pointer (some (pv3.add 2)))]) [(3, .pointer (some pv3)), (5, .pointer (some po)), (15, vSl at_3 t.ops ct3), (16, iV ((t.ops.length : Nat) : Int)), (17, iV t17)] [3, 5, 15, 16, 17] hL rfl rfl rfl rfl rfl sb rfl rfl (by kernel_rfl) ?_
  refine .step [21] 21 rfl (by kernel_rfl) (by kernel_rfl) (.v [] rfl rfl rfl rfl rfl rfl (fun _ => mv rfl) (.v [(21, .pointer (some pv3)), (21, .pointer (some pv3)), (22, .pointer (some pv3)), (23, .pointer (some pv3)), (24, .pointer (some (pv3.add 2))), (25, vSl al2 l cl2), (26, .pointer (some (po.add 0))), (27, .slice a3 ((gt t.ops t17).pre.length) c), (28, .int .u32 r5), (29, .pointer (some (po.add 1))), (30, .slice a4 ((gt t.ops t17).add.length) c2), (31, .int .u32 r6), (32, .pointer (some (po.add 2))), (33, .slice a5 ((gt t.ops t17).del.length) c3), (34, .int .u32 r7), (35, .pointer (some (po.add 3))), (36, iV ((gt t.ops t17).cost)), (37, .agg #[.int .u32 r5, .int .u32 r6, .int .u32 r7, iV ((gt t.ops t17).cost)]), (38, .slice a6 (([(⟨r5, r6, r7, (gt t.ops t17).cost⟩ : Masks)] : List Masks).length) 1), (39, .slice a7 ((l ++ ([(⟨r5, r6, r7, (gt t.ops t17).cost⟩ : Masks)] : List Masks)).length) c4)] rfl rfl rfl rfl rfl rfl (fun _ => nck rfl) (.v [(40, .pointer (some pv3)), (21, .pointer (some pv3)), (22, .pointer (some pv3)), (23, .pointer (some pv3)), (24, .pointer (some (pv3.add 2))), (25, vSl al2 l cl2), (26, .pointer (some (po.add 0))), (27, .slice a3 ((gt t.ops t17).pre.length) c), (28, .int .u32 r5), (29, .pointer (some (po.add 1))), (30, .slice a4 ((gt t.ops t17).add.length) c2), (31, .int .u32 r6), (32, .pointer (some (po.add 2))), (33, .slice a5 ((gt t.ops t17).del.length) c3), (34, .int .u32 r7), (35, .pointer (some (po.add 3))), (36, iV ((gt t.ops t17).cost)), (37, .agg #[.int .u32 r5, .int .u32 r6, .int .u32 r7, iV ((gt t.ops t17).cost)]), (38, .slice a6 (([(⟨r5, r6, r7, (gt t.ops t17).cost⟩ : Masks)] : List Masks).length) 1), (39, .slice a7 ((l ++ ([(⟨r5, r6, r7, (gt t.ops t17).cost⟩ : Masks)] : List Masks)).length) c4)] rfl rfl rfl rfl rfl rfl (fun _ => fa rfl tF112_2) (.nil)))) (.cons [(41, .pointer (some (pv3.add 2))), (39, .slice a7 ((l ++ ([(⟨r5, r6, r7, (gt t.ops t17).cost⟩ : Masks)] : List Masks)).length) c4), (39, .slice a7 ((l ++ ([(⟨r5, r6, r7, (gt t.ops t17).cost⟩ : Masks)] : List Masks)).length) c4), (21, .pointer (some pv3)), (22, .pointer (some pv3)), (23, .pointer (some pv3)), (24, .pointer (some (pv3.add 2))), (25, vSl al2 l cl2), (26, .pointer (some (po.add 0))), (27, .slice a3 ((gt t.ops t17).pre.length) c), (28, .int .u32 r5), (29, .pointer (some (po.add 1))), (30, .slice a4 ((gt t.ops t17).add.length) c2), (31, .int .u32 r6), (32, .pointer (some (po.add 2))), (33, .slice a5 ((gt t.ops t17).del.length) c3), (34, .int .u32 r7), (35, .pointer (some (po.add 3))), (36, iV ((gt t.ops t17).cost)), (37, .agg #[.int .u32 r5, .int .u32 r6, .int .u32 r7, iV ((gt t.ops t17).cost)]), (38, .slice a6 (([(⟨r5, r6, r7, (gt t.ops t17).cost⟩ : Masks)] : List Masks).length) 1), (39, .slice a7 ((l ++ ([(⟨r5, r6, r7, (gt t.ops t17).cost⟩ : Masks)] : List Masks)).length) c4)] rfl rfl (fun sL hL => ?_) (.nil))
  refine st (p := pv3) (off := 2) (k := 2) (vs := [.slice a7 ((l ++ ([(⟨r5, r6, r7, (gt t.ops t17).cost⟩ : Masks)] : List Masks)).length) c4]) rfl rfl rfl (fun w => (tO110 w).2) rfl rfl rfl rfl ?_
  refine .KA [oL 132 4 a6 ([(⟨r5, r6, r7, (gt t.ops t17).cost⟩ : Masks)] : List Masks) 1, Box po [.slice a3 ((gt t.ops t17).pre.length) c, .slice a4 ((gt t.ops t17).add.length) c2, .slice a5 ((gt t.ops t17).del.length) c3, iV ((gt t.ops t17).cost)], Box pv3 [.int .u32 r3, .int .u32 r4, .slice a7 ((l ++ ([(⟨r5, r6, r7, (gt t.ops t17).cost⟩ : Masks)] : List Masks)).length) c4], Box pv [iV 0, iV 0], Box pv2 [iV 0, iV 0], oL 132 4 a7 (l ++ ([(⟨r5, r6, r7, (gt t.ops t17).cost⟩ : Masks)] : List Masks)) c4] ?_
  refine .nil ?_
  refine .jaN (M := [20, 0, 19]) (C' := []) (pre := []) [3, 5, 15, 16, 17] hL rfl rfl rfl rfl rfl (by kernel_rfl) ?_
  refine .last [(21, .pointer (some pv3)), (22, .pointer (some pv3)), (23, .pointer (some pv3)), (24, .pointer (some (pv3.add 2))), (25, vSl al2 l cl2), (26, .pointer (some (po.add 0))), (27, .slice a3 ((gt t.ops t17).pre.length) c), (28, .int .u32 r5), (29, .pointer (some (po.add 1))), (30, .slice a4 ((gt t.ops t17).add.length) c2), (31, .int .u32 r6), (32, .pointer (some (po.add 2))), (33, .slice a5 ((gt t.ops t17).del.length) c3), (34, .int .u32 r7), (35, .pointer (some (po.add 3))), (36, iV ((gt t.ops t17).cost)), (37, .agg #[.int .u32 r5, .int .u32 r6, .int .u32 r7, iV ((gt t.ops t17).cost)]), (38, .slice a6 (([(⟨r5, r6, r7, (gt t.ops t17).cost⟩ : Masks)] : List Masks).length) 1), (39, .slice a7 ((l ++ ([(⟨r5, r6, r7, (gt t.ops t17).cost⟩ : Masks)] : List Masks)).length) c4), (40, .pointer (some pv3)), (41, .pointer (some (pv3.add 2)))] rfl (by kernel_rfl) (.nil) rfl ?_
  refine .blkN (.seqN (.region (.V bi0 ?_)))
  refine .V mv0 ?_
  refine .nil ?_
  refine .sel0 [2, 3, 4, 5] (by decide) rfl ?_
  exact .RO (wr (t17 + 1), (l ++ ([(⟨r5, r6, r7, (gt t.ops t17).cost⟩ : Masks)] : List Masks)), a7, c4) hF.1 hF.2
 replace hF := hF.2 q292
 refine .exit (.seqX (.seqX (.blkX (.seqN (.seq (.region (.V mv0 ?_)))))))
 refine .V ag0 ?_
 refine .nil (.seqN (.ret ?_))
 refine .res1 rfl (rvT rfl) (inl_back (v := .pointer (some pv3)) q11 rfl ?_)
 refine .KA [Box pv3 [.int .u32 r3, .int .u32 r4, vSl al2 l cl2], Box pv [iV 0, iV 0], Box pv2 [iV 0, iV 0], oL 132 4 al2 l cl2] ?_
 refine .V ag0 ?_
 refine .nil (.seqN (.seq (.region (.V mv0 ?_))))
 refine .V (mkI tC53 rfl) ?_
 refine .freezeL (k := 3) rfl (fun h1 le1 q345 q344 => ?_)
 refine .KA [Box pv3 [.int .u32 r3, .int .u32 r4, vSl al2 l cl2], Box pv [iV 0, iV 0], Box pv2 [iV 0, iV 0], tru] ?_
 refine .freezeBx (k := 0) rfl (fun h2 le2 q346 => ?_)
 refine .KA [tru, Box pv [iV 0, iV 0], Box pv2 [iV 0, iV 0], tru] ?_
 obtain ⟨q347, hF⟩ := hF
 obtain ⟨r8, q348⟩ : ∃ y_ : List Int × Bool, y_ = sp_all (⟨r3, r4, l⟩ : WordsT) := ⟨_, rfl⟩
 replace hF := hF r8 q348
 refine clO (α := Option Addr × Nat) (V := fun z => .tuple #[vSl z.1 r8.1 z.2, .bool r8.2]) (Ψ := fun z => True) (B := fun z => [OwnSl 60 1 z.1 r8.1.length z.2 (flL (α := W32) r8.1)]) Tryz.call48 rfl rfl (fun w S => (by rw [q348]; exact c_all S.sub (⟨r3, r4, l⟩ : WordsT) al2 cl2 ((RSl.of q344).mono (le2)) (q345) pv3 (CellsAt.mono (FH.le_refl _) q346) q347)) rfl (fun z _ => ?_)
 obtain ⟨a8, c5⟩ := z
 refine .KA [OwnSl 60 1 a8 r8.1.length c5 (flL (α := W32) r8.1), tru, Box pv [iV 0, iV 0], Box pv2 [iV 0, iV 0], tru] ?_
 refine .V mv0 ?_
 refine .V (ext rfl rfl) ?_
 refine .V (ext rfl rfl) ?_
 refine .V ag0 ?_
 refine .V ag0 ?_
 refine .nil (.seqN (.seq (.seq (.region (.V mv0 ?_)))))
 refine .V (nt rfl) ?_
 refine .nil (.seqN ?_)
 refine .cond rfl (fun q350 => ?_) (fun q350 => ?_)
 ·replace hF := hF.1 q350
  refine .seq (.region (.V (bld (cs := #[iV 10, iV (-7)]) (pv := [(0, iV 10), (1, iV (-7))]) tB27 rfl rfl) ?_))
  refine .V ag0 ?_
  refine .V ag0 ?_
  refine st (p := pv2) (off := 0) (k := 3) (vs := [iV 10, iV (-7)]) rfl rfl rfl (fun w => (tA27 w).2) rfl rfl rfl rfl ?_
  refine .KA [OwnSl 60 1 a8 r8.1.length c5 (flL (α := W32) r8.1), tru, Box pv [iV 0, iV 0], Box pv2 [iV 10, iV (-7)], tru] ?_
  refine .nil (.seqN (.ret (.seqR ?_)))
  refine .res3 rfl (rvT rfl) (rvT rfl) (rvC rfl tA27 (k := 3) rfl rfl) (inl_back (v := .tuple #[.pointer none, .slice none 0 0, .agg #[iV 10, iV (-7)]]) q7 rfl ?_)
  refine .KA [OwnSl 60 1 a8 r8.1.length c5 (flL (α := W32) r8.1), tru, Box pv [iV 0, iV 0], Box pv2 [iV 10, iV (-7)], tru] ?_
  refine .V mv0 ?_
  refine .V (ext rfl rfl) ?_
  refine .V (ext rfl rfl) ?_
  refine .V (ext rfl rfl) ?_
  refine al tZ27 rfl (fun pf3 => ?_)
  refine .V ag0 ?_
  refine .V ag0 ?_
  refine st (p := pf3) (off := 0) (k := 0) (vs := [iV 10, iV (-7)]) rfl rfl rfl (fun w => (tA27 w).2) rfl rfl rfl rfl ?_
  refine .KA [Box pf3 [iV 10, iV (-7)], OwnSl 60 1 a8 r8.1.length c5 (flL (α := W32) r8.1), tru, Box pv [iV 0, iV 0], Box pv2 [iV 10, iV (-7)], tru] ?_
  refine .nil (.seqN (.seq (.seq (.region (.V (ldA (cs := [iV 10, iV (-7)]) rfl tA27 rfl (cellsB (off := 0) (k := 0) rfl (m := 2) rfl)) ?_)))))
  refine .V (bld (cs := #[iV 0, iV 0]) (pv := []) tB27 rfl rfl) ?_
  refine .V (ne2 tE27 rfl rfl) ?_
  refine .nil (.seqN ?_)
  refine .cond rfl (fun _ => ?_) (fun e => absurd e (by decide))
  refine .seq ?_
  refine .openL (by kernel_rfl) rfl (by kernel_rfl) (by kernel_rfl) ?_
  refine .V (ldA (cs := [iV 10, iV (-7)]) rfl tA27 rfl (cellsB (off := 0) (k := 0) rfl (m := 2) rfl)) ?_
  refine .V ag0 ?_
  refine .V ag0 ?_
  refine .tail ?_
  refine st (p := pv) (off := 0) (k := 3) (vs := [iV 10, iV (-7)]) rfl rfl rfl (fun w => (tA27 w).2) rfl rfl rfl rfl ?_
  refine .KA [Box pf3 [iV 10, iV (-7)], OwnSl 60 1 a8 r8.1.length c5 (flL (α := W32) r8.1), tru, Box pv [iV 10, iV (-7)], Box pv2 [iV 10, iV (-7)], tru] ?_
  refine .nil (.seqN (.ret (.seqR ?_)))
  refine .res3 rfl (rvT rfl) (rvT rfl) (rvC rfl tA27 (k := 3) rfl rfl) (fun w' S => ⟨(([] : List Int), false, (⟨10, (-7)⟩ : Fault)), (none, 0), h2, hF, rfl, (FH.le_trans (le1) (le2)), ⟨RSl.nil_, (Nat.le_refl 0)⟩, S.none⟩)
 replace hF := hF.2 q350
 refine .skip (.seqN (.seq (.region (.V mv0 ?_))))
 obtain ⟨q351, hF⟩ := hF
 obtain ⟨r9, q352⟩ : ∃ y_ : List Int, y_ = sp_sortW r8.1 := ⟨_, rfl⟩
 replace hF := hF r9 q352
 refine callX (k := 0) (v := .tuple #[]) (X' := OwnSl 60 1 a8 r8.1.length c5 (flL (α := W32) r9)) rfl Tryz.call49 rfl rfl (fun w g hx sg hd hs' => ?_) rfl ?_
 ·rw [q352]; exact c_sortW hs' r8.1 a8 c5 hx sg hd q351
 have q353 : r9.length = r8.1.length := by rw [q352]; exact (sortW_len r8.1).trans rfl
 refine .KA [OwnSl 60 1 a8 r8.1.length c5 (flL (α := W32) r9), tru, Box pv [iV 0, iV 0], Box pv2 [iV 0, iV 0], tru] ?_
 refine .nil (.seqN (.seq (.region (.V mv0 ?_))))
 refine .V mv0 ?_
 refine .V (bld (cs := #[iV 0, iV 0]) (pv := []) tB27 rfl rfl) ?_
 refine .V ag0 ?_
 refine .V ag0 ?_
 refine st (p := pv2) (off := 0) (k := 3) (vs := [iV 0, iV 0]) rfl rfl rfl (fun w => (tA27 w).2) rfl rfl rfl rfl ?_
 refine .KA [OwnSl 60 1 a8 r8.1.length c5 (flL (α := W32) r9), tru, Box pv [iV 0, iV 0], Box pv2 [iV 0, iV 0], tru] ?_
 refine .nil (.seqN (.ret ?_))
 refine .res3 rfl (rvT rfl) (rvT rfl) (rvC rfl tA27 (k := 3) rfl rfl) (inl_back (v := .tuple #[.pointer (some pv3), .slice a8 r8.1.length c5, .agg #[iV 0, iV 0]]) q7 rfl ?_)
 refine .KA [OwnSl 60 1 a8 r8.1.length c5 (flL (α := W32) r9), tru, Box pv [iV 0, iV 0], Box pv2 [iV 0, iV 0], tru] ?_
 refine .V mv0 ?_
 refine .V (ext rfl rfl) ?_
 refine .V (ext rfl rfl) ?_
 refine .V (ext rfl rfl) ?_
 refine al tZ27 rfl (fun pf4 => ?_)
 refine .V ag0 ?_
 refine .V ag0 ?_
 refine st (p := pf4) (off := 0) (k := 0) (vs := [iV 0, iV 0]) rfl rfl rfl (fun w => (tA27 w).2) rfl rfl rfl rfl ?_
 refine .KA [Box pf4 [iV 0, iV 0], OwnSl 60 1 a8 r8.1.length c5 (flL (α := W32) r9), tru, Box pv [iV 0, iV 0], Box pv2 [iV 0, iV 0], tru] ?_
 refine .nil (.seqN (.seq (.seq (.region (.V (ldA (cs := [iV 0, iV 0]) rfl tA27 rfl (cellsB (off := 0) (k := 0) rfl (m := 2) rfl)) ?_)))))
 refine .V (bld (cs := #[iV 0, iV 0]) (pv := []) tB27 rfl rfl) ?_
 refine .V (ne2 tE27 rfl rfl) ?_
 refine .nil (.seqN ?_)
 refine .cond rfl (fun e => absurd e (by decide)) (fun _ => ?_)
 refine .skip (.seqN (.seq (.region (.V mv0 ?_))))
 refine .V (mkI tC53 rfl) ?_
 refine .V mv0 ?_
 refine .V (mkf (vf := [.pointer (some pv3)]) (vc := []) rfl rfl) ?_
 refine .inlM Tryz.func23 rfl Tryz.ntmps23 Tryz.call23 rfl rfl rfl rfl (fun a9 q354 => ?_)
 refine .mk0 ?_
 refine .KA [MkA [], Box pf4 [iV 0, iV 0], OwnSl 60 1 a8 r8.1.length c5 (flL (α := W32) r9), tru, Box pv [iV 0, iV 0], Box pv2 [iV 0, iV 0], tru] ?_
 refine .seq (.region (.V ag0 ?_))
 refine .V ag0 ?_
 refine .nil (.seqN (.seq (.region (.V mv0 ?_))))
 refine .inlI Tryz.func80 rfl Tryz.ntmps80 Tryz.call80 tm53_Start rfl rfl rfl (fun a10 q355 => ?_)
 refine .seq (.region (.V ag0 ?_))
 refine .nil (.seqN (.seq (.region (.V mv0 ?_))))
 refine .V (nck rfl) ?_
 refine .V (fa rfl tF112_0) ?_
 refine .V (ld1 (v := .int .u32 r3) rfl tO60 (cellH (CellsAt.mono (FH.le_refl _) q346 0 _ rfl))) ?_
 refine .V ag0 ?_
 refine .nil (.seqN (.ret ?_))
 refine .res1 rfl (rvT rfl) (inl_back (v := .int .u32 r3) q355 rfl ?_)
 refine .KA [MkA [], Box pf4 [iV 0, iV 0], OwnSl 60 1 a8 r8.1.length c5 (flL (α := W32) r9), tru, Box pv [iV 0, iV 0], Box pv2 [iV 0, iV 0], tru] ?_
 refine .V ag0 ?_
 refine .nil (.seqN (.seq (.region ?_)))
 refine mmI .u32 (fun x : Back => .agg #[.int .u32 x.from_, iV x.op]) rfl (fun bv => ?_)
 refine .KA [OwnMapI bv .u32 (fun x : Back => .agg #[.int .u32 x.from_, iV x.op]) ([] : List (Int × Back)), MkA [], Box pf4 [iV 0, iV 0], OwnSl 60 1 a8 r8.1.length c5 (flL (α := W32) r9), tru, Box pv [iV 0, iV 0], Box pv2 [iV 0, iV 0], tru] ?_
 refine .V mv0 ?_
 refine .V mv0 ?_
 refine .V (bld (cs := #[.int .u32 r3, iV 0]) (pv := [(0, .int .u32 r3)]) tB101 rfl rfl) ?_
 refine miI (enc := (fun x : Back => .agg #[.int .u32 x.from_, iV x.op])) (⟨r3, 0⟩ : Back) tMI102 rfl rfl rfl (q := 0) rfl ?_
 obtain ⟨m, q356⟩ : ∃ y_ : List (Int × Back), y_ = (setA ([] : List (Int × Back)) r3 (⟨r3, 0⟩ : Back)) := ⟨_, rfl⟩
 replace hF := hF m q356
 refine .cast (A' := [OwnMapI bv .u32 (fun x : Back => .agg #[.int .u32 x.from_, iV x.op]) m, MkA [], Box pf4 [iV 0, iV 0], OwnSl 60 1 a8 r8.1.length c5 (flL (α := W32) r9), tru, Box pv [iV 0, iV 0], Box pv2 [iV 0, iV 0], tru]) (by rw [q356]; rfl) ?_
 refine .V mv0 ?_
 refine al tZ102 rfl (fun pparents => ?_)
 refine st (p := pparents) (off := 0) (k := 0) (vs := [.map (some bv)]) rfl rfl rfl (fun w => (tO102 w).2) rfl rfl rfl rfl ?_
 refine .KA [Box pparents [.map (some bv)], OwnMapI bv .u32 (fun x : Back => .agg #[.int .u32 x.from_, iV x.op]) m, MkA [], Box pf4 [iV 0, iV 0], OwnSl 60 1 a8 r8.1.length c5 (flL (α := W32) r9), tru, Box pv [iV 0, iV 0], Box pv2 [iV 0, iV 0], tru] ?_
 refine .nil (.seqN (.seq (.region (.V mv0 ?_))))
 refine bs2 (cs := #[.int .u32 r3]) (pv := [(0, .int .u32 r3)]) tS54 rfl rfl (by decide) (by decide) rfl rfl rfl (fun a11 _ => ?_)
 refine .KA [OwnSl 60 1 a11 (([r3] : List Int).length) 1 (flL (α := W32) ([r3] : List Int)), Box pparents [.map (some bv)], OwnMapI bv .u32 (fun x : Back => .agg #[.int .u32 x.from_, iV x.op]) m, MkA [], Box pf4 [iV 0, iV 0], OwnSl 60 1 a8 r8.1.length c5 (flL (α := W32) r9), tru, Box pv [iV 0, iV 0], Box pv2 [iV 0, iV 0], tru] ?_
 refine al tZ54 rfl (fun pline => ?_)
 refine st (p := pline) (off := 0) (k := 0) (vs := [.slice a11 (([r3] : List Int).length) 1]) rfl rfl rfl (fun w => (tO54 w).2) rfl rfl rfl rfl ?_
 refine .KA [Box pline [.slice a11 (([r3] : List Int).length) 1], OwnSl 60 1 a11 (([r3] : List Int).length) 1 (flL (α := W32) ([r3] : List Int)), Box pparents [.map (some bv)], OwnMapI bv .u32 (fun x : Back => .agg #[.int .u32 x.from_, iV x.op]) m, MkA [], Box pf4 [iV 0, iV 0], OwnSl 60 1 a8 r8.1.length c5 (flL (α := W32) r9), tru, Box pv [iV 0, iV 0], Box pv2 [iV 0, iV 0], tru] ?_
 refine .nil (.seqN (.seq (.block ?_)))
 refine .toTl (k := 1) rfl ?_
 refine .KA [Box pline [.slice a11 (([r3] : List Int).length) 1], OwnTl 60 1 a11 (([r3] : List Int).length) 1 (flL (α := W32) ([r3] : List Int)), Box pparents [.map (some bv)], OwnMapI bv .u32 (fun x : Back => .agg #[.int .u32 x.from_, iV x.op]) m, MkA [], Box pf4 [iV 0, iV 0], OwnSl 60 1 a8 r8.1.length c5 (flL (α := W32) r9), tru, Box pv [iV 0, iV 0], Box pv2 [iV 0, iV 0], tru] ?_
 refine .sel0 [2, 0, 4, 8, 3, 1] (by decide) rfl ?_
 obtain ⟨I2, μ2, q1933, q1934⟩ := hF
 refine .loopN' (σ := List (Int × Back) × List Int × List Nat × Option Addr × Nat) (fun z => I2 z.1 z.2.1) (fun z => μ2 z.1 z.2.1) (fun z => ⟨62, none, z.2.2.1⟩) (fun _ => [(0, .iface 53 (.pointer (some pv3))), (1, .func (.func 24) #[.pointer (some pv3)] #[]), (6, .int .u32 r3), (7, .pointer (some pparents)), (8, .pointer (some pline))]) (fun z => [Box pparents [.map (some bv)], Box pline [vSl z.2.2.2.1 z.2.1 z.2.2.2.2], MkA z.2.2.1, Box pv [iV 0, iV 0], OwnMapI bv .u32 (fun x : Back => .agg #[.int .u32 x.from_, iV x.op]) z.1, OwnTl 60 1 z.2.2.2.1 z.2.1.length z.2.2.2.2 (flL (α := W32) z.2.1)]) (fun _ => h2) (m, ([r3] : List Int), [], a11, 1) q1933 (fun _ => rfl) rfl sb rfl (FH.le_refl _) ?_
 rintro ⟨m2, l3, dl, al4, cl4⟩ q1933
 have hF := q1934 m2 l3 q1933
 show J _ _ ⟨62, none, dl⟩ _ _ [(0, .iface 53 (.pointer (some pv3))), (1, .func (.func 24) #[.pointer (some pv3)] #[]), (6, .int .u32 r3), (7, .pointer (some pparents)), (8, .pointer (some pline))] [Box pparents [.map (some bv)], Box pline [vSl al4 l3 cl4], MkA dl, Box pv [iV 0, iV 0], OwnMapI bv .u32 (fun x : Back => .agg #[.int .u32 x.from_, iV x.op]) m2, OwnTl 60 1 al4 l3.length cl4 (flL (α := W32) l3)] h2
 refine .seq (.seq (.region (.V (ld1 rfl tO54 (cellB (off := 0) (k := 1) rfl rfl)) ?_)))
 refine .V (ln rfl tS54.is) ?_
 refine .V bi0 ?_
 refine .nil (.seqN ?_)
 refine .cond rfl (fun q1936 => ?_) (fun q1936 => ?_)
 ·replace hF := hF.1 q1936
  refine .skip (.seqN (.block (.seq (.region (.V (ld1 rfl tO54 (cellB (off := 0) (k := 1) rfl rfl)) ?_)))))
  obtain ⟨q1937, hF⟩ := hF
  refine .V (ixT rfl rfl tS54 (k := 5) rfl q1937) ?_
  refine .V (ld1 (v := .int .u32 (gt l3 (0 : Int))) rfl tO60 (cellT (k := 5) rfl (flL_get (α := W32) q1937 (j := 0) rfl))) ?_
  refine al tZ60 rfl (fun ps => ?_)
  refine st (p := ps) (off := 0) (k := 0) (vs := [.int .u32 (gt l3 (0 : Int))]) rfl rfl rfl (fun w => (tO60 w).2) rfl rfl rfl rfl ?_
  refine .KA [Box ps [.int .u32 (gt l3 (0 : Int))], Box pparents [.map (some bv)], Box pline [vSl al4 l3 cl4], MkA dl, Box pv [iV 0, iV 0], OwnMapI bv .u32 (fun x : Back => .agg #[.int .u32 x.from_, iV x.op]) m2, OwnTl 60 1 al4 l3.length cl4 (flL (α := W32) l3)] ?_
  refine .nil (.seqN (.seq (.region (.V (ld1 rfl tO54 (cellB (off := 0) (k := 2) rfl rfl)) ?_))))
  obtain ⟨q1938, hF⟩ := hF
  obtain ⟨d, q1939⟩ : ∃ y_ : List Int, y_ = (l3.drop ((1 : Int)).toNat) := ⟨_, rfl⟩
  replace hF := hF d q1939
  have q1940 : d.length = (l3.length - ((1 : Int)).toNat) := by rw [q1939]; exact len_drop rfl
  refine .v (v := .slice (sla al4 cl4 ((1 : Int)).toNat 1) (List.length d) (cl4 - ((1 : Int)).toNat)) (by rw [q1940]; exact slL tS54 rfl rfl q1938.1 rfl (Int.toNat_le.2 q1938.2)) rfl rfl rfl ?_
  refine dropTl (k := 6) (cs' := flL (α := W32) d) rfl (Int.toNat_le.2 q1938.2) (by rw [q1939, Nat.mul_one]; exact flL_drop _ _ rfl) ?_
  refine .cast (A' := [Box ps [.int .u32 (gt l3 (0 : Int))], Box pparents [.map (some bv)], Box pline [vSl al4 l3 cl4], MkA dl, Box pv [iV 0, iV 0], OwnMapI bv .u32 (fun x : Back => .agg #[.int .u32 x.from_, iV x.op]) m2, OwnTl 60 1 (sla al4 cl4 ((1 : Int)).toNat 1) d.length (cl4 - ((1 : Int)).toNat) (flL (α := W32) d)]) (congrArg (fun z_ : Nat => [Box ps [.int .u32 (gt l3 (0 : Int))], Box pparents [.map (some bv)], Box pline [vSl al4 l3 cl4], MkA dl, Box pv [iV 0, iV 0], OwnMapI bv .u32 (fun x : Back => .agg #[.int .u32 x.from_, iV x.op]) m2, OwnTl 60 1 (sla al4 cl4 ((1 : Int)).toNat 1) z_ (cl4 - ((1 : Int)).toNat) (flL (α := W32) d)]) (q1940).symm) ?_
  refine st (p := pline) (off := 0) (k := 2) (vs := [.slice (sla al4 cl4 ((1 : Int)).toNat 1) d.length (cl4 - ((1 : Int)).toNat)]) rfl rfl rfl (fun w => (tO54 w).2) rfl rfl rfl rfl ?_
  refine .KA [Box ps [.int .u32 (gt l3 (0 : Int))], Box pparents [.map (some bv)], Box pline [.slice (sla al4 cl4 ((1 : Int)).toNat 1) d.length (cl4 - ((1 : Int)).toNat)], MkA dl, Box pv [iV 0, iV 0], OwnMapI bv .u32 (fun x : Back => .agg #[.int .u32 x.from_, iV x.op]) m2, OwnTl 60 1 (sla al4 cl4 ((1 : Int)).toNat 1) d.length (cl4 - ((1 : Int)).toNat) (flL (α := W32) d)] ?_
  refine .nil (.seqN (.seq (.seq (.region (.V mv0 ?_)))))
  refine .V (ld1 rfl tO60 (cellB (off := 0) (k := 0) rfl rfl)) ?_
  refine .inl Tryz.func24 rfl Tryz.ntmps24 Tryz.call24 rfl rfl rfl rfl (fun a12 q1941 => ?_)
  refine .seq (.region (.V ag0 ?_))
  refine .nil (.seqN (.seq ?_))
  refine .openA (s0 := [(0, .pointer (some pv3)), (1, .int .u32 (gt l3 (0 : Int)))]) [0, 1, 2, 3, 4, 5, 6, 7, 8, 9, 10, 11] [(0, .int .u32 (gt l3 (0 : Int))), (1, .pointer (some pv3)), (2, .pointer (some pv3)), (3, .pointer (some (pv3.add 1))), (4, .int .u32 r4), (5, .int .u32 (bits .and .u32 (gt l3 (0 : Int)) r4)), (6, .pointer (some pv3)), (7, .pointer (some pv3)), (8, .pointer (some (pv3.add 1))), (9, .int .u32 r4), (10, .bool ((bits .and .u32 (gt l3 (0 : Int)) r4) == r4)), (11, .bool ((bits .and .u32 (gt l3 (0 : Int)) r4) == r4))] (by kernel_rfl) sb [0, 1] [] rfl (by kernel_rfl) ?_
  refine .last [(5, .int .u32 (gt l3 (0 : Int))), (6, .pointer (some pv3)), (7, .pointer (some pv3)), (8, .pointer (some (pv3.add 1))), (9, .int .u32 r4), (10, .int .u32 (bits .and .u32 (gt l3 (0 : Int)) r4)), (11, .pointer (some pv3)), (12, .pointer (some pv3)), (13, .pointer (some (pv3.add 1))), (14, .int .u32 r4), (15, .bool ((bits .and .u32 (gt l3 (0 : Int)) r4) == r4)), (4, .bool ((bits .and .u32 (gt l3 (0 : Int)) r4) == r4))] rfl (by kernel_rfl) (.v [] rfl rfl rfl rfl rfl rfl (fun _ => mv rfl) (.v [] rfl rfl rfl rfl rfl rfl (fun _ => mv rfl) (.v [(6, .pointer (some pv3))] rfl rfl rfl rfl rfl rfl (fun _ => nck rfl) (.v [(7, .pointer (some pv3))] rfl rfl rfl rfl rfl rfl (fun _ => fa rfl tF112_1) (.v [(8, .pointer (some (pv3.add 1)))] rfl rfl rfl rfl rfl rfl (fun _ => ld1 (v := .int .u32 r4) rfl tO60 (cellH (CellsAt.mono (FH.le_refl _) q346 1 _ rfl))) (.v [(5, .int .u32 (gt l3 (0 : Int))), (9, .int .u32 r4)] rfl rfl rfl rfl rfl rfl (fun _ => bi rfl rfl rfl) (.v [] rfl rfl rfl rfl rfl rfl (fun _ => mv rfl) (.v [(11, .pointer (some pv3))] rfl rfl rfl rfl rfl rfl (fun _ => nck rfl) (.v [(12, .pointer (some pv3))] rfl rfl rfl rfl rfl rfl (fun _ => fa rfl tF112_1) (.v [(13, .pointer (some (pv3.add 1)))] rfl rfl rfl rfl rfl rfl (fun _ => ld1 (v := .int .u32 r4) rfl tO60 (cellH (CellsAt.mono (FH.le_refl _) q346 1 _ rfl))) (.v [(10, .int .u32 (bits .and .u32 (gt l3 (0 : Int)) r4)), (14, .int .u32 r4)] rfl rfl rfl rfl rfl rfl (fun _ => bi rfl rfl rfl) (.v [(15, .bool ((bits .and .u32 (gt l3 (0 : Int)) r4) == r4)), (5, .int .u32 (gt l3 (0 : Int))), (6, .pointer (some pv3)), (7, .pointer (some pv3)), (8, .pointer (some (pv3.add 1))), (9, .int .u32 r4), (10, .int .u32 (bits .and .u32 (gt l3 (0 : Int)) r4)), (11, .pointer (some pv3)), (12, .pointer (some pv3)), (13, .pointer (some (pv3.add 1))), (14, .int .u32 r4), (15, .bool ((bits .and .u32 (gt l3 (0 : Int)) r4) == r4))] rfl rfl rfl rfl rfl rfl (fun _ => asg rfl) (.nil))))))))))))) rfl ?_
  refine .seqN (.ret ?_)
  refine .res1 rfl (rvT rfl) (inl_back (v := .bool ((bits .and .u32 (gt l3 (0 : Int)) r4) == r4)) q1941 rfl ?_)
  refine .KA [Box ps [.int .u32 (gt l3 (0 : Int))], Box pparents [.map (some bv)], Box pline [.slice (sla al4 cl4 ((1 : Int)).toNat 1) d.length (cl4 - ((1 : Int)).toNat)], MkA dl, Box pv [iV 0, iV 0], OwnMapI bv .u32 (fun x : Back => .agg #[.int .u32 x.from_, iV x.op]) m2, OwnTl 60 1 (sla al4 cl4 ((1 : Int)).toNat 1) d.length (cl4 - ((1 : Int)).toNat) (flL (α := W32) d)] ?_
  refine .nil (.seqN ?_)
  refine .cond rfl (fun q1998 => ?_) (fun q1998 => ?_)
  ·replace hF := hF.1 q1998
   refine .seq (.region (.V (ld1 rfl tO102 (cellB (off := 0) (k := 1) rfl rfl)) ?_))
   refine .V mv0 ?_
   refine .V (ld1 rfl tO60 (cellB (off := 0) (k := 0) rfl rfl)) ?_
   refine .inl Tryz.func53 rfl Tryz.ntmps53 Tryz.call53 rfl rfl rfl rfl (fun a13 q1999 => ?_)
   refine .seq (.region (.V ag0 ?_))
   refine .nil (.seqN (.seq (.region (.V ag0 ?_))))
   refine .nil (.seqN (.seq (.block ?_)))
   refine .nilSl 3 1 ?_
   refine .KA [oL 3 1 none ([] : List Int) 0, Box ps [.int .u32 (gt l3 (0 : Int))], Box pparents [.map (some bv)], Box pline [.slice (sla al4 cl4 ((1 : Int)).toNat 1) d.length (cl4 - ((1 : Int)).toNat)], MkA dl, Box pv [iV 0, iV 0], OwnMapI bv .u32 (fun x : Back => .agg #[.int .u32 x.from_, iV x.op]) m2, OwnTl 60 1 (sla al4 cl4 ((1 : Int)).toNat 1) d.length (cl4 - ((1 : Int)).toNat) (flL (α := W32) d)] ?_
   refine .sel0 [6, 0, 5, 4] (by decide) rfl ?_
   obtain ⟨I3, μ3, q2044, q2045⟩ := hF
   refine .loop' (σ := Int × List Int × Option Addr × Nat) (fun z => I3 z.1 z.2.1) (fun z => μ3 z.1 z.2.1) (fun z => [(0, .map (some bv)), (1, .int .u32 r3), (2, .int .u32 z.1), (7, vSl z.2.2.1 z.2.1 z.2.2.2)]) (fun z => [OwnMapI bv .u32 (fun x : Back => .agg #[.int .u32 x.from_, iV x.op]) m2, oL 3 1 z.2.2.1 z.2.1 z.2.2.2, Box pv [iV 0, iV 0], MkA dl]) (fun _ => h2) ((gt l3 (0 : Int)), ([] : List Int), none, 0) q2044 sb rfl (FH.le_refl _) ?_
   rintro ⟨s_, out, aout, cout⟩ q2044
   have hF := q2045 s_ out q2044
   show J _ _ _ _ _ [(0, .map (some bv)), (1, .int .u32 r3), (2, .int .u32 s_), (7, vSl aout out cout)] [OwnMapI bv .u32 (fun x : Back => .agg #[.int .u32 x.from_, iV x.op]) m2, oL 3 1 aout out cout, Box pv [iV 0, iV 0], MkA dl] h2
   refine .seq (.seq (.region (.V mv0 ?_)))
   refine .V mv0 ?_
   refine .V bi0 ?_
   refine .nil (.seqN ?_)
   refine .cond rfl (fun q2047 => ?_) (fun q2047 => ?_)
   ·replace hF := hF.1 q2047
    refine .skip (.seqN (.block (.seq (.region (.V mv0 ?_)))))
    refine .V mv0 ?_
    refine .V (lkI (enc := (fun x : Back => .agg #[.int .u32 x.from_, iV x.op])) (default : Back) tMI102 rfl rfl (q := 0) rfl) ?_
    refine al tZ101 rfl (fun pb => ?_)
    refine st (p := pb) (off := 0) (k := 0) (vs := [.int .u32 (((getA m2 s_).getD (default : Back)).from_), iV (((getA m2 s_).getD (default : Back)).op)]) rfl rfl rfl (fun w => (tA101 w).2) rfl rfl rfl rfl ?_
    refine .KA [Box pb [.int .u32 (((getA m2 s_).getD (default : Back)).from_), iV (((getA m2 s_).getD (default : Back)).op)], OwnMapI bv .u32 (fun x : Back => .agg #[.int .u32 x.from_, iV x.op]) m2, oL 3 1 aout out cout, Box pv [iV 0, iV 0], MkA dl] ?_
    refine .nil (.seqN (.seq (.region (.V mv0 ?_))))
    refine .V (fa rfl tF101_1) ?_
    refine .V (ld1 rfl tO3 (cellB (off := 1) (k := 0) rfl rfl)) ?_
    refine bs2 (cs := #[iV (((getA m2 s_).getD (default : Back)).op)]) (pv := [(0, iV (((getA m2 s_).getD (default : Back)).op))]) tS22 rfl rfl (by decide) (by decide) rfl rfl rfl (fun a14 _ => ?_)
    refine .KA [oL 3 1 a14 ([((getA m2 s_).getD (default : Back)).op] : List Int) 1, Box pb [.int .u32 (((getA m2 s_).getD (default : Back)).from_), iV (((getA m2 s_).getD (default : Back)).op)], OwnMapI bv .u32 (fun x : Back => .agg #[.int .u32 x.from_, iV x.op]) m2, oL 3 1 aout out cout, Box pv [iV 0, iV 0], MkA dl] ?_
    obtain ⟨q2049, hF⟩ := hF
    have q2050 : out.length + ([((getA m2 s_).getD (default : Back)).op] : List Int).length = ((out ++ ([((getA m2 s_).getD (default : Back)).op] : List Int))).length := len_app rfl rfl
    refine app (k := 3) (news := flL ([((getA m2 s_).getD (default : Back)).op] : List Int)) (cs' := flL (out ++ ([((getA m2 s_).getD (default : Back)).op] : List Int))) (nm := ((out ++ ([((getA m2 s_).getD (default : Back)).op] : List Int))).length) tS22 rfl (by decide) rfl rfl rfl ((flL_len _).trans rfl) (srcS (k := 0) rfl) (flL_one _) (room_of q2050 q2049).1 (room_of q2050 q2049).2 q2050 (flL_append _ _).symm rfl (fun a15 c6 => ?_)
    refine .KA [oL 3 1 a14 ([((getA m2 s_).getD (default : Back)).op] : List Int) 1, Box pb [.int .u32 (((getA m2 s_).getD (default : Back)).from_), iV (((getA m2 s_).getD (default : Back)).op)], OwnMapI bv .u32 (fun x : Back => .agg #[.int .u32 x.from_, iV x.op]) m2, oL 3 1 a15 (out ++ ([((getA m2 s_).getD (default : Back)).op] : List Int)) c6, Box pv [iV 0, iV 0], MkA dl] ?_
    refine .V ag0 ?_
    refine .nil (.seqN (.region (.V (fa rfl tF101_0) ?_)))
    refine .V (ld1 rfl tO60 (cellB (off := 0) (k := 1) rfl rfl)) ?_
    refine .V ag0 ?_
    refine .nil (.blkN ?_)
    refine .sel0 [2, 3, 4, 5] (by decide) rfl ?_
    exact .RO (((getA m2 s_).getD (default : Back)).from_, (out ++ ([((getA m2 s_).getD (default : Back)).op] : List Int)), a15, c6) hF.1 hF.2
   replace hF := hF.2 q2047
   refine .exit (.seqX (.seqX (.blkX (.seqN (.seq (.region (.V mv0 ?_)))))))
   obtain ⟨q2051, hF⟩ := hF
   obtain ⟨r10, q2052⟩ : ∃ y_ : List Int, y_ = sp_reverse out := ⟨_, rfl⟩
   replace hF := hF r10 q2052
   refine callX (k := 1) (v := .tuple #[]) (X' := OwnSl 3 1 aout out.length cout (flL r10)) rfl Tryz.call44 rfl rfl (fun w g hx sg hd hs' => ?_) rfl ?_
   ·rw [q2052]; exact c_reverse hs' out aout cout hx sg hd q2051
   have q2053 : r10.length = out.length := by rw [q2052]; exact (sp_reverse_len out).trans rfl
   refine .KA [OwnMapI bv .u32 (fun x : Back => .agg #[.int .u32 x.from_, iV x.op]) m2, OwnSl 3 1 aout out.length cout (flL r10), Box pv [iV 0, iV 0], MkA dl] ?_
   refine .nil (.seqN (.seq (.region (.V mv0 ?_))))
   refine .V ag0 ?_
   refine .nil (.seqN (.ret ?_))
   refine .res1 rfl (rvT rfl) (inl_back (v := .slice aout out.length cout) q1999 rfl ?_)
   refine .KA [OwnMapI bv .u32 (fun x : Back => .agg #[.int .u32 x.from_, iV x.op]) m2, OwnSl 3 1 aout out.length cout (flL r10), Box pv [iV 0, iV 0], MkA dl] ?_
   refine .V ag0 ?_
   refine .V ag0 ?_
   refine .nil (.seqN (.ret (.seqR (.blkR (.seqR (.blkR (.seqR ?_)))))))
   refine .resM (k := 3) rfl ?_
   refine .res2 rfl (rvT rfl) (rvT rfl) (inl_back (v := .tuple #[.slice aout out.length cout, .bool true]) q354 rfl ?_)
   refine .KA [OwnMapI bv .u32 (fun x : Back => .agg #[.int .u32 x.from_, iV x.op]) m2, OwnSl 3 1 aout out.length cout (flL r10), Box pv [iV 0, iV 0], tru] ?_
   refine .V (ext rfl rfl) ?_
   refine .V (ext rfl rfl) ?_
   refine .inl Tryz.func22 rfl Tryz.ntmps22 Tryz.call22 rfl rfl rfl rfl (fun a16 q2054 => ?_)
   refine .seq (.region (.V ag0 ?_))
   refine .V ag0 ?_
   refine al tZ27 rfl (fun pv4 => ?_)
   refine .nil (.seqN (.seq (.seq (.region (.V mv0 ?_)))))
   refine .V (ln rfl tS22.is) ?_
   refine .V bi0 ?_
   refine .nil (.seqN ?_)
   refine .cond rfl (fun q2056 => ?_) (fun q2056 => ?_)
   ·replace hF := hF.1 q2056
    refine .seq (.region (.V (bld (cs := #[iV 10, iV (-9)]) (pv := [(0, iV 10), (1, iV (-9))]) tB27 rfl rfl) ?_))
    refine .V ag0 ?_
    refine .V ag0 ?_
    refine st (p := pv4) (off := 0) (k := 0) (vs := [iV 10, iV (-9)]) rfl rfl rfl (fun w => (tA27 w).2) rfl rfl rfl rfl ?_
    refine .KA [Box pv4 [iV 10, iV (-9)], OwnMapI bv .u32 (fun x : Back => .agg #[.int .u32 x.from_, iV x.op]) m2, OwnSl 3 1 aout out.length cout (flL r10), Box pv [iV 0, iV 0], tru] ?_
    refine .nil (.seqN (.ret (.seqR ?_)))
    refine .res3 rfl (rvT rfl) (rvT rfl) (rvC rfl tA27 (k := 0) rfl rfl) (inl_back (v := .tuple #[.slice none 0 0, .bool false, .agg #[iV 10, iV (-9)]]) q2054 rfl ?_)
    refine .KA [Box pv4 [iV 10, iV (-9)], OwnMapI bv .u32 (fun x : Back => .agg #[.int .u32 x.from_, iV x.op]) m2, OwnSl 3 1 aout out.length cout (flL r10), Box pv [iV 0, iV 0], tru] ?_
    refine .V (ext rfl rfl) ?_
    refine .V (ext rfl rfl) ?_
    refine .V (ext rfl rfl) ?_
    refine .V ag0 ?_
    refine .V ag0 ?_
    refine st (p := pv) (off := 0) (k := 3) (vs := [iV 10, iV (-9)]) rfl rfl rfl (fun w => (tA27 w).2) rfl rfl rfl rfl ?_
    refine .KA [Box pv4 [iV 10, iV (-9)], OwnMapI bv .u32 (fun x : Back => .agg #[.int .u32 x.from_, iV x.op]) m2, OwnSl 3 1 aout out.length cout (flL r10), Box pv [iV 10, iV (-9)], tru] ?_
    refine .nil (.seqN (.ret ?_))
    refine .res3 rfl (rvT rfl) (rvT rfl) (rvC rfl tA27 (k := 3) rfl rfl) (fun w' S => ⟨(([] : List Int), false, (⟨10, (-9)⟩ : Fault)), (none, 0), h2, hF, rfl, (FH.le_trans (le1) (le2)), ⟨RSl.nil_, (Nat.le_refl 0)⟩, S.none⟩)
   replace hF := hF.2 q2056
   refine .skip (.seqN (.seq (.region (.V mv0 ?_))))
   refine .V mv0 ?_
   refine .V (bld (cs := #[iV 0, iV 0]) (pv := []) tB27 rfl rfl) ?_
   refine .V ag0 ?_
   refine .V ag0 ?_
   refine st (p := pv4) (off := 0) (k := 0) (vs := [iV 0, iV 0]) rfl rfl rfl (fun w => (tA27 w).2) rfl rfl rfl rfl ?_
   refine .KA [Box pv4 [iV 0, iV 0], OwnMapI bv .u32 (fun x : Back => .agg #[.int .u32 x.from_, iV x.op]) m2, OwnSl 3 1 aout out.length cout (flL r10), Box pv [iV 0, iV 0], tru] ?_
   refine .nil (.seqN (.ret ?_))
   refine .res3 rfl (rvT rfl) (rvT rfl) (rvC rfl tA27 (k := 0) rfl rfl) (inl_back (v := .tuple #[.slice aout out.length cout, .bool true, .agg #[iV 0, iV 0]]) q2054 rfl ?_)
   refine .KA [Box pv4 [iV 0, iV 0], OwnMapI bv .u32 (fun x : Back => .agg #[.int .u32 x.from_, iV x.op]) m2, OwnSl 3 1 aout out.length cout (flL r10), Box pv [iV 0, iV 0], tru] ?_
   refine .V (ext rfl rfl) ?_
   refine .V (ext rfl rfl) ?_
   refine .V (ext rfl rfl) ?_
   refine .V ag0 ?_
   refine .V ag0 ?_
   refine st (p := pv) (off := 0) (k := 3) (vs := [iV 0, iV 0]) rfl rfl rfl (fun w => (tA27 w).2) rfl rfl rfl rfl ?_
   refine .KA [Box pv4 [iV 0, iV 0], OwnMapI bv .u32 (fun x : Back => .agg #[.int .u32 x.from_, iV x.op]) m2, OwnSl 3 1 aout out.length cout (flL r10), Box pv [iV 0, iV 0], tru] ?_
   refine .nil (.seqN ?_)
   refine .freezeL (k := 2) rfl (fun h3 le3 q2058 q2057 => ?_)
   refine .KA [Box pv4 [iV 0, iV 0], OwnMapI bv .u32 (fun x : Back => .agg #[.int .u32 x.from_, iV x.op]) m2, tru, Box pv [iV 0, iV 0], tru] ?_
   refine .ret ?_
   refine .res3 rfl (rvT rfl) (rvT rfl) (rvC rfl tA27 (k := 3) rfl rfl) (fun w' S => ⟨(r10, true, (⟨0, 0⟩ : Fault)), (aout, cout), h3, hF, (by simp only [q2053] <;> rfl), (FH.le_trans (FH.le_trans (le1) (le2)) (le3)), ⟨(RSl.of q2057), (by rw [q2053]; exact q2058)⟩, S.none⟩)
  replace hF := hF.2 q1998
  refine .skip (.seqN (.seq (.region (.V mv0 ?_))))
  refine .V (ld1 rfl tO60 (cellB (off := 0) (k := 0) rfl rfl)) ?_
  refine .inlI Tryz.func101 rfl Tryz.ntmps101 Tryz.call101 tm53_Steps rfl rfl rfl (fun a17 q2059 => ?_)
  refine .seq (.region ?_)
  refine bx (vs := [.pointer (some pv3)]) rfl rfl rfl (fun pw => ?_)
  refine bx (vs := [.int .u32 (gt l3 (0 : Int))]) rfl rfl rfl (fun ps2 => ?_)
  refine .V ag0 ?_
  refine .nil (.seqN (.seq (.region (.V (mkf (vf := []) (vc := [.pointer (some pw), .pointer (some ps2)]) rfl rfl) ?_))))
  refine .V ag0 ?_
  refine .nil (.seqN (.ret ?_))
  refine .res1 rfl (rvT rfl) (inl_back (v := .func (.func 132) #[] #[.pointer (some pw), .pointer (some ps2)]) q2059 rfl ?_)
  refine .KA [Box ps2 [.int .u32 (gt l3 (0 : Int))], Box pw [.pointer (some pv3)], Box ps [.int .u32 (gt l3 (0 : Int))], Box pparents [.map (some bv)], Box pline [.slice (sla al4 cl4 ((1 : Int)).toNat 1) d.length (cl4 - ((1 : Int)).toNat)], MkA dl, Box pv [iV 0, iV 0], OwnMapI bv .u32 (fun x : Back => .agg #[.int .u32 x.from_, iV x.op]) m2, OwnTl 60 1 (sla al4 cl4 ((1 : Int)).toNat 1) d.length (cl4 - ((1 : Int)).toNat) (flL (α := W32) d)] ?_
  refine .nil (.seqN (.block ?_))
  refine .sub (s' := [(0, .iface 53 (.pointer (some pv3))), (1, .func (.func 24) #[.pointer (some pv3)] #[]), (6, .int .u32 r3), (7, .pointer (some pparents)), (8, .pointer (some pline)), (9, .pointer (some ps)), (39, .func (.func 132) #[] #[.pointer (some pw), .pointer (some ps2)])]) sb ?_
  refine .rangeF (k := 5) (caps := [.pointer (some pw), .pointer (some ps2)]) rfl rfl Tryz.func132 rfl Tryz.ntmps132 rfl Tryz.call132 (fun l5 D LA a18 q2060 q2061 => ?_)
  refine .KA [LA .ready none, Box ps2 [.int .u32 (gt l3 (0 : Int))], Box pw [.pointer (some pv3)], Box ps [.int .u32 (gt l3 (0 : Int))], Box pparents [.map (some bv)], Box pline [.slice (sla al4 cl4 ((1 : Int)).toNat 1) d.length (cl4 - ((1 : Int)).toNat)], MkA (D :: dl), Box pv [iV 0, iV 0], OwnMapI bv .u32 (fun x : Back => .agg #[.int .u32 x.from_, iV x.op]) m2, OwnTl 60 1 (sla al4 cl4 ((1 : Int)).toNat 1) d.length (cl4 - ((1 : Int)).toNat) (flL (α := W32) d)] ?_
  refine .seq (.region (.V (ld1 rfl tO53 (cellB (off := 0) (k := 2) rfl rfl)) ?_))
  refine .V (nck rfl) ?_
  refine .V (fa rfl tF112_2) ?_
  refine .V (ld1 (v := vSl al2 l cl2) rfl tO110 (cellH (CellsAt.mono (FH.le_refl _) q346 2 _ rfl))) ?_
  refine .V (ln rfl tS110.is) ?_
  refine .V mv0 ?_
  refine .nil (.seqN (.block ?_))
  refine .sel0 [0, 1, 7, 4, 5, 3, 2, 6, 8, 9] (by decide) rfl ?_
  obtain ⟨I4, μ4, q2110, q2111⟩ := hF
  refine .loop' (σ := Int × List (Int × Back) × List Int × Option Addr × Nat) (fun z => I4 z.1 z.2.1 z.2.2.1) (fun z => μ4 z.1 z.2.1 z.2.2.1) (fun z => [(0, .func (.yield l5) #[] #[]), (2, .pointer (some ps2)), (9, vSl al2 l cl2), (10, iV ((l.length : Nat) : Int)), (11, iV z.1)]) (fun z => [LA .ready none, Box ps2 [.int .u32 (gt l3 (0 : Int))], Box pv [iV 0, iV 0], Box pparents [.map (some bv)], Box pline [vSl z.2.2.2.1 z.2.2.1 z.2.2.2.2], Box ps [.int .u32 (gt l3 (0 : Int))], Box pw [.pointer (some pv3)], MkA (D :: dl), OwnMapI bv .u32 (fun x : Back => .agg #[.int .u32 x.from_, iV x.op]) z.2.1, OwnTl 60 1 z.2.2.2.1 z.2.2.1.length z.2.2.2.2 (flL (α := W32) z.2.2.1)]) (fun _ => h2) (0, m2, d, (sla al4 cl4 ((1 : Int)).toNat 1), (cl4 - ((1 : Int)).toNat)) q2110 sb rfl (FH.le_refl _) ?_
  rintro ⟨v, m4, l6, al6, cl6⟩ q2110
  have hF := q2111 v m4 l6 q2110
  show J _ _ _ _ _ [(0, .func (.yield l5) #[] #[]), (2, .pointer (some ps2)), (9, vSl al2 l cl2), (10, iV ((l.length : Nat) : Int)), (11, iV v)] [LA .ready none, Box ps2 [.int .u32 (gt l3 (0 : Int))], Box pv [iV 0, iV 0], Box pparents [.map (some bv)], Box pline [vSl al6 l6 cl6], Box ps [.int .u32 (gt l3 (0 : Int))], Box pw [.pointer (some pv3)], MkA (D :: dl), OwnMapI bv .u32 (fun x : Back => .agg #[.int .u32 x.from_, iV x.op]) m4, OwnTl 60 1 al6 l6.length cl6 (flL (α := W32) l6)] h2
  refine .seq (.region (.V bi0 ?_))
  refine .nil (.seqN (.seq ?_))
  refine .cond rfl (fun q2114 => ?_) (fun q2114 => ?_)
  ·replace hF := hF.1 q2114
   refine .skip (.seqN ?_)
   refine .share (σ := List (Int × Back) × List Int × Option Addr × Nat) (fun z => F_brplan_J1 v m4 I4 μ4 l6 z.1 z.2.1) (fun _ => [(0, .func (.yield l5) #[] #[]), (2, .pointer (some ps2)), (9, vSl al2 l cl2), (10, iV ((l.length : Nat) : Int)), (11, iV v)]) (fun z => [LA .ready none, Box ps2 [.int .u32 (gt l3 (0 : Int))], Box pv [iV 0, iV 0], Box pparents [.map (some bv)], Box pline [vSl z.2.2.1 z.2.1 z.2.2.2], Box ps [.int .u32 (gt l3 (0 : Int))], Box pw [.pointer (some pv3)], MkA (D :: dl), OwnMapI bv .u32 (fun x : Back => .agg #[.int .u32 x.from_, iV x.op]) z.1, OwnTl 60 1 z.2.2.1 z.2.1.length z.2.2.2 (flL (α := W32) z.2.1)]) (fun _ => h2) ?_ (fun q2125 => ?_)
   ·rintro ⟨m6, l8, al8, cl8⟩ hF
    show J _ _ _ _ _ [(0, .func (.yield l5) #[] #[]), (2, .pointer (some ps2)), (9, vSl al2 l cl2), (10, iV ((l.length : Nat) : Int)), (11, iV v)] [LA .ready none, Box ps2 [.int .u32 (gt l3 (0 : Int))], Box pv [iV 0, iV 0], Box pparents [.map (some bv)], Box pline [vSl al8 l8 cl8], Box ps [.int .u32 (gt l3 (0 : Int))], Box pw [.pointer (some pv3)], MkA (D :: dl), OwnMapI bv .u32 (fun x : Back => .agg #[.int .u32 x.from_, iV x.op]) m6, OwnTl 60 1 al8 l8.length cl8 (flL (α := W32) l8)] h2
    refine .region (.V bi0 ?_)
    refine .V mv0 ?_
    refine .nil ?_
    exact .RO (wr (v + 1), m6, l8, al8, cl8) hF.1 hF.2
   refine .block (.seq (.region (.V mv0 ?_)))
   obtain ⟨q2126, hF⟩ := hF
   refine .V (ix rfl rfl tS110 ((RSl.of q344).ne (by decide) (inb_pos q2126)) q2126) ?_
   refine .V (ldA (cs := [.int .u32 ((gt l v).pre), .int .u32 ((gt l v).add), .int .u32 ((gt l v).del), iV ((gt l v).cost)]) rfl tA132 rfl (cellsH (((RSl.of q344).mono (le2)).elemF q2126 (by decide)))) ?_
   refine al tZ132 rfl (fun pv5 => ?_)
   refine .V ag0 ?_
   refine st (p := pv5) (off := 0) (k := 0) (vs := [.int .u32 ((gt l v).pre), .int .u32 ((gt l v).add), .int .u32 ((gt l v).del), iV ((gt l v).cost)]) rfl rfl rfl (fun w => (tA132 w).2) rfl rfl rfl rfl ?_
   refine .KA [Box pv5 [.int .u32 ((gt l v).pre), .int .u32 ((gt l v).add), .int .u32 ((gt l v).del), iV ((gt l v).cost)], LA .ready none, Box ps2 [.int .u32 (gt l3 (0 : Int))], Box pv [iV 0, iV 0], Box pparents [.map (some bv)], Box pline [vSl al6 l6 cl6], Box ps [.int .u32 (gt l3 (0 : Int))], Box pw [.pointer (some pv3)], MkA (D :: dl), OwnMapI bv .u32 (fun x : Back => .agg #[.int .u32 x.from_, iV x.op]) m4, OwnTl 60 1 al6 l6.length cl6 (flL (α := W32) l6)] ?_
   refine .nil (.seqN (.seq (.region (.V (ld1 rfl tO60 (cellB (off := 0) (k := 2) rfl rfl)) ?_))))
   refine .V (fa rfl tF132_0) ?_
   refine .V (ld1 rfl tO60 (cellB (off := 0) (k := 0) rfl rfl)) ?_
   refine .V bi0 ?_
   refine .V (fa rfl tF132_0) ?_
   refine .V (ld1 rfl tO60 (cellB (off := 0) (k := 0) rfl rfl)) ?_
   obtain ⟨x, q2127⟩ : ∃ y_ : Bool, y_ = ((bits .and .u32 (gt l3 (0 : Int)) ((gt l v).pre)) == ((gt l v).pre)) := ⟨_, rfl⟩
   replace hF := hF x q2127
   refine .v (v := .bool x) (by rw [q2127]; exact bi rfl rfl rfl) rfl rfl rfl ?_
   refine .V mv0 ?_
   rcases Bool.eq_false_or_eq_true (x) with q2128 | q2128
   ·replace hF := hF.1 q2128
    refine .GV mv0 q2128 ?_
    refine .GV mv0 q2128 ?_
    refine .GV (fa rfl tF132_3) q2128 ?_
    refine .GV (ld1 rfl tO3 (cellB (off := 3) (k := 0) rfl rfl)) q2128 ?_
    refine .GV (ld1 rfl tO60 (cellB (off := 0) (k := 2) rfl rfl)) q2128 ?_
    refine .GV (fa rfl tF132_2) q2128 ?_
    refine .GV (ld1 rfl tO60 (cellB (off := 2) (k := 0) rfl rfl)) q2128 ?_
    refine .GV bi0 q2128 ?_
    refine .GV (fa rfl tF132_1) q2128 ?_
    refine .GV (ld1 rfl tO60 (cellB (off := 1) (k := 0) rfl rfl)) q2128 ?_
    obtain ⟨x2, q2129⟩ : ∃ y_ : Int, y_ = (bits .or .u32 (bits .andNot .u32 (gt l3 (0 : Int)) ((gt l v).del)) ((gt l v).add)) := ⟨_, rfl⟩
    replace hF := hF x2 q2129
    refine .gv (v := .int .u32 x2) (by rw [q2129]; exact bi rfl rfl rfl) rfl rfl rfl q2128 rfl rfl ?_
    refine .GV (bld (cs := #[iV v, iV ((gt l v).cost), .int .u32 x2]) (pv := [(0, iV v), (1, iV ((gt l v).cost)), (2, .int .u32 x2)]) tB108 rfl rfl) q2128 ?_
    refine .gR rfl rfl rfl q2128 ?_
    refine .yld (k := 1) (vs := [.agg #[iV v, iV ((gt l v).cost), .int .u32 x2]]) q2060 rfl rfl rfl rfl rfl (fun aG q2130 => ?_)
    refine .sub (s' := [(7, .pointer (some pparents)), (8, .pointer (some pline)), (9, .pointer (some ps)), (40, .agg #[iV v, iV ((gt l v).cost), .int .u32 x2])]) sb ?_
    refine .region ?_
    refine al tZ108 rfl (fun pe => ?_)
    refine st (p := pe) (off := 0) (k := 0) (vs := [iV v, iV ((gt l v).cost), .int .u32 x2]) rfl rfl rfl (fun w => (tA108 w).2) rfl rfl rfl rfl ?_
    refine .KA [Box pe [iV v, iV ((gt l v).cost), .int .u32 x2], Box pv5 [.int .u32 ((gt l v).pre), .int .u32 ((gt l v).add), .int .u32 ((gt l v).del), iV ((gt l v).cost)], LA .ready none, Box ps2 [.int .u32 (gt l3 (0 : Int))], Box pv [iV 0, iV 0], Box pparents [.map (some bv)], Box pline [vSl al6 l6 cl6], Box ps [.int .u32 (gt l3 (0 : Int))], Box pw [.pointer (some pv3)], MkA (D :: dl), OwnMapI bv .u32 (fun x : Back => .agg #[.int .u32 x.from_, iV x.op]) m4, OwnTl 60 1 al6 l6.length cl6 (flL (α := W32) l6)] ?_
    refine .nil ?_
    refine .begin_ (k := 2) q2060 rfl ?_
    refine .KA [Box pe [iV v, iV ((gt l v).cost), .int .u32 x2], Box pv5 [.int .u32 ((gt l v).pre), .int .u32 ((gt l v).add), .int .u32 ((gt l v).del), iV ((gt l v).cost)], LA .busy none, Box ps2 [.int .u32 (gt l3 (0 : Int))], Box pv [iV 0, iV 0], Box pparents [.map (some bv)], Box pline [vSl al6 l6 cl6], Box ps [.int .u32 (gt l3 (0 : Int))], Box pw [.pointer (some pv3)], MkA (D :: dl), OwnMapI bv .u32 (fun x : Back => .agg #[.int .u32 x.from_, iV x.op]) m4, OwnTl 60 1 al6 l6.length cl6 (flL (α := W32) l6)] ?_
    refine .block (.seq (.region (.V (ld1 rfl tO102 (cellB (off := 0) (k := 5) rfl rfl)) ?_)))
    refine .V (fa rfl tF108_2) ?_
    refine .V (ld1 rfl tO60 (cellB (off := 2) (k := 0) rfl rfl)) ?_
    refine .V (lkI2 (enc := (fun x : Back => .agg #[.int .u32 x.from_, iV x.op])) (default : Back) tMI102 rfl rfl (q := 10) rfl) ?_
    refine .V mv0 ?_
    refine .V (ext rfl rfl) ?_
    refine .V (ext rfl rfl) ?_
    refine al tZ101 rfl (fun p_ => ?_)
    refine st (p := p_) (off := 0) (k := 0) (vs := [.int .u32 (((getA m4 x2).getD (default : Back)).from_), iV (((getA m4 x2).getD (default : Back)).op)]) rfl rfl rfl (fun w => (tA101 w).2) rfl rfl rfl rfl ?_
    refine .KA [Box p_ [.int .u32 (((getA m4 x2).getD (default : Back)).from_), iV (((getA m4 x2).getD (default : Back)).op)], Box pe [iV v, iV ((gt l v).cost), .int .u32 x2], Box pv5 [.int .u32 ((gt l v).pre), .int .u32 ((gt l v).add), .int .u32 ((gt l v).del), iV ((gt l v).cost)], LA .busy none, Box ps2 [.int .u32 (gt l3 (0 : Int))], Box pv [iV 0, iV 0], Box pparents [.map (some bv)], Box pline [vSl al6 l6 cl6], Box ps [.int .u32 (gt l3 (0 : Int))], Box pw [.pointer (some pv3)], MkA (D :: dl), OwnMapI bv .u32 (fun x : Back => .agg #[.int .u32 x.from_, iV x.op]) m4, OwnTl 60 1 al6 l6.length cl6 (flL (α := W32) l6)] ?_
    refine .V ag0 ?_
    refine .nil (.seqN (.seq (.region (.V mv0 ?_))))
    refine .V (nt rfl) ?_
    refine .nil (.seqN ?_)
    refine .cond rfl (fun q2131 => ?_) (fun q2131 => ?_)
    ·replace hF := hF.1 q2131
     refine .seq (.region (.V (ld1 rfl tO102 (cellB (off := 0) (k := 6) rfl rfl)) ?_))
     refine .V (fa rfl tF108_2) ?_
     refine .V (ld1 rfl tO60 (cellB (off := 2) (k := 1) rfl rfl)) ?_
     refine .V (ld1 rfl tO60 (cellB (off := 0) (k := 8) rfl rfl)) ?_
     refine .V (fa rfl tF108_0) ?_
     refine .V (ld1 rfl tO3 (cellB (off := 0) (k := 1) rfl rfl)) ?_
     refine .V (bld (cs := #[.int .u32 (gt l3 (0 : Int)), iV v]) (pv := [(0, .int .u32 (gt l3 (0 : Int))), (1, iV v)]) tB101 rfl rfl) ?_
     refine muI (enc := (fun x : Back => .agg #[.int .u32 x.from_, iV x.op])) (⟨(gt l3 (0 : Int)), v⟩ : Back) tMI102 rfl rfl rfl (q := 11) rfl ?_
     obtain ⟨m7, q2132⟩ : ∃ y_ : List (Int × Back), y_ = (setA m4 x2 (⟨(gt l3 (0 : Int)), v⟩ : Back)) := ⟨_, rfl⟩
     replace hF := hF m7 q2132
     refine .cast (A' := [Box p_ [.int .u32 (((getA m4 x2).getD (default : Back)).from_), iV (((getA m4 x2).getD (default : Back)).op)], Box pe [iV v, iV ((gt l v).cost), .int .u32 x2], Box pv5 [.int .u32 ((gt l v).pre), .int .u32 ((gt l v).add), .int .u32 ((gt l v).del), iV ((gt l v).cost)], LA .busy none, Box ps2 [.int .u32 (gt l3 (0 : Int))], Box pv [iV 0, iV 0], Box pparents [.map (some bv)], Box pline [vSl al6 l6 cl6], Box ps [.int .u32 (gt l3 (0 : Int))], Box pw [.pointer (some pv3)], MkA (D :: dl), OwnMapI bv .u32 (fun x : Back => .agg #[.int .u32 x.from_, iV x.op]) m7, OwnTl 60 1 al6 l6.length cl6 (flL (α := W32) l6)]) (by rw [q2132]; rfl) ?_
     refine .nil (.seqN (.region (.V (ld1 rfl tO54 (cellB (off := 0) (k := 7) rfl rfl)) ?_)))
     refine .V (fa rfl tF108_2) ?_
     refine .V (ld1 rfl tO60 (cellB (off := 2) (k := 1) rfl rfl)) ?_
     refine bs2 (cs := #[.int .u32 x2]) (pv := [(0, .int .u32 x2)]) tS54 rfl rfl (by decide) (by decide) rfl rfl rfl (fun a19 _ => ?_)
     refine .KA [OwnSl 60 1 a19 (([x2] : List Int).length) 1 (flL (α := W32) ([x2] : List Int)), Box p_ [.int .u32 (((getA m4 x2).getD (default : Back)).from_), iV (((getA m4 x2).getD (default : Back)).op)], Box pe [iV v, iV ((gt l v).cost), .int .u32 x2], Box pv5 [.int .u32 ((gt l v).pre), .int .u32 ((gt l v).add), .int .u32 ((gt l v).del), iV ((gt l v).cost)], LA .busy none, Box ps2 [.int .u32 (gt l3 (0 : Int))], Box pv [iV 0, iV 0], Box pparents [.map (some bv)], Box pline [vSl al6 l6 cl6], Box ps [.int .u32 (gt l3 (0 : Int))], Box pw [.pointer (some pv3)], MkA (D :: dl), OwnMapI bv .u32 (fun x : Back => .agg #[.int .u32 x.from_, iV x.op]) m7, OwnTl 60 1 al6 l6.length cl6 (flL (α := W32) l6)] ?_
     obtain ⟨q2134, hF⟩ := hF
     have q2135 : l6.length + ([x2] : List Int).length = ((l6 ++ ([x2] : List Int))).length := len_app rfl rfl
     refine appT (k := 13) (news := flL (α := W32) ([x2] : List Int)) (cs' := flL (α := W32) (l6 ++ ([x2] : List Int))) (nm := ((l6 ++ ([x2] : List Int))).length) tS54 rfl (by decide) rfl rfl rfl ((flL_len _).trans rfl) (by decide) (srcS (k := 0) rfl) (flL_one _) (room_of q2135 q2134).1 (room_of q2135 q2134).2 q2135 (flL_append _ _).symm rfl (fun a20 c7 => ?_)
     refine .KA [OwnSl 60 1 a19 (([x2] : List Int).length) 1 (flL (α := W32) ([x2] : List Int)), Box p_ [.int .u32 (((getA m4 x2).getD (default : Back)).from_), iV (((getA m4 x2).getD (default : Back)).op)], Box pe [iV v, iV ((gt l v).cost), .int .u32 x2], Box pv5 [.int .u32 ((gt l v).pre), .int .u32 ((gt l v).add), .int .u32 ((gt l v).del), iV ((gt l v).cost)], LA .busy none, Box ps2 [.int .u32 (gt l3 (0 : Int))], Box pv [iV 0, iV 0], Box pparents [.map (some bv)], Box pline [vSl al6 l6 cl6], Box ps [.int .u32 (gt l3 (0 : Int))], Box pw [.pointer (some pv3)], MkA (D :: dl), OwnMapI bv .u32 (fun x : Back => .agg #[.int .u32 x.from_, iV x.op]) m7, OwnTl 60 1 a20 ((l6 ++ ([x2] : List Int)).length) c7 (flL (α := W32) (l6 ++ ([x2] : List Int)))] ?_
     refine st (p := pline) (off := 0) (k := 8) (vs := [.slice a20 ((l6 ++ ([x2] : List Int)).length) c7]) rfl rfl rfl (fun w => (tO54 w).2) rfl rfl rfl rfl ?_
     refine .KA [OwnSl 60 1 a19 (([x2] : List Int).length) 1 (flL (α := W32) ([x2] : List Int)), Box p_ [.int .u32 (((getA m4 x2).getD (default : Back)).from_), iV (((getA m4 x2).getD (default : Back)).op)], Box pe [iV v, iV ((gt l v).cost), .int .u32 x2], Box pv5 [.int .u32 ((gt l v).pre), .int .u32 ((gt l v).add), .int .u32 ((gt l v).del), iV ((gt l v).cost)], LA .busy none, Box ps2 [.int .u32 (gt l3 (0 : Int))], Box pv [iV 0, iV 0], Box pparents [.map (some bv)], Box pline [.slice a20 ((l6 ++ ([x2] : List Int)).length) c7], Box ps [.int .u32 (gt l3 (0 : Int))], Box pw [.pointer (some pv3)], MkA (D :: dl), OwnMapI bv .u32 (fun x : Back => .agg #[.int .u32 x.from_, iV x.op]) m7, OwnTl 60 1 a20 ((l6 ++ ([x2] : List Int)).length) c7 (flL (α := W32) (l6 ++ ([x2] : List Int)))] ?_
     refine .nil (.blkN ?_)
     refine .rdN (k := 4) q2060 rfl q2130 rfl ?_
     refine .KA [OwnSl 60 1 a19 (([x2] : List Int).length) 1 (flL (α := W32) ([x2] : List Int)), Box p_ [.int .u32 (((getA m4 x2).getD (default : Back)).from_), iV (((getA m4 x2).getD (default : Back)).op)], Box pe [iV v, iV ((gt l v).cost), .int .u32 x2], Box pv5 [.int .u32 ((gt l v).pre), .int .u32 ((gt l v).add), .int .u32 ((gt l v).del), iV ((gt l v).cost)], LA .ready none, Box ps2 [.int .u32 (gt l3 (0 : Int))], Box pv [iV 0, iV 0], Box pparents [.map (some bv)], Box pline [.slice a20 ((l6 ++ ([x2] : List Int)).length) c7], Box ps [.int .u32 (gt l3 (0 : Int))], Box pw [.pointer (some pv3)], MkA (D :: dl), OwnMapI bv .u32 (fun x : Back => .agg #[.int .u32 x.from_, iV x.op]) m7, OwnTl 60 1 a20 ((l6 ++ ([x2] : List Int)).length) c7 (flL (α := W32) (l6 ++ ([x2] : List Int)))] ?_
     refine .GV (nt rfl) q2128 ?_
     refine .V (pkT rfl q2128 rfl) ?_
     refine .nil (.seqN ?_)
     refine .cond rfl (fun e => absurd (e.symm.trans rfl) (by decide)) (fun _ => ?_)
     refine .skip (.blkN ?_)
     refine .sel0 [4, 5, 6, 7, 8, 9, 10, 11, 12, 13] (by decide) rfl ?_
     exact .US q2125 (m7, (l6 ++ ([x2] : List Int)), a20, c7) hF
    replace hF := hF.2 q2131
    refine .skip (.blkN ?_)
    refine .rdN (k := 3) q2060 rfl q2130 rfl ?_
    refine .KA [Box p_ [.int .u32 (((getA m4 x2).getD (default : Back)).from_), iV (((getA m4 x2).getD (default : Back)).op)], Box pe [iV v, iV ((gt l v).cost), .int .u32 x2], Box pv5 [.int .u32 ((gt l v).pre), .int .u32 ((gt l v).add), .int .u32 ((gt l v).del), iV ((gt l v).cost)], LA .ready none, Box ps2 [.int .u32 (gt l3 (0 : Int))], Box pv [iV 0, iV 0], Box pparents [.map (some bv)], Box pline [vSl al6 l6 cl6], Box ps [.int .u32 (gt l3 (0 : Int))], Box pw [.pointer (some pv3)], MkA (D :: dl), OwnMapI bv .u32 (fun x : Back => .agg #[.int .u32 x.from_, iV x.op]) m4, OwnTl 60 1 al6 l6.length cl6 (flL (α := W32) l6)] ?_
    refine .GV (nt rfl) q2128 ?_
    refine .V (pkT rfl q2128 rfl) ?_
    refine .nil (.seqN ?_)
    refine .cond rfl (fun e => absurd (e.symm.trans rfl) (by decide)) (fun _ => ?_)
    refine .skip (.blkN ?_)
    refine .sel0 [3, 4, 5, 6, 7, 8, 9, 10, 11, 12] (by decide) rfl ?_
    exact .US q2125 (m4, l6, al6, cl6) hF
   replace hF := hF.2 q2128
   refine .GS q2128 ?_
   refine .GS q2128 ?_
   refine .GS q2128 ?_
   refine .GS q2128 ?_
   refine .GS q2128 ?_
   refine .GS q2128 ?_
   refine .GS q2128 ?_
   refine .GS q2128 ?_
   refine .GS q2128 ?_
   refine .GS q2128 ?_
   refine .GS q2128 ?_
   refine .GS q2128 ?_
   refine .GS q2128 ?_
   refine .GS q2128 ?_
   refine .V (pkF rfl q2128 rfl) ?_
   refine .nil (.seqN ?_)
   refine .cond rfl (fun e => absurd (e.symm.trans rfl) (by decide)) (fun _ => ?_)
   refine .skip (.blkN ?_)
   refine .sel0 [1, 2, 3, 4, 5, 6, 7, 8, 9, 10] (by decide) rfl ?_
   exact .US q2125 (m4, l6, al6, cl6) hF
  replace hF := hF.2 q2114
  refine .exit (.seqX (.seqX (.blkX ?_)))
  refine .res0 (.inr rfl) rfl (range_done (k := 0) q2060 rfl q2061 ?_)
  refine .KA [tru, Box ps2 [.int .u32 (gt l3 (0 : Int))], Box pv [iV 0, iV 0], Box pparents [.map (some bv)], Box pline [vSl al6 l6 cl6], Box ps [.int .u32 (gt l3 (0 : Int))], Box pw [.pointer (some pv3)], MkA (D :: dl), OwnMapI bv .u32 (fun x : Back => .agg #[.int .u32 x.from_, iV x.op]) m4, OwnTl 60 1 al6 l6.length cl6 (flL (α := W32) l6)] ?_
  refine .blkN (.blkN ?_)
  refine .sel0 [3, 4, 7, 2, 8, 9] (by decide) rfl ?_
  exact .roundN (m4, l6, D :: dl, al6, cl6) hF.1 hF.2 rfl sb rfl (FH.le_refl _)
 replace hF := hF.2 q1936
 refine .exit (.seqX (.seqX (.blkX (.seqN (.seq (.region (.V ag0 ?_)))))))
 refine .V ag0 ?_
 refine .nil (.seqN (.ret ?_))
 refine .resM (k := 2) rfl ?_
 refine .res2 rfl (rvT rfl) (rvT rfl) (inl_back (v := .tuple #[.slice none 0 0, .bool false]) q354 rfl ?_)
 refine .KA [Box pparents [.map (some bv)], Box pline [vSl al4 l3 cl4], tru, Box pv [iV 0, iV 0], OwnMapI bv .u32 (fun x : Back => .agg #[.int .u32 x.from_, iV x.op]) m2, OwnTl 60 1 al4 l3.length cl4 (flL (α := W32) l3)] ?_
 refine .V (ext rfl rfl) ?_
 refine .V (ext rfl rfl) ?_
 refine .inl Tryz.func22 rfl Tryz.ntmps22 Tryz.call22 rfl rfl rfl rfl (fun a21 q2136 => ?_)
 refine .seq (.region (.V ag0 ?_))
 refine .V ag0 ?_
 refine al tZ27 rfl (fun pv6 => ?_)
 refine .nil (.seqN (.seq (.seq (.region (.V mv0 ?_)))))
 refine .V (ln rfl tS22.is) ?_
 refine .V bi0 ?_
 refine .nil (.seqN ?_)
 refine .cond rfl (fun q2138 => ?_) (fun q2138 => ?_)
 ·replace hF := hF.1 q2138
  refine .seq (.region (.V (bld (cs := #[iV 10, iV (-9)]) (pv := [(0, iV 10), (1, iV (-9))]) tB27 rfl rfl) ?_))
  refine .V ag0 ?_
  refine .V ag0 ?_
  refine st (p := pv6) (off := 0) (k := 0) (vs := [iV 10, iV (-9)]) rfl rfl rfl (fun w => (tA27 w).2) rfl rfl rfl rfl ?_
  refine .KA [Box pv6 [iV 10, iV (-9)], Box pparents [.map (some bv)], Box pline [vSl al4 l3 cl4], tru, Box pv [iV 0, iV 0], OwnMapI bv .u32 (fun x : Back => .agg #[.int .u32 x.from_, iV x.op]) m2, OwnTl 60 1 al4 l3.length cl4 (flL (α := W32) l3)] ?_
  refine .nil (.seqN (.ret (.seqR ?_)))
  refine .res3 rfl (rvT rfl) (rvT rfl) (rvC rfl tA27 (k := 0) rfl rfl) (inl_back (v := .tuple #[.slice none 0 0, .bool false, .agg #[iV 10, iV (-9)]]) q2136 rfl ?_)
  refine .KA [Box pv6 [iV 10, iV (-9)], Box pparents [.map (some bv)], Box pline [vSl al4 l3 cl4], tru, Box pv [iV 0, iV 0], OwnMapI bv .u32 (fun x : Back => .agg #[.int .u32 x.from_, iV x.op]) m2, OwnTl 60 1 al4 l3.length cl4 (flL (α := W32) l3)] ?_
  refine .V (ext rfl rfl) ?_
  refine .V (ext rfl rfl) ?_
  refine .V (ext rfl rfl) ?_
  refine .V ag0 ?_
  refine .V ag0 ?_
  refine st (p := pv) (off := 0) (k := 4) (vs := [iV 10, iV (-9)]) rfl rfl rfl (fun w => (tA27 w).2) rfl rfl rfl rfl ?_
  refine .KA [Box pv6 [iV 10, iV (-9)], Box pparents [.map (some bv)], Box pline [vSl al4 l3 cl4], tru, Box pv [iV 10, iV (-9)], OwnMapI bv .u32 (fun x : Back => .agg #[.int .u32 x.from_, iV x.op]) m2, OwnTl 60 1 al4 l3.length cl4 (flL (α := W32) l3)] ?_
  refine .nil (.seqN (.ret ?_))
  refine .res3 rfl (rvT rfl) (rvT rfl) (rvC rfl tA27 (k := 4) rfl rfl) (fun w' S => ⟨(([] : List Int), false, (⟨10, (-9)⟩ : Fault)), (none, 0), h2, hF, rfl, (FH.le_trans (le1) (le2)), ⟨RSl.nil_, (Nat.le_refl 0)⟩, S.none⟩)
 replace hF := hF.2 q2138
 refine .skip (.seqN (.seq (.region (.V mv0 ?_))))
 refine .V mv0 ?_
 refine .V (bld (cs := #[iV 0, iV 0]) (pv := []) tB27 rfl rfl) ?_
 refine .V ag0 ?_
 refine .V ag0 ?_
 refine st (p := pv6) (off := 0) (k := 0) (vs := [iV 0, iV 0]) rfl rfl rfl (fun w => (tA27 w).2) rfl rfl rfl rfl ?_
 refine .KA [Box pv6 [iV 0, iV 0], Box pparents [.map (some bv)], Box pline [vSl al4 l3 cl4], tru, Box pv [iV 0, iV 0], OwnMapI bv .u32 (fun x : Back => .agg #[.int .u32 x.from_, iV x.op]) m2, OwnTl 60 1 al4 l3.length cl4 (flL (α := W32) l3)] ?_
 refine .nil (.seqN (.ret ?_))
 refine .res3 rfl (rvT rfl) (rvT rfl) (rvC rfl tA27 (k := 0) rfl rfl) (inl_back (v := .tuple #[.slice none 0 0, .bool false, .agg #[iV 0, iV 0]]) q2136 rfl ?_)
 refine .KA [Box pv6 [iV 0, iV 0], Box pparents [.map (some bv)], Box pline [vSl al4 l3 cl4], tru, Box pv [iV 0, iV 0], OwnMapI bv .u32 (fun x : Back => .agg #[.int .u32 x.from_, iV x.op]) m2, OwnTl 60 1 al4 l3.length cl4 (flL (α := W32) l3)] ?_
 refine .V (ext rfl rfl) ?_
 refine .V (ext rfl rfl) ?_
 refine .V (ext rfl rfl) ?_
 refine .V ag0 ?_
 refine .V ag0 ?_
 refine st (p := pv) (off := 0) (k := 4) (vs := [iV 0, iV 0]) rfl rfl rfl (fun w => (tA27 w).2) rfl rfl rfl rfl ?_
 refine .KA [Box pv6 [iV 0, iV 0], Box pparents [.map (some bv)], Box pline [vSl al4 l3 cl4], tru, Box pv [iV 0, iV 0], OwnMapI bv .u32 (fun x : Back => .agg #[.int .u32 x.from_, iV x.op]) m2, OwnTl 60 1 al4 l3.length cl4 (flL (α := W32) l3)] ?_
 refine .nil (.seqN (.ret ?_))
 refine .res3 rfl (rvT rfl) (rvT rfl) (rvC rfl tA27 (k := 4) rfl rfl) (fun w' S => ⟨(([] : List Int), false, (⟨0, 0⟩ : Fault)), (none, 0), h2, hF, rfl, (FH.le_trans (le1) (le2)), ⟨RSl.nil_, (Nat.le_refl 0)⟩, S.none⟩)
theorem c_brplan {h : FH} {w : World} (hs : Sub h w) (t : Task) (at_ : Option Addr) (ct : Nat) (_q1 : RSl h at_ t.init) (_q2 : t.init.length ≤ ct) (at_2 : Option Addr) (ct2 : Nat) (_q3 : RSl h at_2 t.goal) (_q4 : t.goal.length ≤ ct2) (at_3 : Option Addr) (ct3 : Nat) (_q5 : RSl h at_3 t.ops) (_q6 : t.ops.length ≤ ct3) : Calls Tryz.prog 6 #[.agg #[iV t.facts, .slice at_ t.init.length ct, .slice at_2 t.goal.length ct2, .slice at_3 t.ops.length ct3]] w fun e w' => ∃ (z : Option Addr × Nat) (h1 : FH), e = .returned (.tuple #[.slice z.1 (sp_brplan t).1.length z.2, .bool (sp_brplan t).2.1, .agg #[iV (sp_brplan t).2.2.code, iV (sp_brplan t).2.2.index]]) ∧ FH.le h h1 ∧ (RSl h1 z.1 (sp_brplan t).1 ∧ (sp_brplan t).1.length ≤ z.2) ∧ SH (Kp.all w h) h1 w' [] :=
 (w_brplan hs t at_ ct _q1 _q2 at_2 ct2 _q3 _q4 at_3 ct3 _q5 _q6 (fun r => r = sp_brplan t) (ok_brplan t)).mono fun _ _ ⟨r, z, h1, hk, he, hl, hf, hS⟩ => by subst hk; exact ⟨z, h1, he, hl, hf, hS⟩
end Go.Proofs.YtimillpakjgnoaaGreatDoor.Pl

