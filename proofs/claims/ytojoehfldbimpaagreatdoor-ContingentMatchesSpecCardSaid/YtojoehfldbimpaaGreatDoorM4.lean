import Derived.Test.YtojoehfldbimpaaGreatDoorM1
import Derived.Test.YtojoehfldbimpaaGreatDoorM3
import Derived.Ground.NamesProg
import Derived.Shelf.Strconv.Itoa3
import Derived.Test.YtojoehfldbimpaaGreatDoorChecked
import Derived.Test.YtojoehfldbimpaaGreatDoorM2
namespace Go.Proofs.YtojoehfldbimpaaGreatDoor.Pl
open Go Go.RowKit
theorem w_compactR {h : FH} {w : World} (hs : Sub h w) (s_ : List (List Int)) (as_ : Option Addr) (cs_ : Nat) {cs : List Value} (q1 : RepL h s_ cs) {gX : FH} (ownX : OwnSl 22 1 as_ s_.length cs_ cs gX) (subX : Sub gX w) (disX : Disj h gX) (K : (List (List Int)) → Prop) (hF : F_compactR s_ K) : Calls Tryz.prog 108 #[.slice as_ s_.length cs_, .func (.func 109) #[] #[]] w fun e w' => ∃ r : List (List Int), K r ∧ e = .returned (.slice as_ r.length cs_) ∧ SH (Kp.ex w h gX) h w' [OwnPX h 22 1 as_ cs_ r] := by
 refine enterX (X := OwnSl 22 1 as_ s_.length cs_ cs) (args := [vSl as_ s_ cs_, .func (.func 109) #[] #[]]) Tryz.func108 rfl Tryz.ntmps108 rfl hs subX disX ownX ?_
 refine .seq (.region (.V (asg rfl) ?_))
 refine .nil (.seqN (.seq (.seq (.region (.V (mv rfl) ?_)))))
 refine .V (ln rfl tS35.is) ?_
 refine .V (bi rfl rfl rfl) ?_
 refine .nil (.seqN ?_)
 refine .cond rfl (fun q3 => ?_) (fun q3 => ?_)
 ·replace hF := hF.1 q3
  refine .seq (.region (.V (mv rfl) ?_))
  refine .V (asg rfl) ?_
  refine .nil (.seqN (.ret (.seqR ?_)))
  refine .res1 rfl (rvT rfl) (fun w' S => ⟨s_, hF, rfl, S.wholeP (k := 0) rfl q1 rfl⟩)
 replace hF := hF.2 q3
 refine .skip (.seqN (.seq (.seq (.region (.V (asg rfl) ?_)))))
 refine .nil (.seqN (.block ?_))
 obtain ⟨I1, μ1, q4021, q4022⟩ := hF
 refine .loop' (σ := Int) (fun z => I1 z) (fun z => μ1 z) (fun z => [(0, vSl as_ s_ cs_), (1, .func (.func 109) #[] #[]), (5, iV z)]) (fun _ => [OwnSl 22 1 as_ s_.length cs_ cs]) (fun _ => h) 1 q4021 sb rfl (FH.le_refl _) ?_
 rintro k q4021
 have hF := q4022 k q4021
 show J _ _ _ _ _ [(0, vSl as_ s_ cs_), (1, .func (.func 109) #[] #[]), (5, iV k)] [OwnSl 22 1 as_ s_.length cs_ cs] h
 refine .seq (.seq (.region (.V (mv rfl) ?_)))
 refine .V (mv rfl) ?_
 refine .V (ln rfl tS35.is) ?_
 refine .V (bi rfl rfl rfl) ?_
 refine .nil (.seqN ?_)
 refine .cond rfl (fun q4024 => ?_) (fun q4024 => ?_)
 ·replace hF := hF.1 q4024
  refine .skip (.seqN (.seq (.block (.seq ?_))))
  refine .open_ (by kernel_rfl) (by kernel_rfl) ?_
  refine .V (mv rfl) ?_
  refine .V (mv rfl) ?_
  refine .V (mv rfl) ?_
  obtain ⟨q4559, hF⟩ := hF
  refine .V (ixS rfl rfl tS35 (k := 0) rfl q4559) ?_
  obtain ⟨_, ⟨a, c, rfl, q4560, q4561⟩, q4562⟩ := RepL.get q1 (gt_get q4559)
  refine .V (ld1 (v := .slice a ((gt s_ k).length) c) rfl tO22 (cellS (k := 0) rfl (q4562 0 _ rfl))) ?_
  refine .V (mv rfl) ?_
  refine .V (mv rfl) ?_
  refine .V (bi rfl rfl rfl) ?_
  obtain ⟨q4563, hF⟩ := hF
  refine .V (ixS rfl rfl tS35 (k := 0) rfl q4563) ?_
  obtain ⟨_, ⟨a2, c2, rfl, q4564, q4565⟩, q4566⟩ := RepL.get q1 (gt_get q4563)
  refine .V (ld1 (v := .slice a2 ((gt s_ (wr (k - 1))).length) c2) rfl tO22 (cellS (k := 0) rfl (q4566 0 _ rfl))) ?_
  obtain ⟨q4567, hF⟩ := hF
  obtain ⟨r2, q4568⟩ : ∃ y_ : Bool, y_ = sp_sequal (gt s_ k) (gt s_ (wr (k - 1))) := ⟨_, rfl⟩
  replace hF := hF r2 q4568
  refine .C (cl (v := .bool r2) Tryz.call109 rfl rfl (fun w S => (by rw [q4568]; exact c_sequal S.sub (gt s_ k) a c q4561 q4560 (gt s_ (wr (k - 1))) a2 c2 q4565 q4564 q4567))) ?_
  refine .fin ?_
  refine .seqN ?_
  refine .cond rfl (fun q4569 => ?_) (fun q4569 => ?_)
  ·replace hF := hF.1 q4569
   refine .seq ?_
   refine .fact (fun w S => look_len S (k := 0) rfl) (fun q4570 => ?_)
   refine .region (.V (mv rfl) ?_)
   refine .V (mv rfl) ?_
   obtain ⟨q4571, hF⟩ := hF
   refine .V (slL tS35 rfl rfl q4571.1 rfl (Int.toNat_le.2 q4571.2)) ?_
   refine .V (asg rfl) ?_
   refine .nil (.seqN (.seq (.seq (.region (.V (asg rfl) ?_)))))
   refine .nil (.seqN (.block ?_))
   obtain ⟨I2, μ2, q4781, q4782⟩ := hF
   refine .loop' (σ := Int × Int × List (List Int) × List Value) (fun z => I2 z.1 z.2.1 z.2.2.1 ∧ RepL h z.2.2.1 z.2.2.2 ∧ z.2.2.1.length = s_.length) (fun z => μ2 z.1 z.2.1 z.2.2.1) (fun z => [(0, vSl as_ s_ cs_), (1, .func (.func 109) #[] #[]), (5, iV z.1), (6, .slice (sla as_ cs_ (k).toNat 1) (s_.length - (k).toNat) (cs_ - (k).toNat)), (7, iV z.2.1)]) (fun z => [OwnSl 22 1 as_ s_.length cs_ z.2.2.2]) (fun _ => h) (k, 1, s_, cs) ⟨q4781, q1, rfl⟩ sb rfl (FH.le_refl _) ?_
   rintro ⟨k3, k22, s_2, css⟩ ⟨q4781, q4738, q4739⟩
   have hF := q4782 k3 k22 s_2 q4781
   show J _ _ _ _ _ [(0, vSl as_ s_ cs_), (1, .func (.func 109) #[] #[]), (5, iV k3), (6, .slice (sla as_ cs_ (k).toNat 1) (s_.length - (k).toNat) (cs_ - (k).toNat)), (7, iV k22)] [OwnSl 22 1 as_ s_.length cs_ css] h
   refine .seq (.seq (.region (.V (mv rfl) ?_)))
   refine .V (mv rfl) ?_
   refine .V (ln rfl tS35.is) ?_
   refine .V (bi rfl rfl rfl) ?_
   refine .nil (.seqN ?_)
   refine .cond rfl (fun q4784 => ?_) (fun q4784 => ?_)
   ·replace hF := hF.1 q4784
    refine .skip (.seqN ?_)
    refine .share (σ := Int × List (List Int) × List Value) (fun z => F_compactR_J1 s_2 k3 k22 I2 μ2 z.2.1 z.1 ∧ RepL h z.2.1 z.2.2 ∧ z.2.1.length = s_.length) (fun z => [(0, vSl as_ s_ cs_), (1, .func (.func 109) #[] #[]), (5, iV z.1), (6, .slice (sla as_ cs_ (k).toNat 1) (s_.length - (k).toNat) (cs_ - (k).toNat)), (7, iV k22)]) (fun z => [OwnSl 22 1 as_ s_.length cs_ z.2.2]) (fun _ => h) ?_ (fun q4804 => ?_)
    ·rintro ⟨k5, s_4, css3⟩ ⟨hF, q4802, q4803⟩
     show J _ _ _ _ _ [(0, vSl as_ s_ cs_), (1, .func (.func 109) #[] #[]), (5, iV k5), (6, .slice (sla as_ cs_ (k).toNat 1) (s_.length - (k).toNat) (cs_ - (k).toNat)), (7, iV k22)] [OwnSl 22 1 as_ s_.length cs_ css3] h
     refine .region (.V (mv rfl) ?_)
     refine .V (bi rfl rfl rfl) ?_
     refine .V (asg rfl) ?_
     refine .nil ?_
     exact .RO (k5, wr (k22 + 1), s_4, css3) ⟨hF.1, q4802, q4803⟩ hF.2
    refine .block (.seq ?_)
    refine .open_ (by kernel_rfl) (by kernel_rfl) ?_
    refine .V (mv rfl) ?_
    refine .V (mv rfl) ?_
    refine .V (mv rfl) ?_
    obtain ⟨q4805, q4806, hF⟩ := hF
    refine .V (ixV rfl rfl tS35 (k := 0) rfl q4805 (inb_n q4806 q4739)) ?_
    obtain ⟨_, ⟨a3, c3, rfl, q4807, q4808⟩, q4809⟩ := RepL.get q4738 (gt_get q4806)
    refine .V (ld1 (v := .slice a3 ((gt s_2 ((((k).toNat : Nat) : Int) + k22)).length) c3) rfl tO22 (cellS (k := 0) rfl (q4809 0 _ rfl))) ?_
    refine .V (mv rfl) ?_
    refine .V (mv rfl) ?_
    refine .V (bi rfl rfl rfl) ?_
    obtain ⟨q4810, q4811, hF⟩ := hF
    refine .V (ixV rfl rfl tS35 (k := 0) rfl q4810 (inb_n q4811 q4739)) ?_
    obtain ⟨_, ⟨a4, c4, rfl, q4812, q4813⟩, q4814⟩ := RepL.get q4738 (gt_get q4811)
    refine .V (ld1 (v := .slice a4 ((gt s_2 ((((k).toNat : Nat) : Int) + (wr (k22 - 1)))).length) c4) rfl tO22 (cellS (k := 0) rfl (q4814 0 _ rfl))) ?_
    obtain ⟨q4815, hF⟩ := hF
    obtain ⟨r3, q4816⟩ : ∃ y_ : Bool, y_ = sp_sequal (gt s_2 ((((k).toNat : Nat) : Int) + k22)) (gt s_2 ((((k).toNat : Nat) : Int) + (wr (k22 - 1)))) := ⟨_, rfl⟩
    replace hF := hF r3 q4816
    refine .C (cl (v := .bool r3) Tryz.call109 rfl rfl (fun w S => (by rw [q4816]; exact c_sequal S.sub (gt s_2 ((((k).toNat : Nat) : Int) + k22)) a3 c3 q4808 q4807 (gt s_2 ((((k).toNat : Nat) : Int) + (wr (k22 - 1)))) a4 c4 q4813 q4812 q4815))) ?_
    refine .V (nt rfl) ?_
    refine .fin ?_
    refine .seqN ?_
    refine .cond rfl (fun q4817 => ?_) (fun q4817 => ?_)
    ·replace hF := hF.1 q4817
     refine .seq (.region (.V (mv rfl) ?_))
     refine .V (mv rfl) ?_
     refine .V (mv rfl) ?_
     refine .V (mv rfl) ?_
     refine .V (ixV rfl rfl tS35 (k := 0) rfl q4805 (inb_n q4806 q4739)) ?_
     refine .V (ld1 (v := .slice a3 ((gt s_2 ((((k).toNat : Nat) : Int) + k22)).length) c3) rfl tO22 (cellS (k := 0) rfl (q4809 0 _ rfl))) ?_
     obtain ⟨q4818, hF⟩ := hF
     refine .V (ixS rfl rfl tS35 (k := 0) rfl (inb_n q4818 q4739)) ?_
     obtain ⟨d, q4819⟩ : ∃ y_ : List (List Int), y_ = (s_2.set (k3).toNat (gt s_2 ((((k).toNat : Nat) : Int) + k22))) := ⟨_, rfl⟩
     replace hF := hF d q4819
     have q4821 : d.length = s_.length := by rw [q4819]; exact List.length_set.trans q4739
     have q4820 : RepL h d (wrL css ((k3).toNat * 1) [.slice a3 ((gt s_2 ((((k).toNat : Nat) : Int) + k22)).length) c3]) := by rw [q4819]; exact RepL.set q4738 (inb_lt q4818) ⟨a3, c3, rfl, q4807, q4808⟩
     refine stS (k := 0) (cs' := (wrL css ((k3).toNat * 1) [.slice a3 ((gt s_2 ((((k).toNat : Nat) : Int) + k22)).length) c3])) rfl (fun _ => rfl) rfl rfl (fun w => (tO22 w).2) rfl rfl rfl (by rw [← q4739]; exact inb_pos q4818) (rep_room q4738 q4818) rfl ?_
     refine .cast (A' := [OwnSl 22 1 as_ s_.length cs_ (wrL css ((k3).toNat * 1) [.slice a3 ((gt s_2 ((((k).toNat : Nat) : Int) + k22)).length) c3])]) rfl ?_
     refine .nil (.seqN (.region (.V (mv rfl) ?_)))
     refine .V (bi rfl rfl rfl) ?_
     refine .V (asg rfl) ?_
     refine .nil (.blkN ?_)
     exact .US q4804 (wr (k3 + 1), d, (wrL css ((k3).toNat * 1) [.slice a3 ((gt s_2 ((((k).toNat : Nat) : Int) + k22)).length) c3])) ⟨hF, q4820, q4821⟩
    replace hF := hF.2 q4817
    refine .skip (.blkN ?_)
    exact .US q4804 (k3, s_2, css) ⟨hF, q4738, q4739⟩
   replace hF := hF.2 q4784
   refine .exit (.seqX (.seqX (.blkX (.seqN (.seq ?_)))))
   refine .fact (fun w S => look_len S (k := 0) rfl) (fun q4822 => ?_)
   refine .region (.V (mv rfl) ?_)
   refine .V (mv rfl) ?_
   obtain ⟨q4823, hF⟩ := hF
   refine .V (slL tS35 rfl rfl q4823.1 rfl (Int.toNat_le.2 q4823.2)) ?_
   have q4824 : RepL h (s_2.take (k3).toNat ++ List.replicate (s_.length - (k3).toNat) []) (css.take (k3).toNat ++ List.replicate (s_.length - (k3).toNat) (.slice none 0 0)) := RepL.append (by have := RepL.take_ q4738 (k3).toNat; rwa [show Rep.sz (List Int) = 1 from rfl, Nat.mul_one] at this) (rep_nils _)
   have q4825 : (s_2.take (k3).toNat ++ List.replicate (s_.length - (k3).toNat) []).length = s_.length := take_rep q4739 (Int.toNat_le.2 q4823.2)
   refine clS (k := 0) (lo := (k3).toNat) tS35 rfl rfl rfl rfl rfl (Int.toNat_le.2 q4823.2) rfl ?_
   refine .cast (A' := [OwnSl 22 1 as_ s_.length cs_ (css.take (k3).toNat ++ List.replicate (s_.length - (k3).toNat) (.slice none 0 0))]) rfl ?_
   refine .nil (.seqN (.seq (.region (.V (mv rfl) ?_))))
   refine .V (mv rfl) ?_
   refine .V (slH tS35 rfl rfl q4823.1 rfl (Nat.le_trans (Int.toNat_le.2 q4823.2) q4822)) ?_
   refine .V (asg rfl) ?_
   refine .nil (.seqN (.ret (.blkR (.seqR (.seqR (.blkR (.seqR ?_)))))))
   refine .res1 rfl (rvT rfl) (fun w' S => ⟨((s_2.take (k3).toNat ++ List.replicate (s_.length - (k3).toNat) []).take ((k3).toNat)), hF, (by rw [len_take (q4825) (Int.toNat_le.2 q4823.2)]), S.prefixP (k := 0) rfl q4824 q4825 (Int.toNat_le.2 q4823.2)⟩)
  replace hF := hF.2 q4569
  refine .skip (.blkN (.seqN (.region (.V (mv rfl) ?_))))
  refine .V (bi rfl rfl rfl) ?_
  refine .V (asg rfl) ?_
  refine .nil ?_
  exact .RO (wr (k + 1)) hF.1 hF.2
 replace hF := hF.2 q4024
 refine .exit (.seqX (.seqX (.blkX (.seqN (.seq (.region (.V (mv rfl) ?_)))))))
 refine .V (asg rfl) ?_
 refine .nil (.seqN (.ret ?_))
 refine .res1 rfl (rvT rfl) (fun w' S => ⟨s_, hF, rfl, S.wholeP (k := 0) rfl q1 rfl⟩)
theorem c_compactR {h : FH} {w : World} (hs : Sub h w) (s_ : List (List Int)) (as_ : Option Addr) (cs_ : Nat) {cs : List Value} (q1 : RepL h s_ cs) {gX : FH} (ownX : OwnSl 22 1 as_ s_.length cs_ cs gX) (subX : Sub gX w) (disX : Disj h gX) (hp : pre_compactR s_) : Calls Tryz.prog 108 #[.slice as_ s_.length cs_, .func (.func 109) #[] #[]] w fun e w' => e = .returned (.slice as_ (sp_compactR s_).length cs_) ∧ SH (Kp.ex w h gX) h w' [OwnPX h 22 1 as_ cs_ (sp_compactR s_)] :=
 (w_compactR hs s_ as_ cs_ q1 ownX subX disX  (fun r => r = sp_compactR s_) (ok_compactR s_ hp)).mono fun _ _ ⟨r, hk, he, hS⟩ => ⟨by rw [← hk]; exact he, by rw [← hk]; exact hS⟩
theorem w_normal {h : FH} {w : World} (hs : Sub h w) (l : List (List Int)) (al2 : Option Addr) (cl2 : Nat) {cs : List Value} (q1 : RepL h l cs) {gX : FH} (ownX : OwnSl 22 1 al2 l.length cl2 cs gX) (subX : Sub gX w) (disX : Disj h gX) (K : (List (List Int)) → Prop) (hF : F_normal l K) : Calls Tryz.prog 84 #[.slice al2 l.length cl2] w fun e w' => ∃ r : List (List Int), K r ∧ e = .returned (.slice al2 r.length cl2) ∧ SH (Kp.ex w h gX) h w' [OwnPX h 22 1 al2 cl2 r] := by
 refine enterX (X := OwnSl 22 1 al2 l.length cl2 cs) (args := [vSl al2 l cl2]) Tryz.func84 rfl Tryz.ntmps84 rfl hs subX disX ownX ?_
 refine .seq (.region (.V (asg rfl) ?_))
 refine .nil (.seqN (.seq (.region (.V (mv rfl) ?_))))
 obtain ⟨q2, hF⟩ := hF
 obtain ⟨r2, q3⟩ : ∃ y_ : List (List Int), y_ = sp_sortR l := ⟨_, rfl⟩
 replace hF := hF r2 q3
 refine callX (k := 0) (v := .tuple #[]) (X' := OwnPX h 22 1 al2 cl2 r2) rfl Tryz.call107 rfl rfl (fun w g hx sg hd hs' => ?_) rfl ?_
 ·rw [q3]; exact c_sortR hs' l al2 cl2 q1 (own_n (rfl).symm hx) sg hd q2
 have q5 : r2.length = l.length := by rw [q3]; exact (sortR_len l).trans rfl
 refine .openPn (k := 0) rfl q5 (fun cs2 q4 => ?_)
 refine .cast (A' := [OwnSl 22 1 al2 l.length cl2 cs2]) rfl ?_
 refine .nil (.seqN (.seq (.region (.V (mv rfl) ?_))))
 obtain ⟨q6, hF⟩ := hF
 obtain ⟨r3, q7⟩ : ∃ y_ : List (List Int), y_ = sp_compactR r2 := ⟨_, rfl⟩
 replace hF := hF r3 q7
 refine callX (k := 0) (v := vSl al2 r3 cl2) (X' := OwnPX h 22 1 al2 cl2 r3) rfl Tryz.call108 rfl rfl (fun w g hx sg hd hs' => ?_) rfl ?_
 ·rw [q7]; have hc_ := c_compactR hs' r2 al2 cl2 q4 (own_n (q5).symm hx) sg hd q6; rw [q5] at hc_; exact hc_
 refine .openP (k := 0) rfl (fun cs3 q8 => ?_)
 refine .cast (A' := [OwnSl 22 1 al2 r3.length cl2 cs3]) rfl ?_
 refine .V (asg rfl) ?_
 refine .nil (.seqN (.ret ?_))
 refine .res1 rfl (rvT rfl) (fun w' S => ⟨r3, hF, rfl, S.wholeP (k := 0) rfl q8 rfl⟩)
theorem c_normal {h : FH} {w : World} (hs : Sub h w) (l : List (List Int)) (al2 : Option Addr) (cl2 : Nat) {cs : List Value} (q1 : RepL h l cs) {gX : FH} (ownX : OwnSl 22 1 al2 l.length cl2 cs gX) (subX : Sub gX w) (disX : Disj h gX) (hp : pre_normal l) : Calls Tryz.prog 84 #[.slice al2 l.length cl2] w fun e w' => e = .returned (.slice al2 (sp_normal l).length cl2) ∧ SH (Kp.ex w h gX) h w' [OwnPX h 22 1 al2 cl2 (sp_normal l)] :=
 (w_normal hs l al2 cl2 q1 ownX subX disX (fun r => r = sp_normal l) (ok_normal l hp)).mono fun _ _ ⟨r, hk, he, hS⟩ => ⟨by rw [← hk]; exact he, by rw [← hk]; exact hS⟩
set_option maxHeartbeats 8000000 in
theorem w_worlds {h : FH} {w : World} (hs : Sub h w) (t : Task) (at_ : Option Addr) (ct : Nat) (_q1 : RSl h at_ t.init) (_q2 : t.init.length ≤ ct) (at_2 : Option Addr) (ct2 : Nat) (_q3 : RSl h at_2 t.goal) (_q4 : t.goal.length ≤ ct2) (at_3 : Option Addr) (ct3 : Nat) (_q5 : RSl h at_3 t.ops) (_q6 : t.ops.length ≤ ct3) (unknown : List Int) (aunknown : Option Addr) (cunknown : Nat) (_q7 : RSl h aunknown unknown) (_q8 : unknown.length ≤ cunknown) (K : (List (List Int)) → Prop) (hF : F_worlds t unknown K) : Calls Tryz.prog 48 #[.agg #[iV t.facts, .slice at_ t.init.length ct, .slice at_2 t.goal.length ct2, .slice at_3 t.ops.length ct3], .slice aunknown unknown.length cunknown] w fun e w' => ∃ (r : List (List Int)) (z : Option Addr × Nat) (h1 : FH), K r ∧ e = .returned (.slice z.1 r.length z.2) ∧ FH.le h h1 ∧ (RSl h1 z.1 r ∧ r.length ≤ z.2) ∧ SH (Kp.all w h) h1 w' [] := by
 refine enter (args := [.agg (tF t at_ ct at_2 ct2 at_3 ct3).toArray, vSl aunknown unknown cunknown]) Tryz.func48 rfl Tryz.ntmps48 rfl hs ?_
 refine .seq (.region ?_)
 refine bx (vs := (tF t at_ ct at_2 ct2 at_3 ct3)) rfl rfl rfl (fun pt => ?_)
 refine .V (asg rfl) ?_
 refine .nil (.seqN (.seq (.region (.V (asg rfl) ?_))))
 refine .nil (.seqN (.seq (.seq (.region (.V (mv rfl) ?_)))))
 refine .V (ln rfl tS22.is) ?_
 obtain ⟨q9, hF⟩ := hF
 obtain ⟨x, q10⟩ : ∃ y_ : Int, y_ = (wr (1 * 2 ^ (min ((((unknown.length : Nat) : Int) : Int)).toNat (IntKind.bits .i64)))) := ⟨_, rfl⟩
 replace hF := hF x q10
 refine .v (v := iV x) (by rw [q10]; exact bsh rfl rfl q9 rfl) rfl rfl rfl ?_
 refine .V (mv rfl) ?_
 refine .nil (.seqN (.block ?_))
 refine .nilSl 22 1 ?_
 refine .cast (A' := [OwnSl 22 1 none (([] : List (List Int)).length) 0 [], Box pt (tF t at_ ct at_2 ct2 at_3 ct3)]) rfl ?_
 refine .sel0 [1, 0] (by decide) rfl ?_
 obtain ⟨I1, μ1, q1784, q1785⟩ := hF
 refine .loop' (σ := Int × List (List Int) × Option Addr × Nat × List Value × FH) (fun z => I1 z.1 z.2.1 ∧ RepL z.2.2.2.2.2 z.2.1 z.2.2.2.2.1 ∧ FH.le h z.2.2.2.2.2) (fun z => μ1 z.1 z.2.1) (fun z => [(1, vSl aunknown unknown cunknown), (2, .pointer (some pt)), (5, vSl z.2.2.1 z.2.1 z.2.2.2.1), (12, iV x), (13, iV z.1)]) (fun z => [Box pt (tF t at_ ct at_2 ct2 at_3 ct3), OwnSl 22 1 z.2.2.1 z.2.1.length z.2.2.2.1 z.2.2.2.2.1]) (fun z => z.2.2.2.2.2) (0, ([] : List (List Int)), none, 0, [], h) ⟨q1784, (show RepL h ([] : List (List Int)) [] from rfl), (FH.le_refl _)⟩ sb rfl (FH.le_refl _) ?_
 rintro ⟨t13, out, aout, cout, csout, h19⟩ ⟨q1784, q1429, q1430⟩
 have hF := q1785 t13 out q1784
 show J _ _ _ _ _ [(1, vSl aunknown unknown cunknown), (2, .pointer (some pt)), (5, vSl aout out cout), (12, iV x), (13, iV t13)] [Box pt (tF t at_ ct at_2 ct2 at_3 ct3), OwnSl 22 1 aout out.length cout csout] h19
 refine .seq (.region (.V (bi rfl rfl rfl) ?_))
 refine .nil (.seqN (.seq ?_))
 refine .cond rfl (fun q1788 => ?_) (fun q1788 => ?_)
 ·replace hF := hF.1 q1788
  refine .skip (.seqN (.seq (.block (.seq (.region (.V (mv rfl) ?_))))))
  refine .V (asg rfl) ?_
  refine .nil (.seqN (.seq (.region (.V (asg rfl) ?_))))
  refine .nil (.seqN (.seq (.seq (.region (.V (mv rfl) ?_)))))
  refine .V (ln rfl tS22.is) ?_
  refine .V (mv rfl) ?_
  refine .nil (.seqN (.block ?_))
  refine .nilSl 3 1 ?_
  refine .cast (A' := [OwnSl 3 1 none (([] : List Int).length) 0 (flL ([] : List Int)), Box pt (tF t at_ ct at_2 ct2 at_3 ct3), OwnSl 22 1 aout out.length cout csout]) rfl ?_
  refine .sel0 [1, 2, 0] (by decide) rfl ?_
  obtain ⟨I2, μ2, q2109, q2110⟩ := hF
  refine .loop' (σ := Int × List Int × Option Addr × Nat) (fun z => I2 z.1 z.2.1) (fun z => μ2 z.1 z.2.1) (fun z => [(1, vSl aunknown unknown cunknown), (2, .pointer (some pt)), (5, vSl aout out cout), (6, iV t13), (7, vSl z.2.2.1 z.2.1 z.2.2.2), (12, iV x), (13, iV t13), (16, vSl aunknown unknown cunknown), (17, iV ((unknown.length : Nat) : Int)), (18, iV z.1)]) (fun z => [Box pt (tF t at_ ct at_2 ct2 at_3 ct3), OwnSl 22 1 aout out.length cout csout, OwnSl 3 1 z.2.2.1 z.2.1.length z.2.2.2 (flL z.2.1)]) (fun _ => h19) (0, ([] : List Int), none, 0) q2109 sb rfl (FH.le_refl _) ?_
  rintro ⟨t18, add, aadd, cadd⟩ q2109
  have hF := q2110 t18 add q2109
  show J _ _ _ _ _ [(1, vSl aunknown unknown cunknown), (2, .pointer (some pt)), (5, vSl aout out cout), (6, iV t13), (7, vSl aadd add cadd), (12, iV x), (13, iV t13), (16, vSl aunknown unknown cunknown), (17, iV ((unknown.length : Nat) : Int)), (18, iV t18)] [Box pt (tF t at_ ct at_2 ct2 at_3 ct3), OwnSl 22 1 aout out.length cout csout, OwnSl 3 1 aadd add.length cadd (flL add)] h19
  refine .seq (.region (.V (bi rfl rfl rfl) ?_))
  refine .nil (.seqN (.seq ?_))
  refine .cond rfl (fun q2113 => ?_) (fun q2113 => ?_)
  ·replace hF := hF.1 q2113
   refine .skip (.seqN ?_)
   refine .share (σ := List Int × Option Addr × Nat) (fun z => F_worlds_J1 add t18 I2 μ2 z.1) (fun z => [(1, vSl aunknown unknown cunknown), (2, .pointer (some pt)), (5, vSl aout out cout), (6, iV t13), (7, vSl z.2.1 z.1 z.2.2), (12, iV x), (13, iV t13), (16, vSl aunknown unknown cunknown), (17, iV ((unknown.length : Nat) : Int)), (18, iV t18)]) (fun z => [Box pt (tF t at_ ct at_2 ct2 at_3 ct3), OwnSl 22 1 aout out.length cout csout, OwnSl 3 1 z.2.1 z.1.length z.2.2 (flL z.1)]) (fun _ => h19) ?_ (fun q2121 => ?_)
   ·rintro ⟨add3, aadd3, cadd3⟩ hF
    show J _ _ _ _ _ [(1, vSl aunknown unknown cunknown), (2, .pointer (some pt)), (5, vSl aout out cout), (6, iV t13), (7, vSl aadd3 add3 cadd3), (12, iV x), (13, iV t13), (16, vSl aunknown unknown cunknown), (17, iV ((unknown.length : Nat) : Int)), (18, iV t18)] [Box pt (tF t at_ ct at_2 ct2 at_3 ct3), OwnSl 22 1 aout out.length cout csout, OwnSl 3 1 aadd3 add3.length cadd3 (flL add3)] h19
    refine .region (.V (bi rfl rfl rfl) ?_)
    refine .V (mv rfl) ?_
    refine .nil ?_
    exact .RO (wr (t18 + 1), add3, aadd3, cadd3) hF.1 hF.2
   refine .block (.seq (.region (.V (mv rfl) ?_)))
   obtain ⟨q2122, hF⟩ := hF
   refine .V (ix rfl rfl tS22 (_q7.ne (by decide) (inb_pos q2122)) q2122) ?_
   refine .V (ld1 (v := iV (gt unknown t18)) rfl tO3 (cellH ((_q7.mono (q1430)).elemF q2122 (by decide) 0 _ rfl))) ?_
   refine .V (asg rfl) ?_
   refine .V (asg rfl) ?_
   refine .nil (.seqN (.seq (.region (.V (mv rfl) ?_))))
   refine .V (mv rfl) ?_
   obtain ⟨q2123, hF⟩ := hF
   refine .V (bsh rfl rfl q2123 rfl) ?_
   obtain ⟨x2, q2124⟩ : ∃ y_ : Int, y_ = (bits .and .i64 (Int.fdiv t13 (2 ^ (min ((t18 : Int)).toNat (IntKind.bits .i64)))) 1) := ⟨_, rfl⟩
   replace hF := hF x2 q2124
   refine .v (v := iV x2) (by rw [q2124]; exact bi rfl rfl rfl) rfl rfl rfl ?_
   refine .V (bi rfl rfl rfl) ?_
   refine .nil (.seqN ?_)
   refine .cond rfl (fun q2125 => ?_) (fun q2125 => ?_)
   ·replace hF := hF.1 q2125
    refine .region (.V (mv rfl) ?_)
    refine .V (mv rfl) ?_
    refine bs2 (cs := #[iV (gt unknown t18)]) (pv := [(0, iV (gt unknown t18))]) tS22 rfl rfl (by decide) (by decide) rfl rfl rfl (fun a _ => ?_)
    refine .cast (A' := [OwnSl 3 1 a (([(gt unknown t18)] : List Int).length) 1 (flL ([(gt unknown t18)] : List Int)), Box pt (tF t at_ ct at_2 ct2 at_3 ct3), OwnSl 22 1 aout out.length cout csout, OwnSl 3 1 aadd add.length cadd (flL add)]) rfl ?_
    obtain ⟨q2127, hF⟩ := hF
    have q2128 : add.length + ([(gt unknown t18)] : List Int).length = ((add ++ ([(gt unknown t18)] : List Int))).length := len_app rfl rfl
    refine app (k := 3) (news := flL ([(gt unknown t18)] : List Int)) (cs' := flL (add ++ ([(gt unknown t18)] : List Int))) (nm := ((add ++ ([(gt unknown t18)] : List Int))).length) tS22 rfl (by decide) rfl rfl rfl (by rw [flL_len]; rfl) (srcS (k := 0) rfl) (flL_one _) (room_of q2128 q2127).1 (room_of q2128 q2127).2 q2128 (flL_append _ _).symm rfl (fun a2 c => ?_)
    refine .cast (A' := [OwnSl 3 1 a (([(gt unknown t18)] : List Int).length) 1 (flL ([(gt unknown t18)] : List Int)), Box pt (tF t at_ ct at_2 ct2 at_3 ct3), OwnSl 22 1 aout out.length cout csout, OwnSl 3 1 a2 ((add ++ ([(gt unknown t18)] : List Int)).length) c (flL (add ++ ([(gt unknown t18)] : List Int)))]) rfl ?_
    refine .V (asg rfl) ?_
    refine .nil (.blkN ?_)
    refine .sel0 [1, 2, 3] (by decide) rfl ?_
    exact .US q2121 ((add ++ ([(gt unknown t18)] : List Int)), a2, c) hF
   replace hF := hF.2 q2125
   refine .skip (.blkN ?_)
   exact .US q2121 (add, aadd, cadd) hF
  replace hF := hF.2 q2113
  refine .exit (.seqX (.seqX (.blkX (.seqN (.region (.V (mv rfl) ?_))))))
  refine .V (fa rfl tF25_1) ?_
  refine .V (ld1 rfl tO22 (cellB (off := 1) (k := 0) rfl rfl)) ?_
  refine .V (mv rfl) ?_
  refine .V (mv rfl) ?_
  obtain ⟨q2129, hF⟩ := hF
  obtain ⟨r2, q2130⟩ : ∃ y_ : List Int, y_ = sp_update t.init add unknown := ⟨_, rfl⟩
  replace hF := hF r2 q2130
  refine clO (α := Option Addr × Nat) (V := fun z => vSl z.1 r2 z.2) (Ψ := fun z => True) (B := fun z => [OwnSl 3 1 z.1 r2.length z.2 (flL r2)]) Tryz.call83 rfl rfl (fun w S => (by rw [q2130]; obtain ⟨h_, hl_, hs_, hne_, hr_⟩ := look S (k := 2) rfl; exact (c_update hs_ t.init at_ ct (RSl.mono hl_ (_q1.mono (q1430))) _q2 add aadd cadd (RSl.of hr_) (look_len S (k := 2) rfl) unknown aunknown cunknown (RSl.mono hl_ (_q7.mono (q1430))) _q8 q2129).mono fun _ _ ⟨z, h0, h1, e1, e2, e3, e4⟩ => ⟨z, h0, h1, e1, e2, FH.le_trans hl_ e3, e4⟩)) rfl (fun z _ => ?_)
  obtain ⟨a3, c2⟩ := z
  refine .cast (A' := [OwnSl 3 1 a3 r2.length c2 (flL r2), Box pt (tF t at_ ct at_2 ct2 at_3 ct3), OwnSl 22 1 aout out.length cout csout, OwnSl 3 1 aadd add.length cadd (flL add)]) rfl ?_
  refine .freezeL (k := 0) rfl (fun h26 le26 q2132 q2131 => ?_)
  refine .cast (A' := [tru, Box pt (tF t at_ ct at_2 ct2 at_3 ct3), OwnSl 22 1 aout out.length cout csout, OwnSl 3 1 aadd add.length cadd (flL add)]) rfl ?_
  refine bs2 (cs := #[vSl a3 r2 c2]) (pv := [(0, vSl a3 r2 c2)]) tS35 rfl rfl (by decide) (by decide) rfl rfl rfl (fun a4 _ => ?_)
  refine .cast (A' := [OwnSl 22 1 a4 (([r2] : List (List Int)).length) 1 [vSl a3 r2 c2], tru, Box pt (tF t at_ ct at_2 ct2 at_3 ct3), OwnSl 22 1 aout out.length cout csout, OwnSl 3 1 aadd add.length cadd (flL add)]) rfl ?_
  obtain ⟨q2134, hF⟩ := hF
  have q2135 : out.length + ([r2] : List (List Int)).length = ((out ++ ([r2] : List (List Int)))).length := len_app rfl rfl
  have q2136 := RepL.append (RepL.mono (le26) q1429) (show RepL h26 ([r2] : List (List Int)) [.slice a3 r2.length c2] from ⟨[.slice a3 r2.length c2], _, rfl, ⟨a3, c2, rfl, (q2132), (RSl.of q2131)⟩, rfl⟩)
  refine app (k := 3) (news := [vSl a3 r2 c2]) (cs' := (csout ++ [vSl a3 r2 c2])) (nm := ((out ++ ([r2] : List (List Int)))).length) tS35 rfl (by decide) rfl rfl rfl (RepL.len (show RepL h26 ([r2] : List (List Int)) [vSl a3 r2 c2] from ⟨[vSl a3 r2 c2], _, rfl, ⟨a3, c2, rfl, (q2132), (RSl.of q2131)⟩, rfl⟩)) (srcS (k := 0) rfl) (RepL.one (show RepL h26 ([r2] : List (List Int)) [vSl a3 r2 c2] from ⟨[vSl a3 r2 c2], _, rfl, ⟨a3, c2, rfl, (q2132), (RSl.of q2131)⟩, rfl⟩)) (room_of q2135 q2134).1 (room_of q2135 q2134).2 q2135 rfl rfl (fun a5 c3 => ?_)
  refine .cast (A' := [OwnSl 22 1 a4 (([r2] : List (List Int)).length) 1 [vSl a3 r2 c2], tru, Box pt (tF t at_ ct at_2 ct2 at_3 ct3), OwnSl 22 1 a5 ((out ++ ([r2] : List (List Int))).length) c3 (csout ++ [vSl a3 r2 c2]), OwnSl 3 1 aadd add.length cadd (flL add)]) rfl ?_
  refine .V (asg rfl) ?_
  refine .nil (.blkN (.seqN (.region (.V (bi rfl rfl rfl) ?_))))
  refine .V (mv rfl) ?_
  refine .nil ?_
  refine .sel0 [2, 3] (by decide) rfl ?_
  exact .RO (wr (t13 + 1), (out ++ ([r2] : List (List Int))), a5, c3, (csout ++ [vSl a3 r2 c2]), h26) ⟨hF.1, q2136, (FH.le_trans (q1430) (le26))⟩ hF.2
 replace hF := hF.2 q1788
 refine .exit (.seqX (.seqX (.blkX (.seqN (.seq (.region (.V (mv rfl) ?_)))))))
 obtain ⟨q2137, hF⟩ := hF
 obtain ⟨r3, q2138⟩ : ∃ y_ : List (List Int), y_ = sp_normal out := ⟨_, rfl⟩
 replace hF := hF r3 q2138
 refine callX (k := 1) (v := vSl aout r3 cout) (X' := OwnPX h19 22 1 aout cout r3) rfl Tryz.call84 rfl rfl (fun w g hx sg hd hs' => ?_) rfl ?_
 ·rw [q2138]; exact c_normal hs' out aout cout q1429 (own_n (rfl).symm hx) sg hd q2137
 refine .openP (k := 1) rfl (fun cs q2139 => ?_)
 refine .cast (A' := [Box pt (tF t at_ ct at_2 ct2 at_3 ct3), OwnSl 22 1 aout r3.length cout cs]) rfl ?_
 refine .V (asg rfl) ?_
 refine .nil (.seqN ?_)
 refine .freezeL (k := 1) rfl (fun h27 le27 q2141 q2140 => ?_)
 refine .cast (A' := [Box pt (tF t at_ ct at_2 ct2 at_3 ct3), tru]) rfl ?_
 refine .ret ?_
 refine .res1 rfl (rvT rfl) (fun w' S => ⟨r3, (aout, cout), h27, hF, rfl, (FH.le_trans (q1430) (le27)), ⟨(show RSl h27 aout r3 from ⟨_, q2139.mono (le27), q2140⟩), (q2141)⟩, S.none⟩)
theorem c_worlds {h : FH} {w : World} (hs : Sub h w) (t : Task) (at_ : Option Addr) (ct : Nat) (_q1 : RSl h at_ t.init) (_q2 : t.init.length ≤ ct) (at_2 : Option Addr) (ct2 : Nat) (_q3 : RSl h at_2 t.goal) (_q4 : t.goal.length ≤ ct2) (at_3 : Option Addr) (ct3 : Nat) (_q5 : RSl h at_3 t.ops) (_q6 : t.ops.length ≤ ct3) (unknown : List Int) (aunknown : Option Addr) (cunknown : Nat) (_q7 : RSl h aunknown unknown) (_q8 : unknown.length ≤ cunknown) (hp : pre_worlds t unknown) : Calls Tryz.prog 48 #[.agg #[iV t.facts, .slice at_ t.init.length ct, .slice at_2 t.goal.length ct2, .slice at_3 t.ops.length ct3], .slice aunknown unknown.length cunknown] w fun e w' => ∃ (z : Option Addr × Nat) (h1 : FH), e = .returned (.slice z.1 (sp_worlds t unknown).length z.2) ∧ FH.le h h1 ∧ (RSl h1 z.1 (sp_worlds t unknown) ∧ (sp_worlds t unknown).length ≤ z.2) ∧ SH (Kp.all w h) h1 w' [] :=
 (w_worlds hs t at_ ct _q1 _q2 at_2 ct2 _q3 _q4 at_3 ct3 _q5 _q6 unknown aunknown cunknown _q7 _q8 (fun r => r = sp_worlds t unknown) (ok_worlds t unknown hp)).mono fun _ _ ⟨r, z, h1, hk, he, hl, hf, hS⟩ => by subst hk; exact ⟨z, h1, he, hl, hf, hS⟩
theorem w_bafter {h : FH} {w : World} (hs : Sub h w) (t : Task) (at_ : Option Addr) (ct : Nat) (_q1 : RSl h at_ t.init) (_q2 : t.init.length ≤ ct) (at_2 : Option Addr) (ct2 : Nat) (_q3 : RSl h at_2 t.goal) (_q4 : t.goal.length ≤ ct2) (at_3 : Option Addr) (ct3 : Nat) (_q5 : RSl h at_3 t.ops) (_q6 : t.ops.length ≤ ct3) (worlds : List (List Int)) (aworlds : Option Addr) (cworlds : Nat) (_q7 : RSl h aworlds worlds) (_q8 : worlds.length ≤ cworlds) (op : Int) (K : (List (List Int)) → Prop) (hF : F_bafter t worlds op K) : Calls Tryz.prog 60 #[.agg #[iV t.facts, .slice at_ t.init.length ct, .slice at_2 t.goal.length ct2, .slice at_3 t.ops.length ct3], .slice aworlds worlds.length cworlds, iV op] w fun e w' => ∃ (r : List (List Int)) (z : Option Addr × Nat) (h1 : FH), K r ∧ e = .returned (.slice z.1 r.length z.2) ∧ FH.le h h1 ∧ (RSl h1 z.1 r ∧ r.length ≤ z.2) ∧ SH (Kp.all w h) h1 w' [] := by
 refine enter (args := [.agg (tF t at_ ct at_2 ct2 at_3 ct3).toArray, vSl aworlds worlds cworlds, iV op]) Tryz.func60 rfl Tryz.ntmps60 rfl hs ?_
 refine .seq (.region ?_)
 refine bx (vs := (tF t at_ ct at_2 ct2 at_3 ct3)) rfl rfl rfl (fun pt => ?_)
 refine .V (asg rfl) ?_
 refine .nil (.seqN (.seq (.region (.V (asg rfl) ?_))))
 refine .nil (.seqN (.seq (.seq (.region (.V (mv rfl) ?_)))))
 refine .V (ln rfl tS35.is) ?_
 refine .V (mv rfl) ?_
 refine .nil (.seqN (.block ?_))
 refine .nilSl 22 1 ?_
 refine .cast (A' := [OwnSl 22 1 none (([] : List (List Int)).length) 0 [], Box pt (tF t at_ ct at_2 ct2 at_3 ct3)]) rfl ?_
 refine .sel0 [1, 0] (by decide) rfl ?_
 obtain ⟨I1, μ1, q222, q223⟩ := hF
 refine .loop' (σ := Int × List (List Int) × Option Addr × Nat × List Value × FH) (fun z => I1 z.1 z.2.1 ∧ RepL z.2.2.2.2.2 z.2.1 z.2.2.2.2.1 ∧ FH.le h z.2.2.2.2.2) (fun z => μ1 z.1 z.2.1) (fun z => [(2, iV op), (3, .pointer (some pt)), (7, vSl z.2.2.1 z.2.1 z.2.2.2.1), (10, vSl aworlds worlds cworlds), (11, iV ((worlds.length : Nat) : Int)), (12, iV z.1)]) (fun z => [Box pt (tF t at_ ct at_2 ct2 at_3 ct3), OwnSl 22 1 z.2.2.1 z.2.1.length z.2.2.2.1 z.2.2.2.2.1]) (fun z => z.2.2.2.2.2) (0, ([] : List (List Int)), none, 0, [], h) ⟨q222, (show RepL h ([] : List (List Int)) [] from rfl), (FH.le_refl _)⟩ sb rfl (FH.le_refl _) ?_
 rintro ⟨t12, out, aout, cout, csout, h19⟩ ⟨q222, q179, q180⟩
 have hF := q223 t12 out q222
 show J _ _ _ _ _ [(2, iV op), (3, .pointer (some pt)), (7, vSl aout out cout), (10, vSl aworlds worlds cworlds), (11, iV ((worlds.length : Nat) : Int)), (12, iV t12)] [Box pt (tF t at_ ct at_2 ct2 at_3 ct3), OwnSl 22 1 aout out.length cout csout] h19
 refine .seq (.region (.V (bi rfl rfl rfl) ?_))
 refine .nil (.seqN (.seq ?_))
 refine .cond rfl (fun q226 => ?_) (fun q226 => ?_)
 ·replace hF := hF.1 q226
  refine .skip (.seqN (.seq (.block (.seq (.region ?_)))))
  obtain ⟨q251, hF⟩ := hF
  refine .V (ix rfl rfl tS35 (_q7.ne (by decide) (inb_pos q251)) q251) ?_
  obtain ⟨_, ⟨a, c, rfl, q252, q253⟩, q254⟩ := _q7.elem q251
  refine .V (ld1 (v := .slice a ((gt worlds t12).length) c) rfl tO22 (cellH ((fun q => (q254 q).mono (q180)) (by decide) 0 _ rfl))) ?_
  refine .V (asg rfl) ?_
  refine .nil (.seqN (.region (.V (mv rfl) ?_)))
  refine .V (ldA (cs := (tF t at_ ct at_2 ct2 at_3 ct3)) rfl tA25 rfl (cellsB (off := 0) (k := 0) rfl (m := 4) rfl)) ?_
  refine .V (mv rfl) ?_
  refine .V (mv rfl) ?_
  obtain ⟨q255, hF⟩ := hF
  obtain ⟨r2, q256⟩ : ∃ y_ : List Int, y_ = sp_after t (gt worlds t12) op := ⟨_, rfl⟩
  replace hF := hF r2 q256
  refine clR (α := Option Addr × Nat) (Φ := fun h1 z => RSl h1 z.1 r2 ∧ r2.length ≤ z.2) (V := fun z => vSl z.1 r2 z.2) Tryz.call93 rfl rfl (fun w S => (by rw [q256]; exact c_next S.sub t at_ ct (_q1.mono (q180)) _q2 at_2 ct2 (_q3.mono (q180)) _q4 at_3 ct3 (_q5.mono (q180)) _q6 (gt worlds t12) a c (q253.mono (q180)) q252 op q255)) rfl (fun z h26 le26 hz => ?_)
  obtain ⟨a2, c2⟩ := z
  obtain ⟨q257, q258⟩ := hz
  refine bs2 (cs := #[vSl a2 r2 c2]) (pv := [(0, vSl a2 r2 c2)]) tS35 rfl rfl (by decide) (by decide) rfl rfl rfl (fun a3 _ => ?_)
  refine .cast (A' := [OwnSl 22 1 a3 (([r2] : List (List Int)).length) 1 [vSl a2 r2 c2], Box pt (tF t at_ ct at_2 ct2 at_3 ct3), OwnSl 22 1 aout out.length cout csout]) rfl ?_
  obtain ⟨q260, hF⟩ := hF
  have q261 : out.length + ([r2] : List (List Int)).length = ((out ++ ([r2] : List (List Int)))).length := len_app rfl rfl
  have q262 := RepL.append (RepL.mono (le26) q179) (show RepL h26 ([r2] : List (List Int)) [.slice a2 r2.length c2] from ⟨[.slice a2 r2.length c2], _, rfl, ⟨a2, c2, rfl, q258, q257⟩, rfl⟩)
  refine app (k := 2) (news := [vSl a2 r2 c2]) (cs' := (csout ++ [vSl a2 r2 c2])) (nm := ((out ++ ([r2] : List (List Int)))).length) tS35 rfl (by decide) rfl rfl rfl (RepL.len (show RepL h26 ([r2] : List (List Int)) [vSl a2 r2 c2] from ⟨[vSl a2 r2 c2], _, rfl, ⟨a2, c2, rfl, q258, q257⟩, rfl⟩)) (srcS (k := 0) rfl) (RepL.one (show RepL h26 ([r2] : List (List Int)) [vSl a2 r2 c2] from ⟨[vSl a2 r2 c2], _, rfl, ⟨a2, c2, rfl, q258, q257⟩, rfl⟩)) (room_of q261 q260).1 (room_of q261 q260).2 q261 rfl rfl (fun a4 c3 => ?_)
  refine .cast (A' := [OwnSl 22 1 a3 (([r2] : List (List Int)).length) 1 [vSl a2 r2 c2], Box pt (tF t at_ ct at_2 ct2 at_3 ct3), OwnSl 22 1 a4 ((out ++ ([r2] : List (List Int))).length) c3 (csout ++ [vSl a2 r2 c2])]) rfl ?_
  refine .V (asg rfl) ?_
  refine .nil (.blkN (.seqN (.region (.V (bi rfl rfl rfl) ?_))))
  refine .V (mv rfl) ?_
  refine .nil ?_
  refine .sel0 [1, 2] (by decide) rfl ?_
  exact .RO (wr (t12 + 1), (out ++ ([r2] : List (List Int))), a4, c3, (csout ++ [vSl a2 r2 c2]), h26) ⟨hF.1, q262, (FH.le_trans (q180) (le26))⟩ hF.2
 replace hF := hF.2 q226
 refine .exit (.seqX (.seqX (.blkX (.seqN (.seq (.region (.V (mv rfl) ?_)))))))
 obtain ⟨q263, hF⟩ := hF
 obtain ⟨r3, q264⟩ : ∃ y_ : List (List Int), y_ = sp_normal out := ⟨_, rfl⟩
 replace hF := hF r3 q264
 refine callX (k := 1) (v := vSl aout r3 cout) (X' := OwnPX h19 22 1 aout cout r3) rfl Tryz.call84 rfl rfl (fun w g hx sg hd hs' => ?_) rfl ?_
 ·rw [q264]; exact c_normal hs' out aout cout q179 (own_n (rfl).symm hx) sg hd q263
 refine .openP (k := 1) rfl (fun cs q265 => ?_)
 refine .cast (A' := [Box pt (tF t at_ ct at_2 ct2 at_3 ct3), OwnSl 22 1 aout r3.length cout cs]) rfl ?_
 refine .V (asg rfl) ?_
 refine .nil (.seqN ?_)
 refine .freezeL (k := 1) rfl (fun h27 le27 q267 q266 => ?_)
 refine .cast (A' := [Box pt (tF t at_ ct at_2 ct2 at_3 ct3), tru]) rfl ?_
 refine .ret ?_
 refine .res1 rfl (rvT rfl) (fun w' S => ⟨r3, (aout, cout), h27, hF, rfl, (FH.le_trans (q180) (le27)), ⟨(show RSl h27 aout r3 from ⟨_, q265.mono (le27), q266⟩), (q267)⟩, S.none⟩)
theorem c_bafter {h : FH} {w : World} (hs : Sub h w) (t : Task) (at_ : Option Addr) (ct : Nat) (_q1 : RSl h at_ t.init) (_q2 : t.init.length ≤ ct) (at_2 : Option Addr) (ct2 : Nat) (_q3 : RSl h at_2 t.goal) (_q4 : t.goal.length ≤ ct2) (at_3 : Option Addr) (ct3 : Nat) (_q5 : RSl h at_3 t.ops) (_q6 : t.ops.length ≤ ct3) (worlds : List (List Int)) (aworlds : Option Addr) (cworlds : Nat) (_q7 : RSl h aworlds worlds) (_q8 : worlds.length ≤ cworlds) (op : Int) (hp : pre_bafter t worlds op) : Calls Tryz.prog 60 #[.agg #[iV t.facts, .slice at_ t.init.length ct, .slice at_2 t.goal.length ct2, .slice at_3 t.ops.length ct3], .slice aworlds worlds.length cworlds, iV op] w fun e w' => ∃ (z : Option Addr × Nat) (h1 : FH), e = .returned (.slice z.1 (sp_bafter t worlds op).length z.2) ∧ FH.le h h1 ∧ (RSl h1 z.1 (sp_bafter t worlds op) ∧ (sp_bafter t worlds op).length ≤ z.2) ∧ SH (Kp.all w h) h1 w' [] :=
 (w_bafter hs t at_ ct _q1 _q2 at_2 ct2 _q3 _q4 at_3 ct3 _q5 _q6 worlds aworlds cworlds _q7 _q8 op (fun r => r = sp_bafter t worlds op) (ok_bafter t worlds op hp)).mono fun _ _ ⟨r, z, h1, hk, he, hl, hf, hS⟩ => by subst hk; exact ⟨z, h1, he, hl, hf, hS⟩
end Go.Proofs.YtojoehfldbimpaaGreatDoor.Pl

namespace Go.Proofs.YtojoehfldbimpaaGreatDoor.Pl
open Go Go.RowKit
end Go.Proofs.YtojoehfldbimpaaGreatDoor.Pl

namespace Go.Proofs.YtojoehfldbimpaaGreatDoor.Pl
open Go Go.RowKit
theorem w_stateOk {h : FH} {w : World} (hs : Sub h w) (t : Task) (at_ : Option Addr) (ct : Nat) (_q1 : RSl h at_ t.init) (_q2 : t.init.length ≤ ct) (at_2 : Option Addr) (ct2 : Nat) (_q3 : RSl h at_2 t.goal) (_q4 : t.goal.length ≤ ct2) (at_3 : Option Addr) (ct3 : Nat) (_q5 : RSl h at_3 t.ops) (_q6 : t.ops.length ≤ ct3) (s_ : List Int) (as_ : Option Addr) (cs_ : Nat) (_q7 : RSl h as_ s_) (_q8 : s_.length ≤ cs_) (K : Bool → Prop) (hF : F_stateOk t s_ K) : Calls Tryz.prog 42 #[.agg #[iV t.facts, .slice at_ t.init.length ct, .slice at_2 t.goal.length ct2, .slice at_3 t.ops.length ct3], .slice as_ s_.length cs_] w fun e w' => ∃ r : Bool, K r ∧ e = .returned (.bool r) ∧ Below w.heap.size w w' := by
 refine enter (args := [.agg (tF t at_ ct at_2 ct2 at_3 ct3).toArray, vSl as_ s_ cs_]) Tryz.func42 rfl Tryz.ntmps42 rfl hs ?_
 refine .seq (.region ?_)
 refine bx (vs := (tF t at_ ct at_2 ct2 at_3 ct3)) rfl rfl rfl (fun pt => ?_)
 refine .V (asg rfl) ?_
 refine .nil (.seqN (.seq (.region (.V (mv rfl) ?_))))
 refine .V (fa rfl tF25_0) ?_
 refine .V (ld1 rfl tO3 (cellB (off := 0) (k := 0) rfl rfl)) ?_
 obtain ⟨q9, hF⟩ := hF
 obtain ⟨r2, q10⟩ : ∃ y_ : Bool, y_ = sp_isSet s_ t.facts := ⟨_, rfl⟩
 replace hF := hF r2 q10
 refine .C (cl (v := .bool r2) Tryz.call26 rfl rfl (fun w S => (by rw [q10]; exact c_rIsSet S.sub s_ as_ cs_ _q7 _q8 t.facts q9))) ?_
 refine .V (asg rfl) ?_
 refine .nil (.seqN (.ret ?_))
 refine .res1 rfl (rvT rfl) (fun w' S => ⟨r2, hF, rfl, S.below⟩)
theorem c_stateOk {h : FH} {w : World} (hs : Sub h w) (t : Task) (at_ : Option Addr) (ct : Nat) (_q1 : RSl h at_ t.init) (_q2 : t.init.length ≤ ct) (at_2 : Option Addr) (ct2 : Nat) (_q3 : RSl h at_2 t.goal) (_q4 : t.goal.length ≤ ct2) (at_3 : Option Addr) (ct3 : Nat) (_q5 : RSl h at_3 t.ops) (_q6 : t.ops.length ≤ ct3) (s_ : List Int) (as_ : Option Addr) (cs_ : Nat) (_q7 : RSl h as_ s_) (_q8 : s_.length ≤ cs_) (hp : pre_stateOk t s_) : Calls Tryz.prog 42 #[.agg #[iV t.facts, .slice at_ t.init.length ct, .slice at_2 t.goal.length ct2, .slice at_3 t.ops.length ct3], .slice as_ s_.length cs_] w fun e w' => e = .returned (.bool (sp_stateOk t s_)) ∧ Below w.heap.size w w' :=
 (w_stateOk hs t at_ ct _q1 _q2 at_2 ct2 _q3 _q4 at_3 ct3 _q5 _q6 s_ as_ cs_ _q7 _q8 (fun r => r = sp_stateOk t s_) (ok_stateOk t s_ hp)).mono fun _ _ ⟨_, hk, he, hb⟩ => ⟨by rw [he, hk], hb⟩
theorem w_able {h : FH} {w : World} (hs : Sub h w) (K : Task → Prop) (hF : F_able  K) : Calls Tryz.prog 54 #[] w fun e w' => ∃ (r : Task) (z : Option Addr × Nat × Option Addr × Nat × Option Addr × Nat) (h1 : FH), K r ∧ e = .returned (.agg #[iV r.facts, .slice z.1 r.init.length z.2.1, .slice z.2.2.1 r.goal.length z.2.2.2.1, .slice z.2.2.2.2.1 r.ops.length z.2.2.2.2.2]) ∧ FH.le h h1 ∧ (RSl h1 z.1 r.init ∧ r.init.length ≤ z.2.1 ∧ RSl h1 z.2.2.1 r.goal ∧ r.goal.length ≤ z.2.2.2.1 ∧ RSl h1 z.2.2.2.2.1 r.ops ∧ r.ops.length ≤ z.2.2.2.2.2) ∧ SH (Kp.all w h) h1 w' [] := by
 refine enter (args := []) Tryz.func54 rfl Tryz.ntmps54 rfl hs ?_
 refine .seq (.region ?_)
 refine al tZ25 rfl (fun pv => ?_)
 refine .nil (.seqN (.seq (.region ?_)))
 refine bs2 (cs := #[iV 0]) (pv := [(0, iV 0)]) tS22 rfl rfl (by decide) (by decide) rfl rfl rfl (fun a _ => ?_)
 refine .cast (A' := [OwnSl 3 1 a (([0] : List Int).length) 1 (flL ([0] : List Int)), Box pv [iV 0, .slice none 0 0, .slice none 0 0, .slice none 0 0]]) rfl ?_
 refine bs2 (cs := #[iV 0]) (pv := [(0, iV 0)]) tS22 rfl rfl (by decide) (by decide) rfl rfl rfl (fun a2 _ => ?_)
 refine .cast (A' := [OwnSl 3 1 a2 (([0] : List Int).length) 1 (flL ([0] : List Int)), OwnSl 3 1 a (([0] : List Int).length) 1 (flL ([0] : List Int)), Box pv [iV 0, .slice none 0 0, .slice none 0 0, .slice none 0 0]]) rfl ?_
 refine .V (bld (cs := #[.slice none 0 0, .slice a2 (([0] : List Int).length) 1, .slice none 0 0, iV 1]) (pv := [(1, .slice a2 (([0] : List Int).length) 1), (3, iV 1)]) tB54 rfl rfl) ?_
 refine .freezeL (k := 0) rfl (fun h1 le1 q4 q3 => ?_)
 refine .cast (A' := [tru, OwnSl 3 1 a (([0] : List Int).length) 1 (flL ([0] : List Int)), Box pv [iV 0, .slice none 0 0, .slice none 0 0, .slice none 0 0]]) rfl ?_
 refine bs2 (cs := #[.slice none 0 0, .slice a2 (([0] : List Int).length) 1, .slice none 0 0, iV 1]) (pv := [(0, .agg #[.slice none 0 0, .slice a2 (([0] : List Int).length) 1, .slice none 0 0, iV 1])]) tS23 rfl rfl (by decide) (by decide) rfl rfl rfl (fun a3 _ => ?_)
 refine .cast (A' := [OwnSl 54 4 a3 (([(⟨[], ([0] : List Int), [], 1⟩ : Operator)] : List Operator).length) 1 [.slice none 0 0, .slice a2 (([0] : List Int).length) 1, .slice none 0 0, iV 1], tru, OwnSl 3 1 a (([0] : List Int).length) 1 (flL ([0] : List Int)), Box pv [iV 0, .slice none 0 0, .slice none 0 0, .slice none 0 0]]) rfl ?_
 refine .V (bld (cs := #[iV 1, .slice none 0 0, .slice a (([0] : List Int).length) 1, .slice a3 (([(⟨[], ([0] : List Int), [], 1⟩ : Operator)] : List Operator).length) 1]) (pv := [(0, iV 1), (2, .slice a (([0] : List Int).length) 1), (3, .slice a3 (([(⟨[], ([0] : List Int), [], 1⟩ : Operator)] : List Operator).length) 1)]) tB25 rfl rfl) ?_
 refine st (p := pv) (off := 0) (k := 3) (vs := [iV 1, .slice none 0 0, .slice a (([0] : List Int).length) 1, .slice a3 (([(⟨[], ([0] : List Int), [], 1⟩ : Operator)] : List Operator).length) 1]) rfl rfl rfl (fun w => (tA25 w).2) rfl rfl rfl rfl ?_
 refine .cast (A' := [OwnSl 54 4 a3 (([(⟨[], ([0] : List Int), [], 1⟩ : Operator)] : List Operator).length) 1 [.slice none 0 0, .slice a2 (([0] : List Int).length) 1, .slice none 0 0, iV 1], tru, OwnSl 3 1 a (([0] : List Int).length) 1 (flL ([0] : List Int)), Box pv [iV 1, .slice none 0 0, .slice a (([0] : List Int).length) 1, .slice a3 (([(⟨[], ([0] : List Int), [], 1⟩ : Operator)] : List Operator).length) 1]]) rfl ?_
 refine .nil (.seqN ?_)
 refine .freezeL (k := 0) rfl (fun h2 le2 q7 q6 => ?_)
 refine .cast (A' := [tru, tru, OwnSl 3 1 a (([0] : List Int).length) 1 (flL ([0] : List Int)), Box pv [iV 1, .slice none 0 0, .slice a (([0] : List Int).length) 1, .slice a3 (([(⟨[], ([0] : List Int), [], 1⟩ : Operator)] : List Operator).length) 1]]) rfl ?_
 refine .freezeL (k := 2) rfl (fun h3 le3 q9 q8 => ?_)
 refine .cast (A' := [tru, tru, tru, Box pv [iV 1, .slice none 0 0, .slice a (([0] : List Int).length) 1, .slice a3 (([(⟨[], ([0] : List Int), [], 1⟩ : Operator)] : List Operator).length) 1]]) rfl ?_
 refine .ret ?_
 refine .res1 rfl (rvC rfl tA25 (k := 3) rfl rfl) (fun w' S => ⟨(⟨1, [], ([0] : List Int), ([(⟨[], ([0] : List Int), [], 1⟩ : Operator)] : List Operator)⟩ : Task), (none, 0, a, 1, a3, 1), h3, hF, rfl, (FH.le_trans (FH.le_trans (le1) (le2)) (le3)), ⟨RSl.nil_, (Nat.le_refl 0), (RSl.of q8), (q9), ((show RSl h2 a3 ([(⟨[], ([0] : List Int), [], 1⟩ : Operator)] : List Operator) from ⟨_, (show RepL h1 ([(⟨[], ([0] : List Int), [], 1⟩ : Operator)] : List Operator) [.slice none 0 0, .slice a2 (([0] : List Int).length) 1, .slice none 0 0, iV 1] from ⟨[.slice none 0 0, .slice a2 (([0] : List Int).length) 1, .slice none 0 0, iV 1], _, rfl, ⟨none, 0, a2, 1, none, 0, rfl, ⟨Nat.le_refl 0, RSl.nil_⟩, ⟨(q4), (RSl.of q3)⟩, ⟨Nat.le_refl 0, RSl.nil_⟩⟩, rfl⟩).mono (le2), q6⟩).mono (le3)), (q7)⟩, S.none⟩)
theorem c_able {h : FH} {w : World} (hs : Sub h w) : Calls Tryz.prog 54 #[] w fun e w' => ∃ (z : Option Addr × Nat × Option Addr × Nat × Option Addr × Nat) (h1 : FH), e = .returned (.agg #[iV (sp_able).facts, .slice z.1 (sp_able).init.length z.2.1, .slice z.2.2.1 (sp_able).goal.length z.2.2.2.1, .slice z.2.2.2.2.1 (sp_able).ops.length z.2.2.2.2.2]) ∧ FH.le h h1 ∧ (RSl h1 z.1 (sp_able).init ∧ (sp_able).init.length ≤ z.2.1 ∧ RSl h1 z.2.2.1 (sp_able).goal ∧ (sp_able).goal.length ≤ z.2.2.2.1 ∧ RSl h1 z.2.2.2.2.1 (sp_able).ops ∧ (sp_able).ops.length ≤ z.2.2.2.2.2) ∧ SH (Kp.all w h) h1 w' [] :=
 (w_able hs  (fun r => r = sp_able) (ok_able )).mono fun _ _ ⟨r, z, h1, hk, he, hl, hf, hS⟩ => by subst hk; exact ⟨z, h1, he, hl, hf, hS⟩
theorem w_succ {h : FH} {w : World} (hs : Sub h w) (t : Task) (at_ : Option Addr) (ct : Nat) (_q1 : RSl h at_ t.init) (_q2 : t.init.length ≤ ct) (at_2 : Option Addr) (ct2 : Nat) (_q3 : RSl h at_2 t.goal) (_q4 : t.goal.length ≤ ct2) (at_3 : Option Addr) (ct3 : Nat) (_q5 : RSl h at_3 t.ops) (_q6 : t.ops.length ≤ ct3) (worlds : List (List Int)) (aworlds : Option Addr) (cworlds : Nat) (_q7 : RSl h aworlds worlds) (_q8 : worlds.length ≤ cworlds) (K : Unit → Prop) (hF : F_succ t worlds K) : Calls Tryz.prog 81 #[.agg #[iV t.facts, .slice at_ t.init.length ct, .slice at_2 t.goal.length ct2, .slice at_3 t.ops.length ct3], .slice aworlds worlds.length cworlds] w fun e w' => ∃ (r : Unit) (z : Addr × Addr) (h1 : FH), K r ∧ e = .returned (.func (.func 103) #[] #[.pointer (some z.1), .pointer (some z.2)]) ∧ FH.le h h1 ∧ (CellsAt h1 z.1 [iV t.facts, .slice at_ t.init.length ct, .slice at_2 t.goal.length ct2, .slice at_3 t.ops.length ct3] ∧ CellsAt h1 z.2 [.slice aworlds worlds.length cworlds]) ∧ SH (Kp.all w h) h1 w' [] := by
 refine enter (args := [.agg (tF t at_ ct at_2 ct2 at_3 ct3).toArray, vSl aworlds worlds cworlds]) Tryz.func81 rfl Tryz.ntmps81 rfl hs ?_
 refine .seq (.region ?_)
 refine bx (vs := (tF t at_ ct at_2 ct2 at_3 ct3)) rfl rfl rfl (fun pt => ?_)
 refine bx (vs := [vSl aworlds worlds cworlds]) rfl rfl rfl (fun pworlds => ?_)
 refine .V (asg rfl) ?_
 refine .nil (.seqN (.seq (.region (.V (mkf (vf := []) (vc := [.pointer (some pt), .pointer (some pworlds)]) rfl rfl) ?_))))
 refine .V (asg rfl) ?_
 refine .nil (.seqN ?_)
 refine .freezeBx (k := 1) rfl (fun h1 le1 q9 => ?_)
 refine .cast (A' := [Box pworlds [vSl aworlds worlds cworlds], tru]) rfl ?_
 refine .freezeBx (k := 0) rfl (fun h2 le2 q10 => ?_)
 refine .cast (A' := [tru, tru]) rfl ?_
 refine .ret ?_
 refine .res1 rfl (rvT rfl) (fun w' S => ⟨(), (pt, pworlds), h2, hF, rfl, (FH.le_trans (le1) (le2)), ⟨(CellsAt.mono (le2) q9), (CellsAt.mono (FH.le_refl _) q10)⟩, S.none⟩)
theorem c_succ {h : FH} {w : World} (hs : Sub h w) (t : Task) (at_ : Option Addr) (ct : Nat) (_q1 : RSl h at_ t.init) (_q2 : t.init.length ≤ ct) (at_2 : Option Addr) (ct2 : Nat) (_q3 : RSl h at_2 t.goal) (_q4 : t.goal.length ≤ ct2) (at_3 : Option Addr) (ct3 : Nat) (_q5 : RSl h at_3 t.ops) (_q6 : t.ops.length ≤ ct3) (worlds : List (List Int)) (aworlds : Option Addr) (cworlds : Nat) (_q7 : RSl h aworlds worlds) (_q8 : worlds.length ≤ cworlds) : Calls Tryz.prog 81 #[.agg #[iV t.facts, .slice at_ t.init.length ct, .slice at_2 t.goal.length ct2, .slice at_3 t.ops.length ct3], .slice aworlds worlds.length cworlds] w fun e w' => ∃ (z : Addr × Addr) (h1 : FH), e = .returned (.func (.func 103) #[] #[.pointer (some z.1), .pointer (some z.2)]) ∧ FH.le h h1 ∧ (CellsAt h1 z.1 [iV t.facts, .slice at_ t.init.length ct, .slice at_2 t.goal.length ct2, .slice at_3 t.ops.length ct3] ∧ CellsAt h1 z.2 [.slice aworlds worlds.length cworlds]) ∧ SH (Kp.all w h) h1 w' [] :=
 (w_succ hs t at_ ct _q1 _q2 at_2 ct2 _q3 _q4 at_3 ct3 _q5 _q6 worlds aworlds cworlds _q7 _q8 (fun r => r = sp_succ t worlds) (ok_succ t worlds)).mono fun _ _ ⟨r, z, h1, hk, he, hl, hf, hS⟩ => by subst hk; exact ⟨z, h1, he, hl, hf, hS⟩
theorem w_small1 {h : FH} {w : World} (hs : Sub h w) (x : List (List Int)) (ax : Option Addr) (cx : Nat) (_q1 : RSl h ax x) (_q2 : x.length ≤ cx) (K : Bool → Prop) (hF : F_small1 x K) : Calls Tryz.prog 82 #[.slice ax x.length cx] w fun e w' => ∃ r : Bool, K r ∧ e = .returned (.bool r) ∧ Below w.heap.size w w' := by
 refine enter (args := [vSl ax x cx]) Tryz.func82 rfl Tryz.ntmps82 rfl hs ?_
 refine .seq (.region (.V (asg rfl) ?_))
 refine .nil (.seqN (.seq (.region (.V (asg rfl) ?_))))
 refine .nil (.seqN (.ret ?_))
 refine .res1 rfl (rvT rfl) (fun w' S => ⟨false, hF, rfl, S.below⟩)
theorem c_small1 {h : FH} {w : World} (hs : Sub h w) (x : List (List Int)) (ax : Option Addr) (cx : Nat) (_q1 : RSl h ax x) (_q2 : x.length ≤ cx) : Calls Tryz.prog 82 #[.slice ax x.length cx] w fun e w' => e = .returned (.bool (sp_small1 x)) ∧ Below w.heap.size w w' :=
 (w_small1 hs x ax cx _q1 _q2 (fun r => r = sp_small1 x) (ok_small1 x)).mono fun _ _ ⟨_, hk, he, hb⟩ => ⟨by rw [he, hk], hb⟩
end Go.Proofs.YtojoehfldbimpaaGreatDoor.Pl

namespace Go.Proofs.YtojoehfldbimpaaGreatDoor.Pl
open Go Go.RowKit
theorem w_ccheck {h : FH} {w : World} (hs : Sub h w) (t : Task) (at_ : Option Addr) (ct : Nat) (_q1 : RSl h at_ t.init) (_q2 : t.init.length ≤ ct) (at_2 : Option Addr) (ct2 : Nat) (_q3 : RSl h at_2 t.goal) (_q4 : t.goal.length ≤ ct2) (at_3 : Option Addr) (ct3 : Nat) (_q5 : RSl h at_3 t.ops) (_q6 : t.ops.length ≤ ct3) (unknown : List Int) (aunknown : Option Addr) (cunknown : Nat) (_q7 : RSl h aunknown unknown) (_q8 : unknown.length ≤ cunknown) (sensors : List Int) (asensors : Option Addr) (csensors : Nat) (_q9 : RSl h asensors sensors) (_q10 : sensors.length ≤ csensors) (K : Fault → Prop) (hF : F_ccheck t unknown sensors K) : Calls Tryz.prog 70 #[.agg #[iV t.facts, .slice at_ t.init.length ct, .slice at_2 t.goal.length ct2, .slice at_3 t.ops.length ct3], .slice aunknown unknown.length cunknown, .slice asensors sensors.length csensors] w fun e w' => ∃ r : Fault, K r ∧ e = .returned (.agg #[iV r.code, iV r.index]) ∧ Below w.heap.size w w' := by
 refine enter (args := [.agg (tF t at_ ct at_2 ct2 at_3 ct3).toArray, vSl aunknown unknown cunknown, vSl asensors sensors csensors]) Tryz.func70 rfl Tryz.ntmps70 rfl hs ?_
 refine .seq (.region ?_)
 refine bx (vs := (tF t at_ ct at_2 ct2 at_3 ct3)) rfl rfl rfl (fun pt => ?_)
 refine al tZ27 rfl (fun pv => ?_)
 refine .nil (.seqN (.seq (.seq (.region (.V (ldA (cs := (tF t at_ ct at_2 ct2 at_3 ct3)) rfl tA25 rfl (cellsB (off := 0) (k := 1) rfl (m := 4) rfl)) ?_)))))
 refine .V (mv rfl) ?_
 obtain ⟨r2, q11⟩ : ∃ y_ : Fault, y_ = sp_unknownFault t unknown := ⟨_, rfl⟩
 replace hF := hF r2 q11
 refine .C (cl (v := .agg #[iV r2.code, iV r2.index]) Tryz.call45 rfl rfl (fun w S => (by rw [q11]; exact c_unknownFault S.sub t at_ ct _q1 _q2 at_2 ct2 _q3 _q4 at_3 ct3 _q5 _q6 unknown aunknown cunknown _q7 _q8 ))) ?_
 refine al tZ27 rfl (fun pf => ?_)
 refine st (p := pf) (off := 0) (k := 0) (vs := [iV r2.code, iV r2.index]) rfl rfl rfl (fun w => (tA27 w).2) rfl rfl rfl rfl ?_
 refine .cast (A' := [Box pf [iV r2.code, iV r2.index], Box pv [iV 0, iV 0], Box pt (tF t at_ ct at_2 ct2 at_3 ct3)]) rfl ?_
 refine .nil (.seqN (.seq (.region (.V (ldA (cs := [iV r2.code, iV r2.index]) rfl tA27 rfl (cellsB (off := 0) (k := 0) rfl (m := 2) rfl)) ?_))))
 refine .V (bld (cs := #[iV 0, iV 0]) (pv := []) tB27 rfl rfl) ?_
 refine .V (ne2 tE27 rfl rfl) ?_
 refine .nil (.seqN ?_)
 refine .cond rfl (fun q13 => ?_) (fun q13 => ?_)
 ·replace hF := hF.1 q13
  refine .seq (.region (.V (ldA (cs := [iV r2.code, iV r2.index]) rfl tA27 rfl (cellsB (off := 0) (k := 0) rfl (m := 2) rfl)) ?_))
  refine st (p := pv) (off := 0) (k := 1) (vs := [iV r2.code, iV r2.index]) rfl rfl rfl (fun w => (tA27 w).2) rfl rfl rfl rfl ?_
  refine .cast (A' := [Box pf [iV r2.code, iV r2.index], Box pv [iV r2.code, iV r2.index], Box pt (tF t at_ ct at_2 ct2 at_3 ct3)]) rfl ?_
  refine .nil (.seqN (.ret (.seqR ?_)))
  refine .res1 rfl (rvC rfl tA27 (k := 1) rfl rfl) (fun w' S => ⟨r2, hF, rfl, S.below⟩)
 replace hF := hF.2 q13
 refine .skip (.seqN (.seq (.seq (.region (.V (mv rfl) ?_)))))
 refine .V (fa rfl tF25_0) ?_
 refine .V (ld1 rfl tO3 (cellB (off := 0) (k := 2) rfl rfl)) ?_
 obtain ⟨q14, hF⟩ := hF
 obtain ⟨r3, q15⟩ : ∃ y_ : Bool, y_ = sp_isSet sensors t.facts := ⟨_, rfl⟩
 replace hF := hF r3 q15
 refine .C (cl (v := .bool r3) Tryz.call61 rfl rfl (fun w S => (by rw [q15]; exact c_isSet S.sub sensors asensors csensors _q9 _q10 t.facts q14))) ?_
 refine .V (nt rfl) ?_
 refine .nil (.seqN ?_)
 refine .cond rfl (fun q17 => ?_) (fun q17 => ?_)
 ·replace hF := hF.1 q17
  refine .seq (.region (.V (bld (cs := #[iV 5, iV (-9)]) (pv := [(0, iV 5), (1, iV (-9))]) tB27 rfl rfl) ?_))
  refine st (p := pv) (off := 0) (k := 1) (vs := [iV 5, iV (-9)]) rfl rfl rfl (fun w => (tA27 w).2) rfl rfl rfl rfl ?_
  refine .cast (A' := [Box pf [iV r2.code, iV r2.index], Box pv [iV 5, iV (-9)], Box pt (tF t at_ ct at_2 ct2 at_3 ct3)]) rfl ?_
  refine .nil (.seqN (.ret (.seqR ?_)))
  refine .res1 rfl (rvC rfl tA27 (k := 1) rfl rfl) (fun w' S => ⟨(⟨5, (-9)⟩ : Fault), hF, rfl, S.below⟩)
 replace hF := hF.2 q17
 refine .skip (.seqN (.seq (.region (.V (bld (cs := #[iV 0, iV 0]) (pv := []) tB27 rfl rfl) ?_))))
 refine st (p := pv) (off := 0) (k := 1) (vs := [iV 0, iV 0]) rfl rfl rfl (fun w => (tA27 w).2) rfl rfl rfl rfl ?_
 refine .cast (A' := [Box pf [iV r2.code, iV r2.index], Box pv [iV 0, iV 0], Box pt (tF t at_ ct at_2 ct2 at_3 ct3)]) rfl ?_
 refine .nil (.seqN (.ret ?_))
 refine .res1 rfl (rvC rfl tA27 (k := 1) rfl rfl) (fun w' S => ⟨(⟨0, 0⟩ : Fault), hF, rfl, S.below⟩)
theorem c_ccheck {h : FH} {w : World} (hs : Sub h w) (t : Task) (at_ : Option Addr) (ct : Nat) (_q1 : RSl h at_ t.init) (_q2 : t.init.length ≤ ct) (at_2 : Option Addr) (ct2 : Nat) (_q3 : RSl h at_2 t.goal) (_q4 : t.goal.length ≤ ct2) (at_3 : Option Addr) (ct3 : Nat) (_q5 : RSl h at_3 t.ops) (_q6 : t.ops.length ≤ ct3) (unknown : List Int) (aunknown : Option Addr) (cunknown : Nat) (_q7 : RSl h aunknown unknown) (_q8 : unknown.length ≤ cunknown) (sensors : List Int) (asensors : Option Addr) (csensors : Nat) (_q9 : RSl h asensors sensors) (_q10 : sensors.length ≤ csensors) : Calls Tryz.prog 70 #[.agg #[iV t.facts, .slice at_ t.init.length ct, .slice at_2 t.goal.length ct2, .slice at_3 t.ops.length ct3], .slice aunknown unknown.length cunknown, .slice asensors sensors.length csensors] w fun e w' => e = .returned (.agg #[iV (sp_ccheck t unknown sensors).code, iV (sp_ccheck t unknown sensors).index]) ∧ Below w.heap.size w w' :=
 (w_ccheck hs t at_ ct _q1 _q2 at_2 ct2 _q3 _q4 at_3 ct3 _q5 _q6 unknown aunknown cunknown _q7 _q8 sensors asensors csensors _q9 _q10 (fun r => r = sp_ccheck t unknown sensors) (ok_ccheck t unknown sensors)).mono fun _ _ ⟨_, hk, he, hb⟩ => ⟨by rw [he, hk], hb⟩
set_option maxHeartbeats 8000000 in
theorem w_nodeCode {h : FH} {w : World} (hs : Sub h w) (t : Task) (at_ : Option Addr) (ct : Nat) (_q1 : RSl h at_ t.init) (_q2 : t.init.length ≤ ct) (at_2 : Option Addr) (ct2 : Nat) (_q3 : RSl h at_2 t.goal) (_q4 : t.goal.length ≤ ct2) (at_3 : Option Addr) (ct3 : Nat) (_q5 : RSl h at_3 t.ops) (_q6 : t.ops.length ≤ ct3) (sensors : List Int) (asensors : Option Addr) (csensors : Nat) (_q7 : RSl h asensors sensors) (_q8 : sensors.length ≤ csensors) (n_ : TNode) (i : Int) (K : Int → Prop) (hF : F_nodeCode t sensors n_ i K) : Calls Tryz.prog 77 #[.agg #[iV t.facts, .slice at_ t.init.length ct, .slice at_2 t.goal.length ct2, .slice at_3 t.ops.length ct3], .slice asensors sensors.length csensors, .agg #[iV n_.kind, iV n_.op, iV n_.fact, iV n_.yes, iV n_.no], iV i] w fun e w' => ∃ r : Int, K r ∧ e = .returned (iV r) ∧ Below w.heap.size w w' := by
 refine enter (args := [.agg (tF t at_ ct at_2 ct2 at_3 ct3).toArray, vSl asensors sensors csensors, .agg #[iV n_.kind, iV n_.op, iV n_.fact, iV n_.yes, iV n_.no], iV i]) Tryz.func77 rfl Tryz.ntmps77 rfl hs ?_
 refine .seq (.region ?_)
 refine bx (vs := (tF t at_ ct at_2 ct2 at_3 ct3)) rfl rfl rfl (fun pt => ?_)
 refine bx (vs := [iV n_.kind, iV n_.op, iV n_.fact, iV n_.yes, iV n_.no]) rfl rfl rfl (fun pn => ?_)
 refine .V (asg rfl) ?_
 refine .nil (.seqN (.seq (.region (.V (fa rfl tF102_0) ?_))))
 refine .V (ld1 rfl tO3 (cellB (off := 0) (k := 0) rfl rfl)) ?_
 refine .V (bld (cs := #[iV n_.kind, iV 0, iV 0, iV 0, iV 0]) (pv := [(0, iV n_.kind)]) tB102 rfl rfl) ?_
 refine al tZ102 rfl (fun pwant => ?_)
 refine st (p := pwant) (off := 0) (k := 0) (vs := [iV n_.kind, iV 0, iV 0, iV 0, iV 0]) rfl rfl rfl (fun w => (tA102 w).2) rfl rfl rfl rfl ?_
 refine .cast (A' := [Box pwant [iV n_.kind, iV 0, iV 0, iV 0, iV 0], Box pn [iV n_.kind, iV n_.op, iV n_.fact, iV n_.yes, iV n_.no], Box pt (tF t at_ ct at_2 ct2 at_3 ct3)]) rfl ?_
 refine .nil (.seqN (.seq (.seq (.region (.V (fa rfl tF102_0) ?_)))))
 refine .V (ld1 rfl tO3 (cellB (off := 0) (k := 1) rfl rfl)) ?_
 refine .nil (.seqN ?_)
 refine .shareT (σ := Int × Int × Int × Int) (fun z => F_nodeCode_J1 n_ i K z.1 z.2.1 z.2.2.1 z.2.2.2) (fun _ => [(3, iV i), (6, .pointer (some pn)), (9, .pointer (some pwant))]) (fun z => [Box pn [iV n_.kind, iV n_.op, iV n_.fact, iV n_.yes, iV n_.no], Box pwant [iV n_.kind, iV z.1, iV z.2.1, iV z.2.2.1, iV z.2.2.2]]) (fun _ => h) ?_ (fun q21 => ?_)
 ·rintro ⟨x, x2, x3, x4⟩ hF
  show J _ _ _ _ _ [(3, iV i), (6, .pointer (some pn)), (9, .pointer (some pwant))] [Box pn [iV n_.kind, iV n_.op, iV n_.fact, iV n_.yes, iV n_.no], Box pwant [iV n_.kind, iV x, iV x2, iV x3, iV x4]] h
  refine .seq ?_
  refine .share (σ := Bool) (fun z => F_nodeCode_J2 K z) (fun z => [(81, .bool z)]) (fun _ => []) (fun _ => h) ?_ (fun q26 => ?_)
  ·rintro t81 hF
   show J _ _ _ _ _ [(81, .bool t81)] [] h
   refine .cond rfl (fun q28 => ?_) (fun q28 => ?_)
   ·replace hF := hF.1 q28
    refine .seq (.region (.V (asg rfl) ?_))
    refine .nil (.seqN (.ret (.seqR ?_)))
    refine .res1 rfl (rvT rfl) (fun w' S => ⟨5, hF, rfl, S.below⟩)
   replace hF := hF.2 q28
   refine .skip (.seqN (.seq (.region (.V (asg rfl) ?_))))
   refine .nil (.seqN (.ret ?_))
   refine .res1 rfl (rvT rfl) (fun w' S => ⟨0, hF, rfl, S.below⟩)
  refine .region (.V (ldA (cs := [iV n_.kind, iV n_.op, iV n_.fact, iV n_.yes, iV n_.no]) rfl tA102 rfl (cellsB (off := 0) (k := 0) rfl (m := 5) rfl)) ?_)
  refine .V (ldA (cs := [iV n_.kind, iV x, iV x2, iV x3, iV x4]) rfl tA102 rfl (cellsB (off := 0) (k := 1) rfl (m := 5) rfl)) ?_
  obtain ⟨x5, q29⟩ : ∃ y_ : Bool, y_ = (!((((n_.kind == n_.kind) && (n_.op == x)) && ((n_.fact == x2) && (n_.yes == x3))) && (n_.no == x4))) := ⟨_, rfl⟩
  replace hF := hF x5 q29
  refine .v (v := .bool x5) (by rw [q29]; exact ne5 tE102 rfl rfl) rfl rfl rfl ?_
  refine .V (mv rfl) ?_
  rcases Bool.eq_false_or_eq_true (x5) with q30 | q30
  ·replace hF := hF.1 q30
   refine .GS q30 ?_
   refine .GS q30 ?_
   refine .GS q30 ?_
   refine .GS q30 ?_
   refine .GU ?_
   refine .GU ?_
   refine .GU ?_
   refine .GU ?_
   refine .GU ?_
   refine .GU ?_
   refine .GS q30 ?_
   refine .V (pkT rfl q30 rfl) ?_
   refine .V (mv rfl) ?_
   refine .gS rfl rfl rfl rfl rfl rfl ?_
   refine .gS rfl rfl rfl rfl rfl rfl ?_
   refine .gS rfl rfl rfl rfl rfl rfl ?_
   refine .gS rfl rfl rfl rfl rfl rfl ?_
   refine .GU ?_
   refine .GU ?_
   refine .GU ?_
   refine .GU ?_
   refine .GU ?_
   refine .GU ?_
   refine .GU ?_
   refine .gS rfl rfl rfl rfl rfl rfl ?_
   refine .V (pkT rfl rfl rfl) ?_
   refine .nil ?_
   refine .sel0 [] (by decide) rfl ?_
   exact .US q26 true hF
  replace hF := hF.2 q30
  refine .GV (fa rfl tF102_0) q30 ?_
  refine .GV (ld1 rfl tO3 (cellB (off := 0) (k := 0) rfl rfl)) q30 ?_
  refine .GV (bi rfl rfl rfl) q30 ?_
  refine .GV (mv rfl) q30 ?_
  rcases Bool.eq_false_or_eq_true (n_.kind != 1) with q31 | q31
  ·replace hF := hF.1 q31
   refine .GV (fa rfl tF102_3) q31 ?_
   refine .GV (ld1 rfl tO3 (cellB (off := 3) (k := 0) rfl rfl)) q31 ?_
   refine .GV (fa rfl tF102_4) q31 ?_
   refine .GV (ld1 rfl tO3 (cellB (off := 4) (k := 0) rfl rfl)) q31 ?_
   refine .GV (mn rfl rfl) q31 ?_
   refine .GV (bi rfl rfl rfl) q31 ?_
   refine .GV (pkT rfl q31 rfl) q30 ?_
   refine .V (pkF rfl q30 rfl) ?_
   refine .V (mv rfl) ?_
   rcases Bool.eq_false_or_eq_true (decide ((if n_.no < n_.yes then n_.no else n_.yes) < 0)) with q32 | q32
   ·replace hF := hF.1 q32
    refine .GS q32 ?_
    refine .GS q32 ?_
    refine .GS q32 ?_
    refine .GS q32 ?_
    refine .GU ?_
    refine .GU ?_
    refine .GU ?_
    refine .GU ?_
    refine .GU ?_
    refine .GU ?_
    refine .GU ?_
    refine .GS q32 ?_
    refine .V (pkT rfl q32 rfl) ?_
    refine .nil ?_
    refine .sel0 [] (by decide) rfl ?_
    exact .US q26 true hF
   replace hF := hF.2 q32
   refine .GV (fa rfl tF102_0) q32 ?_
   refine .GV (ld1 rfl tO3 (cellB (off := 0) (k := 0) rfl rfl)) q32 ?_
   refine .GV (bi rfl rfl rfl) q32 ?_
   refine .GV (mv rfl) q32 ?_
   refine .GV (fa rfl tF102_3) q31 ?_
   refine .GV (ld1 rfl tO3 (cellB (off := 3) (k := 0) rfl rfl)) q31 ?_
   refine .GV (fa rfl tF102_4) q31 ?_
   refine .GV (ld1 rfl tO3 (cellB (off := 4) (k := 0) rfl rfl)) q31 ?_
   refine .GV (mx rfl rfl) q31 ?_
   refine .GV (mv rfl) q31 ?_
   refine .GV (bi rfl rfl rfl) q31 ?_
   refine .GV (pkT rfl q31 rfl) q32 ?_
   refine .V (pkF rfl q32 rfl) ?_
   refine .nil ?_
   refine .sel0 [] (by decide) rfl ?_
   exact .US q26 (decide (i ≤ (if n_.yes < n_.no then n_.no else n_.yes))) hF
  replace hF := hF.2 q31
  refine .GS q31 ?_
  refine .GS q31 ?_
  refine .GS q31 ?_
  refine .GS q31 ?_
  refine .GS q31 ?_
  refine .GS q31 ?_
  refine .GV (pkF rfl q31 rfl) q30 ?_
  refine .V (pkF rfl q30 rfl) ?_
  refine .V (mv rfl) ?_
  refine .gv (fa rfl tF102_0) rfl rfl rfl rfl rfl rfl ?_
  refine .gv (ld1 rfl tO3 (cellB (off := 0) (k := 0) rfl rfl)) rfl rfl rfl rfl rfl rfl ?_
  refine .gv (bi rfl rfl rfl) rfl rfl rfl rfl rfl rfl ?_
  refine .gv (mv rfl) rfl rfl rfl rfl rfl rfl ?_
  refine .GS q31 ?_
  refine .GS q31 ?_
  refine .GS q31 ?_
  refine .GS q31 ?_
  refine .GS q31 ?_
  refine .GS q31 ?_
  refine .GS q31 ?_
  refine .gv (pkF rfl q31 rfl) rfl rfl rfl rfl rfl rfl ?_
  refine .V (pkF rfl rfl rfl) ?_
  refine .nil ?_
  refine .sel0 [] (by decide) rfl ?_
  exact .US q26 false hF
 refine .block (.seq (.region (.V (bi rfl rfl rfl) ?_)))
 refine .V (asg rfl) ?_
 refine .nil (.seqN ?_)
 refine .cond rfl (fun q33 => ?_) (fun q33 => ?_)
 ·replace hF := hF.1 q33
  refine .skip (.blkN ?_)
  refine .sel0 [1, 0] (by decide) rfl ?_
  exact .US q21 (0, 0, 0, 0) hF
 replace hF := hF.2 q33
 refine .seq (.region (.V (bi rfl rfl rfl) ?_))
 refine .V (asg rfl) ?_
 refine .nil (.seqN ?_)
 refine .cond rfl (fun q34 => ?_) (fun q34 => ?_)
 ·replace hF := hF.1 q34
  refine .seq ?_
  refine .share (σ := Bool) (fun z => F_nodeCode_J3 n_ i K z) (fun z => [(3, iV i), (6, .pointer (some pn)), (9, .pointer (some pwant)), (29, .bool z)]) (fun _ => [Box pn [iV n_.kind, iV n_.op, iV n_.fact, iV n_.yes, iV n_.no], Box pwant [iV n_.kind, iV 0, iV 0, iV 0, iV 0]]) (fun _ => h) ?_ (fun q36 => ?_)
  ·rintro t29 hF
   show J _ _ _ _ _ [(3, iV i), (6, .pointer (some pn)), (9, .pointer (some pwant)), (29, .bool t29)] [Box pn [iV n_.kind, iV n_.op, iV n_.fact, iV n_.yes, iV n_.no], Box pwant [iV n_.kind, iV 0, iV 0, iV 0, iV 0]] h
   refine .cond rfl (fun q38 => ?_) (fun q38 => ?_)
   ·replace hF := hF.1 q38
    refine .seq (.region (.V (asg rfl) ?_))
    refine .nil (.seqN (.ret (.seqR (.blkR (.seqR ?_)))))
    refine .res1 rfl (rvT rfl) (fun w' S => ⟨3, hF, rfl, S.below⟩)
   replace hF := hF.2 q38
   refine .skip (.seqN ?_)
   refine .openA (s0 := [(3, iV i), (6, .pointer (some pn)), (9, .pointer (some pwant))]) [0, 1, 2, 3, 4] [(0, .pointer (some (pn.add 1))), (1, iV n_.op), (2, .pointer (some (pn.add 3))), (3, iV n_.yes), (4, .pointer (some (pwant.add 1)))] (by kernel_rfl) sb [3, 6, 9] [] rfl (by kernel_rfl) ?_
   refine .step [5] 5 rfl (by kernel_rfl) (by kernel_rfl) (.v [] rfl rfl rfl rfl rfl rfl (fun _ => fa rfl tF102_1) (.v [(30, .pointer (some (pn.add 1)))] rfl rfl rfl rfl rfl rfl (fun _ => ld1 rfl tO3 (cellB (off := 1) (k := 0) rfl rfl)) (.v [] rfl rfl rfl rfl rfl rfl (fun _ => fa rfl tF102_3) (.v [(32, .pointer (some (pn.add 3)))] rfl rfl rfl rfl rfl rfl (fun _ => ld1 rfl tO3 (cellB (off := 3) (k := 0) rfl rfl)) (.v [(30, .pointer (some (pn.add 1))), (31, iV n_.op)] rfl rfl rfl rfl rfl rfl (fun _ => fa rfl tF102_1) (.nil)))))) (.cons [(34, .pointer (some (pwant.add 1))), (31, iV n_.op), (30, .pointer (some (pn.add 1))), (31, iV n_.op)] rfl rfl (fun sL hL => ?_) (.nil))
   refine st (p := pwant) (off := 1) (k := 1) (vs := [iV n_.op]) rfl rfl rfl (fun w => (tO3 w).2) rfl rfl rfl rfl ?_
   refine .cast (A' := [Box pn [iV n_.kind, iV n_.op, iV n_.fact, iV n_.yes, iV n_.no], Box pwant [iV n_.kind, iV n_.op, iV 0, iV 0, iV 0]]) rfl ?_
   refine .nil ?_
   refine .jaN (M := [4, 1, 0]) (C' := [2, 3, 6]) (pre := [(6, .pointer (some (pwant.add 3)))]) [3, 6, 9] hL rfl rfl rfl rfl rfl (by kernel_rfl) ?_
   refine .step [7] 7 rfl (by kernel_rfl) (by kernel_rfl) (.v [] rfl rfl rfl rfl rfl rfl (fun _ => fa rfl tF102_3) (.v [(32, .pointer (some (pn.add 3)))] rfl rfl rfl rfl rfl rfl (fun _ => ld1 rfl tO3 (cellB (off := 3) (k := 0) rfl rfl)) (.v [(30, .pointer (some (pn.add 1))), (31, iV n_.op), (32, .pointer (some (pn.add 3))), (33, iV n_.yes), (34, .pointer (some (pwant.add 1)))] rfl rfl rfl rfl rfl rfl (fun _ => fa rfl tF102_3) (.nil)))) (.cons [(35, .pointer (some (pwant.add 3))), (33, iV n_.yes), (30, .pointer (some (pn.add 1))), (31, iV n_.op), (32, .pointer (some (pn.add 3))), (33, iV n_.yes), (34, .pointer (some (pwant.add 1)))] rfl rfl (fun sL hL => ?_) (.nil))
   refine st (p := pwant) (off := 3) (k := 1) (vs := [iV n_.yes]) rfl rfl rfl (fun w => (tO3 w).2) rfl rfl rfl rfl ?_
   refine .cast (A' := [Box pn [iV n_.kind, iV n_.op, iV n_.fact, iV n_.yes, iV n_.no], Box pwant [iV n_.kind, iV n_.op, iV 0, iV n_.yes, iV 0]]) rfl ?_
   refine .nil ?_
   refine .jaN (M := [6, 3, 2]) (C' := []) (pre := []) [3, 6, 9] hL rfl rfl rfl rfl rfl (by kernel_rfl) ?_
   refine .last [(30, .pointer (some (pn.add 1))), (31, iV n_.op), (32, .pointer (some (pn.add 3))), (33, iV n_.yes), (34, .pointer (some (pwant.add 1))), (35, .pointer (some (pwant.add 3)))] rfl (by kernel_rfl) (.nil) rfl ?_
   refine .blkN ?_
   exact .US q21 (n_.op, 0, n_.yes, 0) hF
  refine .region (.V (fa rfl tF102_1) ?_)
  refine .V (ld1 rfl tO3 (cellB (off := 1) (k := 1) rfl rfl)) ?_
  refine .V (bi rfl rfl rfl) ?_
  refine .V (mv rfl) ?_
  rcases Bool.eq_false_or_eq_true (decide (n_.op < 0)) with q39 | q39
  ·replace hF := hF.1 q39
   refine .GS q39 ?_
   refine .GS q39 ?_
   refine .GS q39 ?_
   refine .GS q39 ?_
   refine .GS q39 ?_
   refine .GS q39 ?_
   refine .V (pkT rfl q39 rfl) ?_
   refine .nil ?_
   refine .sel0 [1, 0] (by decide) rfl ?_
   exact .US q36 true hF
  replace hF := hF.2 q39
  refine .GV (fa rfl tF102_1) q39 ?_
  refine .GV (ld1 rfl tO3 (cellB (off := 1) (k := 1) rfl rfl)) q39 ?_
  refine .GV (fa rfl tF25_3) q39 ?_
  refine .GV (ld1 rfl tO23 (cellB (off := 3) (k := 2) rfl rfl)) q39 ?_
  refine .GV (ln rfl tS23.is) q39 ?_
  refine .GV (bi rfl rfl rfl) q39 ?_
  refine .V (pkF rfl q39 rfl) ?_
  refine .nil ?_
  refine .sel0 [1, 0] (by decide) rfl ?_
  exact .US q36 (decide (((t.ops.length : Nat) : Int) ≤ n_.op)) hF
 replace hF := hF.2 q34
 refine .seq (.region (.V (bi rfl rfl rfl) ?_))
 refine .V (asg rfl) ?_
 refine .nil (.seqN ?_)
 refine .cond rfl (fun q40 => ?_) (fun q40 => ?_)
 ·replace hF := hF.1 q40
  refine .seq (.seq (.region (.V (mv rfl) ?_)))
  refine .V (fa rfl tF102_2) ?_
  refine .V (ld1 rfl tO3 (cellB (off := 2) (k := 1) rfl rfl)) ?_
  obtain ⟨q41, hF⟩ := hF
  obtain ⟨r2, q42⟩ : ∃ y_ : Bool, y_ = sp_contains sensors n_.fact := ⟨_, rfl⟩
  replace hF := hF r2 q42
  refine .C (cl (v := .bool r2) Tryz.call101 rfl rfl (fun w S => (by rw [q42]; exact c_contains S.sub sensors asensors csensors _q7 _q8 n_.fact q41))) ?_
  refine .V (nt rfl) ?_
  refine .nil (.seqN ?_)
  refine .cond rfl (fun q44 => ?_) (fun q44 => ?_)
  ·replace hF := hF.1 q44
   refine .seq (.region (.V (asg rfl) ?_))
   refine .nil (.seqN (.ret (.seqR (.blkR (.seqR ?_)))))
   refine .res1 rfl (rvT rfl) (fun w' S => ⟨6, hF, rfl, S.below⟩)
  replace hF := hF.2 q44
  refine .skip (.seqN ?_)
  refine .openA (s0 := [(3, iV i), (6, .pointer (some pn)), (9, .pointer (some pwant))]) [0, 1, 2, 3, 4, 5, 6] [(0, .pointer (some (pn.add 2))), (1, iV n_.fact), (2, .pointer (some (pn.add 3))), (3, iV n_.yes), (4, .pointer (some (pn.add 4))), (5, iV n_.no), (6, .pointer (some (pwant.add 2)))] (by kernel_rfl) sb [3, 6, 9] [] rfl (by kernel_rfl) ?_
  refine .step [7] 7 rfl (by kernel_rfl) (by kernel_rfl) (.v [] rfl rfl rfl rfl rfl rfl (fun _ => fa rfl tF102_2) (.v [(43, .pointer (some (pn.add 2)))] rfl rfl rfl rfl rfl rfl (fun _ => ld1 rfl tO3 (cellB (off := 2) (k := 1) rfl rfl)) (.v [] rfl rfl rfl rfl rfl rfl (fun _ => fa rfl tF102_3) (.v [(45, .pointer (some (pn.add 3)))] rfl rfl rfl rfl rfl rfl (fun _ => ld1 rfl tO3 (cellB (off := 3) (k := 1) rfl rfl)) (.v [] rfl rfl rfl rfl rfl rfl (fun _ => fa rfl tF102_4) (.v [(47, .pointer (some (pn.add 4)))] rfl rfl rfl rfl rfl rfl (fun _ => ld1 rfl tO3 (cellB (off := 4) (k := 1) rfl rfl)) (.v [(43, .pointer (some (pn.add 2))), (44, iV n_.fact)] rfl rfl rfl rfl rfl rfl (fun _ => fa rfl tF102_2) (.nil)))))))) (.cons [(49, .pointer (some (pwant.add 2))), (44, iV n_.fact), (43, .pointer (some (pn.add 2))), (44, iV n_.fact)] rfl rfl (fun sL hL => ?_) (.nil))
  refine st (p := pwant) (off := 2) (k := 0) (vs := [iV n_.fact]) rfl rfl rfl (fun w => (tO3 w).2) rfl rfl rfl rfl ?_
  refine .cast (A' := [Box pwant [iV n_.kind, iV 0, iV n_.fact, iV 0, iV 0], Box pn [iV n_.kind, iV n_.op, iV n_.fact, iV n_.yes, iV n_.no], Box pt (tF t at_ ct at_2 ct2 at_3 ct3)]) rfl ?_
  refine .nil ?_
  refine .jaN (M := [6, 1, 0]) (C' := [2, 3, 4, 5, 8]) (pre := [(8, .pointer (some (pwant.add 3)))]) [3, 6, 9] hL rfl rfl rfl rfl rfl (by kernel_rfl) ?_
  refine .step [9] 9 rfl (by kernel_rfl) (by kernel_rfl) (.v [] rfl rfl rfl rfl rfl rfl (fun _ => fa rfl tF102_3) (.v [(45, .pointer (some (pn.add 3)))] rfl rfl rfl rfl rfl rfl (fun _ => ld1 rfl tO3 (cellB (off := 3) (k := 1) rfl rfl)) (.v [] rfl rfl rfl rfl rfl rfl (fun _ => fa rfl tF102_4) (.v [(47, .pointer (some (pn.add 4)))] rfl rfl rfl rfl rfl rfl (fun _ => ld1 rfl tO3 (cellB (off := 4) (k := 1) rfl rfl)) (.v [(43, .pointer (some (pn.add 2))), (44, iV n_.fact), (45, .pointer (some (pn.add 3))), (46, iV n_.yes), (49, .pointer (some (pwant.add 2)))] rfl rfl rfl rfl rfl rfl (fun _ => fa rfl tF102_3) (.nil)))))) (.cons [(50, .pointer (some (pwant.add 3))), (46, iV n_.yes), (43, .pointer (some (pn.add 2))), (44, iV n_.fact), (45, .pointer (some (pn.add 3))), (46, iV n_.yes), (49, .pointer (some (pwant.add 2)))] rfl rfl (fun sL hL => ?_) (.nil))
  refine st (p := pwant) (off := 3) (k := 0) (vs := [iV n_.yes]) rfl rfl rfl (fun w => (tO3 w).2) rfl rfl rfl rfl ?_
  refine .cast (A' := [Box pwant [iV n_.kind, iV 0, iV n_.fact, iV n_.yes, iV 0], Box pn [iV n_.kind, iV n_.op, iV n_.fact, iV n_.yes, iV n_.no], Box pt (tF t at_ ct at_2 ct2 at_3 ct3)]) rfl ?_
  refine .nil ?_
  refine .jaN (M := [8, 3, 2]) (C' := [4, 5, 10]) (pre := [(10, .pointer (some (pwant.add 4)))]) [3, 6, 9] hL rfl rfl rfl rfl rfl (by kernel_rfl) ?_
  refine .step [11] 11 rfl (by kernel_rfl) (by kernel_rfl) (.v [] rfl rfl rfl rfl rfl rfl (fun _ => fa rfl tF102_4) (.v [(47, .pointer (some (pn.add 4)))] rfl rfl rfl rfl rfl rfl (fun _ => ld1 rfl tO3 (cellB (off := 4) (k := 1) rfl rfl)) (.v [(43, .pointer (some (pn.add 2))), (44, iV n_.fact), (45, .pointer (some (pn.add 3))), (46, iV n_.yes), (47, .pointer (some (pn.add 4))), (48, iV n_.no), (49, .pointer (some (pwant.add 2))), (50, .pointer (some (pwant.add 3)))] rfl rfl rfl rfl rfl rfl (fun _ => fa rfl tF102_4) (.nil)))) (.cons [(51, .pointer (some (pwant.add 4))), (48, iV n_.no), (43, .pointer (some (pn.add 2))), (44, iV n_.fact), (45, .pointer (some (pn.add 3))), (46, iV n_.yes), (47, .pointer (some (pn.add 4))), (48, iV n_.no), (49, .pointer (some (pwant.add 2))), (50, .pointer (some (pwant.add 3)))] rfl rfl (fun sL hL => ?_) (.nil))
  refine st (p := pwant) (off := 4) (k := 0) (vs := [iV n_.no]) rfl rfl rfl (fun w => (tO3 w).2) rfl rfl rfl rfl ?_
  refine .cast (A' := [Box pwant [iV n_.kind, iV 0, iV n_.fact, iV n_.yes, iV n_.no], Box pn [iV n_.kind, iV n_.op, iV n_.fact, iV n_.yes, iV n_.no], Box pt (tF t at_ ct at_2 ct2 at_3 ct3)]) rfl ?_
  refine .nil ?_
  refine .jaN (M := [10, 5, 4]) (C' := []) (pre := []) [3, 6, 9] hL rfl rfl rfl rfl rfl (by kernel_rfl) ?_
  refine .last [(43, .pointer (some (pn.add 2))), (44, iV n_.fact), (45, .pointer (some (pn.add 3))), (46, iV n_.yes), (47, .pointer (some (pn.add 4))), (48, iV n_.no), (49, .pointer (some (pwant.add 2))), (50, .pointer (some (pwant.add 3))), (51, .pointer (some (pwant.add 4)))] rfl (by kernel_rfl) (.nil) rfl ?_
  refine .blkN ?_
  refine .sel0 [1, 0] (by decide) rfl ?_
  exact .US q21 (0, n_.fact, n_.yes, n_.no) hF
 replace hF := hF.2 q40
 refine .seq (.region (.V (asg rfl) ?_))
 refine .nil (.seqN (.ret (.blkR (.seqR ?_))))
 refine .res1 rfl (rvT rfl) (fun w' S => ⟨4, hF, rfl, S.below⟩)
theorem c_nodeCode {h : FH} {w : World} (hs : Sub h w) (t : Task) (at_ : Option Addr) (ct : Nat) (_q1 : RSl h at_ t.init) (_q2 : t.init.length ≤ ct) (at_2 : Option Addr) (ct2 : Nat) (_q3 : RSl h at_2 t.goal) (_q4 : t.goal.length ≤ ct2) (at_3 : Option Addr) (ct3 : Nat) (_q5 : RSl h at_3 t.ops) (_q6 : t.ops.length ≤ ct3) (sensors : List Int) (asensors : Option Addr) (csensors : Nat) (_q7 : RSl h asensors sensors) (_q8 : sensors.length ≤ csensors) (n_ : TNode) (i : Int) (hp : pre_nodeCode t sensors n_ i) : Calls Tryz.prog 77 #[.agg #[iV t.facts, .slice at_ t.init.length ct, .slice at_2 t.goal.length ct2, .slice at_3 t.ops.length ct3], .slice asensors sensors.length csensors, .agg #[iV n_.kind, iV n_.op, iV n_.fact, iV n_.yes, iV n_.no], iV i] w fun e w' => e = .returned (iV (sp_nodeCode t sensors n_ i)) ∧ Below w.heap.size w w' :=
 (w_nodeCode hs t at_ ct _q1 _q2 at_2 ct2 _q3 _q4 at_3 ct3 _q5 _q6 sensors asensors csensors _q7 _q8 n_ i (fun r => r = sp_nodeCode t sensors n_ i) (ok_nodeCode t sensors n_ i hp)).mono fun _ _ ⟨_, hk, he, hb⟩ => ⟨by rw [he, hk], hb⟩
set_option maxHeartbeats 8000000 in
theorem w_cvalidate {h : FH} {w : World} (hs : Sub h w) (t : Task) (at_ : Option Addr) (ct : Nat) (_q1 : RSl h at_ t.init) (_q2 : t.init.length ≤ ct) (at_2 : Option Addr) (ct2 : Nat) (_q3 : RSl h at_2 t.goal) (_q4 : t.goal.length ≤ ct2) (at_3 : Option Addr) (ct3 : Nat) (_q5 : RSl h at_3 t.ops) (_q6 : t.ops.length ≤ ct3) (sensors : List Int) (asensors : Option Addr) (csensors : Nat) (_q7 : RSl h asensors sensors) (_q8 : sensors.length ≤ csensors) (tree : List TNode) (atree : Option Addr) (ctree : Nat) (_q9 : RSl h atree tree) (_q10 : tree.length ≤ ctree) (K : Fault → Prop) (hF : F_cvalidate t sensors tree K) : Calls Tryz.prog 40 #[.agg #[iV t.facts, .slice at_ t.init.length ct, .slice at_2 t.goal.length ct2, .slice at_3 t.ops.length ct3], .slice asensors sensors.length csensors, .slice atree tree.length ctree] w fun e w' => ∃ r : Fault, K r ∧ e = .returned (.agg #[iV r.code, iV r.index]) ∧ Below w.heap.size w w' := by
 refine enter (args := [.agg (tF t at_ ct at_2 ct2 at_3 ct3).toArray, vSl asensors sensors csensors, vSl atree tree ctree]) Tryz.func40 rfl Tryz.ntmps40 rfl hs ?_
 refine .seq (.region ?_)
 refine bx (vs := (tF t at_ ct at_2 ct2 at_3 ct3)) rfl rfl rfl (fun pt => ?_)
 refine al tZ27 rfl (fun pv => ?_)
 refine .nil (.seqN (.seq (.seq (.region (.V (ldA (cs := (tF t at_ ct at_2 ct2 at_3 ct3)) rfl tA25 rfl (cellsB (off := 0) (k := 1) rfl (m := 4) rfl)) ?_)))))
 refine .V (mv rfl) ?_
 obtain ⟨r2, q11⟩ : ∃ y_ : Fault, y_ = sp_ccheck t [] sensors := ⟨_, rfl⟩
 replace hF := hF r2 q11
 refine .C (cl (v := .agg #[iV r2.code, iV r2.index]) Tryz.call70 rfl rfl (fun w S => (by rw [q11]; exact c_ccheck S.sub t at_ ct _q1 _q2 at_2 ct2 _q3 _q4 at_3 ct3 _q5 _q6 [] none 0 RSl.nil_ (Nat.le_refl 0) sensors asensors csensors _q7 _q8 ))) ?_
 refine al tZ27 rfl (fun pf => ?_)
 refine st (p := pf) (off := 0) (k := 0) (vs := [iV r2.code, iV r2.index]) rfl rfl rfl (fun w => (tA27 w).2) rfl rfl rfl rfl ?_
 refine .cast (A' := [Box pf [iV r2.code, iV r2.index], Box pv [iV 0, iV 0], Box pt (tF t at_ ct at_2 ct2 at_3 ct3)]) rfl ?_
 refine .nil (.seqN (.seq (.region (.V (ldA (cs := [iV r2.code, iV r2.index]) rfl tA27 rfl (cellsB (off := 0) (k := 0) rfl (m := 2) rfl)) ?_))))
 refine .V (bld (cs := #[iV 0, iV 0]) (pv := []) tB27 rfl rfl) ?_
 refine .V (ne2 tE27 rfl rfl) ?_
 refine .nil (.seqN ?_)
 refine .cond rfl (fun q13 => ?_) (fun q13 => ?_)
 ·replace hF := hF.1 q13
  refine .seq (.region (.V (ldA (cs := [iV r2.code, iV r2.index]) rfl tA27 rfl (cellsB (off := 0) (k := 0) rfl (m := 2) rfl)) ?_))
  refine st (p := pv) (off := 0) (k := 1) (vs := [iV r2.code, iV r2.index]) rfl rfl rfl (fun w => (tA27 w).2) rfl rfl rfl rfl ?_
  refine .cast (A' := [Box pf [iV r2.code, iV r2.index], Box pv [iV r2.code, iV r2.index], Box pt (tF t at_ ct at_2 ct2 at_3 ct3)]) rfl ?_
  refine .nil (.seqN (.ret (.seqR ?_)))
  refine .res1 rfl (rvC rfl tA27 (k := 1) rfl rfl) (fun w' S => ⟨r2, hF, rfl, S.below⟩)
 replace hF := hF.2 q13
 refine .skip (.seqN (.seq ?_))
 refine .share (σ := Bool) (fun z => F_cvalidate_J1 t sensors tree K z) (fun z => [(1, vSl asensors sensors csensors), (2, vSl atree tree ctree), (3, .pointer (some pt)), (6, .pointer (some pv)), (25, .bool z)]) (fun _ => [Box pt (tF t at_ ct at_2 ct2 at_3 ct3), Box pv [iV 0, iV 0]]) (fun _ => h) ?_ (fun q15 => ?_)
 ·rintro t25 hF
  show J _ _ _ _ _ [(1, vSl asensors sensors csensors), (2, vSl atree tree ctree), (3, .pointer (some pt)), (6, .pointer (some pv)), (25, .bool t25)] [Box pt (tF t at_ ct at_2 ct2 at_3 ct3), Box pv [iV 0, iV 0]] h
  refine .cond rfl (fun q17 => ?_) (fun q17 => ?_)
  ·replace hF := hF.1 q17
   refine .seq (.region (.V (bld (cs := #[iV 9, iV (-1)]) (pv := [(0, iV 9), (1, iV (-1))]) tB27 rfl rfl) ?_))
   refine st (p := pv) (off := 0) (k := 1) (vs := [iV 9, iV (-1)]) rfl rfl rfl (fun w => (tA27 w).2) rfl rfl rfl rfl ?_
   refine .cast (A' := [Box pt (tF t at_ ct at_2 ct2 at_3 ct3), Box pv [iV 9, iV (-1)]]) rfl ?_
   refine .nil (.seqN (.ret (.seqR ?_)))
   refine .res1 rfl (rvC rfl tA27 (k := 1) rfl rfl) (fun w' S => ⟨(⟨9, (-1)⟩ : Fault), hF, rfl, S.below⟩)
  replace hF := hF.2 q17
  refine .skip (.seqN (.seq (.seq (.region (.V (mv rfl) ?_)))))
  refine .V (ln rfl tS60.is) ?_
  refine .V (mv rfl) ?_
  refine .nil (.seqN (.block ?_))
  obtain ⟨I1, μ1, q95, q96⟩ := hF
  refine .loop' (σ := Int) (fun z => I1 z) (fun z => μ1 z) (fun z => [(1, vSl asensors sensors csensors), (3, .pointer (some pt)), (6, .pointer (some pv)), (27, vSl atree tree ctree), (28, iV ((tree.length : Nat) : Int)), (29, iV z)]) (fun _ => [Box pt (tF t at_ ct at_2 ct2 at_3 ct3), Box pv [iV 0, iV 0]]) (fun _ => h) 0 q95 sb rfl (FH.le_refl _) ?_
  rintro t29 q95
  have hF := q96 t29 q95
  show J _ _ _ _ _ [(1, vSl asensors sensors csensors), (3, .pointer (some pt)), (6, .pointer (some pv)), (27, vSl atree tree ctree), (28, iV ((tree.length : Nat) : Int)), (29, iV t29)] [Box pt (tF t at_ ct at_2 ct2 at_3 ct3), Box pv [iV 0, iV 0]] h
  refine .seq (.region (.V (bi rfl rfl rfl) ?_))
  refine .nil (.seqN (.seq ?_))
  refine .cond rfl (fun q99 => ?_) (fun q99 => ?_)
  ·replace hF := hF.1 q99
   refine .skip (.seqN (.seq (.block (.seq (.region (.V (mv rfl) ?_))))))
   obtain ⟨q108, hF⟩ := hF
   refine .V (ix rfl rfl tS60 (_q9.ne (by decide) (inb_pos q108)) q108) ?_
   refine .V (ldA (cs := [iV ((gt tree t29).kind), iV ((gt tree t29).op), iV ((gt tree t29).fact), iV ((gt tree t29).yes), iV ((gt tree t29).no)]) rfl tA102 rfl (cellsH (_q9.elemF q108 (by decide)))) ?_
   refine al tZ102 rfl (fun pn => ?_)
   refine .V (asg rfl) ?_
   refine st (p := pn) (off := 0) (k := 0) (vs := [iV ((gt tree t29).kind), iV ((gt tree t29).op), iV ((gt tree t29).fact), iV ((gt tree t29).yes), iV ((gt tree t29).no)]) rfl rfl rfl (fun w => (tA102 w).2) rfl rfl rfl rfl ?_
   refine .cast (A' := [Box pn [iV ((gt tree t29).kind), iV ((gt tree t29).op), iV ((gt tree t29).fact), iV ((gt tree t29).yes), iV ((gt tree t29).no)], Box pt (tF t at_ ct at_2 ct2 at_3 ct3), Box pv [iV 0, iV 0]]) rfl ?_
   refine .nil (.seqN (.seq (.region (.V (ldA (cs := (tF t at_ ct at_2 ct2 at_3 ct3)) rfl tA25 rfl (cellsB (off := 0) (k := 1) rfl (m := 4) rfl)) ?_))))
   refine .V (mv rfl) ?_
   refine .V (ldA (cs := [iV ((gt tree t29).kind), iV ((gt tree t29).op), iV ((gt tree t29).fact), iV ((gt tree t29).yes), iV ((gt tree t29).no)]) rfl tA102 rfl (cellsB (off := 0) (k := 0) rfl (m := 5) rfl)) ?_
   refine .V (mv rfl) ?_
   obtain ⟨q109, hF⟩ := hF
   obtain ⟨r3, q110⟩ : ∃ y_ : Int, y_ = sp_nodeCode t sensors (gt tree t29) t29 := ⟨_, rfl⟩
   replace hF := hF r3 q110
   refine .C (cl (v := iV r3) Tryz.call77 rfl rfl (fun w S => (by rw [q110]; exact c_nodeCode S.sub t at_ ct _q1 _q2 at_2 ct2 _q3 _q4 at_3 ct3 _q5 _q6 sensors asensors csensors _q7 _q8 (gt tree t29) t29 q109))) ?_
   refine .V (asg rfl) ?_
   refine .nil (.seqN (.seq (.region (.V (mv rfl) ?_))))
   refine .V (bi rfl rfl rfl) ?_
   refine .nil (.seqN ?_)
   refine .cond rfl (fun q111 => ?_) (fun q111 => ?_)
   ·replace hF := hF.1 q111
    refine .seq (.region (.V (mv rfl) ?_))
    refine .V (mv rfl) ?_
    refine .V (bld (cs := #[iV r3, iV t29]) (pv := [(0, iV r3), (1, iV t29)]) tB27 rfl rfl) ?_
    refine st (p := pv) (off := 0) (k := 2) (vs := [iV r3, iV t29]) rfl rfl rfl (fun w => (tA27 w).2) rfl rfl rfl rfl ?_
    refine .cast (A' := [Box pn [iV ((gt tree t29).kind), iV ((gt tree t29).op), iV ((gt tree t29).fact), iV ((gt tree t29).yes), iV ((gt tree t29).no)], Box pt (tF t at_ ct at_2 ct2 at_3 ct3), Box pv [iV r3, iV t29]]) rfl ?_
    refine .nil (.seqN (.ret (.blkR (.seqR (.seqR (.blkR (.seqR ?_)))))))
    refine .res1 rfl (rvC rfl tA27 (k := 2) rfl rfl) (fun w' S => ⟨(⟨r3, t29⟩ : Fault), hF, rfl, S.below⟩)
   replace hF := hF.2 q111
   refine .skip (.blkN (.seqN (.region (.V (bi rfl rfl rfl) ?_))))
   refine .V (mv rfl) ?_
   refine .nil ?_
   refine .sel0 [1, 2] (by decide) rfl ?_
   exact .RO (wr (t29 + 1)) hF.1 hF.2
  replace hF := hF.2 q99
  refine .exit (.seqX (.seqX (.blkX (.seqN (.seq (.region (.V (bld (cs := #[iV 0, iV 0]) (pv := []) tB27 rfl rfl) ?_)))))))
  refine st (p := pv) (off := 0) (k := 1) (vs := [iV 0, iV 0]) rfl rfl rfl (fun w => (tA27 w).2) rfl rfl rfl rfl ?_
  refine .cast (A' := [Box pt (tF t at_ ct at_2 ct2 at_3 ct3), Box pv [iV 0, iV 0]]) rfl ?_
  refine .nil (.seqN (.ret ?_))
  refine .res1 rfl (rvC rfl tA27 (k := 1) rfl rfl) (fun w' S => ⟨(⟨0, 0⟩ : Fault), hF, rfl, S.below⟩)
 refine .region (.V (mv rfl) ?_)
 refine .V (ln rfl tS60.is) ?_
 refine .V (bi rfl rfl rfl) ?_
 refine .V (mv rfl) ?_
 rcases Bool.eq_false_or_eq_true (((tree.length : Nat) : Int) == 0) with q112 | q112
 ·replace hF := hF.1 q112
  refine .GS q112 ?_
  refine .GS q112 ?_
  refine .GS q112 ?_
  refine .V (pkT rfl q112 rfl) ?_
  refine .nil ?_
  refine .sel0 [2, 1] (by decide) rfl ?_
  exact .US q15 true hF
 replace hF := hF.2 q112
 refine .GV (mv rfl) q112 ?_
 refine .GV (ln rfl tS60.is) q112 ?_
 refine .GV (bi rfl rfl rfl) q112 ?_
 refine .V (pkF rfl q112 rfl) ?_
 refine .nil ?_
 refine .sel0 [2, 1] (by decide) rfl ?_
 exact .US q15 (decide (60 < ((tree.length : Nat) : Int))) hF
theorem c_cvalidate {h : FH} {w : World} (hs : Sub h w) (t : Task) (at_ : Option Addr) (ct : Nat) (_q1 : RSl h at_ t.init) (_q2 : t.init.length ≤ ct) (at_2 : Option Addr) (ct2 : Nat) (_q3 : RSl h at_2 t.goal) (_q4 : t.goal.length ≤ ct2) (at_3 : Option Addr) (ct3 : Nat) (_q5 : RSl h at_3 t.ops) (_q6 : t.ops.length ≤ ct3) (sensors : List Int) (asensors : Option Addr) (csensors : Nat) (_q7 : RSl h asensors sensors) (_q8 : sensors.length ≤ csensors) (tree : List TNode) (atree : Option Addr) (ctree : Nat) (_q9 : RSl h atree tree) (_q10 : tree.length ≤ ctree) : Calls Tryz.prog 40 #[.agg #[iV t.facts, .slice at_ t.init.length ct, .slice at_2 t.goal.length ct2, .slice at_3 t.ops.length ct3], .slice asensors sensors.length csensors, .slice atree tree.length ctree] w fun e w' => e = .returned (.agg #[iV (sp_cvalidate t sensors tree).code, iV (sp_cvalidate t sensors tree).index]) ∧ Below w.heap.size w w' :=
 (w_cvalidate hs t at_ ct _q1 _q2 at_2 ct2 _q3 _q4 at_3 ct3 _q5 _q6 sensors asensors csensors _q7 _q8 tree atree ctree _q9 _q10 (fun r => r = sp_cvalidate t sensors tree) (ok_cvalidate t sensors tree)).mono fun _ _ ⟨_, hk, he, hb⟩ => ⟨by rw [he, hk], hb⟩
end Go.Proofs.YtojoehfldbimpaaGreatDoor.Pl

namespace Go.Proofs.YtojoehfldbimpaaGreatDoor.Pl
open Go Go.RowKit
set_option maxHeartbeats 8000000 in
theorem w_deep {h : FH} {w : World} (hs : Sub h w) (tree : List TNode) (atree : Option Addr) (ctree : Nat) (_q1 : RSl h atree tree) (_q2 : tree.length ≤ ctree) (K : Int → Prop) (hF : F_deep tree K) : Calls Tryz.prog 74 #[.slice atree tree.length ctree] w fun e w' => ∃ r : Int, K r ∧ e = .returned (iV r) ∧ Below w.heap.size w w' := by
 refine enter (args := [vSl atree tree ctree]) Tryz.func74 rfl Tryz.ntmps74 rfl hs ?_
 refine .seq (.region (.V (asg rfl) ?_))
 refine .nil (.seqN (.seq (.region (.V (mv rfl) ?_))))
 refine .V (ln rfl tS60.is) ?_
 obtain ⟨q3, hF⟩ := hF
 refine mk (m := (((tree.length : Nat) : Int)).toNat) (cs' := flL (List.replicate (((tree.length : Nat) : Int)).toNat (0 : Int))) tS22 rfl rfl (Int.toNat_of_nonneg q3.1).symm q3.2.1 q3.2.2 (flL_rep1 rfl _) rfl (fun a c => ?_)
 have q4 : (List.replicate (((tree.length : Nat) : Int)).toNat (0 : Int)).length = (((tree.length : Nat) : Int)).toNat := List.length_replicate
 refine .cast (A' := [OwnSl 3 1 a ((((tree.length : Nat) : Int)).toNat) c (flL (List.replicate (((tree.length : Nat) : Int)).toNat (0 : Int)))]) rfl ?_
 refine .V (asg rfl) ?_
 refine .nil (.seqN (.seq (.seq (.region (.V (mv rfl) ?_)))))
 refine .V (ln rfl tS60.is) ?_
 refine .V (mv rfl) ?_
 refine .nil (.seqN (.block ?_))
 obtain ⟨I1, μ1, q174, q175⟩ := hF
 refine .loop' (σ := Int × List Int) (fun z => I1 z.1 z.2 ∧ z.2.length = (((tree.length : Nat) : Int)).toNat) (fun z => μ1 z.1 z.2) (fun z => [(3, .slice a ((((tree.length : Nat) : Int)).toNat) c), (9, vSl atree tree ctree), (10, iV ((tree.length : Nat) : Int)), (11, iV z.1)]) (fun z => [OwnSl 3 1 a ((((tree.length : Nat) : Int)).toNat) c (flL z.2)]) (fun _ => h) (0, (List.replicate (((tree.length : Nat) : Int)).toNat (0 : Int))) ⟨q174, q4⟩ sb rfl (FH.le_refl _) ?_
 rintro ⟨t11, d⟩ ⟨q174, q141⟩
 have hF := q175 t11 d q174
 show J _ _ _ _ _ [(3, .slice a ((((tree.length : Nat) : Int)).toNat) c), (9, vSl atree tree ctree), (10, iV ((tree.length : Nat) : Int)), (11, iV t11)] [OwnSl 3 1 a ((((tree.length : Nat) : Int)).toNat) c (flL d)] h
 refine .seq (.region (.V (bi rfl rfl rfl) ?_))
 refine .nil (.seqN (.seq ?_))
 refine .cond rfl (fun q178 => ?_) (fun q178 => ?_)
 ·replace hF := hF.1 q178
  refine .skip (.seqN ?_)
  refine .share (σ := List Int) (fun z => F_deep_J1 d z t11 I1 μ1 ∧ z.length = (((tree.length : Nat) : Int)).toNat) (fun _ => [(3, .slice a ((((tree.length : Nat) : Int)).toNat) c), (9, vSl atree tree ctree), (10, iV ((tree.length : Nat) : Int)), (11, iV t11)]) (fun z => [OwnSl 3 1 a ((((tree.length : Nat) : Int)).toNat) c (flL z)]) (fun _ => h) ?_ (fun q193 => ?_)
  ·rintro d3 ⟨hF, q192⟩
   show J _ _ _ _ _ [(3, .slice a ((((tree.length : Nat) : Int)).toNat) c), (9, vSl atree tree ctree), (10, iV ((tree.length : Nat) : Int)), (11, iV t11)] [OwnSl 3 1 a ((((tree.length : Nat) : Int)).toNat) c (flL d3)] h
   refine .region (.V (bi rfl rfl rfl) ?_)
   refine .V (mv rfl) ?_
   refine .nil ?_
   exact .RO (wr (t11 + 1), d3) ⟨hF.1, q192⟩ hF.2
  refine .block (.seq (.region (.V (mv rfl) ?_)))
  obtain ⟨q194, hF⟩ := hF
  refine .V (ix rfl rfl tS60 (_q1.ne (by decide) (inb_pos q194)) q194) ?_
  refine .V (ldA (cs := [iV ((gt tree t11).kind), iV ((gt tree t11).op), iV ((gt tree t11).fact), iV ((gt tree t11).yes), iV ((gt tree t11).no)]) rfl tA102 rfl (cellsH (_q1.elemF q194 (by decide)))) ?_
  refine al tZ102 rfl (fun pn => ?_)
  refine .V (asg rfl) ?_
  refine st (p := pn) (off := 0) (k := 0) (vs := [iV ((gt tree t11).kind), iV ((gt tree t11).op), iV ((gt tree t11).fact), iV ((gt tree t11).yes), iV ((gt tree t11).no)]) rfl rfl rfl (fun w => (tA102 w).2) rfl rfl rfl rfl ?_
  refine .cast (A' := [Box pn [iV ((gt tree t11).kind), iV ((gt tree t11).op), iV ((gt tree t11).fact), iV ((gt tree t11).yes), iV ((gt tree t11).no)], OwnSl 3 1 a ((((tree.length : Nat) : Int)).toNat) c (flL d)]) rfl ?_
  refine .nil (.seqN (.seq (.region (.V (fa rfl tF102_0) ?_))))
  refine .V (ld1 rfl tO3 (cellB (off := 0) (k := 0) rfl rfl)) ?_
  refine .nil (.seqN (.block (.seq (.region (.V (bi rfl rfl rfl) ?_)))))
  refine .V (asg rfl) ?_
  refine .nil (.seqN ?_)
  refine .cond rfl (fun q195 => ?_) (fun q195 => ?_)
  ·replace hF := hF.1 q195
   refine .region (.V (mv rfl) ?_)
   refine .V (mv rfl) ?_
   refine .V (mv rfl) ?_
   refine .V (fa rfl tF102_3) ?_
   refine .V (ld1 rfl tO3 (cellB (off := 3) (k := 0) rfl rfl)) ?_
   obtain ⟨q196, hF⟩ := hF
   refine .V (ixS rfl rfl tS22 (k := 1) rfl (inb_n q196 q141)) ?_
   refine .V (ld1 (v := iV (gt d ((gt tree t11).yes))) rfl tO3 (cellS (k := 1) rfl (flL_get q196 (j := 0) rfl))) ?_
   refine .V (bi rfl rfl rfl) ?_
   obtain ⟨q197, hF⟩ := hF
   refine .V (ixS rfl rfl tS22 (k := 1) rfl (inb_n q197 q141)) ?_
   obtain ⟨d4, q198⟩ : ∃ y_ : List Int, y_ = (d.set (t11).toNat (wr (1 + (gt d ((gt tree t11).yes))))) := ⟨_, rfl⟩
   replace hF := hF d4 q198
   refine stS (k := 1) (cs' := flL d4) rfl (fun _ => rfl) rfl rfl (fun w => (tO3 w).2) rfl rfl rfl (by rw [← q141]; exact inb_pos q197) (fl_room q197) (by rw [q198]; exact flL_set q197 (wr (1 + (gt d ((gt tree t11).yes))))) ?_
   have q199 : d4.length = (((tree.length : Nat) : Int)).toNat := by rw [q198]; exact List.length_set.trans q141
   refine .cast (A' := [Box pn [iV ((gt tree t11).kind), iV ((gt tree t11).op), iV ((gt tree t11).fact), iV ((gt tree t11).yes), iV ((gt tree t11).no)], OwnSl 3 1 a ((((tree.length : Nat) : Int)).toNat) c (flL d4)]) rfl ?_
   refine .nil (.blkN (.blkN ?_))
   refine .sel0 [1] (by decide) rfl ?_
   exact .US q193 d4 ⟨hF, q199⟩
  replace hF := hF.2 q195
  refine .seq (.region (.V (bi rfl rfl rfl) ?_))
  refine .V (asg rfl) ?_
  refine .nil (.seqN ?_)
  refine .cond rfl (fun q200 => ?_) (fun q200 => ?_)
  ·replace hF := hF.1 q200
   refine .openL (by kernel_rfl) rfl (by kernel_rfl) (by kernel_rfl) ?_
   refine .V (mv rfl) ?_
   refine .V (mv rfl) ?_
   refine .V (mv rfl) ?_
   refine .V (fa rfl tF102_3) ?_
   refine .V (ld1 rfl tO3 (cellB (off := 3) (k := 0) rfl rfl)) ?_
   obtain ⟨q201, hF⟩ := hF
   refine .V (ixS rfl rfl tS22 (k := 1) rfl (inb_n q201 q141)) ?_
   refine .V (ld1 (v := iV (gt d ((gt tree t11).yes))) rfl tO3 (cellS (k := 1) rfl (flL_get q201 (j := 0) rfl))) ?_
   refine .V (mv rfl) ?_
   refine .V (fa rfl tF102_4) ?_
   refine .V (ld1 rfl tO3 (cellB (off := 4) (k := 0) rfl rfl)) ?_
   obtain ⟨q202, hF⟩ := hF
   refine .V (ixS rfl rfl tS22 (k := 1) rfl (inb_n q202 q141)) ?_
   refine .V (ld1 (v := iV (gt d ((gt tree t11).no))) rfl tO3 (cellS (k := 1) rfl (flL_get q202 (j := 0) rfl))) ?_
   obtain ⟨x, q203⟩ : ∃ y_ : Int, y_ = (if (gt d ((gt tree t11).yes)) < (gt d ((gt tree t11).no)) then (gt d ((gt tree t11).no)) else (gt d ((gt tree t11).yes))) := ⟨_, rfl⟩
   replace hF := hF x q203
   refine .v (v := iV x) (by rw [q203]; exact mx rfl rfl) rfl rfl rfl ?_
   refine .V (bi rfl rfl rfl) ?_
   obtain ⟨q204, hF⟩ := hF
   refine .V (ixS rfl rfl tS22 (k := 1) rfl (inb_n q204 q141)) ?_
   refine .tail ?_
   obtain ⟨d5, q205⟩ : ∃ y_ : List Int, y_ = (d.set (t11).toNat (wr (1 + x))) := ⟨_, rfl⟩
   replace hF := hF d5 q205
   refine stS (k := 1) (cs' := flL d5) rfl (fun _ => rfl) rfl rfl (fun w => (tO3 w).2) rfl rfl rfl (by rw [← q141]; exact inb_pos q204) (fl_room q204) (by rw [q205]; exact flL_set q204 (wr (1 + x))) ?_
   have q206 : d5.length = (((tree.length : Nat) : Int)).toNat := by rw [q205]; exact List.length_set.trans q141
   refine .cast (A' := [Box pn [iV ((gt tree t11).kind), iV ((gt tree t11).op), iV ((gt tree t11).fact), iV ((gt tree t11).yes), iV ((gt tree t11).no)], OwnSl 3 1 a ((((tree.length : Nat) : Int)).toNat) c (flL d5)]) rfl ?_
   refine .nil (.blkN (.blkN ?_))
   refine .sel0 [1] (by decide) rfl ?_
   exact .US q193 d5 ⟨hF, q206⟩
  replace hF := hF.2 q200
  refine .skip (.blkN (.blkN ?_))
  refine .sel0 [1] (by decide) rfl ?_
  exact .US q193 d ⟨hF, q141⟩
 replace hF := hF.2 q178
 refine .exit (.seqX (.seqX (.blkX (.seqN (.seq (.region (.V (mv rfl) ?_)))))))
 refine .V (mv rfl) ?_
 refine .V (ln rfl tS22.is) ?_
 obtain ⟨x2, q207⟩ : ∃ y_ : Int, y_ = (wr ((((((tree.length : Nat) : Int)).toNat : Nat) : Int) - 1)) := ⟨_, rfl⟩
 replace hF := hF x2 q207
 refine .v (v := iV x2) (by rw [q207]; exact bi rfl rfl rfl) rfl rfl rfl ?_
 obtain ⟨q208, hF⟩ := hF
 refine .V (ixS rfl rfl tS22 (k := 0) rfl (inb_n q208 q141)) ?_
 refine .V (ld1 (v := iV (gt d x2)) rfl tO3 (cellS (k := 0) rfl (flL_get q208 (j := 0) rfl))) ?_
 refine .V (asg rfl) ?_
 refine .nil (.seqN (.ret ?_))
 refine .res1 rfl (rvT rfl) (fun w' S => ⟨(gt d x2), hF, rfl, S.below⟩)
theorem c_deep {h : FH} {w : World} (hs : Sub h w) (tree : List TNode) (atree : Option Addr) (ctree : Nat) (_q1 : RSl h atree tree) (_q2 : tree.length ≤ ctree) (hp : pre_deep tree) : Calls Tryz.prog 74 #[.slice atree tree.length ctree] w fun e w' => e = .returned (iV (sp_deep tree)) ∧ Below w.heap.size w w' :=
 (w_deep hs tree atree ctree _q1 _q2 (fun r => r = sp_deep tree) (ok_deep tree hp)).mono fun _ _ ⟨_, hk, he, hb⟩ => ⟨by rw [he, hk], hb⟩
theorem w_depth {h : FH} {w : World} (hs : Sub h w) (t : Task) (at_ : Option Addr) (ct : Nat) (_q1 : RSl h at_ t.init) (_q2 : t.init.length ≤ ct) (at_2 : Option Addr) (ct2 : Nat) (_q3 : RSl h at_2 t.goal) (_q4 : t.goal.length ≤ ct2) (at_3 : Option Addr) (ct3 : Nat) (_q5 : RSl h at_3 t.ops) (_q6 : t.ops.length ≤ ct3) (sensors : List Int) (asensors : Option Addr) (csensors : Nat) (_q7 : RSl h asensors sensors) (_q8 : sensors.length ≤ csensors) (tree : List TNode) (atree : Option Addr) (ctree : Nat) (_q9 : RSl h atree tree) (_q10 : tree.length ≤ ctree) (K : (Int × Fault) → Prop) (hF : F_depth t sensors tree K) : Calls Tryz.prog 37 #[.agg #[iV t.facts, .slice at_ t.init.length ct, .slice at_2 t.goal.length ct2, .slice at_3 t.ops.length ct3], .slice asensors sensors.length csensors, .slice atree tree.length ctree] w fun e w' => ∃ r : Int × Fault, K r ∧ e = .returned (.tuple #[iV r.1, .agg #[iV r.2.code, iV r.2.index]]) ∧ Below w.heap.size w w' := by
 refine enter (args := [.agg (tF t at_ ct at_2 ct2 at_3 ct3).toArray, vSl asensors sensors csensors, vSl atree tree ctree]) Tryz.func37 rfl Tryz.ntmps37 rfl hs ?_
 refine .seq (.region ?_)
 refine bx (vs := (tF t at_ ct at_2 ct2 at_3 ct3)) rfl rfl rfl (fun pt => ?_)
 refine .V (asg rfl) ?_
 refine al tZ27 rfl (fun pv => ?_)
 refine .nil (.seqN (.seq (.seq (.region (.V (ldA (cs := (tF t at_ ct at_2 ct2 at_3 ct3)) rfl tA25 rfl (cellsB (off := 0) (k := 1) rfl (m := 4) rfl)) ?_)))))
 refine .V (mv rfl) ?_
 refine .V (mv rfl) ?_
 obtain ⟨r2, q11⟩ : ∃ y_ : Fault, y_ = sp_cvalidate t sensors tree := ⟨_, rfl⟩
 replace hF := hF r2 q11
 refine .C (cl (v := .agg #[iV r2.code, iV r2.index]) Tryz.call40 rfl rfl (fun w S => (by rw [q11]; exact c_cvalidate S.sub t at_ ct _q1 _q2 at_2 ct2 _q3 _q4 at_3 ct3 _q5 _q6 sensors asensors csensors _q7 _q8 tree atree ctree _q9 _q10 ))) ?_
 refine al tZ27 rfl (fun pf => ?_)
 refine st (p := pf) (off := 0) (k := 0) (vs := [iV r2.code, iV r2.index]) rfl rfl rfl (fun w => (tA27 w).2) rfl rfl rfl rfl ?_
 refine .cast (A' := [Box pf [iV r2.code, iV r2.index], Box pv [iV 0, iV 0], Box pt (tF t at_ ct at_2 ct2 at_3 ct3)]) rfl ?_
 refine .nil (.seqN (.seq (.region (.V (ldA (cs := [iV r2.code, iV r2.index]) rfl tA27 rfl (cellsB (off := 0) (k := 0) rfl (m := 2) rfl)) ?_))))
 refine .V (bld (cs := #[iV 0, iV 0]) (pv := []) tB27 rfl rfl) ?_
 refine .V (ne2 tE27 rfl rfl) ?_
 refine .nil (.seqN ?_)
 refine .cond rfl (fun q13 => ?_) (fun q13 => ?_)
 ·replace hF := hF.1 q13
  refine .seq ?_
  refine .openL (by kernel_rfl) rfl (by kernel_rfl) (by kernel_rfl) ?_
  refine .V (ldA (cs := [iV r2.code, iV r2.index]) rfl tA27 rfl (cellsB (off := 0) (k := 0) rfl (m := 2) rfl)) ?_
  refine .V (asg rfl) ?_
  refine .tail ?_
  refine st (p := pv) (off := 0) (k := 1) (vs := [iV r2.code, iV r2.index]) rfl rfl rfl (fun w => (tA27 w).2) rfl rfl rfl rfl ?_
  refine .cast (A' := [Box pf [iV r2.code, iV r2.index], Box pv [iV r2.code, iV r2.index], Box pt (tF t at_ ct at_2 ct2 at_3 ct3)]) rfl ?_
  refine .nil (.seqN (.ret (.seqR ?_)))
  refine .res2 rfl (rvT rfl) (rvC rfl tA27 (k := 1) rfl rfl) (fun w' S => ⟨(0, r2), hF, rfl, S.below⟩)
 replace hF := hF.2 q13
 refine .skip (.seqN (.seq (.region (.V (mv rfl) ?_))))
 obtain ⟨q14, hF⟩ := hF
 obtain ⟨r3, q15⟩ : ∃ y_ : Int, y_ = sp_deep tree := ⟨_, rfl⟩
 replace hF := hF r3 q15
 refine .C (cl (v := iV r3) Tryz.call74 rfl rfl (fun w S => (by rw [q15]; exact c_deep S.sub tree atree ctree _q9 _q10 q14))) ?_
 refine .V (bld (cs := #[iV 0, iV 0]) (pv := []) tB27 rfl rfl) ?_
 refine .V (asg rfl) ?_
 refine st (p := pv) (off := 0) (k := 1) (vs := [iV 0, iV 0]) rfl rfl rfl (fun w => (tA27 w).2) rfl rfl rfl rfl ?_
 refine .cast (A' := [Box pf [iV r2.code, iV r2.index], Box pv [iV 0, iV 0], Box pt (tF t at_ ct at_2 ct2 at_3 ct3)]) rfl ?_
 refine .nil (.seqN (.ret ?_))
 refine .res2 rfl (rvT rfl) (rvC rfl tA27 (k := 1) rfl rfl) (fun w' S => ⟨(r3, (⟨0, 0⟩ : Fault)), hF, rfl, S.below⟩)
theorem c_depth {h : FH} {w : World} (hs : Sub h w) (t : Task) (at_ : Option Addr) (ct : Nat) (_q1 : RSl h at_ t.init) (_q2 : t.init.length ≤ ct) (at_2 : Option Addr) (ct2 : Nat) (_q3 : RSl h at_2 t.goal) (_q4 : t.goal.length ≤ ct2) (at_3 : Option Addr) (ct3 : Nat) (_q5 : RSl h at_3 t.ops) (_q6 : t.ops.length ≤ ct3) (sensors : List Int) (asensors : Option Addr) (csensors : Nat) (_q7 : RSl h asensors sensors) (_q8 : sensors.length ≤ csensors) (tree : List TNode) (atree : Option Addr) (ctree : Nat) (_q9 : RSl h atree tree) (_q10 : tree.length ≤ ctree) : Calls Tryz.prog 37 #[.agg #[iV t.facts, .slice at_ t.init.length ct, .slice at_2 t.goal.length ct2, .slice at_3 t.ops.length ct3], .slice asensors sensors.length csensors, .slice atree tree.length ctree] w fun e w' => e = .returned (.tuple #[iV (sp_depth t sensors tree).1, .agg #[iV (sp_depth t sensors tree).2.code, iV (sp_depth t sensors tree).2.index]]) ∧ Below w.heap.size w w' :=
 (w_depth hs t at_ ct _q1 _q2 at_2 ct2 _q3 _q4 at_3 ct3 _q5 _q6 sensors asensors csensors _q7 _q8 tree atree ctree _q9 _q10 (fun r => r = sp_depth t sensors tree) (ok_depth t sensors tree)).mono fun _ _ ⟨_, hk, he, hb⟩ => ⟨by rw [he, hk], hb⟩
set_option maxHeartbeats 8000000 in
theorem w_crun {h : FH} {w : World} (hs : Sub h w) (t : Task) (at_ : Option Addr) (ct : Nat) (_q1 : RSl h at_ t.init) (_q2 : t.init.length ≤ ct) (at_2 : Option Addr) (ct2 : Nat) (_q3 : RSl h at_2 t.goal) (_q4 : t.goal.length ≤ ct2) (at_3 : Option Addr) (ct3 : Nat) (_q5 : RSl h at_3 t.ops) (_q6 : t.ops.length ≤ ct3) (tree : List TNode) (atree : Option Addr) (ctree : Nat) (_q7 : RSl h atree tree) (_q8 : tree.length ≤ ctree) (s_ : List Int) (as_ : Option Addr) (cs_ : Nat) (_q9 : RSl h as_ s_) (_q10 : s_.length ≤ cs_) (K : (List Int × Bool) → Prop) (hF : F_crun t tree s_ K) : Calls Tryz.prog 75 #[.agg #[iV t.facts, .slice at_ t.init.length ct, .slice at_2 t.goal.length ct2, .slice at_3 t.ops.length ct3], .slice atree tree.length ctree, .slice as_ s_.length cs_] w fun e w' => ∃ (r : List Int × Bool) (z : Option Addr × Nat) (h1 : FH), K r ∧ e = .returned (.tuple #[.slice z.1 r.1.length z.2, .bool r.2]) ∧ FH.le h h1 ∧ (RSl h1 z.1 r.1 ∧ r.1.length ≤ z.2) ∧ SH (Kp.all w h) h1 w' [] := by
 refine enter (args := [.agg (tF t at_ ct at_2 ct2 at_3 ct3).toArray, vSl atree tree ctree, vSl as_ s_ cs_]) Tryz.func75 rfl Tryz.ntmps75 rfl hs ?_
 refine .seq (.region ?_)
 refine bx (vs := (tF t at_ ct at_2 ct2 at_3 ct3)) rfl rfl rfl (fun pt => ?_)
 refine .V (asg rfl) ?_
 refine .V (asg rfl) ?_
 refine .nil (.seqN (.seq (.region (.V (asg rfl) ?_))))
 refine .nil (.seqN (.seq (.seq (.region (.V (mv rfl) ?_)))))
 refine .V (mv rfl) ?_
 refine .V (ln rfl tS60.is) ?_
 refine .V (bi rfl rfl rfl) ?_
 obtain ⟨q11, hF⟩ := hF
 refine .V (ix rfl rfl tS60 (_q7.ne (by decide) (inb_pos q11)) q11) ?_
 refine .V (ldA (cs := [iV ((gt tree (wr (((tree.length : Nat) : Int) - 1))).kind), iV ((gt tree (wr (((tree.length : Nat) : Int) - 1))).op), iV ((gt tree (wr (((tree.length : Nat) : Int) - 1))).fact), iV ((gt tree (wr (((tree.length : Nat) : Int) - 1))).yes), iV ((gt tree (wr (((tree.length : Nat) : Int) - 1))).no)]) rfl tA102 rfl (cellsH (_q7.elemF q11 (by decide)))) ?_
 refine al tZ102 rfl (fun pn => ?_)
 refine st (p := pn) (off := 0) (k := 0) (vs := [iV ((gt tree (wr (((tree.length : Nat) : Int) - 1))).kind), iV ((gt tree (wr (((tree.length : Nat) : Int) - 1))).op), iV ((gt tree (wr (((tree.length : Nat) : Int) - 1))).fact), iV ((gt tree (wr (((tree.length : Nat) : Int) - 1))).yes), iV ((gt tree (wr (((tree.length : Nat) : Int) - 1))).no)]) rfl rfl rfl (fun w => (tA102 w).2) rfl rfl rfl rfl ?_
 refine .cast (A' := [Box pn [iV ((gt tree (wr (((tree.length : Nat) : Int) - 1))).kind), iV ((gt tree (wr (((tree.length : Nat) : Int) - 1))).op), iV ((gt tree (wr (((tree.length : Nat) : Int) - 1))).fact), iV ((gt tree (wr (((tree.length : Nat) : Int) - 1))).yes), iV ((gt tree (wr (((tree.length : Nat) : Int) - 1))).no)], Box pt (tF t at_ ct at_2 ct2 at_3 ct3)]) rfl ?_
 refine .nil (.seqN (.block ?_))
 refine .nilSl 3 1 ?_
 refine .cast (A' := [OwnSl 3 1 none (([] : List Int).length) 0 (flL ([] : List Int)), Box pn [iV ((gt tree (wr (((tree.length : Nat) : Int) - 1))).kind), iV ((gt tree (wr (((tree.length : Nat) : Int) - 1))).op), iV ((gt tree (wr (((tree.length : Nat) : Int) - 1))).fact), iV ((gt tree (wr (((tree.length : Nat) : Int) - 1))).yes), iV ((gt tree (wr (((tree.length : Nat) : Int) - 1))).no)], Box pt (tF t at_ ct at_2 ct2 at_3 ct3)]) rfl ?_
 refine .sel0 [2, 0, 1] (by decide) rfl ?_
 obtain ⟨I1, μ1, q314, q315⟩ := hF
 refine .loop' (σ := List Int × List Int × Int × Int × Int × Int × Int × Option Addr × Nat × Option Addr × Nat × Addr × FH) (fun z => I1 z.1 z.2.1 z.2.2.1 z.2.2.2.1 z.2.2.2.2.1 z.2.2.2.2.2.1 z.2.2.2.2.2.2.1 ∧ RSl z.2.2.2.2.2.2.2.2.2.2.2.2 z.2.2.2.2.2.2.2.1 z.1 ∧ z.1.length ≤ z.2.2.2.2.2.2.2.2.1 ∧ FH.le h z.2.2.2.2.2.2.2.2.2.2.2.2) (fun z => μ1 z.1 z.2.1 z.2.2.1 z.2.2.2.1 z.2.2.2.2.1 z.2.2.2.2.2.1 z.2.2.2.2.2.2.1) (fun z => [(1, vSl atree tree ctree), (2, vSl z.2.2.2.2.2.2.2.1 z.1 z.2.2.2.2.2.2.2.2.1), (3, .pointer (some pt)), (8, vSl z.2.2.2.2.2.2.2.2.2.1 z.2.1 z.2.2.2.2.2.2.2.2.2.2.1), (9, .pointer (some z.2.2.2.2.2.2.2.2.2.2.2.1))]) (fun z => [Box pt (tF t at_ ct at_2 ct2 at_3 ct3), OwnSl 3 1 z.2.2.2.2.2.2.2.2.2.1 z.2.1.length z.2.2.2.2.2.2.2.2.2.2.1 (flL z.2.1), Box z.2.2.2.2.2.2.2.2.2.2.2.1 [iV z.2.2.1, iV z.2.2.2.1, iV z.2.2.2.2.1, iV z.2.2.2.2.2.1, iV z.2.2.2.2.2.2.1]]) (fun z => z.2.2.2.2.2.2.2.2.2.2.2.2) (s_, ([] : List Int), (gt tree (wr (((tree.length : Nat) : Int) - 1))).kind, (gt tree (wr (((tree.length : Nat) : Int) - 1))).op, (gt tree (wr (((tree.length : Nat) : Int) - 1))).fact, (gt tree (wr (((tree.length : Nat) : Int) - 1))).yes, (gt tree (wr (((tree.length : Nat) : Int) - 1))).no, as_, cs_, none, 0, pn, h) ⟨q314, _q9, _q10, (FH.le_refl _)⟩ sb rfl (FH.le_refl _) ?_
 rintro ⟨s_2, out, x, x2, x3, x4, x5, as2, cs, aout, cout, p, h23⟩ ⟨q314, q254, q255, q256⟩
 have hF := q315 s_2 out x x2 x3 x4 x5 q314
 show J _ _ _ _ _ [(1, vSl atree tree ctree), (2, vSl as2 s_2 cs), (3, .pointer (some pt)), (8, vSl aout out cout), (9, .pointer (some p))] [Box pt (tF t at_ ct at_2 ct2 at_3 ct3), OwnSl 3 1 aout out.length cout (flL out), Box p [iV x, iV x2, iV x3, iV x4, iV x5]] h23
 refine .seq (.seq (.region (.V (fa rfl tF102_0) ?_)))
 refine .V (ld1 rfl tO3 (cellB (off := 0) (k := 2) rfl rfl)) ?_
 refine .V (bi rfl rfl rfl) ?_
 refine .nil (.seqN ?_)
 refine .cond rfl (fun q317 => ?_) (fun q317 => ?_)
 ·replace hF := hF.1 q317
  refine .skip (.seqN ?_)
  refine .share (σ := List Int × List Int × Int × Int × Int × Int × Int × Option Addr × Nat × Option Addr × Nat × FH) (fun z => F_crun_J1 x x2 x3 s_2 out x4 x5 I1 μ1 z.1 z.2.1 z.2.2.1 z.2.2.2.1 z.2.2.2.2.1 z.2.2.2.2.2.1 z.2.2.2.2.2.2.1 ∧ RSl z.2.2.2.2.2.2.2.2.2.2.2 z.2.2.2.2.2.2.2.1 z.1 ∧ z.1.length ≤ z.2.2.2.2.2.2.2.2.1 ∧ FH.le h23 z.2.2.2.2.2.2.2.2.2.2.2) (fun z => [(1, vSl atree tree ctree), (2, vSl z.2.2.2.2.2.2.2.1 z.1 z.2.2.2.2.2.2.2.2.1), (3, .pointer (some pt)), (8, vSl z.2.2.2.2.2.2.2.2.2.1 z.2.1 z.2.2.2.2.2.2.2.2.2.2.1), (9, .pointer (some p))]) (fun z => [Box pt (tF t at_ ct at_2 ct2 at_3 ct3), OwnSl 3 1 z.2.2.2.2.2.2.2.2.2.1 z.2.1.length z.2.2.2.2.2.2.2.2.2.2.1 (flL z.2.1), Box p [iV z.2.2.1, iV z.2.2.2.1, iV z.2.2.2.2.1, iV z.2.2.2.2.2.1, iV z.2.2.2.2.2.2.1]]) (fun z => z.2.2.2.2.2.2.2.2.2.2.2) ?_ (fun q345 => ?_)
  ·rintro ⟨s_4, out3, x11, x12, x13, x14, x15, as4, cs3, aout3, cout3, h32⟩ ⟨hF, q342, q343, q344⟩
   show J _ _ _ _ _ [(1, vSl atree tree ctree), (2, vSl as4 s_4 cs3), (3, .pointer (some pt)), (8, vSl aout3 out3 cout3), (9, .pointer (some p))] [Box pt (tF t at_ ct at_2 ct2 at_3 ct3), OwnSl 3 1 aout3 out3.length cout3 (flL out3), Box p [iV x11, iV x12, iV x13, iV x14, iV x15]] h32
   refine .seq (.region (.V (ldA (cs := [iV x11, iV x12, iV x13, iV x14, iV x15]) rfl tA102 rfl (cellsB (off := 0) (k := 2) rfl (m := 5) rfl)) ?_))
   refine .nil (.seqN (.region ?_))
   refine al tZ102 rfl (fun pn2 => ?_)
   refine st (p := pn2) (off := 0) (k := 0) (vs := [iV x11, iV x12, iV x13, iV x14, iV x15]) rfl rfl rfl (fun w => (tA102 w).2) rfl rfl rfl rfl ?_
   refine .cast (A' := [Box pn2 [iV x11, iV x12, iV x13, iV x14, iV x15], Box pt (tF t at_ ct at_2 ct2 at_3 ct3), OwnSl 3 1 aout3 out3.length cout3 (flL out3), Box p [iV x11, iV x12, iV x13, iV x14, iV x15]]) rfl ?_
   refine .nil ?_
   refine .sel0 [1, 2, 0] (by decide) rfl ?_
   exact .RO (s_4, out3, x11, x12, x13, x14, x15, as4, cs3, aout3, cout3, pn2, h32) ⟨hF.1, q342, q343, (FH.le_trans (q256) (q344))⟩ hF.2
  refine .block (.block ?_)
  refine .share (σ := Bool) (fun z => F_crun_J2 t tree K x x2 z x3 s_2 out x4 x5 I1 μ1) (fun z => [(1, vSl atree tree ctree), (2, vSl as2 s_2 cs), (3, .pointer (some pt)), (8, vSl aout out cout), (9, .pointer (some p)), (24, .bool z)]) (fun _ => [Box pt (tF t at_ ct at_2 ct2 at_3 ct3), OwnSl 3 1 aout out.length cout (flL out), Box p [iV x, iV x2, iV x3, iV x4, iV x5]]) (fun _ => h23) ?_ (fun q349 => ?_)
  ·rintro t24 hF
   show J _ _ _ _ _ [(1, vSl atree tree ctree), (2, vSl as2 s_2 cs), (3, .pointer (some pt)), (8, vSl aout out cout), (9, .pointer (some p)), (24, .bool t24)] [Box pt (tF t at_ ct at_2 ct2 at_3 ct3), OwnSl 3 1 aout out.length cout (flL out), Box p [iV x, iV x2, iV x3, iV x4, iV x5]] h23
   refine .cond rfl (fun q350 => ?_) (fun q350 => ?_)
   ·replace hF := hF.1 q350
    refine .seq (.region (.V (mv rfl) ?_))
    refine .V (asg rfl) ?_
    refine .V (asg rfl) ?_
    refine .nil (.seqN ?_)
    refine .freezeL (k := 1) rfl (fun h33 le33 q352 q351 => ?_)
    refine .cast (A' := [Box pt (tF t at_ ct at_2 ct2 at_3 ct3), tru, Box p [iV x, iV x2, iV x3, iV x4, iV x5]]) rfl ?_
    refine .ret (.blkR (.blkR (.seqR (.seqR (.blkR (.seqR ?_))))))
    refine .res2 rfl (rvT rfl) (rvT rfl) (fun w' S => ⟨(out, false), (aout, cout), h33, hF, rfl, (FH.le_trans (q256) (le33)), ⟨(RSl.of q351), (q352)⟩, S.none⟩)
   replace hF := hF.2 q350
   refine .seq (.region (.V (fa rfl tF102_0) ?_))
   refine .V (ld1 rfl tO3 (cellB (off := 0) (k := 2) rfl rfl)) ?_
   refine .V (bi rfl rfl rfl) ?_
   refine .V (asg rfl) ?_
   refine .nil (.seqN ?_)
   refine .cond rfl (fun q353 => ?_) (fun q353 => ?_)
   ·replace hF := hF.1 q353
    refine .seq (.region (.V (mv rfl) ?_))
    refine .V (fa rfl tF102_1) ?_
    refine .V (ld1 rfl tO3 (cellB (off := 1) (k := 2) rfl rfl)) ?_
    refine bs2 (cs := #[iV x2]) (pv := [(0, iV x2)]) tS22 rfl rfl (by decide) (by decide) rfl rfl rfl (fun a _ => ?_)
    refine .cast (A' := [OwnSl 3 1 a (([x2] : List Int).length) 1 (flL ([x2] : List Int)), Box pt (tF t at_ ct at_2 ct2 at_3 ct3), OwnSl 3 1 aout out.length cout (flL out), Box p [iV x, iV x2, iV x3, iV x4, iV x5]]) rfl ?_
    obtain ⟨q355, hF⟩ := hF
    have q356 : out.length + ([x2] : List Int).length = ((out ++ ([x2] : List Int))).length := len_app rfl rfl
    refine app (k := 2) (news := flL ([x2] : List Int)) (cs' := flL (out ++ ([x2] : List Int))) (nm := ((out ++ ([x2] : List Int))).length) tS22 rfl (by decide) rfl rfl rfl (by rw [flL_len]; rfl) (srcS (k := 0) rfl) (flL_one _) (room_of q356 q355).1 (room_of q356 q355).2 q356 (flL_append _ _).symm rfl (fun a2 c => ?_)
    refine .cast (A' := [OwnSl 3 1 a (([x2] : List Int).length) 1 (flL ([x2] : List Int)), Box pt (tF t at_ ct at_2 ct2 at_3 ct3), OwnSl 3 1 a2 ((out ++ ([x2] : List Int)).length) c (flL (out ++ ([x2] : List Int))), Box p [iV x, iV x2, iV x3, iV x4, iV x5]]) rfl ?_
    refine .V (asg rfl) ?_
    refine .nil (.seqN (.seq (.region (.V (ldA (cs := (tF t at_ ct at_2 ct2 at_3 ct3)) rfl tA25 rfl (cellsB (off := 0) (k := 1) rfl (m := 4) rfl)) ?_))))
    refine .V (mv rfl) ?_
    refine .V (fa rfl tF102_1) ?_
    refine .V (ld1 rfl tO3 (cellB (off := 1) (k := 3) rfl rfl)) ?_
    obtain ⟨q357, hF⟩ := hF
    obtain ⟨r2, q358⟩ : ∃ y_ : List Int, y_ = sp_after t s_2 x2 := ⟨_, rfl⟩
    replace hF := hF r2 q358
    refine clR (α := Option Addr × Nat) (Φ := fun h1 z => RSl h1 z.1 r2 ∧ r2.length ≤ z.2) (V := fun z => vSl z.1 r2 z.2) Tryz.call93 rfl rfl (fun w S => (by rw [q358]; exact c_next S.sub t at_ ct (_q1.mono (q256)) _q2 at_2 ct2 (_q3.mono (q256)) _q4 at_3 ct3 (_q5.mono (q256)) _q6 s_2 as2 cs q254 q255 x2 q357)) rfl (fun z h34 le34 hz => ?_)
    obtain ⟨a3, c2⟩ := z
    obtain ⟨q359, q360⟩ := hz
    refine .V (asg rfl) ?_
    refine .nil (.seqN (.region (.V (mv rfl) ?_)))
    refine .V (fa rfl tF102_3) ?_
    refine .V (ld1 rfl tO3 (cellB (off := 3) (k := 3) rfl rfl)) ?_
    obtain ⟨q361, hF⟩ := hF
    refine .V (ix rfl rfl tS60 (_q7.ne (by decide) (inb_pos q361)) q361) ?_
    refine .V (ldA (cs := [iV ((gt tree x4).kind), iV ((gt tree x4).op), iV ((gt tree x4).fact), iV ((gt tree x4).yes), iV ((gt tree x4).no)]) rfl tA102 rfl (cellsH ((_q7.mono (FH.le_trans (q256) (le34))).elemF q361 (by decide)))) ?_
    refine st (p := p) (off := 0) (k := 3) (vs := [iV ((gt tree x4).kind), iV ((gt tree x4).op), iV ((gt tree x4).fact), iV ((gt tree x4).yes), iV ((gt tree x4).no)]) rfl rfl rfl (fun w => (tA102 w).2) rfl rfl rfl rfl ?_
    refine .cast (A' := [OwnSl 3 1 a (([x2] : List Int).length) 1 (flL ([x2] : List Int)), Box pt (tF t at_ ct at_2 ct2 at_3 ct3), OwnSl 3 1 a2 ((out ++ ([x2] : List Int)).length) c (flL (out ++ ([x2] : List Int))), Box p [iV ((gt tree x4).kind), iV ((gt tree x4).op), iV ((gt tree x4).fact), iV ((gt tree x4).yes), iV ((gt tree x4).no)]]) rfl ?_
    refine .nil (.blkN (.blkN ?_))
    refine .sel0 [1, 2, 3] (by decide) rfl ?_
    exact .US q345 (r2, (out ++ ([x2] : List Int)), (gt tree x4).kind, (gt tree x4).op, (gt tree x4).fact, (gt tree x4).yes, (gt tree x4).no, a3, c2, a2, c, h34) ⟨hF, q359, q360, (le34)⟩
   replace hF := hF.2 q353
   refine .seq (.region (.V (mv rfl) ?_))
   refine .V (fa rfl tF102_2) ?_
   refine .V (ld1 rfl tO3 (cellB (off := 2) (k := 2) rfl rfl)) ?_
   obtain ⟨q362, hF⟩ := hF
   obtain ⟨r3, q363⟩ : ∃ y_ : Bool, y_ = sp_contains s_2 x3 := ⟨_, rfl⟩
   replace hF := hF r3 q363
   refine .C (cl (v := .bool r3) Tryz.call101 rfl rfl (fun w S => (by rw [q363]; exact c_contains S.sub s_2 as2 cs q254 q255 x3 q362))) ?_
   refine .V (asg rfl) ?_
   refine .nil (.seqN ?_)
   refine .cond rfl (fun q364 => ?_) (fun q364 => ?_)
   ·replace hF := hF.1 q364
    refine .region (.V (mv rfl) ?_)
    refine .V (fa rfl tF102_3) ?_
    refine .V (ld1 rfl tO3 (cellB (off := 3) (k := 2) rfl rfl)) ?_
    obtain ⟨q365, hF⟩ := hF
    refine .V (ix rfl rfl tS60 (_q7.ne (by decide) (inb_pos q365)) q365) ?_
    refine .V (ldA (cs := [iV ((gt tree x4).kind), iV ((gt tree x4).op), iV ((gt tree x4).fact), iV ((gt tree x4).yes), iV ((gt tree x4).no)]) rfl tA102 rfl (cellsH ((_q7.mono (q256)).elemF q365 (by decide)))) ?_
    refine st (p := p) (off := 0) (k := 2) (vs := [iV ((gt tree x4).kind), iV ((gt tree x4).op), iV ((gt tree x4).fact), iV ((gt tree x4).yes), iV ((gt tree x4).no)]) rfl rfl rfl (fun w => (tA102 w).2) rfl rfl rfl rfl ?_
    refine .cast (A' := [Box pt (tF t at_ ct at_2 ct2 at_3 ct3), OwnSl 3 1 aout out.length cout (flL out), Box p [iV ((gt tree x4).kind), iV ((gt tree x4).op), iV ((gt tree x4).fact), iV ((gt tree x4).yes), iV ((gt tree x4).no)]]) rfl ?_
    refine .nil (.blkN (.blkN ?_))
    exact .US q345 (s_2, out, (gt tree x4).kind, (gt tree x4).op, (gt tree x4).fact, (gt tree x4).yes, (gt tree x4).no, as2, cs, aout, cout, h23) ⟨hF, q254, q255, (FH.le_refl _)⟩
   replace hF := hF.2 q364
   refine .region (.V (mv rfl) ?_)
   refine .V (fa rfl tF102_4) ?_
   refine .V (ld1 rfl tO3 (cellB (off := 4) (k := 2) rfl rfl)) ?_
   obtain ⟨q366, hF⟩ := hF
   refine .V (ix rfl rfl tS60 (_q7.ne (by decide) (inb_pos q366)) q366) ?_
   refine .V (ldA (cs := [iV ((gt tree x5).kind), iV ((gt tree x5).op), iV ((gt tree x5).fact), iV ((gt tree x5).yes), iV ((gt tree x5).no)]) rfl tA102 rfl (cellsH ((_q7.mono (q256)).elemF q366 (by decide)))) ?_
   refine st (p := p) (off := 0) (k := 2) (vs := [iV ((gt tree x5).kind), iV ((gt tree x5).op), iV ((gt tree x5).fact), iV ((gt tree x5).yes), iV ((gt tree x5).no)]) rfl rfl rfl (fun w => (tA102 w).2) rfl rfl rfl rfl ?_
   refine .cast (A' := [Box pt (tF t at_ ct at_2 ct2 at_3 ct3), OwnSl 3 1 aout out.length cout (flL out), Box p [iV ((gt tree x5).kind), iV ((gt tree x5).op), iV ((gt tree x5).fact), iV ((gt tree x5).yes), iV ((gt tree x5).no)]]) rfl ?_
   refine .nil (.blkN (.blkN ?_))
   exact .US q345 (s_2, out, (gt tree x5).kind, (gt tree x5).op, (gt tree x5).fact, (gt tree x5).yes, (gt tree x5).no, as2, cs, aout, cout, h23) ⟨hF, q254, q255, (FH.le_refl _)⟩
  refine .region (.V (fa rfl tF102_0) ?_)
  refine .V (ld1 rfl tO3 (cellB (off := 0) (k := 2) rfl rfl)) ?_
  refine .V (bi rfl rfl rfl) ?_
  refine .V (mv rfl) ?_
  rcases Bool.eq_false_or_eq_true (x == 2) with q367 | q367
  ·replace hF := hF.1 q367
   refine .GV (ldA (cs := (tF t at_ ct at_2 ct2 at_3 ct3)) rfl tA25 rfl (cellsB (off := 0) (k := 0) rfl (m := 4) rfl)) q367 ?_
   refine .GV (mv rfl) q367 ?_
   refine .GV (fa rfl tF102_1) q367 ?_
   refine .GV (ld1 rfl tO3 (cellB (off := 1) (k := 2) rfl rfl)) q367 ?_
   obtain ⟨q368, hF⟩ := hF
   obtain ⟨r4, q369⟩ : ∃ y_ : Bool, y_ = sp_applies t s_2 x2 := ⟨_, rfl⟩
   replace hF := hF r4 q369
   refine .gc (cl (v := .bool r4) Tryz.call100 rfl rfl (fun w S => (by rw [q369]; exact c_can S.sub t at_ ct (_q1.mono (q256)) _q2 at_2 ct2 (_q3.mono (q256)) _q4 at_3 ct3 (_q5.mono (q256)) _q6 s_2 as2 cs q254 q255 x2 q368))) rfl rfl rfl q367 rfl rfl ?_
   refine .GV (nt rfl) q367 ?_
   refine .V (pkT rfl q367 rfl) ?_
   refine .V (asg rfl) ?_
   refine .nil ?_
   exact .US q349 (!r4) hF
  replace hF := hF.2 q367
  refine .GS q367 ?_
  refine .GS q367 ?_
  refine .GS q367 ?_
  refine .GS q367 ?_
  refine .GS q367 ?_
  refine .GS q367 ?_
  refine .V (pkF rfl q367 rfl) ?_
  refine .V (asg rfl) ?_
  refine .nil ?_
  exact .US q349 false hF
 replace hF := hF.2 q317
 refine .exit (.seqX (.seqX (.blkX (.seqN (.seq (.region (.V (mv rfl) ?_)))))))
 refine .V (mv rfl) ?_
 refine .V (fa rfl tF25_2) ?_
 refine .V (ld1 rfl tO22 (cellB (off := 2) (k := 0) rfl rfl)) ?_
 obtain ⟨q370, hF⟩ := hF
 obtain ⟨r5, q371⟩ : ∃ y_ : Bool, y_ = sp_contains2 s_2 t.goal := ⟨_, rfl⟩
 replace hF := hF r5 q371
 refine .C (cl (v := .bool r5) Tryz.call88 rfl rfl (fun w S => (by rw [q371]; exact c_contains2 S.sub s_2 as2 cs q254 q255 t.goal at_2 ct2 (_q3.mono (q256)) _q4 q370))) ?_
 refine .V (asg rfl) ?_
 refine .V (asg rfl) ?_
 refine .nil (.seqN ?_)
 refine .freezeL (k := 1) rfl (fun h35 le35 q373 q372 => ?_)
 refine .cast (A' := [Box pt (tF t at_ ct at_2 ct2 at_3 ct3), tru, Box p [iV x, iV x2, iV x3, iV x4, iV x5]]) rfl ?_
 refine .ret ?_
 refine .res2 rfl (rvT rfl) (rvT rfl) (fun w' S => ⟨(out, r5), (aout, cout), h35, hF, rfl, (FH.le_trans (q256) (le35)), ⟨(RSl.of q372), (q373)⟩, S.none⟩)
theorem c_crun {h : FH} {w : World} (hs : Sub h w) (t : Task) (at_ : Option Addr) (ct : Nat) (_q1 : RSl h at_ t.init) (_q2 : t.init.length ≤ ct) (at_2 : Option Addr) (ct2 : Nat) (_q3 : RSl h at_2 t.goal) (_q4 : t.goal.length ≤ ct2) (at_3 : Option Addr) (ct3 : Nat) (_q5 : RSl h at_3 t.ops) (_q6 : t.ops.length ≤ ct3) (tree : List TNode) (atree : Option Addr) (ctree : Nat) (_q7 : RSl h atree tree) (_q8 : tree.length ≤ ctree) (s_ : List Int) (as_ : Option Addr) (cs_ : Nat) (_q9 : RSl h as_ s_) (_q10 : s_.length ≤ cs_) (hp : pre_crun t tree s_) : Calls Tryz.prog 75 #[.agg #[iV t.facts, .slice at_ t.init.length ct, .slice at_2 t.goal.length ct2, .slice at_3 t.ops.length ct3], .slice atree tree.length ctree, .slice as_ s_.length cs_] w fun e w' => ∃ (z : Option Addr × Nat) (h1 : FH), e = .returned (.tuple #[.slice z.1 (sp_crun t tree s_).1.length z.2, .bool (sp_crun t tree s_).2]) ∧ FH.le h h1 ∧ (RSl h1 z.1 (sp_crun t tree s_).1 ∧ (sp_crun t tree s_).1.length ≤ z.2) ∧ SH (Kp.all w h) h1 w' [] :=
 (w_crun hs t at_ ct _q1 _q2 at_2 ct2 _q3 _q4 at_3 ct3 _q5 _q6 tree atree ctree _q7 _q8 s_ as_ cs_ _q9 _q10 (fun r => r = sp_crun t tree s_) (ok_crun t tree s_ hp)).mono fun _ _ ⟨r, z, h1, hk, he, hl, hf, hS⟩ => by subst hk; exact ⟨z, h1, he, hl, hf, hS⟩
theorem w_cRun {h : FH} {w : World} (hs : Sub h w) (t : Task) (at_ : Option Addr) (ct : Nat) (_q1 : RSl h at_ t.init) (_q2 : t.init.length ≤ ct) (at_2 : Option Addr) (ct2 : Nat) (_q3 : RSl h at_2 t.goal) (_q4 : t.goal.length ≤ ct2) (at_3 : Option Addr) (ct3 : Nat) (_q5 : RSl h at_3 t.ops) (_q6 : t.ops.length ≤ ct3) (sensors : List Int) (asensors : Option Addr) (csensors : Nat) (_q7 : RSl h asensors sensors) (_q8 : sensors.length ≤ csensors) (tree : List TNode) (atree : Option Addr) (ctree : Nat) (_q9 : RSl h atree tree) (_q10 : tree.length ≤ ctree) (s_ : List Int) (as_ : Option Addr) (cs_ : Nat) (_q11 : RSl h as_ s_) (_q12 : s_.length ≤ cs_) (K : (List Int × Bool × Fault) → Prop) (hF : F_cRun t sensors tree s_ K) : Calls Tryz.prog 38 #[.agg #[iV t.facts, .slice at_ t.init.length ct, .slice at_2 t.goal.length ct2, .slice at_3 t.ops.length ct3], .slice asensors sensors.length csensors, .slice atree tree.length ctree, .slice as_ s_.length cs_] w fun e w' => ∃ (r : List Int × Bool × Fault) (z : Option Addr × Nat) (h1 : FH), K r ∧ e = .returned (.tuple #[.slice z.1 r.1.length z.2, .bool r.2.1, .agg #[iV r.2.2.code, iV r.2.2.index]]) ∧ FH.le h h1 ∧ (RSl h1 z.1 r.1 ∧ r.1.length ≤ z.2) ∧ SH (Kp.all w h) h1 w' [] := by
 refine enter (args := [.agg (tF t at_ ct at_2 ct2 at_3 ct3).toArray, vSl asensors sensors csensors, vSl atree tree ctree, vSl as_ s_ cs_]) Tryz.func38 rfl Tryz.ntmps38 rfl hs ?_
 refine .seq (.region ?_)
 refine bx (vs := (tF t at_ ct at_2 ct2 at_3 ct3)) rfl rfl rfl (fun pt => ?_)
 refine .V (asg rfl) ?_
 refine .V (asg rfl) ?_
 refine al tZ27 rfl (fun pv => ?_)
 refine .nil (.seqN (.seq (.seq (.region (.V (ldA (cs := (tF t at_ ct at_2 ct2 at_3 ct3)) rfl tA25 rfl (cellsB (off := 0) (k := 1) rfl (m := 4) rfl)) ?_)))))
 refine .V (mv rfl) ?_
 refine .V (mv rfl) ?_
 obtain ⟨r2, q13⟩ : ∃ y_ : Fault, y_ = sp_cvalidate t sensors tree := ⟨_, rfl⟩
 replace hF := hF r2 q13
 refine .C (cl (v := .agg #[iV r2.code, iV r2.index]) Tryz.call40 rfl rfl (fun w S => (by rw [q13]; exact c_cvalidate S.sub t at_ ct _q1 _q2 at_2 ct2 _q3 _q4 at_3 ct3 _q5 _q6 sensors asensors csensors _q7 _q8 tree atree ctree _q9 _q10 ))) ?_
 refine al tZ27 rfl (fun pf => ?_)
 refine st (p := pf) (off := 0) (k := 0) (vs := [iV r2.code, iV r2.index]) rfl rfl rfl (fun w => (tA27 w).2) rfl rfl rfl rfl ?_
 refine .cast (A' := [Box pf [iV r2.code, iV r2.index], Box pv [iV 0, iV 0], Box pt (tF t at_ ct at_2 ct2 at_3 ct3)]) rfl ?_
 refine .nil (.seqN (.seq (.region (.V (ldA (cs := [iV r2.code, iV r2.index]) rfl tA27 rfl (cellsB (off := 0) (k := 0) rfl (m := 2) rfl)) ?_))))
 refine .V (bld (cs := #[iV 0, iV 0]) (pv := []) tB27 rfl rfl) ?_
 refine .V (ne2 tE27 rfl rfl) ?_
 refine .nil (.seqN ?_)
 refine .cond rfl (fun q15 => ?_) (fun q15 => ?_)
 ·replace hF := hF.1 q15
  refine .seq ?_
  refine .openL (by kernel_rfl) rfl (by kernel_rfl) (by kernel_rfl) ?_
  refine .V (ldA (cs := [iV r2.code, iV r2.index]) rfl tA27 rfl (cellsB (off := 0) (k := 0) rfl (m := 2) rfl)) ?_
  refine .V (asg rfl) ?_
  refine .V (asg rfl) ?_
  refine .tail ?_
  refine st (p := pv) (off := 0) (k := 1) (vs := [iV r2.code, iV r2.index]) rfl rfl rfl (fun w => (tA27 w).2) rfl rfl rfl rfl ?_
  refine .cast (A' := [Box pf [iV r2.code, iV r2.index], Box pv [iV r2.code, iV r2.index], Box pt (tF t at_ ct at_2 ct2 at_3 ct3)]) rfl ?_
  refine .nil (.seqN (.ret (.seqR ?_)))
  refine .res3 rfl (rvT rfl) (rvT rfl) (rvC rfl tA27 (k := 1) rfl rfl) (fun w' S => ⟨(([] : List Int), false, r2), (none, 0), h, hF, rfl, (FH.le_refl _), ⟨RSl.nil_, (Nat.le_refl 0)⟩, S.none⟩)
 replace hF := hF.2 q15
 refine .skip (.seqN (.seq (.seq (.region (.V (mv rfl) ?_)))))
 refine .V (fa rfl tF25_0) ?_
 refine .V (ld1 rfl tO3 (cellB (off := 0) (k := 2) rfl rfl)) ?_
 obtain ⟨q16, hF⟩ := hF
 obtain ⟨r3, q17⟩ : ∃ y_ : Bool, y_ = sp_isSet s_ t.facts := ⟨_, rfl⟩
 replace hF := hF r3 q17
 refine .C (cl (v := .bool r3) Tryz.call61 rfl rfl (fun w S => (by rw [q17]; exact c_isSet S.sub s_ as_ cs_ _q11 _q12 t.facts q16))) ?_
 refine .V (nt rfl) ?_
 refine .nil (.seqN ?_)
 refine .cond rfl (fun q19 => ?_) (fun q19 => ?_)
 ·replace hF := hF.1 q19
  refine .seq (.region (.V (bld (cs := #[iV 5, iV (-4)]) (pv := [(0, iV 5), (1, iV (-4))]) tB27 rfl rfl) ?_))
  refine .V (asg rfl) ?_
  refine .V (asg rfl) ?_
  refine st (p := pv) (off := 0) (k := 1) (vs := [iV 5, iV (-4)]) rfl rfl rfl (fun w => (tA27 w).2) rfl rfl rfl rfl ?_
  refine .cast (A' := [Box pf [iV r2.code, iV r2.index], Box pv [iV 5, iV (-4)], Box pt (tF t at_ ct at_2 ct2 at_3 ct3)]) rfl ?_
  refine .nil (.seqN (.ret (.seqR ?_)))
  refine .res3 rfl (rvT rfl) (rvT rfl) (rvC rfl tA27 (k := 1) rfl rfl) (fun w' S => ⟨(([] : List Int), false, (⟨5, (-4)⟩ : Fault)), (none, 0), h, hF, rfl, (FH.le_refl _), ⟨RSl.nil_, (Nat.le_refl 0)⟩, S.none⟩)
 replace hF := hF.2 q19
 refine .skip (.seqN (.seq (.region (.V (ldA (cs := (tF t at_ ct at_2 ct2 at_3 ct3)) rfl tA25 rfl (cellsB (off := 0) (k := 2) rfl (m := 4) rfl)) ?_))))
 refine .V (mv rfl) ?_
 refine .V (mv rfl) ?_
 obtain ⟨q20, hF⟩ := hF
 obtain ⟨r4, q21⟩ : ∃ y_ : List Int × Bool, y_ = sp_crun t tree s_ := ⟨_, rfl⟩
 replace hF := hF r4 q21
 refine clR (α := Option Addr × Nat) (Φ := fun h1 z => RSl h1 z.1 r4.1 ∧ r4.1.length ≤ z.2) (V := fun z => .tuple #[vSl z.1 r4.1 z.2, .bool r4.2]) Tryz.call75 rfl rfl (fun w S => (by rw [q21]; exact c_crun S.sub t at_ ct _q1 _q2 at_2 ct2 _q3 _q4 at_3 ct3 _q5 _q6 tree atree ctree _q9 _q10 s_ as_ cs_ _q11 _q12 q20)) rfl (fun z h1 le1 hz => ?_)
 obtain ⟨a, c⟩ := z
 obtain ⟨q22, q23⟩ := hz
 refine .V (mv rfl) ?_
 refine .V (ext rfl rfl) ?_
 refine .V (ext rfl rfl) ?_
 refine .V (asg rfl) ?_
 refine .V (asg rfl) ?_
 refine .nil (.seqN (.seq (.region (.V (mv rfl) ?_))))
 refine .V (mv rfl) ?_
 refine .V (bld (cs := #[iV 0, iV 0]) (pv := []) tB27 rfl rfl) ?_
 refine .V (asg rfl) ?_
 refine .V (asg rfl) ?_
 refine st (p := pv) (off := 0) (k := 1) (vs := [iV 0, iV 0]) rfl rfl rfl (fun w => (tA27 w).2) rfl rfl rfl rfl ?_
 refine .cast (A' := [Box pf [iV r2.code, iV r2.index], Box pv [iV 0, iV 0], Box pt (tF t at_ ct at_2 ct2 at_3 ct3)]) rfl ?_
 refine .nil (.seqN (.ret ?_))
 refine .res3 rfl (rvT rfl) (rvT rfl) (rvC rfl tA27 (k := 1) rfl rfl) (fun w' S => ⟨(r4.1, r4.2, (⟨0, 0⟩ : Fault)), (a, c), h1, hF, rfl, (le1), ⟨q22, q23⟩, S.none⟩)
theorem c_cRun {h : FH} {w : World} (hs : Sub h w) (t : Task) (at_ : Option Addr) (ct : Nat) (_q1 : RSl h at_ t.init) (_q2 : t.init.length ≤ ct) (at_2 : Option Addr) (ct2 : Nat) (_q3 : RSl h at_2 t.goal) (_q4 : t.goal.length ≤ ct2) (at_3 : Option Addr) (ct3 : Nat) (_q5 : RSl h at_3 t.ops) (_q6 : t.ops.length ≤ ct3) (sensors : List Int) (asensors : Option Addr) (csensors : Nat) (_q7 : RSl h asensors sensors) (_q8 : sensors.length ≤ csensors) (tree : List TNode) (atree : Option Addr) (ctree : Nat) (_q9 : RSl h atree tree) (_q10 : tree.length ≤ ctree) (s_ : List Int) (as_ : Option Addr) (cs_ : Nat) (_q11 : RSl h as_ s_) (_q12 : s_.length ≤ cs_) : Calls Tryz.prog 38 #[.agg #[iV t.facts, .slice at_ t.init.length ct, .slice at_2 t.goal.length ct2, .slice at_3 t.ops.length ct3], .slice asensors sensors.length csensors, .slice atree tree.length ctree, .slice as_ s_.length cs_] w fun e w' => ∃ (z : Option Addr × Nat) (h1 : FH), e = .returned (.tuple #[.slice z.1 (sp_cRun t sensors tree s_).1.length z.2, .bool (sp_cRun t sensors tree s_).2.1, .agg #[iV (sp_cRun t sensors tree s_).2.2.code, iV (sp_cRun t sensors tree s_).2.2.index]]) ∧ FH.le h h1 ∧ (RSl h1 z.1 (sp_cRun t sensors tree s_).1 ∧ (sp_cRun t sensors tree s_).1.length ≤ z.2) ∧ SH (Kp.all w h) h1 w' [] :=
 (w_cRun hs t at_ ct _q1 _q2 at_2 ct2 _q3 _q4 at_3 ct3 _q5 _q6 sensors asensors csensors _q7 _q8 tree atree ctree _q9 _q10 s_ as_ cs_ _q11 _q12 (fun r => r = sp_cRun t sensors tree s_) (ok_cRun t sensors tree s_)).mono fun _ _ ⟨r, z, h1, hk, he, hl, hf, hS⟩ => by subst hk; exact ⟨z, h1, he, hl, hf, hS⟩
theorem w_split {h : FH} {w : World} (hs : Sub h w) (worlds : List (List Int)) (aworlds : Option Addr) (cworlds : Nat) (_q1 : RSl h aworlds worlds) (_q2 : worlds.length ≤ cworlds) (fact : Int) (K : (List (List Int) × List (List Int)) → Prop) (hF : F_split worlds fact K) : Calls Tryz.prog 97 #[.slice aworlds worlds.length cworlds, iV fact] w fun e w' => ∃ (r : List (List Int) × List (List Int)) (z : Option Addr × Nat × Option Addr × Nat) (h1 : FH), K r ∧ e = .returned (.tuple #[.slice z.1 r.1.length z.2.1, .slice z.2.2.1 r.2.length z.2.2.2]) ∧ FH.le h h1 ∧ (RSl h1 z.1 r.1 ∧ r.1.length ≤ z.2.1 ∧ RSl h1 z.2.2.1 r.2 ∧ r.2.length ≤ z.2.2.2) ∧ SH (Kp.all w h) h1 w' [] := by
 refine enter (args := [vSl aworlds worlds cworlds, iV fact]) Tryz.func97 rfl Tryz.ntmps97 rfl hs ?_
 refine .seq (.region (.V (asg rfl) ?_))
 refine .V (asg rfl) ?_
 refine .nil (.seqN (.seq (.seq (.region (.V (mv rfl) ?_)))))
 refine .V (ln rfl tS35.is) ?_
 refine .V (mv rfl) ?_
 refine .nil (.seqN (.block ?_))
 refine .nilSl 22 1 ?_
 refine .cast (A' := [OwnSl 22 1 none (([] : List (List Int)).length) 0 []]) rfl ?_
 refine .nilSl 22 1 ?_
 refine .cast (A' := [OwnSl 22 1 none (([] : List (List Int)).length) 0 [], OwnSl 22 1 none (([] : List (List Int)).length) 0 []]) rfl ?_
 refine .sel0 [1, 0] (by decide) rfl ?_
 obtain ⟨I1, μ1, q201, q202⟩ := hF
 refine .loop' (σ := Int × List (List Int) × List (List Int) × Option Addr × Nat × List Value × Option Addr × Nat × List Value) (fun z => I1 z.1 z.2.1 z.2.2.1 ∧ RepL h z.2.1 z.2.2.2.2.2.1 ∧ RepL h z.2.2.1 z.2.2.2.2.2.2.2.2) (fun z => μ1 z.1 z.2.1 z.2.2.1) (fun z => [(1, iV fact), (4, vSl z.2.2.2.1 z.2.1 z.2.2.2.2.1), (5, vSl z.2.2.2.2.2.2.1 z.2.2.1 z.2.2.2.2.2.2.2.1), (8, vSl aworlds worlds cworlds), (9, iV ((worlds.length : Nat) : Int)), (10, iV z.1)]) (fun z => [OwnSl 22 1 z.2.2.2.1 z.2.1.length z.2.2.2.2.1 z.2.2.2.2.2.1, OwnSl 22 1 z.2.2.2.2.2.2.1 z.2.2.1.length z.2.2.2.2.2.2.2.1 z.2.2.2.2.2.2.2.2]) (fun _ => h) (0, ([] : List (List Int)), ([] : List (List Int)), none, 0, [], none, 0, []) ⟨q201, (show RepL h ([] : List (List Int)) [] from rfl), (show RepL h ([] : List (List Int)) [] from rfl)⟩ sb rfl (FH.le_refl _) ?_
 rintro ⟨t10, yes, no, ayes, cyes, csyes, ano, cno, csno⟩ ⟨q201, q161, q162⟩
 have hF := q202 t10 yes no q201
 show J _ _ _ _ _ [(1, iV fact), (4, vSl ayes yes cyes), (5, vSl ano no cno), (8, vSl aworlds worlds cworlds), (9, iV ((worlds.length : Nat) : Int)), (10, iV t10)] [OwnSl 22 1 ayes yes.length cyes csyes, OwnSl 22 1 ano no.length cno csno] h
 refine .seq (.region (.V (bi rfl rfl rfl) ?_))
 refine .nil (.seqN (.seq ?_))
 refine .cond rfl (fun q205 => ?_) (fun q205 => ?_)
 ·replace hF := hF.1 q205
  refine .skip (.seqN ?_)
  refine .share (σ := List (List Int) × List (List Int) × Option Addr × Nat × List Value × Option Addr × Nat × List Value) (fun z => F_split_J1 yes no t10 I1 μ1 z.1 z.2.1 ∧ RepL h z.1 z.2.2.2.2.1 ∧ RepL h z.2.1 z.2.2.2.2.2.2.2) (fun z => [(1, iV fact), (4, vSl z.2.2.1 z.1 z.2.2.2.1), (5, vSl z.2.2.2.2.2.1 z.2.1 z.2.2.2.2.2.2.1), (8, vSl aworlds worlds cworlds), (9, iV ((worlds.length : Nat) : Int)), (10, iV t10)]) (fun z => [OwnSl 22 1 z.2.2.1 z.1.length z.2.2.2.1 z.2.2.2.2.1, OwnSl 22 1 z.2.2.2.2.2.1 z.2.1.length z.2.2.2.2.2.2.1 z.2.2.2.2.2.2.2]) (fun _ => h) ?_ (fun q223 => ?_)
  ·rintro ⟨yes3, no3, ayes3, cyes3, csyes3, ano3, cno3, csno3⟩ ⟨hF, q221, q222⟩
   show J _ _ _ _ _ [(1, iV fact), (4, vSl ayes3 yes3 cyes3), (5, vSl ano3 no3 cno3), (8, vSl aworlds worlds cworlds), (9, iV ((worlds.length : Nat) : Int)), (10, iV t10)] [OwnSl 22 1 ayes3 yes3.length cyes3 csyes3, OwnSl 22 1 ano3 no3.length cno3 csno3] h
   refine .region (.V (bi rfl rfl rfl) ?_)
   refine .V (mv rfl) ?_
   refine .nil ?_
   exact .RO (wr (t10 + 1), yes3, no3, ayes3, cyes3, csyes3, ano3, cno3, csno3) ⟨hF.1, q221, q222⟩ hF.2
  refine .block (.seq (.region ?_))
  obtain ⟨q224, hF⟩ := hF
  refine .V (ix rfl rfl tS35 (_q1.ne (by decide) (inb_pos q224)) q224) ?_
  obtain ⟨_, ⟨a, c, rfl, q225, q226⟩, q227⟩ := _q1.elem q224
  refine .V (ld1 (v := .slice a ((gt worlds t10).length) c) rfl tO22 (cellH (q227 (by decide) 0 _ rfl))) ?_
  refine .V (asg rfl) ?_
  refine .nil (.seqN (.seq (.region (.V (mv rfl) ?_))))
  refine .V (mv rfl) ?_
  obtain ⟨q228, hF⟩ := hF
  obtain ⟨r2, q229⟩ : ∃ y_ : Bool, y_ = sp_contains (gt worlds t10) fact := ⟨_, rfl⟩
  replace hF := hF r2 q229
  refine .C (cl (v := .bool r2) Tryz.call101 rfl rfl (fun w S => (by rw [q229]; exact c_contains S.sub (gt worlds t10) a c q226 q225 fact q228))) ?_
  refine .nil (.seqN ?_)
  refine .cond rfl (fun q230 => ?_) (fun q230 => ?_)
  ·replace hF := hF.1 q230
   refine .region (.V (mv rfl) ?_)
   refine .V (mv rfl) ?_
   refine bs2 (cs := #[.slice a ((gt worlds t10).length) c]) (pv := [(0, .slice a ((gt worlds t10).length) c)]) tS35 rfl rfl (by decide) (by decide) rfl rfl rfl (fun a2 _ => ?_)
   refine .cast (A' := [OwnSl 22 1 a2 (([(gt worlds t10)] : List (List Int)).length) 1 [.slice a ((gt worlds t10).length) c], OwnSl 22 1 ayes yes.length cyes csyes, OwnSl 22 1 ano no.length cno csno]) rfl ?_
   obtain ⟨q232, hF⟩ := hF
   have q233 : yes.length + ([(gt worlds t10)] : List (List Int)).length = ((yes ++ ([(gt worlds t10)] : List (List Int)))).length := len_app rfl rfl
   have q234 := RepL.append q161 (show RepL h ([(gt worlds t10)] : List (List Int)) [.slice a ((gt worlds t10).length) c] from ⟨[.slice a ((gt worlds t10).length) c], _, rfl, ⟨a, c, rfl, q225, q226⟩, rfl⟩)
   refine app (k := 1) (news := [.slice a ((gt worlds t10).length) c]) (cs' := (csyes ++ [.slice a ((gt worlds t10).length) c])) (nm := ((yes ++ ([(gt worlds t10)] : List (List Int)))).length) tS35 rfl (by decide) rfl rfl rfl (RepL.len (show RepL h ([(gt worlds t10)] : List (List Int)) [.slice a ((gt worlds t10).length) c] from ⟨[.slice a ((gt worlds t10).length) c], _, rfl, ⟨a, c, rfl, q225, q226⟩, rfl⟩)) (srcS (k := 0) rfl) (RepL.one (show RepL h ([(gt worlds t10)] : List (List Int)) [.slice a ((gt worlds t10).length) c] from ⟨[.slice a ((gt worlds t10).length) c], _, rfl, ⟨a, c, rfl, q225, q226⟩, rfl⟩)) (room_of q233 q232).1 (room_of q233 q232).2 q233 rfl rfl (fun a3 c2 => ?_)
   refine .cast (A' := [OwnSl 22 1 a2 (([(gt worlds t10)] : List (List Int)).length) 1 [.slice a ((gt worlds t10).length) c], OwnSl 22 1 a3 ((yes ++ ([(gt worlds t10)] : List (List Int))).length) c2 (csyes ++ [.slice a ((gt worlds t10).length) c]), OwnSl 22 1 ano no.length cno csno]) rfl ?_
   refine .V (asg rfl) ?_
   refine .nil (.blkN ?_)
   refine .sel0 [1, 2] (by decide) rfl ?_
   exact .US q223 ((yes ++ ([(gt worlds t10)] : List (List Int))), no, a3, c2, (csyes ++ [.slice a ((gt worlds t10).length) c]), ano, cno, csno) ⟨hF, q234, q162⟩
  replace hF := hF.2 q230
  refine .region (.V (mv rfl) ?_)
  refine .V (mv rfl) ?_
  refine bs2 (cs := #[.slice a ((gt worlds t10).length) c]) (pv := [(0, .slice a ((gt worlds t10).length) c)]) tS35 rfl rfl (by decide) (by decide) rfl rfl rfl (fun a4 _ => ?_)
  refine .cast (A' := [OwnSl 22 1 a4 (([(gt worlds t10)] : List (List Int)).length) 1 [.slice a ((gt worlds t10).length) c], OwnSl 22 1 ayes yes.length cyes csyes, OwnSl 22 1 ano no.length cno csno]) rfl ?_
  obtain ⟨q236, hF⟩ := hF
  have q237 : no.length + ([(gt worlds t10)] : List (List Int)).length = ((no ++ ([(gt worlds t10)] : List (List Int)))).length := len_app rfl rfl
  have q238 := RepL.append q162 (show RepL h ([(gt worlds t10)] : List (List Int)) [.slice a ((gt worlds t10).length) c] from ⟨[.slice a ((gt worlds t10).length) c], _, rfl, ⟨a, c, rfl, q225, q226⟩, rfl⟩)
  refine app (k := 2) (news := [.slice a ((gt worlds t10).length) c]) (cs' := (csno ++ [.slice a ((gt worlds t10).length) c])) (nm := ((no ++ ([(gt worlds t10)] : List (List Int)))).length) tS35 rfl (by decide) rfl rfl rfl (RepL.len (show RepL h ([(gt worlds t10)] : List (List Int)) [.slice a ((gt worlds t10).length) c] from ⟨[.slice a ((gt worlds t10).length) c], _, rfl, ⟨a, c, rfl, q225, q226⟩, rfl⟩)) (srcS (k := 0) rfl) (RepL.one (show RepL h ([(gt worlds t10)] : List (List Int)) [.slice a ((gt worlds t10).length) c] from ⟨[.slice a ((gt worlds t10).length) c], _, rfl, ⟨a, c, rfl, q225, q226⟩, rfl⟩)) (room_of q237 q236).1 (room_of q237 q236).2 q237 rfl rfl (fun a5 c3 => ?_)
  refine .cast (A' := [OwnSl 22 1 a4 (([(gt worlds t10)] : List (List Int)).length) 1 [.slice a ((gt worlds t10).length) c], OwnSl 22 1 ayes yes.length cyes csyes, OwnSl 22 1 a5 ((no ++ ([(gt worlds t10)] : List (List Int))).length) c3 (csno ++ [.slice a ((gt worlds t10).length) c])]) rfl ?_
  refine .V (asg rfl) ?_
  refine .nil (.blkN ?_)
  refine .sel0 [1, 2] (by decide) rfl ?_
  exact .US q223 (yes, (no ++ ([(gt worlds t10)] : List (List Int))), ayes, cyes, csyes, a5, c3, (csno ++ [.slice a ((gt worlds t10).length) c])) ⟨hF, q161, q238⟩
 replace hF := hF.2 q205
 refine .exit (.seqX (.seqX (.blkX (.seqN (.seq (.region (.V (mv rfl) ?_)))))))
 refine .V (mv rfl) ?_
 refine .V (asg rfl) ?_
 refine .V (asg rfl) ?_
 refine .nil (.seqN ?_)
 refine .freezeL (k := 1) rfl (fun h1 le1 q240 q239 => ?_)
 refine .cast (A' := [OwnSl 22 1 ayes yes.length cyes csyes, tru]) rfl ?_
 refine .freezeL (k := 0) rfl (fun h2 le2 q242 q241 => ?_)
 refine .cast (A' := [tru, tru]) rfl ?_
 refine .ret ?_
 refine .res2 rfl (rvT rfl) (rvT rfl) (fun w' S => ⟨(yes, no), (ayes, cyes, ano, cno), h2, hF, rfl, (FH.le_trans (le1) (le2)), ⟨(show RSl h2 ayes yes from ⟨_, q161.mono (FH.le_trans (le1) (le2)), q241⟩), (q242), ((show RSl h1 ano no from ⟨_, q162.mono (le1), q239⟩).mono (le2)), (q240)⟩, S.none⟩)
theorem c_split {h : FH} {w : World} (hs : Sub h w) (worlds : List (List Int)) (aworlds : Option Addr) (cworlds : Nat) (_q1 : RSl h aworlds worlds) (_q2 : worlds.length ≤ cworlds) (fact : Int) (hp : pre_split worlds fact) : Calls Tryz.prog 97 #[.slice aworlds worlds.length cworlds, iV fact] w fun e w' => ∃ (z : Option Addr × Nat × Option Addr × Nat) (h1 : FH), e = .returned (.tuple #[.slice z.1 (sp_split worlds fact).1.length z.2.1, .slice z.2.2.1 (sp_split worlds fact).2.length z.2.2.2]) ∧ FH.le h h1 ∧ (RSl h1 z.1 (sp_split worlds fact).1 ∧ (sp_split worlds fact).1.length ≤ z.2.1 ∧ RSl h1 z.2.2.1 (sp_split worlds fact).2 ∧ (sp_split worlds fact).2.length ≤ z.2.2.2) ∧ SH (Kp.all w h) h1 w' [] :=
 (w_split hs worlds aworlds cworlds _q1 _q2 fact (fun r => r = sp_split worlds fact) (ok_split worlds fact hp)).mono fun _ _ ⟨r, z, h1, hk, he, hl, hf, hS⟩ => by subst hk; exact ⟨z, h1, he, hl, hf, hS⟩
set_option maxHeartbeats 8000000 in
theorem w_treeFault {h : FH} {w : World} (hs : Sub h w) (t : Task) (at_ : Option Addr) (ct : Nat) (_q1 : RSl h at_ t.init) (_q2 : t.init.length ≤ ct) (at_2 : Option Addr) (ct2 : Nat) (_q3 : RSl h at_2 t.goal) (_q4 : t.goal.length ≤ ct2) (at_3 : Option Addr) (ct3 : Nat) (_q5 : RSl h at_3 t.ops) (_q6 : t.ops.length ≤ ct3) (sensors : List Int) (asensors : Option Addr) (csensors : Nat) (_q7 : RSl h asensors sensors) (_q8 : sensors.length ≤ csensors) (l : List TNode) (al2 : Option Addr) (cl2 : Nat) (_q9 : RSl h al2 l) (_q10 : l.length ≤ cl2) (K : Fault → Prop) (hF : F_treeFault t sensors l K) : Calls Tryz.prog 39 #[.agg #[iV t.facts, .slice at_ t.init.length ct, .slice at_2 t.goal.length ct2, .slice at_3 t.ops.length ct3], .slice asensors sensors.length csensors, .slice al2 l.length cl2] w fun e w' => ∃ r : Fault, K r ∧ e = .returned (.agg #[iV r.code, iV r.index]) ∧ Below w.heap.size w w' := by
 refine enter (args := [.agg (tF t at_ ct at_2 ct2 at_3 ct3).toArray, vSl asensors sensors csensors, vSl al2 l cl2]) Tryz.func39 rfl Tryz.ntmps39 rfl hs ?_
 refine .seq (.region ?_)
 refine bx (vs := (tF t at_ ct at_2 ct2 at_3 ct3)) rfl rfl rfl (fun pt => ?_)
 refine al tZ27 rfl (fun pv => ?_)
 refine .nil (.seqN (.seq (.seq (.region (.V (ldA (cs := (tF t at_ ct at_2 ct2 at_3 ct3)) rfl tA25 rfl (cellsB (off := 0) (k := 1) rfl (m := 4) rfl)) ?_)))))
 obtain ⟨r2, q11⟩ : ∃ y_ : Fault, y_ = sp_validate t := ⟨_, rfl⟩
 replace hF := hF r2 q11
 refine .C (cl (v := .agg #[iV r2.code, iV r2.index]) Tryz.call53 rfl rfl (fun w S => (by rw [q11]; exact c_taskFault S.sub t at_ ct _q1 _q2 at_2 ct2 _q3 _q4 at_3 ct3 _q5 _q6 ))) ?_
 refine al tZ27 rfl (fun pf => ?_)
 refine st (p := pf) (off := 0) (k := 0) (vs := [iV r2.code, iV r2.index]) rfl rfl rfl (fun w => (tA27 w).2) rfl rfl rfl rfl ?_
 refine .cast (A' := [Box pf [iV r2.code, iV r2.index], Box pv [iV 0, iV 0], Box pt (tF t at_ ct at_2 ct2 at_3 ct3)]) rfl ?_
 refine .nil (.seqN (.seq (.region (.V (fa rfl tF27_0) ?_))))
 refine .V (ld1 rfl tO3 (cellB (off := 0) (k := 0) rfl rfl)) ?_
 refine .V (bi rfl rfl rfl) ?_
 refine .nil (.seqN ?_)
 refine .cond rfl (fun q13 => ?_) (fun q13 => ?_)
 ·replace hF := hF.1 q13
  refine .seq (.region (.V (ldA (cs := [iV r2.code, iV r2.index]) rfl tA27 rfl (cellsB (off := 0) (k := 0) rfl (m := 2) rfl)) ?_))
  refine st (p := pv) (off := 0) (k := 1) (vs := [iV r2.code, iV r2.index]) rfl rfl rfl (fun w => (tA27 w).2) rfl rfl rfl rfl ?_
  refine .cast (A' := [Box pf [iV r2.code, iV r2.index], Box pv [iV r2.code, iV r2.index], Box pt (tF t at_ ct at_2 ct2 at_3 ct3)]) rfl ?_
  refine .nil (.seqN (.ret (.seqR ?_)))
  refine .res1 rfl (rvC rfl tA27 (k := 1) rfl rfl) (fun w' S => ⟨r2, hF, rfl, S.below⟩)
 replace hF := hF.2 q13
 refine .skip (.seqN (.seq (.seq (.region (.V (mv rfl) ?_)))))
 refine .V (fa rfl tF25_0) ?_
 refine .V (ld1 rfl tO3 (cellB (off := 0) (k := 2) rfl rfl)) ?_
 obtain ⟨q14, hF⟩ := hF
 obtain ⟨r3, q15⟩ : ∃ y_ : Bool, y_ = sp_isSet sensors t.facts := ⟨_, rfl⟩
 replace hF := hF r3 q15
 refine .C (cl (v := .bool r3) Tryz.call26 rfl rfl (fun w S => (by rw [q15]; exact c_rIsSet S.sub sensors asensors csensors _q7 _q8 t.facts q14))) ?_
 refine .V (nt rfl) ?_
 refine .nil (.seqN ?_)
 refine .cond rfl (fun q18 => ?_) (fun q18 => ?_)
 ·replace hF := hF.1 q18
  refine .seq (.region ?_)
  obtain ⟨r4, q19⟩ : ∃ y_ : Fault, y_ = sp_at_ 5 (-9) := ⟨_, rfl⟩
  replace hF := hF r4 q19
  refine .C (cl (v := .agg #[iV r4.code, iV r4.index]) Tryz.call18 rfl rfl (fun w S => (by rw [q19]; exact c_at_ S.sub 5 (-9) ))) ?_
  refine st (p := pv) (off := 0) (k := 1) (vs := [iV r4.code, iV r4.index]) rfl rfl rfl (fun w => (tA27 w).2) rfl rfl rfl rfl ?_
  refine .cast (A' := [Box pf [iV r2.code, iV r2.index], Box pv [iV r4.code, iV r4.index], Box pt (tF t at_ ct at_2 ct2 at_3 ct3)]) rfl ?_
  refine .nil (.seqN (.ret (.seqR ?_)))
  refine .res1 rfl (rvC rfl tA27 (k := 1) rfl rfl) (fun w' S => ⟨r4, hF, rfl, S.below⟩)
 replace hF := hF.2 q18
 refine .skip (.seqN (.seq (.seq (.region (.V (mv rfl) ?_)))))
 refine .V (ln rfl tS60.is) ?_
 obtain ⟨r5, q20⟩ : ∃ y_ : Bool, y_ = sp_in_ ((l.length : Nat) : Int) 1 60 := ⟨_, rfl⟩
 replace hF := hF r5 q20
 refine .C (cl (v := .bool r5) Tryz.call25 rfl rfl (fun w S => (by rw [q20]; exact c_in_ S.sub ((l.length : Nat) : Int) 1 60 ))) ?_
 refine .V (nt rfl) ?_
 refine .nil (.seqN ?_)
 refine .cond rfl (fun q23 => ?_) (fun q23 => ?_)
 ·replace hF := hF.1 q23
  refine .seq (.region ?_)
  obtain ⟨r6, q24⟩ : ∃ y_ : Fault, y_ = sp_at_ 9 (-1) := ⟨_, rfl⟩
  replace hF := hF r6 q24
  refine .C (cl (v := .agg #[iV r6.code, iV r6.index]) Tryz.call18 rfl rfl (fun w S => (by rw [q24]; exact c_at_ S.sub 9 (-1) ))) ?_
  refine st (p := pv) (off := 0) (k := 1) (vs := [iV r6.code, iV r6.index]) rfl rfl rfl (fun w => (tA27 w).2) rfl rfl rfl rfl ?_
  refine .cast (A' := [Box pf [iV r2.code, iV r2.index], Box pv [iV r6.code, iV r6.index], Box pt (tF t at_ ct at_2 ct2 at_3 ct3)]) rfl ?_
  refine .nil (.seqN (.ret (.seqR ?_)))
  refine .res1 rfl (rvC rfl tA27 (k := 1) rfl rfl) (fun w' S => ⟨r6, hF, rfl, S.below⟩)
 replace hF := hF.2 q23
 refine .skip (.seqN (.seq (.seq (.region (.V (asg rfl) ?_)))))
 refine .nil (.seqN (.block ?_))
 refine .sel0 [2, 1] (by decide) rfl ?_
 obtain ⟨I1, μ1, q1882, q1883⟩ := hF
 refine .loop' (σ := Int) (fun z => I1 z) (fun z => μ1 z) (fun z => [(1, vSl asensors sensors csensors), (2, vSl al2 l cl2), (3, .pointer (some pt)), (6, .pointer (some pv)), (8, iV z)]) (fun _ => [Box pt (tF t at_ ct at_2 ct2 at_3 ct3), Box pv [iV 0, iV 0]]) (fun _ => h) 0 q1882 sb rfl (FH.le_refl _) ?_
 rintro i q1882
 have hF := q1883 i q1882
 show J _ _ _ _ _ [(1, vSl asensors sensors csensors), (2, vSl al2 l cl2), (3, .pointer (some pt)), (6, .pointer (some pv)), (8, iV i)] [Box pt (tF t at_ ct at_2 ct2 at_3 ct3), Box pv [iV 0, iV 0]] h
 refine .seq (.seq (.region (.V (mv rfl) ?_)))
 refine .V (mv rfl) ?_
 refine .V (ln rfl tS60.is) ?_
 refine .V (bi rfl rfl rfl) ?_
 refine .nil (.seqN ?_)
 refine .cond rfl (fun q1885 => ?_) (fun q1885 => ?_)
 ·replace hF := hF.1 q1885
  refine .skip (.seqN (.seq (.block (.seq (.region (.V (mv rfl) ?_))))))
  refine .V (mv rfl) ?_
  obtain ⟨q2132, hF⟩ := hF
  refine .V (ix rfl rfl tS60 (_q9.ne (by decide) (inb_pos q2132)) q2132) ?_
  refine .V (ldA (cs := [iV ((gt l i).kind), iV ((gt l i).op), iV ((gt l i).fact), iV ((gt l i).yes), iV ((gt l i).no)]) rfl tA102 rfl (cellsH (_q9.elemF q2132 (by decide)))) ?_
  refine al tZ102 rfl (fun pn => ?_)
  refine st (p := pn) (off := 0) (k := 0) (vs := [iV ((gt l i).kind), iV ((gt l i).op), iV ((gt l i).fact), iV ((gt l i).yes), iV ((gt l i).no)]) rfl rfl rfl (fun w => (tA102 w).2) rfl rfl rfl rfl ?_
  refine .cast (A' := [Box pn [iV ((gt l i).kind), iV ((gt l i).op), iV ((gt l i).fact), iV ((gt l i).yes), iV ((gt l i).no)], Box pt (tF t at_ ct at_2 ct2 at_3 ct3), Box pv [iV 0, iV 0]]) rfl ?_
  refine .nil (.seqN (.seq (.region (.V (fa rfl tF102_0) ?_))))
  refine .V (ld1 rfl tO3 (cellB (off := 0) (k := 0) rfl rfl)) ?_
  refine .V (bi rfl rfl rfl) ?_
  refine .V (asg rfl) ?_
  refine .nil (.seqN (.seq (.region (.V (fa rfl tF102_0) ?_))))
  refine .V (ld1 rfl tO3 (cellB (off := 0) (k := 0) rfl rfl)) ?_
  refine .V (bi rfl rfl rfl) ?_
  refine .V (asg rfl) ?_
  refine .nil (.seqN (.seq ?_))
  refine .share (σ := Bool) (fun z => F_treeFault_J1 t sensors l K z i I1 μ1) (fun z => [(1, vSl asensors sensors csensors), (2, vSl al2 l cl2), (3, .pointer (some pt)), (6, .pointer (some pv)), (8, iV i), (9, .pointer (some pn)), (10, .bool (((gt l i).kind) == 2)), (11, .bool (((gt l i).kind) == 3)), (55, .bool z)]) (fun _ => [Box pt (tF t at_ ct at_2 ct2 at_3 ct3), Box pv [iV 0, iV 0], Box pn [iV ((gt l i).kind), iV ((gt l i).op), iV ((gt l i).fact), iV ((gt l i).yes), iV ((gt l i).no)]]) (fun _ => h) ?_ (fun q2135 => ?_)
  ·rintro t55 hF
   show J _ _ _ _ _ [(1, vSl asensors sensors csensors), (2, vSl al2 l cl2), (3, .pointer (some pt)), (6, .pointer (some pv)), (8, iV i), (9, .pointer (some pn)), (10, .bool (((gt l i).kind) == 2)), (11, .bool (((gt l i).kind) == 3)), (55, .bool t55)] [Box pt (tF t at_ ct at_2 ct2 at_3 ct3), Box pv [iV 0, iV 0], Box pn [iV ((gt l i).kind), iV ((gt l i).op), iV ((gt l i).fact), iV ((gt l i).yes), iV ((gt l i).no)]] h
   refine .cond rfl (fun q2138 => ?_) (fun q2138 => ?_)
   ·replace hF := hF.1 q2138
    refine .seq (.region (.V (mv rfl) ?_))
    obtain ⟨r7, q2139⟩ : ∃ y_ : Fault, y_ = sp_at_ 4 i := ⟨_, rfl⟩
    replace hF := hF r7 q2139
    refine .C (cl (v := .agg #[iV r7.code, iV r7.index]) Tryz.call18 rfl rfl (fun w S => (by rw [q2139]; exact c_at_ S.sub 4 i ))) ?_
    refine st (p := pv) (off := 0) (k := 1) (vs := [iV r7.code, iV r7.index]) rfl rfl rfl (fun w => (tA27 w).2) rfl rfl rfl rfl ?_
    refine .cast (A' := [Box pt (tF t at_ ct at_2 ct2 at_3 ct3), Box pv [iV r7.code, iV r7.index], Box pn [iV ((gt l i).kind), iV ((gt l i).op), iV ((gt l i).fact), iV ((gt l i).yes), iV ((gt l i).no)]]) rfl ?_
    refine .nil (.seqN (.ret (.seqR (.blkR (.seqR (.seqR (.blkR (.seqR ?_))))))))
    refine .res1 rfl (rvC rfl tA27 (k := 1) rfl rfl) (fun w' S => ⟨r7, hF, rfl, S.below⟩)
   replace hF := hF.2 q2138
   refine .skip (.seqN (.seq ?_))
   refine .share (σ := Bool) (fun z => F_treeFault_J2 sensors l K z i I1 μ1) (fun z => [(1, vSl asensors sensors csensors), (2, vSl al2 l cl2), (3, .pointer (some pt)), (6, .pointer (some pv)), (8, iV i), (9, .pointer (some pn)), (10, .bool (((gt l i).kind) == 2)), (11, .bool (((gt l i).kind) == 3)), (68, .bool z)]) (fun _ => [Box pt (tF t at_ ct at_2 ct2 at_3 ct3), Box pv [iV 0, iV 0], Box pn [iV ((gt l i).kind), iV ((gt l i).op), iV ((gt l i).fact), iV ((gt l i).yes), iV ((gt l i).no)]]) (fun _ => h) ?_ (fun q2142 => ?_)
   ·rintro t68 hF
    show J _ _ _ _ _ [(1, vSl asensors sensors csensors), (2, vSl al2 l cl2), (3, .pointer (some pt)), (6, .pointer (some pv)), (8, iV i), (9, .pointer (some pn)), (10, .bool (((gt l i).kind) == 2)), (11, .bool (((gt l i).kind) == 3)), (68, .bool t68)] [Box pt (tF t at_ ct at_2 ct2 at_3 ct3), Box pv [iV 0, iV 0], Box pn [iV ((gt l i).kind), iV ((gt l i).op), iV ((gt l i).fact), iV ((gt l i).yes), iV ((gt l i).no)]] h
    refine .cond rfl (fun q2145 => ?_) (fun q2145 => ?_)
    ·replace hF := hF.1 q2145
     refine .seq (.region (.V (mv rfl) ?_))
     obtain ⟨r8, q2146⟩ : ∃ y_ : Fault, y_ = sp_at_ 3 i := ⟨_, rfl⟩
     replace hF := hF r8 q2146
     refine .C (cl (v := .agg #[iV r8.code, iV r8.index]) Tryz.call18 rfl rfl (fun w S => (by rw [q2146]; exact c_at_ S.sub 3 i ))) ?_
     refine st (p := pv) (off := 0) (k := 1) (vs := [iV r8.code, iV r8.index]) rfl rfl rfl (fun w => (tA27 w).2) rfl rfl rfl rfl ?_
     refine .cast (A' := [Box pt (tF t at_ ct at_2 ct2 at_3 ct3), Box pv [iV r8.code, iV r8.index], Box pn [iV ((gt l i).kind), iV ((gt l i).op), iV ((gt l i).fact), iV ((gt l i).yes), iV ((gt l i).no)]]) rfl ?_
     refine .nil (.seqN (.ret (.seqR (.blkR (.seqR (.seqR (.blkR (.seqR ?_))))))))
     refine .res1 rfl (rvC rfl tA27 (k := 1) rfl rfl) (fun w' S => ⟨r8, hF, rfl, S.below⟩)
    replace hF := hF.2 q2145
    refine .skip (.seqN (.seq ?_))
    refine .share (σ := Bool) (fun z => F_treeFault_J3 l K z i I1 μ1) (fun z => [(1, vSl asensors sensors csensors), (2, vSl al2 l cl2), (3, .pointer (some pt)), (6, .pointer (some pv)), (8, iV i), (9, .pointer (some pn)), (10, .bool (((gt l i).kind) == 2)), (11, .bool (((gt l i).kind) == 3)), (78, .bool z)]) (fun _ => [Box pt (tF t at_ ct at_2 ct2 at_3 ct3), Box pv [iV 0, iV 0], Box pn [iV ((gt l i).kind), iV ((gt l i).op), iV ((gt l i).fact), iV ((gt l i).yes), iV ((gt l i).no)]]) (fun _ => h) ?_ (fun q2150 => ?_)
    ·rintro t78 hF
     show J _ _ _ _ _ [(1, vSl asensors sensors csensors), (2, vSl al2 l cl2), (3, .pointer (some pt)), (6, .pointer (some pv)), (8, iV i), (9, .pointer (some pn)), (10, .bool (((gt l i).kind) == 2)), (11, .bool (((gt l i).kind) == 3)), (78, .bool t78)] [Box pt (tF t at_ ct at_2 ct2 at_3 ct3), Box pv [iV 0, iV 0], Box pn [iV ((gt l i).kind), iV ((gt l i).op), iV ((gt l i).fact), iV ((gt l i).yes), iV ((gt l i).no)]] h
     refine .cond rfl (fun q2153 => ?_) (fun q2153 => ?_)
     ·replace hF := hF.1 q2153
      refine .seq (.region (.V (mv rfl) ?_))
      obtain ⟨r9, q2154⟩ : ∃ y_ : Fault, y_ = sp_at_ 6 i := ⟨_, rfl⟩
      replace hF := hF r9 q2154
      refine .C (cl (v := .agg #[iV r9.code, iV r9.index]) Tryz.call18 rfl rfl (fun w S => (by rw [q2154]; exact c_at_ S.sub 6 i ))) ?_
      refine st (p := pv) (off := 0) (k := 1) (vs := [iV r9.code, iV r9.index]) rfl rfl rfl (fun w => (tA27 w).2) rfl rfl rfl rfl ?_
      refine .cast (A' := [Box pt (tF t at_ ct at_2 ct2 at_3 ct3), Box pv [iV r9.code, iV r9.index], Box pn [iV ((gt l i).kind), iV ((gt l i).op), iV ((gt l i).fact), iV ((gt l i).yes), iV ((gt l i).no)]]) rfl ?_
      refine .nil (.seqN (.ret (.seqR (.blkR (.seqR (.seqR (.blkR (.seqR ?_))))))))
      refine .res1 rfl (rvC rfl tA27 (k := 1) rfl rfl) (fun w' S => ⟨r9, hF, rfl, S.below⟩)
     replace hF := hF.2 q2153
     refine .skip (.seqN ?_)
     refine .share (σ := Bool) (fun z => F_treeFault_J4 K z i I1 μ1) (fun z => [(1, vSl asensors sensors csensors), (2, vSl al2 l cl2), (3, .pointer (some pt)), (6, .pointer (some pv)), (8, iV i), (139, .bool z)]) (fun _ => [Box pt (tF t at_ ct at_2 ct2 at_3 ct3), Box pv [iV 0, iV 0]]) (fun _ => h) ?_ (fun q2200 => ?_)
     ·rintro t139 hF
      show J _ _ _ _ _ [(1, vSl asensors sensors csensors), (2, vSl al2 l cl2), (3, .pointer (some pt)), (6, .pointer (some pv)), (8, iV i), (139, .bool t139)] [Box pt (tF t at_ ct at_2 ct2 at_3 ct3), Box pv [iV 0, iV 0]] h
      refine .cond rfl (fun q2201 => ?_) (fun q2201 => ?_)
      ·replace hF := hF.1 q2201
       refine .seq (.region (.V (mv rfl) ?_))
       obtain ⟨r10, q2202⟩ : ∃ y_ : Fault, y_ = sp_at_ 5 i := ⟨_, rfl⟩
       replace hF := hF r10 q2202
       refine .C (cl (v := .agg #[iV r10.code, iV r10.index]) Tryz.call18 rfl rfl (fun w S => (by rw [q2202]; exact c_at_ S.sub 5 i ))) ?_
       refine st (p := pv) (off := 0) (k := 1) (vs := [iV r10.code, iV r10.index]) rfl rfl rfl (fun w => (tA27 w).2) rfl rfl rfl rfl ?_
       refine .cast (A' := [Box pt (tF t at_ ct at_2 ct2 at_3 ct3), Box pv [iV r10.code, iV r10.index]]) rfl ?_
       refine .nil (.seqN (.ret (.blkR (.seqR (.seqR (.blkR (.seqR ?_)))))))
       refine .res1 rfl (rvC rfl tA27 (k := 1) rfl rfl) (fun w' S => ⟨r10, hF, rfl, S.below⟩)
      replace hF := hF.2 q2201
      refine .skip (.blkN (.seqN (.region (.V (mv rfl) ?_))))
      refine .V (bi rfl rfl rfl) ?_
      refine .V (asg rfl) ?_
      refine .nil ?_
      exact .RO (wr (i + 1)) hF.1 hF.2
     refine .region (.V (mv rfl) ?_)
     refine .V (nt rfl) ?_
     refine .V (mv rfl) ?_
     rcases Bool.eq_false_or_eq_true (!(((gt l i).kind) == 2)) with q2203 | q2203
     ·replace hF := hF.1 q2203
      refine .GV (fa rfl tF102_1) q2203 ?_
      refine .GV (ld1 rfl tO3 (cellB (off := 1) (k := 2) rfl rfl)) q2203 ?_
      refine .GV (bi rfl rfl rfl) q2203 ?_
      refine .V (pkT rfl q2203 rfl) ?_
      refine .V (mv rfl) ?_
      rcases Bool.eq_false_or_eq_true (((gt l i).op) != 0) with q2204 | q2204
      ·replace hF := hF.1 q2204
       refine .GS q2204 ?_
       refine .GS q2204 ?_
       refine .GS q2204 ?_
       refine .GU ?_
       refine .GU ?_
       refine .GU ?_
       refine .GU ?_
       refine .GU ?_
       refine .GU ?_
       refine .GU ?_
       refine .GU ?_
       refine .GS q2204 ?_
       refine .V (pkT rfl q2204 rfl) ?_
       refine .V (mv rfl) ?_
       refine .gS rfl rfl rfl rfl rfl rfl ?_
       refine .gS rfl rfl rfl rfl rfl rfl ?_
       refine .gS rfl rfl rfl rfl rfl rfl ?_
       refine .GU ?_
       refine .GU ?_
       refine .gS rfl rfl rfl rfl rfl rfl ?_
       refine .gS rfl rfl rfl rfl rfl rfl ?_
       refine .GU ?_
       refine .GU ?_
       refine .GU ?_
       refine .gS rfl rfl rfl rfl rfl rfl ?_
       refine .V (pkT rfl rfl rfl) ?_
       refine .V (mv rfl) ?_
       refine .gS rfl rfl rfl rfl rfl rfl ?_
       refine .gS rfl rfl rfl rfl rfl rfl ?_
       refine .GU ?_
       refine .gS rfl rfl rfl rfl rfl rfl ?_
       refine .gS rfl rfl rfl rfl rfl rfl ?_
       refine .GU ?_
       refine .GU ?_
       refine .GU ?_
       refine .GU ?_
       refine .GU ?_
       refine .GU ?_
       refine .gS rfl rfl rfl rfl rfl rfl ?_
       refine .V (pkT rfl rfl rfl) ?_
       refine .V (mv rfl) ?_
       refine .gS rfl rfl rfl rfl rfl rfl ?_
       refine .gS rfl rfl rfl rfl rfl rfl ?_
       refine .GU ?_
       refine .GU ?_
       refine .GU ?_
       refine .GU ?_
       refine .GU ?_
       refine .GU ?_
       refine .gS rfl rfl rfl rfl rfl rfl ?_
       refine .V (pkT rfl rfl rfl) ?_
       refine .nil ?_
       refine .sel0 [0, 1] (by decide) rfl ?_
       exact .US q2200 true hF
      replace hF := hF.2 q2204
      refine .GV (mv rfl) q2204 ?_
      refine .GV (nt rfl) q2204 ?_
      refine .GV (mv rfl) q2204 ?_
      rcases Bool.eq_false_or_eq_true (!(((gt l i).kind) == 3)) with q2205 | q2205
      ·replace hF := hF.1 q2205
       refine .GV (fa rfl tF102_2) q2205 ?_
       refine .GV (ld1 rfl tO3 (cellB (off := 2) (k := 2) rfl rfl)) q2205 ?_
       refine .GV (bi rfl rfl rfl) q2205 ?_
       refine .GV (mv rfl) q2205 ?_
       rcases Bool.eq_false_or_eq_true (((gt l i).fact) != 0) with q2206 | q2206
       ·replace hF := hF.1 q2206
        refine .GS q2206 ?_
        refine .GS q2206 ?_
        refine .GS q2206 ?_
        refine .GV (pkT rfl q2206 rfl) q2205 ?_
        refine .GV (pkT rfl q2205 rfl) q2204 ?_
        refine .V (pkF rfl q2204 rfl) ?_
        refine .V (mv rfl) ?_
        refine .gS rfl rfl rfl rfl rfl rfl ?_
        refine .gS rfl rfl rfl rfl rfl rfl ?_
        refine .gS rfl rfl rfl rfl rfl rfl ?_
        refine .GU ?_
        refine .GU ?_
        refine .gS rfl rfl rfl rfl rfl rfl ?_
        refine .gS rfl rfl rfl rfl rfl rfl ?_
        refine .GU ?_
        refine .GU ?_
        refine .GU ?_
        refine .gS rfl rfl rfl rfl rfl rfl ?_
        refine .V (pkT rfl rfl rfl) ?_
        refine .V (mv rfl) ?_
        refine .gS rfl rfl rfl rfl rfl rfl ?_
        refine .gS rfl rfl rfl rfl rfl rfl ?_
        refine .GU ?_
        refine .gS rfl rfl rfl rfl rfl rfl ?_
        refine .gS rfl rfl rfl rfl rfl rfl ?_
        refine .GU ?_
        refine .GU ?_
        refine .GU ?_
        refine .GU ?_
        refine .GU ?_
        refine .GU ?_
        refine .gS rfl rfl rfl rfl rfl rfl ?_
        refine .V (pkT rfl rfl rfl) ?_
        refine .V (mv rfl) ?_
        refine .gS rfl rfl rfl rfl rfl rfl ?_
        refine .gS rfl rfl rfl rfl rfl rfl ?_
        refine .GU ?_
        refine .GU ?_
        refine .GU ?_
        refine .GU ?_
        refine .GU ?_
        refine .GU ?_
        refine .gS rfl rfl rfl rfl rfl rfl ?_
        refine .V (pkT rfl rfl rfl) ?_
        refine .nil ?_
        refine .sel0 [0, 1] (by decide) rfl ?_
        exact .US q2200 true hF
       replace hF := hF.2 q2206
       refine .GV (fa rfl tF102_4) q2206 ?_
       refine .GV (ld1 rfl tO3 (cellB (off := 4) (k := 2) rfl rfl)) q2206 ?_
       refine .GV (bi rfl rfl rfl) q2206 ?_
       refine .GV (pkF rfl q2206 rfl) q2205 ?_
       refine .GV (pkT rfl q2205 rfl) q2204 ?_
       refine .V (pkF rfl q2204 rfl) ?_
       refine .V (mv rfl) ?_
       rcases Bool.eq_false_or_eq_true (((gt l i).no) != 0) with q2207 | q2207
       ·replace hF := hF.1 q2207
        refine .GS q2207 ?_
        refine .GS q2207 ?_
        refine .GS q2207 ?_
        refine .GU ?_
        refine .GU ?_
        refine .GS q2207 ?_
        refine .GS q2207 ?_
        refine .GU ?_
        refine .GU ?_
        refine .GU ?_
        refine .GS q2207 ?_
        refine .V (pkT rfl q2207 rfl) ?_
        refine .V (mv rfl) ?_
        refine .gS rfl rfl rfl rfl rfl rfl ?_
        refine .gS rfl rfl rfl rfl rfl rfl ?_
        refine .GU ?_
        refine .gS rfl rfl rfl rfl rfl rfl ?_
        refine .gS rfl rfl rfl rfl rfl rfl ?_
        refine .GU ?_
        refine .GU ?_
        refine .GU ?_
        refine .GU ?_
        refine .GU ?_
        refine .GU ?_
        refine .gS rfl rfl rfl rfl rfl rfl ?_
        refine .V (pkT rfl rfl rfl) ?_
        refine .V (mv rfl) ?_
        refine .gS rfl rfl rfl rfl rfl rfl ?_
        refine .gS rfl rfl rfl rfl rfl rfl ?_
        refine .GU ?_
        refine .GU ?_
        refine .GU ?_
        refine .GU ?_
        refine .GU ?_
        refine .GU ?_
        refine .gS rfl rfl rfl rfl rfl rfl ?_
        refine .V (pkT rfl rfl rfl) ?_
        refine .nil ?_
        refine .sel0 [0, 1] (by decide) rfl ?_
        exact .US q2200 true hF
       replace hF := hF.2 q2207
       refine .GV (mv rfl) q2207 ?_
       refine .GV (nt rfl) q2207 ?_
       refine .GV (mv rfl) q2207 ?_
       refine .GV (mv rfl) q2203 ?_
       refine .GV (nt rfl) q2203 ?_
       refine .GV (pkT rfl q2203 rfl) q2207 ?_
       refine .GV (mv rfl) q2207 ?_
       refine .GV (fa rfl tF102_3) q2205 ?_
       refine .GV (ld1 rfl tO3 (cellB (off := 3) (k := 2) rfl rfl)) q2205 ?_
       refine .GV (bi rfl rfl rfl) q2205 ?_
       refine .GV (pkT rfl q2205 rfl) q2207 ?_
       refine .V (pkF rfl q2207 rfl) ?_
       refine .V (mv rfl) ?_
       rcases Bool.eq_false_or_eq_true (((gt l i).yes) != 0) with q2208 | q2208
       ·replace hF := hF.1 q2208
        refine .GS q2208 ?_
        refine .GS q2208 ?_
        refine .GU ?_
        refine .GS q2208 ?_
        refine .GS q2208 ?_
        refine .GU ?_
        refine .GU ?_
        refine .GU ?_
        refine .GU ?_
        refine .GU ?_
        refine .GU ?_
        refine .GS q2208 ?_
        refine .V (pkT rfl q2208 rfl) ?_
        refine .V (mv rfl) ?_
        refine .gS rfl rfl rfl rfl rfl rfl ?_
        refine .gS rfl rfl rfl rfl rfl rfl ?_
        refine .GU ?_
        refine .GU ?_
        refine .GU ?_
        refine .GU ?_
        refine .GU ?_
        refine .GU ?_
        refine .gS rfl rfl rfl rfl rfl rfl ?_
        refine .V (pkT rfl rfl rfl) ?_
        refine .nil ?_
        refine .sel0 [0, 1] (by decide) rfl ?_
        exact .US q2200 true hF
       replace hF := hF.2 q2208
       refine .GV (mv rfl) q2208 ?_
       refine .GV (mv rfl) q2208 ?_
       rcases Bool.eq_false_or_eq_true (((gt l i).kind) == 2) with q2209 | q2209
       ·replace hF := hF.1 q2209
        refine .GS q2209 ?_
        refine .GV (pkT rfl q2209 rfl) q2208 ?_
        refine .GV (mv rfl) q2208 ?_
        refine .gv (fa rfl tF102_3) rfl rfl rfl rfl rfl rfl ?_
        refine .gv (ld1 rfl tO3 (cellB (off := 3) (k := 2) rfl rfl)) rfl rfl rfl rfl rfl rfl ?_
        refine .gv (mv rfl) rfl rfl rfl rfl rfl rfl ?_
        refine .gv (bi rfl rfl rfl) rfl rfl rfl rfl rfl rfl ?_
        obtain ⟨r11, q2210⟩ : ∃ y_ : Bool, y_ = sp_in_ ((gt l i).yes) 0 (wr (i - 1)) := ⟨_, rfl⟩
        replace hF := hF r11 q2210
        refine .gc (cl (v := .bool r11) Tryz.call25 rfl rfl (fun w S => (by rw [q2210]; exact c_in_ S.sub ((gt l i).yes) 0 (wr (i - 1)) ))) rfl rfl rfl rfl rfl rfl ?_
        refine .gv (nt rfl) rfl rfl rfl rfl rfl rfl ?_
        refine .GV (pkT rfl rfl rfl) q2208 ?_
        refine .V (pkF rfl q2208 rfl) ?_
        refine .V (mv rfl) ?_
        rcases Bool.eq_false_or_eq_true (!r11) with q2211 | q2211
        ·replace hF := hF.1 q2211
         refine .GS q2211 ?_
         refine .GS q2211 ?_
         refine .GU ?_
         refine .GU ?_
         refine .GU ?_
         refine .GU ?_
         refine .GU ?_
         refine .GU ?_
         refine .GS q2211 ?_
         refine .V (pkT rfl q2211 rfl) ?_
         refine .nil ?_
         refine .sel0 [0, 1] (by decide) rfl ?_
         exact .US q2200 true hF
        replace hF := hF.2 q2211
        refine .GV (mv rfl) q2211 ?_
        refine .GV (mv rfl) q2211 ?_
        rcases Bool.eq_false_or_eq_true (((gt l i).kind) == 3) with q2212 | q2212
        ·replace hF := hF.1 q2212
         refine .GV (fa rfl tF102_4) q2212 ?_
         refine .GV (ld1 rfl tO3 (cellB (off := 4) (k := 2) rfl rfl)) q2212 ?_
         refine .GV (mv rfl) q2212 ?_
         refine .GV (bi rfl rfl rfl) q2212 ?_
         obtain ⟨r12, q2213⟩ : ∃ y_ : Bool, y_ = sp_in_ ((gt l i).no) 0 (wr (i - 1)) := ⟨_, rfl⟩
         replace hF := hF r12 q2213
         refine .gc (cl (v := .bool r12) Tryz.call25 rfl rfl (fun w S => (by rw [q2213]; exact c_in_ S.sub ((gt l i).no) 0 (wr (i - 1)) ))) rfl rfl rfl q2212 rfl rfl ?_
         refine .GV (nt rfl) q2212 ?_
         refine .GV (pkT rfl q2212 rfl) q2211 ?_
         refine .V (pkF rfl q2211 rfl) ?_
         refine .nil ?_
         refine .sel0 [0, 1] (by decide) rfl ?_
         exact .US q2200 (!r12) hF
        replace hF := hF.2 q2212
        refine .GS q2212 ?_
        refine .GS q2212 ?_
        refine .GS q2212 ?_
        refine .GS q2212 ?_
        refine .GS q2212 ?_
        refine .GS q2212 ?_
        refine .GV (pkF rfl q2212 rfl) q2211 ?_
        refine .V (pkF rfl q2211 rfl) ?_
        refine .nil ?_
        refine .sel0 [0, 1] (by decide) rfl ?_
        exact .US q2200 false hF
       replace hF := hF.2 q2209
       refine .GV (mv rfl) q2209 ?_
       refine .GV (pkF rfl q2209 rfl) q2208 ?_
       refine .GV (mv rfl) q2208 ?_
       rcases Bool.eq_false_or_eq_true (((gt l i).kind) == 3) with q2214 | q2214
       ·replace hF := hF.1 q2214
        refine .GV (fa rfl tF102_3) q2214 ?_
        refine .GV (ld1 rfl tO3 (cellB (off := 3) (k := 2) rfl rfl)) q2214 ?_
        refine .GV (mv rfl) q2214 ?_
        refine .GV (bi rfl rfl rfl) q2214 ?_
        obtain ⟨r13, q2215⟩ : ∃ y_ : Bool, y_ = sp_in_ ((gt l i).yes) 0 (wr (i - 1)) := ⟨_, rfl⟩
        replace hF := hF r13 q2215
        refine .gc (cl (v := .bool r13) Tryz.call25 rfl rfl (fun w S => (by rw [q2215]; exact c_in_ S.sub ((gt l i).yes) 0 (wr (i - 1)) ))) rfl rfl rfl q2214 rfl rfl ?_
        refine .GV (nt rfl) q2214 ?_
        refine .GV (pkT rfl q2214 rfl) q2208 ?_
        refine .V (pkF rfl q2208 rfl) ?_
        refine .V (mv rfl) ?_
        rcases Bool.eq_false_or_eq_true (!r13) with q2216 | q2216
        ·replace hF := hF.1 q2216
         refine .GS q2216 ?_
         refine .GS q2216 ?_
         refine .GU ?_
         refine .GU ?_
         refine .GU ?_
         refine .GU ?_
         refine .GU ?_
         refine .GU ?_
         refine .GS q2216 ?_
         refine .V (pkT rfl q2216 rfl) ?_
         refine .nil ?_
         refine .sel0 [0, 1] (by decide) rfl ?_
         exact .US q2200 true hF
        replace hF := hF.2 q2216
        refine .GV (mv rfl) q2216 ?_
        refine .GV (mv rfl) q2216 ?_
        refine .GV (fa rfl tF102_4) q2214 ?_
        refine .GV (ld1 rfl tO3 (cellB (off := 4) (k := 2) rfl rfl)) q2214 ?_
        refine .GV (mv rfl) q2214 ?_
        refine .GV (bi rfl rfl rfl) q2214 ?_
        obtain ⟨r14, q2217⟩ : ∃ y_ : Bool, y_ = sp_in_ ((gt l i).no) 0 (wr (i - 1)) := ⟨_, rfl⟩
        replace hF := hF r14 q2217
        refine .gc (cl (v := .bool r14) Tryz.call25 rfl rfl (fun w S => (by rw [q2217]; exact c_in_ S.sub ((gt l i).no) 0 (wr (i - 1)) ))) rfl rfl rfl q2214 rfl rfl ?_
        refine .GV (nt rfl) q2214 ?_
        refine .GV (pkT rfl q2214 rfl) q2216 ?_
        refine .V (pkF rfl q2216 rfl) ?_
        refine .nil ?_
        refine .sel0 [0, 1] (by decide) rfl ?_
        exact .US q2200 (!r14) hF
       replace hF := hF.2 q2214
       refine .GS q2214 ?_
       refine .GS q2214 ?_
       refine .GS q2214 ?_
       refine .GS q2214 ?_
       refine .GS q2214 ?_
       refine .GS q2214 ?_
       refine .GV (pkF rfl q2214 rfl) q2208 ?_
       refine .V (pkF rfl q2208 rfl) ?_
       refine .V (mv rfl) ?_
       refine .gv (mv rfl) rfl rfl rfl rfl rfl rfl ?_
       refine .gv (mv rfl) rfl rfl rfl rfl rfl rfl ?_
       refine .GS q2214 ?_
       refine .GS q2214 ?_
       refine .GS q2214 ?_
       refine .GS q2214 ?_
       refine .GS q2214 ?_
       refine .GS q2214 ?_
       refine .gv (pkF rfl q2214 rfl) rfl rfl rfl rfl rfl rfl ?_
       refine .V (pkF rfl rfl rfl) ?_
       refine .nil ?_
       refine .sel0 [0, 1] (by decide) rfl ?_
       exact .US q2200 false hF
      replace hF := hF.2 q2205
      refine .GS q2205 ?_
      refine .GS q2205 ?_
      refine .GS q2205 ?_
      refine .GS q2205 ?_
      refine .GU ?_
      refine .GU ?_
      refine .GU ?_
      refine .GS q2205 ?_
      refine .GV (pkF rfl q2205 rfl) q2204 ?_
      refine .V (pkF rfl q2204 rfl) ?_
      refine .V (mv rfl) ?_
      refine .gv (mv rfl) rfl rfl rfl rfl rfl rfl ?_
      refine .gv (nt rfl) rfl rfl rfl rfl rfl rfl ?_
      refine .gv (mv rfl) rfl rfl rfl rfl rfl rfl ?_
      refine .GV (mv rfl) q2203 ?_
      refine .GV (nt rfl) q2203 ?_
      refine .gv (pkT rfl q2203 rfl) rfl rfl rfl rfl rfl rfl ?_
      refine .gv (mv rfl) rfl rfl rfl rfl rfl rfl ?_
      refine .GS q2205 ?_
      refine .GS q2205 ?_
      refine .GS q2205 ?_
      refine .gv (pkF rfl q2205 rfl) rfl rfl rfl rfl rfl rfl ?_
      refine .V (pkF rfl rfl rfl) ?_
      refine .V (mv rfl) ?_
      refine .gv (mv rfl) rfl rfl rfl rfl rfl rfl ?_
      refine .gv (mv rfl) rfl rfl rfl rfl rfl rfl ?_
      rcases Bool.eq_false_or_eq_true (((gt l i).kind) == 2) with q2218 | q2218
      ·replace hF := hF.1 q2218
       refine .GS q2218 ?_
       refine .gv (pkT rfl q2218 rfl) rfl rfl rfl rfl rfl rfl ?_
       refine .gv (mv rfl) rfl rfl rfl rfl rfl rfl ?_
       refine .gv (fa rfl tF102_3) rfl rfl rfl rfl rfl rfl ?_
       refine .gv (ld1 rfl tO3 (cellB (off := 3) (k := 2) rfl rfl)) rfl rfl rfl rfl rfl rfl ?_
       refine .gv (mv rfl) rfl rfl rfl rfl rfl rfl ?_
       refine .gv (bi rfl rfl rfl) rfl rfl rfl rfl rfl rfl ?_
       obtain ⟨r15, q2219⟩ : ∃ y_ : Bool, y_ = sp_in_ ((gt l i).yes) 0 (wr (i - 1)) := ⟨_, rfl⟩
       replace hF := hF r15 q2219
       refine .gc (cl (v := .bool r15) Tryz.call25 rfl rfl (fun w S => (by rw [q2219]; exact c_in_ S.sub ((gt l i).yes) 0 (wr (i - 1)) ))) rfl rfl rfl rfl rfl rfl ?_
       refine .gv (nt rfl) rfl rfl rfl rfl rfl rfl ?_
       refine .gv (pkT rfl rfl rfl) rfl rfl rfl rfl rfl rfl ?_
       refine .V (pkF rfl rfl rfl) ?_
       refine .V (mv rfl) ?_
       rcases Bool.eq_false_or_eq_true (!r15) with q2220 | q2220
       ·replace hF := hF.1 q2220
        refine .GS q2220 ?_
        refine .GS q2220 ?_
        refine .GU ?_
        refine .GU ?_
        refine .GU ?_
        refine .GU ?_
        refine .GU ?_
        refine .GU ?_
        refine .GS q2220 ?_
        refine .V (pkT rfl q2220 rfl) ?_
        refine .nil ?_
        refine .sel0 [0, 1] (by decide) rfl ?_
        exact .US q2200 true hF
       replace hF := hF.2 q2220
       refine .GV (mv rfl) q2220 ?_
       refine .GV (mv rfl) q2220 ?_
       rcases Bool.eq_false_or_eq_true (((gt l i).kind) == 3) with q2221 | q2221
       ·replace hF := hF.1 q2221
        refine .GV (fa rfl tF102_4) q2221 ?_
        refine .GV (ld1 rfl tO3 (cellB (off := 4) (k := 2) rfl rfl)) q2221 ?_
        refine .GV (mv rfl) q2221 ?_
        refine .GV (bi rfl rfl rfl) q2221 ?_
        obtain ⟨r16, q2222⟩ : ∃ y_ : Bool, y_ = sp_in_ ((gt l i).no) 0 (wr (i - 1)) := ⟨_, rfl⟩
        replace hF := hF r16 q2222
        refine .gc (cl (v := .bool r16) Tryz.call25 rfl rfl (fun w S => (by rw [q2222]; exact c_in_ S.sub ((gt l i).no) 0 (wr (i - 1)) ))) rfl rfl rfl q2221 rfl rfl ?_
        refine .GV (nt rfl) q2221 ?_
        refine .GV (pkT rfl q2221 rfl) q2220 ?_
        refine .V (pkF rfl q2220 rfl) ?_
        refine .nil ?_
        refine .sel0 [0, 1] (by decide) rfl ?_
        exact .US q2200 (!r16) hF
       replace hF := hF.2 q2221
       refine .GS q2221 ?_
       refine .GS q2221 ?_
       refine .GS q2221 ?_
       refine .GS q2221 ?_
       refine .GS q2221 ?_
       refine .GS q2221 ?_
       refine .GV (pkF rfl q2221 rfl) q2220 ?_
       refine .V (pkF rfl q2220 rfl) ?_
       refine .nil ?_
       refine .sel0 [0, 1] (by decide) rfl ?_
       exact .US q2200 false hF
      replace hF := hF.2 q2218
      refine .GV (mv rfl) q2218 ?_
      refine .gv (pkF rfl q2218 rfl) rfl rfl rfl rfl rfl rfl ?_
      refine .gv (mv rfl) rfl rfl rfl rfl rfl rfl ?_
      rcases Bool.eq_false_or_eq_true (((gt l i).kind) == 3) with q2223 | q2223
      ·replace hF := hF.1 q2223
       refine .GV (fa rfl tF102_3) q2223 ?_
       refine .GV (ld1 rfl tO3 (cellB (off := 3) (k := 2) rfl rfl)) q2223 ?_
       refine .GV (mv rfl) q2223 ?_
       refine .GV (bi rfl rfl rfl) q2223 ?_
       obtain ⟨r17, q2224⟩ : ∃ y_ : Bool, y_ = sp_in_ ((gt l i).yes) 0 (wr (i - 1)) := ⟨_, rfl⟩
       replace hF := hF r17 q2224
       refine .gc (cl (v := .bool r17) Tryz.call25 rfl rfl (fun w S => (by rw [q2224]; exact c_in_ S.sub ((gt l i).yes) 0 (wr (i - 1)) ))) rfl rfl rfl q2223 rfl rfl ?_
       refine .GV (nt rfl) q2223 ?_
       refine .gv (pkT rfl q2223 rfl) rfl rfl rfl rfl rfl rfl ?_
       refine .V (pkF rfl rfl rfl) ?_
       refine .V (mv rfl) ?_
       rcases Bool.eq_false_or_eq_true (!r17) with q2225 | q2225
       ·replace hF := hF.1 q2225
        refine .GS q2225 ?_
        refine .GS q2225 ?_
        refine .GU ?_
        refine .GU ?_
        refine .GU ?_
        refine .GU ?_
        refine .GU ?_
        refine .GU ?_
        refine .GS q2225 ?_
        refine .V (pkT rfl q2225 rfl) ?_
        refine .nil ?_
        refine .sel0 [0, 1] (by decide) rfl ?_
        exact .US q2200 true hF
       replace hF := hF.2 q2225
       refine .GV (mv rfl) q2225 ?_
       refine .GV (mv rfl) q2225 ?_
       refine .GV (fa rfl tF102_4) q2223 ?_
       refine .GV (ld1 rfl tO3 (cellB (off := 4) (k := 2) rfl rfl)) q2223 ?_
       refine .GV (mv rfl) q2223 ?_
       refine .GV (bi rfl rfl rfl) q2223 ?_
       obtain ⟨r18, q2226⟩ : ∃ y_ : Bool, y_ = sp_in_ ((gt l i).no) 0 (wr (i - 1)) := ⟨_, rfl⟩
       replace hF := hF r18 q2226
       refine .gc (cl (v := .bool r18) Tryz.call25 rfl rfl (fun w S => (by rw [q2226]; exact c_in_ S.sub ((gt l i).no) 0 (wr (i - 1)) ))) rfl rfl rfl q2223 rfl rfl ?_
       refine .GV (nt rfl) q2223 ?_
       refine .GV (pkT rfl q2223 rfl) q2225 ?_
       refine .V (pkF rfl q2225 rfl) ?_
       refine .nil ?_
       refine .sel0 [0, 1] (by decide) rfl ?_
       exact .US q2200 (!r18) hF
      replace hF := hF.2 q2223
      refine .GS q2223 ?_
      refine .GS q2223 ?_
      refine .GS q2223 ?_
      refine .GS q2223 ?_
      refine .GS q2223 ?_
      refine .GS q2223 ?_
      refine .gv (pkF rfl q2223 rfl) rfl rfl rfl rfl rfl rfl ?_
      refine .V (pkF rfl rfl rfl) ?_
      refine .V (mv rfl) ?_
      refine .gv (mv rfl) rfl rfl rfl rfl rfl rfl ?_
      refine .gv (mv rfl) rfl rfl rfl rfl rfl rfl ?_
      refine .GS q2223 ?_
      refine .GS q2223 ?_
      refine .GS q2223 ?_
      refine .GS q2223 ?_
      refine .GS q2223 ?_
      refine .GS q2223 ?_
      refine .gv (pkF rfl q2223 rfl) rfl rfl rfl rfl rfl rfl ?_
      refine .V (pkF rfl rfl rfl) ?_
      refine .nil ?_
      refine .sel0 [0, 1] (by decide) rfl ?_
      exact .US q2200 false hF
     replace hF := hF.2 q2203
     refine .GS q2203 ?_
     refine .GS q2203 ?_
     refine .GS q2203 ?_
     refine .V (pkF rfl q2203 rfl) ?_
     refine .V (mv rfl) ?_
     refine .gv (mv rfl) rfl rfl rfl rfl rfl rfl ?_
     refine .gv (nt rfl) rfl rfl rfl rfl rfl rfl ?_
     refine .gv (mv rfl) rfl rfl rfl rfl rfl rfl ?_
     rcases Bool.eq_false_or_eq_true (!(((gt l i).kind) == 3)) with q2227 | q2227
     ·replace hF := hF.1 q2227
      refine .GV (fa rfl tF102_2) q2227 ?_
      refine .GV (ld1 rfl tO3 (cellB (off := 2) (k := 2) rfl rfl)) q2227 ?_
      refine .GV (bi rfl rfl rfl) q2227 ?_
      refine .GV (mv rfl) q2227 ?_
      rcases Bool.eq_false_or_eq_true (((gt l i).fact) != 0) with q2228 | q2228
      ·replace hF := hF.1 q2228
       refine .GS q2228 ?_
       refine .GS q2228 ?_
       refine .GS q2228 ?_
       refine .GV (pkT rfl q2228 rfl) q2227 ?_
       refine .gv (pkT rfl q2227 rfl) rfl rfl rfl rfl rfl rfl ?_
       refine .V (pkF rfl rfl rfl) ?_
       refine .V (mv rfl) ?_
       refine .gS rfl rfl rfl rfl rfl rfl ?_
       refine .gS rfl rfl rfl rfl rfl rfl ?_
       refine .gS rfl rfl rfl rfl rfl rfl ?_
       refine .GU ?_
       refine .GU ?_
       refine .gS rfl rfl rfl rfl rfl rfl ?_
       refine .gS rfl rfl rfl rfl rfl rfl ?_
       refine .GU ?_
       refine .GU ?_
       refine .GU ?_
       refine .gS rfl rfl rfl rfl rfl rfl ?_
       refine .V (pkT rfl rfl rfl) ?_
       refine .V (mv rfl) ?_
       refine .gS rfl rfl rfl rfl rfl rfl ?_
       refine .gS rfl rfl rfl rfl rfl rfl ?_
       refine .GU ?_
       refine .gS rfl rfl rfl rfl rfl rfl ?_
       refine .gS rfl rfl rfl rfl rfl rfl ?_
       refine .GU ?_
       refine .GU ?_
       refine .GU ?_
       refine .GU ?_
       refine .GU ?_
       refine .GU ?_
       refine .gS rfl rfl rfl rfl rfl rfl ?_
       refine .V (pkT rfl rfl rfl) ?_
       refine .V (mv rfl) ?_
       refine .gS rfl rfl rfl rfl rfl rfl ?_
       refine .gS rfl rfl rfl rfl rfl rfl ?_
       refine .GU ?_
       refine .GU ?_
       refine .GU ?_
       refine .GU ?_
       refine .GU ?_
       refine .GU ?_
       refine .gS rfl rfl rfl rfl rfl rfl ?_
       refine .V (pkT rfl rfl rfl) ?_
       refine .nil ?_
       refine .sel0 [0, 1] (by decide) rfl ?_
       exact .US q2200 true hF
      replace hF := hF.2 q2228
      refine .GV (fa rfl tF102_4) q2228 ?_
      refine .GV (ld1 rfl tO3 (cellB (off := 4) (k := 2) rfl rfl)) q2228 ?_
      refine .GV (bi rfl rfl rfl) q2228 ?_
      refine .GV (pkF rfl q2228 rfl) q2227 ?_
      refine .gv (pkT rfl q2227 rfl) rfl rfl rfl rfl rfl rfl ?_
      refine .V (pkF rfl rfl rfl) ?_
      refine .V (mv rfl) ?_
      rcases Bool.eq_false_or_eq_true (((gt l i).no) != 0) with q2229 | q2229
      ·replace hF := hF.1 q2229
       refine .GS q2229 ?_
       refine .GS q2229 ?_
       refine .GS q2229 ?_
       refine .GU ?_
       refine .GU ?_
       refine .GS q2229 ?_
       refine .GS q2229 ?_
       refine .GU ?_
       refine .GU ?_
       refine .GU ?_
       refine .GS q2229 ?_
       refine .V (pkT rfl q2229 rfl) ?_
       refine .V (mv rfl) ?_
       refine .gS rfl rfl rfl rfl rfl rfl ?_
       refine .gS rfl rfl rfl rfl rfl rfl ?_
       refine .GU ?_
       refine .gS rfl rfl rfl rfl rfl rfl ?_
       refine .gS rfl rfl rfl rfl rfl rfl ?_
       refine .GU ?_
       refine .GU ?_
       refine .GU ?_
       refine .GU ?_
       refine .GU ?_
       refine .GU ?_
       refine .gS rfl rfl rfl rfl rfl rfl ?_
       refine .V (pkT rfl rfl rfl) ?_
       refine .V (mv rfl) ?_
       refine .gS rfl rfl rfl rfl rfl rfl ?_
       refine .gS rfl rfl rfl rfl rfl rfl ?_
       refine .GU ?_
       refine .GU ?_
       refine .GU ?_
       refine .GU ?_
       refine .GU ?_
       refine .GU ?_
       refine .gS rfl rfl rfl rfl rfl rfl ?_
       refine .V (pkT rfl rfl rfl) ?_
       refine .nil ?_
       refine .sel0 [0, 1] (by decide) rfl ?_
       exact .US q2200 true hF
      replace hF := hF.2 q2229
      refine .GV (mv rfl) q2229 ?_
      refine .GV (nt rfl) q2229 ?_
      refine .GV (mv rfl) q2229 ?_
      refine .GS q2203 ?_
      refine .GS q2203 ?_
      refine .GV (pkF rfl q2203 rfl) q2229 ?_
      refine .GV (mv rfl) q2229 ?_
      refine .gS rfl rfl rfl rfl rfl rfl ?_
      refine .gS rfl rfl rfl rfl rfl rfl ?_
      refine .gS rfl rfl rfl rfl rfl rfl ?_
      refine .GV (pkF rfl rfl rfl) q2229 ?_
      refine .V (pkF rfl q2229 rfl) ?_
      refine .V (mv rfl) ?_
      refine .gv (mv rfl) rfl rfl rfl rfl rfl rfl ?_
      refine .gv (mv rfl) rfl rfl rfl rfl rfl rfl ?_
      rcases Bool.eq_false_or_eq_true (((gt l i).kind) == 2) with q2230 | q2230
      ·replace hF := hF.1 q2230
       refine .GS q2230 ?_
       refine .gv (pkT rfl q2230 rfl) rfl rfl rfl rfl rfl rfl ?_
       refine .gv (mv rfl) rfl rfl rfl rfl rfl rfl ?_
       refine .gv (fa rfl tF102_3) rfl rfl rfl rfl rfl rfl ?_
       refine .gv (ld1 rfl tO3 (cellB (off := 3) (k := 2) rfl rfl)) rfl rfl rfl rfl rfl rfl ?_
       refine .gv (mv rfl) rfl rfl rfl rfl rfl rfl ?_
       refine .gv (bi rfl rfl rfl) rfl rfl rfl rfl rfl rfl ?_
       obtain ⟨r19, q2231⟩ : ∃ y_ : Bool, y_ = sp_in_ ((gt l i).yes) 0 (wr (i - 1)) := ⟨_, rfl⟩
       replace hF := hF r19 q2231
       refine .gc (cl (v := .bool r19) Tryz.call25 rfl rfl (fun w S => (by rw [q2231]; exact c_in_ S.sub ((gt l i).yes) 0 (wr (i - 1)) ))) rfl rfl rfl rfl rfl rfl ?_
       refine .gv (nt rfl) rfl rfl rfl rfl rfl rfl ?_
       refine .gv (pkT rfl rfl rfl) rfl rfl rfl rfl rfl rfl ?_
       refine .V (pkF rfl rfl rfl) ?_
       refine .V (mv rfl) ?_
       rcases Bool.eq_false_or_eq_true (!r19) with q2232 | q2232
       ·replace hF := hF.1 q2232
        refine .GS q2232 ?_
        refine .GS q2232 ?_
        refine .GU ?_
        refine .GU ?_
        refine .GU ?_
        refine .GU ?_
        refine .GU ?_
        refine .GU ?_
        refine .GS q2232 ?_
        refine .V (pkT rfl q2232 rfl) ?_
        refine .nil ?_
        refine .sel0 [0, 1] (by decide) rfl ?_
        exact .US q2200 true hF
       replace hF := hF.2 q2232
       refine .GV (mv rfl) q2232 ?_
       refine .GV (mv rfl) q2232 ?_
       rcases Bool.eq_false_or_eq_true (((gt l i).kind) == 3) with q2233 | q2233
       ·replace hF := hF.1 q2233
        refine .GV (fa rfl tF102_4) q2233 ?_
        refine .GV (ld1 rfl tO3 (cellB (off := 4) (k := 2) rfl rfl)) q2233 ?_
        refine .GV (mv rfl) q2233 ?_
        refine .GV (bi rfl rfl rfl) q2233 ?_
        obtain ⟨r20, q2234⟩ : ∃ y_ : Bool, y_ = sp_in_ ((gt l i).no) 0 (wr (i - 1)) := ⟨_, rfl⟩
        replace hF := hF r20 q2234
        refine .gc (cl (v := .bool r20) Tryz.call25 rfl rfl (fun w S => (by rw [q2234]; exact c_in_ S.sub ((gt l i).no) 0 (wr (i - 1)) ))) rfl rfl rfl q2233 rfl rfl ?_
        refine .GV (nt rfl) q2233 ?_
        refine .GV (pkT rfl q2233 rfl) q2232 ?_
        refine .V (pkF rfl q2232 rfl) ?_
        refine .nil ?_
        refine .sel0 [0, 1] (by decide) rfl ?_
        exact .US q2200 (!r20) hF
       replace hF := hF.2 q2233
       refine .GS q2233 ?_
       refine .GS q2233 ?_
       refine .GS q2233 ?_
       refine .GS q2233 ?_
       refine .GS q2233 ?_
       refine .GS q2233 ?_
       refine .GV (pkF rfl q2233 rfl) q2232 ?_
       refine .V (pkF rfl q2232 rfl) ?_
       refine .nil ?_
       refine .sel0 [0, 1] (by decide) rfl ?_
       exact .US q2200 false hF
      replace hF := hF.2 q2230
      refine .GV (mv rfl) q2230 ?_
      refine .gv (pkF rfl q2230 rfl) rfl rfl rfl rfl rfl rfl ?_
      refine .gv (mv rfl) rfl rfl rfl rfl rfl rfl ?_
      rcases Bool.eq_false_or_eq_true (((gt l i).kind) == 3) with q2235 | q2235
      ·replace hF := hF.1 q2235
       refine .GV (fa rfl tF102_3) q2235 ?_
       refine .GV (ld1 rfl tO3 (cellB (off := 3) (k := 2) rfl rfl)) q2235 ?_
       refine .GV (mv rfl) q2235 ?_
       refine .GV (bi rfl rfl rfl) q2235 ?_
       obtain ⟨r21, q2236⟩ : ∃ y_ : Bool, y_ = sp_in_ ((gt l i).yes) 0 (wr (i - 1)) := ⟨_, rfl⟩
       replace hF := hF r21 q2236
       refine .gc (cl (v := .bool r21) Tryz.call25 rfl rfl (fun w S => (by rw [q2236]; exact c_in_ S.sub ((gt l i).yes) 0 (wr (i - 1)) ))) rfl rfl rfl q2235 rfl rfl ?_
       refine .GV (nt rfl) q2235 ?_
       refine .gv (pkT rfl q2235 rfl) rfl rfl rfl rfl rfl rfl ?_
       refine .V (pkF rfl rfl rfl) ?_
       refine .V (mv rfl) ?_
       rcases Bool.eq_false_or_eq_true (!r21) with q2237 | q2237
       ·replace hF := hF.1 q2237
        refine .GS q2237 ?_
        refine .GS q2237 ?_
        refine .GU ?_
        refine .GU ?_
        refine .GU ?_
        refine .GU ?_
        refine .GU ?_
        refine .GU ?_
        refine .GS q2237 ?_
        refine .V (pkT rfl q2237 rfl) ?_
        refine .nil ?_
        refine .sel0 [0, 1] (by decide) rfl ?_
        exact .US q2200 true hF
       replace hF := hF.2 q2237
       refine .GV (mv rfl) q2237 ?_
       refine .GV (mv rfl) q2237 ?_
       refine .GV (fa rfl tF102_4) q2235 ?_
       refine .GV (ld1 rfl tO3 (cellB (off := 4) (k := 2) rfl rfl)) q2235 ?_
       refine .GV (mv rfl) q2235 ?_
       refine .GV (bi rfl rfl rfl) q2235 ?_
       obtain ⟨r22, q2238⟩ : ∃ y_ : Bool, y_ = sp_in_ ((gt l i).no) 0 (wr (i - 1)) := ⟨_, rfl⟩
       replace hF := hF r22 q2238
       refine .gc (cl (v := .bool r22) Tryz.call25 rfl rfl (fun w S => (by rw [q2238]; exact c_in_ S.sub ((gt l i).no) 0 (wr (i - 1)) ))) rfl rfl rfl q2235 rfl rfl ?_
       refine .GV (nt rfl) q2235 ?_
       refine .GV (pkT rfl q2235 rfl) q2237 ?_
       refine .V (pkF rfl q2237 rfl) ?_
       refine .nil ?_
       refine .sel0 [0, 1] (by decide) rfl ?_
       exact .US q2200 (!r22) hF
      replace hF := hF.2 q2235
      refine .GS q2235 ?_
      refine .GS q2235 ?_
      refine .GS q2235 ?_
      refine .GS q2235 ?_
      refine .GS q2235 ?_
      refine .GS q2235 ?_
      refine .gv (pkF rfl q2235 rfl) rfl rfl rfl rfl rfl rfl ?_
      refine .V (pkF rfl rfl rfl) ?_
      refine .V (mv rfl) ?_
      refine .gv (mv rfl) rfl rfl rfl rfl rfl rfl ?_
      refine .gv (mv rfl) rfl rfl rfl rfl rfl rfl ?_
      refine .GS q2235 ?_
      refine .GS q2235 ?_
      refine .GS q2235 ?_
      refine .GS q2235 ?_
      refine .GS q2235 ?_
      refine .GS q2235 ?_
      refine .gv (pkF rfl q2235 rfl) rfl rfl rfl rfl rfl rfl ?_
      refine .V (pkF rfl rfl rfl) ?_
      refine .nil ?_
      refine .sel0 [0, 1] (by decide) rfl ?_
      exact .US q2200 false hF
     replace hF := hF.2 q2227
     refine .GS q2227 ?_
     refine .GS q2227 ?_
     refine .GS q2227 ?_
     refine .GS q2227 ?_
     refine .GU ?_
     refine .GU ?_
     refine .GU ?_
     refine .GS q2227 ?_
     refine .gv (pkF rfl q2227 rfl) rfl rfl rfl rfl rfl rfl ?_
     refine .V (pkF rfl rfl rfl) ?_
     refine .V (mv rfl) ?_
     refine .gv (mv rfl) rfl rfl rfl rfl rfl rfl ?_
     refine .gv (nt rfl) rfl rfl rfl rfl rfl rfl ?_
     refine .gv (mv rfl) rfl rfl rfl rfl rfl rfl ?_
     refine .GS q2203 ?_
     refine .GS q2203 ?_
     refine .gv (pkF rfl q2203 rfl) rfl rfl rfl rfl rfl rfl ?_
     refine .gv (mv rfl) rfl rfl rfl rfl rfl rfl ?_
     refine .gS rfl rfl rfl rfl rfl rfl ?_
     refine .gS rfl rfl rfl rfl rfl rfl ?_
     refine .gS rfl rfl rfl rfl rfl rfl ?_
     refine .gv (pkF rfl rfl rfl) rfl rfl rfl rfl rfl rfl ?_
     refine .V (pkF rfl rfl rfl) ?_
     refine .V (mv rfl) ?_
     refine .gv (mv rfl) rfl rfl rfl rfl rfl rfl ?_
     refine .gv (mv rfl) rfl rfl rfl rfl rfl rfl ?_
     rcases Bool.eq_false_or_eq_true (((gt l i).kind) == 2) with q2239 | q2239
     ·replace hF := hF.1 q2239
      refine .GS q2239 ?_
      refine .gv (pkT rfl q2239 rfl) rfl rfl rfl rfl rfl rfl ?_
      refine .gv (mv rfl) rfl rfl rfl rfl rfl rfl ?_
      refine .gv (fa rfl tF102_3) rfl rfl rfl rfl rfl rfl ?_
      refine .gv (ld1 rfl tO3 (cellB (off := 3) (k := 2) rfl rfl)) rfl rfl rfl rfl rfl rfl ?_
      refine .gv (mv rfl) rfl rfl rfl rfl rfl rfl ?_
      refine .gv (bi rfl rfl rfl) rfl rfl rfl rfl rfl rfl ?_
      obtain ⟨r23, q2240⟩ : ∃ y_ : Bool, y_ = sp_in_ ((gt l i).yes) 0 (wr (i - 1)) := ⟨_, rfl⟩
      replace hF := hF r23 q2240
      refine .gc (cl (v := .bool r23) Tryz.call25 rfl rfl (fun w S => (by rw [q2240]; exact c_in_ S.sub ((gt l i).yes) 0 (wr (i - 1)) ))) rfl rfl rfl rfl rfl rfl ?_
      refine .gv (nt rfl) rfl rfl rfl rfl rfl rfl ?_
      refine .gv (pkT rfl rfl rfl) rfl rfl rfl rfl rfl rfl ?_
      refine .V (pkF rfl rfl rfl) ?_
      refine .V (mv rfl) ?_
      rcases Bool.eq_false_or_eq_true (!r23) with q2241 | q2241
      ·replace hF := hF.1 q2241
       refine .GS q2241 ?_
       refine .GS q2241 ?_
       refine .GU ?_
       refine .GU ?_
       refine .GU ?_
       refine .GU ?_
       refine .GU ?_
       refine .GU ?_
       refine .GS q2241 ?_
       refine .V (pkT rfl q2241 rfl) ?_
       refine .nil ?_
       refine .sel0 [0, 1] (by decide) rfl ?_
       exact .US q2200 true hF
      replace hF := hF.2 q2241
      refine .GV (mv rfl) q2241 ?_
      refine .GV (mv rfl) q2241 ?_
      rcases Bool.eq_false_or_eq_true (((gt l i).kind) == 3) with q2242 | q2242
      ·replace hF := hF.1 q2242
       refine .GV (fa rfl tF102_4) q2242 ?_
       refine .GV (ld1 rfl tO3 (cellB (off := 4) (k := 2) rfl rfl)) q2242 ?_
       refine .GV (mv rfl) q2242 ?_
       refine .GV (bi rfl rfl rfl) q2242 ?_
       obtain ⟨r24, q2243⟩ : ∃ y_ : Bool, y_ = sp_in_ ((gt l i).no) 0 (wr (i - 1)) := ⟨_, rfl⟩
       replace hF := hF r24 q2243
       refine .gc (cl (v := .bool r24) Tryz.call25 rfl rfl (fun w S => (by rw [q2243]; exact c_in_ S.sub ((gt l i).no) 0 (wr (i - 1)) ))) rfl rfl rfl q2242 rfl rfl ?_
       refine .GV (nt rfl) q2242 ?_
       refine .GV (pkT rfl q2242 rfl) q2241 ?_
       refine .V (pkF rfl q2241 rfl) ?_
       refine .nil ?_
       refine .sel0 [0, 1] (by decide) rfl ?_
       exact .US q2200 (!r24) hF
      replace hF := hF.2 q2242
      refine .GS q2242 ?_
      refine .GS q2242 ?_
      refine .GS q2242 ?_
      refine .GS q2242 ?_
      refine .GS q2242 ?_
      refine .GS q2242 ?_
      refine .GV (pkF rfl q2242 rfl) q2241 ?_
      refine .V (pkF rfl q2241 rfl) ?_
      refine .nil ?_
      refine .sel0 [0, 1] (by decide) rfl ?_
      exact .US q2200 false hF
     replace hF := hF.2 q2239
     refine .GV (mv rfl) q2239 ?_
     refine .gv (pkF rfl q2239 rfl) rfl rfl rfl rfl rfl rfl ?_
     refine .gv (mv rfl) rfl rfl rfl rfl rfl rfl ?_
     rcases Bool.eq_false_or_eq_true (((gt l i).kind) == 3) with q2244 | q2244
     ·replace hF := hF.1 q2244
      refine .GV (fa rfl tF102_3) q2244 ?_
      refine .GV (ld1 rfl tO3 (cellB (off := 3) (k := 2) rfl rfl)) q2244 ?_
      refine .GV (mv rfl) q2244 ?_
      refine .GV (bi rfl rfl rfl) q2244 ?_
      obtain ⟨r25, q2245⟩ : ∃ y_ : Bool, y_ = sp_in_ ((gt l i).yes) 0 (wr (i - 1)) := ⟨_, rfl⟩
      replace hF := hF r25 q2245
      refine .gc (cl (v := .bool r25) Tryz.call25 rfl rfl (fun w S => (by rw [q2245]; exact c_in_ S.sub ((gt l i).yes) 0 (wr (i - 1)) ))) rfl rfl rfl q2244 rfl rfl ?_
      refine .GV (nt rfl) q2244 ?_
      refine .gv (pkT rfl q2244 rfl) rfl rfl rfl rfl rfl rfl ?_
      refine .V (pkF rfl rfl rfl) ?_
      refine .V (mv rfl) ?_
      rcases Bool.eq_false_or_eq_true (!r25) with q2246 | q2246
      ·replace hF := hF.1 q2246
       refine .GS q2246 ?_
       refine .GS q2246 ?_
       refine .GU ?_
       refine .GU ?_
       refine .GU ?_
       refine .GU ?_
       refine .GU ?_
       refine .GU ?_
       refine .GS q2246 ?_
       refine .V (pkT rfl q2246 rfl) ?_
       refine .nil ?_
       refine .sel0 [0, 1] (by decide) rfl ?_
       exact .US q2200 true hF
      replace hF := hF.2 q2246
      refine .GV (mv rfl) q2246 ?_
      refine .GV (mv rfl) q2246 ?_
      refine .GV (fa rfl tF102_4) q2244 ?_
      refine .GV (ld1 rfl tO3 (cellB (off := 4) (k := 2) rfl rfl)) q2244 ?_
      refine .GV (mv rfl) q2244 ?_
      refine .GV (bi rfl rfl rfl) q2244 ?_
      obtain ⟨r26, q2247⟩ : ∃ y_ : Bool, y_ = sp_in_ ((gt l i).no) 0 (wr (i - 1)) := ⟨_, rfl⟩
      replace hF := hF r26 q2247
      refine .gc (cl (v := .bool r26) Tryz.call25 rfl rfl (fun w S => (by rw [q2247]; exact c_in_ S.sub ((gt l i).no) 0 (wr (i - 1)) ))) rfl rfl rfl q2244 rfl rfl ?_
      refine .GV (nt rfl) q2244 ?_
      refine .GV (pkT rfl q2244 rfl) q2246 ?_
      refine .V (pkF rfl q2246 rfl) ?_
      refine .nil ?_
      refine .sel0 [0, 1] (by decide) rfl ?_
      exact .US q2200 (!r26) hF
     replace hF := hF.2 q2244
     refine .GS q2244 ?_
     refine .GS q2244 ?_
     refine .GS q2244 ?_
     refine .GS q2244 ?_
     refine .GS q2244 ?_
     refine .GS q2244 ?_
     refine .gv (pkF rfl q2244 rfl) rfl rfl rfl rfl rfl rfl ?_
     refine .V (pkF rfl rfl rfl) ?_
     refine .V (mv rfl) ?_
     refine .gv (mv rfl) rfl rfl rfl rfl rfl rfl ?_
     refine .gv (mv rfl) rfl rfl rfl rfl rfl rfl ?_
     refine .GS q2244 ?_
     refine .GS q2244 ?_
     refine .GS q2244 ?_
     refine .GS q2244 ?_
     refine .GS q2244 ?_
     refine .GS q2244 ?_
     refine .gv (pkF rfl q2244 rfl) rfl rfl rfl rfl rfl rfl ?_
     refine .V (pkF rfl rfl rfl) ?_
     refine .nil ?_
     refine .sel0 [0, 1] (by decide) rfl ?_
     exact .US q2200 false hF
    refine .region (.V (mv rfl) ?_)
    refine .V (mv rfl) ?_
    rcases Bool.eq_false_or_eq_true (((gt l i).kind) == 3) with q2248 | q2248
    ·replace hF := hF.1 q2248
     refine .GV (mv rfl) q2248 ?_
     refine .GV (fa rfl tF102_2) q2248 ?_
     refine .GV (ld1 rfl tO3 (cellB (off := 2) (k := 2) rfl rfl)) q2248 ?_
     obtain ⟨q2249, hF⟩ := hF
     obtain ⟨r27, q2250⟩ : ∃ y_ : Bool, y_ = sp_has sensors ((gt l i).fact) := ⟨_, rfl⟩
     replace hF := hF r27 q2250
     refine .gc (cl (v := .bool r27) Tryz.call76 rfl rfl (fun w S => (by rw [q2250]; exact c_has S.sub sensors asensors csensors _q7 _q8 ((gt l i).fact) q2249))) rfl rfl rfl q2248 rfl rfl ?_
     refine .GV (nt rfl) q2248 ?_
     refine .V (pkT rfl q2248 rfl) ?_
     refine .nil ?_
     exact .US q2150 (!r27) hF
    replace hF := hF.2 q2248
    refine .GS q2248 ?_
    refine .GS q2248 ?_
    refine .GS q2248 ?_
    refine .GS q2248 ?_
    refine .GS q2248 ?_
    refine .V (pkF rfl q2248 rfl) ?_
    refine .nil ?_
    exact .US q2150 false hF
   refine .region (.V (mv rfl) ?_)
   refine .V (mv rfl) ?_
   rcases Bool.eq_false_or_eq_true (((gt l i).kind) == 2) with q2251 | q2251
   ·replace hF := hF.1 q2251
    refine .GV (fa rfl tF102_1) q2251 ?_
    refine .GV (ld1 rfl tO3 (cellB (off := 1) (k := 2) rfl rfl)) q2251 ?_
    refine .GV (fa rfl tF25_3) q2251 ?_
    refine .GV (ld1 rfl tO23 (cellB (off := 3) (k := 0) rfl rfl)) q2251 ?_
    refine .GV (ln rfl tS23.is) q2251 ?_
    refine .GV (bi rfl rfl rfl) q2251 ?_
    obtain ⟨r28, q2252⟩ : ∃ y_ : Bool, y_ = sp_in_ ((gt l i).op) 0 (wr (((t.ops.length : Nat) : Int) - 1)) := ⟨_, rfl⟩
    replace hF := hF r28 q2252
    refine .gc (cl (v := .bool r28) Tryz.call25 rfl rfl (fun w S => (by rw [q2252]; exact c_in_ S.sub ((gt l i).op) 0 (wr (((t.ops.length : Nat) : Int) - 1)) ))) rfl rfl rfl q2251 rfl rfl ?_
    refine .GV (nt rfl) q2251 ?_
    refine .V (pkT rfl q2251 rfl) ?_
    refine .nil ?_
    exact .US q2142 (!r28) hF
   replace hF := hF.2 q2251
   refine .GS q2251 ?_
   refine .GS q2251 ?_
   refine .GS q2251 ?_
   refine .GS q2251 ?_
   refine .GS q2251 ?_
   refine .GS q2251 ?_
   refine .GS q2251 ?_
   refine .GS q2251 ?_
   refine .V (pkF rfl q2251 rfl) ?_
   refine .nil ?_
   exact .US q2142 false hF
  refine .region (.V (mv rfl) ?_)
  refine .V (nt rfl) ?_
  refine .V (mv rfl) ?_
  rcases Bool.eq_false_or_eq_true (!(((gt l i).kind) == 2)) with q2253 | q2253
  ·replace hF := hF.1 q2253
   refine .GV (mv rfl) q2253 ?_
   refine .GV (nt rfl) q2253 ?_
   refine .V (pkT rfl q2253 rfl) ?_
   refine .V (mv rfl) ?_
   rcases Bool.eq_false_or_eq_true (!(((gt l i).kind) == 3)) with q2254 | q2254
   ·replace hF := hF.1 q2254
    refine .GV (fa rfl tF102_0) q2254 ?_
    refine .GV (ld1 rfl tO3 (cellB (off := 0) (k := 0) rfl rfl)) q2254 ?_
    refine .GV (bi rfl rfl rfl) q2254 ?_
    refine .V (pkT rfl q2254 rfl) ?_
    refine .nil ?_
    refine .sel0 [1, 2, 0] (by decide) rfl ?_
    exact .US q2135 (((gt l i).kind) != 1) hF
   replace hF := hF.2 q2254
   refine .GS q2254 ?_
   refine .GS q2254 ?_
   refine .GS q2254 ?_
   refine .V (pkF rfl q2254 rfl) ?_
   refine .nil ?_
   refine .sel0 [1, 2, 0] (by decide) rfl ?_
   exact .US q2135 false hF
  replace hF := hF.2 q2253
  refine .GS q2253 ?_
  refine .GS q2253 ?_
  refine .V (pkF rfl q2253 rfl) ?_
  refine .V (mv rfl) ?_
  refine .gS rfl rfl rfl rfl rfl rfl ?_
  refine .gS rfl rfl rfl rfl rfl rfl ?_
  refine .gS rfl rfl rfl rfl rfl rfl ?_
  refine .V (pkF rfl rfl rfl) ?_
  refine .nil ?_
  refine .sel0 [1, 2, 0] (by decide) rfl ?_
  exact .US q2135 false hF
 replace hF := hF.2 q1885
 refine .exit (.seqX (.seqX (.blkX (.seqN (.seq (.region (.V (bld (cs := #[iV 0, iV 0]) (pv := []) tB27 rfl rfl) ?_)))))))
 refine st (p := pv) (off := 0) (k := 1) (vs := [iV 0, iV 0]) rfl rfl rfl (fun w => (tA27 w).2) rfl rfl rfl rfl ?_
 refine .cast (A' := [Box pt (tF t at_ ct at_2 ct2 at_3 ct3), Box pv [iV 0, iV 0]]) rfl ?_
 refine .nil (.seqN (.ret ?_))
 refine .res1 rfl (rvC rfl tA27 (k := 1) rfl rfl) (fun w' S => ⟨(⟨0, 0⟩ : Fault), hF, rfl, S.below⟩)
theorem c_treeFault {h : FH} {w : World} (hs : Sub h w) (t : Task) (at_ : Option Addr) (ct : Nat) (_q1 : RSl h at_ t.init) (_q2 : t.init.length ≤ ct) (at_2 : Option Addr) (ct2 : Nat) (_q3 : RSl h at_2 t.goal) (_q4 : t.goal.length ≤ ct2) (at_3 : Option Addr) (ct3 : Nat) (_q5 : RSl h at_3 t.ops) (_q6 : t.ops.length ≤ ct3) (sensors : List Int) (asensors : Option Addr) (csensors : Nat) (_q7 : RSl h asensors sensors) (_q8 : sensors.length ≤ csensors) (l : List TNode) (al2 : Option Addr) (cl2 : Nat) (_q9 : RSl h al2 l) (_q10 : l.length ≤ cl2) : Calls Tryz.prog 39 #[.agg #[iV t.facts, .slice at_ t.init.length ct, .slice at_2 t.goal.length ct2, .slice at_3 t.ops.length ct3], .slice asensors sensors.length csensors, .slice al2 l.length cl2] w fun e w' => e = .returned (.agg #[iV (sp_cvalidate t sensors l).code, iV (sp_cvalidate t sensors l).index]) ∧ Below w.heap.size w w' :=
 (w_treeFault hs t at_ ct _q1 _q2 at_2 ct2 _q3 _q4 at_3 ct3 _q5 _q6 sensors asensors csensors _q7 _q8 l al2 cl2 _q9 _q10 (fun r => r = sp_cvalidate t sensors l) (ok_treeFault t sensors l)).mono fun _ _ ⟨_, hk, he, hb⟩ => ⟨by rw [he, hk], hb⟩
end Go.Proofs.YtojoehfldbimpaaGreatDoor.Pl

namespace Go.Proofs.YtojoehfldbimpaaGreatDoor.Pl
open Go Go.RowKit
set_option maxHeartbeats 8000000 in
theorem w_treeDepth {h : FH} {w : World} (hs : Sub h w) (l : List TNode) (al2 : Option Addr) (cl2 : Nat) (_q1 : RSl h al2 l) (_q2 : l.length ≤ cl2) (K : Int → Prop) (hF : F_treeDepth l K) : Calls Tryz.prog 41 #[.slice al2 l.length cl2] w fun e w' => ∃ r : Int, K r ∧ e = .returned (iV r) ∧ Below w.heap.size w w' := by
 refine enter (args := [vSl al2 l cl2]) Tryz.func41 rfl Tryz.ntmps41 rfl hs ?_
 refine .seq (.region (.V (asg rfl) ?_))
 refine .nil (.seqN (.seq (.region (.V (mv rfl) ?_))))
 refine .V (ln rfl tS60.is) ?_
 obtain ⟨q3, hF⟩ := hF
 refine mk (m := (((l.length : Nat) : Int)).toNat) (cs' := flL (List.replicate (((l.length : Nat) : Int)).toNat (0 : Int))) tS22 rfl rfl (Int.toNat_of_nonneg q3.1).symm q3.2.1 q3.2.2 (flL_rep1 rfl _) rfl (fun a c => ?_)
 have q4 : (List.replicate (((l.length : Nat) : Int)).toNat (0 : Int)).length = (((l.length : Nat) : Int)).toNat := List.length_replicate
 refine .cast (A' := [OwnSl 3 1 a ((((l.length : Nat) : Int)).toNat) c (flL (List.replicate (((l.length : Nat) : Int)).toNat (0 : Int)))]) rfl ?_
 refine .V (asg rfl) ?_
 refine .nil (.seqN (.seq (.seq (.region (.V (asg rfl) ?_)))))
 refine .nil (.seqN (.block ?_))
 obtain ⟨I1, μ1, q751, q752⟩ := hF
 refine .loop' (σ := Bool × List Int) (fun z => I1 z.1 z.2 ∧ z.2.length = (((l.length : Nat) : Int)).toNat) (fun z => μ1 z.1 z.2) (fun z => [(0, vSl al2 l cl2), (3, .slice a ((((l.length : Nat) : Int)).toNat) c), (4, .bool z.1)]) (fun z => [OwnSl 3 1 a ((((l.length : Nat) : Int)).toNat) c (flL z.2)]) (fun _ => h) (true, (List.replicate (((l.length : Nat) : Int)).toNat (0 : Int))) ⟨q751, q4⟩ sb rfl (FH.le_refl _) ?_
 rintro ⟨again, d⟩ ⟨q751, q605⟩
 have hF := q752 again d q751
 show J _ _ _ _ _ [(0, vSl al2 l cl2), (3, .slice a ((((l.length : Nat) : Int)).toNat) c), (4, .bool again)] [OwnSl 3 1 a ((((l.length : Nat) : Int)).toNat) c (flL d)] h
 refine .seq (.seq (.region (.V (mv rfl) ?_)))
 refine .nil (.seqN ?_)
 refine .cond rfl (fun q754 => ?_) (fun q754 => ?_)
 ·replace hF := hF.1 q754
  refine .skip (.seqN (.block (.seq (.region (.V (asg rfl) ?_)))))
  refine .nil (.seqN (.seq (.region (.V (asg rfl) ?_))))
  refine .nil (.seqN (.block ?_))
  obtain ⟨I2, μ2, q851, q852⟩ := hF
  refine .loop' (σ := Bool × Int × List Int) (fun z => I2 z.1 z.2.1 z.2.2 ∧ z.2.2.length = (((l.length : Nat) : Int)).toNat) (fun z => μ2 z.1 z.2.1 z.2.2) (fun z => [(0, vSl al2 l cl2), (3, .slice a ((((l.length : Nat) : Int)).toNat) c), (4, .bool z.1), (5, iV z.2.1)]) (fun z => [OwnSl 3 1 a ((((l.length : Nat) : Int)).toNat) c (flL z.2.2)]) (fun _ => h) (false, 0, d) ⟨q851, q605⟩ sb rfl (FH.le_refl _) ?_
  rintro ⟨again3, i, d3⟩ ⟨q851, q805⟩
  have hF := q852 again3 i d3 q851
  show J _ _ _ _ _ [(0, vSl al2 l cl2), (3, .slice a ((((l.length : Nat) : Int)).toNat) c), (4, .bool again3), (5, iV i)] [OwnSl 3 1 a ((((l.length : Nat) : Int)).toNat) c (flL d3)] h
  refine .seq (.seq (.region (.V (mv rfl) ?_)))
  refine .V (mv rfl) ?_
  refine .V (ln rfl tS60.is) ?_
  refine .V (bi rfl rfl rfl) ?_
  refine .nil (.seqN ?_)
  refine .cond rfl (fun q854 => ?_) (fun q854 => ?_)
  ·replace hF := hF.1 q854
   refine .skip (.seqN ?_)
   refine .share (σ := Bool × List Int) (fun z => F_treeDepth_J1 i d3 I2 μ2 again3 z.2 z.1 ∧ z.2.length = (((l.length : Nat) : Int)).toNat) (fun z => [(0, vSl al2 l cl2), (3, .slice a ((((l.length : Nat) : Int)).toNat) c), (4, .bool z.1), (5, iV i)]) (fun z => [OwnSl 3 1 a ((((l.length : Nat) : Int)).toNat) c (flL z.2)]) (fun _ => h) ?_ (fun q876 => ?_)
   ·rintro ⟨again5, d5⟩ ⟨hF, q875⟩
    show J _ _ _ _ _ [(0, vSl al2 l cl2), (3, .slice a ((((l.length : Nat) : Int)).toNat) c), (4, .bool again5), (5, iV i)] [OwnSl 3 1 a ((((l.length : Nat) : Int)).toNat) c (flL d5)] h
    refine .region (.V (mv rfl) ?_)
    refine .V (bi rfl rfl rfl) ?_
    refine .V (asg rfl) ?_
    refine .nil ?_
    exact .RO (again5, wr (i + 1), d5) ⟨hF.1, q875⟩ hF.2
   refine .block (.seq (.region (.V (asg rfl) ?_)))
   refine .nil (.seqN (.seq (.seq (.region (.V (mv rfl) ?_)))))
   refine .V (mv rfl) ?_
   obtain ⟨q877, hF⟩ := hF
   refine .V (ix rfl rfl tS60 (_q1.ne (by decide) (inb_pos q877)) q877) ?_
   refine .V (fa rfl tF102_0) ?_
   refine .V (ld1 (v := iV ((gt l i).kind)) rfl tO3 (cellH (_q1.elemF q877 (by decide) 0 _ rfl))) ?_
   refine .V (bi rfl rfl rfl) ?_
   refine .nil (.seqN ?_)
   refine .shareT (σ := Int) (fun z => F_treeDepth_J2 l z i d3 I2 μ2 again3) (fun z => [(0, vSl al2 l cl2), (3, .slice a ((((l.length : Nat) : Int)).toNat) c), (4, .bool again3), (5, iV i), (6, iV z)]) (fun _ => [OwnSl 3 1 a ((((l.length : Nat) : Int)).toNat) c (flL d3)]) (fun _ => h) ?_ (fun q880 => ?_)
   ·rintro n_ hF
    show J _ _ _ _ _ [(0, vSl al2 l cl2), (3, .slice a ((((l.length : Nat) : Int)).toNat) c), (4, .bool again3), (5, iV i), (6, iV n_)] [OwnSl 3 1 a ((((l.length : Nat) : Int)).toNat) c (flL d3)] h
    refine .seq ?_
    refine .share (σ := Bool) (fun z => F_treeDepth_J3 l n_ z i d3 I2 μ2 again3) (fun z => [(0, vSl al2 l cl2), (3, .slice a ((((l.length : Nat) : Int)).toNat) c), (4, .bool again3), (5, iV i), (6, iV n_), (50, .bool z)]) (fun _ => [OwnSl 3 1 a ((((l.length : Nat) : Int)).toNat) c (flL d3)]) (fun _ => h) ?_ (fun q883 => ?_)
    ·rintro t50 hF
     show J _ _ _ _ _ [(0, vSl al2 l cl2), (3, .slice a ((((l.length : Nat) : Int)).toNat) c), (4, .bool again3), (5, iV i), (6, iV n_), (50, .bool t50)] [OwnSl 3 1 a ((((l.length : Nat) : Int)).toNat) c (flL d3)] h
     refine .shareT (σ := Int) (fun z => F_treeDepth_J4 z i d3 I2 μ2 again3) (fun z => [(0, vSl al2 l cl2), (3, .slice a ((((l.length : Nat) : Int)).toNat) c), (4, .bool again3), (5, iV i), (6, iV z)]) (fun _ => [OwnSl 3 1 a ((((l.length : Nat) : Int)).toNat) c (flL d3)]) (fun _ => h) ?_ (fun q886 => ?_)
     ·rintro n_2 hF
      show J _ _ _ _ _ [(0, vSl al2 l cl2), (3, .slice a ((((l.length : Nat) : Int)).toNat) c), (4, .bool again3), (5, iV i), (6, iV n_2)] [OwnSl 3 1 a ((((l.length : Nat) : Int)).toNat) c (flL d3)] h
      refine .seq (.region (.V (mv rfl) ?_))
      refine .V (mv rfl) ?_
      refine .V (mv rfl) ?_
      obtain ⟨q887, hF⟩ := hF
      refine .V (ixS rfl rfl tS22 (k := 0) rfl (inb_n q887 q805)) ?_
      refine .V (ld1 (v := iV (gt d3 i)) rfl tO3 (cellS (k := 0) rfl (flL_get q887 (j := 0) rfl))) ?_
      refine .V (bi rfl rfl rfl) ?_
      refine .nil (.seqN ?_)
      refine .cond rfl (fun q888 => ?_) (fun q888 => ?_)
      ·replace hF := hF.1 q888
       refine .seq (.region (.V (mv rfl) ?_))
       refine .V (mv rfl) ?_
       refine .V (mv rfl) ?_
       refine .V (ixS rfl rfl tS22 (k := 0) rfl (inb_n q887 q805)) ?_
       obtain ⟨d6, q889⟩ : ∃ y_ : List Int, y_ = (d3.set (i).toNat n_2) := ⟨_, rfl⟩
       replace hF := hF d6 q889
       refine stS (k := 0) (cs' := flL d6) rfl (fun _ => rfl) rfl rfl (fun w => (tO3 w).2) rfl rfl rfl (by rw [← q805]; exact inb_pos q887) (fl_room q887) (by rw [q889]; exact flL_set q887 n_2) ?_
       have q890 : d6.length = (((l.length : Nat) : Int)).toNat := by rw [q889]; exact List.length_set.trans q805
       refine .cast (A' := [OwnSl 3 1 a ((((l.length : Nat) : Int)).toNat) c (flL d6)]) rfl ?_
       refine .nil (.seqN (.region (.V (asg rfl) ?_)))
       refine .nil (.blkN ?_)
       exact .US q876 (true, d6) ⟨hF, q890⟩
      replace hF := hF.2 q888
      refine .skip (.blkN ?_)
      exact .US q876 (again3, d3) ⟨hF, q805⟩
     refine .cond rfl (fun q891 => ?_) (fun q891 => ?_)
     ·replace hF := hF.1 q891
      refine .region (.V (mv rfl) ?_)
      refine .V (mv rfl) ?_
      refine .V (mv rfl) ?_
      refine .V (ix rfl rfl tS60 (_q1.ne (by decide) (inb_pos q877)) q877) ?_
      refine .V (fa rfl tF102_4) ?_
      refine .V (ld1 (v := iV ((gt l i).no)) rfl tO3 (cellH (_q1.elemF q877 (by decide) 4 _ rfl))) ?_
      obtain ⟨q892, hF⟩ := hF
      refine .V (ixS rfl rfl tS22 (k := 0) rfl (inb_n q892 q805)) ?_
      refine .V (ld1 (v := iV (gt d3 ((gt l i).no))) rfl tO3 (cellS (k := 0) rfl (flL_get q892 (j := 0) rfl))) ?_
      refine .V (bi rfl rfl rfl) ?_
      refine .V (asg rfl) ?_
      refine .nil ?_
      exact .US q886 (wr ((gt d3 ((gt l i).no)) + 1)) hF
     replace hF := hF.2 q891
     refine .skip ?_
     exact .US q886 n_ hF
    refine .region (.V (mv rfl) ?_)
    refine .V (mv rfl) ?_
    refine .V (ix rfl rfl tS60 (_q1.ne (by decide) (inb_pos q877)) q877) ?_
    refine .V (fa rfl tF102_0) ?_
    refine .V (ld1 (v := iV ((gt l i).kind)) rfl tO3 (cellH (_q1.elemF q877 (by decide) 0 _ rfl))) ?_
    refine .V (bi rfl rfl rfl) ?_
    refine .V (mv rfl) ?_
    rcases Bool.eq_false_or_eq_true (((gt l i).kind) == 3) with q893 | q893
    ·replace hF := hF.1 q893
     refine .GV (mv rfl) q893 ?_
     refine .GV (mv rfl) q893 ?_
     refine .GV (mv rfl) q893 ?_
     refine .GV (ix rfl rfl tS60 (_q1.ne (by decide) (inb_pos q877)) q877) q893 ?_
     refine .GV (fa rfl tF102_4) q893 ?_
     refine .GV (ld1 (v := iV ((gt l i).no)) rfl tO3 (cellH (_q1.elemF q877 (by decide) 4 _ rfl))) q893 ?_
     obtain ⟨q894, hF⟩ := hF
     refine .GV (ixS rfl rfl tS22 (k := 0) rfl (inb_n q894 q805)) q893 ?_
     refine .GV (ld1 (v := iV (gt d3 ((gt l i).no))) rfl tO3 (cellS (k := 0) rfl (flL_get q894 (j := 0) rfl))) q893 ?_
     refine .GV (bi rfl rfl rfl) q893 ?_
     refine .GV (mv rfl) q893 ?_
     refine .GV (bi rfl rfl rfl) q893 ?_
     refine .V (pkT rfl q893 rfl) ?_
     refine .nil ?_
     exact .US q883 (decide (n_ < (wr ((gt d3 ((gt l i).no)) + 1)))) hF
    replace hF := hF.2 q893
    refine .GS q893 ?_
    refine .GS q893 ?_
    refine .GS q893 ?_
    refine .GS q893 ?_
    refine .GS q893 ?_
    refine .GS q893 ?_
    refine .GS q893 ?_
    refine .GS q893 ?_
    refine .GS q893 ?_
    refine .GS q893 ?_
    refine .GS q893 ?_
    refine .V (pkF rfl q893 rfl) ?_
    refine .nil ?_
    exact .US q883 false hF
   refine .cond rfl (fun q895 => ?_) (fun q895 => ?_)
   ·replace hF := hF.1 q895
    refine .region (.V (mv rfl) ?_)
    refine .V (mv rfl) ?_
    refine .V (mv rfl) ?_
    refine .V (ix rfl rfl tS60 (_q1.ne (by decide) (inb_pos q877)) q877) ?_
    refine .V (fa rfl tF102_3) ?_
    refine .V (ld1 (v := iV ((gt l i).yes)) rfl tO3 (cellH (_q1.elemF q877 (by decide) 3 _ rfl))) ?_
    obtain ⟨q896, hF⟩ := hF
    refine .V (ixS rfl rfl tS22 (k := 0) rfl (inb_n q896 q805)) ?_
    refine .V (ld1 (v := iV (gt d3 ((gt l i).yes))) rfl tO3 (cellS (k := 0) rfl (flL_get q896 (j := 0) rfl))) ?_
    refine .V (bi rfl rfl rfl) ?_
    refine .V (asg rfl) ?_
    refine .nil ?_
    exact .US q880 (wr ((gt d3 ((gt l i).yes)) + 1)) hF
   replace hF := hF.2 q895
   refine .skip ?_
   exact .US q880 0 hF
  replace hF := hF.2 q854
  refine .exit (.seqX (.seqX (.blkX (.blkN ?_))))
  exact .RO (again3, d3) ⟨hF.1, q805⟩ hF.2
 replace hF := hF.2 q754
 refine .exit (.seqX (.seqX (.blkX (.seqN (.seq (.region (.V (mv rfl) ?_)))))))
 refine .V (mv rfl) ?_
 refine .V (ln rfl tS60.is) ?_
 refine .V (bi rfl rfl rfl) ?_
 obtain ⟨q897, hF⟩ := hF
 refine .V (ixS rfl rfl tS22 (k := 0) rfl (inb_n q897 q605)) ?_
 refine .V (ld1 (v := iV (gt d (wr (((l.length : Nat) : Int) - 1)))) rfl tO3 (cellS (k := 0) rfl (flL_get q897 (j := 0) rfl))) ?_
 refine .V (asg rfl) ?_
 refine .nil (.seqN (.ret ?_))
 refine .res1 rfl (rvT rfl) (fun w' S => ⟨(gt d (wr (((l.length : Nat) : Int) - 1))), hF, rfl, S.below⟩)
theorem c_treeDepth {h : FH} {w : World} (hs : Sub h w) (l : List TNode) (al2 : Option Addr) (cl2 : Nat) (_q1 : RSl h al2 l) (_q2 : l.length ≤ cl2) (hp : pre_treeDepth l) : Calls Tryz.prog 41 #[.slice al2 l.length cl2] w fun e w' => e = .returned (iV (sp_treeDepth l)) ∧ Below w.heap.size w w' :=
 (w_treeDepth hs l al2 cl2 _q1 _q2 (fun r => r = sp_treeDepth l) (ok_treeDepth l hp)).mono fun _ _ ⟨_, hk, he, hb⟩ => ⟨by rw [he, hk], hb⟩
set_option maxHeartbeats 8000000 in
theorem w_treeRun {h : FH} {w : World} (hs : Sub h w) (t : Task) (at_ : Option Addr) (ct : Nat) (_q1 : RSl h at_ t.init) (_q2 : t.init.length ≤ ct) (at_2 : Option Addr) (ct2 : Nat) (_q3 : RSl h at_2 t.goal) (_q4 : t.goal.length ≤ ct2) (at_3 : Option Addr) (ct3 : Nat) (_q5 : RSl h at_3 t.ops) (_q6 : t.ops.length ≤ ct3) (l : List TNode) (al2 : Option Addr) (cl2 : Nat) (_q7 : RSl h al2 l) (_q8 : l.length ≤ cl2) (i : Int) (s_ : List Int) (as_ : Option Addr) (cs_ : Nat) (_q9 : RSl h as_ s_) (_q10 : s_.length ≤ cs_) (mM : Nat) (hm : mu_treeRun t l i s_ = mM) (ih : ∀ {h : FH} {w : World} (_ : Sub h w) (t : Task) (at_ : Option Addr) (ct : Nat) (_ : RSl h at_ t.init) (_ : t.init.length ≤ ct) (at_2 : Option Addr) (ct2 : Nat) (_ : RSl h at_2 t.goal) (_ : t.goal.length ≤ ct2) (at_3 : Option Addr) (ct3 : Nat) (_ : RSl h at_3 t.ops) (_ : t.ops.length ≤ ct3) (l : List TNode) (al2 : Option Addr) (cl2 : Nat) (_ : RSl h al2 l) (_ : l.length ≤ cl2) (i : Int) (s_ : List Int) (as_ : Option Addr) (cs_ : Nat) (_ : RSl h as_ s_) (_ : s_.length ≤ cs_) (_ : mu_treeRun t l i s_ < mM) (_ : pre_treeRun t l i s_), Calls Tryz.prog 43 #[.agg #[iV t.facts, .slice at_ t.init.length ct, .slice at_2 t.goal.length ct2, .slice at_3 t.ops.length ct3], .slice al2 l.length cl2, iV i, .slice as_ s_.length cs_] w fun e w' => ∃ (z : Option Addr × Nat) (h1 : FH), e = .returned (.tuple #[.slice z.1 (sp_treeRun t l i s_).1.length z.2, .bool (sp_treeRun t l i s_).2]) ∧ FH.le h h1 ∧ (RSl h1 z.1 (sp_treeRun t l i s_).1 ∧ (sp_treeRun t l i s_).1.length ≤ z.2) ∧ SH (Kp.all w h) h1 w' []) (K : (List Int × Bool) → Prop) (hF : F_treeRun t l i s_ K) : Calls Tryz.prog 43 #[.agg #[iV t.facts, .slice at_ t.init.length ct, .slice at_2 t.goal.length ct2, .slice at_3 t.ops.length ct3], .slice al2 l.length cl2, iV i, .slice as_ s_.length cs_] w fun e w' => ∃ (r : List Int × Bool) (z : Option Addr × Nat) (h1 : FH), K r ∧ e = .returned (.tuple #[.slice z.1 r.1.length z.2, .bool r.2]) ∧ FH.le h h1 ∧ (RSl h1 z.1 r.1 ∧ r.1.length ≤ z.2) ∧ SH (Kp.all w h) h1 w' [] := by
 refine enter (args := [.agg (tF t at_ ct at_2 ct2 at_3 ct3).toArray, vSl al2 l cl2, iV i, vSl as_ s_ cs_]) Tryz.func43 rfl Tryz.ntmps43 rfl hs ?_
 refine .seq (.region ?_)
 refine bx (vs := (tF t at_ ct at_2 ct2 at_3 ct3)) rfl rfl rfl (fun pt => ?_)
 refine .V (asg rfl) ?_
 refine .V (asg rfl) ?_
 refine .nil (.seqN (.seq (.region (.V (mv rfl) ?_))))
 refine .V (mv rfl) ?_
 obtain ⟨q11, hF⟩ := hF
 refine .V (ix rfl rfl tS60 (_q7.ne (by decide) (inb_pos q11)) q11) ?_
 refine .V (ldA (cs := [iV ((gt l i).kind), iV ((gt l i).op), iV ((gt l i).fact), iV ((gt l i).yes), iV ((gt l i).no)]) rfl tA102 rfl (cellsH (_q7.elemF q11 (by decide)))) ?_
 refine al tZ102 rfl (fun pn => ?_)
 refine st (p := pn) (off := 0) (k := 0) (vs := [iV ((gt l i).kind), iV ((gt l i).op), iV ((gt l i).fact), iV ((gt l i).yes), iV ((gt l i).no)]) rfl rfl rfl (fun w => (tA102 w).2) rfl rfl rfl rfl ?_
 refine .cast (A' := [Box pn [iV ((gt l i).kind), iV ((gt l i).op), iV ((gt l i).fact), iV ((gt l i).yes), iV ((gt l i).no)], Box pt (tF t at_ ct at_2 ct2 at_3 ct3)]) rfl ?_
 refine .nil (.seqN (.seq (.seq (.region (.V (fa rfl tF102_0) ?_)))))
 refine .V (ld1 rfl tO3 (cellB (off := 0) (k := 0) rfl rfl)) ?_
 refine .V (bi rfl rfl rfl) ?_
 refine .nil (.seqN ?_)
 refine .cond rfl (fun q15 => ?_) (fun q15 => ?_)
 ·replace hF := hF.1 q15
  refine .seq (.region (.V (fa rfl tF25_2) ?_))
  refine .V (ld1 rfl tO22 (cellB (off := 2) (k := 1) rfl rfl)) ?_
  refine .V (mv rfl) ?_
  obtain ⟨q16, hF⟩ := hF
  obtain ⟨r2, q17⟩ : ∃ y_ : Bool, y_ = sp_subset t.goal s_ := ⟨_, rfl⟩
  replace hF := hF r2 q17
  refine .C (cl (v := .bool r2) Tryz.call63 rfl rfl (fun w S => (by rw [q17]; exact c_subset S.sub t.goal at_2 ct2 _q3 _q4 s_ as_ cs_ _q9 _q10 q16))) ?_
  refine .V (asg rfl) ?_
  refine .V (asg rfl) ?_
  refine .nil (.seqN (.ret (.seqR ?_)))
  refine .res2 rfl (rvT rfl) (rvT rfl) (fun w' S => ⟨(([] : List Int), r2), (none, 0), h, hF, rfl, (FH.le_refl _), ⟨RSl.nil_, (Nat.le_refl 0)⟩, S.none⟩)
 replace hF := hF.2 q15
 refine .skip (.seqN (.seq (.seq (.region (.V (fa rfl tF102_0) ?_)))))
 refine .V (ld1 rfl tO3 (cellB (off := 0) (k := 0) rfl rfl)) ?_
 refine .V (bi rfl rfl rfl) ?_
 refine .nil (.seqN ?_)
 refine .cond rfl (fun q38 => ?_) (fun q38 => ?_)
 ·replace hF := hF.1 q38
  refine .seq (.seq (.region (.V (mv rfl) ?_)))
  refine .V (fa rfl tF102_2) ?_
  refine .V (ld1 rfl tO3 (cellB (off := 2) (k := 0) rfl rfl)) ?_
  obtain ⟨q39, hF⟩ := hF
  obtain ⟨r3, q40⟩ : ∃ y_ : Bool, y_ = sp_has s_ ((gt l i).fact) := ⟨_, rfl⟩
  replace hF := hF r3 q40
  refine .C (cl (v := .bool r3) Tryz.call76 rfl rfl (fun w S => (by rw [q40]; exact c_has S.sub s_ as_ cs_ _q9 _q10 ((gt l i).fact) q39))) ?_
  refine .nil (.seqN ?_)
  refine .cond rfl (fun q47 => ?_) (fun q47 => ?_)
  ·replace hF := hF.1 q47
   refine .seq (.region (.V (ldA (cs := (tF t at_ ct at_2 ct2 at_3 ct3)) rfl tA25 rfl (cellsB (off := 0) (k := 1) rfl (m := 4) rfl)) ?_))
   refine .V (mv rfl) ?_
   refine .V (fa rfl tF102_3) ?_
   refine .V (ld1 rfl tO3 (cellB (off := 3) (k := 0) rfl rfl)) ?_
   refine .V (mv rfl) ?_
   obtain ⟨q48, q49, hF⟩ := hF
   obtain ⟨r4, q50⟩ : ∃ y_ : List Int × Bool, y_ = sp_treeRun t l ((gt l i).yes) s_ := ⟨_, rfl⟩
   replace hF := hF r4 q50
   refine clR (α := Option Addr × Nat) (Φ := fun h1 z => RSl h1 z.1 r4.1 ∧ r4.1.length ≤ z.2) (V := fun z => .tuple #[vSl z.1 r4.1 z.2, .bool r4.2]) Tryz.call43 rfl rfl (fun w S => (by rw [q50]; exact ih S.sub t at_ ct _q1 _q2 at_2 ct2 _q3 _q4 at_3 ct3 _q5 _q6 l al2 cl2 _q7 _q8 ((gt l i).yes) s_ as_ cs_ _q9 _q10 (by rw [← hm]; exact q49) q48)) rfl (fun z h5 le5 hz => ?_)
   obtain ⟨a, c⟩ := z
   obtain ⟨q51, q52⟩ := hz
   refine .V (ext rfl rfl) ?_
   refine .V (ext rfl rfl) ?_
   refine .V (asg rfl) ?_
   refine .V (asg rfl) ?_
   refine .nil (.seqN (.ret (.seqR (.seqR ?_))))
   refine .res2 rfl (rvT rfl) (rvT rfl) (fun w' S => ⟨(r4.1, r4.2), (a, c), h5, hF, rfl, (le5), ⟨q51, q52⟩, S.none⟩)
  replace hF := hF.2 q47
  refine .skip (.seqN (.seq (.region (.V (ldA (cs := (tF t at_ ct at_2 ct2 at_3 ct3)) rfl tA25 rfl (cellsB (off := 0) (k := 1) rfl (m := 4) rfl)) ?_))))
  refine .V (mv rfl) ?_
  refine .V (fa rfl tF102_4) ?_
  refine .V (ld1 rfl tO3 (cellB (off := 4) (k := 0) rfl rfl)) ?_
  refine .V (mv rfl) ?_
  obtain ⟨q53, q54, hF⟩ := hF
  obtain ⟨r5, q55⟩ : ∃ y_ : List Int × Bool, y_ = sp_treeRun t l ((gt l i).no) s_ := ⟨_, rfl⟩
  replace hF := hF r5 q55
  refine clR (α := Option Addr × Nat) (Φ := fun h1 z => RSl h1 z.1 r5.1 ∧ r5.1.length ≤ z.2) (V := fun z => .tuple #[vSl z.1 r5.1 z.2, .bool r5.2]) Tryz.call43 rfl rfl (fun w S => (by rw [q55]; exact ih S.sub t at_ ct _q1 _q2 at_2 ct2 _q3 _q4 at_3 ct3 _q5 _q6 l al2 cl2 _q7 _q8 ((gt l i).no) s_ as_ cs_ _q9 _q10 (by rw [← hm]; exact q54) q53)) rfl (fun z h6 le6 hz => ?_)
  obtain ⟨a2, c2⟩ := z
  obtain ⟨q56, q57⟩ := hz
  refine .V (ext rfl rfl) ?_
  refine .V (ext rfl rfl) ?_
  refine .V (asg rfl) ?_
  refine .V (asg rfl) ?_
  refine .nil (.seqN (.ret (.seqR ?_)))
  refine .res2 rfl (rvT rfl) (rvT rfl) (fun w' S => ⟨(r5.1, r5.2), (a2, c2), h6, hF, rfl, (le6), ⟨q56, q57⟩, S.none⟩)
 replace hF := hF.2 q38
 refine .skip (.seqN (.seq (.seq (.region (.V (ldA (cs := (tF t at_ ct at_2 ct2 at_3 ct3)) rfl tA25 rfl (cellsB (off := 0) (k := 1) rfl (m := 4) rfl)) ?_)))))
 refine .V (mv rfl) ?_
 refine .V (fa rfl tF102_1) ?_
 refine .V (ld1 rfl tO3 (cellB (off := 1) (k := 0) rfl rfl)) ?_
 obtain ⟨q58, hF⟩ := hF
 obtain ⟨r6, q59⟩ : ∃ y_ : Bool, y_ = sp_applies t s_ ((gt l i).op) := ⟨_, rfl⟩
 replace hF := hF r6 q59
 refine .C (cl (v := .bool r6) Tryz.call78 rfl rfl (fun w S => (by rw [q59]; exact c_applies S.sub t at_ ct _q1 _q2 at_2 ct2 _q3 _q4 at_3 ct3 _q5 _q6 s_ as_ cs_ _q9 _q10 ((gt l i).op) q58))) ?_
 refine .V (nt rfl) ?_
 refine .nil (.seqN ?_)
 refine .cond rfl (fun q61 => ?_) (fun q61 => ?_)
 ·replace hF := hF.1 q61
  refine .seq (.region (.V (asg rfl) ?_))
  refine .V (asg rfl) ?_
  refine .nil (.seqN (.ret (.seqR ?_)))
  refine .res2 rfl (rvT rfl) (rvT rfl) (fun w' S => ⟨(([] : List Int), false), (none, 0), h, hF, rfl, (FH.le_refl _), ⟨RSl.nil_, (Nat.le_refl 0)⟩, S.none⟩)
 replace hF := hF.2 q61
 refine .skip (.seqN (.seq ?_))
 refine .openA (s0 := [(1, vSl al2 l cl2), (3, vSl as_ s_ cs_), (4, .pointer (some pt)), (10, .pointer (some pn))]) [0, 1, 2, 3, 4, 5, 6, 7] [(0, .agg (tF t at_ ct at_2 ct2 at_3 ct3).toArray), (1, vSl al2 l cl2), (2, .pointer (some (pn.add 3))), (3, iV ((gt l i).yes)), (4, .agg (tF t at_ ct at_2 ct2 at_3 ct3).toArray), (5, vSl as_ s_ cs_), (6, .pointer (some (pn.add 1))), (7, iV ((gt l i).op))] (by kernel_rfl) sb [1, 3, 4, 10] [] rfl (by kernel_rfl) ?_
 refine .step [8] 8 rfl (by kernel_rfl) (by kernel_rfl) (.v [] rfl rfl rfl rfl rfl rfl (fun _ => ldA (cs := (tF t at_ ct at_2 ct2 at_3 ct3)) rfl tA25 rfl (cellsB (off := 0) (k := 1) rfl (m := 4) rfl)) (.v [] rfl rfl rfl rfl rfl rfl (fun _ => mv rfl) (.v [] rfl rfl rfl rfl rfl rfl (fun _ => fa rfl tF102_3) (.v [(56, .pointer (some (pn.add 3)))] rfl rfl rfl rfl rfl rfl (fun _ => ld1 rfl tO3 (cellB (off := 3) (k := 0) rfl rfl)) (.v [] rfl rfl rfl rfl rfl rfl (fun _ => ldA (cs := (tF t at_ ct at_2 ct2 at_3 ct3)) rfl tA25 rfl (cellsB (off := 0) (k := 1) rfl (m := 4) rfl)) (.v [] rfl rfl rfl rfl rfl rfl (fun _ => mv rfl) (.v [] rfl rfl rfl rfl rfl rfl (fun _ => fa rfl tF102_1) (.v [(60, .pointer (some (pn.add 1)))] rfl rfl rfl rfl rfl rfl (fun _ => ld1 rfl tO3 (cellB (off := 1) (k := 0) rfl rfl)) (.nil))))))))) (.cons [(58, .agg (tF t at_ ct at_2 ct2 at_3 ct3).toArray), (59, vSl as_ s_ cs_), (61, iV ((gt l i).op))] rfl rfl (fun sL hL => ?_) (.nil))
 obtain ⟨q71, hF⟩ := hF
 obtain ⟨r7, q72⟩ : ∃ y_ : List Int, y_ = sp_after t s_ ((gt l i).op) := ⟨_, rfl⟩
 replace hF := hF r7 q72
 refine clR (α := Option Addr × Nat) (Φ := fun h1 z => RSl h1 z.1 r7 ∧ r7.length ≤ z.2) (V := fun z => vSl z.1 r7 z.2) Tryz.call64 rfl rfl (fun w S => (by rw [q72]; exact c_after S.sub t at_ ct _q1 _q2 at_2 ct2 _q3 _q4 at_3 ct3 _q5 _q6 s_ as_ cs_ _q9 _q10 ((gt l i).op) q71)) rfl (fun z h9 le9 hz => ?_)
 obtain ⟨a3, c3⟩ := z
 obtain ⟨q73, q74⟩ := hz
 refine .nil ?_
 refine .ja (M := [4, 5, 7, 6]) (C' := [0, 1, 2, 3]) (pre := [(8, vSl a3 r7 c3)]) [(1, vSl al2 l cl2), (3, vSl as_ s_ cs_), (4, .pointer (some pt)), (10, .pointer (some pn))] [1, 3, 4, 10] hL rfl rfl rfl rfl rfl sb rfl rfl (by kernel_rfl) ?_
 refine .step [9] 9 rfl (by kernel_rfl) (by kernel_rfl) (.v [] rfl rfl rfl rfl rfl rfl (fun _ => ldA (cs := (tF t at_ ct at_2 ct2 at_3 ct3)) rfl tA25 rfl (cellsB (off := 0) (k := 1) rfl (m := 4) rfl)) (.v [] rfl rfl rfl rfl rfl rfl (fun _ => mv rfl) (.v [] rfl rfl rfl rfl rfl rfl (fun _ => fa rfl tF102_3) (.v [(56, .pointer (some (pn.add 3)))] rfl rfl rfl rfl rfl rfl (fun _ => ld1 rfl tO3 (cellB (off := 3) (k := 0) rfl rfl)) (.nil))))) (.cons [(54, .agg (tF t at_ ct at_2 ct2 at_3 ct3).toArray), (55, vSl al2 l cl2), (57, iV ((gt l i).yes)), (62, vSl a3 r7 c3), (62, vSl a3 r7 c3)] rfl rfl (fun sL hL => ?_) (.nil))
 obtain ⟨q75, q76, hF⟩ := hF
 obtain ⟨r8, q77⟩ : ∃ y_ : List Int × Bool, y_ = sp_treeRun t l ((gt l i).yes) r7 := ⟨_, rfl⟩
 replace hF := hF r8 q77
 refine clR (α := Option Addr × Nat) (Φ := fun h1 z => RSl h1 z.1 r8.1 ∧ r8.1.length ≤ z.2) (V := fun z => .tuple #[vSl z.1 r8.1 z.2, .bool r8.2]) Tryz.call43 rfl rfl (fun w S => (by rw [q77]; exact ih S.sub t at_ ct (_q1.mono (le9)) _q2 at_2 ct2 (_q3.mono (le9)) _q4 at_3 ct3 (_q5.mono (le9)) _q6 l al2 cl2 (_q7.mono (le9)) _q8 ((gt l i).yes) r7 a3 c3 q73 q74 (by rw [← hm]; exact q76) q75)) rfl (fun z h10 le10 hz => ?_)
 obtain ⟨a4, c4⟩ := z
 obtain ⟨q78, q79⟩ := hz
 refine .nil ?_
 refine .ja (M := [0, 1, 3, 2]) (C' := [10, 11, 12, 13, 14]) (pre := [(9, .tuple #[vSl a4 r8.1 c4, .bool r8.2]), (10, .tuple #[vSl a4 r8.1 c4, .bool r8.2]), (11, vSl a4 r8.1 c4), (12, .bool r8.2), (13, vSl a4 r8.1 c4), (14, .bool r8.2)]) [(1, vSl al2 l cl2), (3, vSl as_ s_ cs_), (4, .pointer (some pt)), (10, .pointer (some pn))] [1, 3, 4, 10] hL rfl rfl rfl rfl rfl sb rfl rfl (by kernel_rfl) ?_
 refine .last [(54, .agg (tF t at_ ct at_2 ct2 at_3 ct3).toArray), (55, vSl al2 l cl2), (56, .pointer (some (pn.add 3))), (57, iV ((gt l i).yes)), (58, .agg (tF t at_ ct at_2 ct2 at_3 ct3).toArray), (59, vSl as_ s_ cs_), (60, .pointer (some (pn.add 1))), (61, iV ((gt l i).op)), (62, vSl a3 r7 c3), (63, .tuple #[vSl a4 r8.1 c4, .bool r8.2]), (53, .tuple #[vSl a4 r8.1 c4, .bool r8.2]), (64, vSl a4 r8.1 c4), (65, .bool r8.2), (11, vSl a4 r8.1 c4), (12, .bool r8.2)] rfl (by kernel_rfl) (.v [(63, .tuple #[vSl a4 r8.1 c4, .bool r8.2])] rfl rfl rfl rfl rfl rfl (fun _ => mv rfl) (.v [(53, .tuple #[vSl a4 r8.1 c4, .bool r8.2])] rfl rfl rfl rfl rfl rfl (fun _ => ext rfl rfl) (.v [(53, .tuple #[vSl a4 r8.1 c4, .bool r8.2])] rfl rfl rfl rfl rfl rfl (fun _ => ext rfl rfl) (.v [(64, vSl a4 r8.1 c4), (63, .tuple #[vSl a4 r8.1 c4, .bool r8.2]), (54, .agg (tF t at_ ct at_2 ct2 at_3 ct3).toArray), (55, vSl al2 l cl2), (56, .pointer (some (pn.add 3))), (57, iV ((gt l i).yes)), (58, .agg (tF t at_ ct at_2 ct2 at_3 ct3).toArray), (59, vSl as_ s_ cs_), (60, .pointer (some (pn.add 1))), (61, iV ((gt l i).op)), (62, vSl a3 r7 c3), (63, .tuple #[vSl a4 r8.1 c4, .bool r8.2]), (53, .tuple #[vSl a4 r8.1 c4, .bool r8.2]), (64, vSl a4 r8.1 c4)] rfl rfl rfl rfl rfl rfl (fun _ => asg rfl) (.v [(65, .bool r8.2), (11, vSl a4 r8.1 c4), (54, .agg (tF t at_ ct at_2 ct2 at_3 ct3).toArray), (55, vSl al2 l cl2), (56, .pointer (some (pn.add 3))), (57, iV ((gt l i).yes)), (58, .agg (tF t at_ ct at_2 ct2 at_3 ct3).toArray), (59, vSl as_ s_ cs_), (60, .pointer (some (pn.add 1))), (61, iV ((gt l i).op)), (62, vSl a3 r7 c3), (63, .tuple #[vSl a4 r8.1 c4, .bool r8.2]), (53, .tuple #[vSl a4 r8.1 c4, .bool r8.2]), (64, vSl a4 r8.1 c4), (65, .bool r8.2), (11, vSl a4 r8.1 c4)] rfl rfl rfl rfl rfl rfl (fun _ => asg rfl) (.nil)))))) rfl ?_
 refine .seqN (.seq (.region (.V (fa rfl tF102_1) ?_)))
 refine .V (ld1 rfl tO3 (cellB (off := 1) (k := 0) rfl rfl)) ?_
 refine bs2 (cs := #[iV ((gt l i).op)]) (pv := [(0, iV ((gt l i).op))]) tS22 rfl rfl (by decide) (by decide) rfl rfl rfl (fun a5 _ => ?_)
 refine .cast (A' := [OwnSl 3 1 a5 (([(gt l i).op] : List Int).length) 1 (flL ([(gt l i).op] : List Int)), Box pn [iV ((gt l i).kind), iV ((gt l i).op), iV ((gt l i).fact), iV ((gt l i).yes), iV ((gt l i).no)], Box pt (tF t at_ ct at_2 ct2 at_3 ct3)]) rfl ?_
 refine .V (mv rfl) ?_
 obtain ⟨q81, hF⟩ := hF
 have q82 : ([(gt l i).op] : List Int).length + r8.1.length = ((([(gt l i).op] : List Int) ++ r8.1)).length := len_app rfl rfl
 refine app (k := 0) (news := flL r8.1) (cs' := flL (([(gt l i).op] : List Int) ++ r8.1)) (nm := ((([(gt l i).op] : List Int) ++ r8.1)).length) tS22 rfl (by decide) rfl rfl rfl (by rw [flL_len]; rfl) (srcH (fun q => q78.ne (by decide) q) (q78.raw)) (flL_one _) (room_of q82 q81).1 (room_of q82 q81).2 q82 (flL_append _ _).symm rfl (fun a6 c5 => ?_)
 refine .cast (A' := [OwnSl 3 1 a6 ((([(gt l i).op] : List Int) ++ r8.1).length) c5 (flL (([(gt l i).op] : List Int) ++ r8.1)), Box pn [iV ((gt l i).kind), iV ((gt l i).op), iV ((gt l i).fact), iV ((gt l i).yes), iV ((gt l i).no)], Box pt (tF t at_ ct at_2 ct2 at_3 ct3)]) rfl ?_
 refine .V (mv rfl) ?_
 refine .V (asg rfl) ?_
 refine .V (asg rfl) ?_
 refine .nil (.seqN ?_)
 refine .freezeL (k := 0) rfl (fun h11 le11 q84 q83 => ?_)
 refine .cast (A' := [tru, Box pn [iV ((gt l i).kind), iV ((gt l i).op), iV ((gt l i).fact), iV ((gt l i).yes), iV ((gt l i).no)], Box pt (tF t at_ ct at_2 ct2 at_3 ct3)]) rfl ?_
 refine .ret ?_
 refine .res2 rfl (rvT rfl) (rvT rfl) (fun w' S => ⟨((([(gt l i).op] : List Int) ++ r8.1), r8.2), (a6, c5), h11, hF, rfl, (FH.le_trans (FH.le_trans (le9) (le10)) (le11)), ⟨(RSl.of q83), (q84)⟩, S.none⟩)
theorem c_treeRun_ : ∀ (mM : Nat) {h : FH} {w : World} (_ : Sub h w) (t : Task) (at_ : Option Addr) (ct : Nat) (_q1 : RSl h at_ t.init) (_q2 : t.init.length ≤ ct) (at_2 : Option Addr) (ct2 : Nat) (_q3 : RSl h at_2 t.goal) (_q4 : t.goal.length ≤ ct2) (at_3 : Option Addr) (ct3 : Nat) (_q5 : RSl h at_3 t.ops) (_q6 : t.ops.length ≤ ct3) (l : List TNode) (al2 : Option Addr) (cl2 : Nat) (_q7 : RSl h al2 l) (_q8 : l.length ≤ cl2) (i : Int) (s_ : List Int) (as_ : Option Addr) (cs_ : Nat) (_q9 : RSl h as_ s_) (_q10 : s_.length ≤ cs_) (_ : mu_treeRun t l i s_ = mM) (_ : pre_treeRun t l i s_), Calls Tryz.prog 43 #[.agg #[iV t.facts, .slice at_ t.init.length ct, .slice at_2 t.goal.length ct2, .slice at_3 t.ops.length ct3], .slice al2 l.length cl2, iV i, .slice as_ s_.length cs_] w fun e w' => ∃ (z : Option Addr × Nat) (h1 : FH), e = .returned (.tuple #[.slice z.1 (sp_treeRun t l i s_).1.length z.2, .bool (sp_treeRun t l i s_).2]) ∧ FH.le h h1 ∧ (RSl h1 z.1 (sp_treeRun t l i s_).1 ∧ (sp_treeRun t l i s_).1.length ≤ z.2) ∧ SH (Kp.all w h) h1 w' [] := by
 intro mM
 induction mM using Nat.strongRecOn with
 | _ mM ih =>
  intro h w hs t at_ ct _q1 _q2 at_2 ct2 _q3 _q4 at_3 ct3 _q5 _q6 l al2 cl2 _q7 _q8 i s_ as_ cs_ _q9 _q10 hm hp
  exact (w_treeRun hs t at_ ct _q1 _q2 at_2 ct2 _q3 _q4 at_3 ct3 _q5 _q6 l al2 cl2 _q7 _q8 i s_ as_ cs_ _q9 _q10 _ rfl (fun hs' t at_ ct _q1 _q2 at_2 ct2 _q3 _q4 at_3 ct3 _q5 _q6 l al2 cl2 _q7 _q8 i s_ as_ cs_ _q9 _q10 hlt hp => ih _ (hm ▸ hlt) hs' t at_ ct _q1 _q2 at_2 ct2 _q3 _q4 at_3 ct3 _q5 _q6 l al2 cl2 _q7 _q8 i s_ as_ cs_ _q9 _q10 rfl hp) (fun r => r = sp_treeRun t l i s_) (ok_treeRun t l i s_ hp)).mono fun _ _ ⟨r, z, h1, hk, he, hl, hf, hS⟩ => by subst hk; exact ⟨z, h1, he, hl, hf, hS⟩
theorem c_treeRun {h : FH} {w : World} (hs : Sub h w) (t : Task) (at_ : Option Addr) (ct : Nat) (_q1 : RSl h at_ t.init) (_q2 : t.init.length ≤ ct) (at_2 : Option Addr) (ct2 : Nat) (_q3 : RSl h at_2 t.goal) (_q4 : t.goal.length ≤ ct2) (at_3 : Option Addr) (ct3 : Nat) (_q5 : RSl h at_3 t.ops) (_q6 : t.ops.length ≤ ct3) (l : List TNode) (al2 : Option Addr) (cl2 : Nat) (_q7 : RSl h al2 l) (_q8 : l.length ≤ cl2) (i : Int) (s_ : List Int) (as_ : Option Addr) (cs_ : Nat) (_q9 : RSl h as_ s_) (_q10 : s_.length ≤ cs_) (hp : pre_treeRun t l i s_) : Calls Tryz.prog 43 #[.agg #[iV t.facts, .slice at_ t.init.length ct, .slice at_2 t.goal.length ct2, .slice at_3 t.ops.length ct3], .slice al2 l.length cl2, iV i, .slice as_ s_.length cs_] w fun e w' => ∃ (z : Option Addr × Nat) (h1 : FH), e = .returned (.tuple #[.slice z.1 (sp_treeRun t l i s_).1.length z.2, .bool (sp_treeRun t l i s_).2]) ∧ FH.le h h1 ∧ (RSl h1 z.1 (sp_treeRun t l i s_).1 ∧ (sp_treeRun t l i s_).1.length ≤ z.2) ∧ SH (Kp.all w h) h1 w' [] :=
 c_treeRun_ _ hs t at_ ct _q1 _q2 at_2 ct2 _q3 _q4 at_3 ct3 _q5 _q6 l al2 cl2 _q7 _q8 i s_ as_ cs_ _q9 _q10 rfl hp
theorem w_trees {h : FH} {w : World} (hs : Sub h w) (a : List TNode) (aa : Option Addr) (ca : Nat) (_q1 : RSl h aa a) (_q2 : a.length ≤ ca) (b : List TNode) (ab : Option Addr) (cb : Nat) (_q3 : RSl h ab b) (_q4 : b.length ≤ cb) (K : Bool → Prop) (hF : F_trees a b K) : Calls Tryz.prog 35 #[.slice aa a.length ca, .slice ab b.length cb] w fun e w' => ∃ r : Bool, K r ∧ e = .returned (.bool r) ∧ Below w.heap.size w w' := by
 refine enter (args := [vSl aa a ca, vSl ab b cb]) Tryz.func35 rfl Tryz.ntmps35 rfl hs ?_
 refine .seq (.region (.V (asg rfl) ?_))
 refine .nil (.seqN (.seq (.seq (.region (.V (mv rfl) ?_)))))
 refine .V (ln rfl tS60.is) ?_
 refine .V (mv rfl) ?_
 refine .V (ln rfl tS60.is) ?_
 refine .V (bi rfl rfl rfl) ?_
 refine .nil (.seqN ?_)
 refine .cond rfl (fun q6 => ?_) (fun q6 => ?_)
 ·replace hF := hF.1 q6
  refine .seq (.region (.V (asg rfl) ?_))
  refine .nil (.seqN (.ret (.seqR ?_)))
  refine .res1 rfl (rvT rfl) (fun w' S => ⟨false, hF, rfl, S.below⟩)
 replace hF := hF.2 q6
 refine .skip (.seqN (.seq (.seq (.region (.V (asg rfl) ?_)))))
 refine .nil (.seqN (.block ?_))
 obtain ⟨I1, μ1, q79, q80⟩ := hF
 refine .loop' (σ := Int) (fun z => I1 z) (fun z => μ1 z) (fun z => [(0, vSl aa a ca), (1, vSl ab b cb), (5, iV z)]) (fun _ => []) (fun _ => h) 0 q79 sb rfl (FH.le_refl _) ?_
 rintro i q79
 have hF := q80 i q79
 show J _ _ _ _ _ [(0, vSl aa a ca), (1, vSl ab b cb), (5, iV i)] [] h
 refine .seq (.seq (.region (.V (mv rfl) ?_)))
 refine .V (mv rfl) ?_
 refine .V (ln rfl tS60.is) ?_
 refine .V (bi rfl rfl rfl) ?_
 refine .nil (.seqN ?_)
 refine .cond rfl (fun q82 => ?_) (fun q82 => ?_)
 ·replace hF := hF.1 q82
  refine .skip (.seqN (.seq (.block (.seq ?_))))
  refine .open_ (by kernel_rfl) (by kernel_rfl) ?_
  refine .V (mv rfl) ?_
  refine .V (mv rfl) ?_
  obtain ⟨q91, hF⟩ := hF
  refine .V (ix rfl rfl tS60 (_q1.ne (by decide) (inb_pos q91)) q91) ?_
  refine .V (ldA (cs := [iV ((gt a i).kind), iV ((gt a i).op), iV ((gt a i).fact), iV ((gt a i).yes), iV ((gt a i).no)]) rfl tA102 rfl (cellsH (_q1.elemF q91 (by decide)))) ?_
  refine .V (mv rfl) ?_
  refine .V (mv rfl) ?_
  obtain ⟨q92, hF⟩ := hF
  refine .V (ix rfl rfl tS60 (_q3.ne (by decide) (inb_pos q92)) q92) ?_
  refine .V (ldA (cs := [iV ((gt b i).kind), iV ((gt b i).op), iV ((gt b i).fact), iV ((gt b i).yes), iV ((gt b i).no)]) rfl tA102 rfl (cellsH (_q3.elemF q92 (by decide)))) ?_
  obtain ⟨x, q93⟩ : ∃ y_ : Bool, y_ = (!((((((gt a i).kind) == ((gt b i).kind)) && (((gt a i).op) == ((gt b i).op))) && ((((gt a i).fact) == ((gt b i).fact)) && (((gt a i).yes) == ((gt b i).yes)))) && (((gt a i).no) == ((gt b i).no)))) := ⟨_, rfl⟩
  replace hF := hF x q93
  refine .v (v := .bool x) (by rw [q93]; exact ne5 tE102 rfl rfl) rfl rfl rfl ?_
  refine .fin ?_
  refine .seqN ?_
  refine .cond rfl (fun q94 => ?_) (fun q94 => ?_)
  ·replace hF := hF.1 q94
   refine .seq (.region (.V (asg rfl) ?_))
   refine .nil (.seqN (.ret (.blkR (.seqR (.seqR (.blkR (.seqR ?_)))))))
   refine .res1 rfl (rvT rfl) (fun w' S => ⟨false, hF, rfl, S.below⟩)
  replace hF := hF.2 q94
  refine .skip (.blkN (.seqN (.region (.V (mv rfl) ?_))))
  refine .V (bi rfl rfl rfl) ?_
  refine .V (asg rfl) ?_
  refine .nil ?_
  exact .RO (wr (i + 1)) hF.1 hF.2
 replace hF := hF.2 q82
 refine .exit (.seqX (.seqX (.blkX (.seqN (.seq (.region (.V (asg rfl) ?_)))))))
 refine .nil (.seqN (.ret ?_))
 refine .res1 rfl (rvT rfl) (fun w' S => ⟨true, hF, rfl, S.below⟩)
theorem c_trees {h : FH} {w : World} (hs : Sub h w) (a : List TNode) (aa : Option Addr) (ca : Nat) (_q1 : RSl h aa a) (_q2 : a.length ≤ ca) (b : List TNode) (ab : Option Addr) (cb : Nat) (_q3 : RSl h ab b) (_q4 : b.length ≤ cb) (hp : pre_trees a b) : Calls Tryz.prog 35 #[.slice aa a.length ca, .slice ab b.length cb] w fun e w' => e = .returned (.bool (sp_trees a b)) ∧ Below w.heap.size w w' :=
 (w_trees hs a aa ca _q1 _q2 b ab cb _q3 _q4 (fun r => r = sp_trees a b) (ok_trees a b hp)).mono fun _ _ ⟨_, hk, he, hb⟩ => ⟨by rw [he, hk], hb⟩
end Go.Proofs.YtojoehfldbimpaaGreatDoor.Pl

namespace Go.Proofs
open Go.Shelf
def YtojoehfldbimpaaGreatDoor.lays171_ren : Go.Shelf.Ren := ⟨fun | 171 => 113 | 243 => 123 | 246 => 148 | 283 => 144 | 284 => 145 | 285 => 146 | 286 => 147 | 129 => 135 | 317 => 158 | 318 => 159 | 319 => 160 | 320 => 161 | 337 => 164 | 338 => 165 | n => n, fun | 3 => 3 | 9 => 9 | 2 => 2 | 4 => 4 | 171 => 155 | 0 => 0 | 53 => 137 | 37 => 110 | 5 => 5 | 173 => 157 | 212 => 171 | 51 => 148 | 20 => 20 | 213 => 172 | 46 => 131 | 232 => 177 | 233 => 178 | n => n, fun | 17 => 0 | 18 => 1 | 19 => 2 | n => n⟩
theorem YtojoehfldbimpaaGreatDoor.lays171 : Go.Proofs.Lays.n171 Tryz.prog YtojoehfldbimpaaGreatDoor.lays171_ren := {
  mixed := by kernel_rfl
  f129 := Tryz.func135.trans (congrArg some (by kernel_rfl))
  f171 := Tryz.func113.trans (congrArg some (by kernel_rfl))
  f243 := Tryz.func123.trans (congrArg some (by kernel_rfl))
  f246 := Tryz.func148.trans (congrArg some (by kernel_rfl))
  f283 := Tryz.func144.trans (congrArg some (by kernel_rfl))
  f284 := Tryz.func145.trans (congrArg some (by kernel_rfl))
  f285 := Tryz.func146.trans (congrArg some (by kernel_rfl))
  f286 := Tryz.func147.trans (congrArg some (by kernel_rfl))
  f317 := Tryz.func158.trans (congrArg some (by kernel_rfl))
  f318 := Tryz.func159.trans (congrArg some (by kernel_rfl))
  f319 := Tryz.func160.trans (congrArg some (by kernel_rfl))
  f320 := Tryz.func161.trans (congrArg some (by kernel_rfl))
  f337 := Tryz.func164.trans (congrArg some (by kernel_rfl))
  f338 := Tryz.func165.trans (congrArg some (by kernel_rfl))
  t0 := Tryz.underlying0
  a0 := Tryz.isAgg0
  z0 := Tryz.sizeOf0
  v0 := Tryz.zeroValue0
  t2 := Tryz.underlying2
  a2 := Tryz.isAgg2
  z2 := Tryz.sizeOf2
  v2 := Tryz.zeroValue2
  t3 := Tryz.underlying3
  a3 := Tryz.isAgg3
  z3 := Tryz.sizeOf3
  v3 := Tryz.zeroValue3
  t4 := Tryz.underlying4
  a4 := Tryz.isAgg4
  z4 := Tryz.sizeOf4
  v4 := Tryz.zeroValue4
  t5 := Tryz.underlying5
  a5 := Tryz.isAgg5
  z5 := Tryz.sizeOf5
  v5 := Tryz.zeroValue5
  t9 := Tryz.underlying9
  a9 := Tryz.isAgg9
  z9 := Tryz.sizeOf9
  v9 := Tryz.zeroValue9
  t20 := Tryz.underlying20
  a20 := Tryz.isAgg20
  z20 := Tryz.sizeOf20
  v20 := Tryz.zeroValue20
  t37 := Tryz.underlying110
  a37 := Tryz.isAgg110
  z37 := Tryz.sizeOf110
  v37 := Tryz.zeroValue110
  t46 := Tryz.underlying131
  a46 := Tryz.isAgg131
  z46 := Tryz.sizeOf131
  v46 := Tryz.zeroValue131
  t51 := Tryz.underlying148
  a51 := Tryz.isAgg148
  z51 := Tryz.sizeOf148
  v51 := Tryz.zeroValue148
  t53 := Tryz.underlying137
  a53 := Tryz.isAgg137
  z53 := Tryz.sizeOf137
  v53 := Tryz.zeroValue137
  t171 := Tryz.underlying155
  a171 := Tryz.isAgg155
  z171 := Tryz.sizeOf155
  v171 := Tryz.zeroValue155
  t173 := Tryz.underlying157
  a173 := Tryz.isAgg157
  z173 := Tryz.sizeOf157
  v173 := Tryz.zeroValue157
  t212 := Tryz.underlying171
  a212 := Tryz.isAgg171
  z212 := Tryz.sizeOf171
  v212 := Tryz.zeroValue171
  t213 := Tryz.underlying172
  a213 := Tryz.isAgg172
  z213 := Tryz.sizeOf172
  t232 := Tryz.underlying177
  a232 := Tryz.isAgg177
  z232 := Tryz.sizeOf177
  v232 := Tryz.zeroValue177
  t233 := Tryz.underlying178
  a233 := Tryz.isAgg178
  z233 := Tryz.sizeOf178
  v233 := Tryz.zeroValue178
  g17 := by kernel_rfl
  g18 := by kernel_rfl
  g19 := by kernel_rfl }
end Go.Proofs
namespace Go.Proofs.YtojoehfldbimpaaGreatDoor.Pl
open Go Go.RowKit
theorem c_itoa {h : FH} {w : World} (_ : Sub h w) (i : Int) (hp : pre_itoa i) : Calls Tryz.prog 113 #[.int .i64 i] w fun e w' => e = .returned (strV (sp_itoa i)) ∧ Below w.heap.size w w' := by
 obtain ⟨h0, h1⟩ := hp
 have key := Any.strconv_Itoa_small YtojoehfldbimpaaGreatDoor.lays171 i.toNat (by omega) w
 rw [show ((i.toNat : Nat) : Int) = i by omega] at key
 refine key.mono fun e w' ⟨he, hw⟩ => ⟨?_, by rw [hw]; exact Below.refl _ _⟩
 rw [he]
 unfold sp_itoa Lib.itoa
 rw [if_neg (by omega)]
end Go.Proofs.YtojoehfldbimpaaGreatDoor.Pl

