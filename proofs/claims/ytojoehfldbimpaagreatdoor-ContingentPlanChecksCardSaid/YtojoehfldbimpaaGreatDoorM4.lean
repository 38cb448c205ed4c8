import Derived.Test.YtojoehfldbimpaaGreatDoorM3
import Derived.Ground.NamesProg
import Derived.Shelf.Strconv.Itoa3
import Derived.Test.YtojoehfldbimpaaGreatDoorChecked
import Derived.Test.YtojoehfldbimpaaGreatDoorM1
import Derived.Test.YtojoehfldbimpaaGreatDoorM2
/- The walks: from what each function asks to what it does; printed from the code. No condition. -/
namespace Go.Proofs.YtojoehfldbimpaaGreatDoor.Pl
open Go Go.RowKit
theorem w_compactR {h : FH} {w : World} (hs : Sub h w) (s_ : List (List Int)) (as_ : Option Addr) (cs_ : Nat) {cs : List Value} (q1 : RepL h s_ cs) {gX : FH} (ownX : OwnSl 22 1 as_ s_.length cs_ cs gX) (subX : Sub gX w) (disX : Disj h gX) (K : (List (List Int)) → Prop) (hF : F_compactR s_ K) : Calls Tryz.prog 108 #[.slice as_ s_.length cs_, .func (.func 109) #[] #[]] w fun e w' => ∃ r : List (List Int), K r ∧ e = .returned (.slice as_ r.length cs_) ∧ SH (Kp.ex w h gX) h w' [OwnPX h 22 1 as_ cs_ r] := by
  refine enterX (X := OwnSl 22 1 as_ s_.length cs_ cs) (args := [.slice as_ s_.length cs_, .func (.func 109) #[] #[]]) Tryz.func108 rfl Tryz.ntmps108 rfl hs subX disX ownX ?_
  refine .seq ?_
  refine .region ?_
  refine .v (asg rfl) rfl rfl rfl ?_
  refine .nil ?_
  refine .seqN ?_
  refine .seq ?_
  refine .seq ?_
  refine .region ?_
  refine .v (mv rfl) rfl rfl rfl ?_
  refine .v (ln rfl tS35.is) rfl rfl rfl ?_
  refine .v (bi rfl rfl rfl) rfl rfl rfl ?_
  refine .nil ?_
  refine .seqN ?_
  refine .cond rfl (fun q3 => ?_) (fun q3 => ?_)
  · replace hF := hF.1 q3
    refine .seq ?_
    refine .region ?_
    refine .v (mv rfl) rfl rfl rfl ?_
    refine .v (asg rfl) rfl rfl rfl ?_
    refine .nil ?_
    refine .seqN ?_
    refine .ret ?_
    refine .seqR ?_
    refine .res1 rfl (rvT rfl) (fun w' S => ⟨s_, hF, rfl, S.wholeP (k := 0) rfl q1 rfl⟩)
  replace hF := hF.2 q3
  refine .skip ?_
  refine .seqN ?_
  refine .seq ?_
  refine .seq ?_
  refine .region ?_
  refine .v (asg rfl) rfl rfl rfl ?_
  refine .nil ?_
  refine .seqN ?_
  refine .block ?_
  obtain ⟨I1, μ1, q4021, q4022⟩ := hF
  refine .loop' (σ := Int) (fun z => I1 z) (fun z => μ1 z) (fun z => [(0, .slice as_ s_.length cs_), (1, .func (.func 109) #[] #[]), (5, .int .i64 z)]) (fun _ => [OwnSl 22 1 as_ s_.length cs_ cs]) (fun _ => h) 1 q4021 (.cons rfl (.cons rfl (.cons rfl (.nil)))) rfl (FH.le_refl _) ?_
  rintro k q4021
  have hF := q4022 k q4021
  show J _ _ _ _ _ [(0, .slice as_ s_.length cs_), (1, .func (.func 109) #[] #[]), (5, .int .i64 k)] [OwnSl 22 1 as_ s_.length cs_ cs] h
  refine .seq ?_
  refine .seq ?_
  refine .region ?_
  refine .v (mv rfl) rfl rfl rfl ?_
  refine .v (mv rfl) rfl rfl rfl ?_
  refine .v (ln rfl tS35.is) rfl rfl rfl ?_
  refine .v (bi rfl rfl rfl) rfl rfl rfl ?_
  refine .nil ?_
  refine .seqN ?_
  refine .cond rfl (fun q4024 => ?_) (fun q4024 => ?_)
  · replace hF := hF.1 q4024
    refine .skip ?_
    refine .seqN ?_
    refine .seq ?_
    refine .block ?_
    refine .seq ?_
    refine .open_ (by kernel_rfl) (by kernel_rfl) ?_
    refine .v (mv rfl) rfl rfl rfl ?_
    refine .v (mv rfl) rfl rfl rfl ?_
    refine .v (mv rfl) rfl rfl rfl ?_
    obtain ⟨q4559, hF⟩ := hF
    refine .v (ixS rfl rfl tS35 (k := 0) rfl q4559) rfl rfl rfl ?_
    obtain ⟨_, ⟨a, c, rfl, q4560, q4561⟩, q4562⟩ := RepL.get q1 (gt_get q4559)
    refine .v (ld1 (v := .slice a ((gt s_ k).length) c) rfl tO22 (cellS (k := 0) rfl (q4562 0 _ rfl))) rfl rfl rfl ?_
    refine .v (mv rfl) rfl rfl rfl ?_
    refine .v (mv rfl) rfl rfl rfl ?_
    refine .v (bi rfl rfl rfl) rfl rfl rfl ?_
    obtain ⟨q4563, hF⟩ := hF
    refine .v (ixS rfl rfl tS35 (k := 0) rfl q4563) rfl rfl rfl ?_
    obtain ⟨_, ⟨a2, c2, rfl, q4564, q4565⟩, q4566⟩ := RepL.get q1 (gt_get q4563)
    refine .v (ld1 (v := .slice a2 ((gt s_ (IntKind.i64.wrap (k - 1))).length) c2) rfl tO22 (cellS (k := 0) rfl (q4566 0 _ rfl))) rfl rfl rfl ?_
    obtain ⟨q4567, hF⟩ := hF
    obtain ⟨r2, q4568⟩ : ∃ y_ : Bool, y_ = sp_sequal (gt s_ k) (gt s_ (IntKind.i64.wrap (k - 1))) := ⟨_, rfl⟩
    replace hF := hF r2 q4568
    refine .c (cl (v := .bool r2) Tryz.call109 rfl rfl (fun w S => (by rw [q4568]; exact c_sequal S.sub (gt s_ k) a c q4561 q4560 (gt s_ (IntKind.i64.wrap (k - 1))) a2 c2 q4565 q4564 q4567))) rfl rfl rfl ?_
    refine .fin ?_
    refine .seqN ?_
    refine .cond rfl (fun q4569 => ?_) (fun q4569 => ?_)
    · replace hF := hF.1 q4569
      refine .seq ?_
      refine .fact (fun w S => look_len S (k := 0) rfl) (fun q4570 => ?_)
      refine .region ?_
      refine .v (mv rfl) rfl rfl rfl ?_
      refine .v (mv rfl) rfl rfl rfl ?_
      obtain ⟨q4571, hF⟩ := hF
      refine .v (slL tS35 rfl rfl q4571.1 rfl (Int.toNat_le.2 q4571.2)) rfl rfl rfl ?_
      refine .v (asg rfl) rfl rfl rfl ?_
      refine .nil ?_
      refine .seqN ?_
      refine .seq ?_
      refine .seq ?_
      refine .region ?_
      refine .v (asg rfl) rfl rfl rfl ?_
      refine .nil ?_
      refine .seqN ?_
      refine .block ?_
      obtain ⟨I2, μ2, q4781, q4782⟩ := hF
      refine .loop' (σ := Int × Int × List (List Int) × List Value) (fun z => I2 z.1 z.2.1 z.2.2.1 ∧ RepL h z.2.2.1 z.2.2.2 ∧ z.2.2.1.length = s_.length) (fun z => μ2 z.1 z.2.1 z.2.2.1) (fun z => [(0, .slice as_ s_.length cs_), (1, .func (.func 109) #[] #[]), (5, .int .i64 z.1), (6, .slice (sla as_ cs_ (k).toNat 1) (s_.length - (k).toNat) (cs_ - (k).toNat)), (7, .int .i64 z.2.1)]) (fun z => [OwnSl 22 1 as_ s_.length cs_ z.2.2.2]) (fun _ => h) (k, 1, s_, cs) ⟨q4781, q1, rfl⟩ (.cons rfl (.cons rfl (.cons rfl (.cons rfl (.cons rfl (.nil)))))) rfl (FH.le_refl _) ?_
      rintro ⟨k3, k22, s_2, css⟩ ⟨q4781, q4738, q4739⟩
      have hF := q4782 k3 k22 s_2 q4781
      show J _ _ _ _ _ [(0, .slice as_ s_.length cs_), (1, .func (.func 109) #[] #[]), (5, .int .i64 k3), (6, .slice (sla as_ cs_ (k).toNat 1) (s_.length - (k).toNat) (cs_ - (k).toNat)), (7, .int .i64 k22)] [OwnSl 22 1 as_ s_.length cs_ css] h
      refine .seq ?_
      refine .seq ?_
      refine .region ?_
      refine .v (mv rfl) rfl rfl rfl ?_
      refine .v (mv rfl) rfl rfl rfl ?_
      refine .v (ln rfl tS35.is) rfl rfl rfl ?_
      refine .v (bi rfl rfl rfl) rfl rfl rfl ?_
      refine .nil ?_
      refine .seqN ?_
      refine .cond rfl (fun q4784 => ?_) (fun q4784 => ?_)
      · replace hF := hF.1 q4784
        refine .skip ?_
        refine .seqN ?_
        refine .share (σ := Int × List (List Int) × List Value) (fun z => F_compactR_J1 s_2 k3 k22 I2 μ2 z.2.1 z.1 ∧ RepL h z.2.1 z.2.2 ∧ z.2.1.length = s_.length) (fun z => [(0, .slice as_ s_.length cs_), (1, .func (.func 109) #[] #[]), (5, .int .i64 z.1), (6, .slice (sla as_ cs_ (k).toNat 1) (s_.length - (k).toNat) (cs_ - (k).toNat)), (7, .int .i64 k22)]) (fun z => [OwnSl 22 1 as_ s_.length cs_ z.2.2]) (fun _ => h) ?_ (fun q4804 => ?_)
        · rintro ⟨k5, s_4, css3⟩ ⟨hF, q4802, q4803⟩
          show J _ _ _ _ _ [(0, .slice as_ s_.length cs_), (1, .func (.func 109) #[] #[]), (5, .int .i64 k5), (6, .slice (sla as_ cs_ (k).toNat 1) (s_.length - (k).toNat) (cs_ - (k).toNat)), (7, .int .i64 k22)] [OwnSl 22 1 as_ s_.length cs_ css3] h
          refine .region ?_
          refine .v (mv rfl) rfl rfl rfl ?_
          refine .v (bi rfl rfl rfl) rfl rfl rfl ?_
          refine .v (asg rfl) rfl rfl rfl ?_
          refine .nil ?_
          exact .round (k5, IntKind.i64.wrap (k22 + 1), s_4, css3) ⟨hF.1, q4802, q4803⟩ hF.2 (.cons rfl (.cons rfl (.cons rfl (.cons rfl (.cons rfl (.nil)))))) rfl (FH.le_refl _)
        refine .block ?_
        refine .seq ?_
        refine .open_ (by kernel_rfl) (by kernel_rfl) ?_
        refine .v (mv rfl) rfl rfl rfl ?_
        refine .v (mv rfl) rfl rfl rfl ?_
        refine .v (mv rfl) rfl rfl rfl ?_
        obtain ⟨q4805, hF⟩ := hF
        obtain ⟨q4806, hF⟩ := hF
        refine .v (ixV rfl rfl tS35 (k := 0) rfl q4805 (inb_n q4806 q4739)) rfl rfl rfl ?_
        obtain ⟨_, ⟨a3, c3, rfl, q4807, q4808⟩, q4809⟩ := RepL.get q4738 (gt_get q4806)
        refine .v (ld1 (v := .slice a3 ((gt s_2 ((((k).toNat : Nat) : Int) + k22)).length) c3) rfl tO22 (cellS (k := 0) rfl (q4809 0 _ rfl))) rfl rfl rfl ?_
        refine .v (mv rfl) rfl rfl rfl ?_
        refine .v (mv rfl) rfl rfl rfl ?_
        refine .v (bi rfl rfl rfl) rfl rfl rfl ?_
        obtain ⟨q4810, hF⟩ := hF
        obtain ⟨q4811, hF⟩ := hF
        refine .v (ixV rfl rfl tS35 (k := 0) rfl q4810 (inb_n q4811 q4739)) rfl rfl rfl ?_
        obtain ⟨_, ⟨a4, c4, rfl, q4812, q4813⟩, q4814⟩ := RepL.get q4738 (gt_get q4811)
        refine .v (ld1 (v := .slice a4 ((gt s_2 ((((k).toNat : Nat) : Int) + (IntKind.i64.wrap (k22 - 1)))).length) c4) rfl tO22 (cellS (k := 0) rfl (q4814 0 _ rfl))) rfl rfl rfl ?_
        obtain ⟨q4815, hF⟩ := hF
        obtain ⟨r3, q4816⟩ : ∃ y_ : Bool, y_ = sp_sequal (gt s_2 ((((k).toNat : Nat) : Int) + k22)) (gt s_2 ((((k).toNat : Nat) : Int) + (IntKind.i64.wrap (k22 - 1)))) := ⟨_, rfl⟩
        replace hF := hF r3 q4816
        refine .c (cl (v := .bool r3) Tryz.call109 rfl rfl (fun w S => (by rw [q4816]; exact c_sequal S.sub (gt s_2 ((((k).toNat : Nat) : Int) + k22)) a3 c3 q4808 q4807 (gt s_2 ((((k).toNat : Nat) : Int) + (IntKind.i64.wrap (k22 - 1)))) a4 c4 q4813 q4812 q4815))) rfl rfl rfl ?_
        refine .v (nt rfl) rfl rfl rfl ?_
        refine .fin ?_
        refine .seqN ?_
        refine .cond rfl (fun q4817 => ?_) (fun q4817 => ?_)
        · replace hF := hF.1 q4817
          refine .seq ?_
          refine .region ?_
          refine .v (mv rfl) rfl rfl rfl ?_
          refine .v (mv rfl) rfl rfl rfl ?_
          refine .v (mv rfl) rfl rfl rfl ?_
          refine .v (mv rfl) rfl rfl rfl ?_
          refine .v (ixV rfl rfl tS35 (k := 0) rfl q4805 (inb_n q4806 q4739)) rfl rfl rfl ?_
          refine .v (ld1 (v := .slice a3 ((gt s_2 ((((k).toNat : Nat) : Int) + k22)).length) c3) rfl tO22 (cellS (k := 0) rfl (q4809 0 _ rfl))) rfl rfl rfl ?_
          obtain ⟨q4818, hF⟩ := hF
          refine .v (ixS rfl rfl tS35 (k := 0) rfl (inb_n q4818 q4739)) rfl rfl rfl ?_
          obtain ⟨d, q4819⟩ : ∃ y_ : List (List Int), y_ = (s_2.set (k3).toNat (gt s_2 ((((k).toNat : Nat) : Int) + k22))) := ⟨_, rfl⟩
          replace hF := hF d q4819
          have q4821 : d.length = s_.length := by rw [q4819]; exact List.length_set.trans q4739
          have q4820 : RepL h d (wrL css ((k3).toNat * 1) [.slice a3 ((gt s_2 ((((k).toNat : Nat) : Int) + k22)).length) c3]) := by rw [q4819]; exact RepL.set q4738 (inb_lt q4818) ⟨a3, c3, rfl, q4807, q4808⟩
          refine stS (k := 0) (cs' := (wrL css ((k3).toNat * 1) [.slice a3 ((gt s_2 ((((k).toNat : Nat) : Int) + k22)).length) c3])) rfl (fun _ => rfl) rfl rfl (fun w => (tO22 w).2) rfl rfl rfl (by rw [← q4739]; exact inb_pos q4818) (rep_room q4738 q4818) rfl ?_
          refine .cast (A' := [OwnSl 22 1 as_ s_.length cs_ (wrL css ((k3).toNat * 1) [.slice a3 ((gt s_2 ((((k).toNat : Nat) : Int) + k22)).length) c3])]) rfl ?_
          refine .nil ?_
          refine .seqN ?_
          refine .region ?_
          refine .v (mv rfl) rfl rfl rfl ?_
          refine .v (bi rfl rfl rfl) rfl rfl rfl ?_
          refine .v (asg rfl) rfl rfl rfl ?_
          refine .nil ?_
          refine .blkN ?_
          exact .use q4804 (IntKind.i64.wrap (k3 + 1), d, (wrL css ((k3).toNat * 1) [.slice a3 ((gt s_2 ((((k).toNat : Nat) : Int) + k22)).length) c3])) ⟨hF, q4820, q4821⟩ (.cons rfl (.cons rfl (.cons rfl (.cons rfl (.cons rfl (.nil)))))) rfl (FH.le_refl _)
        replace hF := hF.2 q4817
        refine .skip ?_
        refine .blkN ?_
        exact .use q4804 (k3, s_2, css) ⟨hF, q4738, q4739⟩ (.cons rfl (.cons rfl (.cons rfl (.cons rfl (.cons rfl (.nil)))))) rfl (FH.le_refl _)
      replace hF := hF.2 q4784
      refine .exit ?_
      refine .seqX ?_
      refine .seqX ?_
      refine .blkX ?_
      refine .seqN ?_
      refine .seq ?_
      refine .fact (fun w S => look_len S (k := 0) rfl) (fun q4822 => ?_)
      refine .region ?_
      refine .v (mv rfl) rfl rfl rfl ?_
      refine .v (mv rfl) rfl rfl rfl ?_
      obtain ⟨q4823, hF⟩ := hF
      refine .v (slL tS35 rfl rfl q4823.1 rfl (Int.toNat_le.2 q4823.2)) rfl rfl rfl ?_
      have q4824 : RepL h (s_2.take (k3).toNat ++ List.replicate (s_.length - (k3).toNat) []) (css.take (k3).toNat ++ List.replicate (s_.length - (k3).toNat) (.slice none 0 0)) := RepL.append (by have := RepL.take_ q4738 (k3).toNat; rwa [show Rep.sz (List Int) = 1 from rfl, Nat.mul_one] at this) (rep_nils _)
      have q4825 : (s_2.take (k3).toNat ++ List.replicate (s_.length - (k3).toNat) []).length = s_.length := take_rep q4739 (Int.toNat_le.2 q4823.2)
      refine clS (k := 0) (lo := (k3).toNat) tS35 rfl rfl rfl rfl rfl (Int.toNat_le.2 q4823.2) rfl ?_
      refine .cast (A' := [OwnSl 22 1 as_ s_.length cs_ (css.take (k3).toNat ++ List.replicate (s_.length - (k3).toNat) (.slice none 0 0))]) rfl ?_
      refine .nil ?_
      refine .seqN ?_
      refine .seq ?_
      refine .region ?_
      refine .v (mv rfl) rfl rfl rfl ?_
      refine .v (mv rfl) rfl rfl rfl ?_
      refine .v (slH tS35 rfl rfl q4823.1 rfl (Nat.le_trans (Int.toNat_le.2 q4823.2) q4822)) rfl rfl rfl ?_
      refine .v (asg rfl) rfl rfl rfl ?_
      refine .nil ?_
      refine .seqN ?_
      refine .ret ?_
      refine .blkR ?_
      refine .seqR ?_
      refine .seqR ?_
      refine .blkR ?_
      refine .seqR ?_
      refine .res1 rfl (rvT rfl) (fun w' S => ⟨((s_2.take (k3).toNat ++ List.replicate (s_.length - (k3).toNat) []).take ((k3).toNat)), hF, (by rw [len_take (q4825) (Int.toNat_le.2 q4823.2)]), S.prefixP (k := 0) rfl q4824 q4825 (Int.toNat_le.2 q4823.2)⟩)
    replace hF := hF.2 q4569
    refine .skip ?_
    refine .blkN ?_
    refine .seqN ?_
    refine .region ?_
    refine .v (mv rfl) rfl rfl rfl ?_
    refine .v (bi rfl rfl rfl) rfl rfl rfl ?_
    refine .v (asg rfl) rfl rfl rfl ?_
    refine .nil ?_
    exact .round (IntKind.i64.wrap (k + 1)) hF.1 hF.2 (.cons rfl (.cons rfl (.cons rfl (.nil)))) rfl (FH.le_refl _)
  replace hF := hF.2 q4024
  refine .exit ?_
  refine .seqX ?_
  refine .seqX ?_
  refine .blkX ?_
  refine .seqN ?_
  refine .seq ?_
  refine .region ?_
  refine .v (mv rfl) rfl rfl rfl ?_
  refine .v (asg rfl) rfl rfl rfl ?_
  refine .nil ?_
  refine .seqN ?_
  refine .ret ?_
  refine .res1 rfl (rvT rfl) (fun w' S => ⟨s_, hF, rfl, S.wholeP (k := 0) rfl q1 rfl⟩)

theorem c_compactR {h : FH} {w : World} (hs : Sub h w) (s_ : List (List Int)) (as_ : Option Addr) (cs_ : Nat) {cs : List Value} (q1 : RepL h s_ cs) {gX : FH} (ownX : OwnSl 22 1 as_ s_.length cs_ cs gX) (subX : Sub gX w) (disX : Disj h gX) (hp : pre_compactR s_) : Calls Tryz.prog 108 #[.slice as_ s_.length cs_, .func (.func 109) #[] #[]] w fun e w' => e = .returned (.slice as_ (sp_compactR s_).length cs_) ∧ SH (Kp.ex w h gX) h w' [OwnPX h 22 1 as_ cs_ (sp_compactR s_)] :=
  (w_compactR hs s_ as_ cs_ q1 ownX subX disX  (fun r => r = sp_compactR s_) (ok_compactR s_ hp)).mono fun _ _ ⟨r, hk, he, hS⟩ => ⟨by rw [← hk]; exact he, by rw [← hk]; exact hS⟩

theorem w_normal {h : FH} {w : World} (hs : Sub h w) (l : List (List Int)) (al2 : Option Addr) (cl2 : Nat) {cs : List Value} (q1 : RepL h l cs) {gX : FH} (ownX : OwnSl 22 1 al2 l.length cl2 cs gX) (subX : Sub gX w) (disX : Disj h gX) (K : (List (List Int)) → Prop) (hF : F_normal l K) : Calls Tryz.prog 84 #[.slice al2 l.length cl2] w fun e w' => ∃ r : List (List Int), K r ∧ e = .returned (.slice al2 r.length cl2) ∧ SH (Kp.ex w h gX) h w' [OwnPX h 22 1 al2 cl2 r] := by
  refine enterX (X := OwnSl 22 1 al2 l.length cl2 cs) (args := [.slice al2 l.length cl2]) Tryz.func84 rfl Tryz.ntmps84 rfl hs subX disX ownX ?_
  refine .seq ?_
  refine .region ?_
  refine .v (asg rfl) rfl rfl rfl ?_
  refine .nil ?_
  refine .seqN ?_
  refine .seq ?_
  refine .region ?_
  refine .v (mv rfl) rfl rfl rfl ?_
  obtain ⟨q2, hF⟩ := hF
  obtain ⟨r2, q3⟩ : ∃ y_ : List (List Int), y_ = sp_sortR l := ⟨_, rfl⟩
  replace hF := hF r2 q3
  refine callX (k := 0) (v := .tuple #[]) (X' := OwnPX h 22 1 al2 cl2 r2) rfl Tryz.call107 rfl rfl (fun w g hx sg hd hs' => ?_) rfl ?_
  · rw [q3]; exact c_sortR hs' l al2 cl2 q1 (own_n (rfl).symm hx) sg hd q2
  have q5 : r2.length = l.length := by rw [q3]; exact (sortR_len l).trans rfl
  refine .openPn (k := 0) rfl q5 (fun cs2 q4 => ?_)
  refine .cast (A' := [OwnSl 22 1 al2 l.length cl2 cs2]) rfl ?_
  refine .nil ?_
  refine .seqN ?_
  refine .seq ?_
  refine .region ?_
  refine .v (mv rfl) rfl rfl rfl ?_
  obtain ⟨q6, hF⟩ := hF
  obtain ⟨r3, q7⟩ : ∃ y_ : List (List Int), y_ = sp_compactR r2 := ⟨_, rfl⟩
  replace hF := hF r3 q7
  refine callX (k := 0) (v := .slice al2 r3.length cl2) (X' := OwnPX h 22 1 al2 cl2 r3) rfl Tryz.call108 rfl rfl (fun w g hx sg hd hs' => ?_) rfl ?_
  · rw [q7]; have hc_ := c_compactR hs' r2 al2 cl2 q4 (own_n (q5).symm hx) sg hd q6; rw [q5] at hc_; exact hc_
  refine .openP (k := 0) rfl (fun cs3 q8 => ?_)
  refine .cast (A' := [OwnSl 22 1 al2 r3.length cl2 cs3]) rfl ?_
  refine .v (asg rfl) rfl rfl rfl ?_
  refine .nil ?_
  refine .seqN ?_
  refine .ret ?_
  refine .res1 rfl (rvT rfl) (fun w' S => ⟨r3, hF, rfl, S.wholeP (k := 0) rfl q8 rfl⟩)

theorem c_normal {h : FH} {w : World} (hs : Sub h w) (l : List (List Int)) (al2 : Option Addr) (cl2 : Nat) {cs : List Value} (q1 : RepL h l cs) {gX : FH} (ownX : OwnSl 22 1 al2 l.length cl2 cs gX) (subX : Sub gX w) (disX : Disj h gX) (hp : pre_normal l) : Calls Tryz.prog 84 #[.slice al2 l.length cl2] w fun e w' => e = .returned (.slice al2 (sp_normal l).length cl2) ∧ SH (Kp.ex w h gX) h w' [OwnPX h 22 1 al2 cl2 (sp_normal l)] :=
  (w_normal hs l al2 cl2 q1 ownX subX disX (fun r => r = sp_normal l) (ok_normal l hp)).mono fun _ _ ⟨r, hk, he, hS⟩ => ⟨by rw [← hk]; exact he, by rw [← hk]; exact hS⟩

set_option maxHeartbeats 8000000 in
theorem w_worlds {h : FH} {w : World} (hs : Sub h w) (t : Task) (at_ : Option Addr) (ct : Nat) (_q1 : RSl h at_ t.init) (_q2 : t.init.length ≤ ct) (at_2 : Option Addr) (ct2 : Nat) (_q3 : RSl h at_2 t.goal) (_q4 : t.goal.length ≤ ct2) (at_3 : Option Addr) (ct3 : Nat) (_q5 : RSl h at_3 t.ops) (_q6 : t.ops.length ≤ ct3) (unknown : List Int) (aunknown : Option Addr) (cunknown : Nat) (_q7 : RSl h aunknown unknown) (_q8 : unknown.length ≤ cunknown) (K : (List (List Int)) → Prop) (hF : F_worlds t unknown K) : Calls Tryz.prog 48 #[.agg #[.int .i64 t.facts, .slice at_ t.init.length ct, .slice at_2 t.goal.length ct2, .slice at_3 t.ops.length ct3], .slice aunknown unknown.length cunknown] w fun e w' => ∃ (r : List (List Int)) (z : Option Addr × Nat) (h1 : FH), K r ∧ e = .returned (.slice z.1 r.length z.2) ∧ FH.le h h1 ∧ (RSl h1 z.1 r ∧ r.length ≤ z.2) ∧ SH (Kp.all w h) h1 w' [] := by
  refine enter (args := [.agg #[.int .i64 t.facts, .slice at_ t.init.length ct, .slice at_2 t.goal.length ct2, .slice at_3 t.ops.length ct3], .slice aunknown unknown.length cunknown]) Tryz.func48 rfl Tryz.ntmps48 rfl hs ?_
  refine .seq ?_
  refine .region ?_
  refine bx (vs := [.int .i64 t.facts, .slice at_ t.init.length ct, .slice at_2 t.goal.length ct2, .slice at_3 t.ops.length ct3]) rfl rfl rfl (fun pt => ?_)
  refine .v (asg rfl) rfl rfl rfl ?_
  refine .nil ?_
  refine .seqN ?_
  refine .seq ?_
  refine .region ?_
  refine .v (asg rfl) rfl rfl rfl ?_
  refine .nil ?_
  refine .seqN ?_
  refine .seq ?_
  refine .seq ?_
  refine .region ?_
  refine .v (mv rfl) rfl rfl rfl ?_
  refine .v (ln rfl tS22.is) rfl rfl rfl ?_
  obtain ⟨q9, hF⟩ := hF
  obtain ⟨x, q10⟩ : ∃ y_ : Int, y_ = (IntKind.i64.wrap (1 * 2 ^ (min ((((unknown.length : Nat) : Int) : Int)).toNat (IntKind.bits .i64)))) := ⟨_, rfl⟩
  replace hF := hF x q10
  refine .v (v := .int .i64 x) (by rw [q10]; exact bsh rfl rfl q9 rfl) rfl rfl rfl ?_
  refine .v (mv rfl) rfl rfl rfl ?_
  refine .nil ?_
  refine .seqN ?_
  refine .block ?_
  refine .nilSl 22 1 ?_
  refine .cast (A' := [OwnSl 22 1 none (([] : List (List Int)).length) 0 [], Box pt [.int .i64 t.facts, .slice at_ t.init.length ct, .slice at_2 t.goal.length ct2, .slice at_3 t.ops.length ct3]]) rfl ?_
  refine .sel0 [1, 0] (by decide) rfl ?_
  obtain ⟨I1, μ1, q1784, q1785⟩ := hF
  refine .loop' (σ := Int × List (List Int) × Option Addr × Nat × List Value × FH) (fun z => I1 z.1 z.2.1 ∧ RepL z.2.2.2.2.2 z.2.1 z.2.2.2.2.1 ∧ FH.le h z.2.2.2.2.2) (fun z => μ1 z.1 z.2.1) (fun z => [(1, .slice aunknown unknown.length cunknown), (2, .pointer (some pt)), (5, .slice z.2.2.1 z.2.1.length z.2.2.2.1), (12, .int .i64 x), (13, .int .i64 z.1)]) (fun z => [Box pt [.int .i64 t.facts, .slice at_ t.init.length ct, .slice at_2 t.goal.length ct2, .slice at_3 t.ops.length ct3], OwnSl 22 1 z.2.2.1 z.2.1.length z.2.2.2.1 z.2.2.2.2.1]) (fun z => z.2.2.2.2.2) (0, ([] : List (List Int)), none, 0, [], h) ⟨q1784, (show RepL h ([] : List (List Int)) [] from rfl), (FH.le_refl _)⟩ (.cons rfl (.cons rfl (.cons rfl (.cons rfl (.cons rfl (.nil)))))) rfl (FH.le_refl _) ?_
  rintro ⟨t13, out, aout, cout, csout, h19⟩ ⟨q1784, q1429, q1430⟩
  have hF := q1785 t13 out q1784
  show J _ _ _ _ _ [(1, .slice aunknown unknown.length cunknown), (2, .pointer (some pt)), (5, .slice aout out.length cout), (12, .int .i64 x), (13, .int .i64 t13)] [Box pt [.int .i64 t.facts, .slice at_ t.init.length ct, .slice at_2 t.goal.length ct2, .slice at_3 t.ops.length ct3], OwnSl 22 1 aout out.length cout csout] h19
  refine .seq ?_
  refine .region ?_
  refine .v (bi rfl rfl rfl) rfl rfl rfl ?_
  refine .nil ?_
  refine .seqN ?_
  refine .seq ?_
  refine .cond rfl (fun q1788 => ?_) (fun q1788 => ?_)
  · replace hF := hF.1 q1788
    refine .skip ?_
    refine .seqN ?_
    refine .seq ?_
    refine .block ?_
    refine .seq ?_
    refine .region ?_
    refine .v (mv rfl) rfl rfl rfl ?_
    refine .v (asg rfl) rfl rfl rfl ?_
    refine .nil ?_
    refine .seqN ?_
    refine .seq ?_
    refine .region ?_
    refine .v (asg rfl) rfl rfl rfl ?_
    refine .nil ?_
    refine .seqN ?_
    refine .seq ?_
    refine .seq ?_
    refine .region ?_
    refine .v (mv rfl) rfl rfl rfl ?_
    refine .v (ln rfl tS22.is) rfl rfl rfl ?_
    refine .v (mv rfl) rfl rfl rfl ?_
    refine .nil ?_
    refine .seqN ?_
    refine .block ?_
    refine .nilSl 3 1 ?_
    refine .cast (A' := [OwnSl 3 1 none (([] : List Int).length) 0 (flL ([] : List Int)), Box pt [.int .i64 t.facts, .slice at_ t.init.length ct, .slice at_2 t.goal.length ct2, .slice at_3 t.ops.length ct3], OwnSl 22 1 aout out.length cout csout]) rfl ?_
    refine .sel0 [1, 2, 0] (by decide) rfl ?_
    obtain ⟨I2, μ2, q2109, q2110⟩ := hF
    refine .loop' (σ := Int × List Int × Option Addr × Nat) (fun z => I2 z.1 z.2.1) (fun z => μ2 z.1 z.2.1) (fun z => [(1, .slice aunknown unknown.length cunknown), (2, .pointer (some pt)), (5, .slice aout out.length cout), (6, .int .i64 t13), (7, .slice z.2.2.1 z.2.1.length z.2.2.2), (12, .int .i64 x), (13, .int .i64 t13), (16, .slice aunknown unknown.length cunknown), (17, .int .i64 ((unknown.length : Nat) : Int)), (18, .int .i64 z.1)]) (fun z => [Box pt [.int .i64 t.facts, .slice at_ t.init.length ct, .slice at_2 t.goal.length ct2, .slice at_3 t.ops.length ct3], OwnSl 22 1 aout out.length cout csout, OwnSl 3 1 z.2.2.1 z.2.1.length z.2.2.2 (flL z.2.1)]) (fun _ => h19) (0, ([] : List Int), none, 0) q2109 (.cons rfl (.cons rfl (.cons rfl (.cons rfl (.cons rfl (.cons rfl (.cons rfl (.cons rfl (.cons rfl (.cons rfl (.nil))))))))))) rfl (FH.le_refl _) ?_
    rintro ⟨t18, add, aadd, cadd⟩ q2109
    have hF := q2110 t18 add q2109
    show J _ _ _ _ _ [(1, .slice aunknown unknown.length cunknown), (2, .pointer (some pt)), (5, .slice aout out.length cout), (6, .int .i64 t13), (7, .slice aadd add.length cadd), (12, .int .i64 x), (13, .int .i64 t13), (16, .slice aunknown unknown.length cunknown), (17, .int .i64 ((unknown.length : Nat) : Int)), (18, .int .i64 t18)] [Box pt [.int .i64 t.facts, .slice at_ t.init.length ct, .slice at_2 t.goal.length ct2, .slice at_3 t.ops.length ct3], OwnSl 22 1 aout out.length cout csout, OwnSl 3 1 aadd add.length cadd (flL add)] h19
    refine .seq ?_
    refine .region ?_
    refine .v (bi rfl rfl rfl) rfl rfl rfl ?_
    refine .nil ?_
    refine .seqN ?_
    refine .seq ?_
    refine .cond rfl (fun q2113 => ?_) (fun q2113 => ?_)
    · replace hF := hF.1 q2113
      refine .skip ?_
      refine .seqN ?_
      refine .share (σ := List Int × Option Addr × Nat) (fun z => F_worlds_J1 add t18 I2 μ2 z.1) (fun z => [(1, .slice aunknown unknown.length cunknown), (2, .pointer (some pt)), (5, .slice aout out.length cout), (6, .int .i64 t13), (7, .slice z.2.1 z.1.length z.2.2), (12, .int .i64 x), (13, .int .i64 t13), (16, .slice aunknown unknown.length cunknown), (17, .int .i64 ((unknown.length : Nat) : Int)), (18, .int .i64 t18)]) (fun z => [Box pt [.int .i64 t.facts, .slice at_ t.init.length ct, .slice at_2 t.goal.length ct2, .slice at_3 t.ops.length ct3], OwnSl 22 1 aout out.length cout csout, OwnSl 3 1 z.2.1 z.1.length z.2.2 (flL z.1)]) (fun _ => h19) ?_ (fun q2121 => ?_)
      · rintro ⟨add3, aadd3, cadd3⟩ hF
        show J _ _ _ _ _ [(1, .slice aunknown unknown.length cunknown), (2, .pointer (some pt)), (5, .slice aout out.length cout), (6, .int .i64 t13), (7, .slice aadd3 add3.length cadd3), (12, .int .i64 x), (13, .int .i64 t13), (16, .slice aunknown unknown.length cunknown), (17, .int .i64 ((unknown.length : Nat) : Int)), (18, .int .i64 t18)] [Box pt [.int .i64 t.facts, .slice at_ t.init.length ct, .slice at_2 t.goal.length ct2, .slice at_3 t.ops.length ct3], OwnSl 22 1 aout out.length cout csout, OwnSl 3 1 aadd3 add3.length cadd3 (flL add3)] h19
        refine .region ?_
        refine .v (bi rfl rfl rfl) rfl rfl rfl ?_
        refine .v (mv rfl) rfl rfl rfl ?_
        refine .nil ?_
        exact .round (IntKind.i64.wrap (t18 + 1), add3, aadd3, cadd3) hF.1 hF.2 (.cons rfl (.cons rfl (.cons rfl (.cons rfl (.cons rfl (.cons rfl (.cons rfl (.cons rfl (.cons rfl (.cons rfl (.nil))))))))))) rfl (FH.le_refl _)
      refine .block ?_
      refine .seq ?_
      refine .region ?_
      refine .v (mv rfl) rfl rfl rfl ?_
      obtain ⟨q2122, hF⟩ := hF
      refine .v (ix rfl rfl tS22 (_q7.ne (by decide) (inb_pos q2122)) q2122) rfl rfl rfl ?_
      refine .v (ld1 (v := .int .i64 (gt unknown t18)) rfl tO3 (cellH ((_q7.mono (q1430)).elemF q2122 (by decide) 0 _ rfl))) rfl rfl rfl ?_
      refine .v (asg rfl) rfl rfl rfl ?_
      refine .v (asg rfl) rfl rfl rfl ?_
      refine .nil ?_
      refine .seqN ?_
      refine .seq ?_
      refine .region ?_
      refine .v (mv rfl) rfl rfl rfl ?_
      refine .v (mv rfl) rfl rfl rfl ?_
      obtain ⟨q2123, hF⟩ := hF
      refine .v (bsh rfl rfl q2123 rfl) rfl rfl rfl ?_
      obtain ⟨x2, q2124⟩ : ∃ y_ : Int, y_ = (bits .and .i64 (Int.fdiv t13 (2 ^ (min ((t18 : Int)).toNat (IntKind.bits .i64)))) 1) := ⟨_, rfl⟩
      replace hF := hF x2 q2124
      refine .v (v := .int .i64 x2) (by rw [q2124]; exact bi rfl rfl rfl) rfl rfl rfl ?_
      refine .v (bi rfl rfl rfl) rfl rfl rfl ?_
      refine .nil ?_
      refine .seqN ?_
      refine .cond rfl (fun q2125 => ?_) (fun q2125 => ?_)
      · replace hF := hF.1 q2125
        refine .region ?_
        refine .v (mv rfl) rfl rfl rfl ?_
        refine .v (mv rfl) rfl rfl rfl ?_
        refine bs2 (cs := #[.int .i64 (gt unknown t18)]) (pv := [(0, .int .i64 (gt unknown t18))]) tS22 rfl rfl (by decide) (by decide) rfl rfl rfl (fun a _ => ?_)
        refine .cast (A' := [OwnSl 3 1 a (([(gt unknown t18)] : List Int).length) 1 (flL ([(gt unknown t18)] : List Int)), Box pt [.int .i64 t.facts, .slice at_ t.init.length ct, .slice at_2 t.goal.length ct2, .slice at_3 t.ops.length ct3], OwnSl 22 1 aout out.length cout csout, OwnSl 3 1 aadd add.length cadd (flL add)]) rfl ?_
        obtain ⟨q2127, hF⟩ := hF
        have q2128 : add.length + ([(gt unknown t18)] : List Int).length = ((add ++ ([(gt unknown t18)] : List Int))).length := len_app rfl rfl
        refine app (k := 3) (news := flL ([(gt unknown t18)] : List Int)) (cs' := flL (add ++ ([(gt unknown t18)] : List Int))) (nm := ((add ++ ([(gt unknown t18)] : List Int))).length) tS22 rfl (by decide) rfl rfl rfl (by rw [flL_len]; rfl) (srcS (k := 0) rfl) (flL_one _) (room_of q2128 q2127).1 (room_of q2128 q2127).2 q2128 (flL_append _ _).symm rfl (fun a2 c => ?_)
        refine .cast (A' := [OwnSl 3 1 a (([(gt unknown t18)] : List Int).length) 1 (flL ([(gt unknown t18)] : List Int)), Box pt [.int .i64 t.facts, .slice at_ t.init.length ct, .slice at_2 t.goal.length ct2, .slice at_3 t.ops.length ct3], OwnSl 22 1 aout out.length cout csout, OwnSl 3 1 a2 ((add ++ ([(gt unknown t18)] : List Int)).length) c (flL (add ++ ([(gt unknown t18)] : List Int)))]) rfl ?_
        refine .v (asg rfl) rfl rfl rfl ?_
        refine .nil ?_
        refine .blkN ?_
        refine .sel0 [1, 2, 3] (by decide) rfl ?_
        exact .use q2121 ((add ++ ([(gt unknown t18)] : List Int)), a2, c) hF (.cons rfl (.cons rfl (.cons rfl (.cons rfl (.cons rfl (.cons rfl (.cons rfl (.cons rfl (.cons rfl (.cons rfl (.nil))))))))))) rfl (FH.le_refl _)
      replace hF := hF.2 q2125
      refine .skip ?_
      refine .blkN ?_
      exact .use q2121 (add, aadd, cadd) hF (.cons rfl (.cons rfl (.cons rfl (.cons rfl (.cons rfl (.cons rfl (.cons rfl (.cons rfl (.cons rfl (.cons rfl (.nil))))))))))) rfl (FH.le_refl _)
    replace hF := hF.2 q2113
    refine .exit ?_
    refine .seqX ?_
    refine .seqX ?_
    refine .blkX ?_
    refine .seqN ?_
    refine .region ?_
    refine .v (mv rfl) rfl rfl rfl ?_
    refine .v (fa rfl tF25_1) rfl rfl rfl ?_
    refine .v (ld1 rfl tO22 (cellB (off := 1) (k := 0) rfl rfl)) rfl rfl rfl ?_
    refine .v (mv rfl) rfl rfl rfl ?_
    refine .v (mv rfl) rfl rfl rfl ?_
    obtain ⟨q2129, hF⟩ := hF
    obtain ⟨r2, q2130⟩ : ∃ y_ : List Int, y_ = sp_update t.init add unknown := ⟨_, rfl⟩
    replace hF := hF r2 q2130
    refine clO (α := Option Addr × Nat) (V := fun z => .slice z.1 r2.length z.2) (Ψ := fun z => True) (B := fun z => [OwnSl 3 1 z.1 r2.length z.2 (flL r2)]) Tryz.call83 rfl rfl (fun w S => (by rw [q2130]; obtain ⟨h_, hl_, hs_, hne_, hr_⟩ := look S (k := 2) rfl; exact (c_update hs_ t.init at_ ct (RSl.mono hl_ (_q1.mono (q1430))) _q2 add aadd cadd (RSl.of hr_) (look_len S (k := 2) rfl) unknown aunknown cunknown (RSl.mono hl_ (_q7.mono (q1430))) _q8 q2129).mono fun _ _ ⟨z, h0, h1, e1, e2, e3, e4⟩ => ⟨z, h0, h1, e1, e2, FH.le_trans hl_ e3, e4⟩)) rfl (fun z _ => ?_)
    obtain ⟨a3, c2⟩ := z
    refine .cast (A' := [OwnSl 3 1 a3 r2.length c2 (flL r2), Box pt [.int .i64 t.facts, .slice at_ t.init.length ct, .slice at_2 t.goal.length ct2, .slice at_3 t.ops.length ct3], OwnSl 22 1 aout out.length cout csout, OwnSl 3 1 aadd add.length cadd (flL add)]) rfl ?_
    refine .freezeL (k := 0) rfl (fun h26 le26 q2132 q2131 => ?_)
    refine .cast (A' := [tru, Box pt [.int .i64 t.facts, .slice at_ t.init.length ct, .slice at_2 t.goal.length ct2, .slice at_3 t.ops.length ct3], OwnSl 22 1 aout out.length cout csout, OwnSl 3 1 aadd add.length cadd (flL add)]) rfl ?_
    refine bs2 (cs := #[.slice a3 r2.length c2]) (pv := [(0, .slice a3 r2.length c2)]) tS35 rfl rfl (by decide) (by decide) rfl rfl rfl (fun a4 _ => ?_)
    refine .cast (A' := [OwnSl 22 1 a4 (([r2] : List (List Int)).length) 1 [.slice a3 r2.length c2], tru, Box pt [.int .i64 t.facts, .slice at_ t.init.length ct, .slice at_2 t.goal.length ct2, .slice at_3 t.ops.length ct3], OwnSl 22 1 aout out.length cout csout, OwnSl 3 1 aadd add.length cadd (flL add)]) rfl ?_
    obtain ⟨q2134, hF⟩ := hF
    have q2135 : out.length + ([r2] : List (List Int)).length = ((out ++ ([r2] : List (List Int)))).length := len_app rfl rfl
    have q2136 := RepL.append (RepL.mono (le26) q1429) (show RepL h26 ([r2] : List (List Int)) [.slice a3 r2.length c2] from ⟨[.slice a3 r2.length c2], _, rfl, ⟨a3, c2, rfl, (q2132), (RSl.of q2131)⟩, rfl⟩)
    refine app (k := 3) (news := [.slice a3 r2.length c2]) (cs' := (csout ++ [.slice a3 r2.length c2])) (nm := ((out ++ ([r2] : List (List Int)))).length) tS35 rfl (by decide) rfl rfl rfl (RepL.len (show RepL h26 ([r2] : List (List Int)) [.slice a3 r2.length c2] from ⟨[.slice a3 r2.length c2], _, rfl, ⟨a3, c2, rfl, (q2132), (RSl.of q2131)⟩, rfl⟩)) (srcS (k := 0) rfl) (RepL.one (show RepL h26 ([r2] : List (List Int)) [.slice a3 r2.length c2] from ⟨[.slice a3 r2.length c2], _, rfl, ⟨a3, c2, rfl, (q2132), (RSl.of q2131)⟩, rfl⟩)) (room_of q2135 q2134).1 (room_of q2135 q2134).2 q2135 rfl rfl (fun a5 c3 => ?_)
    refine .cast (A' := [OwnSl 22 1 a4 (([r2] : List (List Int)).length) 1 [.slice a3 r2.length c2], tru, Box pt [.int .i64 t.facts, .slice at_ t.init.length ct, .slice at_2 t.goal.length ct2, .slice at_3 t.ops.length ct3], OwnSl 22 1 a5 ((out ++ ([r2] : List (List Int))).length) c3 (csout ++ [.slice a3 r2.length c2]), OwnSl 3 1 aadd add.length cadd (flL add)]) rfl ?_
    refine .v (asg rfl) rfl rfl rfl ?_
    refine .nil ?_
    refine .blkN ?_
    refine .seqN ?_
    refine .region ?_
    refine .v (bi rfl rfl rfl) rfl rfl rfl ?_
    refine .v (mv rfl) rfl rfl rfl ?_
    refine .nil ?_
    refine .sel0 [2, 3] (by decide) rfl ?_
    exact .round (IntKind.i64.wrap (t13 + 1), (out ++ ([r2] : List (List Int))), a5, c3, (csout ++ [.slice a3 r2.length c2]), h26) ⟨hF.1, q2136, (FH.le_trans (q1430) (le26))⟩ hF.2 (.cons rfl (.cons rfl (.cons rfl (.cons rfl (.cons rfl (.nil)))))) rfl (FH.le_refl _)
  replace hF := hF.2 q1788
  refine .exit ?_
  refine .seqX ?_
  refine .seqX ?_
  refine .blkX ?_
  refine .seqN ?_
  refine .seq ?_
  refine .region ?_
  refine .v (mv rfl) rfl rfl rfl ?_
  obtain ⟨q2137, hF⟩ := hF
  obtain ⟨r3, q2138⟩ : ∃ y_ : List (List Int), y_ = sp_normal out := ⟨_, rfl⟩
  replace hF := hF r3 q2138
  refine callX (k := 1) (v := .slice aout r3.length cout) (X' := OwnPX h19 22 1 aout cout r3) rfl Tryz.call84 rfl rfl (fun w g hx sg hd hs' => ?_) rfl ?_
  · rw [q2138]; exact c_normal hs' out aout cout q1429 (own_n (rfl).symm hx) sg hd q2137
  refine .openP (k := 1) rfl (fun cs q2139 => ?_)
  refine .cast (A' := [Box pt [.int .i64 t.facts, .slice at_ t.init.length ct, .slice at_2 t.goal.length ct2, .slice at_3 t.ops.length ct3], OwnSl 22 1 aout r3.length cout cs]) rfl ?_
  refine .v (asg rfl) rfl rfl rfl ?_
  refine .nil ?_
  refine .seqN ?_
  refine .freezeL (k := 1) rfl (fun h27 le27 q2141 q2140 => ?_)
  refine .cast (A' := [Box pt [.int .i64 t.facts, .slice at_ t.init.length ct, .slice at_2 t.goal.length ct2, .slice at_3 t.ops.length ct3], tru]) rfl ?_
  refine .ret ?_
  refine .res1 rfl (rvT rfl) (fun w' S => ⟨r3, (aout, cout), h27, hF, rfl, (FH.le_trans (q1430) (le27)), ⟨(show RSl h27 aout r3 from ⟨_, q2139.mono (le27), q2140⟩), (q2141)⟩, S.none⟩)

theorem c_worlds {h : FH} {w : World} (hs : Sub h w) (t : Task) (at_ : Option Addr) (ct : Nat) (_q1 : RSl h at_ t.init) (_q2 : t.init.length ≤ ct) (at_2 : Option Addr) (ct2 : Nat) (_q3 : RSl h at_2 t.goal) (_q4 : t.goal.length ≤ ct2) (at_3 : Option Addr) (ct3 : Nat) (_q5 : RSl h at_3 t.ops) (_q6 : t.ops.length ≤ ct3) (unknown : List Int) (aunknown : Option Addr) (cunknown : Nat) (_q7 : RSl h aunknown unknown) (_q8 : unknown.length ≤ cunknown) (hp : pre_worlds t unknown) : Calls Tryz.prog 48 #[.agg #[.int .i64 t.facts, .slice at_ t.init.length ct, .slice at_2 t.goal.length ct2, .slice at_3 t.ops.length ct3], .slice aunknown unknown.length cunknown] w fun e w' => ∃ (z : Option Addr × Nat) (h1 : FH), e = .returned (.slice z.1 (sp_worlds t unknown).length z.2) ∧ FH.le h h1 ∧ (RSl h1 z.1 (sp_worlds t unknown) ∧ (sp_worlds t unknown).length ≤ z.2) ∧ SH (Kp.all w h) h1 w' [] :=
  (w_worlds hs t at_ ct _q1 _q2 at_2 ct2 _q3 _q4 at_3 ct3 _q5 _q6 unknown aunknown cunknown _q7 _q8 (fun r => r = sp_worlds t unknown) (ok_worlds t unknown hp)).mono fun _ _ ⟨r, z, h1, hk, he, hl, hf, hS⟩ => by subst hk; exact ⟨z, h1, he, hl, hf, hS⟩

theorem w_bafter {h : FH} {w : World} (hs : Sub h w) (t : Task) (at_ : Option Addr) (ct : Nat) (_q1 : RSl h at_ t.init) (_q2 : t.init.length ≤ ct) (at_2 : Option Addr) (ct2 : Nat) (_q3 : RSl h at_2 t.goal) (_q4 : t.goal.length ≤ ct2) (at_3 : Option Addr) (ct3 : Nat) (_q5 : RSl h at_3 t.ops) (_q6 : t.ops.length ≤ ct3) (worlds : List (List Int)) (aworlds : Option Addr) (cworlds : Nat) (_q7 : RSl h aworlds worlds) (_q8 : worlds.length ≤ cworlds) (op : Int) (K : (List (List Int)) → Prop) (hF : F_bafter t worlds op K) : Calls Tryz.prog 60 #[.agg #[.int .i64 t.facts, .slice at_ t.init.length ct, .slice at_2 t.goal.length ct2, .slice at_3 t.ops.length ct3], .slice aworlds worlds.length cworlds, .int .i64 op] w fun e w' => ∃ (r : List (List Int)) (z : Option Addr × Nat) (h1 : FH), K r ∧ e = .returned (.slice z.1 r.length z.2) ∧ FH.le h h1 ∧ (RSl h1 z.1 r ∧ r.length ≤ z.2) ∧ SH (Kp.all w h) h1 w' [] := by
  refine enter (args := [.agg #[.int .i64 t.facts, .slice at_ t.init.length ct, .slice at_2 t.goal.length ct2, .slice at_3 t.ops.length ct3], .slice aworlds worlds.length cworlds, .int .i64 op]) Tryz.func60 rfl Tryz.ntmps60 rfl hs ?_
  refine .seq ?_
  refine .region ?_
  refine bx (vs := [.int .i64 t.facts, .slice at_ t.init.length ct, .slice at_2 t.goal.length ct2, .slice at_3 t.ops.length ct3]) rfl rfl rfl (fun pt => ?_)
  refine .v (asg rfl) rfl rfl rfl ?_
  refine .nil ?_
  refine .seqN ?_
  refine .seq ?_
  refine .region ?_
  refine .v (asg rfl) rfl rfl rfl ?_
  refine .nil ?_
  refine .seqN ?_
  refine .seq ?_
  refine .seq ?_
  refine .region ?_
  refine .v (mv rfl) rfl rfl rfl ?_
  refine .v (ln rfl tS35.is) rfl rfl rfl ?_
  refine .v (mv rfl) rfl rfl rfl ?_
  refine .nil ?_
  refine .seqN ?_
  refine .block ?_
  refine .nilSl 22 1 ?_
  refine .cast (A' := [OwnSl 22 1 none (([] : List (List Int)).length) 0 [], Box pt [.int .i64 t.facts, .slice at_ t.init.length ct, .slice at_2 t.goal.length ct2, .slice at_3 t.ops.length ct3]]) rfl ?_
  refine .sel0 [1, 0] (by decide) rfl ?_
  obtain ⟨I1, μ1, q222, q223⟩ := hF
  refine .loop' (σ := Int × List (List Int) × Option Addr × Nat × List Value × FH) (fun z => I1 z.1 z.2.1 ∧ RepL z.2.2.2.2.2 z.2.1 z.2.2.2.2.1 ∧ FH.le h z.2.2.2.2.2) (fun z => μ1 z.1 z.2.1) (fun z => [(2, .int .i64 op), (3, .pointer (some pt)), (7, .slice z.2.2.1 z.2.1.length z.2.2.2.1), (10, .slice aworlds worlds.length cworlds), (11, .int .i64 ((worlds.length : Nat) : Int)), (12, .int .i64 z.1)]) (fun z => [Box pt [.int .i64 t.facts, .slice at_ t.init.length ct, .slice at_2 t.goal.length ct2, .slice at_3 t.ops.length ct3], OwnSl 22 1 z.2.2.1 z.2.1.length z.2.2.2.1 z.2.2.2.2.1]) (fun z => z.2.2.2.2.2) (0, ([] : List (List Int)), none, 0, [], h) ⟨q222, (show RepL h ([] : List (List Int)) [] from rfl), (FH.le_refl _)⟩ (.cons rfl (.cons rfl (.cons rfl (.cons rfl (.cons rfl (.cons rfl (.nil))))))) rfl (FH.le_refl _) ?_
  rintro ⟨t12, out, aout, cout, csout, h19⟩ ⟨q222, q179, q180⟩
  have hF := q223 t12 out q222
  show J _ _ _ _ _ [(2, .int .i64 op), (3, .pointer (some pt)), (7, .slice aout out.length cout), (10, .slice aworlds worlds.length cworlds), (11, .int .i64 ((worlds.length : Nat) : Int)), (12, .int .i64 t12)] [Box pt [.int .i64 t.facts, .slice at_ t.init.length ct, .slice at_2 t.goal.length ct2, .slice at_3 t.ops.length ct3], OwnSl 22 1 aout out.length cout csout] h19
  refine .seq ?_
  refine .region ?_
  refine .v (bi rfl rfl rfl) rfl rfl rfl ?_
  refine .nil ?_
  refine .seqN ?_
  refine .seq ?_
  refine .cond rfl (fun q226 => ?_) (fun q226 => ?_)
  · replace hF := hF.1 q226
    refine .skip ?_
    refine .seqN ?_
    refine .seq ?_
    refine .block ?_
    refine .seq ?_
    refine .region ?_
    obtain ⟨q251, hF⟩ := hF
    refine .v (ix rfl rfl tS35 (_q7.ne (by decide) (inb_pos q251)) q251) rfl rfl rfl ?_
    obtain ⟨_, ⟨a, c, rfl, q252, q253⟩, q254⟩ := _q7.elem q251
    refine .v (ld1 (v := .slice a ((gt worlds t12).length) c) rfl tO22 (cellH ((fun q => (q254 q).mono (q180)) (by decide) 0 _ rfl))) rfl rfl rfl ?_
    refine .v (asg rfl) rfl rfl rfl ?_
    refine .nil ?_
    refine .seqN ?_
    refine .region ?_
    refine .v (mv rfl) rfl rfl rfl ?_
    refine .v (ldA (cs := [.int .i64 t.facts, .slice at_ t.init.length ct, .slice at_2 t.goal.length ct2, .slice at_3 t.ops.length ct3]) rfl tA25 rfl (cellsB (off := 0) (k := 0) rfl (m := 4) rfl)) rfl rfl rfl ?_
    refine .v (mv rfl) rfl rfl rfl ?_
    refine .v (mv rfl) rfl rfl rfl ?_
    obtain ⟨q255, hF⟩ := hF
    obtain ⟨r2, q256⟩ : ∃ y_ : List Int, y_ = sp_after t (gt worlds t12) op := ⟨_, rfl⟩
    replace hF := hF r2 q256
    refine clR (α := Option Addr × Nat) (Φ := fun h1 z => RSl h1 z.1 r2 ∧ r2.length ≤ z.2) (V := fun z => .slice z.1 r2.length z.2) Tryz.call93 rfl rfl (fun w S => (by rw [q256]; exact c_next S.sub t at_ ct (_q1.mono (q180)) _q2 at_2 ct2 (_q3.mono (q180)) _q4 at_3 ct3 (_q5.mono (q180)) _q6 (gt worlds t12) a c (q253.mono (q180)) q252 op q255)) rfl (fun z h26 le26 hz => ?_)
    obtain ⟨a2, c2⟩ := z
    obtain ⟨q257, q258⟩ := hz
    refine bs2 (cs := #[.slice a2 r2.length c2]) (pv := [(0, .slice a2 r2.length c2)]) tS35 rfl rfl (by decide) (by decide) rfl rfl rfl (fun a3 _ => ?_)
    refine .cast (A' := [OwnSl 22 1 a3 (([r2] : List (List Int)).length) 1 [.slice a2 r2.length c2], Box pt [.int .i64 t.facts, .slice at_ t.init.length ct, .slice at_2 t.goal.length ct2, .slice at_3 t.ops.length ct3], OwnSl 22 1 aout out.length cout csout]) rfl ?_
    obtain ⟨q260, hF⟩ := hF
    have q261 : out.length + ([r2] : List (List Int)).length = ((out ++ ([r2] : List (List Int)))).length := len_app rfl rfl
    have q262 := RepL.append (RepL.mono (le26) q179) (show RepL h26 ([r2] : List (List Int)) [.slice a2 r2.length c2] from ⟨[.slice a2 r2.length c2], _, rfl, ⟨a2, c2, rfl, q258, q257⟩, rfl⟩)
    refine app (k := 2) (news := [.slice a2 r2.length c2]) (cs' := (csout ++ [.slice a2 r2.length c2])) (nm := ((out ++ ([r2] : List (List Int)))).length) tS35 rfl (by decide) rfl rfl rfl (RepL.len (show RepL h26 ([r2] : List (List Int)) [.slice a2 r2.length c2] from ⟨[.slice a2 r2.length c2], _, rfl, ⟨a2, c2, rfl, q258, q257⟩, rfl⟩)) (srcS (k := 0) rfl) (RepL.one (show RepL h26 ([r2] : List (List Int)) [.slice a2 r2.length c2] from ⟨[.slice a2 r2.length c2], _, rfl, ⟨a2, c2, rfl, q258, q257⟩, rfl⟩)) (room_of q261 q260).1 (room_of q261 q260).2 q261 rfl rfl (fun a4 c3 => ?_)
    refine .cast (A' := [OwnSl 22 1 a3 (([r2] : List (List Int)).length) 1 [.slice a2 r2.length c2], Box pt [.int .i64 t.facts, .slice at_ t.init.length ct, .slice at_2 t.goal.length ct2, .slice at_3 t.ops.length ct3], OwnSl 22 1 a4 ((out ++ ([r2] : List (List Int))).length) c3 (csout ++ [.slice a2 r2.length c2])]) rfl ?_
    refine .v (asg rfl) rfl rfl rfl ?_
    refine .nil ?_
    refine .blkN ?_
    refine .seqN ?_
    refine .region ?_
    refine .v (bi rfl rfl rfl) rfl rfl rfl ?_
    refine .v (mv rfl) rfl rfl rfl ?_
    refine .nil ?_
    refine .sel0 [1, 2] (by decide) rfl ?_
    exact .round (IntKind.i64.wrap (t12 + 1), (out ++ ([r2] : List (List Int))), a4, c3, (csout ++ [.slice a2 r2.length c2]), h26) ⟨hF.1, q262, (FH.le_trans (q180) (le26))⟩ hF.2 (.cons rfl (.cons rfl (.cons rfl (.cons rfl (.cons rfl (.cons rfl (.nil))))))) rfl (FH.le_refl _)
  replace hF := hF.2 q226
  refine .exit ?_
  refine .seqX ?_
  refine .seqX ?_
  refine .blkX ?_
  refine .seqN ?_
  refine .seq ?_
  refine .region ?_
  refine .v (mv rfl) rfl rfl rfl ?_
  obtain ⟨q263, hF⟩ := hF
  obtain ⟨r3, q264⟩ : ∃ y_ : List (List Int), y_ = sp_normal out := ⟨_, rfl⟩
  replace hF := hF r3 q264
  refine callX (k := 1) (v := .slice aout r3.length cout) (X' := OwnPX h19 22 1 aout cout r3) rfl Tryz.call84 rfl rfl (fun w g hx sg hd hs' => ?_) rfl ?_
  · rw [q264]; exact c_normal hs' out aout cout q179 (own_n (rfl).symm hx) sg hd q263
  refine .openP (k := 1) rfl (fun cs q265 => ?_)
  refine .cast (A' := [Box pt [.int .i64 t.facts, .slice at_ t.init.length ct, .slice at_2 t.goal.length ct2, .slice at_3 t.ops.length ct3], OwnSl 22 1 aout r3.length cout cs]) rfl ?_
  refine .v (asg rfl) rfl rfl rfl ?_
  refine .nil ?_
  refine .seqN ?_
  refine .freezeL (k := 1) rfl (fun h27 le27 q267 q266 => ?_)
  refine .cast (A' := [Box pt [.int .i64 t.facts, .slice at_ t.init.length ct, .slice at_2 t.goal.length ct2, .slice at_3 t.ops.length ct3], tru]) rfl ?_
  refine .ret ?_
  refine .res1 rfl (rvT rfl) (fun w' S => ⟨r3, (aout, cout), h27, hF, rfl, (FH.le_trans (q180) (le27)), ⟨(show RSl h27 aout r3 from ⟨_, q265.mono (le27), q266⟩), (q267)⟩, S.none⟩)

theorem c_bafter {h : FH} {w : World} (hs : Sub h w) (t : Task) (at_ : Option Addr) (ct : Nat) (_q1 : RSl h at_ t.init) (_q2 : t.init.length ≤ ct) (at_2 : Option Addr) (ct2 : Nat) (_q3 : RSl h at_2 t.goal) (_q4 : t.goal.length ≤ ct2) (at_3 : Option Addr) (ct3 : Nat) (_q5 : RSl h at_3 t.ops) (_q6 : t.ops.length ≤ ct3) (worlds : List (List Int)) (aworlds : Option Addr) (cworlds : Nat) (_q7 : RSl h aworlds worlds) (_q8 : worlds.length ≤ cworlds) (op : Int) (hp : pre_bafter t worlds op) : Calls Tryz.prog 60 #[.agg #[.int .i64 t.facts, .slice at_ t.init.length ct, .slice at_2 t.goal.length ct2, .slice at_3 t.ops.length ct3], .slice aworlds worlds.length cworlds, .int .i64 op] w fun e w' => ∃ (z : Option Addr × Nat) (h1 : FH), e = .returned (.slice z.1 (sp_bafter t worlds op).length z.2) ∧ FH.le h h1 ∧ (RSl h1 z.1 (sp_bafter t worlds op) ∧ (sp_bafter t worlds op).length ≤ z.2) ∧ SH (Kp.all w h) h1 w' [] :=
  (w_bafter hs t at_ ct _q1 _q2 at_2 ct2 _q3 _q4 at_3 ct3 _q5 _q6 worlds aworlds cworlds _q7 _q8 op (fun r => r = sp_bafter t worlds op) (ok_bafter t worlds op hp)).mono fun _ _ ⟨r, z, h1, hk, he, hl, hf, hS⟩ => by subst hk; exact ⟨z, h1, he, hl, hf, hS⟩

end Go.Proofs.YtojoehfldbimpaaGreatDoor.Pl

/- The walks: from what each function asks to what it does; printed from the code. No condition. -/
namespace Go.Proofs.YtojoehfldbimpaaGreatDoor.Pl
open Go Go.RowKit
end Go.Proofs.YtojoehfldbimpaaGreatDoor.Pl

/- The walks: from what each function asks to what it does; printed from the code. No condition. -/
namespace Go.Proofs.YtojoehfldbimpaaGreatDoor.Pl
open Go Go.RowKit
theorem w_able {h : FH} {w : World} (hs : Sub h w) (K : Task → Prop) (hF : F_able  K) : Calls Tryz.prog 54 #[] w fun e w' => ∃ (r : Task) (z : Option Addr × Nat × Option Addr × Nat × Option Addr × Nat) (h1 : FH), K r ∧ e = .returned (.agg #[.int .i64 r.facts, .slice z.1 r.init.length z.2.1, .slice z.2.2.1 r.goal.length z.2.2.2.1, .slice z.2.2.2.2.1 r.ops.length z.2.2.2.2.2]) ∧ FH.le h h1 ∧ (RSl h1 z.1 r.init ∧ r.init.length ≤ z.2.1 ∧ RSl h1 z.2.2.1 r.goal ∧ r.goal.length ≤ z.2.2.2.1 ∧ RSl h1 z.2.2.2.2.1 r.ops ∧ r.ops.length ≤ z.2.2.2.2.2) ∧ SH (Kp.all w h) h1 w' [] := by
  refine enter (args := []) Tryz.func54 rfl Tryz.ntmps54 rfl hs ?_
  refine .seq ?_
  refine .region ?_
  refine al tZ25 rfl (fun pv => ?_)
  refine .nil ?_
  refine .seqN ?_
  refine .seq ?_
  refine .region ?_
  refine bs2 (cs := #[.int .i64 0]) (pv := [(0, .int .i64 0)]) tS22 rfl rfl (by decide) (by decide) rfl rfl rfl (fun a _ => ?_)
  refine .cast (A' := [OwnSl 3 1 a (([0] : List Int).length) 1 (flL ([0] : List Int)), Box pv [.int .i64 0, .slice none 0 0, .slice none 0 0, .slice none 0 0]]) rfl ?_
  refine bs2 (cs := #[.int .i64 0]) (pv := [(0, .int .i64 0)]) tS22 rfl rfl (by decide) (by decide) rfl rfl rfl (fun a2 _ => ?_)
  refine .cast (A' := [OwnSl 3 1 a2 (([0] : List Int).length) 1 (flL ([0] : List Int)), OwnSl 3 1 a (([0] : List Int).length) 1 (flL ([0] : List Int)), Box pv [.int .i64 0, .slice none 0 0, .slice none 0 0, .slice none 0 0]]) rfl ?_
  refine .v (bld (cs := #[.slice none 0 0, .slice a2 (([0] : List Int).length) 1, .slice none 0 0, .int .i64 1]) (pv := [(1, .slice a2 (([0] : List Int).length) 1), (3, .int .i64 1)]) tB54 rfl rfl) rfl rfl rfl ?_
  refine .freezeL (k := 0) rfl (fun h1 le1 q4 q3 => ?_)
  refine .cast (A' := [tru, OwnSl 3 1 a (([0] : List Int).length) 1 (flL ([0] : List Int)), Box pv [.int .i64 0, .slice none 0 0, .slice none 0 0, .slice none 0 0]]) rfl ?_
  refine bs2 (cs := #[.slice none 0 0, .slice a2 (([0] : List Int).length) 1, .slice none 0 0, .int .i64 1]) (pv := [(0, .agg #[.slice none 0 0, .slice a2 (([0] : List Int).length) 1, .slice none 0 0, .int .i64 1])]) tS23 rfl rfl (by decide) (by decide) rfl rfl rfl (fun a3 _ => ?_)
  refine .cast (A' := [OwnSl 54 4 a3 (([(⟨[], ([0] : List Int), [], 1⟩ : Operator)] : List Operator).length) 1 [.slice none 0 0, .slice a2 (([0] : List Int).length) 1, .slice none 0 0, .int .i64 1], tru, OwnSl 3 1 a (([0] : List Int).length) 1 (flL ([0] : List Int)), Box pv [.int .i64 0, .slice none 0 0, .slice none 0 0, .slice none 0 0]]) rfl ?_
  refine .v (bld (cs := #[.int .i64 1, .slice none 0 0, .slice a (([0] : List Int).length) 1, .slice a3 (([(⟨[], ([0] : List Int), [], 1⟩ : Operator)] : List Operator).length) 1]) (pv := [(0, .int .i64 1), (2, .slice a (([0] : List Int).length) 1), (3, .slice a3 (([(⟨[], ([0] : List Int), [], 1⟩ : Operator)] : List Operator).length) 1)]) tB25 rfl rfl) rfl rfl rfl ?_
  refine st (p := pv) (off := 0) (k := 3) (vs := [.int .i64 1, .slice none 0 0, .slice a (([0] : List Int).length) 1, .slice a3 (([(⟨[], ([0] : List Int), [], 1⟩ : Operator)] : List Operator).length) 1]) rfl rfl rfl (fun w => (tA25 w).2) rfl rfl rfl rfl ?_
  refine .cast (A' := [OwnSl 54 4 a3 (([(⟨[], ([0] : List Int), [], 1⟩ : Operator)] : List Operator).length) 1 [.slice none 0 0, .slice a2 (([0] : List Int).length) 1, .slice none 0 0, .int .i64 1], tru, OwnSl 3 1 a (([0] : List Int).length) 1 (flL ([0] : List Int)), Box pv [.int .i64 1, .slice none 0 0, .slice a (([0] : List Int).length) 1, .slice a3 (([(⟨[], ([0] : List Int), [], 1⟩ : Operator)] : List Operator).length) 1]]) rfl ?_
  refine .nil ?_
  refine .seqN ?_
  refine .freezeL (k := 0) rfl (fun h2 le2 q7 q6 => ?_)
  refine .cast (A' := [tru, tru, OwnSl 3 1 a (([0] : List Int).length) 1 (flL ([0] : List Int)), Box pv [.int .i64 1, .slice none 0 0, .slice a (([0] : List Int).length) 1, .slice a3 (([(⟨[], ([0] : List Int), [], 1⟩ : Operator)] : List Operator).length) 1]]) rfl ?_
  refine .freezeL (k := 2) rfl (fun h3 le3 q9 q8 => ?_)
  refine .cast (A' := [tru, tru, tru, Box pv [.int .i64 1, .slice none 0 0, .slice a (([0] : List Int).length) 1, .slice a3 (([(⟨[], ([0] : List Int), [], 1⟩ : Operator)] : List Operator).length) 1]]) rfl ?_
  refine .ret ?_
  refine .res1 rfl (rvC rfl tA25 (k := 3) rfl rfl) (fun w' S => ⟨(⟨1, [], ([0] : List Int), ([(⟨[], ([0] : List Int), [], 1⟩ : Operator)] : List Operator)⟩ : Task), (none, 0, a, 1, a3, 1), h3, hF, rfl, (FH.le_trans (FH.le_trans (le1) (le2)) (le3)), ⟨RSl.nil_, (Nat.le_refl 0), (RSl.of q8), (q9), ((show RSl h2 a3 ([(⟨[], ([0] : List Int), [], 1⟩ : Operator)] : List Operator) from ⟨_, (show RepL h1 ([(⟨[], ([0] : List Int), [], 1⟩ : Operator)] : List Operator) [.slice none 0 0, .slice a2 (([0] : List Int).length) 1, .slice none 0 0, .int .i64 1] from ⟨[.slice none 0 0, .slice a2 (([0] : List Int).length) 1, .slice none 0 0, .int .i64 1], _, rfl, ⟨none, 0, a2, 1, none, 0, rfl, ⟨Nat.le_refl 0, RSl.nil_⟩, ⟨(q4), (RSl.of q3)⟩, ⟨Nat.le_refl 0, RSl.nil_⟩⟩, rfl⟩).mono (le2), q6⟩).mono (le3)), (q7)⟩, S.none⟩)

theorem c_able {h : FH} {w : World} (hs : Sub h w) : Calls Tryz.prog 54 #[] w fun e w' => ∃ (z : Option Addr × Nat × Option Addr × Nat × Option Addr × Nat) (h1 : FH), e = .returned (.agg #[.int .i64 (sp_able).facts, .slice z.1 (sp_able).init.length z.2.1, .slice z.2.2.1 (sp_able).goal.length z.2.2.2.1, .slice z.2.2.2.2.1 (sp_able).ops.length z.2.2.2.2.2]) ∧ FH.le h h1 ∧ (RSl h1 z.1 (sp_able).init ∧ (sp_able).init.length ≤ z.2.1 ∧ RSl h1 z.2.2.1 (sp_able).goal ∧ (sp_able).goal.length ≤ z.2.2.2.1 ∧ RSl h1 z.2.2.2.2.1 (sp_able).ops ∧ (sp_able).ops.length ≤ z.2.2.2.2.2) ∧ SH (Kp.all w h) h1 w' [] :=
  (w_able hs  (fun r => r = sp_able) (ok_able )).mono fun _ _ ⟨r, z, h1, hk, he, hl, hf, hS⟩ => by subst hk; exact ⟨z, h1, he, hl, hf, hS⟩

theorem w_succ {h : FH} {w : World} (hs : Sub h w) (t : Task) (at_ : Option Addr) (ct : Nat) (_q1 : RSl h at_ t.init) (_q2 : t.init.length ≤ ct) (at_2 : Option Addr) (ct2 : Nat) (_q3 : RSl h at_2 t.goal) (_q4 : t.goal.length ≤ ct2) (at_3 : Option Addr) (ct3 : Nat) (_q5 : RSl h at_3 t.ops) (_q6 : t.ops.length ≤ ct3) (worlds : List (List Int)) (aworlds : Option Addr) (cworlds : Nat) (_q7 : RSl h aworlds worlds) (_q8 : worlds.length ≤ cworlds) (K : Unit → Prop) (hF : F_succ t worlds K) : Calls Tryz.prog 81 #[.agg #[.int .i64 t.facts, .slice at_ t.init.length ct, .slice at_2 t.goal.length ct2, .slice at_3 t.ops.length ct3], .slice aworlds worlds.length cworlds] w fun e w' => ∃ (r : Unit) (z : Addr × Addr) (h1 : FH), K r ∧ e = .returned (.func (.func 103) #[] #[.pointer (some z.1), .pointer (some z.2)]) ∧ FH.le h h1 ∧ (CellsAt h1 z.1 [.int .i64 t.facts, .slice at_ t.init.length ct, .slice at_2 t.goal.length ct2, .slice at_3 t.ops.length ct3] ∧ CellsAt h1 z.2 [.slice aworlds worlds.length cworlds]) ∧ SH (Kp.all w h) h1 w' [] := by
  refine enter (args := [.agg #[.int .i64 t.facts, .slice at_ t.init.length ct, .slice at_2 t.goal.length ct2, .slice at_3 t.ops.length ct3], .slice aworlds worlds.length cworlds]) Tryz.func81 rfl Tryz.ntmps81 rfl hs ?_
  refine .seq ?_
  refine .region ?_
  refine bx (vs := [.int .i64 t.facts, .slice at_ t.init.length ct, .slice at_2 t.goal.length ct2, .slice at_3 t.ops.length ct3]) rfl rfl rfl (fun pt => ?_)
  refine bx (vs := [.slice aworlds worlds.length cworlds]) rfl rfl rfl (fun pworlds => ?_)
  refine .v (asg rfl) rfl rfl rfl ?_
  refine .nil ?_
  refine .seqN ?_
  refine .seq ?_
  refine .region ?_
  refine .v (mkf (vf := []) (vc := [.pointer (some pt), .pointer (some pworlds)]) rfl rfl) rfl rfl rfl ?_
  refine .v (asg rfl) rfl rfl rfl ?_
  refine .nil ?_
  refine .seqN ?_
  refine .freezeBx (k := 1) rfl (fun h1 le1 q9 => ?_)
  refine .cast (A' := [Box pworlds [.slice aworlds worlds.length cworlds], tru]) rfl ?_
  refine .freezeBx (k := 0) rfl (fun h2 le2 q10 => ?_)
  refine .cast (A' := [tru, tru]) rfl ?_
  refine .ret ?_
  refine .res1 rfl (rvT rfl) (fun w' S => ⟨(), (pt, pworlds), h2, hF, rfl, (FH.le_trans (le1) (le2)), ⟨(CellsAt.mono (le2) q9), (CellsAt.mono (FH.le_refl _) q10)⟩, S.none⟩)

theorem c_succ {h : FH} {w : World} (hs : Sub h w) (t : Task) (at_ : Option Addr) (ct : Nat) (_q1 : RSl h at_ t.init) (_q2 : t.init.length ≤ ct) (at_2 : Option Addr) (ct2 : Nat) (_q3 : RSl h at_2 t.goal) (_q4 : t.goal.length ≤ ct2) (at_3 : Option Addr) (ct3 : Nat) (_q5 : RSl h at_3 t.ops) (_q6 : t.ops.length ≤ ct3) (worlds : List (List Int)) (aworlds : Option Addr) (cworlds : Nat) (_q7 : RSl h aworlds worlds) (_q8 : worlds.length ≤ cworlds) : Calls Tryz.prog 81 #[.agg #[.int .i64 t.facts, .slice at_ t.init.length ct, .slice at_2 t.goal.length ct2, .slice at_3 t.ops.length ct3], .slice aworlds worlds.length cworlds] w fun e w' => ∃ (z : Addr × Addr) (h1 : FH), e = .returned (.func (.func 103) #[] #[.pointer (some z.1), .pointer (some z.2)]) ∧ FH.le h h1 ∧ (CellsAt h1 z.1 [.int .i64 t.facts, .slice at_ t.init.length ct, .slice at_2 t.goal.length ct2, .slice at_3 t.ops.length ct3] ∧ CellsAt h1 z.2 [.slice aworlds worlds.length cworlds]) ∧ SH (Kp.all w h) h1 w' [] :=
  (w_succ hs t at_ ct _q1 _q2 at_2 ct2 _q3 _q4 at_3 ct3 _q5 _q6 worlds aworlds cworlds _q7 _q8 (fun r => r = sp_succ t worlds) (ok_succ t worlds)).mono fun _ _ ⟨r, z, h1, hk, he, hl, hf, hS⟩ => by subst hk; exact ⟨z, h1, he, hl, hf, hS⟩

theorem w_small1 {h : FH} {w : World} (hs : Sub h w) (x : List (List Int)) (ax : Option Addr) (cx : Nat) (_q1 : RSl h ax x) (_q2 : x.length ≤ cx) (K : Bool → Prop) (hF : F_small1 x K) : Calls Tryz.prog 82 #[.slice ax x.length cx] w fun e w' => ∃ r : Bool, K r ∧ e = .returned (.bool r) ∧ Below w.heap.size w w' := by
  refine enter (args := [.slice ax x.length cx]) Tryz.func82 rfl Tryz.ntmps82 rfl hs ?_
  refine .seq ?_
  refine .region ?_
  refine .v (asg rfl) rfl rfl rfl ?_
  refine .nil ?_
  refine .seqN ?_
  refine .seq ?_
  refine .region ?_
  refine .v (asg rfl) rfl rfl rfl ?_
  refine .nil ?_
  refine .seqN ?_
  refine .ret ?_
  refine .res1 rfl (rvT rfl) (fun w' S => ⟨false, hF, rfl, S.below⟩)

theorem c_small1 {h : FH} {w : World} (hs : Sub h w) (x : List (List Int)) (ax : Option Addr) (cx : Nat) (_q1 : RSl h ax x) (_q2 : x.length ≤ cx) : Calls Tryz.prog 82 #[.slice ax x.length cx] w fun e w' => e = .returned (.bool (sp_small1 x)) ∧ Below w.heap.size w w' :=
  (w_small1 hs x ax cx _q1 _q2 (fun r => r = sp_small1 x) (ok_small1 x)).mono fun _ _ ⟨_, hk, he, hb⟩ => ⟨by rw [he, hk], hb⟩

end Go.Proofs.YtojoehfldbimpaaGreatDoor.Pl

/- The walks: from what each function asks to what it does; printed from the code. No condition. -/
namespace Go.Proofs.YtojoehfldbimpaaGreatDoor.Pl
open Go Go.RowKit
theorem w_ccheck {h : FH} {w : World} (hs : Sub h w) (t : Task) (at_ : Option Addr) (ct : Nat) (_q1 : RSl h at_ t.init) (_q2 : t.init.length ≤ ct) (at_2 : Option Addr) (ct2 : Nat) (_q3 : RSl h at_2 t.goal) (_q4 : t.goal.length ≤ ct2) (at_3 : Option Addr) (ct3 : Nat) (_q5 : RSl h at_3 t.ops) (_q6 : t.ops.length ≤ ct3) (unknown : List Int) (aunknown : Option Addr) (cunknown : Nat) (_q7 : RSl h aunknown unknown) (_q8 : unknown.length ≤ cunknown) (sensors : List Int) (asensors : Option Addr) (csensors : Nat) (_q9 : RSl h asensors sensors) (_q10 : sensors.length ≤ csensors) (K : Fault → Prop) (hF : F_ccheck t unknown sensors K) : Calls Tryz.prog 70 #[.agg #[.int .i64 t.facts, .slice at_ t.init.length ct, .slice at_2 t.goal.length ct2, .slice at_3 t.ops.length ct3], .slice aunknown unknown.length cunknown, .slice asensors sensors.length csensors] w fun e w' => ∃ r : Fault, K r ∧ e = .returned (.agg #[.int .i64 r.code, .int .i64 r.index]) ∧ Below w.heap.size w w' := by
  refine enter (args := [.agg #[.int .i64 t.facts, .slice at_ t.init.length ct, .slice at_2 t.goal.length ct2, .slice at_3 t.ops.length ct3], .slice aunknown unknown.length cunknown, .slice asensors sensors.length csensors]) Tryz.func70 rfl Tryz.ntmps70 rfl hs ?_
  refine .seq ?_
  refine .region ?_
  refine bx (vs := [.int .i64 t.facts, .slice at_ t.init.length ct, .slice at_2 t.goal.length ct2, .slice at_3 t.ops.length ct3]) rfl rfl rfl (fun pt => ?_)
  refine al tZ27 rfl (fun pv => ?_)
  refine .nil ?_
  refine .seqN ?_
  refine .seq ?_
  refine .seq ?_
  refine .region ?_
  refine .v (ldA (cs := [.int .i64 t.facts, .slice at_ t.init.length ct, .slice at_2 t.goal.length ct2, .slice at_3 t.ops.length ct3]) rfl tA25 rfl (cellsB (off := 0) (k := 1) rfl (m := 4) rfl)) rfl rfl rfl ?_
  refine .v (mv rfl) rfl rfl rfl ?_
  obtain ⟨r2, q11⟩ : ∃ y_ : Fault, y_ = sp_unknownFault t unknown := ⟨_, rfl⟩
  replace hF := hF r2 q11
  refine .c (cl (v := .agg #[.int .i64 r2.code, .int .i64 r2.index]) Tryz.call45 rfl rfl (fun w S => (by rw [q11]; exact c_unknownFault S.sub t at_ ct _q1 _q2 at_2 ct2 _q3 _q4 at_3 ct3 _q5 _q6 unknown aunknown cunknown _q7 _q8 ))) rfl rfl rfl ?_
  refine al tZ27 rfl (fun pf => ?_)
  refine st (p := pf) (off := 0) (k := 0) (vs := [.int .i64 r2.code, .int .i64 r2.index]) rfl rfl rfl (fun w => (tA27 w).2) rfl rfl rfl rfl ?_
  refine .cast (A' := [Box pf [.int .i64 r2.code, .int .i64 r2.index], Box pv [.int .i64 0, .int .i64 0], Box pt [.int .i64 t.facts, .slice at_ t.init.length ct, .slice at_2 t.goal.length ct2, .slice at_3 t.ops.length ct3]]) rfl ?_
  refine .nil ?_
  refine .seqN ?_
  refine .seq ?_
  refine .region ?_
  refine .v (ldA (cs := [.int .i64 r2.code, .int .i64 r2.index]) rfl tA27 rfl (cellsB (off := 0) (k := 0) rfl (m := 2) rfl)) rfl rfl rfl ?_
  refine .v (bld (cs := #[.int .i64 0, .int .i64 0]) (pv := []) tB27 rfl rfl) rfl rfl rfl ?_
  refine .v (ne2 tE27 rfl rfl) rfl rfl rfl ?_
  refine .nil ?_
  refine .seqN ?_
  refine .cond rfl (fun q13 => ?_) (fun q13 => ?_)
  · replace hF := hF.1 q13
    refine .seq ?_
    refine .region ?_
    refine .v (ldA (cs := [.int .i64 r2.code, .int .i64 r2.index]) rfl tA27 rfl (cellsB (off := 0) (k := 0) rfl (m := 2) rfl)) rfl rfl rfl ?_
    refine st (p := pv) (off := 0) (k := 1) (vs := [.int .i64 r2.code, .int .i64 r2.index]) rfl rfl rfl (fun w => (tA27 w).2) rfl rfl rfl rfl ?_
    refine .cast (A' := [Box pf [.int .i64 r2.code, .int .i64 r2.index], Box pv [.int .i64 r2.code, .int .i64 r2.index], Box pt [.int .i64 t.facts, .slice at_ t.init.length ct, .slice at_2 t.goal.length ct2, .slice at_3 t.ops.length ct3]]) rfl ?_
    refine .nil ?_
    refine .seqN ?_
    refine .ret ?_
    refine .seqR ?_
    refine .res1 rfl (rvC rfl tA27 (k := 1) rfl rfl) (fun w' S => ⟨r2, hF, rfl, S.below⟩)
  replace hF := hF.2 q13
  refine .skip ?_
  refine .seqN ?_
  refine .seq ?_
  refine .seq ?_
  refine .region ?_
  refine .v (mv rfl) rfl rfl rfl ?_
  refine .v (fa rfl tF25_0) rfl rfl rfl ?_
  refine .v (ld1 rfl tO3 (cellB (off := 0) (k := 2) rfl rfl)) rfl rfl rfl ?_
  obtain ⟨q14, hF⟩ := hF
  obtain ⟨r3, q15⟩ : ∃ y_ : Bool, y_ = sp_isSet sensors t.facts := ⟨_, rfl⟩
  replace hF := hF r3 q15
  refine .c (cl (v := .bool r3) Tryz.call61 rfl rfl (fun w S => (by rw [q15]; exact c_isSet S.sub sensors asensors csensors _q9 _q10 t.facts q14))) rfl rfl rfl ?_
  refine .v (nt rfl) rfl rfl rfl ?_
  refine .nil ?_
  refine .seqN ?_
  refine .cond rfl (fun q17 => ?_) (fun q17 => ?_)
  · replace hF := hF.1 q17
    refine .seq ?_
    refine .region ?_
    refine .v (bld (cs := #[.int .i64 5, .int .i64 (-9)]) (pv := [(0, .int .i64 5), (1, .int .i64 (-9))]) tB27 rfl rfl) rfl rfl rfl ?_
    refine st (p := pv) (off := 0) (k := 1) (vs := [.int .i64 5, .int .i64 (-9)]) rfl rfl rfl (fun w => (tA27 w).2) rfl rfl rfl rfl ?_
    refine .cast (A' := [Box pf [.int .i64 r2.code, .int .i64 r2.index], Box pv [.int .i64 5, .int .i64 (-9)], Box pt [.int .i64 t.facts, .slice at_ t.init.length ct, .slice at_2 t.goal.length ct2, .slice at_3 t.ops.length ct3]]) rfl ?_
    refine .nil ?_
    refine .seqN ?_
    refine .ret ?_
    refine .seqR ?_
    refine .res1 rfl (rvC rfl tA27 (k := 1) rfl rfl) (fun w' S => ⟨(⟨5, (-9)⟩ : Fault), hF, rfl, S.below⟩)
  replace hF := hF.2 q17
  refine .skip ?_
  refine .seqN ?_
  refine .seq ?_
  refine .region ?_
  refine .v (bld (cs := #[.int .i64 0, .int .i64 0]) (pv := []) tB27 rfl rfl) rfl rfl rfl ?_
  refine st (p := pv) (off := 0) (k := 1) (vs := [.int .i64 0, .int .i64 0]) rfl rfl rfl (fun w => (tA27 w).2) rfl rfl rfl rfl ?_
  refine .cast (A' := [Box pf [.int .i64 r2.code, .int .i64 r2.index], Box pv [.int .i64 0, .int .i64 0], Box pt [.int .i64 t.facts, .slice at_ t.init.length ct, .slice at_2 t.goal.length ct2, .slice at_3 t.ops.length ct3]]) rfl ?_
  refine .nil ?_
  refine .seqN ?_
  refine .ret ?_
  refine .res1 rfl (rvC rfl tA27 (k := 1) rfl rfl) (fun w' S => ⟨(⟨0, 0⟩ : Fault), hF, rfl, S.below⟩)

theorem c_ccheck {h : FH} {w : World} (hs : Sub h w) (t : Task) (at_ : Option Addr) (ct : Nat) (_q1 : RSl h at_ t.init) (_q2 : t.init.length ≤ ct) (at_2 : Option Addr) (ct2 : Nat) (_q3 : RSl h at_2 t.goal) (_q4 : t.goal.length ≤ ct2) (at_3 : Option Addr) (ct3 : Nat) (_q5 : RSl h at_3 t.ops) (_q6 : t.ops.length ≤ ct3) (unknown : List Int) (aunknown : Option Addr) (cunknown : Nat) (_q7 : RSl h aunknown unknown) (_q8 : unknown.length ≤ cunknown) (sensors : List Int) (asensors : Option Addr) (csensors : Nat) (_q9 : RSl h asensors sensors) (_q10 : sensors.length ≤ csensors) : Calls Tryz.prog 70 #[.agg #[.int .i64 t.facts, .slice at_ t.init.length ct, .slice at_2 t.goal.length ct2, .slice at_3 t.ops.length ct3], .slice aunknown unknown.length cunknown, .slice asensors sensors.length csensors] w fun e w' => e = .returned (.agg #[.int .i64 (sp_ccheck t unknown sensors).code, .int .i64 (sp_ccheck t unknown sensors).index]) ∧ Below w.heap.size w w' :=
  (w_ccheck hs t at_ ct _q1 _q2 at_2 ct2 _q3 _q4 at_3 ct3 _q5 _q6 unknown aunknown cunknown _q7 _q8 sensors asensors csensors _q9 _q10 (fun r => r = sp_ccheck t unknown sensors) (ok_ccheck t unknown sensors)).mono fun _ _ ⟨_, hk, he, hb⟩ => ⟨by rw [he, hk], hb⟩

set_option maxHeartbeats 8000000 in
theorem w_nodeCode {h : FH} {w : World} (hs : Sub h w) (t : Task) (at_ : Option Addr) (ct : Nat) (_q1 : RSl h at_ t.init) (_q2 : t.init.length ≤ ct) (at_2 : Option Addr) (ct2 : Nat) (_q3 : RSl h at_2 t.goal) (_q4 : t.goal.length ≤ ct2) (at_3 : Option Addr) (ct3 : Nat) (_q5 : RSl h at_3 t.ops) (_q6 : t.ops.length ≤ ct3) (sensors : List Int) (asensors : Option Addr) (csensors : Nat) (_q7 : RSl h asensors sensors) (_q8 : sensors.length ≤ csensors) (n_ : TNode) (i : Int) (K : Int → Prop) (hF : F_nodeCode t sensors n_ i K) : Calls Tryz.prog 77 #[.agg #[.int .i64 t.facts, .slice at_ t.init.length ct, .slice at_2 t.goal.length ct2, .slice at_3 t.ops.length ct3], .slice asensors sensors.length csensors, .agg #[.int .i64 n_.kind, .int .i64 n_.op, .int .i64 n_.fact, .int .i64 n_.yes, .int .i64 n_.no], .int .i64 i] w fun e w' => ∃ r : Int, K r ∧ e = .returned (.int .i64 r) ∧ Below w.heap.size w w' := by
  refine enter (args := [.agg #[.int .i64 t.facts, .slice at_ t.init.length ct, .slice at_2 t.goal.length ct2, .slice at_3 t.ops.length ct3], .slice asensors sensors.length csensors, .agg #[.int .i64 n_.kind, .int .i64 n_.op, .int .i64 n_.fact, .int .i64 n_.yes, .int .i64 n_.no], .int .i64 i]) Tryz.func77 rfl Tryz.ntmps77 rfl hs ?_
  refine .seq ?_
  refine .region ?_
  refine bx (vs := [.int .i64 t.facts, .slice at_ t.init.length ct, .slice at_2 t.goal.length ct2, .slice at_3 t.ops.length ct3]) rfl rfl rfl (fun pt => ?_)
  refine bx (vs := [.int .i64 n_.kind, .int .i64 n_.op, .int .i64 n_.fact, .int .i64 n_.yes, .int .i64 n_.no]) rfl rfl rfl (fun pn => ?_)
  refine .v (asg rfl) rfl rfl rfl ?_
  refine .nil ?_
  refine .seqN ?_
  refine .seq ?_
  refine .region ?_
  refine .v (fa rfl tF102_0) rfl rfl rfl ?_
  refine .v (ld1 rfl tO3 (cellB (off := 0) (k := 0) rfl rfl)) rfl rfl rfl ?_
  refine .v (bld (cs := #[.int .i64 n_.kind, .int .i64 0, .int .i64 0, .int .i64 0, .int .i64 0]) (pv := [(0, .int .i64 n_.kind)]) tB102 rfl rfl) rfl rfl rfl ?_
  refine al tZ102 rfl (fun pwant => ?_)
  refine st (p := pwant) (off := 0) (k := 0) (vs := [.int .i64 n_.kind, .int .i64 0, .int .i64 0, .int .i64 0, .int .i64 0]) rfl rfl rfl (fun w => (tA102 w).2) rfl rfl rfl rfl ?_
  refine .cast (A' := [Box pwant [.int .i64 n_.kind, .int .i64 0, .int .i64 0, .int .i64 0, .int .i64 0], Box pn [.int .i64 n_.kind, .int .i64 n_.op, .int .i64 n_.fact, .int .i64 n_.yes, .int .i64 n_.no], Box pt [.int .i64 t.facts, .slice at_ t.init.length ct, .slice at_2 t.goal.length ct2, .slice at_3 t.ops.length ct3]]) rfl ?_
  refine .nil ?_
  refine .seqN ?_
  refine .seq ?_
  refine .seq ?_
  refine .region ?_
  refine .v (fa rfl tF102_0) rfl rfl rfl ?_
  refine .v (ld1 rfl tO3 (cellB (off := 0) (k := 1) rfl rfl)) rfl rfl rfl ?_
  refine .nil ?_
  refine .seqN ?_
  refine .shareT (σ := Int × Int × Int × Int) (fun z => F_nodeCode_J1 n_ i K z.1 z.2.1 z.2.2.1 z.2.2.2) (fun _ => [(3, .int .i64 i), (6, .pointer (some pn)), (9, .pointer (some pwant))]) (fun z => [Box pn [.int .i64 n_.kind, .int .i64 n_.op, .int .i64 n_.fact, .int .i64 n_.yes, .int .i64 n_.no], Box pwant [.int .i64 n_.kind, .int .i64 z.1, .int .i64 z.2.1, .int .i64 z.2.2.1, .int .i64 z.2.2.2]]) (fun _ => h) ?_ (fun q21 => ?_)
  · rintro ⟨x, x2, x3, x4⟩ hF
    show J _ _ _ _ _ [(3, .int .i64 i), (6, .pointer (some pn)), (9, .pointer (some pwant))] [Box pn [.int .i64 n_.kind, .int .i64 n_.op, .int .i64 n_.fact, .int .i64 n_.yes, .int .i64 n_.no], Box pwant [.int .i64 n_.kind, .int .i64 x, .int .i64 x2, .int .i64 x3, .int .i64 x4]] h
    refine .seq ?_
    refine .share (σ := Bool) (fun z => F_nodeCode_J2 K z) (fun z => [(81, .bool z)]) (fun _ => []) (fun _ => h) ?_ (fun q26 => ?_)
    · rintro t81 hF
      show J _ _ _ _ _ [(81, .bool t81)] [] h
      refine .cond rfl (fun q28 => ?_) (fun q28 => ?_)
      · replace hF := hF.1 q28
        refine .seq ?_
        refine .region ?_
        refine .v (asg rfl) rfl rfl rfl ?_
        refine .nil ?_
        refine .seqN ?_
        refine .ret ?_
        refine .seqR ?_
        refine .res1 rfl (rvT rfl) (fun w' S => ⟨5, hF, rfl, S.below⟩)
      replace hF := hF.2 q28
      refine .skip ?_
      refine .seqN ?_
      refine .seq ?_
      refine .region ?_
      refine .v (asg rfl) rfl rfl rfl ?_
      refine .nil ?_
      refine .seqN ?_
      refine .ret ?_
      refine .res1 rfl (rvT rfl) (fun w' S => ⟨0, hF, rfl, S.below⟩)
    refine .region ?_
    refine .v (ldA (cs := [.int .i64 n_.kind, .int .i64 n_.op, .int .i64 n_.fact, .int .i64 n_.yes, .int .i64 n_.no]) rfl tA102 rfl (cellsB (off := 0) (k := 0) rfl (m := 5) rfl)) rfl rfl rfl ?_
    refine .v (ldA (cs := [.int .i64 n_.kind, .int .i64 x, .int .i64 x2, .int .i64 x3, .int .i64 x4]) rfl tA102 rfl (cellsB (off := 0) (k := 1) rfl (m := 5) rfl)) rfl rfl rfl ?_
    obtain ⟨x5, q29⟩ : ∃ y_ : Bool, y_ = (!((((n_.kind == n_.kind) && (n_.op == x)) && ((n_.fact == x2) && (n_.yes == x3))) && (n_.no == x4))) := ⟨_, rfl⟩
    replace hF := hF x5 q29
    refine .v (v := .bool x5) (by rw [q29]; exact ne5 tE102 rfl rfl) rfl rfl rfl ?_
    refine .v (mv rfl) rfl rfl rfl ?_
    rcases Bool.eq_false_or_eq_true (x5) with q30 | q30
    · replace hF := hF.1 q30
      refine .gS rfl rfl rfl q30 rfl rfl ?_
      refine .gS rfl rfl rfl q30 rfl rfl ?_
      refine .gS rfl rfl rfl q30 rfl rfl ?_
      refine .gS rfl rfl rfl q30 rfl rfl ?_
      refine .gU rfl rfl rfl rfl rfl ?_
      refine .gU rfl rfl rfl rfl rfl ?_
      refine .gU rfl rfl rfl rfl rfl ?_
      refine .gU rfl rfl rfl rfl rfl ?_
      refine .gU rfl rfl rfl rfl rfl ?_
      refine .gU rfl rfl rfl rfl rfl ?_
      refine .gS rfl rfl rfl q30 rfl rfl ?_
      refine .v (pkT rfl q30 rfl) rfl rfl rfl ?_
      refine .v (mv rfl) rfl rfl rfl ?_
      refine .gS rfl rfl rfl rfl rfl rfl ?_
      refine .gS rfl rfl rfl rfl rfl rfl ?_
      refine .gS rfl rfl rfl rfl rfl rfl ?_
      refine .gS rfl rfl rfl rfl rfl rfl ?_
      refine .gU rfl rfl rfl rfl rfl ?_
      refine .gU rfl rfl rfl rfl rfl ?_
      refine .gU rfl rfl rfl rfl rfl ?_
      refine .gU rfl rfl rfl rfl rfl ?_
      refine .gU rfl rfl rfl rfl rfl ?_
      refine .gU rfl rfl rfl rfl rfl ?_
      refine .gU rfl rfl rfl rfl rfl ?_
      refine .gS rfl rfl rfl rfl rfl rfl ?_
      refine .v (pkT rfl rfl rfl) rfl rfl rfl ?_
      refine .nil ?_
      refine .sel0 [] (by decide) rfl ?_
      exact .use q26 true hF (.cons rfl (.nil)) rfl (FH.le_refl _)
    replace hF := hF.2 q30
    refine .gv (fa rfl tF102_0) rfl rfl rfl q30 rfl rfl ?_
    refine .gv (ld1 rfl tO3 (cellB (off := 0) (k := 0) rfl rfl)) rfl rfl rfl q30 rfl rfl ?_
    refine .gv (bi rfl rfl rfl) rfl rfl rfl q30 rfl rfl ?_
    refine .gv (mv rfl) rfl rfl rfl q30 rfl rfl ?_
    rcases Bool.eq_false_or_eq_true (n_.kind != 1) with q31 | q31
    · replace hF := hF.1 q31
      refine .gv (fa rfl tF102_3) rfl rfl rfl q31 rfl rfl ?_
      refine .gv (ld1 rfl tO3 (cellB (off := 3) (k := 0) rfl rfl)) rfl rfl rfl q31 rfl rfl ?_
      refine .gv (fa rfl tF102_4) rfl rfl rfl q31 rfl rfl ?_
      refine .gv (ld1 rfl tO3 (cellB (off := 4) (k := 0) rfl rfl)) rfl rfl rfl q31 rfl rfl ?_
      refine .gv (mn rfl rfl) rfl rfl rfl q31 rfl rfl ?_
      refine .gv (bi rfl rfl rfl) rfl rfl rfl q31 rfl rfl ?_
      refine .gv (pkT rfl q31 rfl) rfl rfl rfl q30 rfl rfl ?_
      refine .v (pkF rfl q30 rfl) rfl rfl rfl ?_
      refine .v (mv rfl) rfl rfl rfl ?_
      rcases Bool.eq_false_or_eq_true (decide ((if n_.no < n_.yes then n_.no else n_.yes) < 0)) with q32 | q32
      · replace hF := hF.1 q32
        refine .gS rfl rfl rfl q32 rfl rfl ?_
        refine .gS rfl rfl rfl q32 rfl rfl ?_
        refine .gS rfl rfl rfl q32 rfl rfl ?_
        refine .gS rfl rfl rfl q32 rfl rfl ?_
        refine .gU rfl rfl rfl rfl rfl ?_
        refine .gU rfl rfl rfl rfl rfl ?_
        refine .gU rfl rfl rfl rfl rfl ?_
        refine .gU rfl rfl rfl rfl rfl ?_
        refine .gU rfl rfl rfl rfl rfl ?_
        refine .gU rfl rfl rfl rfl rfl ?_
        refine .gU rfl rfl rfl rfl rfl ?_
        refine .gS rfl rfl rfl q32 rfl rfl ?_
        refine .v (pkT rfl q32 rfl) rfl rfl rfl ?_
        refine .nil ?_
        refine .sel0 [] (by decide) rfl ?_
        exact .use q26 true hF (.cons rfl (.nil)) rfl (FH.le_refl _)
      replace hF := hF.2 q32
      refine .gv (fa rfl tF102_0) rfl rfl rfl q32 rfl rfl ?_
      refine .gv (ld1 rfl tO3 (cellB (off := 0) (k := 0) rfl rfl)) rfl rfl rfl q32 rfl rfl ?_
      refine .gv (bi rfl rfl rfl) rfl rfl rfl q32 rfl rfl ?_
      refine .gv (mv rfl) rfl rfl rfl q32 rfl rfl ?_
      refine .gv (fa rfl tF102_3) rfl rfl rfl q31 rfl rfl ?_
      refine .gv (ld1 rfl tO3 (cellB (off := 3) (k := 0) rfl rfl)) rfl rfl rfl q31 rfl rfl ?_
      refine .gv (fa rfl tF102_4) rfl rfl rfl q31 rfl rfl ?_
      refine .gv (ld1 rfl tO3 (cellB (off := 4) (k := 0) rfl rfl)) rfl rfl rfl q31 rfl rfl ?_
      refine .gv (mx rfl rfl) rfl rfl rfl q31 rfl rfl ?_
      refine .gv (mv rfl) rfl rfl rfl q31 rfl rfl ?_
      refine .gv (bi rfl rfl rfl) rfl rfl rfl q31 rfl rfl ?_
      refine .gv (pkT rfl q31 rfl) rfl rfl rfl q32 rfl rfl ?_
      refine .v (pkF rfl q32 rfl) rfl rfl rfl ?_
      refine .nil ?_
      refine .sel0 [] (by decide) rfl ?_
      exact .use q26 (decide (i ≤ (if n_.yes < n_.no then n_.no else n_.yes))) hF (.cons rfl (.nil)) rfl (FH.le_refl _)
    replace hF := hF.2 q31
    refine .gS rfl rfl rfl q31 rfl rfl ?_
    refine .gS rfl rfl rfl q31 rfl rfl ?_
    refine .gS rfl rfl rfl q31 rfl rfl ?_
    refine .gS rfl rfl rfl q31 rfl rfl ?_
    refine .gS rfl rfl rfl q31 rfl rfl ?_
    refine .gS rfl rfl rfl q31 rfl rfl ?_
    refine .gv (pkF rfl q31 rfl) rfl rfl rfl q30 rfl rfl ?_
    refine .v (pkF rfl q30 rfl) rfl rfl rfl ?_
    refine .v (mv rfl) rfl rfl rfl ?_
    refine .gv (fa rfl tF102_0) rfl rfl rfl rfl rfl rfl ?_
    refine .gv (ld1 rfl tO3 (cellB (off := 0) (k := 0) rfl rfl)) rfl rfl rfl rfl rfl rfl ?_
    refine .gv (bi rfl rfl rfl) rfl rfl rfl rfl rfl rfl ?_
    refine .gv (mv rfl) rfl rfl rfl rfl rfl rfl ?_
    refine .gS rfl rfl rfl q31 rfl rfl ?_
    refine .gS rfl rfl rfl q31 rfl rfl ?_
    refine .gS rfl rfl rfl q31 rfl rfl ?_
    refine .gS rfl rfl rfl q31 rfl rfl ?_
    refine .gS rfl rfl rfl q31 rfl rfl ?_
    refine .gS rfl rfl rfl q31 rfl rfl ?_
    refine .gS rfl rfl rfl q31 rfl rfl ?_
    refine .gv (pkF rfl q31 rfl) rfl rfl rfl rfl rfl rfl ?_
    refine .v (pkF rfl rfl rfl) rfl rfl rfl ?_
    refine .nil ?_
    refine .sel0 [] (by decide) rfl ?_
    exact .use q26 false hF (.cons rfl (.nil)) rfl (FH.le_refl _)
  refine .block ?_
  refine .seq ?_
  refine .region ?_
  refine .v (bi rfl rfl rfl) rfl rfl rfl ?_
  refine .v (asg rfl) rfl rfl rfl ?_
  refine .nil ?_
  refine .seqN ?_
  refine .cond rfl (fun q33 => ?_) (fun q33 => ?_)
  · replace hF := hF.1 q33
    refine .skip ?_
    refine .blkN ?_
    refine .sel0 [1, 0] (by decide) rfl ?_
    exact .use q21 (0, 0, 0, 0) hF (.cons rfl (.cons rfl (.cons rfl (.nil)))) rfl (FH.le_refl _)
  replace hF := hF.2 q33
  refine .seq ?_
  refine .region ?_
  refine .v (bi rfl rfl rfl) rfl rfl rfl ?_
  refine .v (asg rfl) rfl rfl rfl ?_
  refine .nil ?_
  refine .seqN ?_
  refine .cond rfl (fun q34 => ?_) (fun q34 => ?_)
  · replace hF := hF.1 q34
    refine .seq ?_
    refine .share (σ := Bool) (fun z => F_nodeCode_J3 n_ i K z) (fun z => [(3, .int .i64 i), (6, .pointer (some pn)), (9, .pointer (some pwant)), (29, .bool z)]) (fun _ => [Box pn [.int .i64 n_.kind, .int .i64 n_.op, .int .i64 n_.fact, .int .i64 n_.yes, .int .i64 n_.no], Box pwant [.int .i64 n_.kind, .int .i64 0, .int .i64 0, .int .i64 0, .int .i64 0]]) (fun _ => h) ?_ (fun q36 => ?_)
    · rintro t29 hF
      show J _ _ _ _ _ [(3, .int .i64 i), (6, .pointer (some pn)), (9, .pointer (some pwant)), (29, .bool t29)] [Box pn [.int .i64 n_.kind, .int .i64 n_.op, .int .i64 n_.fact, .int .i64 n_.yes, .int .i64 n_.no], Box pwant [.int .i64 n_.kind, .int .i64 0, .int .i64 0, .int .i64 0, .int .i64 0]] h
      refine .cond rfl (fun q38 => ?_) (fun q38 => ?_)
      · replace hF := hF.1 q38
        refine .seq ?_
        refine .region ?_
        refine .v (asg rfl) rfl rfl rfl ?_
        refine .nil ?_
        refine .seqN ?_
        refine .ret ?_
        refine .seqR ?_
        refine .blkR ?_
        refine .seqR ?_
        refine .res1 rfl (rvT rfl) (fun w' S => ⟨3, hF, rfl, S.below⟩)
      replace hF := hF.2 q38
      refine .skip ?_
      refine .seqN ?_
      refine .openA (s0 := [(3, .int .i64 i), (6, .pointer (some pn)), (9, .pointer (some pwant))]) [0, 1, 2, 3, 4] [(0, .pointer (some (pn.add 1))), (1, .int .i64 n_.op), (2, .pointer (some (pn.add 3))), (3, .int .i64 n_.yes), (4, .pointer (some (pwant.add 1)))] (by kernel_rfl) (.cons rfl (.cons rfl (.cons rfl (.nil)))) [3, 6, 9] [] rfl (by kernel_rfl) ?_
      refine .step [5] 5 rfl (by kernel_rfl) (by kernel_rfl) (.v [] rfl rfl rfl rfl rfl rfl (fun _ => fa rfl tF102_1) (.v [(30, .pointer (some (pn.add 1)))] rfl rfl rfl rfl rfl rfl (fun _ => ld1 rfl tO3 (cellB (off := 1) (k := 0) rfl rfl)) (.v [] rfl rfl rfl rfl rfl rfl (fun _ => fa rfl tF102_3) (.v [(32, .pointer (some (pn.add 3)))] rfl rfl rfl rfl rfl rfl (fun _ => ld1 rfl tO3 (cellB (off := 3) (k := 0) rfl rfl)) (.v [(30, .pointer (some (pn.add 1))), (31, .int .i64 n_.op)] rfl rfl rfl rfl rfl rfl (fun _ => fa rfl tF102_1) (.nil)))))) (.cons [(34, .pointer (some (pwant.add 1))), (31, .int .i64 n_.op), (30, .pointer (some (pn.add 1))), (31, .int .i64 n_.op)] rfl rfl (fun sL hL => ?_) (.nil))
      refine st (p := pwant) (off := 1) (k := 1) (vs := [.int .i64 n_.op]) rfl rfl rfl (fun w => (tO3 w).2) rfl rfl rfl rfl ?_
      refine .cast (A' := [Box pn [.int .i64 n_.kind, .int .i64 n_.op, .int .i64 n_.fact, .int .i64 n_.yes, .int .i64 n_.no], Box pwant [.int .i64 n_.kind, .int .i64 n_.op, .int .i64 0, .int .i64 0, .int .i64 0]]) rfl ?_
      refine .nil ?_
      refine .jaN (M := [4, 1, 0]) (C' := [2, 3, 6]) (pre := [(6, .pointer (some (pwant.add 3)))]) [3, 6, 9] hL rfl rfl rfl rfl rfl (by kernel_rfl) ?_
      refine .step [7] 7 rfl (by kernel_rfl) (by kernel_rfl) (.v [] rfl rfl rfl rfl rfl rfl (fun _ => fa rfl tF102_3) (.v [(32, .pointer (some (pn.add 3)))] rfl rfl rfl rfl rfl rfl (fun _ => ld1 rfl tO3 (cellB (off := 3) (k := 0) rfl rfl)) (.v [(30, .pointer (some (pn.add 1))), (31, .int .i64 n_.op), (32, .pointer (some (pn.add 3))), (33, .int .i64 n_.yes), (34, .pointer (some (pwant.add 1)))] rfl rfl rfl rfl rfl rfl (fun _ => fa rfl tF102_3) (.nil)))) (.cons [(35, .pointer (some (pwant.add 3))), (33, .int .i64 n_.yes), (30, .pointer (some (pn.add 1))), (31, .int .i64 n_.op), (32, .pointer (some (pn.add 3))), (33, .int .i64 n_.yes), (34, .pointer (some (pwant.add 1)))] rfl rfl (fun sL hL => ?_) (.nil))
      refine st (p := pwant) (off := 3) (k := 1) (vs := [.int .i64 n_.yes]) rfl rfl rfl (fun w => (tO3 w).2) rfl rfl rfl rfl ?_
      refine .cast (A' := [Box pn [.int .i64 n_.kind, .int .i64 n_.op, .int .i64 n_.fact, .int .i64 n_.yes, .int .i64 n_.no], Box pwant [.int .i64 n_.kind, .int .i64 n_.op, .int .i64 0, .int .i64 n_.yes, .int .i64 0]]) rfl ?_
      refine .nil ?_
      refine .jaN (M := [6, 3, 2]) (C' := []) (pre := []) [3, 6, 9] hL rfl rfl rfl rfl rfl (by kernel_rfl) ?_
      refine .last [(30, .pointer (some (pn.add 1))), (31, .int .i64 n_.op), (32, .pointer (some (pn.add 3))), (33, .int .i64 n_.yes), (34, .pointer (some (pwant.add 1))), (35, .pointer (some (pwant.add 3)))] rfl (by kernel_rfl) (.nil) rfl ?_
      refine .blkN ?_
      exact .use q21 (n_.op, 0, n_.yes, 0) hF (.cons rfl (.cons rfl (.cons rfl (.nil)))) rfl (FH.le_refl _)
    refine .region ?_
    refine .v (fa rfl tF102_1) rfl rfl rfl ?_
    refine .v (ld1 rfl tO3 (cellB (off := 1) (k := 1) rfl rfl)) rfl rfl rfl ?_
    refine .v (bi rfl rfl rfl) rfl rfl rfl ?_
    refine .v (mv rfl) rfl rfl rfl ?_
    rcases Bool.eq_false_or_eq_true (decide (n_.op < 0)) with q39 | q39
    · replace hF := hF.1 q39
      refine .gS rfl rfl rfl q39 rfl rfl ?_
      refine .gS rfl rfl rfl q39 rfl rfl ?_
      refine .gS rfl rfl rfl q39 rfl rfl ?_
      refine .gS rfl rfl rfl q39 rfl rfl ?_
      refine .gS rfl rfl rfl q39 rfl rfl ?_
      refine .gS rfl rfl rfl q39 rfl rfl ?_
      refine .v (pkT rfl q39 rfl) rfl rfl rfl ?_
      refine .nil ?_
      refine .sel0 [1, 0] (by decide) rfl ?_
      exact .use q36 true hF (.cons rfl (.cons rfl (.cons rfl (.cons rfl (.nil))))) rfl (FH.le_refl _)
    replace hF := hF.2 q39
    refine .gv (fa rfl tF102_1) rfl rfl rfl q39 rfl rfl ?_
    refine .gv (ld1 rfl tO3 (cellB (off := 1) (k := 1) rfl rfl)) rfl rfl rfl q39 rfl rfl ?_
    refine .gv (fa rfl tF25_3) rfl rfl rfl q39 rfl rfl ?_
    refine .gv (ld1 rfl tO23 (cellB (off := 3) (k := 2) rfl rfl)) rfl rfl rfl q39 rfl rfl ?_
    refine .gv (ln rfl tS23.is) rfl rfl rfl q39 rfl rfl ?_
    refine .gv (bi rfl rfl rfl) rfl rfl rfl q39 rfl rfl ?_
    refine .v (pkF rfl q39 rfl) rfl rfl rfl ?_
    refine .nil ?_
    refine .sel0 [1, 0] (by decide) rfl ?_
    exact .use q36 (decide (((t.ops.length : Nat) : Int) ≤ n_.op)) hF (.cons rfl (.cons rfl (.cons rfl (.cons rfl (.nil))))) rfl (FH.le_refl _)
  replace hF := hF.2 q34
  refine .seq ?_
  refine .region ?_
  refine .v (bi rfl rfl rfl) rfl rfl rfl ?_
  refine .v (asg rfl) rfl rfl rfl ?_
  refine .nil ?_
  refine .seqN ?_
  refine .cond rfl (fun q40 => ?_) (fun q40 => ?_)
  · replace hF := hF.1 q40
    refine .seq ?_
    refine .seq ?_
    refine .region ?_
    refine .v (mv rfl) rfl rfl rfl ?_
    refine .v (fa rfl tF102_2) rfl rfl rfl ?_
    refine .v (ld1 rfl tO3 (cellB (off := 2) (k := 1) rfl rfl)) rfl rfl rfl ?_
    obtain ⟨q41, hF⟩ := hF
    obtain ⟨r2, q42⟩ : ∃ y_ : Bool, y_ = sp_contains sensors n_.fact := ⟨_, rfl⟩
    replace hF := hF r2 q42
    refine .c (cl (v := .bool r2) Tryz.call101 rfl rfl (fun w S => (by rw [q42]; exact c_contains S.sub sensors asensors csensors _q7 _q8 n_.fact q41))) rfl rfl rfl ?_
    refine .v (nt rfl) rfl rfl rfl ?_
    refine .nil ?_
    refine .seqN ?_
    refine .cond rfl (fun q44 => ?_) (fun q44 => ?_)
    · replace hF := hF.1 q44
      refine .seq ?_
      refine .region ?_
      refine .v (asg rfl) rfl rfl rfl ?_
      refine .nil ?_
      refine .seqN ?_
      refine .ret ?_
      refine .seqR ?_
      refine .blkR ?_
      refine .seqR ?_
      refine .res1 rfl (rvT rfl) (fun w' S => ⟨6, hF, rfl, S.below⟩)
    replace hF := hF.2 q44
    refine .skip ?_
    refine .seqN ?_
    refine .openA (s0 := [(3, .int .i64 i), (6, .pointer (some pn)), (9, .pointer (some pwant))]) [0, 1, 2, 3, 4, 5, 6] [(0, .pointer (some (pn.add 2))), (1, .int .i64 n_.fact), (2, .pointer (some (pn.add 3))), (3, .int .i64 n_.yes), (4, .pointer (some (pn.add 4))), (5, .int .i64 n_.no), (6, .pointer (some (pwant.add 2)))] (by kernel_rfl) (.cons rfl (.cons rfl (.cons rfl (.nil)))) [3, 6, 9] [] rfl (by kernel_rfl) ?_
    refine .step [7] 7 rfl (by kernel_rfl) (by kernel_rfl) (.v [] rfl rfl rfl rfl rfl rfl (fun _ => fa rfl tF102_2) (.v [(43, .pointer (some (pn.add 2)))] rfl rfl rfl rfl rfl rfl (fun _ => ld1 rfl tO3 (cellB (off := 2) (k := 1) rfl rfl)) (.v [] rfl rfl rfl rfl rfl rfl (fun _ => fa rfl tF102_3) (.v [(45, .pointer (some (pn.add 3)))] rfl rfl rfl rfl rfl rfl (fun _ => ld1 rfl tO3 (cellB (off := 3) (k := 1) rfl rfl)) (.v [] rfl rfl rfl rfl rfl rfl (fun _ => fa rfl tF102_4) (.v [(47, .pointer (some (pn.add 4)))] rfl rfl rfl rfl rfl rfl (fun _ => ld1 rfl tO3 (cellB (off := 4) (k := 1) rfl rfl)) (.v [(43, .pointer (some (pn.add 2))), (44, .int .i64 n_.fact)] rfl rfl rfl rfl rfl rfl (fun _ => fa rfl tF102_2) (.nil)))))))) (.cons [(49, .pointer (some (pwant.add 2))), (44, .int .i64 n_.fact), (43, .pointer (some (pn.add 2))), (44, .int .i64 n_.fact)] rfl rfl (fun sL hL => ?_) (.nil))
    refine st (p := pwant) (off := 2) (k := 0) (vs := [.int .i64 n_.fact]) rfl rfl rfl (fun w => (tO3 w).2) rfl rfl rfl rfl ?_
    refine .cast (A' := [Box pwant [.int .i64 n_.kind, .int .i64 0, .int .i64 n_.fact, .int .i64 0, .int .i64 0], Box pn [.int .i64 n_.kind, .int .i64 n_.op, .int .i64 n_.fact, .int .i64 n_.yes, .int .i64 n_.no], Box pt [.int .i64 t.facts, .slice at_ t.init.length ct, .slice at_2 t.goal.length ct2, .slice at_3 t.ops.length ct3]]) rfl ?_
    refine .nil ?_
    refine .jaN (M := [6, 1, 0]) (C' := [2, 3, 4, 5, 8]) (pre := [(8, .pointer (some (pwant.add 3)))]) [3, 6, 9] hL rfl rfl rfl rfl rfl (by kernel_rfl) ?_
    refine .step [9] 9 rfl (by kernel_rfl) (by kernel_rfl) (.v [] rfl rfl rfl rfl rfl rfl (fun _ => fa rfl tF102_3) (.v [(45, .pointer (some (pn.add 3)))] rfl rfl rfl rfl rfl rfl (fun _ => ld1 rfl tO3 (cellB (off := 3) (k := 1) rfl rfl)) (.v [] rfl rfl rfl rfl rfl rfl (fun _ => fa rfl tF102_4) (.v [(47, .pointer (some (pn.add 4)))] rfl rfl rfl rfl rfl rfl (fun _ => ld1 rfl tO3 (cellB (off := 4) (k := 1) rfl rfl)) (.v [(43, .pointer (some (pn.add 2))), (44, .int .i64 n_.fact), (45, .pointer (some (pn.add 3))), (46, .int .i64 n_.yes), (49, .pointer (some (pwant.add 2)))] rfl rfl rfl rfl rfl rfl (fun _ => fa rfl tF102_3) (.nil)))))) (.cons [(50, .pointer (some (pwant.add 3))), (46, .int .i64 n_.yes), (43, .pointer (some (pn.add 2))), (44, .int .i64 n_.fact), (45, .pointer (some (pn.add 3))), (46, .int .i64 n_.yes), (49, .pointer (some (pwant.add 2)))] rfl rfl (fun sL hL => ?_) (.nil))
    refine st (p := pwant) (off := 3) (k := 0) (vs := [.int .i64 n_.yes]) rfl rfl rfl (fun w => (tO3 w).2) rfl rfl rfl rfl ?_
    refine .cast (A' := [Box pwant [.int .i64 n_.kind, .int .i64 0, .int .i64 n_.fact, .int .i64 n_.yes, .int .i64 0], Box pn [.int .i64 n_.kind, .int .i64 n_.op, .int .i64 n_.fact, .int .i64 n_.yes, .int .i64 n_.no], Box pt [.int .i64 t.facts, .slice at_ t.init.length ct, .slice at_2 t.goal.length ct2, .slice at_3 t.ops.length ct3]]) rfl ?_
    refine .nil ?_
    refine .jaN (M := [8, 3, 2]) (C' := [4, 5, 10]) (pre := [(10, .pointer (some (pwant.add 4)))]) [3, 6, 9] hL rfl rfl rfl rfl rfl (by kernel_rfl) ?_
    refine .step [11] 11 rfl (by kernel_rfl) (by kernel_rfl) (.v [] rfl rfl rfl rfl rfl rfl (fun _ => fa rfl tF102_4) (.v [(47, .pointer (some (pn.add 4)))] rfl rfl rfl rfl rfl rfl (fun _ => ld1 rfl tO3 (cellB (off := 4) (k := 1) rfl rfl)) (.v [(43, .pointer (some (pn.add 2))), (44, .int .i64 n_.fact), (45, .pointer (some (pn.add 3))), (46, .int .i64 n_.yes), (47, .pointer (some (pn.add 4))), (48, .int .i64 n_.no), (49, .pointer (some (pwant.add 2))), (50, .pointer (some (pwant.add 3)))] rfl rfl rfl rfl rfl rfl (fun _ => fa rfl tF102_4) (.nil)))) (.cons [(51, .pointer (some (pwant.add 4))), (48, .int .i64 n_.no), (43, .pointer (some (pn.add 2))), (44, .int .i64 n_.fact), (45, .pointer (some (pn.add 3))), (46, .int .i64 n_.yes), (47, .pointer (some (pn.add 4))), (48, .int .i64 n_.no), (49, .pointer (some (pwant.add 2))), (50, .pointer (some (pwant.add 3)))] rfl rfl (fun sL hL => ?_) (.nil))
    refine st (p := pwant) (off := 4) (k := 0) (vs := [.int .i64 n_.no]) rfl rfl rfl (fun w => (tO3 w).2) rfl rfl rfl rfl ?_
    refine .cast (A' := [Box pwant [.int .i64 n_.kind, .int .i64 0, .int .i64 n_.fact, .int .i64 n_.yes, .int .i64 n_.no], Box pn [.int .i64 n_.kind, .int .i64 n_.op, .int .i64 n_.fact, .int .i64 n_.yes, .int .i64 n_.no], Box pt [.int .i64 t.facts, .slice at_ t.init.length ct, .slice at_2 t.goal.length ct2, .slice at_3 t.ops.length ct3]]) rfl ?_
    refine .nil ?_
    refine .jaN (M := [10, 5, 4]) (C' := []) (pre := []) [3, 6, 9] hL rfl rfl rfl rfl rfl (by kernel_rfl) ?_
    refine .last [(43, .pointer (some (pn.add 2))), (44, .int .i64 n_.fact), (45, .pointer (some (pn.add 3))), (46, .int .i64 n_.yes), (47, .pointer (some (pn.add 4))), (48, .int .i64 n_.no), (49, .pointer (some (pwant.add 2))), (50, .pointer (some (pwant.add 3))), (51, .pointer (some (pwant.add 4)))] rfl (by kernel_rfl) (.nil) rfl ?_
    refine .blkN ?_
    refine .sel0 [1, 0] (by decide) rfl ?_
    exact .use q21 (0, n_.fact, n_.yes, n_.no) hF (.cons rfl (.cons rfl (.cons rfl (.nil)))) rfl (FH.le_refl _)
  replace hF := hF.2 q40
  refine .seq ?_
  refine .region ?_
  refine .v (asg rfl) rfl rfl rfl ?_
  refine .nil ?_
  refine .seqN ?_
  refine .ret ?_
  refine .blkR ?_
  refine .seqR ?_
  refine .res1 rfl (rvT rfl) (fun w' S => ⟨4, hF, rfl, S.below⟩)

theorem c_nodeCode {h : FH} {w : World} (hs : Sub h w) (t : Task) (at_ : Option Addr) (ct : Nat) (_q1 : RSl h at_ t.init) (_q2 : t.init.length ≤ ct) (at_2 : Option Addr) (ct2 : Nat) (_q3 : RSl h at_2 t.goal) (_q4 : t.goal.length ≤ ct2) (at_3 : Option Addr) (ct3 : Nat) (_q5 : RSl h at_3 t.ops) (_q6 : t.ops.length ≤ ct3) (sensors : List Int) (asensors : Option Addr) (csensors : Nat) (_q7 : RSl h asensors sensors) (_q8 : sensors.length ≤ csensors) (n_ : TNode) (i : Int) (hp : pre_nodeCode t sensors n_ i) : Calls Tryz.prog 77 #[.agg #[.int .i64 t.facts, .slice at_ t.init.length ct, .slice at_2 t.goal.length ct2, .slice at_3 t.ops.length ct3], .slice asensors sensors.length csensors, .agg #[.int .i64 n_.kind, .int .i64 n_.op, .int .i64 n_.fact, .int .i64 n_.yes, .int .i64 n_.no], .int .i64 i] w fun e w' => e = .returned (.int .i64 (sp_nodeCode t sensors n_ i)) ∧ Below w.heap.size w w' :=
  (w_nodeCode hs t at_ ct _q1 _q2 at_2 ct2 _q3 _q4 at_3 ct3 _q5 _q6 sensors asensors csensors _q7 _q8 n_ i (fun r => r = sp_nodeCode t sensors n_ i) (ok_nodeCode t sensors n_ i hp)).mono fun _ _ ⟨_, hk, he, hb⟩ => ⟨by rw [he, hk], hb⟩

set_option maxHeartbeats 8000000 in
theorem w_cvalidate {h : FH} {w : World} (hs : Sub h w) (t : Task) (at_ : Option Addr) (ct : Nat) (_q1 : RSl h at_ t.init) (_q2 : t.init.length ≤ ct) (at_2 : Option Addr) (ct2 : Nat) (_q3 : RSl h at_2 t.goal) (_q4 : t.goal.length ≤ ct2) (at_3 : Option Addr) (ct3 : Nat) (_q5 : RSl h at_3 t.ops) (_q6 : t.ops.length ≤ ct3) (sensors : List Int) (asensors : Option Addr) (csensors : Nat) (_q7 : RSl h asensors sensors) (_q8 : sensors.length ≤ csensors) (tree : List TNode) (atree : Option Addr) (ctree : Nat) (_q9 : RSl h atree tree) (_q10 : tree.length ≤ ctree) (K : Fault → Prop) (hF : F_cvalidate t sensors tree K) : Calls Tryz.prog 40 #[.agg #[.int .i64 t.facts, .slice at_ t.init.length ct, .slice at_2 t.goal.length ct2, .slice at_3 t.ops.length ct3], .slice asensors sensors.length csensors, .slice atree tree.length ctree] w fun e w' => ∃ r : Fault, K r ∧ e = .returned (.agg #[.int .i64 r.code, .int .i64 r.index]) ∧ Below w.heap.size w w' := by
  refine enter (args := [.agg #[.int .i64 t.facts, .slice at_ t.init.length ct, .slice at_2 t.goal.length ct2, .slice at_3 t.ops.length ct3], .slice asensors sensors.length csensors, .slice atree tree.length ctree]) Tryz.func40 rfl Tryz.ntmps40 rfl hs ?_
  refine .seq ?_
  refine .region ?_
  refine bx (vs := [.int .i64 t.facts, .slice at_ t.init.length ct, .slice at_2 t.goal.length ct2, .slice at_3 t.ops.length ct3]) rfl rfl rfl (fun pt => ?_)
  refine al tZ27 rfl (fun pv => ?_)
  refine .nil ?_
  refine .seqN ?_
  refine .seq ?_
  refine .seq ?_
  refine .region ?_
  refine .v (ldA (cs := [.int .i64 t.facts, .slice at_ t.init.length ct, .slice at_2 t.goal.length ct2, .slice at_3 t.ops.length ct3]) rfl tA25 rfl (cellsB (off := 0) (k := 1) rfl (m := 4) rfl)) rfl rfl rfl ?_
  refine .v (mv rfl) rfl rfl rfl ?_
  obtain ⟨r2, q11⟩ : ∃ y_ : Fault, y_ = sp_ccheck t [] sensors := ⟨_, rfl⟩
  replace hF := hF r2 q11
  refine .c (cl (v := .agg #[.int .i64 r2.code, .int .i64 r2.index]) Tryz.call70 rfl rfl (fun w S => (by rw [q11]; exact c_ccheck S.sub t at_ ct _q1 _q2 at_2 ct2 _q3 _q4 at_3 ct3 _q5 _q6 [] none 0 RSl.nil_ (Nat.le_refl 0) sensors asensors csensors _q7 _q8 ))) rfl rfl rfl ?_
  refine al tZ27 rfl (fun pf => ?_)
  refine st (p := pf) (off := 0) (k := 0) (vs := [.int .i64 r2.code, .int .i64 r2.index]) rfl rfl rfl (fun w => (tA27 w).2) rfl rfl rfl rfl ?_
  refine .cast (A' := [Box pf [.int .i64 r2.code, .int .i64 r2.index], Box pv [.int .i64 0, .int .i64 0], Box pt [.int .i64 t.facts, .slice at_ t.init.length ct, .slice at_2 t.goal.length ct2, .slice at_3 t.ops.length ct3]]) rfl ?_
  refine .nil ?_
  refine .seqN ?_
  refine .seq ?_
  refine .region ?_
  refine .v (ldA (cs := [.int .i64 r2.code, .int .i64 r2.index]) rfl tA27 rfl (cellsB (off := 0) (k := 0) rfl (m := 2) rfl)) rfl rfl rfl ?_
  refine .v (bld (cs := #[.int .i64 0, .int .i64 0]) (pv := []) tB27 rfl rfl) rfl rfl rfl ?_
  refine .v (ne2 tE27 rfl rfl) rfl rfl rfl ?_
  refine .nil ?_
  refine .seqN ?_
  refine .cond rfl (fun q13 => ?_) (fun q13 => ?_)
  · replace hF := hF.1 q13
    refine .seq ?_
    refine .region ?_
    refine .v (ldA (cs := [.int .i64 r2.code, .int .i64 r2.index]) rfl tA27 rfl (cellsB (off := 0) (k := 0) rfl (m := 2) rfl)) rfl rfl rfl ?_
    refine st (p := pv) (off := 0) (k := 1) (vs := [.int .i64 r2.code, .int .i64 r2.index]) rfl rfl rfl (fun w => (tA27 w).2) rfl rfl rfl rfl ?_
    refine .cast (A' := [Box pf [.int .i64 r2.code, .int .i64 r2.index], Box pv [.int .i64 r2.code, .int .i64 r2.index], Box pt [.int .i64 t.facts, .slice at_ t.init.length ct, .slice at_2 t.goal.length ct2, .slice at_3 t.ops.length ct3]]) rfl ?_
    refine .nil ?_
    refine .seqN ?_
    refine .ret ?_
    refine .seqR ?_
    refine .res1 rfl (rvC rfl tA27 (k := 1) rfl rfl) (fun w' S => ⟨r2, hF, rfl, S.below⟩)
  replace hF := hF.2 q13
  refine .skip ?_
  refine .seqN ?_
  refine .seq ?_
  refine .share (σ := Bool) (fun z => F_cvalidate_J1 t sensors tree K z) (fun z => [(1, .slice asensors sensors.length csensors), (2, .slice atree tree.length ctree), (3, .pointer (some pt)), (6, .pointer (some pv)), (25, .bool z)]) (fun _ => [Box pt [.int .i64 t.facts, .slice at_ t.init.length ct, .slice at_2 t.goal.length ct2, .slice at_3 t.ops.length ct3], Box pv [.int .i64 0, .int .i64 0]]) (fun _ => h) ?_ (fun q15 => ?_)
  · rintro t25 hF
    show J _ _ _ _ _ [(1, .slice asensors sensors.length csensors), (2, .slice atree tree.length ctree), (3, .pointer (some pt)), (6, .pointer (some pv)), (25, .bool t25)] [Box pt [.int .i64 t.facts, .slice at_ t.init.length ct, .slice at_2 t.goal.length ct2, .slice at_3 t.ops.length ct3], Box pv [.int .i64 0, .int .i64 0]] h
    refine .cond rfl (fun q17 => ?_) (fun q17 => ?_)
    · replace hF := hF.1 q17
      refine .seq ?_
      refine .region ?_
      refine .v (bld (cs := #[.int .i64 9, .int .i64 (-1)]) (pv := [(0, .int .i64 9), (1, .int .i64 (-1))]) tB27 rfl rfl) rfl rfl rfl ?_
      refine st (p := pv) (off := 0) (k := 1) (vs := [.int .i64 9, .int .i64 (-1)]) rfl rfl rfl (fun w => (tA27 w).2) rfl rfl rfl rfl ?_
      refine .cast (A' := [Box pt [.int .i64 t.facts, .slice at_ t.init.length ct, .slice at_2 t.goal.length ct2, .slice at_3 t.ops.length ct3], Box pv [.int .i64 9, .int .i64 (-1)]]) rfl ?_
      refine .nil ?_
      refine .seqN ?_
      refine .ret ?_
      refine .seqR ?_
      refine .res1 rfl (rvC rfl tA27 (k := 1) rfl rfl) (fun w' S => ⟨(⟨9, (-1)⟩ : Fault), hF, rfl, S.below⟩)
    replace hF := hF.2 q17
    refine .skip ?_
    refine .seqN ?_
    refine .seq ?_
    refine .seq ?_
    refine .region ?_
    refine .v (mv rfl) rfl rfl rfl ?_
    refine .v (ln rfl tS60.is) rfl rfl rfl ?_
    refine .v (mv rfl) rfl rfl rfl ?_
    refine .nil ?_
    refine .seqN ?_
    refine .block ?_
    obtain ⟨I1, μ1, q95, q96⟩ := hF
    refine .loop' (σ := Int) (fun z => I1 z) (fun z => μ1 z) (fun z => [(1, .slice asensors sensors.length csensors), (3, .pointer (some pt)), (6, .pointer (some pv)), (27, .slice atree tree.length ctree), (28, .int .i64 ((tree.length : Nat) : Int)), (29, .int .i64 z)]) (fun _ => [Box pt [.int .i64 t.facts, .slice at_ t.init.length ct, .slice at_2 t.goal.length ct2, .slice at_3 t.ops.length ct3], Box pv [.int .i64 0, .int .i64 0]]) (fun _ => h) 0 q95 (.cons rfl (.cons rfl (.cons rfl (.cons rfl (.cons rfl (.cons rfl (.nil))))))) rfl (FH.le_refl _) ?_
    rintro t29 q95
    have hF := q96 t29 q95
    show J _ _ _ _ _ [(1, .slice asensors sensors.length csensors), (3, .pointer (some pt)), (6, .pointer (some pv)), (27, .slice atree tree.length ctree), (28, .int .i64 ((tree.length : Nat) : Int)), (29, .int .i64 t29)] [Box pt [.int .i64 t.facts, .slice at_ t.init.length ct, .slice at_2 t.goal.length ct2, .slice at_3 t.ops.length ct3], Box pv [.int .i64 0, .int .i64 0]] h
    refine .seq ?_
    refine .region ?_
    refine .v (bi rfl rfl rfl) rfl rfl rfl ?_
    refine .nil ?_
    refine .seqN ?_
    refine .seq ?_
    refine .cond rfl (fun q99 => ?_) (fun q99 => ?_)
    · replace hF := hF.1 q99
      refine .skip ?_
      refine .seqN ?_
      refine .seq ?_
      refine .block ?_
      refine .seq ?_
      refine .region ?_
      refine .v (mv rfl) rfl rfl rfl ?_
      obtain ⟨q108, hF⟩ := hF
      refine .v (ix rfl rfl tS60 (_q9.ne (by decide) (inb_pos q108)) q108) rfl rfl rfl ?_
      refine .v (ldA (cs := [.int .i64 ((gt tree t29).kind), .int .i64 ((gt tree t29).op), .int .i64 ((gt tree t29).fact), .int .i64 ((gt tree t29).yes), .int .i64 ((gt tree t29).no)]) rfl tA102 rfl (cellsH (_q9.elemF q108 (by decide)))) rfl rfl rfl ?_
      refine al tZ102 rfl (fun pn => ?_)
      refine .v (asg rfl) rfl rfl rfl ?_
      refine st (p := pn) (off := 0) (k := 0) (vs := [.int .i64 ((gt tree t29).kind), .int .i64 ((gt tree t29).op), .int .i64 ((gt tree t29).fact), .int .i64 ((gt tree t29).yes), .int .i64 ((gt tree t29).no)]) rfl rfl rfl (fun w => (tA102 w).2) rfl rfl rfl rfl ?_
      refine .cast (A' := [Box pn [.int .i64 ((gt tree t29).kind), .int .i64 ((gt tree t29).op), .int .i64 ((gt tree t29).fact), .int .i64 ((gt tree t29).yes), .int .i64 ((gt tree t29).no)], Box pt [.int .i64 t.facts, .slice at_ t.init.length ct, .slice at_2 t.goal.length ct2, .slice at_3 t.ops.length ct3], Box pv [.int .i64 0, .int .i64 0]]) rfl ?_
      refine .nil ?_
      refine .seqN ?_
      refine .seq ?_
      refine .region ?_
      refine .v (ldA (cs := [.int .i64 t.facts, .slice at_ t.init.length ct, .slice at_2 t.goal.length ct2, .slice at_3 t.ops.length ct3]) rfl tA25 rfl (cellsB (off := 0) (k := 1) rfl (m := 4) rfl)) rfl rfl rfl ?_
      refine .v (mv rfl) rfl rfl rfl ?_
      refine .v (ldA (cs := [.int .i64 ((gt tree t29).kind), .int .i64 ((gt tree t29).op), .int .i64 ((gt tree t29).fact), .int .i64 ((gt tree t29).yes), .int .i64 ((gt tree t29).no)]) rfl tA102 rfl (cellsB (off := 0) (k := 0) rfl (m := 5) rfl)) rfl rfl rfl ?_
      refine .v (mv rfl) rfl rfl rfl ?_
      obtain ⟨q109, hF⟩ := hF
      obtain ⟨r3, q110⟩ : ∃ y_ : Int, y_ = sp_nodeCode t sensors (gt tree t29) t29 := ⟨_, rfl⟩
      replace hF := hF r3 q110
      refine .c (cl (v := .int .i64 r3) Tryz.call77 rfl rfl (fun w S => (by rw [q110]; exact c_nodeCode S.sub t at_ ct _q1 _q2 at_2 ct2 _q3 _q4 at_3 ct3 _q5 _q6 sensors asensors csensors _q7 _q8 (gt tree t29) t29 q109))) rfl rfl rfl ?_
      refine .v (asg rfl) rfl rfl rfl ?_
      refine .nil ?_
      refine .seqN ?_
      refine .seq ?_
      refine .region ?_
      refine .v (mv rfl) rfl rfl rfl ?_
      refine .v (bi rfl rfl rfl) rfl rfl rfl ?_
      refine .nil ?_
      refine .seqN ?_
      refine .cond rfl (fun q111 => ?_) (fun q111 => ?_)
      · replace hF := hF.1 q111
        refine .seq ?_
        refine .region ?_
        refine .v (mv rfl) rfl rfl rfl ?_
        refine .v (mv rfl) rfl rfl rfl ?_
        refine .v (bld (cs := #[.int .i64 r3, .int .i64 t29]) (pv := [(0, .int .i64 r3), (1, .int .i64 t29)]) tB27 rfl rfl) rfl rfl rfl ?_
        refine st (p := pv) (off := 0) (k := 2) (vs := [.int .i64 r3, .int .i64 t29]) rfl rfl rfl (fun w => (tA27 w).2) rfl rfl rfl rfl ?_
        refine .cast (A' := [Box pn [.int .i64 ((gt tree t29).kind), .int .i64 ((gt tree t29).op), .int .i64 ((gt tree t29).fact), .int .i64 ((gt tree t29).yes), .int .i64 ((gt tree t29).no)], Box pt [.int .i64 t.facts, .slice at_ t.init.length ct, .slice at_2 t.goal.length ct2, .slice at_3 t.ops.length ct3], Box pv [.int .i64 r3, .int .i64 t29]]) rfl ?_
        refine .nil ?_
        refine .seqN ?_
        refine .ret ?_
        refine .blkR ?_
        refine .seqR ?_
        refine .seqR ?_
        refine .blkR ?_
        refine .seqR ?_
        refine .res1 rfl (rvC rfl tA27 (k := 2) rfl rfl) (fun w' S => ⟨(⟨r3, t29⟩ : Fault), hF, rfl, S.below⟩)
      replace hF := hF.2 q111
      refine .skip ?_
      refine .blkN ?_
      refine .seqN ?_
      refine .region ?_
      refine .v (bi rfl rfl rfl) rfl rfl rfl ?_
      refine .v (mv rfl) rfl rfl rfl ?_
      refine .nil ?_
      refine .sel0 [1, 2] (by decide) rfl ?_
      exact .round (IntKind.i64.wrap (t29 + 1)) hF.1 hF.2 (.cons rfl (.cons rfl (.cons rfl (.cons rfl (.cons rfl (.cons rfl (.nil))))))) rfl (FH.le_refl _)
    replace hF := hF.2 q99
    refine .exit ?_
    refine .seqX ?_
    refine .seqX ?_
    refine .blkX ?_
    refine .seqN ?_
    refine .seq ?_
    refine .region ?_
    refine .v (bld (cs := #[.int .i64 0, .int .i64 0]) (pv := []) tB27 rfl rfl) rfl rfl rfl ?_
    refine st (p := pv) (off := 0) (k := 1) (vs := [.int .i64 0, .int .i64 0]) rfl rfl rfl (fun w => (tA27 w).2) rfl rfl rfl rfl ?_
    refine .cast (A' := [Box pt [.int .i64 t.facts, .slice at_ t.init.length ct, .slice at_2 t.goal.length ct2, .slice at_3 t.ops.length ct3], Box pv [.int .i64 0, .int .i64 0]]) rfl ?_
    refine .nil ?_
    refine .seqN ?_
    refine .ret ?_
    refine .res1 rfl (rvC rfl tA27 (k := 1) rfl rfl) (fun w' S => ⟨(⟨0, 0⟩ : Fault), hF, rfl, S.below⟩)
  refine .region ?_
  refine .v (mv rfl) rfl rfl rfl ?_
  refine .v (ln rfl tS60.is) rfl rfl rfl ?_
  refine .v (bi rfl rfl rfl) rfl rfl rfl ?_
  refine .v (mv rfl) rfl rfl rfl ?_
  rcases Bool.eq_false_or_eq_true (((tree.length : Nat) : Int) == 0) with q112 | q112
  · replace hF := hF.1 q112
    refine .gS rfl rfl rfl q112 rfl rfl ?_
    refine .gS rfl rfl rfl q112 rfl rfl ?_
    refine .gS rfl rfl rfl q112 rfl rfl ?_
    refine .v (pkT rfl q112 rfl) rfl rfl rfl ?_
    refine .nil ?_
    refine .sel0 [2, 1] (by decide) rfl ?_
    exact .use q15 true hF (.cons rfl (.cons rfl (.cons rfl (.cons rfl (.cons rfl (.nil)))))) rfl (FH.le_refl _)
  replace hF := hF.2 q112
  refine .gv (mv rfl) rfl rfl rfl q112 rfl rfl ?_
  refine .gv (ln rfl tS60.is) rfl rfl rfl q112 rfl rfl ?_
  refine .gv (bi rfl rfl rfl) rfl rfl rfl q112 rfl rfl ?_
  refine .v (pkF rfl q112 rfl) rfl rfl rfl ?_
  refine .nil ?_
  refine .sel0 [2, 1] (by decide) rfl ?_
  exact .use q15 (decide (60 < ((tree.length : Nat) : Int))) hF (.cons rfl (.cons rfl (.cons rfl (.cons rfl (.cons rfl (.nil)))))) rfl (FH.le_refl _)

theorem c_cvalidate {h : FH} {w : World} (hs : Sub h w) (t : Task) (at_ : Option Addr) (ct : Nat) (_q1 : RSl h at_ t.init) (_q2 : t.init.length ≤ ct) (at_2 : Option Addr) (ct2 : Nat) (_q3 : RSl h at_2 t.goal) (_q4 : t.goal.length ≤ ct2) (at_3 : Option Addr) (ct3 : Nat) (_q5 : RSl h at_3 t.ops) (_q6 : t.ops.length ≤ ct3) (sensors : List Int) (asensors : Option Addr) (csensors : Nat) (_q7 : RSl h asensors sensors) (_q8 : sensors.length ≤ csensors) (tree : List TNode) (atree : Option Addr) (ctree : Nat) (_q9 : RSl h atree tree) (_q10 : tree.length ≤ ctree) : Calls Tryz.prog 40 #[.agg #[.int .i64 t.facts, .slice at_ t.init.length ct, .slice at_2 t.goal.length ct2, .slice at_3 t.ops.length ct3], .slice asensors sensors.length csensors, .slice atree tree.length ctree] w fun e w' => e = .returned (.agg #[.int .i64 (sp_cvalidate t sensors tree).code, .int .i64 (sp_cvalidate t sensors tree).index]) ∧ Below w.heap.size w w' :=
  (w_cvalidate hs t at_ ct _q1 _q2 at_2 ct2 _q3 _q4 at_3 ct3 _q5 _q6 sensors asensors csensors _q7 _q8 tree atree ctree _q9 _q10 (fun r => r = sp_cvalidate t sensors tree) (ok_cvalidate t sensors tree)).mono fun _ _ ⟨_, hk, he, hb⟩ => ⟨by rw [he, hk], hb⟩

end Go.Proofs.YtojoehfldbimpaaGreatDoor.Pl

/- The walks: from what each function asks to what it does; printed from the code. No condition. -/
namespace Go.Proofs.YtojoehfldbimpaaGreatDoor.Pl
open Go Go.RowKit
set_option maxHeartbeats 8000000 in
theorem w_deep {h : FH} {w : World} (hs : Sub h w) (tree : List TNode) (atree : Option Addr) (ctree : Nat) (_q1 : RSl h atree tree) (_q2 : tree.length ≤ ctree) (K : Int → Prop) (hF : F_deep tree K) : Calls Tryz.prog 74 #[.slice atree tree.length ctree] w fun e w' => ∃ r : Int, K r ∧ e = .returned (.int .i64 r) ∧ Below w.heap.size w w' := by
  refine enter (args := [.slice atree tree.length ctree]) Tryz.func74 rfl Tryz.ntmps74 rfl hs ?_
  refine .seq ?_
  refine .region ?_
  refine .v (asg rfl) rfl rfl rfl ?_
  refine .nil ?_
  refine .seqN ?_
  refine .seq ?_
  refine .region ?_
  refine .v (mv rfl) rfl rfl rfl ?_
  refine .v (ln rfl tS60.is) rfl rfl rfl ?_
  obtain ⟨q3, hF⟩ := hF
  refine mk (m := (((tree.length : Nat) : Int)).toNat) (cs' := flL (List.replicate (((tree.length : Nat) : Int)).toNat (0 : Int))) tS22 rfl rfl (Int.toNat_of_nonneg q3.1).symm q3.2.1 q3.2.2 (flL_rep1 rfl _) rfl (fun a c => ?_)
  have q4 : (List.replicate (((tree.length : Nat) : Int)).toNat (0 : Int)).length = (((tree.length : Nat) : Int)).toNat := List.length_replicate
  refine .cast (A' := [OwnSl 3 1 a ((((tree.length : Nat) : Int)).toNat) c (flL (List.replicate (((tree.length : Nat) : Int)).toNat (0 : Int)))]) rfl ?_
  refine .v (asg rfl) rfl rfl rfl ?_
  refine .nil ?_
  refine .seqN ?_
  refine .seq ?_
  refine .seq ?_
  refine .region ?_
  refine .v (mv rfl) rfl rfl rfl ?_
  refine .v (ln rfl tS60.is) rfl rfl rfl ?_
  refine .v (mv rfl) rfl rfl rfl ?_
  refine .nil ?_
  refine .seqN ?_
  refine .block ?_
  obtain ⟨I1, μ1, q174, q175⟩ := hF
  refine .loop' (σ := Int × List Int) (fun z => I1 z.1 z.2 ∧ z.2.length = (((tree.length : Nat) : Int)).toNat) (fun z => μ1 z.1 z.2) (fun z => [(3, .slice a ((((tree.length : Nat) : Int)).toNat) c), (9, .slice atree tree.length ctree), (10, .int .i64 ((tree.length : Nat) : Int)), (11, .int .i64 z.1)]) (fun z => [OwnSl 3 1 a ((((tree.length : Nat) : Int)).toNat) c (flL z.2)]) (fun _ => h) (0, (List.replicate (((tree.length : Nat) : Int)).toNat (0 : Int))) ⟨q174, q4⟩ (.cons rfl (.cons rfl (.cons rfl (.cons rfl (.nil))))) rfl (FH.le_refl _) ?_
  rintro ⟨t11, d⟩ ⟨q174, q141⟩
  have hF := q175 t11 d q174
  show J _ _ _ _ _ [(3, .slice a ((((tree.length : Nat) : Int)).toNat) c), (9, .slice atree tree.length ctree), (10, .int .i64 ((tree.length : Nat) : Int)), (11, .int .i64 t11)] [OwnSl 3 1 a ((((tree.length : Nat) : Int)).toNat) c (flL d)] h
  refine .seq ?_
  refine .region ?_
  refine .v (bi rfl rfl rfl) rfl rfl rfl ?_
  refine .nil ?_
  refine .seqN ?_
  refine .seq ?_
  refine .cond rfl (fun q178 => ?_) (fun q178 => ?_)
  · replace hF := hF.1 q178
    refine .skip ?_
    refine .seqN ?_
    refine .share (σ := List Int) (fun z => F_deep_J1 d z t11 I1 μ1 ∧ z.length = (((tree.length : Nat) : Int)).toNat) (fun _ => [(3, .slice a ((((tree.length : Nat) : Int)).toNat) c), (9, .slice atree tree.length ctree), (10, .int .i64 ((tree.length : Nat) : Int)), (11, .int .i64 t11)]) (fun z => [OwnSl 3 1 a ((((tree.length : Nat) : Int)).toNat) c (flL z)]) (fun _ => h) ?_ (fun q193 => ?_)
    · rintro d3 ⟨hF, q192⟩
      show J _ _ _ _ _ [(3, .slice a ((((tree.length : Nat) : Int)).toNat) c), (9, .slice atree tree.length ctree), (10, .int .i64 ((tree.length : Nat) : Int)), (11, .int .i64 t11)] [OwnSl 3 1 a ((((tree.length : Nat) : Int)).toNat) c (flL d3)] h
      refine .region ?_
      refine .v (bi rfl rfl rfl) rfl rfl rfl ?_
      refine .v (mv rfl) rfl rfl rfl ?_
      refine .nil ?_
      exact .round (IntKind.i64.wrap (t11 + 1), d3) ⟨hF.1, q192⟩ hF.2 (.cons rfl (.cons rfl (.cons rfl (.cons rfl (.nil))))) rfl (FH.le_refl _)
    refine .block ?_
    refine .seq ?_
    refine .region ?_
    refine .v (mv rfl) rfl rfl rfl ?_
    obtain ⟨q194, hF⟩ := hF
    refine .v (ix rfl rfl tS60 (_q1.ne (by decide) (inb_pos q194)) q194) rfl rfl rfl ?_
    refine .v (ldA (cs := [.int .i64 ((gt tree t11).kind), .int .i64 ((gt tree t11).op), .int .i64 ((gt tree t11).fact), .int .i64 ((gt tree t11).yes), .int .i64 ((gt tree t11).no)]) rfl tA102 rfl (cellsH (_q1.elemF q194 (by decide)))) rfl rfl rfl ?_
    refine al tZ102 rfl (fun pn => ?_)
    refine .v (asg rfl) rfl rfl rfl ?_
    refine st (p := pn) (off := 0) (k := 0) (vs := [.int .i64 ((gt tree t11).kind), .int .i64 ((gt tree t11).op), .int .i64 ((gt tree t11).fact), .int .i64 ((gt tree t11).yes), .int .i64 ((gt tree t11).no)]) rfl rfl rfl (fun w => (tA102 w).2) rfl rfl rfl rfl ?_
    refine .cast (A' := [Box pn [.int .i64 ((gt tree t11).kind), .int .i64 ((gt tree t11).op), .int .i64 ((gt tree t11).fact), .int .i64 ((gt tree t11).yes), .int .i64 ((gt tree t11).no)], OwnSl 3 1 a ((((tree.length : Nat) : Int)).toNat) c (flL d)]) rfl ?_
    refine .nil ?_
    refine .seqN ?_
    refine .seq ?_
    refine .region ?_
    refine .v (fa rfl tF102_0) rfl rfl rfl ?_
    refine .v (ld1 rfl tO3 (cellB (off := 0) (k := 0) rfl rfl)) rfl rfl rfl ?_
    refine .nil ?_
    refine .seqN ?_
    refine .block ?_
    refine .seq ?_
    refine .region ?_
    refine .v (bi rfl rfl rfl) rfl rfl rfl ?_
    refine .v (asg rfl) rfl rfl rfl ?_
    refine .nil ?_
    refine .seqN ?_
    refine .cond rfl (fun q195 => ?_) (fun q195 => ?_)
    · replace hF := hF.1 q195
      refine .region ?_
      refine .v (mv rfl) rfl rfl rfl ?_
      refine .v (mv rfl) rfl rfl rfl ?_
      refine .v (mv rfl) rfl rfl rfl ?_
      refine .v (fa rfl tF102_3) rfl rfl rfl ?_
      refine .v (ld1 rfl tO3 (cellB (off := 3) (k := 0) rfl rfl)) rfl rfl rfl ?_
      obtain ⟨q196, hF⟩ := hF
      refine .v (ixS rfl rfl tS22 (k := 1) rfl (inb_n q196 q141)) rfl rfl rfl ?_
      refine .v (ld1 (v := .int .i64 (gt d ((gt tree t11).yes))) rfl tO3 (cellS (k := 1) rfl (flL_get q196 (j := 0) rfl))) rfl rfl rfl ?_
      refine .v (bi rfl rfl rfl) rfl rfl rfl ?_
      obtain ⟨q197, hF⟩ := hF
      refine .v (ixS rfl rfl tS22 (k := 1) rfl (inb_n q197 q141)) rfl rfl rfl ?_
      obtain ⟨d4, q198⟩ : ∃ y_ : List Int, y_ = (d.set (t11).toNat (IntKind.i64.wrap (1 + (gt d ((gt tree t11).yes))))) := ⟨_, rfl⟩
      replace hF := hF d4 q198
      refine stS (k := 1) (cs' := flL d4) rfl (fun _ => rfl) rfl rfl (fun w => (tO3 w).2) rfl rfl rfl (by rw [← q141]; exact inb_pos q197) (fl_room q197) (by rw [q198]; exact flL_set q197 (IntKind.i64.wrap (1 + (gt d ((gt tree t11).yes))))) ?_
      have q199 : d4.length = (((tree.length : Nat) : Int)).toNat := by rw [q198]; exact List.length_set.trans q141
      refine .cast (A' := [Box pn [.int .i64 ((gt tree t11).kind), .int .i64 ((gt tree t11).op), .int .i64 ((gt tree t11).fact), .int .i64 ((gt tree t11).yes), .int .i64 ((gt tree t11).no)], OwnSl 3 1 a ((((tree.length : Nat) : Int)).toNat) c (flL d4)]) rfl ?_
      refine .nil ?_
      refine .blkN ?_
      refine .blkN ?_
      refine .sel0 [1] (by decide) rfl ?_
      exact .use q193 d4 ⟨hF, q199⟩ (.cons rfl (.cons rfl (.cons rfl (.cons rfl (.nil))))) rfl (FH.le_refl _)
    replace hF := hF.2 q195
    refine .seq ?_
    refine .region ?_
    refine .v (bi rfl rfl rfl) rfl rfl rfl ?_
    refine .v (asg rfl) rfl rfl rfl ?_
    refine .nil ?_
    refine .seqN ?_
    refine .cond rfl (fun q200 => ?_) (fun q200 => ?_)
    · replace hF := hF.1 q200
      refine .openL (by kernel_rfl) rfl (by kernel_rfl) (by kernel_rfl) ?_
      refine .v (mv rfl) rfl rfl rfl ?_
      refine .v (mv rfl) rfl rfl rfl ?_
      refine .v (mv rfl) rfl rfl rfl ?_
      refine .v (fa rfl tF102_3) rfl rfl rfl ?_
      refine .v (ld1 rfl tO3 (cellB (off := 3) (k := 0) rfl rfl)) rfl rfl rfl ?_
      obtain ⟨q201, hF⟩ := hF
      refine .v (ixS rfl rfl tS22 (k := 1) rfl (inb_n q201 q141)) rfl rfl rfl ?_
      refine .v (ld1 (v := .int .i64 (gt d ((gt tree t11).yes))) rfl tO3 (cellS (k := 1) rfl (flL_get q201 (j := 0) rfl))) rfl rfl rfl ?_
      refine .v (mv rfl) rfl rfl rfl ?_
      refine .v (fa rfl tF102_4) rfl rfl rfl ?_
      refine .v (ld1 rfl tO3 (cellB (off := 4) (k := 0) rfl rfl)) rfl rfl rfl ?_
      obtain ⟨q202, hF⟩ := hF
      refine .v (ixS rfl rfl tS22 (k := 1) rfl (inb_n q202 q141)) rfl rfl rfl ?_
      refine .v (ld1 (v := .int .i64 (gt d ((gt tree t11).no))) rfl tO3 (cellS (k := 1) rfl (flL_get q202 (j := 0) rfl))) rfl rfl rfl ?_
      obtain ⟨x, q203⟩ : ∃ y_ : Int, y_ = (if (gt d ((gt tree t11).yes)) < (gt d ((gt tree t11).no)) then (gt d ((gt tree t11).no)) else (gt d ((gt tree t11).yes))) := ⟨_, rfl⟩
      replace hF := hF x q203
      refine .v (v := .int .i64 x) (by rw [q203]; exact mx rfl rfl) rfl rfl rfl ?_
      refine .v (bi rfl rfl rfl) rfl rfl rfl ?_
      obtain ⟨q204, hF⟩ := hF
      refine .v (ixS rfl rfl tS22 (k := 1) rfl (inb_n q204 q141)) rfl rfl rfl ?_
      refine .tail ?_
      obtain ⟨d5, q205⟩ : ∃ y_ : List Int, y_ = (d.set (t11).toNat (IntKind.i64.wrap (1 + x))) := ⟨_, rfl⟩
      replace hF := hF d5 q205
      refine stS (k := 1) (cs' := flL d5) rfl (fun _ => rfl) rfl rfl (fun w => (tO3 w).2) rfl rfl rfl (by rw [← q141]; exact inb_pos q204) (fl_room q204) (by rw [q205]; exact flL_set q204 (IntKind.i64.wrap (1 + x))) ?_
      have q206 : d5.length = (((tree.length : Nat) : Int)).toNat := by rw [q205]; exact List.length_set.trans q141
      refine .cast (A' := [Box pn [.int .i64 ((gt tree t11).kind), .int .i64 ((gt tree t11).op), .int .i64 ((gt tree t11).fact), .int .i64 ((gt tree t11).yes), .int .i64 ((gt tree t11).no)], OwnSl 3 1 a ((((tree.length : Nat) : Int)).toNat) c (flL d5)]) rfl ?_
      refine .nil ?_
      refine .blkN ?_
      refine .blkN ?_
      refine .sel0 [1] (by decide) rfl ?_
      exact .use q193 d5 ⟨hF, q206⟩ (.cons rfl (.cons rfl (.cons rfl (.cons rfl (.nil))))) rfl (FH.le_refl _)
    replace hF := hF.2 q200
    refine .skip ?_
    refine .blkN ?_
    refine .blkN ?_
    refine .sel0 [1] (by decide) rfl ?_
    exact .use q193 d ⟨hF, q141⟩ (.cons rfl (.cons rfl (.cons rfl (.cons rfl (.nil))))) rfl (FH.le_refl _)
  replace hF := hF.2 q178
  refine .exit ?_
  refine .seqX ?_
  refine .seqX ?_
  refine .blkX ?_
  refine .seqN ?_
  refine .seq ?_
  refine .region ?_
  refine .v (mv rfl) rfl rfl rfl ?_
  refine .v (mv rfl) rfl rfl rfl ?_
  refine .v (ln rfl tS22.is) rfl rfl rfl ?_
  obtain ⟨x2, q207⟩ : ∃ y_ : Int, y_ = (IntKind.i64.wrap ((((((tree.length : Nat) : Int)).toNat : Nat) : Int) - 1)) := ⟨_, rfl⟩
  replace hF := hF x2 q207
  refine .v (v := .int .i64 x2) (by rw [q207]; exact bi rfl rfl rfl) rfl rfl rfl ?_
  obtain ⟨q208, hF⟩ := hF
  refine .v (ixS rfl rfl tS22 (k := 0) rfl (inb_n q208 q141)) rfl rfl rfl ?_
  refine .v (ld1 (v := .int .i64 (gt d x2)) rfl tO3 (cellS (k := 0) rfl (flL_get q208 (j := 0) rfl))) rfl rfl rfl ?_
  refine .v (asg rfl) rfl rfl rfl ?_
  refine .nil ?_
  refine .seqN ?_
  refine .ret ?_
  refine .res1 rfl (rvT rfl) (fun w' S => ⟨(gt d x2), hF, rfl, S.below⟩)

theorem c_deep {h : FH} {w : World} (hs : Sub h w) (tree : List TNode) (atree : Option Addr) (ctree : Nat) (_q1 : RSl h atree tree) (_q2 : tree.length ≤ ctree) (hp : pre_deep tree) : Calls Tryz.prog 74 #[.slice atree tree.length ctree] w fun e w' => e = .returned (.int .i64 (sp_deep tree)) ∧ Below w.heap.size w w' :=
  (w_deep hs tree atree ctree _q1 _q2 (fun r => r = sp_deep tree) (ok_deep tree hp)).mono fun _ _ ⟨_, hk, he, hb⟩ => ⟨by rw [he, hk], hb⟩

theorem w_depth {h : FH} {w : World} (hs : Sub h w) (t : Task) (at_ : Option Addr) (ct : Nat) (_q1 : RSl h at_ t.init) (_q2 : t.init.length ≤ ct) (at_2 : Option Addr) (ct2 : Nat) (_q3 : RSl h at_2 t.goal) (_q4 : t.goal.length ≤ ct2) (at_3 : Option Addr) (ct3 : Nat) (_q5 : RSl h at_3 t.ops) (_q6 : t.ops.length ≤ ct3) (sensors : List Int) (asensors : Option Addr) (csensors : Nat) (_q7 : RSl h asensors sensors) (_q8 : sensors.length ≤ csensors) (tree : List TNode) (atree : Option Addr) (ctree : Nat) (_q9 : RSl h atree tree) (_q10 : tree.length ≤ ctree) (K : (Int × Fault) → Prop) (hF : F_depth t sensors tree K) : Calls Tryz.prog 37 #[.agg #[.int .i64 t.facts, .slice at_ t.init.length ct, .slice at_2 t.goal.length ct2, .slice at_3 t.ops.length ct3], .slice asensors sensors.length csensors, .slice atree tree.length ctree] w fun e w' => ∃ r : Int × Fault, K r ∧ e = .returned (.tuple #[.int .i64 r.1, .agg #[.int .i64 r.2.code, .int .i64 r.2.index]]) ∧ Below w.heap.size w w' := by
  refine enter (args := [.agg #[.int .i64 t.facts, .slice at_ t.init.length ct, .slice at_2 t.goal.length ct2, .slice at_3 t.ops.length ct3], .slice asensors sensors.length csensors, .slice atree tree.length ctree]) Tryz.func37 rfl Tryz.ntmps37 rfl hs ?_
  refine .seq ?_
  refine .region ?_
  refine bx (vs := [.int .i64 t.facts, .slice at_ t.init.length ct, .slice at_2 t.goal.length ct2, .slice at_3 t.ops.length ct3]) rfl rfl rfl (fun pt => ?_)
  refine .v (asg rfl) rfl rfl rfl ?_
  refine al tZ27 rfl (fun pv => ?_)
  refine .nil ?_
  refine .seqN ?_
  refine .seq ?_
  refine .seq ?_
  refine .region ?_
  refine .v (ldA (cs := [.int .i64 t.facts, .slice at_ t.init.length ct, .slice at_2 t.goal.length ct2, .slice at_3 t.ops.length ct3]) rfl tA25 rfl (cellsB (off := 0) (k := 1) rfl (m := 4) rfl)) rfl rfl rfl ?_
  refine .v (mv rfl) rfl rfl rfl ?_
  refine .v (mv rfl) rfl rfl rfl ?_
  obtain ⟨r2, q11⟩ : ∃ y_ : Fault, y_ = sp_cvalidate t sensors tree := ⟨_, rfl⟩
  replace hF := hF r2 q11
  refine .c (cl (v := .agg #[.int .i64 r2.code, .int .i64 r2.index]) Tryz.call40 rfl rfl (fun w S => (by rw [q11]; exact c_cvalidate S.sub t at_ ct _q1 _q2 at_2 ct2 _q3 _q4 at_3 ct3 _q5 _q6 sensors asensors csensors _q7 _q8 tree atree ctree _q9 _q10 ))) rfl rfl rfl ?_
  refine al tZ27 rfl (fun pf => ?_)
  refine st (p := pf) (off := 0) (k := 0) (vs := [.int .i64 r2.code, .int .i64 r2.index]) rfl rfl rfl (fun w => (tA27 w).2) rfl rfl rfl rfl ?_
  refine .cast (A' := [Box pf [.int .i64 r2.code, .int .i64 r2.index], Box pv [.int .i64 0, .int .i64 0], Box pt [.int .i64 t.facts, .slice at_ t.init.length ct, .slice at_2 t.goal.length ct2, .slice at_3 t.ops.length ct3]]) rfl ?_
  refine .nil ?_
  refine .seqN ?_
  refine .seq ?_
  refine .region ?_
  refine .v (ldA (cs := [.int .i64 r2.code, .int .i64 r2.index]) rfl tA27 rfl (cellsB (off := 0) (k := 0) rfl (m := 2) rfl)) rfl rfl rfl ?_
  refine .v (bld (cs := #[.int .i64 0, .int .i64 0]) (pv := []) tB27 rfl rfl) rfl rfl rfl ?_
  refine .v (ne2 tE27 rfl rfl) rfl rfl rfl ?_
  refine .nil ?_
  refine .seqN ?_
  refine .cond rfl (fun q13 => ?_) (fun q13 => ?_)
  · replace hF := hF.1 q13
    refine .seq ?_
    refine .openL (by kernel_rfl) rfl (by kernel_rfl) (by kernel_rfl) ?_
    refine .v (ldA (cs := [.int .i64 r2.code, .int .i64 r2.index]) rfl tA27 rfl (cellsB (off := 0) (k := 0) rfl (m := 2) rfl)) rfl rfl rfl ?_
    refine .v (asg rfl) rfl rfl rfl ?_
    refine .tail ?_
    refine st (p := pv) (off := 0) (k := 1) (vs := [.int .i64 r2.code, .int .i64 r2.index]) rfl rfl rfl (fun w => (tA27 w).2) rfl rfl rfl rfl ?_
    refine .cast (A' := [Box pf [.int .i64 r2.code, .int .i64 r2.index], Box pv [.int .i64 r2.code, .int .i64 r2.index], Box pt [.int .i64 t.facts, .slice at_ t.init.length ct, .slice at_2 t.goal.length ct2, .slice at_3 t.ops.length ct3]]) rfl ?_
    refine .nil ?_
    refine .seqN ?_
    refine .ret ?_
    refine .seqR ?_
    refine .res2 rfl (rvT rfl) (rvC rfl tA27 (k := 1) rfl rfl) (fun w' S => ⟨(0, r2), hF, rfl, S.below⟩)
  replace hF := hF.2 q13
  refine .skip ?_
  refine .seqN ?_
  refine .seq ?_
  refine .region ?_
  refine .v (mv rfl) rfl rfl rfl ?_
  obtain ⟨q14, hF⟩ := hF
  obtain ⟨r3, q15⟩ : ∃ y_ : Int, y_ = sp_deep tree := ⟨_, rfl⟩
  replace hF := hF r3 q15
  refine .c (cl (v := .int .i64 r3) Tryz.call74 rfl rfl (fun w S => (by rw [q15]; exact c_deep S.sub tree atree ctree _q9 _q10 q14))) rfl rfl rfl ?_
  refine .v (bld (cs := #[.int .i64 0, .int .i64 0]) (pv := []) tB27 rfl rfl) rfl rfl rfl ?_
  refine .v (asg rfl) rfl rfl rfl ?_
  refine st (p := pv) (off := 0) (k := 1) (vs := [.int .i64 0, .int .i64 0]) rfl rfl rfl (fun w => (tA27 w).2) rfl rfl rfl rfl ?_
  refine .cast (A' := [Box pf [.int .i64 r2.code, .int .i64 r2.index], Box pv [.int .i64 0, .int .i64 0], Box pt [.int .i64 t.facts, .slice at_ t.init.length ct, .slice at_2 t.goal.length ct2, .slice at_3 t.ops.length ct3]]) rfl ?_
  refine .nil ?_
  refine .seqN ?_
  refine .ret ?_
  refine .res2 rfl (rvT rfl) (rvC rfl tA27 (k := 1) rfl rfl) (fun w' S => ⟨(r3, (⟨0, 0⟩ : Fault)), hF, rfl, S.below⟩)

theorem c_depth {h : FH} {w : World} (hs : Sub h w) (t : Task) (at_ : Option Addr) (ct : Nat) (_q1 : RSl h at_ t.init) (_q2 : t.init.length ≤ ct) (at_2 : Option Addr) (ct2 : Nat) (_q3 : RSl h at_2 t.goal) (_q4 : t.goal.length ≤ ct2) (at_3 : Option Addr) (ct3 : Nat) (_q5 : RSl h at_3 t.ops) (_q6 : t.ops.length ≤ ct3) (sensors : List Int) (asensors : Option Addr) (csensors : Nat) (_q7 : RSl h asensors sensors) (_q8 : sensors.length ≤ csensors) (tree : List TNode) (atree : Option Addr) (ctree : Nat) (_q9 : RSl h atree tree) (_q10 : tree.length ≤ ctree) : Calls Tryz.prog 37 #[.agg #[.int .i64 t.facts, .slice at_ t.init.length ct, .slice at_2 t.goal.length ct2, .slice at_3 t.ops.length ct3], .slice asensors sensors.length csensors, .slice atree tree.length ctree] w fun e w' => e = .returned (.tuple #[.int .i64 (sp_depth t sensors tree).1, .agg #[.int .i64 (sp_depth t sensors tree).2.code, .int .i64 (sp_depth t sensors tree).2.index]]) ∧ Below w.heap.size w w' :=
  (w_depth hs t at_ ct _q1 _q2 at_2 ct2 _q3 _q4 at_3 ct3 _q5 _q6 sensors asensors csensors _q7 _q8 tree atree ctree _q9 _q10 (fun r => r = sp_depth t sensors tree) (ok_depth t sensors tree)).mono fun _ _ ⟨_, hk, he, hb⟩ => ⟨by rw [he, hk], hb⟩

set_option maxHeartbeats 8000000 in
theorem w_crun {h : FH} {w : World} (hs : Sub h w) (t : Task) (at_ : Option Addr) (ct : Nat) (_q1 : RSl h at_ t.init) (_q2 : t.init.length ≤ ct) (at_2 : Option Addr) (ct2 : Nat) (_q3 : RSl h at_2 t.goal) (_q4 : t.goal.length ≤ ct2) (at_3 : Option Addr) (ct3 : Nat) (_q5 : RSl h at_3 t.ops) (_q6 : t.ops.length ≤ ct3) (tree : List TNode) (atree : Option Addr) (ctree : Nat) (_q7 : RSl h atree tree) (_q8 : tree.length ≤ ctree) (s_ : List Int) (as_ : Option Addr) (cs_ : Nat) (_q9 : RSl h as_ s_) (_q10 : s_.length ≤ cs_) (K : (List Int × Bool) → Prop) (hF : F_crun t tree s_ K) : Calls Tryz.prog 75 #[.agg #[.int .i64 t.facts, .slice at_ t.init.length ct, .slice at_2 t.goal.length ct2, .slice at_3 t.ops.length ct3], .slice atree tree.length ctree, .slice as_ s_.length cs_] w fun e w' => ∃ (r : List Int × Bool) (z : Option Addr × Nat) (h1 : FH), K r ∧ e = .returned (.tuple #[.slice z.1 r.1.length z.2, .bool r.2]) ∧ FH.le h h1 ∧ (RSl h1 z.1 r.1 ∧ r.1.length ≤ z.2) ∧ SH (Kp.all w h) h1 w' [] := by
  refine enter (args := [.agg #[.int .i64 t.facts, .slice at_ t.init.length ct, .slice at_2 t.goal.length ct2, .slice at_3 t.ops.length ct3], .slice atree tree.length ctree, .slice as_ s_.length cs_]) Tryz.func75 rfl Tryz.ntmps75 rfl hs ?_
  refine .seq ?_
  refine .region ?_
  refine bx (vs := [.int .i64 t.facts, .slice at_ t.init.length ct, .slice at_2 t.goal.length ct2, .slice at_3 t.ops.length ct3]) rfl rfl rfl (fun pt => ?_)
  refine .v (asg rfl) rfl rfl rfl ?_
  refine .v (asg rfl) rfl rfl rfl ?_
  refine .nil ?_
  refine .seqN ?_
  refine .seq ?_
  refine .region ?_
  refine .v (asg rfl) rfl rfl rfl ?_
  refine .nil ?_
  refine .seqN ?_
  refine .seq ?_
  refine .seq ?_
  refine .region ?_
  refine .v (mv rfl) rfl rfl rfl ?_
  refine .v (mv rfl) rfl rfl rfl ?_
  refine .v (ln rfl tS60.is) rfl rfl rfl ?_
  refine .v (bi rfl rfl rfl) rfl rfl rfl ?_
  obtain ⟨q11, hF⟩ := hF
  refine .v (ix rfl rfl tS60 (_q7.ne (by decide) (inb_pos q11)) q11) rfl rfl rfl ?_
  refine .v (ldA (cs := [.int .i64 ((gt tree (IntKind.i64.wrap (((tree.length : Nat) : Int) - 1))).kind), .int .i64 ((gt tree (IntKind.i64.wrap (((tree.length : Nat) : Int) - 1))).op), .int .i64 ((gt tree (IntKind.i64.wrap (((tree.length : Nat) : Int) - 1))).fact), .int .i64 ((gt tree (IntKind.i64.wrap (((tree.length : Nat) : Int) - 1))).yes), .int .i64 ((gt tree (IntKind.i64.wrap (((tree.length : Nat) : Int) - 1))).no)]) rfl tA102 rfl (cellsH (_q7.elemF q11 (by decide)))) rfl rfl rfl ?_
  refine al tZ102 rfl (fun pn => ?_)
  refine st (p := pn) (off := 0) (k := 0) (vs := [.int .i64 ((gt tree (IntKind.i64.wrap (((tree.length : Nat) : Int) - 1))).kind), .int .i64 ((gt tree (IntKind.i64.wrap (((tree.length : Nat) : Int) - 1))).op), .int .i64 ((gt tree (IntKind.i64.wrap (((tree.length : Nat) : Int) - 1))).fact), .int .i64 ((gt tree (IntKind.i64.wrap (((tree.length : Nat) : Int) - 1))).yes), .int .i64 ((gt tree (IntKind.i64.wrap (((tree.length : Nat) : Int) - 1))).no)]) rfl rfl rfl (fun w => (tA102 w).2) rfl rfl rfl rfl ?_
  refine .cast (A' := [Box pn [.int .i64 ((gt tree (IntKind.i64.wrap (((tree.length : Nat) : Int) - 1))).kind), .int .i64 ((gt tree (IntKind.i64.wrap (((tree.length : Nat) : Int) - 1))).op), .int .i64 ((gt tree (IntKind.i64.wrap (((tree.length : Nat) : Int) - 1))).fact), .int .i64 ((gt tree (IntKind.i64.wrap (((tree.length : Nat) : Int) - 1))).yes), .int .i64 ((gt tree (IntKind.i64.wrap (((tree.length : Nat) : Int) - 1))).no)], Box pt [.int .i64 t.facts, .slice at_ t.init.length ct, .slice at_2 t.goal.length ct2, .slice at_3 t.ops.length ct3]]) rfl ?_
  refine .nil ?_
  refine .seqN ?_
  refine .block ?_
  refine .nilSl 3 1 ?_
  refine .cast (A' := [OwnSl 3 1 none (([] : List Int).length) 0 (flL ([] : List Int)), Box pn [.int .i64 ((gt tree (IntKind.i64.wrap (((tree.length : Nat) : Int) - 1))).kind), .int .i64 ((gt tree (IntKind.i64.wrap (((tree.length : Nat) : Int) - 1))).op), .int .i64 ((gt tree (IntKind.i64.wrap (((tree.length : Nat) : Int) - 1))).fact), .int .i64 ((gt tree (IntKind.i64.wrap (((tree.length : Nat) : Int) - 1))).yes), .int .i64 ((gt tree (IntKind.i64.wrap (((tree.length : Nat) : Int) - 1))).no)], Box pt [.int .i64 t.facts, .slice at_ t.init.length ct, .slice at_2 t.goal.length ct2, .slice at_3 t.ops.length ct3]]) rfl ?_
  refine .sel0 [2, 0, 1] (by decide) rfl ?_
  obtain ⟨I1, μ1, q314, q315⟩ := hF
  refine .loop' (σ := List Int × List Int × Int × Int × Int × Int × Int × Option Addr × Nat × Option Addr × Nat × Addr × FH) (fun z => I1 z.1 z.2.1 z.2.2.1 z.2.2.2.1 z.2.2.2.2.1 z.2.2.2.2.2.1 z.2.2.2.2.2.2.1 ∧ RSl z.2.2.2.2.2.2.2.2.2.2.2.2 z.2.2.2.2.2.2.2.1 z.1 ∧ z.1.length ≤ z.2.2.2.2.2.2.2.2.1 ∧ FH.le h z.2.2.2.2.2.2.2.2.2.2.2.2) (fun z => μ1 z.1 z.2.1 z.2.2.1 z.2.2.2.1 z.2.2.2.2.1 z.2.2.2.2.2.1 z.2.2.2.2.2.2.1) (fun z => [(1, .slice atree tree.length ctree), (2, .slice z.2.2.2.2.2.2.2.1 z.1.length z.2.2.2.2.2.2.2.2.1), (3, .pointer (some pt)), (8, .slice z.2.2.2.2.2.2.2.2.2.1 z.2.1.length z.2.2.2.2.2.2.2.2.2.2.1), (9, .pointer (some z.2.2.2.2.2.2.2.2.2.2.2.1))]) (fun z => [Box pt [.int .i64 t.facts, .slice at_ t.init.length ct, .slice at_2 t.goal.length ct2, .slice at_3 t.ops.length ct3], OwnSl 3 1 z.2.2.2.2.2.2.2.2.2.1 z.2.1.length z.2.2.2.2.2.2.2.2.2.2.1 (flL z.2.1), Box z.2.2.2.2.2.2.2.2.2.2.2.1 [.int .i64 z.2.2.1, .int .i64 z.2.2.2.1, .int .i64 z.2.2.2.2.1, .int .i64 z.2.2.2.2.2.1, .int .i64 z.2.2.2.2.2.2.1]]) (fun z => z.2.2.2.2.2.2.2.2.2.2.2.2) (s_, ([] : List Int), (gt tree (IntKind.i64.wrap (((tree.length : Nat) : Int) - 1))).kind, (gt tree (IntKind.i64.wrap (((tree.length : Nat) : Int) - 1))).op, (gt tree (IntKind.i64.wrap (((tree.length : Nat) : Int) - 1))).fact, (gt tree (IntKind.i64.wrap (((tree.length : Nat) : Int) - 1))).yes, (gt tree (IntKind.i64.wrap (((tree.length : Nat) : Int) - 1))).no, as_, cs_, none, 0, pn, h) ⟨q314, _q9, _q10, (FH.le_refl _)⟩ (.cons rfl (.cons rfl (.cons rfl (.cons rfl (.cons rfl (.nil)))))) rfl (FH.le_refl _) ?_
  rintro ⟨s_2, out, x, x2, x3, x4, x5, as2, cs, aout, cout, p, h23⟩ ⟨q314, q254, q255, q256⟩
  have hF := q315 s_2 out x x2 x3 x4 x5 q314
  show J _ _ _ _ _ [(1, .slice atree tree.length ctree), (2, .slice as2 s_2.length cs), (3, .pointer (some pt)), (8, .slice aout out.length cout), (9, .pointer (some p))] [Box pt [.int .i64 t.facts, .slice at_ t.init.length ct, .slice at_2 t.goal.length ct2, .slice at_3 t.ops.length ct3], OwnSl 3 1 aout out.length cout (flL out), Box p [.int .i64 x, .int .i64 x2, .int .i64 x3, .int .i64 x4, .int .i64 x5]] h23
  refine .seq ?_
  refine .seq ?_
  refine .region ?_
  refine .v (fa rfl tF102_0) rfl rfl rfl ?_
  refine .v (ld1 rfl tO3 (cellB (off := 0) (k := 2) rfl rfl)) rfl rfl rfl ?_
  refine .v (bi rfl rfl rfl) rfl rfl rfl ?_
  refine .nil ?_
  refine .seqN ?_
  refine .cond rfl (fun q317 => ?_) (fun q317 => ?_)
  · replace hF := hF.1 q317
    refine .skip ?_
    refine .seqN ?_
    refine .share (σ := List Int × List Int × Int × Int × Int × Int × Int × Option Addr × Nat × Option Addr × Nat × FH) (fun z => F_crun_J1 x x2 x3 s_2 out x4 x5 I1 μ1 z.1 z.2.1 z.2.2.1 z.2.2.2.1 z.2.2.2.2.1 z.2.2.2.2.2.1 z.2.2.2.2.2.2.1 ∧ RSl z.2.2.2.2.2.2.2.2.2.2.2 z.2.2.2.2.2.2.2.1 z.1 ∧ z.1.length ≤ z.2.2.2.2.2.2.2.2.1 ∧ FH.le h23 z.2.2.2.2.2.2.2.2.2.2.2) (fun z => [(1, .slice atree tree.length ctree), (2, .slice z.2.2.2.2.2.2.2.1 z.1.length z.2.2.2.2.2.2.2.2.1), (3, .pointer (some pt)), (8, .slice z.2.2.2.2.2.2.2.2.2.1 z.2.1.length z.2.2.2.2.2.2.2.2.2.2.1), (9, .pointer (some p))]) (fun z => [Box pt [.int .i64 t.facts, .slice at_ t.init.length ct, .slice at_2 t.goal.length ct2, .slice at_3 t.ops.length ct3], OwnSl 3 1 z.2.2.2.2.2.2.2.2.2.1 z.2.1.length z.2.2.2.2.2.2.2.2.2.2.1 (flL z.2.1), Box p [.int .i64 z.2.2.1, .int .i64 z.2.2.2.1, .int .i64 z.2.2.2.2.1, .int .i64 z.2.2.2.2.2.1, .int .i64 z.2.2.2.2.2.2.1]]) (fun z => z.2.2.2.2.2.2.2.2.2.2.2) ?_ (fun q345 => ?_)
    · rintro ⟨s_4, out3, x11, x12, x13, x14, x15, as4, cs3, aout3, cout3, h32⟩ ⟨hF, q342, q343, q344⟩
      show J _ _ _ _ _ [(1, .slice atree tree.length ctree), (2, .slice as4 s_4.length cs3), (3, .pointer (some pt)), (8, .slice aout3 out3.length cout3), (9, .pointer (some p))] [Box pt [.int .i64 t.facts, .slice at_ t.init.length ct, .slice at_2 t.goal.length ct2, .slice at_3 t.ops.length ct3], OwnSl 3 1 aout3 out3.length cout3 (flL out3), Box p [.int .i64 x11, .int .i64 x12, .int .i64 x13, .int .i64 x14, .int .i64 x15]] h32
      refine .seq ?_
      refine .region ?_
      refine .v (ldA (cs := [.int .i64 x11, .int .i64 x12, .int .i64 x13, .int .i64 x14, .int .i64 x15]) rfl tA102 rfl (cellsB (off := 0) (k := 2) rfl (m := 5) rfl)) rfl rfl rfl ?_
      refine .nil ?_
      refine .seqN ?_
      refine .region ?_
      refine al tZ102 rfl (fun pn2 => ?_)
      refine st (p := pn2) (off := 0) (k := 0) (vs := [.int .i64 x11, .int .i64 x12, .int .i64 x13, .int .i64 x14, .int .i64 x15]) rfl rfl rfl (fun w => (tA102 w).2) rfl rfl rfl rfl ?_
      refine .cast (A' := [Box pn2 [.int .i64 x11, .int .i64 x12, .int .i64 x13, .int .i64 x14, .int .i64 x15], Box pt [.int .i64 t.facts, .slice at_ t.init.length ct, .slice at_2 t.goal.length ct2, .slice at_3 t.ops.length ct3], OwnSl 3 1 aout3 out3.length cout3 (flL out3), Box p [.int .i64 x11, .int .i64 x12, .int .i64 x13, .int .i64 x14, .int .i64 x15]]) rfl ?_
      refine .nil ?_
      refine .sel0 [1, 2, 0] (by decide) rfl ?_
      exact .round (s_4, out3, x11, x12, x13, x14, x15, as4, cs3, aout3, cout3, pn2, h32) ⟨hF.1, q342, q343, (FH.le_trans (q256) (q344))⟩ hF.2 (.cons rfl (.cons rfl (.cons rfl (.cons rfl (.cons rfl (.nil)))))) rfl (FH.le_refl _)
    refine .block ?_
    refine .block ?_
    refine .share (σ := Bool) (fun z => F_crun_J2 t tree K x x2 z x3 s_2 out x4 x5 I1 μ1) (fun z => [(1, .slice atree tree.length ctree), (2, .slice as2 s_2.length cs), (3, .pointer (some pt)), (8, .slice aout out.length cout), (9, .pointer (some p)), (24, .bool z)]) (fun _ => [Box pt [.int .i64 t.facts, .slice at_ t.init.length ct, .slice at_2 t.goal.length ct2, .slice at_3 t.ops.length ct3], OwnSl 3 1 aout out.length cout (flL out), Box p [.int .i64 x, .int .i64 x2, .int .i64 x3, .int .i64 x4, .int .i64 x5]]) (fun _ => h23) ?_ (fun q349 => ?_)
    · rintro t24 hF
      show J _ _ _ _ _ [(1, .slice atree tree.length ctree), (2, .slice as2 s_2.length cs), (3, .pointer (some pt)), (8, .slice aout out.length cout), (9, .pointer (some p)), (24, .bool t24)] [Box pt [.int .i64 t.facts, .slice at_ t.init.length ct, .slice at_2 t.goal.length ct2, .slice at_3 t.ops.length ct3], OwnSl 3 1 aout out.length cout (flL out), Box p [.int .i64 x, .int .i64 x2, .int .i64 x3, .int .i64 x4, .int .i64 x5]] h23
      refine .cond rfl (fun q350 => ?_) (fun q350 => ?_)
      · replace hF := hF.1 q350
        refine .seq ?_
        refine .region ?_
        refine .v (mv rfl) rfl rfl rfl ?_
        refine .v (asg rfl) rfl rfl rfl ?_
        refine .v (asg rfl) rfl rfl rfl ?_
        refine .nil ?_
        refine .seqN ?_
        refine .freezeL (k := 1) rfl (fun h33 le33 q352 q351 => ?_)
        refine .cast (A' := [Box pt [.int .i64 t.facts, .slice at_ t.init.length ct, .slice at_2 t.goal.length ct2, .slice at_3 t.ops.length ct3], tru, Box p [.int .i64 x, .int .i64 x2, .int .i64 x3, .int .i64 x4, .int .i64 x5]]) rfl ?_
        refine .ret ?_
        refine .blkR ?_
        refine .blkR ?_
        refine .seqR ?_
        refine .seqR ?_
        refine .blkR ?_
        refine .seqR ?_
        refine .res2 rfl (rvT rfl) (rvT rfl) (fun w' S => ⟨(out, false), (aout, cout), h33, hF, rfl, (FH.le_trans (q256) (le33)), ⟨(RSl.of q351), (q352)⟩, S.none⟩)
      replace hF := hF.2 q350
      refine .seq ?_
      refine .region ?_
      refine .v (fa rfl tF102_0) rfl rfl rfl ?_
      refine .v (ld1 rfl tO3 (cellB (off := 0) (k := 2) rfl rfl)) rfl rfl rfl ?_
      refine .v (bi rfl rfl rfl) rfl rfl rfl ?_
      refine .v (asg rfl) rfl rfl rfl ?_
      refine .nil ?_
      refine .seqN ?_
      refine .cond rfl (fun q353 => ?_) (fun q353 => ?_)
      · replace hF := hF.1 q353
        refine .seq ?_
        refine .region ?_
        refine .v (mv rfl) rfl rfl rfl ?_
        refine .v (fa rfl tF102_1) rfl rfl rfl ?_
        refine .v (ld1 rfl tO3 (cellB (off := 1) (k := 2) rfl rfl)) rfl rfl rfl ?_
        refine bs2 (cs := #[.int .i64 x2]) (pv := [(0, .int .i64 x2)]) tS22 rfl rfl (by decide) (by decide) rfl rfl rfl (fun a _ => ?_)
        refine .cast (A' := [OwnSl 3 1 a (([x2] : List Int).length) 1 (flL ([x2] : List Int)), Box pt [.int .i64 t.facts, .slice at_ t.init.length ct, .slice at_2 t.goal.length ct2, .slice at_3 t.ops.length ct3], OwnSl 3 1 aout out.length cout (flL out), Box p [.int .i64 x, .int .i64 x2, .int .i64 x3, .int .i64 x4, .int .i64 x5]]) rfl ?_
        obtain ⟨q355, hF⟩ := hF
        have q356 : out.length + ([x2] : List Int).length = ((out ++ ([x2] : List Int))).length := len_app rfl rfl
        refine app (k := 2) (news := flL ([x2] : List Int)) (cs' := flL (out ++ ([x2] : List Int))) (nm := ((out ++ ([x2] : List Int))).length) tS22 rfl (by decide) rfl rfl rfl (by rw [flL_len]; rfl) (srcS (k := 0) rfl) (flL_one _) (room_of q356 q355).1 (room_of q356 q355).2 q356 (flL_append _ _).symm rfl (fun a2 c => ?_)
        refine .cast (A' := [OwnSl 3 1 a (([x2] : List Int).length) 1 (flL ([x2] : List Int)), Box pt [.int .i64 t.facts, .slice at_ t.init.length ct, .slice at_2 t.goal.length ct2, .slice at_3 t.ops.length ct3], OwnSl 3 1 a2 ((out ++ ([x2] : List Int)).length) c (flL (out ++ ([x2] : List Int))), Box p [.int .i64 x, .int .i64 x2, .int .i64 x3, .int .i64 x4, .int .i64 x5]]) rfl ?_
        refine .v (asg rfl) rfl rfl rfl ?_
        refine .nil ?_
        refine .seqN ?_
        refine .seq ?_
        refine .region ?_
        refine .v (ldA (cs := [.int .i64 t.facts, .slice at_ t.init.length ct, .slice at_2 t.goal.length ct2, .slice at_3 t.ops.length ct3]) rfl tA25 rfl (cellsB (off := 0) (k := 1) rfl (m := 4) rfl)) rfl rfl rfl ?_
        refine .v (mv rfl) rfl rfl rfl ?_
        refine .v (fa rfl tF102_1) rfl rfl rfl ?_
        refine .v (ld1 rfl tO3 (cellB (off := 1) (k := 3) rfl rfl)) rfl rfl rfl ?_
        obtain ⟨q357, hF⟩ := hF
        obtain ⟨r2, q358⟩ : ∃ y_ : List Int, y_ = sp_after t s_2 x2 := ⟨_, rfl⟩
        replace hF := hF r2 q358
        refine clR (α := Option Addr × Nat) (Φ := fun h1 z => RSl h1 z.1 r2 ∧ r2.length ≤ z.2) (V := fun z => .slice z.1 r2.length z.2) Tryz.call93 rfl rfl (fun w S => (by rw [q358]; exact c_next S.sub t at_ ct (_q1.mono (q256)) _q2 at_2 ct2 (_q3.mono (q256)) _q4 at_3 ct3 (_q5.mono (q256)) _q6 s_2 as2 cs q254 q255 x2 q357)) rfl (fun z h34 le34 hz => ?_)
        obtain ⟨a3, c2⟩ := z
        obtain ⟨q359, q360⟩ := hz
        refine .v (asg rfl) rfl rfl rfl ?_
        refine .nil ?_
        refine .seqN ?_
        refine .region ?_
        refine .v (mv rfl) rfl rfl rfl ?_
        refine .v (fa rfl tF102_3) rfl rfl rfl ?_
        refine .v (ld1 rfl tO3 (cellB (off := 3) (k := 3) rfl rfl)) rfl rfl rfl ?_
        obtain ⟨q361, hF⟩ := hF
        refine .v (ix rfl rfl tS60 (_q7.ne (by decide) (inb_pos q361)) q361) rfl rfl rfl ?_
        refine .v (ldA (cs := [.int .i64 ((gt tree x4).kind), .int .i64 ((gt tree x4).op), .int .i64 ((gt tree x4).fact), .int .i64 ((gt tree x4).yes), .int .i64 ((gt tree x4).no)]) rfl tA102 rfl (cellsH ((_q7.mono (FH.le_trans (q256) (le34))).elemF q361 (by decide)))) rfl rfl rfl ?_
        refine st (p := p) (off := 0) (k := 3) (vs := [.int .i64 ((gt tree x4).kind), .int .i64 ((gt tree x4).op), .int .i64 ((gt tree x4).fact), .int .i64 ((gt tree x4).yes), .int .i64 ((gt tree x4).no)]) rfl rfl rfl (fun w => (tA102 w).2) rfl rfl rfl rfl ?_
        refine .cast (A' := [OwnSl 3 1 a (([x2] : List Int).length) 1 (flL ([x2] : List Int)), Box pt [.int .i64 t.facts, .slice at_ t.init.length ct, .slice at_2 t.goal.length ct2, .slice at_3 t.ops.length ct3], OwnSl 3 1 a2 ((out ++ ([x2] : List Int)).length) c (flL (out ++ ([x2] : List Int))), Box p [.int .i64 ((gt tree x4).kind), .int .i64 ((gt tree x4).op), .int .i64 ((gt tree x4).fact), .int .i64 ((gt tree x4).yes), .int .i64 ((gt tree x4).no)]]) rfl ?_
        refine .nil ?_
        refine .blkN ?_
        refine .blkN ?_
        refine .sel0 [1, 2, 3] (by decide) rfl ?_
        exact .use q345 (r2, (out ++ ([x2] : List Int)), (gt tree x4).kind, (gt tree x4).op, (gt tree x4).fact, (gt tree x4).yes, (gt tree x4).no, a3, c2, a2, c, h34) ⟨hF, q359, q360, (le34)⟩ (.cons rfl (.cons rfl (.cons rfl (.cons rfl (.cons rfl (.nil)))))) rfl (FH.le_refl _)
      replace hF := hF.2 q353
      refine .seq ?_
      refine .region ?_
      refine .v (mv rfl) rfl rfl rfl ?_
      refine .v (fa rfl tF102_2) rfl rfl rfl ?_
      refine .v (ld1 rfl tO3 (cellB (off := 2) (k := 2) rfl rfl)) rfl rfl rfl ?_
      obtain ⟨q362, hF⟩ := hF
      obtain ⟨r3, q363⟩ : ∃ y_ : Bool, y_ = sp_contains s_2 x3 := ⟨_, rfl⟩
      replace hF := hF r3 q363
      refine .c (cl (v := .bool r3) Tryz.call101 rfl rfl (fun w S => (by rw [q363]; exact c_contains S.sub s_2 as2 cs q254 q255 x3 q362))) rfl rfl rfl ?_
      refine .v (asg rfl) rfl rfl rfl ?_
      refine .nil ?_
      refine .seqN ?_
      refine .cond rfl (fun q364 => ?_) (fun q364 => ?_)
      · replace hF := hF.1 q364
        refine .region ?_
        refine .v (mv rfl) rfl rfl rfl ?_
        refine .v (fa rfl tF102_3) rfl rfl rfl ?_
        refine .v (ld1 rfl tO3 (cellB (off := 3) (k := 2) rfl rfl)) rfl rfl rfl ?_
        obtain ⟨q365, hF⟩ := hF
        refine .v (ix rfl rfl tS60 (_q7.ne (by decide) (inb_pos q365)) q365) rfl rfl rfl ?_
        refine .v (ldA (cs := [.int .i64 ((gt tree x4).kind), .int .i64 ((gt tree x4).op), .int .i64 ((gt tree x4).fact), .int .i64 ((gt tree x4).yes), .int .i64 ((gt tree x4).no)]) rfl tA102 rfl (cellsH ((_q7.mono (q256)).elemF q365 (by decide)))) rfl rfl rfl ?_
        refine st (p := p) (off := 0) (k := 2) (vs := [.int .i64 ((gt tree x4).kind), .int .i64 ((gt tree x4).op), .int .i64 ((gt tree x4).fact), .int .i64 ((gt tree x4).yes), .int .i64 ((gt tree x4).no)]) rfl rfl rfl (fun w => (tA102 w).2) rfl rfl rfl rfl ?_
        refine .cast (A' := [Box pt [.int .i64 t.facts, .slice at_ t.init.length ct, .slice at_2 t.goal.length ct2, .slice at_3 t.ops.length ct3], OwnSl 3 1 aout out.length cout (flL out), Box p [.int .i64 ((gt tree x4).kind), .int .i64 ((gt tree x4).op), .int .i64 ((gt tree x4).fact), .int .i64 ((gt tree x4).yes), .int .i64 ((gt tree x4).no)]]) rfl ?_
        refine .nil ?_
        refine .blkN ?_
        refine .blkN ?_
        exact .use q345 (s_2, out, (gt tree x4).kind, (gt tree x4).op, (gt tree x4).fact, (gt tree x4).yes, (gt tree x4).no, as2, cs, aout, cout, h23) ⟨hF, q254, q255, (FH.le_refl _)⟩ (.cons rfl (.cons rfl (.cons rfl (.cons rfl (.cons rfl (.nil)))))) rfl (FH.le_refl _)
      replace hF := hF.2 q364
      refine .region ?_
      refine .v (mv rfl) rfl rfl rfl ?_
      refine .v (fa rfl tF102_4) rfl rfl rfl ?_
      refine .v (ld1 rfl tO3 (cellB (off := 4) (k := 2) rfl rfl)) rfl rfl rfl ?_
      obtain ⟨q366, hF⟩ := hF
      refine .v (ix rfl rfl tS60 (_q7.ne (by decide) (inb_pos q366)) q366) rfl rfl rfl ?_
      refine .v (ldA (cs := [.int .i64 ((gt tree x5).kind), .int .i64 ((gt tree x5).op), .int .i64 ((gt tree x5).fact), .int .i64 ((gt tree x5).yes), .int .i64 ((gt tree x5).no)]) rfl tA102 rfl (cellsH ((_q7.mono (q256)).elemF q366 (by decide)))) rfl rfl rfl ?_
      refine st (p := p) (off := 0) (k := 2) (vs := [.int .i64 ((gt tree x5).kind), .int .i64 ((gt tree x5).op), .int .i64 ((gt tree x5).fact), .int .i64 ((gt tree x5).yes), .int .i64 ((gt tree x5).no)]) rfl rfl rfl (fun w => (tA102 w).2) rfl rfl rfl rfl ?_
      refine .cast (A' := [Box pt [.int .i64 t.facts, .slice at_ t.init.length ct, .slice at_2 t.goal.length ct2, .slice at_3 t.ops.length ct3], OwnSl 3 1 aout out.length cout (flL out), Box p [.int .i64 ((gt tree x5).kind), .int .i64 ((gt tree x5).op), .int .i64 ((gt tree x5).fact), .int .i64 ((gt tree x5).yes), .int .i64 ((gt tree x5).no)]]) rfl ?_
      refine .nil ?_
      refine .blkN ?_
      refine .blkN ?_
      exact .use q345 (s_2, out, (gt tree x5).kind, (gt tree x5).op, (gt tree x5).fact, (gt tree x5).yes, (gt tree x5).no, as2, cs, aout, cout, h23) ⟨hF, q254, q255, (FH.le_refl _)⟩ (.cons rfl (.cons rfl (.cons rfl (.cons rfl (.cons rfl (.nil)))))) rfl (FH.le_refl _)
    refine .region ?_
    refine .v (fa rfl tF102_0) rfl rfl rfl ?_
    refine .v (ld1 rfl tO3 (cellB (off := 0) (k := 2) rfl rfl)) rfl rfl rfl ?_
    refine .v (bi rfl rfl rfl) rfl rfl rfl ?_
    refine .v (mv rfl) rfl rfl rfl ?_
    rcases Bool.eq_false_or_eq_true (x == 2) with q367 | q367
    · replace hF := hF.1 q367
      refine .gv (ldA (cs := [.int .i64 t.facts, .slice at_ t.init.length ct, .slice at_2 t.goal.length ct2, .slice at_3 t.ops.length ct3]) rfl tA25 rfl (cellsB (off := 0) (k := 0) rfl (m := 4) rfl)) rfl rfl rfl q367 rfl rfl ?_
      refine .gv (mv rfl) rfl rfl rfl q367 rfl rfl ?_
      refine .gv (fa rfl tF102_1) rfl rfl rfl q367 rfl rfl ?_
      refine .gv (ld1 rfl tO3 (cellB (off := 1) (k := 2) rfl rfl)) rfl rfl rfl q367 rfl rfl ?_
      obtain ⟨q368, hF⟩ := hF
      obtain ⟨r4, q369⟩ : ∃ y_ : Bool, y_ = sp_applies t s_2 x2 := ⟨_, rfl⟩
      replace hF := hF r4 q369
      refine .gc (cl (v := .bool r4) Tryz.call100 rfl rfl (fun w S => (by rw [q369]; exact c_can S.sub t at_ ct (_q1.mono (q256)) _q2 at_2 ct2 (_q3.mono (q256)) _q4 at_3 ct3 (_q5.mono (q256)) _q6 s_2 as2 cs q254 q255 x2 q368))) rfl rfl rfl q367 rfl rfl ?_
      refine .gv (nt rfl) rfl rfl rfl q367 rfl rfl ?_
      refine .v (pkT rfl q367 rfl) rfl rfl rfl ?_
      refine .v (asg rfl) rfl rfl rfl ?_
      refine .nil ?_
      exact .use q349 (!r4) hF (.cons rfl (.cons rfl (.cons rfl (.cons rfl (.cons rfl (.cons rfl (.nil))))))) rfl (FH.le_refl _)
    replace hF := hF.2 q367
    refine .gS rfl rfl rfl q367 rfl rfl ?_
    refine .gS rfl rfl rfl q367 rfl rfl ?_
    refine .gS rfl rfl rfl q367 rfl rfl ?_
    refine .gS rfl rfl rfl q367 rfl rfl ?_
    refine .gS rfl rfl rfl q367 rfl rfl ?_
    refine .gS rfl rfl rfl q367 rfl rfl ?_
    refine .v (pkF rfl q367 rfl) rfl rfl rfl ?_
    refine .v (asg rfl) rfl rfl rfl ?_
    refine .nil ?_
    exact .use q349 false hF (.cons rfl (.cons rfl (.cons rfl (.cons rfl (.cons rfl (.cons rfl (.nil))))))) rfl (FH.le_refl _)
  replace hF := hF.2 q317
  refine .exit ?_
  refine .seqX ?_
  refine .seqX ?_
  refine .blkX ?_
  refine .seqN ?_
  refine .seq ?_
  refine .region ?_
  refine .v (mv rfl) rfl rfl rfl ?_
  refine .v (mv rfl) rfl rfl rfl ?_
  refine .v (fa rfl tF25_2) rfl rfl rfl ?_
  refine .v (ld1 rfl tO22 (cellB (off := 2) (k := 0) rfl rfl)) rfl rfl rfl ?_
  obtain ⟨q370, hF⟩ := hF
  obtain ⟨r5, q371⟩ : ∃ y_ : Bool, y_ = sp_contains2 s_2 t.goal := ⟨_, rfl⟩
  replace hF := hF r5 q371
  refine .c (cl (v := .bool r5) Tryz.call88 rfl rfl (fun w S => (by rw [q371]; exact c_contains2 S.sub s_2 as2 cs q254 q255 t.goal at_2 ct2 (_q3.mono (q256)) _q4 q370))) rfl rfl rfl ?_
  refine .v (asg rfl) rfl rfl rfl ?_
  refine .v (asg rfl) rfl rfl rfl ?_
  refine .nil ?_
  refine .seqN ?_
  refine .freezeL (k := 1) rfl (fun h35 le35 q373 q372 => ?_)
  refine .cast (A' := [Box pt [.int .i64 t.facts, .slice at_ t.init.length ct, .slice at_2 t.goal.length ct2, .slice at_3 t.ops.length ct3], tru, Box p [.int .i64 x, .int .i64 x2, .int .i64 x3, .int .i64 x4, .int .i64 x5]]) rfl ?_
  refine .ret ?_
  refine .res2 rfl (rvT rfl) (rvT rfl) (fun w' S => ⟨(out, r5), (aout, cout), h35, hF, rfl, (FH.le_trans (q256) (le35)), ⟨(RSl.of q372), (q373)⟩, S.none⟩)

theorem c_crun {h : FH} {w : World} (hs : Sub h w) (t : Task) (at_ : Option Addr) (ct : Nat) (_q1 : RSl h at_ t.init) (_q2 : t.init.length ≤ ct) (at_2 : Option Addr) (ct2 : Nat) (_q3 : RSl h at_2 t.goal) (_q4 : t.goal.length ≤ ct2) (at_3 : Option Addr) (ct3 : Nat) (_q5 : RSl h at_3 t.ops) (_q6 : t.ops.length ≤ ct3) (tree : List TNode) (atree : Option Addr) (ctree : Nat) (_q7 : RSl h atree tree) (_q8 : tree.length ≤ ctree) (s_ : List Int) (as_ : Option Addr) (cs_ : Nat) (_q9 : RSl h as_ s_) (_q10 : s_.length ≤ cs_) (hp : pre_crun t tree s_) : Calls Tryz.prog 75 #[.agg #[.int .i64 t.facts, .slice at_ t.init.length ct, .slice at_2 t.goal.length ct2, .slice at_3 t.ops.length ct3], .slice atree tree.length ctree, .slice as_ s_.length cs_] w fun e w' => ∃ (z : Option Addr × Nat) (h1 : FH), e = .returned (.tuple #[.slice z.1 (sp_crun t tree s_).1.length z.2, .bool (sp_crun t tree s_).2]) ∧ FH.le h h1 ∧ (RSl h1 z.1 (sp_crun t tree s_).1 ∧ (sp_crun t tree s_).1.length ≤ z.2) ∧ SH (Kp.all w h) h1 w' [] :=
  (w_crun hs t at_ ct _q1 _q2 at_2 ct2 _q3 _q4 at_3 ct3 _q5 _q6 tree atree ctree _q7 _q8 s_ as_ cs_ _q9 _q10 (fun r => r = sp_crun t tree s_) (ok_crun t tree s_ hp)).mono fun _ _ ⟨r, z, h1, hk, he, hl, hf, hS⟩ => by subst hk; exact ⟨z, h1, he, hl, hf, hS⟩

theorem w_split {h : FH} {w : World} (hs : Sub h w) (worlds : List (List Int)) (aworlds : Option Addr) (cworlds : Nat) (_q1 : RSl h aworlds worlds) (_q2 : worlds.length ≤ cworlds) (fact : Int) (K : (List (List Int) × List (List Int)) → Prop) (hF : F_split worlds fact K) : Calls Tryz.prog 97 #[.slice aworlds worlds.length cworlds, .int .i64 fact] w fun e w' => ∃ (r : List (List Int) × List (List Int)) (z : Option Addr × Nat × Option Addr × Nat) (h1 : FH), K r ∧ e = .returned (.tuple #[.slice z.1 r.1.length z.2.1, .slice z.2.2.1 r.2.length z.2.2.2]) ∧ FH.le h h1 ∧ (RSl h1 z.1 r.1 ∧ r.1.length ≤ z.2.1 ∧ RSl h1 z.2.2.1 r.2 ∧ r.2.length ≤ z.2.2.2) ∧ SH (Kp.all w h) h1 w' [] := by
  refine enter (args := [.slice aworlds worlds.length cworlds, .int .i64 fact]) Tryz.func97 rfl Tryz.ntmps97 rfl hs ?_
  refine .seq ?_
  refine .region ?_
  refine .v (asg rfl) rfl rfl rfl ?_
  refine .v (asg rfl) rfl rfl rfl ?_
  refine .nil ?_
  refine .seqN ?_
  refine .seq ?_
  refine .seq ?_
  refine .region ?_
  refine .v (mv rfl) rfl rfl rfl ?_
  refine .v (ln rfl tS35.is) rfl rfl rfl ?_
  refine .v (mv rfl) rfl rfl rfl ?_
  refine .nil ?_
  refine .seqN ?_
  refine .block ?_
  refine .nilSl 22 1 ?_
  refine .cast (A' := [OwnSl 22 1 none (([] : List (List Int)).length) 0 []]) rfl ?_
  refine .nilSl 22 1 ?_
  refine .cast (A' := [OwnSl 22 1 none (([] : List (List Int)).length) 0 [], OwnSl 22 1 none (([] : List (List Int)).length) 0 []]) rfl ?_
  refine .sel0 [1, 0] (by decide) rfl ?_
  obtain ⟨I1, μ1, q201, q202⟩ := hF
  refine .loop' (σ := Int × List (List Int) × List (List Int) × Option Addr × Nat × List Value × Option Addr × Nat × List Value) (fun z => I1 z.1 z.2.1 z.2.2.1 ∧ RepL h z.2.1 z.2.2.2.2.2.1 ∧ RepL h z.2.2.1 z.2.2.2.2.2.2.2.2) (fun z => μ1 z.1 z.2.1 z.2.2.1) (fun z => [(1, .int .i64 fact), (4, .slice z.2.2.2.1 z.2.1.length z.2.2.2.2.1), (5, .slice z.2.2.2.2.2.2.1 z.2.2.1.length z.2.2.2.2.2.2.2.1), (8, .slice aworlds worlds.length cworlds), (9, .int .i64 ((worlds.length : Nat) : Int)), (10, .int .i64 z.1)]) (fun z => [OwnSl 22 1 z.2.2.2.1 z.2.1.length z.2.2.2.2.1 z.2.2.2.2.2.1, OwnSl 22 1 z.2.2.2.2.2.2.1 z.2.2.1.length z.2.2.2.2.2.2.2.1 z.2.2.2.2.2.2.2.2]) (fun _ => h) (0, ([] : List (List Int)), ([] : List (List Int)), none, 0, [], none, 0, []) ⟨q201, (show RepL h ([] : List (List Int)) [] from rfl), (show RepL h ([] : List (List Int)) [] from rfl)⟩ (.cons rfl (.cons rfl (.cons rfl (.cons rfl (.cons rfl (.cons rfl (.nil))))))) rfl (FH.le_refl _) ?_
  rintro ⟨t10, yes, no, ayes, cyes, csyes, ano, cno, csno⟩ ⟨q201, q161, q162⟩
  have hF := q202 t10 yes no q201
  show J _ _ _ _ _ [(1, .int .i64 fact), (4, .slice ayes yes.length cyes), (5, .slice ano no.length cno), (8, .slice aworlds worlds.length cworlds), (9, .int .i64 ((worlds.length : Nat) : Int)), (10, .int .i64 t10)] [OwnSl 22 1 ayes yes.length cyes csyes, OwnSl 22 1 ano no.length cno csno] h
  refine .seq ?_
  refine .region ?_
  refine .v (bi rfl rfl rfl) rfl rfl rfl ?_
  refine .nil ?_
  refine .seqN ?_
  refine .seq ?_
  refine .cond rfl (fun q205 => ?_) (fun q205 => ?_)
  · replace hF := hF.1 q205
    refine .skip ?_
    refine .seqN ?_
    refine .share (σ := List (List Int) × List (List Int) × Option Addr × Nat × List Value × Option Addr × Nat × List Value) (fun z => F_split_J1 yes no t10 I1 μ1 z.1 z.2.1 ∧ RepL h z.1 z.2.2.2.2.1 ∧ RepL h z.2.1 z.2.2.2.2.2.2.2) (fun z => [(1, .int .i64 fact), (4, .slice z.2.2.1 z.1.length z.2.2.2.1), (5, .slice z.2.2.2.2.2.1 z.2.1.length z.2.2.2.2.2.2.1), (8, .slice aworlds worlds.length cworlds), (9, .int .i64 ((worlds.length : Nat) : Int)), (10, .int .i64 t10)]) (fun z => [OwnSl 22 1 z.2.2.1 z.1.length z.2.2.2.1 z.2.2.2.2.1, OwnSl 22 1 z.2.2.2.2.2.1 z.2.1.length z.2.2.2.2.2.2.1 z.2.2.2.2.2.2.2]) (fun _ => h) ?_ (fun q223 => ?_)
    · rintro ⟨yes3, no3, ayes3, cyes3, csyes3, ano3, cno3, csno3⟩ ⟨hF, q221, q222⟩
      show J _ _ _ _ _ [(1, .int .i64 fact), (4, .slice ayes3 yes3.length cyes3), (5, .slice ano3 no3.length cno3), (8, .slice aworlds worlds.length cworlds), (9, .int .i64 ((worlds.length : Nat) : Int)), (10, .int .i64 t10)] [OwnSl 22 1 ayes3 yes3.length cyes3 csyes3, OwnSl 22 1 ano3 no3.length cno3 csno3] h
      refine .region ?_
      refine .v (bi rfl rfl rfl) rfl rfl rfl ?_
      refine .v (mv rfl) rfl rfl rfl ?_
      refine .nil ?_
      exact .round (IntKind.i64.wrap (t10 + 1), yes3, no3, ayes3, cyes3, csyes3, ano3, cno3, csno3) ⟨hF.1, q221, q222⟩ hF.2 (.cons rfl (.cons rfl (.cons rfl (.cons rfl (.cons rfl (.cons rfl (.nil))))))) rfl (FH.le_refl _)
    refine .block ?_
    refine .seq ?_
    refine .region ?_
    obtain ⟨q224, hF⟩ := hF
    refine .v (ix rfl rfl tS35 (_q1.ne (by decide) (inb_pos q224)) q224) rfl rfl rfl ?_
    obtain ⟨_, ⟨a, c, rfl, q225, q226⟩, q227⟩ := _q1.elem q224
    refine .v (ld1 (v := .slice a ((gt worlds t10).length) c) rfl tO22 (cellH (q227 (by decide) 0 _ rfl))) rfl rfl rfl ?_
    refine .v (asg rfl) rfl rfl rfl ?_
    refine .nil ?_
    refine .seqN ?_
    refine .seq ?_
    refine .region ?_
    refine .v (mv rfl) rfl rfl rfl ?_
    refine .v (mv rfl) rfl rfl rfl ?_
    obtain ⟨q228, hF⟩ := hF
    obtain ⟨r2, q229⟩ : ∃ y_ : Bool, y_ = sp_contains (gt worlds t10) fact := ⟨_, rfl⟩
    replace hF := hF r2 q229
    refine .c (cl (v := .bool r2) Tryz.call101 rfl rfl (fun w S => (by rw [q229]; exact c_contains S.sub (gt worlds t10) a c q226 q225 fact q228))) rfl rfl rfl ?_
    refine .nil ?_
    refine .seqN ?_
    refine .cond rfl (fun q230 => ?_) (fun q230 => ?_)
    · replace hF := hF.1 q230
      refine .region ?_
      refine .v (mv rfl) rfl rfl rfl ?_
      refine .v (mv rfl) rfl rfl rfl ?_
      refine bs2 (cs := #[.slice a ((gt worlds t10).length) c]) (pv := [(0, .slice a ((gt worlds t10).length) c)]) tS35 rfl rfl (by decide) (by decide) rfl rfl rfl (fun a2 _ => ?_)
      refine .cast (A' := [OwnSl 22 1 a2 (([(gt worlds t10)] : List (List Int)).length) 1 [.slice a ((gt worlds t10).length) c], OwnSl 22 1 ayes yes.length cyes csyes, OwnSl 22 1 ano no.length cno csno]) rfl ?_
      obtain ⟨q232, hF⟩ := hF
      have q233 : yes.length + ([(gt worlds t10)] : List (List Int)).length = ((yes ++ ([(gt worlds t10)] : List (List Int)))).length := len_app rfl rfl
      have q234 := RepL.append q161 (show RepL h ([(gt worlds t10)] : List (List Int)) [.slice a ((gt worlds t10).length) c] from ⟨[.slice a ((gt worlds t10).length) c], _, rfl, ⟨a, c, rfl, q225, q226⟩, rfl⟩)
      refine app (k := 1) (news := [.slice a ((gt worlds t10).length) c]) (cs' := (csyes ++ [.slice a ((gt worlds t10).length) c])) (nm := ((yes ++ ([(gt worlds t10)] : List (List Int)))).length) tS35 rfl (by decide) rfl rfl rfl (RepL.len (show RepL h ([(gt worlds t10)] : List (List Int)) [.slice a ((gt worlds t10).length) c] from ⟨[.slice a ((gt worlds t10).length) c], _, rfl, ⟨a, c, rfl, q225, q226⟩, rfl⟩)) (srcS (k := 0) rfl) (RepL.one (show RepL h ([(gt worlds t10)] : List (List Int)) [.slice a ((gt worlds t10).length) c] from ⟨[.slice a ((gt worlds t10).length) c], _, rfl, ⟨a, c, rfl, q225, q226⟩, rfl⟩)) (room_of q233 q232).1 (room_of q233 q232).2 q233 rfl rfl (fun a3 c2 => ?_)
      refine .cast (A' := [OwnSl 22 1 a2 (([(gt worlds t10)] : List (List Int)).length) 1 [.slice a ((gt worlds t10).length) c], OwnSl 22 1 a3 ((yes ++ ([(gt worlds t10)] : List (List Int))).length) c2 (csyes ++ [.slice a ((gt worlds t10).length) c]), OwnSl 22 1 ano no.length cno csno]) rfl ?_
      refine .v (asg rfl) rfl rfl rfl ?_
      refine .nil ?_
      refine .blkN ?_
      refine .sel0 [1, 2] (by decide) rfl ?_
      exact .use q223 ((yes ++ ([(gt worlds t10)] : List (List Int))), no, a3, c2, (csyes ++ [.slice a ((gt worlds t10).length) c]), ano, cno, csno) ⟨hF, q234, q162⟩ (.cons rfl (.cons rfl (.cons rfl (.cons rfl (.cons rfl (.cons rfl (.nil))))))) rfl (FH.le_refl _)
    replace hF := hF.2 q230
    refine .region ?_
    refine .v (mv rfl) rfl rfl rfl ?_
    refine .v (mv rfl) rfl rfl rfl ?_
    refine bs2 (cs := #[.slice a ((gt worlds t10).length) c]) (pv := [(0, .slice a ((gt worlds t10).length) c)]) tS35 rfl rfl (by decide) (by decide) rfl rfl rfl (fun a4 _ => ?_)
    refine .cast (A' := [OwnSl 22 1 a4 (([(gt worlds t10)] : List (List Int)).length) 1 [.slice a ((gt worlds t10).length) c], OwnSl 22 1 ayes yes.length cyes csyes, OwnSl 22 1 ano no.length cno csno]) rfl ?_
    obtain ⟨q236, hF⟩ := hF
    have q237 : no.length + ([(gt worlds t10)] : List (List Int)).length = ((no ++ ([(gt worlds t10)] : List (List Int)))).length := len_app rfl rfl
    have q238 := RepL.append q162 (show RepL h ([(gt worlds t10)] : List (List Int)) [.slice a ((gt worlds t10).length) c] from ⟨[.slice a ((gt worlds t10).length) c], _, rfl, ⟨a, c, rfl, q225, q226⟩, rfl⟩)
    refine app (k := 2) (news := [.slice a ((gt worlds t10).length) c]) (cs' := (csno ++ [.slice a ((gt worlds t10).length) c])) (nm := ((no ++ ([(gt worlds t10)] : List (List Int)))).length) tS35 rfl (by decide) rfl rfl rfl (RepL.len (show RepL h ([(gt worlds t10)] : List (List Int)) [.slice a ((gt worlds t10).length) c] from ⟨[.slice a ((gt worlds t10).length) c], _, rfl, ⟨a, c, rfl, q225, q226⟩, rfl⟩)) (srcS (k := 0) rfl) (RepL.one (show RepL h ([(gt worlds t10)] : List (List Int)) [.slice a ((gt worlds t10).length) c] from ⟨[.slice a ((gt worlds t10).length) c], _, rfl, ⟨a, c, rfl, q225, q226⟩, rfl⟩)) (room_of q237 q236).1 (room_of q237 q236).2 q237 rfl rfl (fun a5 c3 => ?_)
    refine .cast (A' := [OwnSl 22 1 a4 (([(gt worlds t10)] : List (List Int)).length) 1 [.slice a ((gt worlds t10).length) c], OwnSl 22 1 ayes yes.length cyes csyes, OwnSl 22 1 a5 ((no ++ ([(gt worlds t10)] : List (List Int))).length) c3 (csno ++ [.slice a ((gt worlds t10).length) c])]) rfl ?_
    refine .v (asg rfl) rfl rfl rfl ?_
    refine .nil ?_
    refine .blkN ?_
    refine .sel0 [1, 2] (by decide) rfl ?_
    exact .use q223 (yes, (no ++ ([(gt worlds t10)] : List (List Int))), ayes, cyes, csyes, a5, c3, (csno ++ [.slice a ((gt worlds t10).length) c])) ⟨hF, q161, q238⟩ (.cons rfl (.cons rfl (.cons rfl (.cons rfl (.cons rfl (.cons rfl (.nil))))))) rfl (FH.le_refl _)
  replace hF := hF.2 q205
  refine .exit ?_
  refine .seqX ?_
  refine .seqX ?_
  refine .blkX ?_
  refine .seqN ?_
  refine .seq ?_
  refine .region ?_
  refine .v (mv rfl) rfl rfl rfl ?_
  refine .v (mv rfl) rfl rfl rfl ?_
  refine .v (asg rfl) rfl rfl rfl ?_
  refine .v (asg rfl) rfl rfl rfl ?_
  refine .nil ?_
  refine .seqN ?_
  refine .freezeL (k := 1) rfl (fun h1 le1 q240 q239 => ?_)
  refine .cast (A' := [OwnSl 22 1 ayes yes.length cyes csyes, tru]) rfl ?_
  refine .freezeL (k := 0) rfl (fun h2 le2 q242 q241 => ?_)
  refine .cast (A' := [tru, tru]) rfl ?_
  refine .ret ?_
  refine .res2 rfl (rvT rfl) (rvT rfl) (fun w' S => ⟨(yes, no), (ayes, cyes, ano, cno), h2, hF, rfl, (FH.le_trans (le1) (le2)), ⟨(show RSl h2 ayes yes from ⟨_, q161.mono (FH.le_trans (le1) (le2)), q241⟩), (q242), ((show RSl h1 ano no from ⟨_, q162.mono (le1), q239⟩).mono (le2)), (q240)⟩, S.none⟩)

theorem c_split {h : FH} {w : World} (hs : Sub h w) (worlds : List (List Int)) (aworlds : Option Addr) (cworlds : Nat) (_q1 : RSl h aworlds worlds) (_q2 : worlds.length ≤ cworlds) (fact : Int) (hp : pre_split worlds fact) : Calls Tryz.prog 97 #[.slice aworlds worlds.length cworlds, .int .i64 fact] w fun e w' => ∃ (z : Option Addr × Nat × Option Addr × Nat) (h1 : FH), e = .returned (.tuple #[.slice z.1 (sp_split worlds fact).1.length z.2.1, .slice z.2.2.1 (sp_split worlds fact).2.length z.2.2.2]) ∧ FH.le h h1 ∧ (RSl h1 z.1 (sp_split worlds fact).1 ∧ (sp_split worlds fact).1.length ≤ z.2.1 ∧ RSl h1 z.2.2.1 (sp_split worlds fact).2 ∧ (sp_split worlds fact).2.length ≤ z.2.2.2) ∧ SH (Kp.all w h) h1 w' [] :=
  (w_split hs worlds aworlds cworlds _q1 _q2 fact (fun r => r = sp_split worlds fact) (ok_split worlds fact hp)).mono fun _ _ ⟨r, z, h1, hk, he, hl, hf, hS⟩ => by subst hk; exact ⟨z, h1, he, hl, hf, hS⟩

set_option maxHeartbeats 8000000 in
theorem w_cCheck {h : FH} {w : World} (hs : Sub h w) (t : Task) (at_ : Option Addr) (ct : Nat) (_q1 : RSl h at_ t.init) (_q2 : t.init.length ≤ ct) (at_2 : Option Addr) (ct2 : Nat) (_q3 : RSl h at_2 t.goal) (_q4 : t.goal.length ≤ ct2) (at_3 : Option Addr) (ct3 : Nat) (_q5 : RSl h at_3 t.ops) (_q6 : t.ops.length ≤ ct3) (unknown : List Int) (aunknown : Option Addr) (cunknown : Nat) (_q7 : RSl h aunknown unknown) (_q8 : unknown.length ≤ cunknown) (sensors : List Int) (asensors : Option Addr) (csensors : Nat) (_q9 : RSl h asensors sensors) (_q10 : sensors.length ≤ csensors) (tree : List TNode) (atree : Option Addr) (ctree : Nat) (_q11 : RSl h atree tree) (_q12 : tree.length ≤ ctree) (K : (Bool × Fault) → Prop) (hF : F_cCheck t unknown sensors tree K) : Calls Tryz.prog 44 #[.agg #[.int .i64 t.facts, .slice at_ t.init.length ct, .slice at_2 t.goal.length ct2, .slice at_3 t.ops.length ct3], .slice aunknown unknown.length cunknown, .slice asensors sensors.length csensors, .slice atree tree.length ctree] w fun e w' => ∃ r : Bool × Fault, K r ∧ e = .returned (.tuple #[.bool r.1, .agg #[.int .i64 r.2.code, .int .i64 r.2.index]]) ∧ Below w.heap.size w w' := by
  refine enter (args := [.agg #[.int .i64 t.facts, .slice at_ t.init.length ct, .slice at_2 t.goal.length ct2, .slice at_3 t.ops.length ct3], .slice aunknown unknown.length cunknown, .slice asensors sensors.length csensors, .slice atree tree.length ctree]) Tryz.func44 rfl Tryz.ntmps44 rfl hs ?_
  refine .seq ?_
  refine .region ?_
  refine bx (vs := [.int .i64 t.facts, .slice at_ t.init.length ct, .slice at_2 t.goal.length ct2, .slice at_3 t.ops.length ct3]) rfl rfl rfl (fun pt => ?_)
  refine .v (asg rfl) rfl rfl rfl ?_
  refine al tZ27 rfl (fun pv => ?_)
  refine .nil ?_
  refine .seqN ?_
  refine .seq ?_
  refine .seq ?_
  refine .region ?_
  refine .v (ldA (cs := [.int .i64 t.facts, .slice at_ t.init.length ct, .slice at_2 t.goal.length ct2, .slice at_3 t.ops.length ct3]) rfl tA25 rfl (cellsB (off := 0) (k := 1) rfl (m := 4) rfl)) rfl rfl rfl ?_
  refine .v (mv rfl) rfl rfl rfl ?_
  refine .v (mv rfl) rfl rfl rfl ?_
  obtain ⟨r2, q13⟩ : ∃ y_ : Fault, y_ = sp_ccheck t unknown sensors := ⟨_, rfl⟩
  replace hF := hF r2 q13
  refine .c (cl (v := .agg #[.int .i64 r2.code, .int .i64 r2.index]) Tryz.call70 rfl rfl (fun w S => (by rw [q13]; exact c_ccheck S.sub t at_ ct _q1 _q2 at_2 ct2 _q3 _q4 at_3 ct3 _q5 _q6 unknown aunknown cunknown _q7 _q8 sensors asensors csensors _q9 _q10 ))) rfl rfl rfl ?_
  refine al tZ27 rfl (fun pf => ?_)
  refine st (p := pf) (off := 0) (k := 0) (vs := [.int .i64 r2.code, .int .i64 r2.index]) rfl rfl rfl (fun w => (tA27 w).2) rfl rfl rfl rfl ?_
  refine .cast (A' := [Box pf [.int .i64 r2.code, .int .i64 r2.index], Box pv [.int .i64 0, .int .i64 0], Box pt [.int .i64 t.facts, .slice at_ t.init.length ct, .slice at_2 t.goal.length ct2, .slice at_3 t.ops.length ct3]]) rfl ?_
  refine .nil ?_
  refine .seqN ?_
  refine .seq ?_
  refine .region ?_
  refine .v (ldA (cs := [.int .i64 r2.code, .int .i64 r2.index]) rfl tA27 rfl (cellsB (off := 0) (k := 0) rfl (m := 2) rfl)) rfl rfl rfl ?_
  refine .v (bld (cs := #[.int .i64 0, .int .i64 0]) (pv := []) tB27 rfl rfl) rfl rfl rfl ?_
  refine .v (ne2 tE27 rfl rfl) rfl rfl rfl ?_
  refine .nil ?_
  refine .seqN ?_
  refine .cond rfl (fun q15 => ?_) (fun q15 => ?_)
  · replace hF := hF.1 q15
    refine .seq ?_
    refine .openL (by kernel_rfl) rfl (by kernel_rfl) (by kernel_rfl) ?_
    refine .v (ldA (cs := [.int .i64 r2.code, .int .i64 r2.index]) rfl tA27 rfl (cellsB (off := 0) (k := 0) rfl (m := 2) rfl)) rfl rfl rfl ?_
    refine .v (asg rfl) rfl rfl rfl ?_
    refine .tail ?_
    refine st (p := pv) (off := 0) (k := 1) (vs := [.int .i64 r2.code, .int .i64 r2.index]) rfl rfl rfl (fun w => (tA27 w).2) rfl rfl rfl rfl ?_
    refine .cast (A' := [Box pf [.int .i64 r2.code, .int .i64 r2.index], Box pv [.int .i64 r2.code, .int .i64 r2.index], Box pt [.int .i64 t.facts, .slice at_ t.init.length ct, .slice at_2 t.goal.length ct2, .slice at_3 t.ops.length ct3]]) rfl ?_
    refine .nil ?_
    refine .seqN ?_
    refine .ret ?_
    refine .seqR ?_
    refine .res2 rfl (rvT rfl) (rvC rfl tA27 (k := 1) rfl rfl) (fun w' S => ⟨(false, r2), hF, rfl, S.below⟩)
  replace hF := hF.2 q15
  refine .skip ?_
  refine .seqN ?_
  refine .seq ?_
  refine .seq ?_
  refine .region ?_
  refine .v (ldA (cs := [.int .i64 t.facts, .slice at_ t.init.length ct, .slice at_2 t.goal.length ct2, .slice at_3 t.ops.length ct3]) rfl tA25 rfl (cellsB (off := 0) (k := 2) rfl (m := 4) rfl)) rfl rfl rfl ?_
  refine .v (mv rfl) rfl rfl rfl ?_
  refine .v (mv rfl) rfl rfl rfl ?_
  obtain ⟨r3, q16⟩ : ∃ y_ : Fault, y_ = sp_cvalidate t sensors tree := ⟨_, rfl⟩
  replace hF := hF r3 q16
  refine .c (cl (v := .agg #[.int .i64 r3.code, .int .i64 r3.index]) Tryz.call40 rfl rfl (fun w S => (by rw [q16]; exact c_cvalidate S.sub t at_ ct _q1 _q2 at_2 ct2 _q3 _q4 at_3 ct3 _q5 _q6 sensors asensors csensors _q9 _q10 tree atree ctree _q11 _q12 ))) rfl rfl rfl ?_
  refine al tZ27 rfl (fun pf2 => ?_)
  refine st (p := pf2) (off := 0) (k := 0) (vs := [.int .i64 r3.code, .int .i64 r3.index]) rfl rfl rfl (fun w => (tA27 w).2) rfl rfl rfl rfl ?_
  refine .cast (A' := [Box pf2 [.int .i64 r3.code, .int .i64 r3.index], Box pf [.int .i64 r2.code, .int .i64 r2.index], Box pv [.int .i64 0, .int .i64 0], Box pt [.int .i64 t.facts, .slice at_ t.init.length ct, .slice at_2 t.goal.length ct2, .slice at_3 t.ops.length ct3]]) rfl ?_
  refine .nil ?_
  refine .seqN ?_
  refine .seq ?_
  refine .region ?_
  refine .v (ldA (cs := [.int .i64 r3.code, .int .i64 r3.index]) rfl tA27 rfl (cellsB (off := 0) (k := 0) rfl (m := 2) rfl)) rfl rfl rfl ?_
  refine .v (bld (cs := #[.int .i64 0, .int .i64 0]) (pv := []) tB27 rfl rfl) rfl rfl rfl ?_
  refine .v (ne2 tE27 rfl rfl) rfl rfl rfl ?_
  refine .nil ?_
  refine .seqN ?_
  refine .cond rfl (fun q18 => ?_) (fun q18 => ?_)
  · replace hF := hF.1 q18
    refine .seq ?_
    refine .openL (by kernel_rfl) rfl (by kernel_rfl) (by kernel_rfl) ?_
    refine .v (ldA (cs := [.int .i64 r3.code, .int .i64 r3.index]) rfl tA27 rfl (cellsB (off := 0) (k := 0) rfl (m := 2) rfl)) rfl rfl rfl ?_
    refine .v (asg rfl) rfl rfl rfl ?_
    refine .tail ?_
    refine st (p := pv) (off := 0) (k := 2) (vs := [.int .i64 r3.code, .int .i64 r3.index]) rfl rfl rfl (fun w => (tA27 w).2) rfl rfl rfl rfl ?_
    refine .cast (A' := [Box pf2 [.int .i64 r3.code, .int .i64 r3.index], Box pf [.int .i64 r2.code, .int .i64 r2.index], Box pv [.int .i64 r3.code, .int .i64 r3.index], Box pt [.int .i64 t.facts, .slice at_ t.init.length ct, .slice at_2 t.goal.length ct2, .slice at_3 t.ops.length ct3]]) rfl ?_
    refine .nil ?_
    refine .seqN ?_
    refine .ret ?_
    refine .seqR ?_
    refine .res2 rfl (rvT rfl) (rvC rfl tA27 (k := 2) rfl rfl) (fun w' S => ⟨(false, r3), hF, rfl, S.below⟩)
  replace hF := hF.2 q18
  refine .skip ?_
  refine .seqN ?_
  refine .seq ?_
  refine .seq ?_
  refine .region ?_
  refine .v (ldA (cs := [.int .i64 t.facts, .slice at_ t.init.length ct, .slice at_2 t.goal.length ct2, .slice at_3 t.ops.length ct3]) rfl tA25 rfl (cellsB (off := 0) (k := 3) rfl (m := 4) rfl)) rfl rfl rfl ?_
  refine .v (mv rfl) rfl rfl rfl ?_
  obtain ⟨q19, hF⟩ := hF
  obtain ⟨r4, q20⟩ : ∃ y_ : List (List Int), y_ = sp_worlds t unknown := ⟨_, rfl⟩
  replace hF := hF r4 q20
  refine clR (α := Option Addr × Nat) (Φ := fun h1 z => RSl h1 z.1 r4 ∧ r4.length ≤ z.2) (V := fun z => .slice z.1 r4.length z.2) Tryz.call48 rfl rfl (fun w S => (by rw [q20]; exact c_worlds S.sub t at_ ct _q1 _q2 at_2 ct2 _q3 _q4 at_3 ct3 _q5 _q6 unknown aunknown cunknown _q7 _q8 q19)) rfl (fun z h1 le1 hz => ?_)
  obtain ⟨a, c⟩ := z
  obtain ⟨q21, q22⟩ := hz
  refine .v (ln rfl tS35.is) rfl rfl rfl ?_
  refine .v (mv rfl) rfl rfl rfl ?_
  refine .nil ?_
  refine .seqN ?_
  refine .block ?_
  refine .sel0 [3, 2] (by decide) rfl ?_
  obtain ⟨I1, μ1, q175, q176⟩ := hF
  refine .loop' (σ := Int) (fun z => I1 z) (fun z => μ1 z) (fun z => [(3, .slice atree tree.length ctree), (4, .pointer (some pt)), (9, .pointer (some pv)), (34, .slice a r4.length c), (35, .int .i64 ((r4.length : Nat) : Int)), (36, .int .i64 z)]) (fun _ => [Box pt [.int .i64 t.facts, .slice at_ t.init.length ct, .slice at_2 t.goal.length ct2, .slice at_3 t.ops.length ct3], Box pv [.int .i64 0, .int .i64 0]]) (fun _ => h1) 0 q175 (.cons rfl (.cons rfl (.cons rfl (.cons rfl (.cons rfl (.cons rfl (.nil))))))) rfl (FH.le_refl _) ?_
  rintro t36 q175
  have hF := q176 t36 q175
  show J _ _ _ _ _ [(3, .slice atree tree.length ctree), (4, .pointer (some pt)), (9, .pointer (some pv)), (34, .slice a r4.length c), (35, .int .i64 ((r4.length : Nat) : Int)), (36, .int .i64 t36)] [Box pt [.int .i64 t.facts, .slice at_ t.init.length ct, .slice at_2 t.goal.length ct2, .slice at_3 t.ops.length ct3], Box pv [.int .i64 0, .int .i64 0]] h1
  refine .seq ?_
  refine .region ?_
  refine .v (bi rfl rfl rfl) rfl rfl rfl ?_
  refine .nil ?_
  refine .seqN ?_
  refine .seq ?_
  refine .cond rfl (fun q179 => ?_) (fun q179 => ?_)
  · replace hF := hF.1 q179
    refine .skip ?_
    refine .seqN ?_
    refine .seq ?_
    refine .block ?_
    refine .seq ?_
    refine .region ?_
    obtain ⟨q198, hF⟩ := hF
    refine .v (ix rfl rfl tS35 (q21.ne (by decide) (inb_pos q198)) q198) rfl rfl rfl ?_
    obtain ⟨_, ⟨a2, c2, rfl, q199, q200⟩, q201⟩ := q21.elem q198
    refine .v (ld1 (v := .slice a2 ((gt r4 t36).length) c2) rfl tO22 (cellH (q201 (by decide) 0 _ rfl))) rfl rfl rfl ?_
    refine .v (asg rfl) rfl rfl rfl ?_
    refine .nil ?_
    refine .seqN ?_
    refine .seq ?_
    refine .region ?_
    refine .v (ldA (cs := [.int .i64 t.facts, .slice at_ t.init.length ct, .slice at_2 t.goal.length ct2, .slice at_3 t.ops.length ct3]) rfl tA25 rfl (cellsB (off := 0) (k := 0) rfl (m := 4) rfl)) rfl rfl rfl ?_
    refine .v (mv rfl) rfl rfl rfl ?_
    refine .v (mv rfl) rfl rfl rfl ?_
    obtain ⟨q202, hF⟩ := hF
    obtain ⟨r5, q203⟩ : ∃ y_ : List Int × Bool, y_ = sp_crun t tree (gt r4 t36) := ⟨_, rfl⟩
    replace hF := hF r5 q203
    refine clR (α := Option Addr × Nat) (Φ := fun h1 z => RSl h1 z.1 r5.1 ∧ r5.1.length ≤ z.2) (V := fun z => .tuple #[.slice z.1 r5.1.length z.2, .bool r5.2]) Tryz.call75 rfl rfl (fun w S => (by rw [q203]; exact c_crun S.sub t at_ ct (_q1.mono (le1)) _q2 at_2 ct2 (_q3.mono (le1)) _q4 at_3 ct3 (_q5.mono (le1)) _q6 tree atree ctree (_q11.mono (le1)) _q12 (gt r4 t36) a2 c2 q200 q199 q202)) rfl (fun z h19 le19 hz => ?_)
    obtain ⟨a3, c3⟩ := z
    obtain ⟨q204, q205⟩ := hz
    refine .v (mv rfl) rfl rfl rfl ?_
    refine .v (ext rfl rfl) rfl rfl rfl ?_
    refine .v (ext rfl rfl) rfl rfl rfl ?_
    refine .v (asg rfl) rfl rfl rfl ?_
    refine .v (asg rfl) rfl rfl rfl ?_
    refine .nil ?_
    refine .seqN ?_
    refine .seq ?_
    refine .region ?_
    refine .v (mv rfl) rfl rfl rfl ?_
    refine .v (nt rfl) rfl rfl rfl ?_
    refine .nil ?_
    refine .seqN ?_
    refine .cond rfl (fun q206 => ?_) (fun q206 => ?_)
    · replace hF := hF.1 q206
      refine .seq ?_
      refine .region ?_
      refine .v (bld (cs := #[.int .i64 0, .int .i64 0]) (pv := []) tB27 rfl rfl) rfl rfl rfl ?_
      refine .v (asg rfl) rfl rfl rfl ?_
      refine st (p := pv) (off := 0) (k := 1) (vs := [.int .i64 0, .int .i64 0]) rfl rfl rfl (fun w => (tA27 w).2) rfl rfl rfl rfl ?_
      refine .cast (A' := [Box pt [.int .i64 t.facts, .slice at_ t.init.length ct, .slice at_2 t.goal.length ct2, .slice at_3 t.ops.length ct3], Box pv [.int .i64 0, .int .i64 0]]) rfl ?_
      refine .nil ?_
      refine .seqN ?_
      refine .ret ?_
      refine .blkR ?_
      refine .seqR ?_
      refine .seqR ?_
      refine .blkR ?_
      refine .seqR ?_
      refine .res2 rfl (rvT rfl) (rvC rfl tA27 (k := 1) rfl rfl) (fun w' S => ⟨(false, (⟨0, 0⟩ : Fault)), hF, rfl, S.below⟩)
    replace hF := hF.2 q206
    refine .skip ?_
    refine .blkN ?_
    refine .seqN ?_
    refine .region ?_
    refine .v (bi rfl rfl rfl) rfl rfl rfl ?_
    refine .v (mv rfl) rfl rfl rfl ?_
    refine .nil ?_
    exact .round (IntKind.i64.wrap (t36 + 1)) hF.1 hF.2 (.cons rfl (.cons rfl (.cons rfl (.cons rfl (.cons rfl (.cons rfl (.nil))))))) rfl (le19)
  replace hF := hF.2 q179
  refine .exit ?_
  refine .seqX ?_
  refine .seqX ?_
  refine .blkX ?_
  refine .seqN ?_
  refine .seq ?_
  refine .region ?_
  refine .v (bld (cs := #[.int .i64 0, .int .i64 0]) (pv := []) tB27 rfl rfl) rfl rfl rfl ?_
  refine .v (asg rfl) rfl rfl rfl ?_
  refine st (p := pv) (off := 0) (k := 1) (vs := [.int .i64 0, .int .i64 0]) rfl rfl rfl (fun w => (tA27 w).2) rfl rfl rfl rfl ?_
  refine .cast (A' := [Box pt [.int .i64 t.facts, .slice at_ t.init.length ct, .slice at_2 t.goal.length ct2, .slice at_3 t.ops.length ct3], Box pv [.int .i64 0, .int .i64 0]]) rfl ?_
  refine .nil ?_
  refine .seqN ?_
  refine .ret ?_
  refine .res2 rfl (rvT rfl) (rvC rfl tA27 (k := 1) rfl rfl) (fun w' S => ⟨(true, (⟨0, 0⟩ : Fault)), hF, rfl, S.below⟩)

theorem c_cCheck {h : FH} {w : World} (hs : Sub h w) (t : Task) (at_ : Option Addr) (ct : Nat) (_q1 : RSl h at_ t.init) (_q2 : t.init.length ≤ ct) (at_2 : Option Addr) (ct2 : Nat) (_q3 : RSl h at_2 t.goal) (_q4 : t.goal.length ≤ ct2) (at_3 : Option Addr) (ct3 : Nat) (_q5 : RSl h at_3 t.ops) (_q6 : t.ops.length ≤ ct3) (unknown : List Int) (aunknown : Option Addr) (cunknown : Nat) (_q7 : RSl h aunknown unknown) (_q8 : unknown.length ≤ cunknown) (sensors : List Int) (asensors : Option Addr) (csensors : Nat) (_q9 : RSl h asensors sensors) (_q10 : sensors.length ≤ csensors) (tree : List TNode) (atree : Option Addr) (ctree : Nat) (_q11 : RSl h atree tree) (_q12 : tree.length ≤ ctree) : Calls Tryz.prog 44 #[.agg #[.int .i64 t.facts, .slice at_ t.init.length ct, .slice at_2 t.goal.length ct2, .slice at_3 t.ops.length ct3], .slice aunknown unknown.length cunknown, .slice asensors sensors.length csensors, .slice atree tree.length ctree] w fun e w' => e = .returned (.tuple #[.bool (sp_cCheck t unknown sensors tree).1, .agg #[.int .i64 (sp_cCheck t unknown sensors tree).2.code, .int .i64 (sp_cCheck t unknown sensors tree).2.index]]) ∧ Below w.heap.size w w' :=
  (w_cCheck hs t at_ ct _q1 _q2 at_2 ct2 _q3 _q4 at_3 ct3 _q5 _q6 unknown aunknown cunknown _q7 _q8 sensors asensors csensors _q9 _q10 tree atree ctree _q11 _q12 (fun r => r = sp_cCheck t unknown sensors tree) (ok_cCheck t unknown sensors tree)).mono fun _ _ ⟨_, hk, he, hb⟩ => ⟨by rw [he, hk], hb⟩

end Go.Proofs.YtojoehfldbimpaaGreatDoor.Pl

/- The walks: from what each function asks to what it does; printed from the code. No condition. -/
namespace Go.Proofs.YtojoehfldbimpaaGreatDoor.Pl
open Go Go.RowKit
theorem w_trees {h : FH} {w : World} (hs : Sub h w) (a : List TNode) (aa : Option Addr) (ca : Nat) (_q1 : RSl h aa a) (_q2 : a.length ≤ ca) (b : List TNode) (ab : Option Addr) (cb : Nat) (_q3 : RSl h ab b) (_q4 : b.length ≤ cb) (K : Bool → Prop) (hF : F_trees a b K) : Calls Tryz.prog 35 #[.slice aa a.length ca, .slice ab b.length cb] w fun e w' => ∃ r : Bool, K r ∧ e = .returned (.bool r) ∧ Below w.heap.size w w' := by
  refine enter (args := [.slice aa a.length ca, .slice ab b.length cb]) Tryz.func35 rfl Tryz.ntmps35 rfl hs ?_
  refine .seq ?_
  refine .region ?_
  refine .v (asg rfl) rfl rfl rfl ?_
  refine .nil ?_
  refine .seqN ?_
  refine .seq ?_
  refine .seq ?_
  refine .region ?_
  refine .v (mv rfl) rfl rfl rfl ?_
  refine .v (ln rfl tS60.is) rfl rfl rfl ?_
  refine .v (mv rfl) rfl rfl rfl ?_
  refine .v (ln rfl tS60.is) rfl rfl rfl ?_
  refine .v (bi rfl rfl rfl) rfl rfl rfl ?_
  refine .nil ?_
  refine .seqN ?_
  refine .cond rfl (fun q6 => ?_) (fun q6 => ?_)
  · replace hF := hF.1 q6
    refine .seq ?_
    refine .region ?_
    refine .v (asg rfl) rfl rfl rfl ?_
    refine .nil ?_
    refine .seqN ?_
    refine .ret ?_
    refine .seqR ?_
    refine .res1 rfl (rvT rfl) (fun w' S => ⟨false, hF, rfl, S.below⟩)
  replace hF := hF.2 q6
  refine .skip ?_
  refine .seqN ?_
  refine .seq ?_
  refine .seq ?_
  refine .region ?_
  refine .v (asg rfl) rfl rfl rfl ?_
  refine .nil ?_
  refine .seqN ?_
  refine .block ?_
  obtain ⟨I1, μ1, q79, q80⟩ := hF
  refine .loop' (σ := Int) (fun z => I1 z) (fun z => μ1 z) (fun z => [(0, .slice aa a.length ca), (1, .slice ab b.length cb), (5, .int .i64 z)]) (fun _ => []) (fun _ => h) 0 q79 (.cons rfl (.cons rfl (.cons rfl (.nil)))) rfl (FH.le_refl _) ?_
  rintro i q79
  have hF := q80 i q79
  show J _ _ _ _ _ [(0, .slice aa a.length ca), (1, .slice ab b.length cb), (5, .int .i64 i)] [] h
  refine .seq ?_
  refine .seq ?_
  refine .region ?_
  refine .v (mv rfl) rfl rfl rfl ?_
  refine .v (mv rfl) rfl rfl rfl ?_
  refine .v (ln rfl tS60.is) rfl rfl rfl ?_
  refine .v (bi rfl rfl rfl) rfl rfl rfl ?_
  refine .nil ?_
  refine .seqN ?_
  refine .cond rfl (fun q82 => ?_) (fun q82 => ?_)
  · replace hF := hF.1 q82
    refine .skip ?_
    refine .seqN ?_
    refine .seq ?_
    refine .block ?_
    refine .seq ?_
    refine .open_ (by kernel_rfl) (by kernel_rfl) ?_
    refine .v (mv rfl) rfl rfl rfl ?_
    refine .v (mv rfl) rfl rfl rfl ?_
    obtain ⟨q91, hF⟩ := hF
    refine .v (ix rfl rfl tS60 (_q1.ne (by decide) (inb_pos q91)) q91) rfl rfl rfl ?_
    refine .v (ldA (cs := [.int .i64 ((gt a i).kind), .int .i64 ((gt a i).op), .int .i64 ((gt a i).fact), .int .i64 ((gt a i).yes), .int .i64 ((gt a i).no)]) rfl tA102 rfl (cellsH (_q1.elemF q91 (by decide)))) rfl rfl rfl ?_
    refine .v (mv rfl) rfl rfl rfl ?_
    refine .v (mv rfl) rfl rfl rfl ?_
    obtain ⟨q92, hF⟩ := hF
    refine .v (ix rfl rfl tS60 (_q3.ne (by decide) (inb_pos q92)) q92) rfl rfl rfl ?_
    refine .v (ldA (cs := [.int .i64 ((gt b i).kind), .int .i64 ((gt b i).op), .int .i64 ((gt b i).fact), .int .i64 ((gt b i).yes), .int .i64 ((gt b i).no)]) rfl tA102 rfl (cellsH (_q3.elemF q92 (by decide)))) rfl rfl rfl ?_
    obtain ⟨x, q93⟩ : ∃ y_ : Bool, y_ = (!((((((gt a i).kind) == ((gt b i).kind)) && (((gt a i).op) == ((gt b i).op))) && ((((gt a i).fact) == ((gt b i).fact)) && (((gt a i).yes) == ((gt b i).yes)))) && (((gt a i).no) == ((gt b i).no)))) := ⟨_, rfl⟩
    replace hF := hF x q93
    refine .v (v := .bool x) (by rw [q93]; exact ne5 tE102 rfl rfl) rfl rfl rfl ?_
    refine .fin ?_
    refine .seqN ?_
    refine .cond rfl (fun q94 => ?_) (fun q94 => ?_)
    · replace hF := hF.1 q94
      refine .seq ?_
      refine .region ?_
      refine .v (asg rfl) rfl rfl rfl ?_
      refine .nil ?_
      refine .seqN ?_
      refine .ret ?_
      refine .blkR ?_
      refine .seqR ?_
      refine .seqR ?_
      refine .blkR ?_
      refine .seqR ?_
      refine .res1 rfl (rvT rfl) (fun w' S => ⟨false, hF, rfl, S.below⟩)
    replace hF := hF.2 q94
    refine .skip ?_
    refine .blkN ?_
    refine .seqN ?_
    refine .region ?_
    refine .v (mv rfl) rfl rfl rfl ?_
    refine .v (bi rfl rfl rfl) rfl rfl rfl ?_
    refine .v (asg rfl) rfl rfl rfl ?_
    refine .nil ?_
    exact .round (IntKind.i64.wrap (i + 1)) hF.1 hF.2 (.cons rfl (.cons rfl (.cons rfl (.nil)))) rfl (FH.le_refl _)
  replace hF := hF.2 q82
  refine .exit ?_
  refine .seqX ?_
  refine .seqX ?_
  refine .blkX ?_
  refine .seqN ?_
  refine .seq ?_
  refine .region ?_
  refine .v (asg rfl) rfl rfl rfl ?_
  refine .nil ?_
  refine .seqN ?_
  refine .ret ?_
  refine .res1 rfl (rvT rfl) (fun w' S => ⟨true, hF, rfl, S.below⟩)

theorem c_trees {h : FH} {w : World} (hs : Sub h w) (a : List TNode) (aa : Option Addr) (ca : Nat) (_q1 : RSl h aa a) (_q2 : a.length ≤ ca) (b : List TNode) (ab : Option Addr) (cb : Nat) (_q3 : RSl h ab b) (_q4 : b.length ≤ cb) (hp : pre_trees a b) : Calls Tryz.prog 35 #[.slice aa a.length ca, .slice ab b.length cb] w fun e w' => e = .returned (.bool (sp_trees a b)) ∧ Below w.heap.size w w' :=
  (w_trees hs a aa ca _q1 _q2 b ab cb _q3 _q4 (fun r => r = sp_trees a b) (ok_trees a b hp)).mono fun _ _ ⟨_, hk, he, hb⟩ => ⟨by rw [he, hk], hb⟩

end Go.Proofs.YtojoehfldbimpaaGreatDoor.Pl

/- The library's contract on strconv.Itoa below 100, laid at this program. No condition. -/
namespace Go.Proofs
open Go.Shelf
def YtojoehfldbimpaaGreatDoor.lays171_ren : Go.Shelf.Ren := ⟨fun | 171 => 113 | 243 => 123 | 246 => 148 | 283 => 144 | 284 => 145 | 285 => 146 | 286 => 147 | 129 => 135 | 317 => 158 | 318 => 159 | 319 => 160 | 320 => 161 | 337 => 164 | 338 => 165 | n => n, fun | 3 => 3 | 9 => 9 | 2 => 2 | 4 => 4 | 171 => 155 | 0 => 0 | 53 => 137 | 37 => 110 | 5 => 5 | 173 => 157 | 212 => 171 | 51 => 148 | 20 => 20 | 213 => 172 | 46 => 131 | 232 => 177 | 233 => 178 | n => n, fun | 17 => 0 | 18 => 1 | 19 => 2 | n => n⟩
theorem YtojoehfldbimpaaGreatDoor.lays171 : Go.Proofs.Lays.n171 Tryz.prog YtojoehfldbimpaaGreatDoor.lays171_ren := {
  mixed := by kernel_rfl
  f129 := Tryz.func135.trans (congrArg some (by kernel_rfl))
  f171 := Tryz.func113.trans (congrArg some (by kernel_rfl))
  f243 := Tryz.func123.trans (congrArg some (by kernel_rfl))
  f246 := Tryz.func148.trans (congrArg some (by kernel_rfl))
  f283 := Tryz.func144.trans (congrArg some (by kernel_rfl))
  f284 := Tryz.func145.trans (congrArg some (by kernel_rfl))
  f285 := Tryz.func146.trans (congrArg some (by kernel_rfl))
  f286 := Tryz.func147.trans (congrArg some (by kernel_rfl))
  f317 := Tryz.func158.trans (congrArg some (by kernel_rfl))
  f318 := Tryz.func159.trans (congrArg some (by kernel_rfl))
  f319 := Tryz.func160.trans (congrArg some (by kernel_rfl))
  f320 := Tryz.func161.trans (congrArg some (by kernel_rfl))
  f337 := Tryz.func164.trans (congrArg some (by kernel_rfl))
  f338 := Tryz.func165.trans (congrArg some (by kernel_rfl))
  t0 := Tryz.underlying0
  a0 := Tryz.isAgg0
  z0 := Tryz.sizeOf0
  v0 := Tryz.zeroValue0
  t2 := Tryz.underlying2
  a2 := Tryz.isAgg2
  z2 := Tryz.sizeOf2
  v2 := Tryz.zeroValue2
  t3 := Tryz.underlying3
  a3 := Tryz.isAgg3
  z3 := Tryz.sizeOf3
  v3 := Tryz.zeroValue3
  t4 := Tryz.underlying4
  a4 := Tryz.isAgg4
  z4 := Tryz.sizeOf4
  v4 := Tryz.zeroValue4
  t5 := Tryz.underlying5
  a5 := Tryz.isAgg5
  z5 := Tryz.sizeOf5
  v5 := Tryz.zeroValue5
  t9 := Tryz.underlying9
  a9 := Tryz.isAgg9
  z9 := Tryz.sizeOf9
  v9 := Tryz.zeroValue9
  t20 := Tryz.underlying20
  a20 := Tryz.isAgg20
  z20 := Tryz.sizeOf20
  v20 := Tryz.zeroValue20
  t37 := Tryz.underlying110
  a37 := Tryz.isAgg110
  z37 := Tryz.sizeOf110
  v37 := Tryz.zeroValue110
  t46 := Tryz.underlying131
  a46 := Tryz.isAgg131
  z46 := Tryz.sizeOf131
  v46 := Tryz.zeroValue131
  t51 := Tryz.underlying148
  a51 := Tryz.isAgg148
  z51 := Tryz.sizeOf148
  v51 := Tryz.zeroValue148
  t53 := Tryz.underlying137
  a53 := Tryz.isAgg137
  z53 := Tryz.sizeOf137
  v53 := Tryz.zeroValue137
  t171 := Tryz.underlying155
  a171 := Tryz.isAgg155
  z171 := Tryz.sizeOf155
  v171 := Tryz.zeroValue155
  t173 := Tryz.underlying157
  a173 := Tryz.isAgg157
  z173 := Tryz.sizeOf157
  v173 := Tryz.zeroValue157
  t212 := Tryz.underlying171
  a212 := Tryz.isAgg171
  z212 := Tryz.sizeOf171
  v212 := Tryz.zeroValue171
  t213 := Tryz.underlying172
  a213 := Tryz.isAgg172
  z213 := Tryz.sizeOf172
  t232 := Tryz.underlying177
  a232 := Tryz.isAgg177
  z232 := Tryz.sizeOf177
  v232 := Tryz.zeroValue177
  t233 := Tryz.underlying178
  a233 := Tryz.isAgg178
  z233 := Tryz.sizeOf178
  v233 := Tryz.zeroValue178
  g17 := by kernel_rfl
  g18 := by kernel_rfl
  g19 := by kernel_rfl }
end Go.Proofs
namespace Go.Proofs.YtojoehfldbimpaaGreatDoor.Pl
open Go Go.RowKit
theorem c_itoa {h : FH} {w : World} (_ : Sub h w) (i : Int) (hp : pre_itoa i) : Calls Tryz.prog 113 #[.int .i64 i] w fun e w' => e = .returned (strV (sp_itoa i)) ∧ Below w.heap.size w w' := by
  obtain ⟨h0, h1⟩ := hp
  have key := Any.strconv_Itoa_small YtojoehfldbimpaaGreatDoor.lays171 i.toNat (by omega) w
  rw [show ((i.toNat : Nat) : Int) = i by omega] at key
  refine key.mono fun e w' ⟨he, hw⟩ => ⟨?_, by rw [hw]; exact Below.refl _ _⟩
  rw [he]
  unfold sp_itoa Lib.itoa
  rw [if_neg (by omega)]
end Go.Proofs.YtojoehfldbimpaaGreatDoor.Pl

