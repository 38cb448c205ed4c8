/- The walks: from what each function asks to what it does; printed from the code. No condition. -/
import Derived.Test.YtojoehfldbimpaaGreatDoorW3
import Derived.Test.YtojoehfldbimpaaGreatDoorSr
namespace Go.Proofs.YtojoehfldbimpaaGreatDoor.Pl
open Go Go.RowKit
theorem w_compactR {h : FH} {w : World} (hs : Sub h w) (s_ : List (List Int)) (as_ : Option Addr) (cs_ : Nat) {cs : List Value} (q1 : RepL h s_ cs) {gX : FH} (ownX : OwnSl 22 1 as_ s_.length cs_ cs gX) (subX : Sub gX w) (disX : Disj h gX) (K : (List (List Int)) → Prop) (hF : F_compactR s_ K) : Calls Tryz.prog 108 #[.slice as_ s_.length cs_, .func (.func 109) #[] #[]] w fun e w' => ∃ r : List (List Int), K r ∧ e = .returned (.slice as_ r.length cs_) ∧ SH (Kp.ex w h gX) h w' [OwnPX h 22 1 as_ cs_ r] := by
  refine enterX (X := OwnSl 22 1 as_ s_.length cs_ cs) (args := [.slice as_ s_.length cs_, .func (.func 109) #[] #[]]) Tryz.func108 rfl Tryz.ntmps108 rfl hs subX disX ownX ?_
  refine .seq ?_
  refine .region ?_
  refine .v (asg rfl) rfl rfl rfl ?_
  refine .nil ?_
  refine .seqN ?_
  refine .seq ?_
  refine .seq ?_
  refine .region ?_
  refine .v (mv rfl) rfl rfl rfl ?_
  refine .v (ln rfl tS35.is) rfl rfl rfl ?_
  refine .v (bi rfl rfl rfl) rfl rfl rfl ?_
  refine .nil ?_
  refine .seqN ?_
  refine .cond rfl (fun q3 => ?_) (fun q3 => ?_)
  · replace hF := hF.1 q3
    refine .seq ?_
    refine .region ?_
    refine .v (mv rfl) rfl rfl rfl ?_
    refine .v (asg rfl) rfl rfl rfl ?_
    refine .nil ?_
    refine .seqN ?_
    refine .ret ?_
    refine .seqR ?_
    refine .res1 rfl (rvT rfl) (fun w' S => ⟨s_, hF, rfl, S.wholeP (k := 0) rfl q1 rfl⟩)
  replace hF := hF.2 q3
  refine .skip ?_
  refine .seqN ?_
  refine .seq ?_
  refine .seq ?_
  refine .region ?_
  refine .v (asg rfl) rfl rfl rfl ?_
  refine .nil ?_
  refine .seqN ?_
  refine .block ?_
  obtain ⟨I1, μ1, q4021, q4022⟩ := hF
  refine .loop' (σ := Int) (fun z => I1 z) (fun z => μ1 z) (fun z => [(0, .slice as_ s_.length cs_), (1, .func (.func 109) #[] #[]), (5, .int .i64 z)]) (fun _ => [OwnSl 22 1 as_ s_.length cs_ cs]) (fun _ => h) 1 q4021 (.cons rfl (.cons rfl (.cons rfl (.nil)))) rfl (FH.le_refl _) ?_
  rintro k q4021
  have hF := q4022 k q4021
  show J _ _ _ _ _ [(0, .slice as_ s_.length cs_), (1, .func (.func 109) #[] #[]), (5, .int .i64 k)] [OwnSl 22 1 as_ s_.length cs_ cs] h
  refine .seq ?_
  refine .seq ?_
  refine .region ?_
  refine .v (mv rfl) rfl rfl rfl ?_
  refine .v (mv rfl) rfl rfl rfl ?_
  refine .v (ln rfl tS35.is) rfl rfl rfl ?_
  refine .v (bi rfl rfl rfl) rfl rfl rfl ?_
  refine .nil ?_
  refine .seqN ?_
  refine .cond rfl (fun q4024 => ?_) (fun q4024 => ?_)
  · replace hF := hF.1 q4024
    refine .skip ?_
    refine .seqN ?_
    refine .seq ?_
    refine .block ?_
    refine .seq ?_
    refine .open_ (by kernel_rfl) (by kernel_rfl) ?_
    refine .v (mv rfl) rfl rfl rfl ?_
    refine .v (mv rfl) rfl rfl rfl ?_
    refine .v (mv rfl) rfl rfl rfl ?_
    obtain ⟨q4559, hF⟩ := hF
    refine .v (ixS rfl rfl tS35 (k := 0) rfl q4559) rfl rfl rfl ?_
    obtain ⟨_, ⟨a, c, rfl, q4560, q4561⟩, q4562⟩ := RepL.get q1 (gt_get q4559)
    refine .v (ld1 (v := .slice a ((gt s_ k).length) c) rfl tO22 (cellS (k := 0) rfl (q4562 0 _ rfl))) rfl rfl rfl ?_
    refine .v (mv rfl) rfl rfl rfl ?_
    refine .v (mv rfl) rfl rfl rfl ?_
    refine .v (bi rfl rfl rfl) rfl rfl rfl ?_
    obtain ⟨q4563, hF⟩ := hF
    refine .v (ixS rfl rfl tS35 (k := 0) rfl q4563) rfl rfl rfl ?_
    obtain ⟨_, ⟨a2, c2, rfl, q4564, q4565⟩, q4566⟩ := RepL.get q1 (gt_get q4563)
    refine .v (ld1 (v := .slice a2 ((gt s_ (IntKind.i64.wrap (k - 1))).length) c2) rfl tO22 (cellS (k := 0) rfl (q4566 0 _ rfl))) rfl rfl rfl ?_
    obtain ⟨q4567, hF⟩ := hF
    obtain ⟨r2, q4568⟩ : ∃ y_ : Bool, y_ = sp_sequal (gt s_ k) (gt s_ (IntKind.i64.wrap (k - 1))) := ⟨_, rfl⟩
    replace hF := hF r2 q4568
    refine .c (cl (v := .bool r2) Tryz.call109 rfl rfl (fun w S => (by rw [q4568]; exact c_sequal S.sub (gt s_ k) a c q4561 q4560 (gt s_ (IntKind.i64.wrap (k - 1))) a2 c2 q4565 q4564 q4567))) rfl rfl rfl ?_
    refine .fin ?_
    refine .seqN ?_
    refine .cond rfl (fun q4569 => ?_) (fun q4569 => ?_)
    · replace hF := hF.1 q4569
      refine .seq ?_
      refine .fact (fun w S => look_len S (k := 0) rfl) (fun q4570 => ?_)
      refine .region ?_
      refine .v (mv rfl) rfl rfl rfl ?_
      refine .v (mv rfl) rfl rfl rfl ?_
      obtain ⟨q4571, hF⟩ := hF
      refine .v (slL tS35 rfl rfl q4571.1 rfl (Int.toNat_le.2 q4571.2)) rfl rfl rfl ?_
      refine .v (asg rfl) rfl rfl rfl ?_
      refine .nil ?_
      refine .seqN ?_
      refine .seq ?_
      refine .seq ?_
      refine .region ?_
      refine .v (asg rfl) rfl rfl rfl ?_
      refine .nil ?_
      refine .seqN ?_
      refine .block ?_
      obtain ⟨I2, μ2, q4781, q4782⟩ := hF
      refine .loop' (σ := Int × Int × List (List Int) × List Value) (fun z => I2 z.1 z.2.1 z.2.2.1 ∧ RepL h z.2.2.1 z.2.2.2 ∧ z.2.2.1.length = s_.length) (fun z => μ2 z.1 z.2.1 z.2.2.1) (fun z => [(0, .slice as_ s_.length cs_), (1, .func (.func 109) #[] #[]), (5, .int .i64 z.1), (6, .slice (sla as_ cs_ (k).toNat 1) (s_.length - (k).toNat) (cs_ - (k).toNat)), (7, .int .i64 z.2.1)]) (fun z => [OwnSl 22 1 as_ s_.length cs_ z.2.2.2]) (fun _ => h) (k, 1, s_, cs) ⟨q4781, q1, rfl⟩ (.cons rfl (.cons rfl (.cons rfl (.cons rfl (.cons rfl (.nil)))))) rfl (FH.le_refl _) ?_
      rintro ⟨k3, k22, s_2, css⟩ ⟨q4781, q4738, q4739⟩
      have hF := q4782 k3 k22 s_2 q4781
      show J _ _ _ _ _ [(0, .slice as_ s_.length cs_), (1, .func (.func 109) #[] #[]), (5, .int .i64 k3), (6, .slice (sla as_ cs_ (k).toNat 1) (s_.length - (k).toNat) (cs_ - (k).toNat)), (7, .int .i64 k22)] [OwnSl 22 1 as_ s_.length cs_ css] h
      refine .seq ?_
      refine .seq ?_
      refine .region ?_
      refine .v (mv rfl) rfl rfl rfl ?_
      refine .v (mv rfl) rfl rfl rfl ?_
      refine .v (ln rfl tS35.is) rfl rfl rfl ?_
      refine .v (bi rfl rfl rfl) rfl rfl rfl ?_
      refine .nil ?_
      refine .seqN ?_
      refine .cond rfl (fun q4784 => ?_) (fun q4784 => ?_)
      · replace hF := hF.1 q4784
        refine .skip ?_
        refine .seqN ?_
        refine .share (σ := Int × List (List Int) × List Value) (fun z => F_compactR_J1 s_2 k3 k22 I2 μ2 z.2.1 z.1 ∧ RepL h z.2.1 z.2.2 ∧ z.2.1.length = s_.length) (fun z => [(0, .slice as_ s_.length cs_), (1, .func (.func 109) #[] #[]), (5, .int .i64 z.1), (6, .slice (sla as_ cs_ (k).toNat 1) (s_.length - (k).toNat) (cs_ - (k).toNat)), (7, .int .i64 k22)]) (fun z => [OwnSl 22 1 as_ s_.length cs_ z.2.2]) (fun _ => h) ?_ (fun q4804 => ?_)
        · rintro ⟨k5, s_4, css3⟩ ⟨hF, q4802, q4803⟩
          show J _ _ _ _ _ [(0, .slice as_ s_.length cs_), (1, .func (.func 109) #[] #[]), (5, .int .i64 k5), (6, .slice (sla as_ cs_ (k).toNat 1) (s_.length - (k).toNat) (cs_ - (k).toNat)), (7, .int .i64 k22)] [OwnSl 22 1 as_ s_.length cs_ css3] h
          refine .region ?_
          refine .v (mv rfl) rfl rfl rfl ?_
          refine .v (bi rfl rfl rfl) rfl rfl rfl ?_
          refine .v (asg rfl) rfl rfl rfl ?_
          refine .nil ?_
          exact .round (k5, IntKind.i64.wrap (k22 + 1), s_4, css3) ⟨hF.1, q4802, q4803⟩ hF.2 (.cons rfl (.cons rfl (.cons rfl (.cons rfl (.cons rfl (.nil)))))) rfl (FH.le_refl _)
        refine .block ?_
        refine .seq ?_
        refine .open_ (by kernel_rfl) (by kernel_rfl) ?_
        refine .v (mv rfl) rfl rfl rfl ?_
        refine .v (mv rfl) rfl rfl rfl ?_
        refine .v (mv rfl) rfl rfl rfl ?_
        obtain ⟨q4805, hF⟩ := hF
        obtain ⟨q4806, hF⟩ := hF
        refine .v (ixV rfl rfl tS35 (k := 0) rfl q4805 (inb_n q4806 q4739)) rfl rfl rfl ?_
        obtain ⟨_, ⟨a3, c3, rfl, q4807, q4808⟩, q4809⟩ := RepL.get q4738 (gt_get q4806)
        refine .v (ld1 (v := .slice a3 ((gt s_2 ((((k).toNat : Nat) : Int) + k22)).length) c3) rfl tO22 (cellS (k := 0) rfl (q4809 0 _ rfl))) rfl rfl rfl ?_
        refine .v (mv rfl) rfl rfl rfl ?_
        refine .v (mv rfl) rfl rfl rfl ?_
        refine .v (bi rfl rfl rfl) rfl rfl rfl ?_
        obtain ⟨q4810, hF⟩ := hF
        obtain ⟨q4811, hF⟩ := hF
        refine .v (ixV rfl rfl tS35 (k := 0) rfl q4810 (inb_n q4811 q4739)) rfl rfl rfl ?_
        obtain ⟨_, ⟨a4, c4, rfl, q4812, q4813⟩, q4814⟩ := RepL.get q4738 (gt_get q4811)
        refine .v (ld1 (v := .slice a4 ((gt s_2 ((((k).toNat : Nat) : Int) + (IntKind.i64.wrap (k22 - 1)))).length) c4) rfl tO22 (cellS (k := 0) rfl (q4814 0 _ rfl))) rfl rfl rfl ?_
        obtain ⟨q4815, hF⟩ := hF
        obtain ⟨r3, q4816⟩ : ∃ y_ : Bool, y_ = sp_sequal (gt s_2 ((((k).toNat : Nat) : Int) + k22)) (gt s_2 ((((k).toNat : Nat) : Int) + (IntKind.i64.wrap (k22 - 1)))) := ⟨_, rfl⟩
        replace hF := hF r3 q4816
        refine .c (cl (v := .bool r3) Tryz.call109 rfl rfl (fun w S => (by rw [q4816]; exact c_sequal S.sub (gt s_2 ((((k).toNat : Nat) : Int) + k22)) a3 c3 q4808 q4807 (gt s_2 ((((k).toNat : Nat) : Int) + (IntKind.i64.wrap (k22 - 1)))) a4 c4 q4813 q4812 q4815))) rfl rfl rfl ?_
        refine .v (nt rfl) rfl rfl rfl ?_
        refine .fin ?_
        refine .seqN ?_
        refine .cond rfl (fun q4817 => ?_) (fun q4817 => ?_)
        · replace hF := hF.1 q4817
          refine .seq ?_
          refine .region ?_
          refine .v (mv rfl) rfl rfl rfl ?_
          refine .v (mv rfl) rfl rfl rfl ?_
          refine .v (mv rfl) rfl rfl rfl ?_
          refine .v (mv rfl) rfl rfl rfl ?_
          refine .v (ixV rfl rfl tS35 (k := 0) rfl q4805 (inb_n q4806 q4739)) rfl rfl rfl ?_
          refine .v (ld1 (v := .slice a3 ((gt s_2 ((((k).toNat : Nat) : Int) + k22)).length) c3) rfl tO22 (cellS (k := 0) rfl (q4809 0 _ rfl))) rfl rfl rfl ?_
          obtain ⟨q4818, hF⟩ := hF
          refine .v (ixS rfl rfl tS35 (k := 0) rfl (inb_n q4818 q4739)) rfl rfl rfl ?_
          obtain ⟨d, q4819⟩ : ∃ y_ : List (List Int), y_ = (s_2.set (k3).toNat (gt s_2 ((((k).toNat : Nat) : Int) + k22))) := ⟨_, rfl⟩
          replace hF := hF d q4819
          have q4821 : d.length = s_.length := by rw [q4819]; exact List.length_set.trans q4739
          have q4820 : RepL h d (wrL css ((k3).toNat * 1) [.slice a3 ((gt s_2 ((((k).toNat : Nat) : Int) + k22)).length) c3]) := by rw [q4819]; exact RepL.set q4738 (inb_lt q4818) ⟨a3, c3, rfl, q4807, q4808⟩
          refine stS (k := 0) (cs' := (wrL css ((k3).toNat * 1) [.slice a3 ((gt s_2 ((((k).toNat : Nat) : Int) + k22)).length) c3])) rfl (fun _ => rfl) rfl rfl (fun w => (tO22 w).2) rfl rfl rfl (by rw [← q4739]; exact inb_pos q4818) (rep_room q4738 q4818) rfl ?_
          refine .cast (A' := [OwnSl 22 1 as_ s_.length cs_ (wrL css ((k3).toNat * 1) [.slice a3 ((gt s_2 ((((k).toNat : Nat) : Int) + k22)).length) c3])]) rfl ?_
          refine .nil ?_
          refine .seqN ?_
          refine .region ?_
          refine .v (mv rfl) rfl rfl rfl ?_
          refine .v (bi rfl rfl rfl) rfl rfl rfl ?_
          refine .v (asg rfl) rfl rfl rfl ?_
          refine .nil ?_
          refine .blkN ?_
          exact .use q4804 (IntKind.i64.wrap (k3 + 1), d, (wrL css ((k3).toNat * 1) [.slice a3 ((gt s_2 ((((k).toNat : Nat) : Int) + k22)).length) c3])) ⟨hF, q4820, q4821⟩ (.cons rfl (.cons rfl (.cons rfl (.cons rfl (.cons rfl (.nil)))))) rfl (FH.le_refl _)
        replace hF := hF.2 q4817
        refine .skip ?_
        refine .blkN ?_
        exact .use q4804 (k3, s_2, css) ⟨hF, q4738, q4739⟩ (.cons rfl (.cons rfl (.cons rfl (.cons rfl (.cons rfl (.nil)))))) rfl (FH.le_refl _)
      replace hF := hF.2 q4784
      refine .exit ?_
      refine .seqX ?_
      refine .seqX ?_
      refine .blkX ?_
      refine .seqN ?_
      refine .seq ?_
      refine .fact (fun w S => look_len S (k := 0) rfl) (fun q4822 => ?_)
      refine .region ?_
      refine .v (mv rfl) rfl rfl rfl ?_
      refine .v (mv rfl) rfl rfl rfl ?_
      obtain ⟨q4823, hF⟩ := hF
      refine .v (slL tS35 rfl rfl q4823.1 rfl (Int.toNat_le.2 q4823.2)) rfl rfl rfl ?_
      have q4824 : RepL h (s_2.take (k3).toNat ++ List.replicate (s_.length - (k3).toNat) []) (css.take (k3).toNat ++ List.replicate (s_.length - (k3).toNat) (.slice none 0 0)) := RepL.append (by have := RepL.take_ q4738 (k3).toNat; rwa [show Rep.sz (List Int) = 1 from rfl, Nat.mul_one] at this) (rep_nils _)
      have q4825 : (s_2.take (k3).toNat ++ List.replicate (s_.length - (k3).toNat) []).length = s_.length := take_rep q4739 (Int.toNat_le.2 q4823.2)
      refine clS (k := 0) (lo := (k3).toNat) tS35 rfl rfl rfl rfl rfl (Int.toNat_le.2 q4823.2) rfl ?_
      refine .cast (A' := [OwnSl 22 1 as_ s_.length cs_ (css.take (k3).toNat ++ List.replicate (s_.length - (k3).toNat) (.slice none 0 0))]) rfl ?_
      refine .nil ?_
      refine .seqN ?_
      refine .seq ?_
      refine .region ?_
      refine .v (mv rfl) rfl rfl rfl ?_
      refine .v (mv rfl) rfl rfl rfl ?_
      refine .v (slH tS35 rfl rfl q4823.1 rfl (Nat.le_trans (Int.toNat_le.2 q4823.2) q4822)) rfl rfl rfl ?_
      refine .v (asg rfl) rfl rfl rfl ?_
      refine .nil ?_
      refine .seqN ?_
      refine .ret ?_
      refine .blkR ?_
      refine .seqR ?_
      refine .seqR ?_
      refine .blkR ?_
      refine .seqR ?_
      refine .res1 rfl (rvT rfl) (fun w' S => ⟨((s_2.take (k3).toNat ++ List.replicate (s_.length - (k3).toNat) []).take ((k3).toNat)), hF, (by rw [len_take (q4825) (Int.toNat_le.2 q4823.2)]), S.prefixP (k := 0) rfl q4824 q4825 (Int.toNat_le.2 q4823.2)⟩)
    replace hF := hF.2 q4569
    refine .skip ?_
    refine .blkN ?_
    refine .seqN ?_
    refine .region ?_
    refine .v (mv rfl) rfl rfl rfl ?_
    refine .v (bi rfl rfl rfl) rfl rfl rfl ?_
    refine .v (asg rfl) rfl rfl rfl ?_
    refine .nil ?_
    exact .round (IntKind.i64.wrap (k + 1)) hF.1 hF.2 (.cons rfl (.cons rfl (.cons rfl (.nil)))) rfl (FH.le_refl _)
  replace hF := hF.2 q4024
  refine .exit ?_
  refine .seqX ?_
  refine .seqX ?_
  refine .blkX ?_
  refine .seqN ?_
  refine .seq ?_
  refine .region ?_
  refine .v (mv rfl) rfl rfl rfl ?_
  refine .v (asg rfl) rfl rfl rfl ?_
  refine .nil ?_
  refine .seqN ?_
  refine .ret ?_
  refine .res1 rfl (rvT rfl) (fun w' S => ⟨s_, hF, rfl, S.wholeP (k := 0) rfl q1 rfl⟩)

theorem c_compactR {h : FH} {w : World} (hs : Sub h w) (s_ : List (List Int)) (as_ : Option Addr) (cs_ : Nat) {cs : List Value} (q1 : RepL h s_ cs) {gX : FH} (ownX : OwnSl 22 1 as_ s_.length cs_ cs gX) (subX : Sub gX w) (disX : Disj h gX) (hp : pre_compactR s_) : Calls Tryz.prog 108 #[.slice as_ s_.length cs_, .func (.func 109) #[] #[]] w fun e w' => e = .returned (.slice as_ (sp_compactR s_).length cs_) ∧ SH (Kp.ex w h gX) h w' [OwnPX h 22 1 as_ cs_ (sp_compactR s_)] :=
  (w_compactR hs s_ as_ cs_ q1 ownX subX disX  (fun r => r = sp_compactR s_) (ok_compactR s_ hp)).mono fun _ _ ⟨r, hk, he, hS⟩ => ⟨by rw [← hk]; exact he, by rw [← hk]; exact hS⟩

theorem w_normal {h : FH} {w : World} (hs : Sub h w) (l : List (List Int)) (al2 : Option Addr) (cl2 : Nat) {cs : List Value} (q1 : RepL h l cs) {gX : FH} (ownX : OwnSl 22 1 al2 l.length cl2 cs gX) (subX : Sub gX w) (disX : Disj h gX) (K : (List (List Int)) → Prop) (hF : F_normal l K) : Calls Tryz.prog 84 #[.slice al2 l.length cl2] w fun e w' => ∃ r : List (List Int), K r ∧ e = .returned (.slice al2 r.length cl2) ∧ SH (Kp.ex w h gX) h w' [OwnPX h 22 1 al2 cl2 r] := by
  refine enterX (X := OwnSl 22 1 al2 l.length cl2 cs) (args := [.slice al2 l.length cl2]) Tryz.func84 rfl Tryz.ntmps84 rfl hs subX disX ownX ?_
  refine .seq ?_
  refine .region ?_
  refine .v (asg rfl) rfl rfl rfl ?_
  refine .nil ?_
  refine .seqN ?_
  refine .seq ?_
  refine .region ?_
  refine .v (mv rfl) rfl rfl rfl ?_
  obtain ⟨q2, hF⟩ := hF
  obtain ⟨r2, q3⟩ : ∃ y_ : List (List Int), y_ = sp_sortR l := ⟨_, rfl⟩
  replace hF := hF r2 q3
  refine callX (k := 0) (v := .tuple #[]) (X' := OwnPX h 22 1 al2 cl2 r2) rfl Tryz.call107 rfl rfl (fun w g hx sg hd hs' => ?_) rfl ?_
  · rw [q3]; exact c_sortR hs' l al2 cl2 q1 (own_n (rfl).symm hx) sg hd q2
  have q5 : r2.length = l.length := by rw [q3]; exact (sortR_len l).trans rfl
  refine .openPn (k := 0) rfl q5 (fun cs2 q4 => ?_)
  refine .cast (A' := [OwnSl 22 1 al2 l.length cl2 cs2]) rfl ?_
  refine .nil ?_
  refine .seqN ?_
  refine .seq ?_
  refine .region ?_
  refine .v (mv rfl) rfl rfl rfl ?_
  obtain ⟨q6, hF⟩ := hF
  obtain ⟨r3, q7⟩ : ∃ y_ : List (List Int), y_ = sp_compactR r2 := ⟨_, rfl⟩
  replace hF := hF r3 q7
  refine callX (k := 0) (v := .slice al2 r3.length cl2) (X' := OwnPX h 22 1 al2 cl2 r3) rfl Tryz.call108 rfl rfl (fun w g hx sg hd hs' => ?_) rfl ?_
  · rw [q7]; have hc_ := c_compactR hs' r2 al2 cl2 q4 (own_n (q5).symm hx) sg hd q6; rw [q5] at hc_; exact hc_
  refine .openP (k := 0) rfl (fun cs3 q8 => ?_)
  refine .cast (A' := [OwnSl 22 1 al2 r3.length cl2 cs3]) rfl ?_
  refine .v (asg rfl) rfl rfl rfl ?_
  refine .nil ?_
  refine .seqN ?_
  refine .ret ?_
  refine .res1 rfl (rvT rfl) (fun w' S => ⟨r3, hF, rfl, S.wholeP (k := 0) rfl q8 rfl⟩)

theorem c_normal {h : FH} {w : World} (hs : Sub h w) (l : List (List Int)) (al2 : Option Addr) (cl2 : Nat) {cs : List Value} (q1 : RepL h l cs) {gX : FH} (ownX : OwnSl 22 1 al2 l.length cl2 cs gX) (subX : Sub gX w) (disX : Disj h gX) (hp : pre_normal l) : Calls Tryz.prog 84 #[.slice al2 l.length cl2] w fun e w' => e = .returned (.slice al2 (sp_normal l).length cl2) ∧ SH (Kp.ex w h gX) h w' [OwnPX h 22 1 al2 cl2 (sp_normal l)] :=
  (w_normal hs l al2 cl2 q1 ownX subX disX (fun r => r = sp_normal l) (ok_normal l hp)).mono fun _ _ ⟨r, hk, he, hS⟩ => ⟨by rw [← hk]; exact he, by rw [← hk]; exact hS⟩

set_option maxHeartbeats 8000000 in
theorem w_worlds {h : FH} {w : World} (hs : Sub h w) (t : Task) (at_ : Option Addr) (ct : Nat) (_q1 : RSl h at_ t.init) (_q2 : t.init.length ≤ ct) (at_2 : Option Addr) (ct2 : Nat) (_q3 : RSl h at_2 t.goal) (_q4 : t.goal.length ≤ ct2) (at_3 : Option Addr) (ct3 : Nat) (_q5 : RSl h at_3 t.ops) (_q6 : t.ops.length ≤ ct3) (unknown : List Int) (aunknown : Option Addr) (cunknown : Nat) (_q7 : RSl h aunknown unknown) (_q8 : unknown.length ≤ cunknown) (K : (List (List Int)) → Prop) (hF : F_worlds t unknown K) : Calls Tryz.prog 48 #[.agg #[.int .i64 t.facts, .slice at_ t.init.length ct, .slice at_2 t.goal.length ct2, .slice at_3 t.ops.length ct3], .slice aunknown unknown.length cunknown] w fun e w' => ∃ (r : List (List Int)) (z : Option Addr × Nat) (h1 : FH), K r ∧ e = .returned (.slice z.1 r.length z.2) ∧ FH.le h h1 ∧ (RSl h1 z.1 r ∧ r.length ≤ z.2) ∧ SH (Kp.all w h) h1 w' [] := by
  refine enter (args := [.agg #[.int .i64 t.facts, .slice at_ t.init.length ct, .slice at_2 t.goal.length ct2, .slice at_3 t.ops.length ct3], .slice aunknown unknown.length cunknown]) Tryz.func48 rfl Tryz.ntmps48 rfl hs ?_
  refine .seq ?_
  refine .region ?_
  refine bx (vs := [.int .i64 t.facts, .slice at_ t.init.length ct, .slice at_2 t.goal.length ct2, .slice at_3 t.ops.length ct3]) rfl rfl rfl (fun pt => ?_)
  refine .v (asg rfl) rfl rfl rfl ?_
  refine .nil ?_
  refine .seqN ?_
  refine .seq ?_
  refine .region ?_
  refine .v (asg rfl) rfl rfl rfl ?_
  refine .nil ?_
  refine .seqN ?_
  refine .seq ?_
  refine .seq ?_
  refine .region ?_
  refine .v (mv rfl) rfl rfl rfl ?_
  refine .v (ln rfl tS22.is) rfl rfl rfl ?_
  obtain ⟨q9, hF⟩ := hF
  obtain ⟨x, q10⟩ : ∃ y_ : Int, y_ = (IntKind.i64.wrap (1 * 2 ^ (min ((((unknown.length : Nat) : Int) : Int)).toNat (IntKind.bits .i64)))) := ⟨_, rfl⟩
  replace hF := hF x q10
  refine .v (v := .int .i64 x) (by rw [q10]; exact bsh rfl rfl q9 rfl) rfl rfl rfl ?_
  refine .v (mv rfl) rfl rfl rfl ?_
  refine .nil ?_
  refine .seqN ?_
  refine .block ?_
  refine .nilSl 22 1 ?_
  refine .cast (A' := [OwnSl 22 1 none (([] : List (List Int)).length) 0 [], Box pt [.int .i64 t.facts, .slice at_ t.init.length ct, .slice at_2 t.goal.length ct2, .slice at_3 t.ops.length ct3]]) rfl ?_
  refine .sel0 [1, 0] (by decide) rfl ?_
  obtain ⟨I1, μ1, q1784, q1785⟩ := hF
  refine .loop' (σ := Int × List (List Int) × Option Addr × Nat × List Value × FH) (fun z => I1 z.1 z.2.1 ∧ RepL z.2.2.2.2.2 z.2.1 z.2.2.2.2.1 ∧ FH.le h z.2.2.2.2.2) (fun z => μ1 z.1 z.2.1) (fun z => [(1, .slice aunknown unknown.length cunknown), (2, .pointer (some pt)), (5, .slice z.2.2.1 z.2.1.length z.2.2.2.1), (12, .int .i64 x), (13, .int .i64 z.1)]) (fun z => [Box pt [.int .i64 t.facts, .slice at_ t.init.length ct, .slice at_2 t.goal.length ct2, .slice at_3 t.ops.length ct3], OwnSl 22 1 z.2.2.1 z.2.1.length z.2.2.2.1 z.2.2.2.2.1]) (fun z => z.2.2.2.2.2) (0, ([] : List (List Int)), none, 0, [], h) ⟨q1784, (show RepL h ([] : List (List Int)) [] from rfl), (FH.le_refl _)⟩ (.cons rfl (.cons rfl (.cons rfl (.cons rfl (.cons rfl (.nil)))))) rfl (FH.le_refl _) ?_
  rintro ⟨t13, out, aout, cout, csout, h19⟩ ⟨q1784, q1429, q1430⟩
  have hF := q1785 t13 out q1784
  show J _ _ _ _ _ [(1, .slice aunknown unknown.length cunknown), (2, .pointer (some pt)), (5, .slice aout out.length cout), (12, .int .i64 x), (13, .int .i64 t13)] [Box pt [.int .i64 t.facts, .slice at_ t.init.length ct, .slice at_2 t.goal.length ct2, .slice at_3 t.ops.length ct3], OwnSl 22 1 aout out.length cout csout] h19
  refine .seq ?_
  refine .region ?_
  refine .v (bi rfl rfl rfl) rfl rfl rfl ?_
  refine .nil ?_
  refine .seqN ?_
  refine .seq ?_
  refine .cond rfl (fun q1788 => ?_) (fun q1788 => ?_)
  · replace hF := hF.1 q1788
    refine .skip ?_
    refine .seqN ?_
    refine .seq ?_
    refine .block ?_
    refine .seq ?_
    refine .region ?_
    refine .v (mv rfl) rfl rfl rfl ?_
    refine .v (asg rfl) rfl rfl rfl ?_
    refine .nil ?_
    refine .seqN ?_
    refine .seq ?_
    refine .region ?_
    refine .v (asg rfl) rfl rfl rfl ?_
    refine .nil ?_
    refine .seqN ?_
    refine .seq ?_
    refine .seq ?_
    refine .region ?_
    refine .v (mv rfl) rfl rfl rfl ?_
    refine .v (ln rfl tS22.is) rfl rfl rfl ?_
    refine .v (mv rfl) rfl rfl rfl ?_
    refine .nil ?_
    refine .seqN ?_
    refine .block ?_
    refine .nilSl 3 1 ?_
    refine .cast (A' := [OwnSl 3 1 none (([] : List Int).length) 0 (flL ([] : List Int)), Box pt [.int .i64 t.facts, .slice at_ t.init.length ct, .slice at_2 t.goal.length ct2, .slice at_3 t.ops.length ct3], OwnSl 22 1 aout out.length cout csout]) rfl ?_
    refine .sel0 [1, 2, 0] (by decide) rfl ?_
    obtain ⟨I2, μ2, q2109, q2110⟩ := hF
    refine .loop' (σ := Int × List Int × Option Addr × Nat) (fun z => I2 z.1 z.2.1) (fun z => μ2 z.1 z.2.1) (fun z => [(1, .slice aunknown unknown.length cunknown), (2, .pointer (some pt)), (5, .slice aout out.length cout), (6, .int .i64 t13), (7, .slice z.2.2.1 z.2.1.length z.2.2.2), (12, .int .i64 x), (13, .int .i64 t13), (16, .slice aunknown unknown.length cunknown), (17, .int .i64 ((unknown.length : Nat) : Int)), (18, .int .i64 z.1)]) (fun z => [Box pt [.int .i64 t.facts, .slice at_ t.init.length ct, .slice at_2 t.goal.length ct2, .slice at_3 t.ops.length ct3], OwnSl 22 1 aout out.length cout csout, OwnSl 3 1 z.2.2.1 z.2.1.length z.2.2.2 (flL z.2.1)]) (fun _ => h19) (0, ([] : List Int), none, 0) q2109 (.cons rfl (.cons rfl (.cons rfl (.cons rfl (.cons rfl (.cons rfl (.cons rfl (.cons rfl (.cons rfl (.cons rfl (.nil))))))))))) rfl (FH.le_refl _) ?_
    rintro ⟨t18, add, aadd, cadd⟩ q2109
    have hF := q2110 t18 add q2109
    show J _ _ _ _ _ [(1, .slice aunknown unknown.length cunknown), (2, .pointer (some pt)), (5, .slice aout out.length cout), (6, .int .i64 t13), (7, .slice aadd add.length cadd), (12, .int .i64 x), (13, .int .i64 t13), (16, .slice aunknown unknown.length cunknown), (17, .int .i64 ((unknown.length : Nat) : Int)), (18, .int .i64 t18)] [Box pt [.int .i64 t.facts, .slice at_ t.init.length ct, .slice at_2 t.goal.length ct2, .slice at_3 t.ops.length ct3], OwnSl 22 1 aout out.length cout csout, OwnSl 3 1 aadd add.length cadd (flL add)] h19
    refine .seq ?_
    refine .region ?_
    refine .v (bi rfl rfl rfl) rfl rfl rfl ?_
    refine .nil ?_
    refine .seqN ?_
    refine .seq ?_
    refine .cond rfl (fun q2113 => ?_) (fun q2113 => ?_)
    · replace hF := hF.1 q2113
      refine .skip ?_
      refine .seqN ?_
      refine .share (σ := List Int × Option Addr × Nat) (fun z => F_worlds_J1 add t18 I2 μ2 z.1) (fun z => [(1, .slice aunknown unknown.length cunknown), (2, .pointer (some pt)), (5, .slice aout out.length cout), (6, .int .i64 t13), (7, .slice z.2.1 z.1.length z.2.2), (12, .int .i64 x), (13, .int .i64 t13), (16, .slice aunknown unknown.length cunknown), (17, .int .i64 ((unknown.length : Nat) : Int)), (18, .int .i64 t18)]) (fun z => [Box pt [.int .i64 t.facts, .slice at_ t.init.length ct, .slice at_2 t.goal.length ct2, .slice at_3 t.ops.length ct3], OwnSl 22 1 aout out.length cout csout, OwnSl 3 1 z.2.1 z.1.length z.2.2 (flL z.1)]) (fun _ => h19) ?_ (fun q2121 => ?_)
      · rintro ⟨add3, aadd3, cadd3⟩ hF
        show J _ _ _ _ _ [(1, .slice aunknown unknown.length cunknown), (2, .pointer (some pt)), (5, .slice aout out.length cout), (6, .int .i64 t13), (7, .slice aadd3 add3.length cadd3), (12, .int .i64 x), (13, .int .i64 t13), (16, .slice aunknown unknown.length cunknown), (17, .int .i64 ((unknown.length : Nat) : Int)), (18, .int .i64 t18)] [Box pt [.int .i64 t.facts, .slice at_ t.init.length ct, .slice at_2 t.goal.length ct2, .slice at_3 t.ops.length ct3], OwnSl 22 1 aout out.length cout csout, OwnSl 3 1 aadd3 add3.length cadd3 (flL add3)] h19
        refine .region ?_
        refine .v (bi rfl rfl rfl) rfl rfl rfl ?_
        refine .v (mv rfl) rfl rfl rfl ?_
        refine .nil ?_
        exact .round (IntKind.i64.wrap (t18 + 1), add3, aadd3, cadd3) hF.1 hF.2 (.cons rfl (.cons rfl (.cons rfl (.cons rfl (.cons rfl (.cons rfl (.cons rfl (.cons rfl (.cons rfl (.cons rfl (.nil))))))))))) rfl (FH.le_refl _)
      refine .block ?_
      refine .seq ?_
      refine .region ?_
      refine .v (mv rfl) rfl rfl rfl ?_
      obtain ⟨q2122, hF⟩ := hF
      refine .v (ix rfl rfl tS22 (_q7.ne (by decide) (inb_pos q2122)) q2122) rfl rfl rfl ?_
      refine .v (ld1 (v := .int .i64 (gt unknown t18)) rfl tO3 (cellH ((_q7.mono (q1430)).elemF q2122 (by decide) 0 _ rfl))) rfl rfl rfl ?_
      refine .v (asg rfl) rfl rfl rfl ?_
      refine .v (asg rfl) rfl rfl rfl ?_
      refine .nil ?_
      refine .seqN ?_
      refine .seq ?_
      refine .region ?_
      refine .v (mv rfl) rfl rfl rfl ?_
      refine .v (mv rfl) rfl rfl rfl ?_
      obtain ⟨q2123, hF⟩ := hF
      refine .v (bsh rfl rfl q2123 rfl) rfl rfl rfl ?_
      obtain ⟨x2, q2124⟩ : ∃ y_ : Int, y_ = (bits .and .i64 (Int.fdiv t13 (2 ^ (min ((t18 : Int)).toNat (IntKind.bits .i64)))) 1) := ⟨_, rfl⟩
      replace hF := hF x2 q2124
      refine .v (v := .int .i64 x2) (by rw [q2124]; exact bi rfl rfl rfl) rfl rfl rfl ?_
      refine .v (bi rfl rfl rfl) rfl rfl rfl ?_
      refine .nil ?_
      refine .seqN ?_
      refine .cond rfl (fun q2125 => ?_) (fun q2125 => ?_)
      · replace hF := hF.1 q2125
        refine .region ?_
        refine .v (mv rfl) rfl rfl rfl ?_
        refine .v (mv rfl) rfl rfl rfl ?_
        refine bs2 (cs := #[.int .i64 (gt unknown t18)]) (pv := [(0, .int .i64 (gt unknown t18))]) tS22 rfl rfl (by decide) (by decide) rfl rfl rfl (fun a _ => ?_)
        refine .cast (A' := [OwnSl 3 1 a (([(gt unknown t18)] : List Int).length) 1 (flL ([(gt unknown t18)] : List Int)), Box pt [.int .i64 t.facts, .slice at_ t.init.length ct, .slice at_2 t.goal.length ct2, .slice at_3 t.ops.length ct3], OwnSl 22 1 aout out.length cout csout, OwnSl 3 1 aadd add.length cadd (flL add)]) rfl ?_
        obtain ⟨q2127, hF⟩ := hF
        have q2128 : add.length + ([(gt unknown t18)] : List Int).length = ((add ++ ([(gt unknown t18)] : List Int))).length := len_app rfl rfl
        refine app (k := 3) (news := flL ([(gt unknown t18)] : List Int)) (cs' := flL (add ++ ([(gt unknown t18)] : List Int))) (nm := ((add ++ ([(gt unknown t18)] : List Int))).length) tS22 rfl (by decide) rfl rfl rfl (by rw [flL_len]; rfl) (srcS (k := 0) rfl) (flL_one _) (room_of q2128 q2127).1 (room_of q2128 q2127).2 q2128 (flL_append _ _).symm rfl (fun a2 c => ?_)
        refine .cast (A' := [OwnSl 3 1 a (([(gt unknown t18)] : List Int).length) 1 (flL ([(gt unknown t18)] : List Int)), Box pt [.int .i64 t.facts, .slice at_ t.init.length ct, .slice at_2 t.goal.length ct2, .slice at_3 t.ops.length ct3], OwnSl 22 1 aout out.length cout csout, OwnSl 3 1 a2 ((add ++ ([(gt unknown t18)] : List Int)).length) c (flL (add ++ ([(gt unknown t18)] : List Int)))]) rfl ?_
        refine .v (asg rfl) rfl rfl rfl ?_
        refine .nil ?_
        refine .blkN ?_
        refine .sel0 [1, 2, 3] (by decide) rfl ?_
        exact .use q2121 ((add ++ ([(gt unknown t18)] : List Int)), a2, c) hF (.cons rfl (.cons rfl (.cons rfl (.cons rfl (.cons rfl (.cons rfl (.cons rfl (.cons rfl (.cons rfl (.cons rfl (.nil))))))))))) rfl (FH.le_refl _)
      replace hF := hF.2 q2125
      refine .skip ?_
      refine .blkN ?_
      exact .use q2121 (add, aadd, cadd) hF (.cons rfl (.cons rfl (.cons rfl (.cons rfl (.cons rfl (.cons rfl (.cons rfl (.cons rfl (.cons rfl (.cons rfl (.nil))))))))))) rfl (FH.le_refl _)
    replace hF := hF.2 q2113
    refine .exit ?_
    refine .seqX ?_
    refine .seqX ?_
    refine .blkX ?_
    refine .seqN ?_
    refine .region ?_
    refine .v (mv rfl) rfl rfl rfl ?_
    refine .v (fa rfl tF25_1) rfl rfl rfl ?_
    refine .v (ld1 rfl tO22 (cellB (off := 1) (k := 0) rfl rfl)) rfl rfl rfl ?_
    refine .v (mv rfl) rfl rfl rfl ?_
    refine .v (mv rfl) rfl rfl rfl ?_
    obtain ⟨q2129, hF⟩ := hF
    obtain ⟨r2, q2130⟩ : ∃ y_ : List Int, y_ = sp_update t.init add unknown := ⟨_, rfl⟩
    replace hF := hF r2 q2130
    refine clO (α := Option Addr × Nat) (V := fun z => .slice z.1 r2.length z.2) (Ψ := fun z => True) (B := fun z => [OwnSl 3 1 z.1 r2.length z.2 (flL r2)]) Tryz.call83 rfl rfl (fun w S => (by rw [q2130]; obtain ⟨h_, hl_, hs_, hne_, hr_⟩ := look S (k := 2) rfl; exact (c_update hs_ t.init at_ ct (RSl.mono hl_ (_q1.mono (q1430))) _q2 add aadd cadd (RSl.of hr_) (look_len S (k := 2) rfl) unknown aunknown cunknown (RSl.mono hl_ (_q7.mono (q1430))) _q8 q2129).mono fun _ _ ⟨z, h0, h1, e1, e2, e3, e4⟩ => ⟨z, h0, h1, e1, e2, FH.le_trans hl_ e3, e4⟩)) rfl (fun z _ => ?_)
    obtain ⟨a3, c2⟩ := z
    refine .cast (A' := [OwnSl 3 1 a3 r2.length c2 (flL r2), Box pt [.int .i64 t.facts, .slice at_ t.init.length ct, .slice at_2 t.goal.length ct2, .slice at_3 t.ops.length ct3], OwnSl 22 1 aout out.length cout csout, OwnSl 3 1 aadd add.length cadd (flL add)]) rfl ?_
    refine .freezeL (k := 0) rfl (fun h26 le26 q2132 q2131 => ?_)
    refine .cast (A' := [tru, Box pt [.int .i64 t.facts, .slice at_ t.init.length ct, .slice at_2 t.goal.length ct2, .slice at_3 t.ops.length ct3], OwnSl 22 1 aout out.length cout csout, OwnSl 3 1 aadd add.length cadd (flL add)]) rfl ?_
    refine bs2 (cs := #[.slice a3 r2.length c2]) (pv := [(0, .slice a3 r2.length c2)]) tS35 rfl rfl (by decide) (by decide) rfl rfl rfl (fun a4 _ => ?_)
    refine .cast (A' := [OwnSl 22 1 a4 (([r2] : List (List Int)).length) 1 [.slice a3 r2.length c2], tru, Box pt [.int .i64 t.facts, .slice at_ t.init.length ct, .slice at_2 t.goal.length ct2, .slice at_3 t.ops.length ct3], OwnSl 22 1 aout out.length cout csout, OwnSl 3 1 aadd add.length cadd (flL add)]) rfl ?_
    obtain ⟨q2134, hF⟩ := hF
    have q2135 : out.length + ([r2] : List (List Int)).length = ((out ++ ([r2] : List (List Int)))).length := len_app rfl rfl
    have q2136 := RepL.append (RepL.mono (le26) q1429) (show RepL h26 ([r2] : List (List Int)) [.slice a3 r2.length c2] from ⟨[.slice a3 r2.length c2], _, rfl, ⟨a3, c2, rfl, (q2132), (RSl.of q2131)⟩, rfl⟩)
    refine app (k := 3) (news := [.slice a3 r2.length c2]) (cs' := (csout ++ [.slice a3 r2.length c2])) (nm := ((out ++ ([r2] : List (List Int)))).length) tS35 rfl (by decide) rfl rfl rfl (RepL.len (show RepL h26 ([r2] : List (List Int)) [.slice a3 r2.length c2] from ⟨[.slice a3 r2.length c2], _, rfl, ⟨a3, c2, rfl, (q2132), (RSl.of q2131)⟩, rfl⟩)) (srcS (k := 0) rfl) (RepL.one (show RepL h26 ([r2] : List (List Int)) [.slice a3 r2.length c2] from ⟨[.slice a3 r2.length c2], _, rfl, ⟨a3, c2, rfl, (q2132), (RSl.of q2131)⟩, rfl⟩)) (room_of q2135 q2134).1 (room_of q2135 q2134).2 q2135 rfl rfl (fun a5 c3 => ?_)
    refine .cast (A' := [OwnSl 22 1 a4 (([r2] : List (List Int)).length) 1 [.slice a3 r2.length c2], tru, Box pt [.int .i64 t.facts, .slice at_ t.init.length ct, .slice at_2 t.goal.length ct2, .slice at_3 t.ops.length ct3], OwnSl 22 1 a5 ((out ++ ([r2] : List (List Int))).length) c3 (csout ++ [.slice a3 r2.length c2]), OwnSl 3 1 aadd add.length cadd (flL add)]) rfl ?_
    refine .v (asg rfl) rfl rfl rfl ?_
    refine .nil ?_
    refine .blkN ?_
    refine .seqN ?_
    refine .region ?_
    refine .v (bi rfl rfl rfl) rfl rfl rfl ?_
    refine .v (mv rfl) rfl rfl rfl ?_
    refine .nil ?_
    refine .sel0 [2, 3] (by decide) rfl ?_
    exact .round (IntKind.i64.wrap (t13 + 1), (out ++ ([r2] : List (List Int))), a5, c3, (csout ++ [.slice a3 r2.length c2]), h26) ⟨hF.1, q2136, (FH.le_trans (q1430) (le26))⟩ hF.2 (.cons rfl (.cons rfl (.cons rfl (.cons rfl (.cons rfl (.nil)))))) rfl (FH.le_refl _)
  replace hF := hF.2 q1788
  refine .exit ?_
  refine .seqX ?_
  refine .seqX ?_
  refine .blkX ?_
  refine .seqN ?_
  refine .seq ?_
  refine .region ?_
  refine .v (mv rfl) rfl rfl rfl ?_
  obtain ⟨q2137, hF⟩ := hF
  obtain ⟨r3, q2138⟩ : ∃ y_ : List (List Int), y_ = sp_normal out := ⟨_, rfl⟩
  replace hF := hF r3 q2138
  refine callX (k := 1) (v := .slice aout r3.length cout) (X' := OwnPX h19 22 1 aout cout r3) rfl Tryz.call84 rfl rfl (fun w g hx sg hd hs' => ?_) rfl ?_
  · rw [q2138]; exact c_normal hs' out aout cout q1429 (own_n (rfl).symm hx) sg hd q2137
  refine .openP (k := 1) rfl (fun cs q2139 => ?_)
  refine .cast (A' := [Box pt [.int .i64 t.facts, .slice at_ t.init.length ct, .slice at_2 t.goal.length ct2, .slice at_3 t.ops.length ct3], OwnSl 22 1 aout r3.length cout cs]) rfl ?_
  refine .v (asg rfl) rfl rfl rfl ?_
  refine .nil ?_
  refine .seqN ?_
  refine .freezeL (k := 1) rfl (fun h27 le27 q2141 q2140 => ?_)
  refine .cast (A' := [Box pt [.int .i64 t.facts, .slice at_ t.init.length ct, .slice at_2 t.goal.length ct2, .slice at_3 t.ops.length ct3], tru]) rfl ?_
  refine .ret ?_
  refine .res1 rfl (rvT rfl) (fun w' S => ⟨r3, (aout, cout), h27, hF, rfl, (FH.le_trans (q1430) (le27)), ⟨(show RSl h27 aout r3 from ⟨_, q2139.mono (le27), q2140⟩), (q2141)⟩, S.none⟩)

theorem c_worlds {h : FH} {w : World} (hs : Sub h w) (t : Task) (at_ : Option Addr) (ct : Nat) (_q1 : RSl h at_ t.init) (_q2 : t.init.length ≤ ct) (at_2 : Option Addr) (ct2 : Nat) (_q3 : RSl h at_2 t.goal) (_q4 : t.goal.length ≤ ct2) (at_3 : Option Addr) (ct3 : Nat) (_q5 : RSl h at_3 t.ops) (_q6 : t.ops.length ≤ ct3) (unknown : List Int) (aunknown : Option Addr) (cunknown : Nat) (_q7 : RSl h aunknown unknown) (_q8 : unknown.length ≤ cunknown) (hp : pre_worlds t unknown) : Calls Tryz.prog 48 #[.agg #[.int .i64 t.facts, .slice at_ t.init.length ct, .slice at_2 t.goal.length ct2, .slice at_3 t.ops.length ct3], .slice aunknown unknown.length cunknown] w fun e w' => ∃ (z : Option Addr × Nat) (h1 : FH), e = .returned (.slice z.1 (sp_worlds t unknown).length z.2) ∧ FH.le h h1 ∧ (RSl h1 z.1 (sp_worlds t unknown) ∧ (sp_worlds t unknown).length ≤ z.2) ∧ SH (Kp.all w h) h1 w' [] :=
  (w_worlds hs t at_ ct _q1 _q2 at_2 ct2 _q3 _q4 at_3 ct3 _q5 _q6 unknown aunknown cunknown _q7 _q8 (fun r => r = sp_worlds t unknown) (ok_worlds t unknown hp)).mono fun _ _ ⟨r, z, h1, hk, he, hl, hf, hS⟩ => by subst hk; exact ⟨z, h1, he, hl, hf, hS⟩

theorem w_initial {h : FH} {w : World} (hs : Sub h w) (t : Task) (at_ : Option Addr) (ct : Nat) (_q1 : RSl h at_ t.init) (_q2 : t.init.length ≤ ct) (at_2 : Option Addr) (ct2 : Nat) (_q3 : RSl h at_2 t.goal) (_q4 : t.goal.length ≤ ct2) (at_3 : Option Addr) (ct3 : Nat) (_q5 : RSl h at_3 t.ops) (_q6 : t.ops.length ≤ ct3) (unknown : List Int) (aunknown : Option Addr) (cunknown : Nat) (_q7 : RSl h aunknown unknown) (_q8 : unknown.length ≤ cunknown) (K : (List (List Int) × Fault) → Prop) (hF : F_initial t unknown K) : Calls Tryz.prog 20 #[.agg #[.int .i64 t.facts, .slice at_ t.init.length ct, .slice at_2 t.goal.length ct2, .slice at_3 t.ops.length ct3], .slice aunknown unknown.length cunknown] w fun e w' => ∃ (r : List (List Int) × Fault) (z : Option Addr × Nat) (h1 : FH), K r ∧ e = .returned (.tuple #[.slice z.1 r.1.length z.2, .agg #[.int .i64 r.2.code, .int .i64 r.2.index]]) ∧ FH.le h h1 ∧ (RSl h1 z.1 r.1 ∧ r.1.length ≤ z.2) ∧ SH (Kp.all w h) h1 w' [] := by
  refine enter (args := [.agg #[.int .i64 t.facts, .slice at_ t.init.length ct, .slice at_2 t.goal.length ct2, .slice at_3 t.ops.length ct3], .slice aunknown unknown.length cunknown]) Tryz.func20 rfl Tryz.ntmps20 rfl hs ?_
  refine .seq ?_
  refine .region ?_
  refine bx (vs := [.int .i64 t.facts, .slice at_ t.init.length ct, .slice at_2 t.goal.length ct2, .slice at_3 t.ops.length ct3]) rfl rfl rfl (fun pt => ?_)
  refine .v (asg rfl) rfl rfl rfl ?_
  refine al tZ27 rfl (fun pv => ?_)
  refine .nil ?_
  refine .seqN ?_
  refine .seq ?_
  refine .seq ?_
  refine .region ?_
  refine .v (ldA (cs := [.int .i64 t.facts, .slice at_ t.init.length ct, .slice at_2 t.goal.length ct2, .slice at_3 t.ops.length ct3]) rfl tA25 rfl (cellsB (off := 0) (k := 1) rfl (m := 4) rfl)) rfl rfl rfl ?_
  refine .v (mv rfl) rfl rfl rfl ?_
  obtain ⟨r2, q9⟩ : ∃ y_ : Fault, y_ = sp_unknownFault t unknown := ⟨_, rfl⟩
  replace hF := hF r2 q9
  refine .c (cl (v := .agg #[.int .i64 r2.code, .int .i64 r2.index]) Tryz.call45 rfl rfl (fun w S => (by rw [q9]; exact c_unknownFault S.sub t at_ ct _q1 _q2 at_2 ct2 _q3 _q4 at_3 ct3 _q5 _q6 unknown aunknown cunknown _q7 _q8 ))) rfl rfl rfl ?_
  refine al tZ27 rfl (fun pf => ?_)
  refine st (p := pf) (off := 0) (k := 0) (vs := [.int .i64 r2.code, .int .i64 r2.index]) rfl rfl rfl (fun w => (tA27 w).2) rfl rfl rfl rfl ?_
  refine .cast (A' := [Box pf [.int .i64 r2.code, .int .i64 r2.index], Box pv [.int .i64 0, .int .i64 0], Box pt [.int .i64 t.facts, .slice at_ t.init.length ct, .slice at_2 t.goal.length ct2, .slice at_3 t.ops.length ct3]]) rfl ?_
  refine .nil ?_
  refine .seqN ?_
  refine .seq ?_
  refine .region ?_
  refine .v (ldA (cs := [.int .i64 r2.code, .int .i64 r2.index]) rfl tA27 rfl (cellsB (off := 0) (k := 0) rfl (m := 2) rfl)) rfl rfl rfl ?_
  refine .v (bld (cs := #[.int .i64 0, .int .i64 0]) (pv := []) tB27 rfl rfl) rfl rfl rfl ?_
  refine .v (ne2 tE27 rfl rfl) rfl rfl rfl ?_
  refine .nil ?_
  refine .seqN ?_
  refine .cond rfl (fun q11 => ?_) (fun q11 => ?_)
  · replace hF := hF.1 q11
    refine .seq ?_
    refine .openL (by kernel_rfl) rfl (by kernel_rfl) (by kernel_rfl) ?_
    refine .v (ldA (cs := [.int .i64 r2.code, .int .i64 r2.index]) rfl tA27 rfl (cellsB (off := 0) (k := 0) rfl (m := 2) rfl)) rfl rfl rfl ?_
    refine .v (asg rfl) rfl rfl rfl ?_
    refine .tail ?_
    refine st (p := pv) (off := 0) (k := 1) (vs := [.int .i64 r2.code, .int .i64 r2.index]) rfl rfl rfl (fun w => (tA27 w).2) rfl rfl rfl rfl ?_
    refine .cast (A' := [Box pf [.int .i64 r2.code, .int .i64 r2.index], Box pv [.int .i64 r2.code, .int .i64 r2.index], Box pt [.int .i64 t.facts, .slice at_ t.init.length ct, .slice at_2 t.goal.length ct2, .slice at_3 t.ops.length ct3]]) rfl ?_
    refine .nil ?_
    refine .seqN ?_
    refine .ret ?_
    refine .seqR ?_
    refine .res2 rfl (rvT rfl) (rvC rfl tA27 (k := 1) rfl rfl) (fun w' S => ⟨(([] : List (List Int)), r2), (none, 0), h, hF, rfl, (FH.le_refl _), ⟨RSl.nil_, (Nat.le_refl 0)⟩, S.none⟩)
  replace hF := hF.2 q11
  refine .skip ?_
  refine .seqN ?_
  refine .seq ?_
  refine .region ?_
  refine .v (ldA (cs := [.int .i64 t.facts, .slice at_ t.init.length ct, .slice at_2 t.goal.length ct2, .slice at_3 t.ops.length ct3]) rfl tA25 rfl (cellsB (off := 0) (k := 2) rfl (m := 4) rfl)) rfl rfl rfl ?_
  refine .v (mv rfl) rfl rfl rfl ?_
  obtain ⟨q12, hF⟩ := hF
  obtain ⟨r3, q13⟩ : ∃ y_ : List (List Int), y_ = sp_worlds t unknown := ⟨_, rfl⟩
  replace hF := hF r3 q13
  refine clR (α := Option Addr × Nat) (Φ := fun h1 z => RSl h1 z.1 r3 ∧ r3.length ≤ z.2) (V := fun z => .slice z.1 r3.length z.2) Tryz.call48 rfl rfl (fun w S => (by rw [q13]; exact c_worlds S.sub t at_ ct _q1 _q2 at_2 ct2 _q3 _q4 at_3 ct3 _q5 _q6 unknown aunknown cunknown _q7 _q8 q12)) rfl (fun z h1 le1 hz => ?_)
  obtain ⟨a, c⟩ := z
  obtain ⟨q14, q15⟩ := hz
  refine .v (bld (cs := #[.int .i64 0, .int .i64 0]) (pv := []) tB27 rfl rfl) rfl rfl rfl ?_
  refine .v (asg rfl) rfl rfl rfl ?_
  refine st (p := pv) (off := 0) (k := 1) (vs := [.int .i64 0, .int .i64 0]) rfl rfl rfl (fun w => (tA27 w).2) rfl rfl rfl rfl ?_
  refine .cast (A' := [Box pf [.int .i64 r2.code, .int .i64 r2.index], Box pv [.int .i64 0, .int .i64 0], Box pt [.int .i64 t.facts, .slice at_ t.init.length ct, .slice at_2 t.goal.length ct2, .slice at_3 t.ops.length ct3]]) rfl ?_
  refine .nil ?_
  refine .seqN ?_
  refine .ret ?_
  refine .res2 rfl (rvT rfl) (rvC rfl tA27 (k := 1) rfl rfl) (fun w' S => ⟨(r3, (⟨0, 0⟩ : Fault)), (a, c), h1, hF, rfl, (le1), ⟨q14, q15⟩, S.none⟩)

theorem c_initial {h : FH} {w : World} (hs : Sub h w) (t : Task) (at_ : Option Addr) (ct : Nat) (_q1 : RSl h at_ t.init) (_q2 : t.init.length ≤ ct) (at_2 : Option Addr) (ct2 : Nat) (_q3 : RSl h at_2 t.goal) (_q4 : t.goal.length ≤ ct2) (at_3 : Option Addr) (ct3 : Nat) (_q5 : RSl h at_3 t.ops) (_q6 : t.ops.length ≤ ct3) (unknown : List Int) (aunknown : Option Addr) (cunknown : Nat) (_q7 : RSl h aunknown unknown) (_q8 : unknown.length ≤ cunknown) : Calls Tryz.prog 20 #[.agg #[.int .i64 t.facts, .slice at_ t.init.length ct, .slice at_2 t.goal.length ct2, .slice at_3 t.ops.length ct3], .slice aunknown unknown.length cunknown] w fun e w' => ∃ (z : Option Addr × Nat) (h1 : FH), e = .returned (.tuple #[.slice z.1 (sp_initial t unknown).1.length z.2, .agg #[.int .i64 (sp_initial t unknown).2.code, .int .i64 (sp_initial t unknown).2.index]]) ∧ FH.le h h1 ∧ (RSl h1 z.1 (sp_initial t unknown).1 ∧ (sp_initial t unknown).1.length ≤ z.2) ∧ SH (Kp.all w h) h1 w' [] :=
  (w_initial hs t at_ ct _q1 _q2 at_2 ct2 _q3 _q4 at_3 ct3 _q5 _q6 unknown aunknown cunknown _q7 _q8 (fun r => r = sp_initial t unknown) (ok_initial t unknown)).mono fun _ _ ⟨r, z, h1, hk, he, hl, hf, hS⟩ => by subst hk; exact ⟨z, h1, he, hl, hf, hS⟩

theorem w_bafter {h : FH} {w : World} (hs : Sub h w) (t : Task) (at_ : Option Addr) (ct : Nat) (_q1 : RSl h at_ t.init) (_q2 : t.init.length ≤ ct) (at_2 : Option Addr) (ct2 : Nat) (_q3 : RSl h at_2 t.goal) (_q4 : t.goal.length ≤ ct2) (at_3 : Option Addr) (ct3 : Nat) (_q5 : RSl h at_3 t.ops) (_q6 : t.ops.length ≤ ct3) (worlds : List (List Int)) (aworlds : Option Addr) (cworlds : Nat) (_q7 : RSl h aworlds worlds) (_q8 : worlds.length ≤ cworlds) (op : Int) (K : (List (List Int)) → Prop) (hF : F_bafter t worlds op K) : Calls Tryz.prog 60 #[.agg #[.int .i64 t.facts, .slice at_ t.init.length ct, .slice at_2 t.goal.length ct2, .slice at_3 t.ops.length ct3], .slice aworlds worlds.length cworlds, .int .i64 op] w fun e w' => ∃ (r : List (List Int)) (z : Option Addr × Nat) (h1 : FH), K r ∧ e = .returned (.slice z.1 r.length z.2) ∧ FH.le h h1 ∧ (RSl h1 z.1 r ∧ r.length ≤ z.2) ∧ SH (Kp.all w h) h1 w' [] := by
  refine enter (args := [.agg #[.int .i64 t.facts, .slice at_ t.init.length ct, .slice at_2 t.goal.length ct2, .slice at_3 t.ops.length ct3], .slice aworlds worlds.length cworlds, .int .i64 op]) Tryz.func60 rfl Tryz.ntmps60 rfl hs ?_
  refine .seq ?_
  refine .region ?_
  refine bx (vs := [.int .i64 t.facts, .slice at_ t.init.length ct, .slice at_2 t.goal.length ct2, .slice at_3 t.ops.length ct3]) rfl rfl rfl (fun pt => ?_)
  refine .v (asg rfl) rfl rfl rfl ?_
  refine .nil ?_
  refine .seqN ?_
  refine .seq ?_
  refine .region ?_
  refine .v (asg rfl) rfl rfl rfl ?_
  refine .nil ?_
  refine .seqN ?_
  refine .seq ?_
  refine .seq ?_
  refine .region ?_
  refine .v (mv rfl) rfl rfl rfl ?_
  refine .v (ln rfl tS35.is) rfl rfl rfl ?_
  refine .v (mv rfl) rfl rfl rfl ?_
  refine .nil ?_
  refine .seqN ?_
  refine .block ?_
  refine .nilSl 22 1 ?_
  refine .cast (A' := [OwnSl 22 1 none (([] : List (List Int)).length) 0 [], Box pt [.int .i64 t.facts, .slice at_ t.init.length ct, .slice at_2 t.goal.length ct2, .slice at_3 t.ops.length ct3]]) rfl ?_
  refine .sel0 [1, 0] (by decide) rfl ?_
  obtain ⟨I1, μ1, q222, q223⟩ := hF
  refine .loop' (σ := Int × List (List Int) × Option Addr × Nat × List Value × FH) (fun z => I1 z.1 z.2.1 ∧ RepL z.2.2.2.2.2 z.2.1 z.2.2.2.2.1 ∧ FH.le h z.2.2.2.2.2) (fun z => μ1 z.1 z.2.1) (fun z => [(2, .int .i64 op), (3, .pointer (some pt)), (7, .slice z.2.2.1 z.2.1.length z.2.2.2.1), (10, .slice aworlds worlds.length cworlds), (11, .int .i64 ((worlds.length : Nat) : Int)), (12, .int .i64 z.1)]) (fun z => [Box pt [.int .i64 t.facts, .slice at_ t.init.length ct, .slice at_2 t.goal.length ct2, .slice at_3 t.ops.length ct3], OwnSl 22 1 z.2.2.1 z.2.1.length z.2.2.2.1 z.2.2.2.2.1]) (fun z => z.2.2.2.2.2) (0, ([] : List (List Int)), none, 0, [], h) ⟨q222, (show RepL h ([] : List (List Int)) [] from rfl), (FH.le_refl _)⟩ (.cons rfl (.cons rfl (.cons rfl (.cons rfl (.cons rfl (.cons rfl (.nil))))))) rfl (FH.le_refl _) ?_
  rintro ⟨t12, out, aout, cout, csout, h19⟩ ⟨q222, q179, q180⟩
  have hF := q223 t12 out q222
  show J _ _ _ _ _ [(2, .int .i64 op), (3, .pointer (some pt)), (7, .slice aout out.length cout), (10, .slice aworlds worlds.length cworlds), (11, .int .i64 ((worlds.length : Nat) : Int)), (12, .int .i64 t12)] [Box pt [.int .i64 t.facts, .slice at_ t.init.length ct, .slice at_2 t.goal.length ct2, .slice at_3 t.ops.length ct3], OwnSl 22 1 aout out.length cout csout] h19
  refine .seq ?_
  refine .region ?_
  refine .v (bi rfl rfl rfl) rfl rfl rfl ?_
  refine .nil ?_
  refine .seqN ?_
  refine .seq ?_
  refine .cond rfl (fun q226 => ?_) (fun q226 => ?_)
  · replace hF := hF.1 q226
    refine .skip ?_
    refine .seqN ?_
    refine .seq ?_
    refine .block ?_
    refine .seq ?_
    refine .region ?_
    obtain ⟨q251, hF⟩ := hF
    refine .v (ix rfl rfl tS35 (_q7.ne (by decide) (inb_pos q251)) q251) rfl rfl rfl ?_
    obtain ⟨_, ⟨a, c, rfl, q252, q253⟩, q254⟩ := _q7.elem q251
    refine .v (ld1 (v := .slice a ((gt worlds t12).length) c) rfl tO22 (cellH ((fun q => (q254 q).mono (q180)) (by decide) 0 _ rfl))) rfl rfl rfl ?_
    refine .v (asg rfl) rfl rfl rfl ?_
    refine .nil ?_
    refine .seqN ?_
    refine .region ?_
    refine .v (mv rfl) rfl rfl rfl ?_
    refine .v (ldA (cs := [.int .i64 t.facts, .slice at_ t.init.length ct, .slice at_2 t.goal.length ct2, .slice at_3 t.ops.length ct3]) rfl tA25 rfl (cellsB (off := 0) (k := 0) rfl (m := 4) rfl)) rfl rfl rfl ?_
    refine .v (mv rfl) rfl rfl rfl ?_
    refine .v (mv rfl) rfl rfl rfl ?_
    obtain ⟨q255, hF⟩ := hF
    obtain ⟨r2, q256⟩ : ∃ y_ : List Int, y_ = sp_after t (gt worlds t12) op := ⟨_, rfl⟩
    replace hF := hF r2 q256
    refine clR (α := Option Addr × Nat) (Φ := fun h1 z => RSl h1 z.1 r2 ∧ r2.length ≤ z.2) (V := fun z => .slice z.1 r2.length z.2) Tryz.call93 rfl rfl (fun w S => (by rw [q256]; exact c_next S.sub t at_ ct (_q1.mono (q180)) _q2 at_2 ct2 (_q3.mono (q180)) _q4 at_3 ct3 (_q5.mono (q180)) _q6 (gt worlds t12) a c (q253.mono (q180)) q252 op q255)) rfl (fun z h26 le26 hz => ?_)
    obtain ⟨a2, c2⟩ := z
    obtain ⟨q257, q258⟩ := hz
    refine bs2 (cs := #[.slice a2 r2.length c2]) (pv := [(0, .slice a2 r2.length c2)]) tS35 rfl rfl (by decide) (by decide) rfl rfl rfl (fun a3 _ => ?_)
    refine .cast (A' := [OwnSl 22 1 a3 (([r2] : List (List Int)).length) 1 [.slice a2 r2.length c2], Box pt [.int .i64 t.facts, .slice at_ t.init.length ct, .slice at_2 t.goal.length ct2, .slice at_3 t.ops.length ct3], OwnSl 22 1 aout out.length cout csout]) rfl ?_
    obtain ⟨q260, hF⟩ := hF
    have q261 : out.length + ([r2] : List (List Int)).length = ((out ++ ([r2] : List (List Int)))).length := len_app rfl rfl
    have q262 := RepL.append (RepL.mono (le26) q179) (show RepL h26 ([r2] : List (List Int)) [.slice a2 r2.length c2] from ⟨[.slice a2 r2.length c2], _, rfl, ⟨a2, c2, rfl, q258, q257⟩, rfl⟩)
    refine app (k := 2) (news := [.slice a2 r2.length c2]) (cs' := (csout ++ [.slice a2 r2.length c2])) (nm := ((out ++ ([r2] : List (List Int)))).length) tS35 rfl (by decide) rfl rfl rfl (RepL.len (show RepL h26 ([r2] : List (List Int)) [.slice a2 r2.length c2] from ⟨[.slice a2 r2.length c2], _, rfl, ⟨a2, c2, rfl, q258, q257⟩, rfl⟩)) (srcS (k := 0) rfl) (RepL.one (show RepL h26 ([r2] : List (List Int)) [.slice a2 r2.length c2] from ⟨[.slice a2 r2.length c2], _, rfl, ⟨a2, c2, rfl, q258, q257⟩, rfl⟩)) (room_of q261 q260).1 (room_of q261 q260).2 q261 rfl rfl (fun a4 c3 => ?_)
    refine .cast (A' := [OwnSl 22 1 a3 (([r2] : List (List Int)).length) 1 [.slice a2 r2.length c2], Box pt [.int .i64 t.facts, .slice at_ t.init.length ct, .slice at_2 t.goal.length ct2, .slice at_3 t.ops.length ct3], OwnSl 22 1 a4 ((out ++ ([r2] : List (List Int))).length) c3 (csout ++ [.slice a2 r2.length c2])]) rfl ?_
    refine .v (asg rfl) rfl rfl rfl ?_
    refine .nil ?_
    refine .blkN ?_
    refine .seqN ?_
    refine .region ?_
    refine .v (bi rfl rfl rfl) rfl rfl rfl ?_
    refine .v (mv rfl) rfl rfl rfl ?_
    refine .nil ?_
    refine .sel0 [1, 2] (by decide) rfl ?_
    exact .round (IntKind.i64.wrap (t12 + 1), (out ++ ([r2] : List (List Int))), a4, c3, (csout ++ [.slice a2 r2.length c2]), h26) ⟨hF.1, q262, (FH.le_trans (q180) (le26))⟩ hF.2 (.cons rfl (.cons rfl (.cons rfl (.cons rfl (.cons rfl (.cons rfl (.nil))))))) rfl (FH.le_refl _)
  replace hF := hF.2 q226
  refine .exit ?_
  refine .seqX ?_
  refine .seqX ?_
  refine .blkX ?_
  refine .seqN ?_
  refine .seq ?_
  refine .region ?_
  refine .v (mv rfl) rfl rfl rfl ?_
  obtain ⟨q263, hF⟩ := hF
  obtain ⟨r3, q264⟩ : ∃ y_ : List (List Int), y_ = sp_normal out := ⟨_, rfl⟩
  replace hF := hF r3 q264
  refine callX (k := 1) (v := .slice aout r3.length cout) (X' := OwnPX h19 22 1 aout cout r3) rfl Tryz.call84 rfl rfl (fun w g hx sg hd hs' => ?_) rfl ?_
  · rw [q264]; exact c_normal hs' out aout cout q179 (own_n (rfl).symm hx) sg hd q263
  refine .openP (k := 1) rfl (fun cs q265 => ?_)
  refine .cast (A' := [Box pt [.int .i64 t.facts, .slice at_ t.init.length ct, .slice at_2 t.goal.length ct2, .slice at_3 t.ops.length ct3], OwnSl 22 1 aout r3.length cout cs]) rfl ?_
  refine .v (asg rfl) rfl rfl rfl ?_
  refine .nil ?_
  refine .seqN ?_
  refine .freezeL (k := 1) rfl (fun h27 le27 q267 q266 => ?_)
  refine .cast (A' := [Box pt [.int .i64 t.facts, .slice at_ t.init.length ct, .slice at_2 t.goal.length ct2, .slice at_3 t.ops.length ct3], tru]) rfl ?_
  refine .ret ?_
  refine .res1 rfl (rvT rfl) (fun w' S => ⟨r3, (aout, cout), h27, hF, rfl, (FH.le_trans (q180) (le27)), ⟨(show RSl h27 aout r3 from ⟨_, q265.mono (le27), q266⟩), (q267)⟩, S.none⟩)

theorem c_bafter {h : FH} {w : World} (hs : Sub h w) (t : Task) (at_ : Option Addr) (ct : Nat) (_q1 : RSl h at_ t.init) (_q2 : t.init.length ≤ ct) (at_2 : Option Addr) (ct2 : Nat) (_q3 : RSl h at_2 t.goal) (_q4 : t.goal.length ≤ ct2) (at_3 : Option Addr) (ct3 : Nat) (_q5 : RSl h at_3 t.ops) (_q6 : t.ops.length ≤ ct3) (worlds : List (List Int)) (aworlds : Option Addr) (cworlds : Nat) (_q7 : RSl h aworlds worlds) (_q8 : worlds.length ≤ cworlds) (op : Int) (hp : pre_bafter t worlds op) : Calls Tryz.prog 60 #[.agg #[.int .i64 t.facts, .slice at_ t.init.length ct, .slice at_2 t.goal.length ct2, .slice at_3 t.ops.length ct3], .slice aworlds worlds.length cworlds, .int .i64 op] w fun e w' => ∃ (z : Option Addr × Nat) (h1 : FH), e = .returned (.slice z.1 (sp_bafter t worlds op).length z.2) ∧ FH.le h h1 ∧ (RSl h1 z.1 (sp_bafter t worlds op) ∧ (sp_bafter t worlds op).length ≤ z.2) ∧ SH (Kp.all w h) h1 w' [] :=
  (w_bafter hs t at_ ct _q1 _q2 at_2 ct2 _q3 _q4 at_3 ct3 _q5 _q6 worlds aworlds cworlds _q7 _q8 op (fun r => r = sp_bafter t worlds op) (ok_bafter t worlds op hp)).mono fun _ _ ⟨r, z, h1, hk, he, hl, hf, hS⟩ => by subst hk; exact ⟨z, h1, he, hl, hf, hS⟩

theorem w_bsolves1 {h : FH} {w : World} (hs : Sub h w) (s_ : List Int) (as_ : Option Addr) (cs_ : Nat) (_q1 : RSl h as_ s_) (_q2 : s_.length ≤ cs_) (x : Task) (ax : Option Addr) (cx : Nat) (_q3 : RSl h ax x.init) (_q4 : x.init.length ≤ cx) (ax2 : Option Addr) (cx2 : Nat) (_q5 : RSl h ax2 x.goal) (_q6 : x.goal.length ≤ cx2) (ax3 : Option Addr) (cx3 : Nat) (_q7 : RSl h ax3 x.ops) (_q8 : x.ops.length ≤ cx3) (px : Addr) (_q9 : CellsAt h px [.int .i64 x.facts, .slice ax x.init.length cx, .slice ax2 x.goal.length cx2, .slice ax3 x.ops.length cx3]) (x2 : List Int) (ax22 : Option Addr) (cx22 : Nat) (_q10 : RSl h ax22 x2) (_q11 : x2.length ≤ cx22) (px2 : Addr) (_q12 : CellsAt h px2 [.slice ax22 x2.length cx22]) (K : Bool → Prop) (hF : F_bsolves1 s_ x x2 K) : Calls Tryz.prog 67 #[.slice as_ s_.length cs_, .pointer (some px), .pointer (some px2)] w fun e w' => ∃ r : Bool, K r ∧ e = .returned (.bool r) ∧ Below w.heap.size w w' := by
  refine enter (args := [.slice as_ s_.length cs_, .pointer (some px), .pointer (some px2)]) Tryz.func67 rfl Tryz.ntmps67 rfl hs ?_
  refine .seq ?_
  refine .region ?_
  refine .v (asg rfl) rfl rfl rfl ?_
  refine .nil ?_
  refine .seqN ?_
  refine .seq ?_
  refine .region ?_
  refine .v (ldA (cs := [.int .i64 x.facts, .slice ax x.init.length cx, .slice ax2 x.goal.length cx2, .slice ax3 x.ops.length cx3]) rfl tA25 rfl (cellsH (_q9.mono (FH.le_refl _)))) rfl rfl rfl ?_
  refine .v (mv rfl) rfl rfl rfl ?_
  refine .v (ld1 (v := .slice ax22 x2.length cx22) rfl tO22 (cellH (CellsAt.mono (FH.le_refl _) _q12 0 _ rfl))) rfl rfl rfl ?_
  obtain ⟨q13, hF⟩ := hF
  obtain ⟨r2, q14⟩ : ∃ y_ : Bool, y_ = sp_rworks x s_ x2 := ⟨_, rfl⟩
  replace hF := hF r2 q14
  refine .c (cl (v := .bool r2) Tryz.call68 rfl rfl (fun w S => (by rw [q14]; exact c_works S.sub x ax cx _q3 _q4 ax2 cx2 _q5 _q6 ax3 cx3 _q7 _q8 s_ as_ cs_ _q1 _q2 x2 ax22 cx22 _q10 _q11 q13))) rfl rfl rfl ?_
  refine .v (nt rfl) rfl rfl rfl ?_
  refine .v (asg rfl) rfl rfl rfl ?_
  refine .nil ?_
  refine .seqN ?_
  refine .ret ?_
  refine .res1 rfl (rvT rfl) (fun w' S => ⟨!r2, hF, rfl, S.below⟩)

theorem c_bsolves1 {h : FH} {w : World} (hs : Sub h w) (s_ : List Int) (as_ : Option Addr) (cs_ : Nat) (_q1 : RSl h as_ s_) (_q2 : s_.length ≤ cs_) (x : Task) (ax : Option Addr) (cx : Nat) (_q3 : RSl h ax x.init) (_q4 : x.init.length ≤ cx) (ax2 : Option Addr) (cx2 : Nat) (_q5 : RSl h ax2 x.goal) (_q6 : x.goal.length ≤ cx2) (ax3 : Option Addr) (cx3 : Nat) (_q7 : RSl h ax3 x.ops) (_q8 : x.ops.length ≤ cx3) (px : Addr) (_q9 : CellsAt h px [.int .i64 x.facts, .slice ax x.init.length cx, .slice ax2 x.goal.length cx2, .slice ax3 x.ops.length cx3]) (x2 : List Int) (ax22 : Option Addr) (cx22 : Nat) (_q10 : RSl h ax22 x2) (_q11 : x2.length ≤ cx22) (px2 : Addr) (_q12 : CellsAt h px2 [.slice ax22 x2.length cx22]) (hp : pre_bsolves1 s_ x x2) : Calls Tryz.prog 67 #[.slice as_ s_.length cs_, .pointer (some px), .pointer (some px2)] w fun e w' => e = .returned (.bool (sp_bsolves1 s_ x x2)) ∧ Below w.heap.size w w' :=
  (w_bsolves1 hs s_ as_ cs_ _q1 _q2 x ax cx _q3 _q4 ax2 cx2 _q5 _q6 ax3 cx3 _q7 _q8 px _q9 x2 ax22 cx22 _q10 _q11 px2 _q12 (fun r => r = sp_bsolves1 s_ x x2) (ok_bsolves1 s_ x x2 hp)).mono fun _ _ ⟨_, hk, he, hb⟩ => ⟨by rw [he, hk], hb⟩

theorem w_bsolves {h : FH} {w : World} (hs : Sub h w) (t : Task) (at_ : Option Addr) (ct : Nat) (_q1 : RSl h at_ t.init) (_q2 : t.init.length ≤ ct) (at_2 : Option Addr) (ct2 : Nat) (_q3 : RSl h at_2 t.goal) (_q4 : t.goal.length ≤ ct2) (at_3 : Option Addr) (ct3 : Nat) (_q5 : RSl h at_3 t.ops) (_q6 : t.ops.length ≤ ct3) (unknown : List Int) (aunknown : Option Addr) (cunknown : Nat) (_q7 : RSl h aunknown unknown) (_q8 : unknown.length ≤ cunknown) (plan : List Int) (aplan : Option Addr) (cplan : Nat) (_q9 : RSl h aplan plan) (_q10 : plan.length ≤ cplan) (K : (Bool × Fault) → Prop) (hF : F_bsolves t unknown plan K) : Calls Tryz.prog 29 #[.agg #[.int .i64 t.facts, .slice at_ t.init.length ct, .slice at_2 t.goal.length ct2, .slice at_3 t.ops.length ct3], .slice aunknown unknown.length cunknown, .slice aplan plan.length cplan] w fun e w' => ∃ r : Bool × Fault, K r ∧ e = .returned (.tuple #[.bool r.1, .agg #[.int .i64 r.2.code, .int .i64 r.2.index]]) ∧ Below w.heap.size w w' := by
  refine enter (args := [.agg #[.int .i64 t.facts, .slice at_ t.init.length ct, .slice at_2 t.goal.length ct2, .slice at_3 t.ops.length ct3], .slice aunknown unknown.length cunknown, .slice aplan plan.length cplan]) Tryz.func29 rfl Tryz.ntmps29 rfl hs ?_
  refine .seq ?_
  refine .region ?_
  refine bx (vs := [.int .i64 t.facts, .slice at_ t.init.length ct, .slice at_2 t.goal.length ct2, .slice at_3 t.ops.length ct3]) rfl rfl rfl (fun pt => ?_)
  refine bx (vs := [.slice aplan plan.length cplan]) rfl rfl rfl (fun pplan => ?_)
  refine .v (asg rfl) rfl rfl rfl ?_
  refine al tZ27 rfl (fun pv => ?_)
  refine .nil ?_
  refine .seqN ?_
  refine .seq ?_
  refine .seq ?_
  refine .region ?_
  refine .v (ldA (cs := [.int .i64 t.facts, .slice at_ t.init.length ct, .slice at_2 t.goal.length ct2, .slice at_3 t.ops.length ct3]) rfl tA25 rfl (cellsB (off := 0) (k := 2) rfl (m := 4) rfl)) rfl rfl rfl ?_
  refine .v (mv rfl) rfl rfl rfl ?_
  obtain ⟨r2, q11⟩ : ∃ y_ : Fault, y_ = sp_unknownFault t unknown := ⟨_, rfl⟩
  replace hF := hF r2 q11
  refine .c (cl (v := .agg #[.int .i64 r2.code, .int .i64 r2.index]) Tryz.call45 rfl rfl (fun w S => (by rw [q11]; exact c_unknownFault S.sub t at_ ct _q1 _q2 at_2 ct2 _q3 _q4 at_3 ct3 _q5 _q6 unknown aunknown cunknown _q7 _q8 ))) rfl rfl rfl ?_
  refine al tZ27 rfl (fun pf => ?_)
  refine st (p := pf) (off := 0) (k := 0) (vs := [.int .i64 r2.code, .int .i64 r2.index]) rfl rfl rfl (fun w => (tA27 w).2) rfl rfl rfl rfl ?_
  refine .cast (A' := [Box pf [.int .i64 r2.code, .int .i64 r2.index], Box pv [.int .i64 0, .int .i64 0], Box pplan [.slice aplan plan.length cplan], Box pt [.int .i64 t.facts, .slice at_ t.init.length ct, .slice at_2 t.goal.length ct2, .slice at_3 t.ops.length ct3]]) rfl ?_
  refine .nil ?_
  refine .seqN ?_
  refine .seq ?_
  refine .region ?_
  refine .v (ldA (cs := [.int .i64 r2.code, .int .i64 r2.index]) rfl tA27 rfl (cellsB (off := 0) (k := 0) rfl (m := 2) rfl)) rfl rfl rfl ?_
  refine .v (bld (cs := #[.int .i64 0, .int .i64 0]) (pv := []) tB27 rfl rfl) rfl rfl rfl ?_
  refine .v (ne2 tE27 rfl rfl) rfl rfl rfl ?_
  refine .nil ?_
  refine .seqN ?_
  refine .cond rfl (fun q13 => ?_) (fun q13 => ?_)
  · replace hF := hF.1 q13
    refine .seq ?_
    refine .openL (by kernel_rfl) rfl (by kernel_rfl) (by kernel_rfl) ?_
    refine .v (ldA (cs := [.int .i64 r2.code, .int .i64 r2.index]) rfl tA27 rfl (cellsB (off := 0) (k := 0) rfl (m := 2) rfl)) rfl rfl rfl ?_
    refine .v (asg rfl) rfl rfl rfl ?_
    refine .tail ?_
    refine st (p := pv) (off := 0) (k := 1) (vs := [.int .i64 r2.code, .int .i64 r2.index]) rfl rfl rfl (fun w => (tA27 w).2) rfl rfl rfl rfl ?_
    refine .cast (A' := [Box pf [.int .i64 r2.code, .int .i64 r2.index], Box pv [.int .i64 r2.code, .int .i64 r2.index], Box pplan [.slice aplan plan.length cplan], Box pt [.int .i64 t.facts, .slice at_ t.init.length ct, .slice at_2 t.goal.length ct2, .slice at_3 t.ops.length ct3]]) rfl ?_
    refine .nil ?_
    refine .seqN ?_
    refine .ret ?_
    refine .seqR ?_
    refine .res2 rfl (rvT rfl) (rvC rfl tA27 (k := 1) rfl rfl) (fun w' S => ⟨(false, r2), hF, rfl, S.below⟩)
  replace hF := hF.2 q13
  refine .skip ?_
  refine .seqN ?_
  refine .seq ?_
  refine .seq ?_
  refine .region ?_
  refine .v (fa rfl tF25_3) rfl rfl rfl ?_
  refine .v (ld1 rfl tO23 (cellB (off := 3) (k := 3) rfl rfl)) rfl rfl rfl ?_
  refine .v (ln rfl tS23.is) rfl rfl rfl ?_
  refine .v (ld1 rfl tO22 (cellB (off := 0) (k := 2) rfl rfl)) rfl rfl rfl ?_
  obtain ⟨q14, hF⟩ := hF
  obtain ⟨r3, q15⟩ : ∃ y_ : Fault, y_ = sp_steps ((t.ops.length : Nat) : Int) plan := ⟨_, rfl⟩
  replace hF := hF r3 q15
  refine .c (cl (v := .agg #[.int .i64 r3.code, .int .i64 r3.index]) Tryz.call65 rfl rfl (fun w S => (by rw [q15]; exact c_steps S.sub ((t.ops.length : Nat) : Int) plan aplan cplan _q9 _q10 q14))) rfl rfl rfl ?_
  refine al tZ27 rfl (fun pf2 => ?_)
  refine st (p := pf2) (off := 0) (k := 0) (vs := [.int .i64 r3.code, .int .i64 r3.index]) rfl rfl rfl (fun w => (tA27 w).2) rfl rfl rfl rfl ?_
  refine .cast (A' := [Box pf2 [.int .i64 r3.code, .int .i64 r3.index], Box pf [.int .i64 r2.code, .int .i64 r2.index], Box pv [.int .i64 0, .int .i64 0], Box pplan [.slice aplan plan.length cplan], Box pt [.int .i64 t.facts, .slice at_ t.init.length ct, .slice at_2 t.goal.length ct2, .slice at_3 t.ops.length ct3]]) rfl ?_
  refine .nil ?_
  refine .seqN ?_
  refine .seq ?_
  refine .region ?_
  refine .v (ldA (cs := [.int .i64 r3.code, .int .i64 r3.index]) rfl tA27 rfl (cellsB (off := 0) (k := 0) rfl (m := 2) rfl)) rfl rfl rfl ?_
  refine .v (bld (cs := #[.int .i64 0, .int .i64 0]) (pv := []) tB27 rfl rfl) rfl rfl rfl ?_
  refine .v (ne2 tE27 rfl rfl) rfl rfl rfl ?_
  refine .nil ?_
  refine .seqN ?_
  refine .cond rfl (fun q17 => ?_) (fun q17 => ?_)
  · replace hF := hF.1 q17
    refine .seq ?_
    refine .openL (by kernel_rfl) rfl (by kernel_rfl) (by kernel_rfl) ?_
    refine .v (ldA (cs := [.int .i64 r3.code, .int .i64 r3.index]) rfl tA27 rfl (cellsB (off := 0) (k := 0) rfl (m := 2) rfl)) rfl rfl rfl ?_
    refine .v (asg rfl) rfl rfl rfl ?_
    refine .tail ?_
    refine st (p := pv) (off := 0) (k := 2) (vs := [.int .i64 r3.code, .int .i64 r3.index]) rfl rfl rfl (fun w => (tA27 w).2) rfl rfl rfl rfl ?_
    refine .cast (A' := [Box pf2 [.int .i64 r3.code, .int .i64 r3.index], Box pf [.int .i64 r2.code, .int .i64 r2.index], Box pv [.int .i64 r3.code, .int .i64 r3.index], Box pplan [.slice aplan plan.length cplan], Box pt [.int .i64 t.facts, .slice at_ t.init.length ct, .slice at_2 t.goal.length ct2, .slice at_3 t.ops.length ct3]]) rfl ?_
    refine .nil ?_
    refine .seqN ?_
    refine .ret ?_
    refine .seqR ?_
    refine .res2 rfl (rvT rfl) (rvC rfl tA27 (k := 2) rfl rfl) (fun w' S => ⟨(false, r3), hF, rfl, S.below⟩)
  replace hF := hF.2 q17
  refine .skip ?_
  refine .seqN ?_
  refine .seq ?_
  refine .region ?_
  refine .v (ldA (cs := [.int .i64 t.facts, .slice at_ t.init.length ct, .slice at_2 t.goal.length ct2, .slice at_3 t.ops.length ct3]) rfl tA25 rfl (cellsB (off := 0) (k := 4) rfl (m := 4) rfl)) rfl rfl rfl ?_
  refine .v (mv rfl) rfl rfl rfl ?_
  obtain ⟨q18, hF⟩ := hF
  obtain ⟨r4, q19⟩ : ∃ y_ : List (List Int), y_ = sp_worlds t unknown := ⟨_, rfl⟩
  replace hF := hF r4 q19
  refine clR (α := Option Addr × Nat) (Φ := fun h1 z => RSl h1 z.1 r4 ∧ r4.length ≤ z.2) (V := fun z => .slice z.1 r4.length z.2) Tryz.call48 rfl rfl (fun w S => (by rw [q19]; exact c_worlds S.sub t at_ ct _q1 _q2 at_2 ct2 _q3 _q4 at_3 ct3 _q5 _q6 unknown aunknown cunknown _q7 _q8 q18)) rfl (fun z h1 le1 hz => ?_)
  obtain ⟨a, c⟩ := z
  obtain ⟨q20, q21⟩ := hz
  refine .v (mkf (vf := []) (vc := [.pointer (some pt), .pointer (some pplan)]) rfl rfl) rfl rfl rfl ?_
  obtain ⟨q22, hF⟩ := hF
  obtain ⟨r5, q23⟩ : ∃ y_ : Bool, y_ = sp_any r4 (fun y_ : List Int => sp_bsolves1 y_ t plan) (fun y_ : List Int => pre_bsolves1 y_ t plan) := ⟨_, rfl⟩
  replace hF := hF r5 q23
  refine .c (cl (v := .bool r5) Tryz.call66 rfl rfl (fun w S => (by rw [q23]; obtain ⟨h0_, l0_, S0_, b0_⟩ := freezeB S (k := 4) rfl; obtain ⟨h_, l1_, hs_, b1_⟩ := lookB S0_ (k := 3) rfl; have hl_ := (FH.le_trans l0_ l1_); exact c_containsR hs_ r4 a c (RSl.mono hl_ q20) q21 (fun y_ : List Int => sp_bsolves1 y_ t plan) (fun y_ : List Int => pre_bsolves1 y_ t plan) 67 #[] #[.pointer (some pt), .pointer (some pplan)] Tryz.call67 (fun x a_ c_ r_ l_ w' hD hs' => c_bsolves1 hs' x a_ c_ r_ l_ t at_ ct (RSl.mono hl_ (_q1.mono (le1))) _q2 at_2 ct2 (RSl.mono hl_ (_q3.mono (le1))) _q4 at_3 ct3 (RSl.mono hl_ (_q5.mono (le1))) _q6 pt (b0_.mono l1_) plan aplan cplan (RSl.mono hl_ (_q9.mono (le1))) _q10 pplan b1_ hD) q22))) rfl rfl rfl ?_
  refine .v (nt rfl) rfl rfl rfl ?_
  refine .v (bld (cs := #[.int .i64 0, .int .i64 0]) (pv := []) tB27 rfl rfl) rfl rfl rfl ?_
  refine .v (asg rfl) rfl rfl rfl ?_
  refine st (p := pv) (off := 0) (k := 2) (vs := [.int .i64 0, .int .i64 0]) rfl rfl rfl (fun w => (tA27 w).2) rfl rfl rfl rfl ?_
  refine .cast (A' := [Box pf2 [.int .i64 r3.code, .int .i64 r3.index], Box pf [.int .i64 r2.code, .int .i64 r2.index], Box pv [.int .i64 0, .int .i64 0], Box pplan [.slice aplan plan.length cplan], Box pt [.int .i64 t.facts, .slice at_ t.init.length ct, .slice at_2 t.goal.length ct2, .slice at_3 t.ops.length ct3]]) rfl ?_
  refine .nil ?_
  refine .seqN ?_
  refine .ret ?_
  refine .res2 rfl (rvT rfl) (rvC rfl tA27 (k := 2) rfl rfl) (fun w' S => ⟨(!r5, (⟨0, 0⟩ : Fault)), hF, rfl, S.below⟩)

theorem c_bsolves {h : FH} {w : World} (hs : Sub h w) (t : Task) (at_ : Option Addr) (ct : Nat) (_q1 : RSl h at_ t.init) (_q2 : t.init.length ≤ ct) (at_2 : Option Addr) (ct2 : Nat) (_q3 : RSl h at_2 t.goal) (_q4 : t.goal.length ≤ ct2) (at_3 : Option Addr) (ct3 : Nat) (_q5 : RSl h at_3 t.ops) (_q6 : t.ops.length ≤ ct3) (unknown : List Int) (aunknown : Option Addr) (cunknown : Nat) (_q7 : RSl h aunknown unknown) (_q8 : unknown.length ≤ cunknown) (plan : List Int) (aplan : Option Addr) (cplan : Nat) (_q9 : RSl h aplan plan) (_q10 : plan.length ≤ cplan) : Calls Tryz.prog 29 #[.agg #[.int .i64 t.facts, .slice at_ t.init.length ct, .slice at_2 t.goal.length ct2, .slice at_3 t.ops.length ct3], .slice aunknown unknown.length cunknown, .slice aplan plan.length cplan] w fun e w' => e = .returned (.tuple #[.bool (sp_bsolves t unknown plan).1, .agg #[.int .i64 (sp_bsolves t unknown plan).2.code, .int .i64 (sp_bsolves t unknown plan).2.index]]) ∧ Below w.heap.size w w' :=
  (w_bsolves hs t at_ ct _q1 _q2 at_2 ct2 _q3 _q4 at_3 ct3 _q5 _q6 unknown aunknown cunknown _q7 _q8 plan aplan cplan _q9 _q10 (fun r => r = sp_bsolves t unknown plan) (ok_bsolves t unknown plan)).mono fun _ _ ⟨_, hk, he, hb⟩ => ⟨by rw [he, hk], hb⟩

theorem w_rUnknownFault {h : FH} {w : World} (hs : Sub h w) (t : Task) (at_ : Option Addr) (ct : Nat) (_q1 : RSl h at_ t.init) (_q2 : t.init.length ≤ ct) (at_2 : Option Addr) (ct2 : Nat) (_q3 : RSl h at_2 t.goal) (_q4 : t.goal.length ≤ ct2) (at_3 : Option Addr) (ct3 : Nat) (_q5 : RSl h at_3 t.ops) (_q6 : t.ops.length ≤ ct3) (unknown : List Int) (aunknown : Option Addr) (cunknown : Nat) (_q7 : RSl h aunknown unknown) (_q8 : unknown.length ≤ cunknown) (K : Fault → Prop) (hF : F_rUnknownFault t unknown K) : Calls Tryz.prog 13 #[.agg #[.int .i64 t.facts, .slice at_ t.init.length ct, .slice at_2 t.goal.length ct2, .slice at_3 t.ops.length ct3], .slice aunknown unknown.length cunknown] w fun e w' => ∃ r : Fault, K r ∧ e = .returned (.agg #[.int .i64 r.code, .int .i64 r.index]) ∧ Below w.heap.size w w' := by
  refine enter (args := [.agg #[.int .i64 t.facts, .slice at_ t.init.length ct, .slice at_2 t.goal.length ct2, .slice at_3 t.ops.length ct3], .slice aunknown unknown.length cunknown]) Tryz.func13 rfl Tryz.ntmps13 rfl hs ?_
  refine .seq ?_
  refine .region ?_
  refine bx (vs := [.int .i64 t.facts, .slice at_ t.init.length ct, .slice at_2 t.goal.length ct2, .slice at_3 t.ops.length ct3]) rfl rfl rfl (fun pt => ?_)
  refine al tZ27 rfl (fun pv => ?_)
  refine .nil ?_
  refine .seqN ?_
  refine .seq ?_
  refine .region ?_
  refine .v (ldA (cs := [.int .i64 t.facts, .slice at_ t.init.length ct, .slice at_2 t.goal.length ct2, .slice at_3 t.ops.length ct3]) rfl tA25 rfl (cellsB (off := 0) (k := 1) rfl (m := 4) rfl)) rfl rfl rfl ?_
  obtain ⟨r2, q9⟩ : ∃ y_ : Fault, y_ = sp_validate t := ⟨_, rfl⟩
  replace hF := hF r2 q9
  refine .c (cl (v := .agg #[.int .i64 r2.code, .int .i64 r2.index]) Tryz.call53 rfl rfl (fun w S => (by rw [q9]; exact c_taskFault S.sub t at_ ct _q1 _q2 at_2 ct2 _q3 _q4 at_3 ct3 _q5 _q6 ))) rfl rfl rfl ?_
  refine al tZ27 rfl (fun pf => ?_)
  refine st (p := pf) (off := 0) (k := 0) (vs := [.int .i64 r2.code, .int .i64 r2.index]) rfl rfl rfl (fun w => (tA27 w).2) rfl rfl rfl rfl ?_
  refine .cast (A' := [Box pf [.int .i64 r2.code, .int .i64 r2.index], Box pv [.int .i64 0, .int .i64 0], Box pt [.int .i64 t.facts, .slice at_ t.init.length ct, .slice at_2 t.goal.length ct2, .slice at_3 t.ops.length ct3]]) rfl ?_
  refine .nil ?_
  refine .seqN ?_
  refine .seq ?_
  refine .share (σ := Bool) (fun z => F_rUnknownFault_J1 t unknown K r2 z) (fun z => [(1, .slice aunknown unknown.length cunknown), (2, .pointer (some pt)), (4, .pointer (some pv)), (5, .pointer (some pf)), (15, .bool z)]) (fun _ => [Box pt [.int .i64 t.facts, .slice at_ t.init.length ct, .slice at_2 t.goal.length ct2, .slice at_3 t.ops.length ct3], Box pv [.int .i64 0, .int .i64 0], Box pf [.int .i64 r2.code, .int .i64 r2.index]]) (fun _ => h) ?_ (fun q11 => ?_)
  · rintro t15 hF
    show J _ _ _ _ _ [(1, .slice aunknown unknown.length cunknown), (2, .pointer (some pt)), (4, .pointer (some pv)), (5, .pointer (some pf)), (15, .bool t15)] [Box pt [.int .i64 t.facts, .slice at_ t.init.length ct, .slice at_2 t.goal.length ct2, .slice at_3 t.ops.length ct3], Box pv [.int .i64 0, .int .i64 0], Box pf [.int .i64 r2.code, .int .i64 r2.index]] h
    refine .shareT (σ := Int × Int) (fun z => F_rUnknownFault_J2 t unknown K z.1 z.2) (fun _ => [(1, .slice aunknown unknown.length cunknown), (2, .pointer (some pt)), (4, .pointer (some pv)), (5, .pointer (some pf))]) (fun z => [Box pt [.int .i64 t.facts, .slice at_ t.init.length ct, .slice at_2 t.goal.length ct2, .slice at_3 t.ops.length ct3], Box pv [.int .i64 0, .int .i64 0], Box pf [.int .i64 z.1, .int .i64 z.2]]) (fun _ => h) ?_ (fun q14 => ?_)
    · rintro ⟨x, x2⟩ hF
      show J _ _ _ _ _ [(1, .slice aunknown unknown.length cunknown), (2, .pointer (some pt)), (4, .pointer (some pv)), (5, .pointer (some pf))] [Box pt [.int .i64 t.facts, .slice at_ t.init.length ct, .slice at_2 t.goal.length ct2, .slice at_3 t.ops.length ct3], Box pv [.int .i64 0, .int .i64 0], Box pf [.int .i64 x, .int .i64 x2]] h
      refine .seq ?_
      refine .share (σ := Bool) (fun z => F_rUnknownFault_J3 K x x2 z) (fun z => [(4, .pointer (some pv)), (5, .pointer (some pf)), (26, .bool z)]) (fun _ => [Box pv [.int .i64 0, .int .i64 0], Box pf [.int .i64 x, .int .i64 x2]]) (fun _ => h) ?_ (fun q18 => ?_)
      · rintro t26 hF
        show J _ _ _ _ _ [(4, .pointer (some pv)), (5, .pointer (some pf)), (26, .bool t26)] [Box pv [.int .i64 0, .int .i64 0], Box pf [.int .i64 x, .int .i64 x2]] h
        refine .cond rfl (fun q21 => ?_) (fun q21 => ?_)
        · replace hF := hF.1 q21
          refine .region ?_
          obtain ⟨r3, q22⟩ : ∃ y_ : Fault, y_ = sp_at_ 5 (-8) := ⟨_, rfl⟩
          replace hF := hF r3 q22
          refine .c (cl (v := .agg #[.int .i64 r3.code, .int .i64 r3.index]) Tryz.call18 rfl rfl (fun w S => (by rw [q22]; exact c_at_ S.sub 5 (-8) ))) rfl rfl rfl ?_
          refine st (p := pf) (off := 0) (k := 1) (vs := [.int .i64 r3.code, .int .i64 r3.index]) rfl rfl rfl (fun w => (tA27 w).2) rfl rfl rfl rfl ?_
          refine .cast (A' := [Box pv [.int .i64 0, .int .i64 0], Box pf [.int .i64 r3.code, .int .i64 r3.index]]) rfl ?_
          refine .nil ?_
          refine .seqN ?_
          refine .seq ?_
          refine .region ?_
          refine .v (ldA (cs := [.int .i64 r3.code, .int .i64 r3.index]) rfl tA27 rfl (cellsB (off := 0) (k := 1) rfl (m := 2) rfl)) rfl rfl rfl ?_
          refine st (p := pv) (off := 0) (k := 0) (vs := [.int .i64 r3.code, .int .i64 r3.index]) rfl rfl rfl (fun w => (tA27 w).2) rfl rfl rfl rfl ?_
          refine .cast (A' := [Box pv [.int .i64 r3.code, .int .i64 r3.index], Box pf [.int .i64 r3.code, .int .i64 r3.index]]) rfl ?_
          refine .nil ?_
          refine .seqN ?_
          refine .ret ?_
          refine .res1 rfl (rvC rfl tA27 (k := 0) rfl rfl) (fun w' S => ⟨r3, hF, rfl, S.below⟩)
        replace hF := hF.2 q21
        refine .skip ?_
        refine .seqN ?_
        refine .seq ?_
        refine .region ?_
        refine .v (ldA (cs := [.int .i64 x, .int .i64 x2]) rfl tA27 rfl (cellsB (off := 0) (k := 1) rfl (m := 2) rfl)) rfl rfl rfl ?_
        refine st (p := pv) (off := 0) (k := 0) (vs := [.int .i64 x, .int .i64 x2]) rfl rfl rfl (fun w => (tA27 w).2) rfl rfl rfl rfl ?_
        refine .cast (A' := [Box pv [.int .i64 x, .int .i64 x2], Box pf [.int .i64 x, .int .i64 x2]]) rfl ?_
        refine .nil ?_
        refine .seqN ?_
        refine .ret ?_
        refine .res1 rfl (rvC rfl tA27 (k := 0) rfl rfl) (fun w' S => ⟨(⟨x, x2⟩ : Fault), hF, rfl, S.below⟩)
      refine .region ?_
      refine .v (fa rfl tF27_0) rfl rfl rfl ?_
      refine .v (ld1 rfl tO3 (cellB (off := 0) (k := 2) rfl rfl)) rfl rfl rfl ?_
      refine .v (bi rfl rfl rfl) rfl rfl rfl ?_
      refine .v (mv rfl) rfl rfl rfl ?_
      rcases Bool.eq_false_or_eq_true (x == 0) with q23 | q23
      · replace hF := hF.1 q23
        refine .gv (mv rfl) rfl rfl rfl q23 rfl rfl ?_
        refine .gv (fa rfl tF25_0) rfl rfl rfl q23 rfl rfl ?_
        refine .gv (ld1 rfl tO3 (cellB (off := 0) (k := 0) rfl rfl)) rfl rfl rfl q23 rfl rfl ?_
        obtain ⟨q24, hF⟩ := hF
        obtain ⟨r4, q25⟩ : ∃ y_ : Bool, y_ = sp_isSet unknown t.facts := ⟨_, rfl⟩
        replace hF := hF r4 q25
        refine .gc (cl (v := .bool r4) Tryz.call26 rfl rfl (fun w S => (by rw [q25]; exact c_rIsSet S.sub unknown aunknown cunknown _q7 _q8 t.facts q24))) rfl rfl rfl q23 rfl rfl ?_
        refine .gv (nt rfl) rfl rfl rfl q23 rfl rfl ?_
        refine .v (pkT rfl q23 rfl) rfl rfl rfl ?_
        refine .nil ?_
        refine .sel0 [1, 2] (by decide) rfl ?_
        exact .use q18 (!r4) hF (.cons rfl (.cons rfl (.cons rfl (.nil)))) rfl (FH.le_refl _)
      replace hF := hF.2 q23
      refine .gS rfl rfl rfl q23 rfl rfl ?_
      refine .gS rfl rfl rfl q23 rfl rfl ?_
      refine .gS rfl rfl rfl q23 rfl rfl ?_
      refine .gS rfl rfl rfl q23 rfl rfl ?_
      refine .gS rfl rfl rfl q23 rfl rfl ?_
      refine .v (pkF rfl q23 rfl) rfl rfl rfl ?_
      refine .nil ?_
      refine .sel0 [1, 2] (by decide) rfl ?_
      exact .use q18 false hF (.cons rfl (.cons rfl (.cons rfl (.nil)))) rfl (FH.le_refl _)
    refine .cond rfl (fun q26 => ?_) (fun q26 => ?_)
    · replace hF := hF.1 q26
      refine .region ?_
      obtain ⟨r5, q27⟩ : ∃ y_ : Fault, y_ = sp_at_ 2 (-8) := ⟨_, rfl⟩
      replace hF := hF r5 q27
      refine .c (cl (v := .agg #[.int .i64 r5.code, .int .i64 r5.index]) Tryz.call18 rfl rfl (fun w S => (by rw [q27]; exact c_at_ S.sub 2 (-8) ))) rfl rfl rfl ?_
      refine st (p := pf) (off := 0) (k := 2) (vs := [.int .i64 r5.code, .int .i64 r5.index]) rfl rfl rfl (fun w => (tA27 w).2) rfl rfl rfl rfl ?_
      refine .cast (A' := [Box pt [.int .i64 t.facts, .slice at_ t.init.length ct, .slice at_2 t.goal.length ct2, .slice at_3 t.ops.length ct3], Box pv [.int .i64 0, .int .i64 0], Box pf [.int .i64 r5.code, .int .i64 r5.index]]) rfl ?_
      refine .nil ?_
      exact .use q14 (r5.code, r5.index) hF (.cons rfl (.cons rfl (.cons rfl (.cons rfl (.nil))))) rfl (FH.le_refl _)
    replace hF := hF.2 q26
    refine .skip ?_
    exact .use q14 (r2.code, r2.index) hF (.cons rfl (.cons rfl (.cons rfl (.cons rfl (.nil))))) rfl (FH.le_refl _)
  refine .region ?_
  refine .v (fa rfl tF27_0) rfl rfl rfl ?_
  refine .v (ld1 rfl tO3 (cellB (off := 0) (k := 0) rfl rfl)) rfl rfl rfl ?_
  refine .v (bi rfl rfl rfl) rfl rfl rfl ?_
  refine .v (mv rfl) rfl rfl rfl ?_
  rcases Bool.eq_false_or_eq_true (r2.code == 0) with q28 | q28
  · replace hF := hF.1 q28
    refine .gv (mv rfl) rfl rfl rfl q28 rfl rfl ?_
    refine .gv (ln rfl tS22.is) rfl rfl rfl q28 rfl rfl ?_
    refine .gv (bi rfl rfl rfl) rfl rfl rfl q28 rfl rfl ?_
    refine .v (pkT rfl q28 rfl) rfl rfl rfl ?_
    refine .nil ?_
    refine .sel0 [2, 1, 0] (by decide) rfl ?_
    exact .use q11 (decide (4 < ((unknown.length : Nat) : Int))) hF (.cons rfl (.cons rfl (.cons rfl (.cons rfl (.cons rfl (.nil)))))) rfl (FH.le_refl _)
  replace hF := hF.2 q28
  refine .gS rfl rfl rfl q28 rfl rfl ?_
  refine .gS rfl rfl rfl q28 rfl rfl ?_
  refine .gS rfl rfl rfl q28 rfl rfl ?_
  refine .v (pkF rfl q28 rfl) rfl rfl rfl ?_
  refine .nil ?_
  refine .sel0 [2, 1, 0] (by decide) rfl ?_
  exact .use q11 false hF (.cons rfl (.cons rfl (.cons rfl (.cons rfl (.cons rfl (.nil)))))) rfl (FH.le_refl _)

theorem c_rUnknownFault {h : FH} {w : World} (hs : Sub h w) (t : Task) (at_ : Option Addr) (ct : Nat) (_q1 : RSl h at_ t.init) (_q2 : t.init.length ≤ ct) (at_2 : Option Addr) (ct2 : Nat) (_q3 : RSl h at_2 t.goal) (_q4 : t.goal.length ≤ ct2) (at_3 : Option Addr) (ct3 : Nat) (_q5 : RSl h at_3 t.ops) (_q6 : t.ops.length ≤ ct3) (unknown : List Int) (aunknown : Option Addr) (cunknown : Nat) (_q7 : RSl h aunknown unknown) (_q8 : unknown.length ≤ cunknown) : Calls Tryz.prog 13 #[.agg #[.int .i64 t.facts, .slice at_ t.init.length ct, .slice at_2 t.goal.length ct2, .slice at_3 t.ops.length ct3], .slice aunknown unknown.length cunknown] w fun e w' => e = .returned (.agg #[.int .i64 (sp_unknownFault t unknown).code, .int .i64 (sp_unknownFault t unknown).index]) ∧ Below w.heap.size w w' :=
  (w_rUnknownFault hs t at_ ct _q1 _q2 at_2 ct2 _q3 _q4 at_3 ct3 _q5 _q6 unknown aunknown cunknown _q7 _q8 (fun r => r = sp_unknownFault t unknown) (ok_rUnknownFault t unknown)).mono fun _ _ ⟨_, hk, he, hb⟩ => ⟨by rw [he, hk], hb⟩

theorem w_before {h : FH} {w : World} (hs : Sub h w) (a : List Int) (aa : Option Addr) (ca : Nat) (_q1 : RSl h aa a) (_q2 : a.length ≤ ca) (b : List Int) (ab : Option Addr) (cb : Nat) (_q3 : RSl h ab b) (_q4 : b.length ≤ cb) (K : Bool → Prop) (hF : F_before a b K) : Calls Tryz.prog 62 #[.slice aa a.length ca, .slice ab b.length cb] w fun e w' => ∃ r : Bool, K r ∧ e = .returned (.bool r) ∧ Below w.heap.size w w' := by
  refine enter (args := [.slice aa a.length ca, .slice ab b.length cb]) Tryz.func62 rfl Tryz.ntmps62 rfl hs ?_
  refine .seq ?_
  refine .region ?_
  refine .v (asg rfl) rfl rfl rfl ?_
  refine .nil ?_
  refine .seqN ?_
  refine .seq ?_
  refine .seq ?_
  refine .region ?_
  refine .v (asg rfl) rfl rfl rfl ?_
  refine .nil ?_
  refine .seqN ?_
  refine .block ?_
  obtain ⟨I1, μ1, q77, q78⟩ := hF
  refine .loop' (σ := Int) (fun z => I1 z) (fun z => μ1 z) (fun z => [(0, .slice aa a.length ca), (1, .slice ab b.length cb), (5, .int .i64 z)]) (fun _ => []) (fun _ => h) 0 q77 (.cons rfl (.cons rfl (.cons rfl (.nil)))) rfl (FH.le_refl _) ?_
  rintro i q77
  have hF := q78 i q77
  show J _ _ _ _ _ [(0, .slice aa a.length ca), (1, .slice ab b.length cb), (5, .int .i64 i)] [] h
  refine .seq ?_
  refine .share (σ := Bool) (fun z => F_before_J1 a b K z i I1 μ1) (fun z => [(0, .slice aa a.length ca), (1, .slice ab b.length cb), (5, .int .i64 i), (15, .bool z)]) (fun _ => []) (fun _ => h) ?_ (fun q80 => ?_)
  · rintro t15 hF
    show J _ _ _ _ _ [(0, .slice aa a.length ca), (1, .slice ab b.length cb), (5, .int .i64 i), (15, .bool t15)] [] h
    refine .cond rfl (fun q82 => ?_) (fun q82 => ?_)
    · replace hF := hF.1 q82
      refine .skip ?_
      refine .seqN ?_
      refine .seq ?_
      refine .block ?_
      refine .seq ?_
      refine .open_ (by kernel_rfl) (by kernel_rfl) ?_
      refine .v (mv rfl) rfl rfl rfl ?_
      refine .v (mv rfl) rfl rfl rfl ?_
      obtain ⟨q89, hF⟩ := hF
      refine .v (ix rfl rfl tS22 (_q1.ne (by decide) (inb_pos q89)) q89) rfl rfl rfl ?_
      refine .v (ld1 (v := .int .i64 (gt a i)) rfl tO3 (cellH (_q1.elemF q89 (by decide) 0 _ rfl))) rfl rfl rfl ?_
      refine .v (mv rfl) rfl rfl rfl ?_
      refine .v (mv rfl) rfl rfl rfl ?_
      obtain ⟨q90, hF⟩ := hF
      refine .v (ix rfl rfl tS22 (_q3.ne (by decide) (inb_pos q90)) q90) rfl rfl rfl ?_
      refine .v (ld1 (v := .int .i64 (gt b i)) rfl tO3 (cellH (_q3.elemF q90 (by decide) 0 _ rfl))) rfl rfl rfl ?_
      refine .v (bi rfl rfl rfl) rfl rfl rfl ?_
      refine .fin ?_
      refine .seqN ?_
      refine .cond rfl (fun q91 => ?_) (fun q91 => ?_)
      · replace hF := hF.1 q91
        refine .seq ?_
        refine .open_ (by kernel_rfl) (by kernel_rfl) ?_
        refine .v (mv rfl) rfl rfl rfl ?_
        refine .v (mv rfl) rfl rfl rfl ?_
        refine .v (ix rfl rfl tS22 (_q1.ne (by decide) (inb_pos q89)) q89) rfl rfl rfl ?_
        refine .v (ld1 (v := .int .i64 (gt a i)) rfl tO3 (cellH (_q1.elemF q89 (by decide) 0 _ rfl))) rfl rfl rfl ?_
        refine .v (mv rfl) rfl rfl rfl ?_
        refine .v (mv rfl) rfl rfl rfl ?_
        refine .v (ix rfl rfl tS22 (_q3.ne (by decide) (inb_pos q90)) q90) rfl rfl rfl ?_
        refine .v (ld1 (v := .int .i64 (gt b i)) rfl tO3 (cellH (_q3.elemF q90 (by decide) 0 _ rfl))) rfl rfl rfl ?_
        refine .v (bi rfl rfl rfl) rfl rfl rfl ?_
        refine .v (asg rfl) rfl rfl rfl ?_
        refine .fin ?_
        refine .seqN ?_
        refine .ret ?_
        refine .blkR ?_
        refine .seqR ?_
        refine .seqR ?_
        refine .blkR ?_
        refine .seqR ?_
        refine .res1 rfl (rvT rfl) (fun w' S => ⟨decide ((gt a i) < (gt b i)), hF, rfl, S.below⟩)
      replace hF := hF.2 q91
      refine .skip ?_
      refine .blkN ?_
      refine .seqN ?_
      refine .region ?_
      refine .v (mv rfl) rfl rfl rfl ?_
      refine .v (bi rfl rfl rfl) rfl rfl rfl ?_
      refine .v (asg rfl) rfl rfl rfl ?_
      refine .nil ?_
      exact .round (IntKind.i64.wrap (i + 1)) hF.1 hF.2 (.cons rfl (.cons rfl (.cons rfl (.nil)))) rfl (FH.le_refl _)
    replace hF := hF.2 q82
    refine .exit ?_
    refine .seqX ?_
    refine .seqX ?_
    refine .blkX ?_
    refine .seqN ?_
    refine .seq ?_
    refine .region ?_
    refine .v (mv rfl) rfl rfl rfl ?_
    refine .v (ln rfl tS22.is) rfl rfl rfl ?_
    refine .v (mv rfl) rfl rfl rfl ?_
    refine .v (ln rfl tS22.is) rfl rfl rfl ?_
    refine .v (bi rfl rfl rfl) rfl rfl rfl ?_
    refine .v (asg rfl) rfl rfl rfl ?_
    refine .nil ?_
    refine .seqN ?_
    refine .ret ?_
    refine .res1 rfl (rvT rfl) (fun w' S => ⟨decide (((a.length : Nat) : Int) < ((b.length : Nat) : Int)), hF, rfl, S.below⟩)
  refine .region ?_
  refine .v (mv rfl) rfl rfl rfl ?_
  refine .v (mv rfl) rfl rfl rfl ?_
  refine .v (ln rfl tS22.is) rfl rfl rfl ?_
  refine .v (bi rfl rfl rfl) rfl rfl rfl ?_
  refine .v (mv rfl) rfl rfl rfl ?_
  rcases Bool.eq_false_or_eq_true (decide (i < ((a.length : Nat) : Int))) with q92 | q92
  · replace hF := hF.1 q92
    refine .gv (mv rfl) rfl rfl rfl q92 rfl rfl ?_
    refine .gv (mv rfl) rfl rfl rfl q92 rfl rfl ?_
    refine .gv (ln rfl tS22.is) rfl rfl rfl q92 rfl rfl ?_
    refine .gv (bi rfl rfl rfl) rfl rfl rfl q92 rfl rfl ?_
    refine .v (pkT rfl q92 rfl) rfl rfl rfl ?_
    refine .nil ?_
    exact .use q80 (decide (i < ((b.length : Nat) : Int))) hF (.cons rfl (.cons rfl (.cons rfl (.cons rfl (.nil))))) rfl (FH.le_refl _)
  replace hF := hF.2 q92
  refine .gS rfl rfl rfl q92 rfl rfl ?_
  refine .gS rfl rfl rfl q92 rfl rfl ?_
  refine .gS rfl rfl rfl q92 rfl rfl ?_
  refine .gS rfl rfl rfl q92 rfl rfl ?_
  refine .v (pkF rfl q92 rfl) rfl rfl rfl ?_
  refine .nil ?_
  exact .use q80 false hF (.cons rfl (.cons rfl (.cons rfl (.cons rfl (.nil))))) rfl (FH.le_refl _)

theorem c_before {h : FH} {w : World} (hs : Sub h w) (a : List Int) (aa : Option Addr) (ca : Nat) (_q1 : RSl h aa a) (_q2 : a.length ≤ ca) (b : List Int) (ab : Option Addr) (cb : Nat) (_q3 : RSl h ab b) (_q4 : b.length ≤ cb) (hp : pre_before a b) : Calls Tryz.prog 62 #[.slice aa a.length ca, .slice ab b.length cb] w fun e w' => e = .returned (.bool (sp_before a b)) ∧ Below w.heap.size w w' :=
  (w_before hs a aa ca _q1 _q2 b ab cb _q3 _q4 (fun r => r = sp_before a b) (ok_before a b hp)).mono fun _ _ ⟨_, hk, he, hb⟩ => ⟨by rw [he, hk], hb⟩

theorem w_ints {h : FH} {w : World} (hs : Sub h w) (a : List Int) (aa : Option Addr) (ca : Nat) (_q1 : RSl h aa a) (_q2 : a.length ≤ ca) (b : List Int) (ab : Option Addr) (cb : Nat) (_q3 : RSl h ab b) (_q4 : b.length ≤ cb) (K : Bool → Prop) (hF : F_ints a b K) : Calls Tryz.prog 91 #[.slice aa a.length ca, .slice ab b.length cb] w fun e w' => ∃ r : Bool, K r ∧ e = .returned (.bool r) ∧ Below w.heap.size w w' := by
  refine enter (args := [.slice aa a.length ca, .slice ab b.length cb]) Tryz.func91 rfl Tryz.ntmps91 rfl hs ?_
  refine .seq ?_
  refine .region ?_
  refine .v (asg rfl) rfl rfl rfl ?_
  refine .nil ?_
  refine .seqN ?_
  refine .seq ?_
  refine .seq ?_
  refine .region ?_
  refine .v (mv rfl) rfl rfl rfl ?_
  refine .v (ln rfl tS22.is) rfl rfl rfl ?_
  refine .v (mv rfl) rfl rfl rfl ?_
  refine .v (ln rfl tS22.is) rfl rfl rfl ?_
  refine .v (bi rfl rfl rfl) rfl rfl rfl ?_
  refine .nil ?_
  refine .seqN ?_
  refine .cond rfl (fun q6 => ?_) (fun q6 => ?_)
  · replace hF := hF.1 q6
    refine .seq ?_
    refine .region ?_
    refine .v (asg rfl) rfl rfl rfl ?_
    refine .nil ?_
    refine .seqN ?_
    refine .ret ?_
    refine .seqR ?_
    refine .res1 rfl (rvT rfl) (fun w' S => ⟨false, hF, rfl, S.below⟩)
  replace hF := hF.2 q6
  refine .skip ?_
  refine .seqN ?_
  refine .seq ?_
  refine .seq ?_
  refine .region ?_
  refine .v (asg rfl) rfl rfl rfl ?_
  refine .nil ?_
  refine .seqN ?_
  refine .block ?_
  obtain ⟨I1, μ1, q64, q65⟩ := hF
  refine .loop' (σ := Int) (fun z => I1 z) (fun z => μ1 z) (fun z => [(0, .slice aa a.length ca), (1, .slice ab b.length cb), (5, .int .i64 z)]) (fun _ => []) (fun _ => h) 0 q64 (.cons rfl (.cons rfl (.cons rfl (.nil)))) rfl (FH.le_refl _) ?_
  rintro i q64
  have hF := q65 i q64
  show J _ _ _ _ _ [(0, .slice aa a.length ca), (1, .slice ab b.length cb), (5, .int .i64 i)] [] h
  refine .seq ?_
  refine .seq ?_
  refine .region ?_
  refine .v (mv rfl) rfl rfl rfl ?_
  refine .v (mv rfl) rfl rfl rfl ?_
  refine .v (ln rfl tS22.is) rfl rfl rfl ?_
  refine .v (bi rfl rfl rfl) rfl rfl rfl ?_
  refine .nil ?_
  refine .seqN ?_
  refine .cond rfl (fun q67 => ?_) (fun q67 => ?_)
  · replace hF := hF.1 q67
    refine .skip ?_
    refine .seqN ?_
    refine .seq ?_
    refine .block ?_
    refine .seq ?_
    refine .open_ (by kernel_rfl) (by kernel_rfl) ?_
    refine .v (mv rfl) rfl rfl rfl ?_
    refine .v (mv rfl) rfl rfl rfl ?_
    obtain ⟨q74, hF⟩ := hF
    refine .v (ix rfl rfl tS22 (_q1.ne (by decide) (inb_pos q74)) q74) rfl rfl rfl ?_
    refine .v (ld1 (v := .int .i64 (gt a i)) rfl tO3 (cellH (_q1.elemF q74 (by decide) 0 _ rfl))) rfl rfl rfl ?_
    refine .v (mv rfl) rfl rfl rfl ?_
    refine .v (mv rfl) rfl rfl rfl ?_
    obtain ⟨q75, hF⟩ := hF
    refine .v (ix rfl rfl tS22 (_q3.ne (by decide) (inb_pos q75)) q75) rfl rfl rfl ?_
    refine .v (ld1 (v := .int .i64 (gt b i)) rfl tO3 (cellH (_q3.elemF q75 (by decide) 0 _ rfl))) rfl rfl rfl ?_
    refine .v (bi rfl rfl rfl) rfl rfl rfl ?_
    refine .fin ?_
    refine .seqN ?_
    refine .cond rfl (fun q76 => ?_) (fun q76 => ?_)
    · replace hF := hF.1 q76
      refine .seq ?_
      refine .region ?_
      refine .v (asg rfl) rfl rfl rfl ?_
      refine .nil ?_
      refine .seqN ?_
      refine .ret ?_
      refine .blkR ?_
      refine .seqR ?_
      refine .seqR ?_
      refine .blkR ?_
      refine .seqR ?_
      refine .res1 rfl (rvT rfl) (fun w' S => ⟨false, hF, rfl, S.below⟩)
    replace hF := hF.2 q76
    refine .skip ?_
    refine .blkN ?_
    refine .seqN ?_
    refine .region ?_
    refine .v (mv rfl) rfl rfl rfl ?_
    refine .v (bi rfl rfl rfl) rfl rfl rfl ?_
    refine .v (asg rfl) rfl rfl rfl ?_
    refine .nil ?_
    exact .round (IntKind.i64.wrap (i + 1)) hF.1 hF.2 (.cons rfl (.cons rfl (.cons rfl (.nil)))) rfl (FH.le_refl _)
  replace hF := hF.2 q67
  refine .exit ?_
  refine .seqX ?_
  refine .seqX ?_
  refine .blkX ?_
  refine .seqN ?_
  refine .seq ?_
  refine .region ?_
  refine .v (asg rfl) rfl rfl rfl ?_
  refine .nil ?_
  refine .seqN ?_
  refine .ret ?_
  refine .res1 rfl (rvT rfl) (fun w' S => ⟨true, hF, rfl, S.below⟩)

theorem c_ints {h : FH} {w : World} (hs : Sub h w) (a : List Int) (aa : Option Addr) (ca : Nat) (_q1 : RSl h aa a) (_q2 : a.length ≤ ca) (b : List Int) (ab : Option Addr) (cb : Nat) (_q3 : RSl h ab b) (_q4 : b.length ≤ cb) (hp : pre_ints a b) : Calls Tryz.prog 91 #[.slice aa a.length ca, .slice ab b.length cb] w fun e w' => e = .returned (.bool (sp_ints a b)) ∧ Below w.heap.size w w' :=
  (w_ints hs a aa ca _q1 _q2 b ab cb _q3 _q4 (fun r => r = sp_ints a b) (ok_ints a b hp)).mono fun _ _ ⟨_, hk, he, hb⟩ => ⟨by rw [he, hk], hb⟩

set_option maxHeartbeats 8000000 in
theorem w_insert {h : FH} {w : World} (hs : Sub h w) (l : List (List Int)) (al2 : Option Addr) (cl2 : Nat) (_q1 : RSl h al2 l) (_q2 : l.length ≤ cl2) (s_ : List Int) (as_ : Option Addr) (cs_ : Nat) (_q3 : RSl h as_ s_) (_q4 : s_.length ≤ cs_) (K : (List (List Int)) → Prop) (hF : F_insert l s_ K) : Calls Tryz.prog 57 #[.slice al2 l.length cl2, .slice as_ s_.length cs_] w fun e w' => ∃ (r : List (List Int)) (z : Option Addr × Nat) (h1 : FH), K r ∧ e = .returned (.slice z.1 r.length z.2) ∧ FH.le h h1 ∧ (RSl h1 z.1 r ∧ r.length ≤ z.2) ∧ SH (Kp.all w h) h1 w' [] := by
  refine enter (args := [.slice al2 l.length cl2, .slice as_ s_.length cs_]) Tryz.func57 rfl Tryz.ntmps57 rfl hs ?_
  refine .seq ?_
  refine .region ?_
  refine .v (asg rfl) rfl rfl rfl ?_
  refine .nil ?_
  refine .seqN ?_
  refine .seq ?_
  refine .region ?_
  refine .v (asg rfl) rfl rfl rfl ?_
  refine .nil ?_
  refine .seqN ?_
  refine .seq ?_
  refine .block ?_
  obtain ⟨I1, μ1, q145, q146⟩ := hF
  refine .loop' (σ := Int) (fun z => I1 z) (fun z => μ1 z) (fun z => [(0, .slice al2 l.length cl2), (1, .slice as_ s_.length cs_), (5, .int .i64 z)]) (fun _ => []) (fun _ => h) 0 q145 (.cons rfl (.cons rfl (.cons rfl (.nil)))) rfl (FH.le_refl _) ?_
  rintro k q145
  have hF := q146 k q145
  show J _ _ _ _ _ [(0, .slice al2 l.length cl2), (1, .slice as_ s_.length cs_), (5, .int .i64 k)] [] h
  refine .seq ?_
  refine .share (σ := Bool) (fun z => F_insert_J1 l s_ K z k I1 μ1) (fun z => [(0, .slice al2 l.length cl2), (1, .slice as_ s_.length cs_), (5, .int .i64 k), (17, .bool z)]) (fun _ => []) (fun _ => h) ?_ (fun q154 => ?_)
  · rintro t17 hF
    show J _ _ _ _ _ [(0, .slice al2 l.length cl2), (1, .slice as_ s_.length cs_), (5, .int .i64 k), (17, .bool t17)] [] h
    refine .cond rfl (fun q156 => ?_) (fun q156 => ?_)
    · replace hF := hF.1 q156
      refine .skip ?_
      refine .seqN ?_
      refine .block ?_
      refine .region ?_
      refine .v (mv rfl) rfl rfl rfl ?_
      refine .v (bi rfl rfl rfl) rfl rfl rfl ?_
      refine .v (asg rfl) rfl rfl rfl ?_
      refine .nil ?_
      refine .blkN ?_
      exact .round (IntKind.i64.wrap (k + 1)) hF.1 hF.2 (.cons rfl (.cons rfl (.cons rfl (.nil)))) rfl (FH.le_refl _)
    replace hF := hF.2 q156
    refine .exit ?_
    refine .seqX ?_
    refine .seqX ?_
    refine .blkX ?_
    refine .seqN ?_
    refine .seq ?_
    refine .share (σ := Bool) (fun z => F_insert_J2 l s_ K k z) (fun z => [(0, .slice al2 l.length cl2), (1, .slice as_ s_.length cs_), (5, .int .i64 k), (31, .bool z)]) (fun _ => []) (fun _ => h) ?_ (fun q164 => ?_)
    · rintro t31 hF
      show J _ _ _ _ _ [(0, .slice al2 l.length cl2), (1, .slice as_ s_.length cs_), (5, .int .i64 k), (31, .bool t31)] [] h
      refine .cond rfl (fun q166 => ?_) (fun q166 => ?_)
      · replace hF := hF.1 q166
        refine .seq ?_
        refine .region ?_
        refine .v (mv rfl) rfl rfl rfl ?_
        refine .v (asg rfl) rfl rfl rfl ?_
        refine .nil ?_
        refine .seqN ?_
        refine .ret ?_
        refine .seqR ?_
        refine .res1 rfl (rvT rfl) (fun w' S => ⟨l, (al2, cl2), h, hF, rfl, (FH.le_refl _), ⟨_q1, _q2⟩, S.none⟩)
      replace hF := hF.2 q166
      refine .skip ?_
      refine .seqN ?_
      refine .seq ?_
      obtain ⟨q212, hF⟩ := hF
      refine .openA (s0 := [(0, .slice al2 l.length cl2), (1, .slice as_ s_.length cs_), (5, .int .i64 k)]) [1, 2, 3, 5, 8, 9, 10] [(1, .slice al2 l.length cl2), (2, .int .i64 k), (3, .slice al2 ((l.take (k).toNat).length) cl2), (5, .slice as_ s_.length cs_), (8, .slice al2 l.length cl2), (9, .int .i64 k), (10, .slice (sla al2 cl2 (k).toNat 1) ((l.drop (k).toNat).length) (cl2 - (k).toNat))] (by kernel_rfl) (.cons rfl (.cons rfl (.cons rfl (.nil)))) [0, 1, 5] [] rfl (by kernel_rfl) ?_
      refine .step [0, 6] 0 rfl (by kernel_rfl) (by kernel_rfl) (.v [] rfl rfl rfl rfl rfl rfl (fun _ => mv rfl) (.v [] rfl rfl rfl rfl rfl rfl (fun _ => mv rfl) (.v [(34, .slice al2 l.length cl2), (35, .int .i64 k)] rfl rfl rfl rfl rfl rfl (fun _ => slH tS35 rfl rfl q212.1 (take_len q212).symm (take_cap _q2)) (.v [] rfl rfl rfl rfl rfl rfl (fun _ => mv rfl) (.v [] rfl rfl rfl rfl rfl rfl (fun _ => mv rfl) (.v [] rfl rfl rfl rfl rfl rfl (fun _ => mv rfl) (.v [(41, .slice al2 l.length cl2), (42, .int .i64 k)] rfl rfl rfl rfl rfl rfl (fun _ => slL2 tS35 rfl rfl q212.1 (drop_len q212).symm (drop_le q212)) (.nil)))))))) (.cons [] rfl rfl (fun sL hL => ?_) (.cons [(38, .slice as_ s_.length cs_)] rfl rfl (fun sL hL => ?_) (.nil)))
      · refine bs2 (cs := #[]) (pv := []) tS35 rfl rfl (by decide) (by decide) rfl rfl rfl (fun a _ => ?_)
        refine .cast (A' := [OwnSl 22 1 a (([] : List (List Int)).length) 0 []]) rfl ?_
        refine .nil ?_
        refine .ja (M := []) (C' := [1, 2, 3, 5, 8, 9, 10]) (pre := [(0, .slice a (([] : List (List Int)).length) 0)]) [(0, .slice al2 l.length cl2), (1, .slice as_ s_.length cs_), (5, .int .i64 k)] [0, 1, 5] hL rfl rfl rfl rfl rfl (.cons rfl (.cons rfl (.cons rfl (.nil)))) rfl rfl (by kernel_rfl) ?_
        refine .step [4, 6] 4 rfl (by kernel_rfl) (by kernel_rfl) (.v [] rfl rfl rfl rfl rfl rfl (fun _ => mv rfl) (.v [] rfl rfl rfl rfl rfl rfl (fun _ => mv rfl) (.v [(34, .slice al2 l.length cl2), (35, .int .i64 k)] rfl rfl rfl rfl rfl rfl (fun _ => slH tS35 rfl rfl q212.1 (take_len q212).symm (take_cap _q2)) (.v [] rfl rfl rfl rfl rfl rfl (fun _ => mv rfl) (.v [] rfl rfl rfl rfl rfl rfl (fun _ => mv rfl) (.v [] rfl rfl rfl rfl rfl rfl (fun _ => mv rfl) (.v [(41, .slice al2 l.length cl2), (42, .int .i64 k)] rfl rfl rfl rfl rfl rfl (fun _ => slL2 tS35 rfl rfl q212.1 (drop_len q212).symm (drop_le q212)) (.nil)))))))) (.cons [(33, .slice a (([] : List (List Int)).length) 0), (36, .slice al2 ((l.take (k).toNat).length) cl2)] rfl rfl (fun sL hL => ?_) (.cons [(38, .slice as_ s_.length cs_)] rfl rfl (fun sL hL => ?_) (.nil)))
        · obtain ⟨cs, q214, q215⟩ := id (RSl.take_ _q1)
          obtain ⟨q216, hF⟩ := hF
          have q217 : ([] : List (List Int)).length + (l.take (k).toNat).length = ((([] : List (List Int)) ++ (l.take (k).toNat))).length := len_app rfl rfl
          have q218 := RepL.append (show RepL h ([] : List (List Int)) [] from rfl) q214
          refine app (k := 0) (news := cs) (cs' := ([] ++ cs)) (nm := ((([] : List (List Int)) ++ (l.take (k).toNat))).length) tS35 rfl (by decide) rfl rfl rfl (RepL.len q214) (srcH (fun q => (RSl.take_ _q1).ne (by decide) q) q215) (RepL.one q214) (room_of q217 q216).1 (room_of q217 q216).2 q217 rfl rfl (fun a2 c => ?_)
          refine .cast (A' := [OwnSl 22 1 a2 ((([] : List (List Int)) ++ (l.take (k).toNat)).length) c ([] ++ cs)]) rfl ?_
          refine .nil ?_
          refine .ja (M := [3, 1, 2]) (C' := [5, 8, 9, 10]) (pre := [(4, .slice a2 ((([] : List (List Int)) ++ (l.take (k).toNat)).length) c)]) [(0, .slice al2 l.length cl2), (1, .slice as_ s_.length cs_), (5, .int .i64 k)] [0, 1, 5] hL rfl rfl rfl rfl rfl (.cons rfl (.cons rfl (.cons rfl (.nil)))) rfl rfl (by kernel_rfl) ?_
          refine .step [6] 6 rfl (by kernel_rfl) (by kernel_rfl) (.v [] rfl rfl rfl rfl rfl rfl (fun _ => mv rfl) (.v [] rfl rfl rfl rfl rfl rfl (fun _ => mv rfl) (.v [] rfl rfl rfl rfl rfl rfl (fun _ => mv rfl) (.v [(41, .slice al2 l.length cl2), (42, .int .i64 k)] rfl rfl rfl rfl rfl rfl (fun _ => slL2 tS35 rfl rfl q212.1 (drop_len q212).symm (drop_le q212)) (.nil))))) (.cons [(38, .slice as_ s_.length cs_)] rfl rfl (fun sL hL => ?_) (.nil))
          refine bs2 (cs := #[.slice as_ s_.length cs_]) (pv := [(0, .slice as_ s_.length cs_)]) tS35 rfl rfl (by decide) (by decide) rfl rfl rfl (fun a3 _ => ?_)
          refine .cast (A' := [OwnSl 22 1 a3 (([s_] : List (List Int)).length) 1 [.slice as_ s_.length cs_], OwnSl 22 1 a2 ((([] : List (List Int)) ++ (l.take (k).toNat)).length) c ([] ++ cs)]) rfl ?_
          refine .nil ?_
          refine .ja (M := [5]) (C' := [8, 9, 10]) (pre := [(6, .slice a3 (([s_] : List (List Int)).length) 1)]) [(0, .slice al2 l.length cl2), (1, .slice as_ s_.length cs_), (5, .int .i64 k)] [0, 1, 5] hL rfl rfl rfl rfl rfl (.cons rfl (.cons rfl (.cons rfl (.nil)))) rfl rfl (by kernel_rfl) ?_
          refine .step [7] 7 rfl (by kernel_rfl) (by kernel_rfl) (.v [] rfl rfl rfl rfl rfl rfl (fun _ => mv rfl) (.v [] rfl rfl rfl rfl rfl rfl (fun _ => mv rfl) (.v [(41, .slice al2 l.length cl2), (42, .int .i64 k)] rfl rfl rfl rfl rfl rfl (fun _ => slL2 tS35 rfl rfl q212.1 (drop_len q212).symm (drop_le q212)) (.nil)))) (.cons [(37, .slice a2 ((([] : List (List Int)) ++ (l.take (k).toNat)).length) c), (39, .slice a3 (([s_] : List (List Int)).length) 1), (37, .slice a2 ((([] : List (List Int)) ++ (l.take (k).toNat)).length) c)] rfl rfl (fun sL hL => ?_) (.nil))
          obtain ⟨q220, hF⟩ := hF
          have q221 : (([] : List (List Int)) ++ (l.take (k).toNat)).length + ([s_] : List (List Int)).length = (((([] : List (List Int)) ++ (l.take (k).toNat)) ++ ([s_] : List (List Int)))).length := len_app rfl rfl
          have q222 := RepL.append q218 (show RepL h ([s_] : List (List Int)) [.slice as_ s_.length cs_] from ⟨[.slice as_ s_.length cs_], _, rfl, ⟨as_, cs_, rfl, _q4, _q3⟩, rfl⟩)
          refine app (k := 1) (news := [.slice as_ s_.length cs_]) (cs' := (([] ++ cs) ++ [.slice as_ s_.length cs_])) (nm := (((([] : List (List Int)) ++ (l.take (k).toNat)) ++ ([s_] : List (List Int)))).length) tS35 rfl (by decide) rfl rfl rfl (RepL.len (show RepL h ([s_] : List (List Int)) [.slice as_ s_.length cs_] from ⟨[.slice as_ s_.length cs_], _, rfl, ⟨as_, cs_, rfl, _q4, _q3⟩, rfl⟩)) (srcS (k := 0) rfl) (RepL.one (show RepL h ([s_] : List (List Int)) [.slice as_ s_.length cs_] from ⟨[.slice as_ s_.length cs_], _, rfl, ⟨as_, cs_, rfl, _q4, _q3⟩, rfl⟩)) (room_of q221 q220).1 (room_of q221 q220).2 q221 rfl rfl (fun a4 c2 => ?_)
          refine .cast (A' := [OwnSl 22 1 a3 (([s_] : List (List Int)).length) 1 [.slice as_ s_.length cs_], OwnSl 22 1 a4 (((([] : List (List Int)) ++ (l.take (k).toNat)) ++ ([s_] : List (List Int))).length) c2 (([] ++ cs) ++ [.slice as_ s_.length cs_])]) rfl ?_
          refine .nil ?_
          refine .ja (M := []) (C' := [8, 9, 10]) (pre := [(7, .slice a4 (((([] : List (List Int)) ++ (l.take (k).toNat)) ++ ([s_] : List (List Int))).length) c2)]) [(0, .slice al2 l.length cl2), (1, .slice as_ s_.length cs_), (5, .int .i64 k)] [0, 1, 5] hL rfl rfl rfl rfl rfl (.cons rfl (.cons rfl (.cons rfl (.nil)))) rfl rfl (by kernel_rfl) ?_
          refine .step [11] 11 rfl (by kernel_rfl) (by kernel_rfl) (.v [] rfl rfl rfl rfl rfl rfl (fun _ => mv rfl) (.v [] rfl rfl rfl rfl rfl rfl (fun _ => mv rfl) (.v [(41, .slice al2 l.length cl2), (42, .int .i64 k)] rfl rfl rfl rfl rfl rfl (fun _ => slL2 tS35 rfl rfl q212.1 (drop_len q212).symm (drop_le q212)) (.nil)))) (.cons [(40, .slice a4 (((([] : List (List Int)) ++ (l.take (k).toNat)) ++ ([s_] : List (List Int))).length) c2), (43, .slice (sla al2 cl2 (k).toNat 1) ((l.drop (k).toNat).length) (cl2 - (k).toNat)), (40, .slice a4 (((([] : List (List Int)) ++ (l.take (k).toNat)) ++ ([s_] : List (List Int))).length) c2)] rfl rfl (fun sL hL => ?_) (.nil))
          obtain ⟨cs2, q223, q224⟩ := id (RSl.drop_ _q1 _q2 q212)
          obtain ⟨q225, hF⟩ := hF
          have q226 : ((([] : List (List Int)) ++ (l.take (k).toNat)) ++ ([s_] : List (List Int))).length + (l.drop (k).toNat).length = ((((([] : List (List Int)) ++ (l.take (k).toNat)) ++ ([s_] : List (List Int))) ++ (l.drop (k).toNat))).length := len_app rfl rfl
          have q227 := RepL.append q222 q223
          refine app (k := 1) (news := cs2) (cs' := ((([] ++ cs) ++ [.slice as_ s_.length cs_]) ++ cs2)) (nm := ((((([] : List (List Int)) ++ (l.take (k).toNat)) ++ ([s_] : List (List Int))) ++ (l.drop (k).toNat))).length) tS35 rfl (by decide) rfl rfl rfl (RepL.len q223) (srcH (fun q => (RSl.drop_ _q1 _q2 q212).ne (by decide) q) q224) (RepL.one q223) (room_of q226 q225).1 (room_of q226 q225).2 q226 rfl rfl (fun a5 c3 => ?_)
          refine .cast (A' := [OwnSl 22 1 a3 (([s_] : List (List Int)).length) 1 [.slice as_ s_.length cs_], OwnSl 22 1 a5 ((((([] : List (List Int)) ++ (l.take (k).toNat)) ++ ([s_] : List (List Int))) ++ (l.drop (k).toNat)).length) c3 ((([] ++ cs) ++ [.slice as_ s_.length cs_]) ++ cs2)]) rfl ?_
          refine .nil ?_
          refine .ja (M := [10, 8, 9]) (C' := [12]) (pre := [(11, .slice a5 ((((([] : List (List Int)) ++ (l.take (k).toNat)) ++ ([s_] : List (List Int))) ++ (l.drop (k).toNat)).length) c3), (12, .slice a5 ((((([] : List (List Int)) ++ (l.take (k).toNat)) ++ ([s_] : List (List Int))) ++ (l.drop (k).toNat)).length) c3)]) [(0, .slice al2 l.length cl2), (1, .slice as_ s_.length cs_), (5, .int .i64 k)] [0, 1, 5] hL rfl rfl rfl rfl rfl (.cons rfl (.cons rfl (.cons rfl (.nil)))) rfl rfl (by kernel_rfl) ?_
          refine .last [(33, .slice a (([] : List (List Int)).length) 0), (34, .slice al2 l.length cl2), (35, .int .i64 k), (36, .slice al2 ((l.take (k).toNat).length) cl2), (37, .slice a2 ((([] : List (List Int)) ++ (l.take (k).toNat)).length) c), (38, .slice as_ s_.length cs_), (39, .slice a3 (([s_] : List (List Int)).length) 1), (40, .slice a4 (((([] : List (List Int)) ++ (l.take (k).toNat)) ++ ([s_] : List (List Int))).length) c2), (41, .slice al2 l.length cl2), (42, .int .i64 k), (43, .slice (sla al2 cl2 (k).toNat 1) ((l.drop (k).toNat).length) (cl2 - (k).toNat)), (44, .slice a5 ((((([] : List (List Int)) ++ (l.take (k).toNat)) ++ ([s_] : List (List Int))) ++ (l.drop (k).toNat)).length) c3), (4, .slice a5 ((((([] : List (List Int)) ++ (l.take (k).toNat)) ++ ([s_] : List (List Int))) ++ (l.drop (k).toNat)).length) c3)] rfl (by kernel_rfl) (.v [(44, .slice a5 ((((([] : List (List Int)) ++ (l.take (k).toNat)) ++ ([s_] : List (List Int))) ++ (l.drop (k).toNat)).length) c3), (44, .slice a5 ((((([] : List (List Int)) ++ (l.take (k).toNat)) ++ ([s_] : List (List Int))) ++ (l.drop (k).toNat)).length) c3), (33, .slice a (([] : List (List Int)).length) 0), (34, .slice al2 l.length cl2), (35, .int .i64 k), (36, .slice al2 ((l.take (k).toNat).length) cl2), (37, .slice a2 ((([] : List (List Int)) ++ (l.take (k).toNat)).length) c), (38, .slice as_ s_.length cs_), (39, .slice a3 (([s_] : List (List Int)).length) 1), (40, .slice a4 (((([] : List (List Int)) ++ (l.take (k).toNat)) ++ ([s_] : List (List Int))).length) c2), (41, .slice al2 l.length cl2), (42, .int .i64 k), (43, .slice (sla al2 cl2 (k).toNat 1) ((l.drop (k).toNat).length) (cl2 - (k).toNat)), (44, .slice a5 ((((([] : List (List Int)) ++ (l.take (k).toNat)) ++ ([s_] : List (List Int))) ++ (l.drop (k).toNat)).length) c3)] rfl rfl rfl rfl rfl rfl (fun _ => asg rfl) (.nil)) rfl ?_
          refine .seqN ?_
          refine .freezeL (k := 1) rfl (fun h1 le1 q229 q228 => ?_)
          refine .cast (A' := [OwnSl 22 1 a3 (([s_] : List (List Int)).length) 1 [.slice as_ s_.length cs_], tru]) rfl ?_
          refine .ret ?_
          refine .res1 rfl (rvT rfl) (fun w' S => ⟨(((([] : List (List Int)) ++ (l.take (k).toNat)) ++ ([s_] : List (List Int))) ++ (l.drop (k).toNat)), (a5, c3), h1, hF, rfl, (le1), ⟨(show RSl h1 a5 (((([] : List (List Int)) ++ (l.take (k).toNat)) ++ ([s_] : List (List Int))) ++ (l.drop (k).toNat)) from ⟨_, q227.mono (le1), q228⟩), (q229)⟩, S.none⟩)
        · refine bs2 (cs := #[.slice as_ s_.length cs_]) (pv := [(0, .slice as_ s_.length cs_)]) tS35 rfl rfl (by decide) (by decide) rfl rfl rfl (fun a2 _ => ?_)
          refine .cast (A' := [OwnSl 22 1 a2 (([s_] : List (List Int)).length) 1 [.slice as_ s_.length cs_], OwnSl 22 1 a (([] : List (List Int)).length) 0 []]) rfl ?_
          refine .nil ?_
          refine .ja (M := [5]) (C' := [1, 2, 3, 8, 9, 10]) (pre := [(6, .slice a2 (([s_] : List (List Int)).length) 1)]) [(0, .slice al2 l.length cl2), (1, .slice as_ s_.length cs_), (5, .int .i64 k)] [0, 1, 5] hL rfl rfl rfl rfl rfl (.cons rfl (.cons rfl (.cons rfl (.nil)))) rfl rfl (by kernel_rfl) ?_
          refine .step [4] 4 rfl (by kernel_rfl) (by kernel_rfl) (.v [] rfl rfl rfl rfl rfl rfl (fun _ => mv rfl) (.v [] rfl rfl rfl rfl rfl rfl (fun _ => mv rfl) (.v [(34, .slice al2 l.length cl2), (35, .int .i64 k)] rfl rfl rfl rfl rfl rfl (fun _ => slH tS35 rfl rfl q212.1 (take_len q212).symm (take_cap _q2)) (.v [] rfl rfl rfl rfl rfl rfl (fun _ => mv rfl) (.v [] rfl rfl rfl rfl rfl rfl (fun _ => mv rfl) (.v [(41, .slice al2 l.length cl2), (42, .int .i64 k)] rfl rfl rfl rfl rfl rfl (fun _ => slL2 tS35 rfl rfl q212.1 (drop_len q212).symm (drop_le q212)) (.nil))))))) (.cons [(33, .slice a (([] : List (List Int)).length) 0), (36, .slice al2 ((l.take (k).toNat).length) cl2)] rfl rfl (fun sL hL => ?_) (.nil))
          obtain ⟨cs, q231, q232⟩ := id (RSl.take_ _q1)
          obtain ⟨q233, hF⟩ := hF
          have q234 : ([] : List (List Int)).length + (l.take (k).toNat).length = ((([] : List (List Int)) ++ (l.take (k).toNat))).length := len_app rfl rfl
          have q235 := RepL.append (show RepL h ([] : List (List Int)) [] from rfl) q231
          refine app (k := 1) (news := cs) (cs' := ([] ++ cs)) (nm := ((([] : List (List Int)) ++ (l.take (k).toNat))).length) tS35 rfl (by decide) rfl rfl rfl (RepL.len q231) (srcH (fun q => (RSl.take_ _q1).ne (by decide) q) q232) (RepL.one q231) (room_of q234 q233).1 (room_of q234 q233).2 q234 rfl rfl (fun a3 c => ?_)
          refine .cast (A' := [OwnSl 22 1 a2 (([s_] : List (List Int)).length) 1 [.slice as_ s_.length cs_], OwnSl 22 1 a3 ((([] : List (List Int)) ++ (l.take (k).toNat)).length) c ([] ++ cs)]) rfl ?_
          refine .nil ?_
          refine .ja (M := [3, 1, 2]) (C' := [8, 9, 10]) (pre := [(4, .slice a3 ((([] : List (List Int)) ++ (l.take (k).toNat)).length) c)]) [(0, .slice al2 l.length cl2), (1, .slice as_ s_.length cs_), (5, .int .i64 k)] [0, 1, 5] hL rfl rfl rfl rfl rfl (.cons rfl (.cons rfl (.cons rfl (.nil)))) rfl rfl (by kernel_rfl) ?_
          refine .step [7] 7 rfl (by kernel_rfl) (by kernel_rfl) (.v [] rfl rfl rfl rfl rfl rfl (fun _ => mv rfl) (.v [] rfl rfl rfl rfl rfl rfl (fun _ => mv rfl) (.v [(41, .slice al2 l.length cl2), (42, .int .i64 k)] rfl rfl rfl rfl rfl rfl (fun _ => slL2 tS35 rfl rfl q212.1 (drop_len q212).symm (drop_le q212)) (.nil)))) (.cons [(37, .slice a3 ((([] : List (List Int)) ++ (l.take (k).toNat)).length) c), (39, .slice a2 (([s_] : List (List Int)).length) 1), (37, .slice a3 ((([] : List (List Int)) ++ (l.take (k).toNat)).length) c)] rfl rfl (fun sL hL => ?_) (.nil))
          obtain ⟨q236, hF⟩ := hF
          have q237 : (([] : List (List Int)) ++ (l.take (k).toNat)).length + ([s_] : List (List Int)).length = (((([] : List (List Int)) ++ (l.take (k).toNat)) ++ ([s_] : List (List Int)))).length := len_app rfl rfl
          have q238 := RepL.append q235 (show RepL h ([s_] : List (List Int)) [.slice as_ s_.length cs_] from ⟨[.slice as_ s_.length cs_], _, rfl, ⟨as_, cs_, rfl, _q4, _q3⟩, rfl⟩)
          refine app (k := 1) (news := [.slice as_ s_.length cs_]) (cs' := (([] ++ cs) ++ [.slice as_ s_.length cs_])) (nm := (((([] : List (List Int)) ++ (l.take (k).toNat)) ++ ([s_] : List (List Int)))).length) tS35 rfl (by decide) rfl rfl rfl (RepL.len (show RepL h ([s_] : List (List Int)) [.slice as_ s_.length cs_] from ⟨[.slice as_ s_.length cs_], _, rfl, ⟨as_, cs_, rfl, _q4, _q3⟩, rfl⟩)) (srcS (k := 0) rfl) (RepL.one (show RepL h ([s_] : List (List Int)) [.slice as_ s_.length cs_] from ⟨[.slice as_ s_.length cs_], _, rfl, ⟨as_, cs_, rfl, _q4, _q3⟩, rfl⟩)) (room_of q237 q236).1 (room_of q237 q236).2 q237 rfl rfl (fun a4 c2 => ?_)
          refine .cast (A' := [OwnSl 22 1 a2 (([s_] : List (List Int)).length) 1 [.slice as_ s_.length cs_], OwnSl 22 1 a4 (((([] : List (List Int)) ++ (l.take (k).toNat)) ++ ([s_] : List (List Int))).length) c2 (([] ++ cs) ++ [.slice as_ s_.length cs_])]) rfl ?_
          refine .nil ?_
          refine .ja (M := []) (C' := [8, 9, 10]) (pre := [(7, .slice a4 (((([] : List (List Int)) ++ (l.take (k).toNat)) ++ ([s_] : List (List Int))).length) c2)]) [(0, .slice al2 l.length cl2), (1, .slice as_ s_.length cs_), (5, .int .i64 k)] [0, 1, 5] hL rfl rfl rfl rfl rfl (.cons rfl (.cons rfl (.cons rfl (.nil)))) rfl rfl (by kernel_rfl) ?_
          refine .step [11] 11 rfl (by kernel_rfl) (by kernel_rfl) (.v [] rfl rfl rfl rfl rfl rfl (fun _ => mv rfl) (.v [] rfl rfl rfl rfl rfl rfl (fun _ => mv rfl) (.v [(41, .slice al2 l.length cl2), (42, .int .i64 k)] rfl rfl rfl rfl rfl rfl (fun _ => slL2 tS35 rfl rfl q212.1 (drop_len q212).symm (drop_le q212)) (.nil)))) (.cons [(40, .slice a4 (((([] : List (List Int)) ++ (l.take (k).toNat)) ++ ([s_] : List (List Int))).length) c2), (43, .slice (sla al2 cl2 (k).toNat 1) ((l.drop (k).toNat).length) (cl2 - (k).toNat)), (40, .slice a4 (((([] : List (List Int)) ++ (l.take (k).toNat)) ++ ([s_] : List (List Int))).length) c2)] rfl rfl (fun sL hL => ?_) (.nil))
          obtain ⟨cs2, q239, q240⟩ := id (RSl.drop_ _q1 _q2 q212)
          obtain ⟨q241, hF⟩ := hF
          have q242 : ((([] : List (List Int)) ++ (l.take (k).toNat)) ++ ([s_] : List (List Int))).length + (l.drop (k).toNat).length = ((((([] : List (List Int)) ++ (l.take (k).toNat)) ++ ([s_] : List (List Int))) ++ (l.drop (k).toNat))).length := len_app rfl rfl
          have q243 := RepL.append q238 q239
          refine app (k := 1) (news := cs2) (cs' := ((([] ++ cs) ++ [.slice as_ s_.length cs_]) ++ cs2)) (nm := ((((([] : List (List Int)) ++ (l.take (k).toNat)) ++ ([s_] : List (List Int))) ++ (l.drop (k).toNat))).length) tS35 rfl (by decide) rfl rfl rfl (RepL.len q239) (srcH (fun q => (RSl.drop_ _q1 _q2 q212).ne (by decide) q) q240) (RepL.one q239) (room_of q242 q241).1 (room_of q242 q241).2 q242 rfl rfl (fun a5 c3 => ?_)
          refine .cast (A' := [OwnSl 22 1 a2 (([s_] : List (List Int)).length) 1 [.slice as_ s_.length cs_], OwnSl 22 1 a5 ((((([] : List (List Int)) ++ (l.take (k).toNat)) ++ ([s_] : List (List Int))) ++ (l.drop (k).toNat)).length) c3 ((([] ++ cs) ++ [.slice as_ s_.length cs_]) ++ cs2)]) rfl ?_
          refine .nil ?_
          refine .ja (M := [10, 8, 9]) (C' := [12]) (pre := [(11, .slice a5 ((((([] : List (List Int)) ++ (l.take (k).toNat)) ++ ([s_] : List (List Int))) ++ (l.drop (k).toNat)).length) c3), (12, .slice a5 ((((([] : List (List Int)) ++ (l.take (k).toNat)) ++ ([s_] : List (List Int))) ++ (l.drop (k).toNat)).length) c3)]) [(0, .slice al2 l.length cl2), (1, .slice as_ s_.length cs_), (5, .int .i64 k)] [0, 1, 5] hL rfl rfl rfl rfl rfl (.cons rfl (.cons rfl (.cons rfl (.nil)))) rfl rfl (by kernel_rfl) ?_
          refine .last [(33, .slice a (([] : List (List Int)).length) 0), (34, .slice al2 l.length cl2), (35, .int .i64 k), (36, .slice al2 ((l.take (k).toNat).length) cl2), (37, .slice a3 ((([] : List (List Int)) ++ (l.take (k).toNat)).length) c), (38, .slice as_ s_.length cs_), (39, .slice a2 (([s_] : List (List Int)).length) 1), (40, .slice a4 (((([] : List (List Int)) ++ (l.take (k).toNat)) ++ ([s_] : List (List Int))).length) c2), (41, .slice al2 l.length cl2), (42, .int .i64 k), (43, .slice (sla al2 cl2 (k).toNat 1) ((l.drop (k).toNat).length) (cl2 - (k).toNat)), (44, .slice a5 ((((([] : List (List Int)) ++ (l.take (k).toNat)) ++ ([s_] : List (List Int))) ++ (l.drop (k).toNat)).length) c3), (4, .slice a5 ((((([] : List (List Int)) ++ (l.take (k).toNat)) ++ ([s_] : List (List Int))) ++ (l.drop (k).toNat)).length) c3)] rfl (by kernel_rfl) (.v [(44, .slice a5 ((((([] : List (List Int)) ++ (l.take (k).toNat)) ++ ([s_] : List (List Int))) ++ (l.drop (k).toNat)).length) c3), (44, .slice a5 ((((([] : List (List Int)) ++ (l.take (k).toNat)) ++ ([s_] : List (List Int))) ++ (l.drop (k).toNat)).length) c3), (33, .slice a (([] : List (List Int)).length) 0), (34, .slice al2 l.length cl2), (35, .int .i64 k), (36, .slice al2 ((l.take (k).toNat).length) cl2), (37, .slice a3 ((([] : List (List Int)) ++ (l.take (k).toNat)).length) c), (38, .slice as_ s_.length cs_), (39, .slice a2 (([s_] : List (List Int)).length) 1), (40, .slice a4 (((([] : List (List Int)) ++ (l.take (k).toNat)) ++ ([s_] : List (List Int))).length) c2), (41, .slice al2 l.length cl2), (42, .int .i64 k), (43, .slice (sla al2 cl2 (k).toNat 1) ((l.drop (k).toNat).length) (cl2 - (k).toNat)), (44, .slice a5 ((((([] : List (List Int)) ++ (l.take (k).toNat)) ++ ([s_] : List (List Int))) ++ (l.drop (k).toNat)).length) c3)] rfl rfl rfl rfl rfl rfl (fun _ => asg rfl) (.nil)) rfl ?_
          refine .seqN ?_
          refine .freezeL (k := 1) rfl (fun h2 le2 q245 q244 => ?_)
          refine .cast (A' := [OwnSl 22 1 a2 (([s_] : List (List Int)).length) 1 [.slice as_ s_.length cs_], tru]) rfl ?_
          refine .ret ?_
          refine .res1 rfl (rvT rfl) (fun w' S => ⟨(((([] : List (List Int)) ++ (l.take (k).toNat)) ++ ([s_] : List (List Int))) ++ (l.drop (k).toNat)), (a5, c3), h2, hF, rfl, (le2), ⟨(show RSl h2 a5 (((([] : List (List Int)) ++ (l.take (k).toNat)) ++ ([s_] : List (List Int))) ++ (l.drop (k).toNat)) from ⟨_, q243.mono (le2), q244⟩), (q245)⟩, S.none⟩)
      · refine bs2 (cs := #[.slice as_ s_.length cs_]) (pv := [(0, .slice as_ s_.length cs_)]) tS35 rfl rfl (by decide) (by decide) rfl rfl rfl (fun a _ => ?_)
        refine .cast (A' := [OwnSl 22 1 a (([s_] : List (List Int)).length) 1 [.slice as_ s_.length cs_]]) rfl ?_
        refine .nil ?_
        refine .ja (M := [5]) (C' := [1, 2, 3, 8, 9, 10]) (pre := [(6, .slice a (([s_] : List (List Int)).length) 1)]) [(0, .slice al2 l.length cl2), (1, .slice as_ s_.length cs_), (5, .int .i64 k)] [0, 1, 5] hL rfl rfl rfl rfl rfl (.cons rfl (.cons rfl (.cons rfl (.nil)))) rfl rfl (by kernel_rfl) ?_
        refine .step [0] 0 rfl (by kernel_rfl) (by kernel_rfl) (.v [] rfl rfl rfl rfl rfl rfl (fun _ => mv rfl) (.v [] rfl rfl rfl rfl rfl rfl (fun _ => mv rfl) (.v [(34, .slice al2 l.length cl2), (35, .int .i64 k)] rfl rfl rfl rfl rfl rfl (fun _ => slH tS35 rfl rfl q212.1 (take_len q212).symm (take_cap _q2)) (.v [] rfl rfl rfl rfl rfl rfl (fun _ => mv rfl) (.v [] rfl rfl rfl rfl rfl rfl (fun _ => mv rfl) (.v [(41, .slice al2 l.length cl2), (42, .int .i64 k)] rfl rfl rfl rfl rfl rfl (fun _ => slL2 tS35 rfl rfl q212.1 (drop_len q212).symm (drop_le q212)) (.nil))))))) (.cons [] rfl rfl (fun sL hL => ?_) (.nil))
        refine bs2 (cs := #[]) (pv := []) tS35 rfl rfl (by decide) (by decide) rfl rfl rfl (fun a2 _ => ?_)
        refine .cast (A' := [OwnSl 22 1 a2 (([] : List (List Int)).length) 0 [], OwnSl 22 1 a (([s_] : List (List Int)).length) 1 [.slice as_ s_.length cs_]]) rfl ?_
        refine .nil ?_
        refine .ja (M := []) (C' := [1, 2, 3, 8, 9, 10]) (pre := [(0, .slice a2 (([] : List (List Int)).length) 0)]) [(0, .slice al2 l.length cl2), (1, .slice as_ s_.length cs_), (5, .int .i64 k)] [0, 1, 5] hL rfl rfl rfl rfl rfl (.cons rfl (.cons rfl (.cons rfl (.nil)))) rfl rfl (by kernel_rfl) ?_
        refine .step [4] 4 rfl (by kernel_rfl) (by kernel_rfl) (.v [] rfl rfl rfl rfl rfl rfl (fun _ => mv rfl) (.v [] rfl rfl rfl rfl rfl rfl (fun _ => mv rfl) (.v [(34, .slice al2 l.length cl2), (35, .int .i64 k)] rfl rfl rfl rfl rfl rfl (fun _ => slH tS35 rfl rfl q212.1 (take_len q212).symm (take_cap _q2)) (.v [] rfl rfl rfl rfl rfl rfl (fun _ => mv rfl) (.v [] rfl rfl rfl rfl rfl rfl (fun _ => mv rfl) (.v [(41, .slice al2 l.length cl2), (42, .int .i64 k)] rfl rfl rfl rfl rfl rfl (fun _ => slL2 tS35 rfl rfl q212.1 (drop_len q212).symm (drop_le q212)) (.nil))))))) (.cons [(33, .slice a2 (([] : List (List Int)).length) 0), (36, .slice al2 ((l.take (k).toNat).length) cl2)] rfl rfl (fun sL hL => ?_) (.nil))
        obtain ⟨cs, q248, q249⟩ := id (RSl.take_ _q1)
        obtain ⟨q250, hF⟩ := hF
        have q251 : ([] : List (List Int)).length + (l.take (k).toNat).length = ((([] : List (List Int)) ++ (l.take (k).toNat))).length := len_app rfl rfl
        have q252 := RepL.append (show RepL h ([] : List (List Int)) [] from rfl) q248
        refine app (k := 0) (news := cs) (cs' := ([] ++ cs)) (nm := ((([] : List (List Int)) ++ (l.take (k).toNat))).length) tS35 rfl (by decide) rfl rfl rfl (RepL.len q248) (srcH (fun q => (RSl.take_ _q1).ne (by decide) q) q249) (RepL.one q248) (room_of q251 q250).1 (room_of q251 q250).2 q251 rfl rfl (fun a3 c => ?_)
        refine .cast (A' := [OwnSl 22 1 a3 ((([] : List (List Int)) ++ (l.take (k).toNat)).length) c ([] ++ cs), OwnSl 22 1 a (([s_] : List (List Int)).length) 1 [.slice as_ s_.length cs_]]) rfl ?_
        refine .nil ?_
        refine .ja (M := [3, 1, 2]) (C' := [8, 9, 10]) (pre := [(4, .slice a3 ((([] : List (List Int)) ++ (l.take (k).toNat)).length) c)]) [(0, .slice al2 l.length cl2), (1, .slice as_ s_.length cs_), (5, .int .i64 k)] [0, 1, 5] hL rfl rfl rfl rfl rfl (.cons rfl (.cons rfl (.cons rfl (.nil)))) rfl rfl (by kernel_rfl) ?_
        refine .step [7] 7 rfl (by kernel_rfl) (by kernel_rfl) (.v [] rfl rfl rfl rfl rfl rfl (fun _ => mv rfl) (.v [] rfl rfl rfl rfl rfl rfl (fun _ => mv rfl) (.v [(41, .slice al2 l.length cl2), (42, .int .i64 k)] rfl rfl rfl rfl rfl rfl (fun _ => slL2 tS35 rfl rfl q212.1 (drop_len q212).symm (drop_le q212)) (.nil)))) (.cons [(37, .slice a3 ((([] : List (List Int)) ++ (l.take (k).toNat)).length) c), (39, .slice a (([s_] : List (List Int)).length) 1), (37, .slice a3 ((([] : List (List Int)) ++ (l.take (k).toNat)).length) c)] rfl rfl (fun sL hL => ?_) (.nil))
        obtain ⟨q253, hF⟩ := hF
        have q254 : (([] : List (List Int)) ++ (l.take (k).toNat)).length + ([s_] : List (List Int)).length = (((([] : List (List Int)) ++ (l.take (k).toNat)) ++ ([s_] : List (List Int)))).length := len_app rfl rfl
        have q255 := RepL.append q252 (show RepL h ([s_] : List (List Int)) [.slice as_ s_.length cs_] from ⟨[.slice as_ s_.length cs_], _, rfl, ⟨as_, cs_, rfl, _q4, _q3⟩, rfl⟩)
        refine app (k := 0) (news := [.slice as_ s_.length cs_]) (cs' := (([] ++ cs) ++ [.slice as_ s_.length cs_])) (nm := (((([] : List (List Int)) ++ (l.take (k).toNat)) ++ ([s_] : List (List Int)))).length) tS35 rfl (by decide) rfl rfl rfl (RepL.len (show RepL h ([s_] : List (List Int)) [.slice as_ s_.length cs_] from ⟨[.slice as_ s_.length cs_], _, rfl, ⟨as_, cs_, rfl, _q4, _q3⟩, rfl⟩)) (srcS (k := 1) rfl) (RepL.one (show RepL h ([s_] : List (List Int)) [.slice as_ s_.length cs_] from ⟨[.slice as_ s_.length cs_], _, rfl, ⟨as_, cs_, rfl, _q4, _q3⟩, rfl⟩)) (room_of q254 q253).1 (room_of q254 q253).2 q254 rfl rfl (fun a4 c2 => ?_)
        refine .cast (A' := [OwnSl 22 1 a4 (((([] : List (List Int)) ++ (l.take (k).toNat)) ++ ([s_] : List (List Int))).length) c2 (([] ++ cs) ++ [.slice as_ s_.length cs_]), OwnSl 22 1 a (([s_] : List (List Int)).length) 1 [.slice as_ s_.length cs_]]) rfl ?_
        refine .nil ?_
        refine .ja (M := []) (C' := [8, 9, 10]) (pre := [(7, .slice a4 (((([] : List (List Int)) ++ (l.take (k).toNat)) ++ ([s_] : List (List Int))).length) c2)]) [(0, .slice al2 l.length cl2), (1, .slice as_ s_.length cs_), (5, .int .i64 k)] [0, 1, 5] hL rfl rfl rfl rfl rfl (.cons rfl (.cons rfl (.cons rfl (.nil)))) rfl rfl (by kernel_rfl) ?_
        refine .step [11] 11 rfl (by kernel_rfl) (by kernel_rfl) (.v [] rfl rfl rfl rfl rfl rfl (fun _ => mv rfl) (.v [] rfl rfl rfl rfl rfl rfl (fun _ => mv rfl) (.v [(41, .slice al2 l.length cl2), (42, .int .i64 k)] rfl rfl rfl rfl rfl rfl (fun _ => slL2 tS35 rfl rfl q212.1 (drop_len q212).symm (drop_le q212)) (.nil)))) (.cons [(40, .slice a4 (((([] : List (List Int)) ++ (l.take (k).toNat)) ++ ([s_] : List (List Int))).length) c2), (43, .slice (sla al2 cl2 (k).toNat 1) ((l.drop (k).toNat).length) (cl2 - (k).toNat)), (40, .slice a4 (((([] : List (List Int)) ++ (l.take (k).toNat)) ++ ([s_] : List (List Int))).length) c2)] rfl rfl (fun sL hL => ?_) (.nil))
        obtain ⟨cs2, q256, q257⟩ := id (RSl.drop_ _q1 _q2 q212)
        obtain ⟨q258, hF⟩ := hF
        have q259 : ((([] : List (List Int)) ++ (l.take (k).toNat)) ++ ([s_] : List (List Int))).length + (l.drop (k).toNat).length = ((((([] : List (List Int)) ++ (l.take (k).toNat)) ++ ([s_] : List (List Int))) ++ (l.drop (k).toNat))).length := len_app rfl rfl
        have q260 := RepL.append q255 q256
        refine app (k := 0) (news := cs2) (cs' := ((([] ++ cs) ++ [.slice as_ s_.length cs_]) ++ cs2)) (nm := ((((([] : List (List Int)) ++ (l.take (k).toNat)) ++ ([s_] : List (List Int))) ++ (l.drop (k).toNat))).length) tS35 rfl (by decide) rfl rfl rfl (RepL.len q256) (srcH (fun q => (RSl.drop_ _q1 _q2 q212).ne (by decide) q) q257) (RepL.one q256) (room_of q259 q258).1 (room_of q259 q258).2 q259 rfl rfl (fun a5 c3 => ?_)
        refine .cast (A' := [OwnSl 22 1 a5 ((((([] : List (List Int)) ++ (l.take (k).toNat)) ++ ([s_] : List (List Int))) ++ (l.drop (k).toNat)).length) c3 ((([] ++ cs) ++ [.slice as_ s_.length cs_]) ++ cs2), OwnSl 22 1 a (([s_] : List (List Int)).length) 1 [.slice as_ s_.length cs_]]) rfl ?_
        refine .nil ?_
        refine .ja (M := [10, 8, 9]) (C' := [12]) (pre := [(11, .slice a5 ((((([] : List (List Int)) ++ (l.take (k).toNat)) ++ ([s_] : List (List Int))) ++ (l.drop (k).toNat)).length) c3), (12, .slice a5 ((((([] : List (List Int)) ++ (l.take (k).toNat)) ++ ([s_] : List (List Int))) ++ (l.drop (k).toNat)).length) c3)]) [(0, .slice al2 l.length cl2), (1, .slice as_ s_.length cs_), (5, .int .i64 k)] [0, 1, 5] hL rfl rfl rfl rfl rfl (.cons rfl (.cons rfl (.cons rfl (.nil)))) rfl rfl (by kernel_rfl) ?_
        refine .last [(33, .slice a2 (([] : List (List Int)).length) 0), (34, .slice al2 l.length cl2), (35, .int .i64 k), (36, .slice al2 ((l.take (k).toNat).length) cl2), (37, .slice a3 ((([] : List (List Int)) ++ (l.take (k).toNat)).length) c), (38, .slice as_ s_.length cs_), (39, .slice a (([s_] : List (List Int)).length) 1), (40, .slice a4 (((([] : List (List Int)) ++ (l.take (k).toNat)) ++ ([s_] : List (List Int))).length) c2), (41, .slice al2 l.length cl2), (42, .int .i64 k), (43, .slice (sla al2 cl2 (k).toNat 1) ((l.drop (k).toNat).length) (cl2 - (k).toNat)), (44, .slice a5 ((((([] : List (List Int)) ++ (l.take (k).toNat)) ++ ([s_] : List (List Int))) ++ (l.drop (k).toNat)).length) c3), (4, .slice a5 ((((([] : List (List Int)) ++ (l.take (k).toNat)) ++ ([s_] : List (List Int))) ++ (l.drop (k).toNat)).length) c3)] rfl (by kernel_rfl) (.v [(44, .slice a5 ((((([] : List (List Int)) ++ (l.take (k).toNat)) ++ ([s_] : List (List Int))) ++ (l.drop (k).toNat)).length) c3), (44, .slice a5 ((((([] : List (List Int)) ++ (l.take (k).toNat)) ++ ([s_] : List (List Int))) ++ (l.drop (k).toNat)).length) c3), (33, .slice a2 (([] : List (List Int)).length) 0), (34, .slice al2 l.length cl2), (35, .int .i64 k), (36, .slice al2 ((l.take (k).toNat).length) cl2), (37, .slice a3 ((([] : List (List Int)) ++ (l.take (k).toNat)).length) c), (38, .slice as_ s_.length cs_), (39, .slice a (([s_] : List (List Int)).length) 1), (40, .slice a4 (((([] : List (List Int)) ++ (l.take (k).toNat)) ++ ([s_] : List (List Int))).length) c2), (41, .slice al2 l.length cl2), (42, .int .i64 k), (43, .slice (sla al2 cl2 (k).toNat 1) ((l.drop (k).toNat).length) (cl2 - (k).toNat)), (44, .slice a5 ((((([] : List (List Int)) ++ (l.take (k).toNat)) ++ ([s_] : List (List Int))) ++ (l.drop (k).toNat)).length) c3)] rfl rfl rfl rfl rfl rfl (fun _ => asg rfl) (.nil)) rfl ?_
        refine .seqN ?_
        refine .freezeL (k := 0) rfl (fun h3 le3 q262 q261 => ?_)
        refine .cast (A' := [tru, OwnSl 22 1 a (([s_] : List (List Int)).length) 1 [.slice as_ s_.length cs_]]) rfl ?_
        refine .ret ?_
        refine .res1 rfl (rvT rfl) (fun w' S => ⟨(((([] : List (List Int)) ++ (l.take (k).toNat)) ++ ([s_] : List (List Int))) ++ (l.drop (k).toNat)), (a5, c3), h3, hF, rfl, (le3), ⟨(show RSl h3 a5 (((([] : List (List Int)) ++ (l.take (k).toNat)) ++ ([s_] : List (List Int))) ++ (l.drop (k).toNat)) from ⟨_, q260.mono (le3), q261⟩), (q262)⟩, S.none⟩)
    refine .region ?_
    refine .v (mv rfl) rfl rfl rfl ?_
    refine .v (mv rfl) rfl rfl rfl ?_
    refine .v (ln rfl tS35.is) rfl rfl rfl ?_
    refine .v (bi rfl rfl rfl) rfl rfl rfl ?_
    refine .v (mv rfl) rfl rfl rfl ?_
    rcases Bool.eq_false_or_eq_true (decide (k < ((l.length : Nat) : Int))) with q263 | q263
    · replace hF := hF.1 q263
      refine .gv (mv rfl) rfl rfl rfl q263 rfl rfl ?_
      refine .gv (mv rfl) rfl rfl rfl q263 rfl rfl ?_
      obtain ⟨q264, hF⟩ := hF
      refine .gv (ix rfl rfl tS35 (_q1.ne (by decide) (inb_pos q264)) q264) rfl rfl rfl q263 rfl rfl ?_
      obtain ⟨_, ⟨a6, c4, rfl, q265, q266⟩, q267⟩ := _q1.elem q264
      refine .gv (ld1 (v := .slice a6 ((gt l k).length) c4) rfl tO22 (cellH (q267 (by decide) 0 _ rfl))) rfl rfl rfl q263 rfl rfl ?_
      refine .gv (mv rfl) rfl rfl rfl q263 rfl rfl ?_
      obtain ⟨q268, hF⟩ := hF
      obtain ⟨r2, q269⟩ : ∃ y_ : Bool, y_ = sp_ints (gt l k) s_ := ⟨_, rfl⟩
      replace hF := hF r2 q269
      refine .gc (cl (v := .bool r2) Tryz.call91 rfl rfl (fun w S => (by rw [q269]; exact c_ints S.sub (gt l k) a6 c4 q266 q265 s_ as_ cs_ _q3 _q4 q268))) rfl rfl rfl q263 rfl rfl ?_
      refine .v (pkT rfl q263 rfl) rfl rfl rfl ?_
      refine .nil ?_
      exact .use q164 r2 hF (.cons rfl (.cons rfl (.cons rfl (.cons rfl (.nil))))) rfl (FH.le_refl _)
    replace hF := hF.2 q263
    refine .gS rfl rfl rfl q263 rfl rfl ?_
    refine .gS rfl rfl rfl q263 rfl rfl ?_
    refine .gS rfl rfl rfl q263 rfl rfl ?_
    refine .gS rfl rfl rfl q263 rfl rfl ?_
    refine .gS rfl rfl rfl q263 rfl rfl ?_
    refine .gS rfl rfl rfl q263 rfl rfl ?_
    refine .v (pkF rfl q263 rfl) rfl rfl rfl ?_
    refine .nil ?_
    exact .use q164 false hF (.cons rfl (.cons rfl (.cons rfl (.cons rfl (.nil))))) rfl (FH.le_refl _)
  refine .region ?_
  refine .v (mv rfl) rfl rfl rfl ?_
  refine .v (mv rfl) rfl rfl rfl ?_
  refine .v (ln rfl tS35.is) rfl rfl rfl ?_
  refine .v (bi rfl rfl rfl) rfl rfl rfl ?_
  refine .v (mv rfl) rfl rfl rfl ?_
  rcases Bool.eq_false_or_eq_true (decide (k < ((l.length : Nat) : Int))) with q270 | q270
  · replace hF := hF.1 q270
    refine .gv (mv rfl) rfl rfl rfl q270 rfl rfl ?_
    refine .gv (mv rfl) rfl rfl rfl q270 rfl rfl ?_
    obtain ⟨q271, hF⟩ := hF
    refine .gv (ix rfl rfl tS35 (_q1.ne (by decide) (inb_pos q271)) q271) rfl rfl rfl q270 rfl rfl ?_
    obtain ⟨_, ⟨a7, c5, rfl, q272, q273⟩, q274⟩ := _q1.elem q271
    refine .gv (ld1 (v := .slice a7 ((gt l k).length) c5) rfl tO22 (cellH (q274 (by decide) 0 _ rfl))) rfl rfl rfl q270 rfl rfl ?_
    refine .gv (mv rfl) rfl rfl rfl q270 rfl rfl ?_
    obtain ⟨q275, hF⟩ := hF
    obtain ⟨r3, q276⟩ : ∃ y_ : Bool, y_ = sp_before (gt l k) s_ := ⟨_, rfl⟩
    replace hF := hF r3 q276
    refine .gc (cl (v := .bool r3) Tryz.call62 rfl rfl (fun w S => (by rw [q276]; exact c_before S.sub (gt l k) a7 c5 q273 q272 s_ as_ cs_ _q3 _q4 q275))) rfl rfl rfl q270 rfl rfl ?_
    refine .v (pkT rfl q270 rfl) rfl rfl rfl ?_
    refine .nil ?_
    exact .use q154 r3 hF (.cons rfl (.cons rfl (.cons rfl (.cons rfl (.nil))))) rfl (FH.le_refl _)
  replace hF := hF.2 q270
  refine .gS rfl rfl rfl q270 rfl rfl ?_
  refine .gS rfl rfl rfl q270 rfl rfl ?_
  refine .gS rfl rfl rfl q270 rfl rfl ?_
  refine .gS rfl rfl rfl q270 rfl rfl ?_
  refine .gS rfl rfl rfl q270 rfl rfl ?_
  refine .gS rfl rfl rfl q270 rfl rfl ?_
  refine .v (pkF rfl q270 rfl) rfl rfl rfl ?_
  refine .nil ?_
  exact .use q154 false hF (.cons rfl (.cons rfl (.cons rfl (.cons rfl (.nil))))) rfl (FH.le_refl _)

theorem c_insert {h : FH} {w : World} (hs : Sub h w) (l : List (List Int)) (al2 : Option Addr) (cl2 : Nat) (_q1 : RSl h al2 l) (_q2 : l.length ≤ cl2) (s_ : List Int) (as_ : Option Addr) (cs_ : Nat) (_q3 : RSl h as_ s_) (_q4 : s_.length ≤ cs_) (hp : pre_insert l s_) : Calls Tryz.prog 57 #[.slice al2 l.length cl2, .slice as_ s_.length cs_] w fun e w' => ∃ (z : Option Addr × Nat) (h1 : FH), e = .returned (.slice z.1 (sp_insert l s_).length z.2) ∧ FH.le h h1 ∧ (RSl h1 z.1 (sp_insert l s_) ∧ (sp_insert l s_).length ≤ z.2) ∧ SH (Kp.all w h) h1 w' [] :=
  (w_insert hs l al2 cl2 _q1 _q2 s_ as_ cs_ _q3 _q4 (fun r => r = sp_insert l s_) (ok_insert l s_ hp)).mono fun _ _ ⟨r, z, h1, hk, he, hl, hf, hS⟩ => by subst hk; exact ⟨z, h1, he, hl, hf, hS⟩

set_option maxHeartbeats 8000000 in
theorem w_possible {h : FH} {w : World} (hs : Sub h w) (t : Task) (at_ : Option Addr) (ct : Nat) (_q1 : RSl h at_ t.init) (_q2 : t.init.length ≤ ct) (at_2 : Option Addr) (ct2 : Nat) (_q3 : RSl h at_2 t.goal) (_q4 : t.goal.length ≤ ct2) (at_3 : Option Addr) (ct3 : Nat) (_q5 : RSl h at_3 t.ops) (_q6 : t.ops.length ≤ ct3) (unknown : List Int) (aunknown : Option Addr) (cunknown : Nat) (_q7 : RSl h aunknown unknown) (_q8 : unknown.length ≤ cunknown) (K : (List (List Int)) → Prop) (hF : F_possible t unknown K) : Calls Tryz.prog 16 #[.agg #[.int .i64 t.facts, .slice at_ t.init.length ct, .slice at_2 t.goal.length ct2, .slice at_3 t.ops.length ct3], .slice aunknown unknown.length cunknown] w fun e w' => ∃ (r : List (List Int)) (z : Option Addr × Nat) (h1 : FH), K r ∧ e = .returned (.slice z.1 r.length z.2) ∧ FH.le h h1 ∧ (RSl h1 z.1 r ∧ r.length ≤ z.2) ∧ SH (Kp.all w h) h1 w' [] := by
  refine enter (args := [.agg #[.int .i64 t.facts, .slice at_ t.init.length ct, .slice at_2 t.goal.length ct2, .slice at_3 t.ops.length ct3], .slice aunknown unknown.length cunknown]) Tryz.func16 rfl Tryz.ntmps16 rfl hs ?_
  refine .seq ?_
  refine .region ?_
  refine bx (vs := [.int .i64 t.facts, .slice at_ t.init.length ct, .slice at_2 t.goal.length ct2, .slice at_3 t.ops.length ct3]) rfl rfl rfl (fun pt => ?_)
  refine .v (asg rfl) rfl rfl rfl ?_
  refine .nil ?_
  refine .seqN ?_
  refine .seq ?_
  refine .region ?_
  refine .v (fa rfl tF25_1) rfl rfl rfl ?_
  refine .v (ld1 rfl tO22 (cellB (off := 1) (k := 0) rfl rfl)) rfl rfl rfl ?_
  refine bs2 (cs := #[.slice at_ t.init.length ct]) (pv := [(0, .slice at_ t.init.length ct)]) tS35 rfl rfl (by decide) (by decide) rfl rfl rfl (fun a _ => ?_)
  refine .cast (A' := [OwnSl 22 1 a (([t.init] : List (List Int)).length) 1 [.slice at_ t.init.length ct], Box pt [.int .i64 t.facts, .slice at_ t.init.length ct, .slice at_2 t.goal.length ct2, .slice at_3 t.ops.length ct3]]) rfl ?_
  refine .freezeL (k := 0) rfl (fun h1 le1 q11 q10 => ?_)
  refine .cast (A' := [tru, Box pt [.int .i64 t.facts, .slice at_ t.init.length ct, .slice at_2 t.goal.length ct2, .slice at_3 t.ops.length ct3]]) rfl ?_
  refine .v (asg rfl) rfl rfl rfl ?_
  refine .nil ?_
  refine .seqN ?_
  refine .seq ?_
  refine .seq ?_
  refine .region ?_
  refine .v (asg rfl) rfl rfl rfl ?_
  refine .nil ?_
  refine .seqN ?_
  refine .block ?_
  refine .sel0 [1] (by decide) rfl ?_
  obtain ⟨I1, μ1, q12258, q12259⟩ := hF
  refine .loop' (σ := List (List Int) × Int × Option Addr × Nat × FH) (fun z => I1 z.1 z.2.1 ∧ RSl z.2.2.2.2 z.2.2.1 z.1 ∧ z.1.length ≤ z.2.2.2.1 ∧ FH.le h1 z.2.2.2.2) (fun z => μ1 z.1 z.2.1) (fun z => [(1, .slice aunknown unknown.length cunknown), (2, .pointer (some pt)), (5, .slice z.2.2.1 z.1.length z.2.2.2.1), (6, .int .i64 z.2.1)]) (fun _ => [Box pt [.int .i64 t.facts, .slice at_ t.init.length ct, .slice at_2 t.goal.length ct2, .slice at_3 t.ops.length ct3]]) (fun z => z.2.2.2.2) (([t.init] : List (List Int)), 0, a, 1, h1) ⟨q12258, (show RSl h1 a ([t.init] : List (List Int)) from ⟨_, (show RepL h ([t.init] : List (List Int)) [.slice at_ t.init.length ct] from ⟨[.slice at_ t.init.length ct], _, rfl, ⟨at_, ct, rfl, _q2, _q1⟩, rfl⟩).mono (le1), q10⟩), (q11), (FH.le_refl _)⟩ (.cons rfl (.cons rfl (.cons rfl (.cons rfl (.nil))))) rfl (FH.le_refl _) ?_
  rintro ⟨out, i, aout, cout, h2048⟩ ⟨q12258, q9808, q9809, q9810⟩
  have hF := q12259 out i q12258
  show J _ _ _ _ _ [(1, .slice aunknown unknown.length cunknown), (2, .pointer (some pt)), (5, .slice aout out.length cout), (6, .int .i64 i)] [Box pt [.int .i64 t.facts, .slice at_ t.init.length ct, .slice at_2 t.goal.length ct2, .slice at_3 t.ops.length ct3]] h2048
  refine .seq ?_
  refine .seq ?_
  refine .region ?_
  refine .v (mv rfl) rfl rfl rfl ?_
  refine .v (mv rfl) rfl rfl rfl ?_
  refine .v (ln rfl tS22.is) rfl rfl rfl ?_
  refine .v (bi rfl rfl rfl) rfl rfl rfl ?_
  refine .nil ?_
  refine .seqN ?_
  refine .cond rfl (fun q12261 => ?_) (fun q12261 => ?_)
  · replace hF := hF.1 q12261
    refine .skip ?_
    refine .seqN ?_
    refine .seq ?_
    refine .block ?_
    refine .seq ?_
    refine .region ?_
    refine .v (asg rfl) rfl rfl rfl ?_
    refine .nil ?_
    refine .seqN ?_
    refine .seq ?_
    refine .seq ?_
    refine .region ?_
    refine .v (asg rfl) rfl rfl rfl ?_
    refine .nil ?_
    refine .seqN ?_
    refine .block ?_
    obtain ⟨I2, μ2, q14571, q14572⟩ := hF
    refine .loop' (σ := List (List Int) × Int × Option Addr × Nat × FH) (fun z => I2 z.1 z.2.1 ∧ RSl z.2.2.2.2 z.2.2.1 z.1 ∧ z.1.length ≤ z.2.2.2.1 ∧ FH.le h2048 z.2.2.2.2) (fun z => μ2 z.1 z.2.1) (fun z => [(1, .slice aunknown unknown.length cunknown), (2, .pointer (some pt)), (5, .slice aout out.length cout), (6, .int .i64 i), (7, .slice z.2.2.1 z.1.length z.2.2.2.1), (8, .int .i64 z.2.1)]) (fun _ => [Box pt [.int .i64 t.facts, .slice at_ t.init.length ct, .slice at_2 t.goal.length ct2, .slice at_3 t.ops.length ct3]]) (fun z => z.2.2.2.2) ([], 0, none, 0, h2048) ⟨q14571, RSl.nil_, (Nat.le_refl 0), (FH.le_refl _)⟩ (.cons rfl (.cons rfl (.cons rfl (.cons rfl (.cons rfl (.cons rfl (.nil))))))) rfl (FH.le_refl _) ?_
    rintro ⟨next, k, anext, cnext, h3014⟩ ⟨q14571, q14434, q14435, q14436⟩
    have hF := q14572 next k q14571
    show J _ _ _ _ _ [(1, .slice aunknown unknown.length cunknown), (2, .pointer (some pt)), (5, .slice aout out.length cout), (6, .int .i64 i), (7, .slice anext next.length cnext), (8, .int .i64 k)] [Box pt [.int .i64 t.facts, .slice at_ t.init.length ct, .slice at_2 t.goal.length ct2, .slice at_3 t.ops.length ct3]] h3014
    refine .seq ?_
    refine .seq ?_
    refine .region ?_
    refine .v (mv rfl) rfl rfl rfl ?_
    refine .v (mv rfl) rfl rfl rfl ?_
    refine .v (ln rfl tS35.is) rfl rfl rfl ?_
    refine .v (bi rfl rfl rfl) rfl rfl rfl ?_
    refine .nil ?_
    refine .seqN ?_
    refine .cond rfl (fun q14574 => ?_) (fun q14574 => ?_)
    · replace hF := hF.1 q14574
      refine .skip ?_
      refine .seqN ?_
      refine .seq ?_
      refine .block ?_
      refine .seq ?_
      obtain ⟨q14677, hF⟩ := hF
      obtain ⟨_, ⟨a2, c, rfl, q14678, q14679⟩, q14680⟩ := q9808.elem q14677
      obtain ⟨q14681, hF⟩ := hF
      refine .openA (s0 := [(1, .slice aunknown unknown.length cunknown), (2, .pointer (some pt)), (5, .slice aout out.length cout), (6, .int .i64 i), (7, .slice anext next.length cnext), (8, .int .i64 k)]) [0, 1, 2, 3, 4, 5, 6, 7, 8, 9, 10] [(0, .slice anext next.length cnext), (1, .pointer (some (pt.add 0))), (2, .int .i64 t.facts), (3, .slice aout out.length cout), (4, .int .i64 k), (5, .pointer (some (ead aout (k.toNat * 1)))), (6, .slice a2 ((gt out k).length) c), (7, .slice aunknown unknown.length cunknown), (8, .int .i64 i), (9, .pointer (some (ead aunknown (i.toNat * 1)))), (10, .int .i64 (gt unknown i))] (by kernel_rfl) (.cons rfl (.cons rfl (.cons rfl (.cons rfl (.cons rfl (.cons rfl (.nil))))))) [1, 2, 5, 6, 7, 8] [14] rfl (by kernel_rfl) ?_
      refine .step [11] 11 rfl (by kernel_rfl) (by kernel_rfl) (.v [] rfl rfl rfl rfl rfl rfl (fun _ => mv rfl) (.v [] rfl rfl rfl rfl rfl rfl (fun _ => fa rfl tF25_0) (.v [(25, .pointer (some (pt.add 0)))] rfl rfl rfl rfl rfl rfl (fun _ => ld1 rfl tO3 (cellB (off := 0) (k := 0) rfl rfl)) (.v [] rfl rfl rfl rfl rfl rfl (fun _ => mv rfl) (.v [] rfl rfl rfl rfl rfl rfl (fun _ => mv rfl) (.v [(27, .slice aout out.length cout), (28, .int .i64 k)] rfl rfl rfl rfl rfl rfl (fun _ => ix rfl rfl tS35 (q9808.ne (by decide) (inb_pos q14677)) q14677) (.v [(29, .pointer (some (ead aout (k.toNat * 1))))] rfl rfl rfl rfl rfl rfl (fun _ => ld1 (v := .slice a2 ((gt out k).length) c) rfl tO22 (cellH ((fun q => (q14680 q).mono (q14436)) (by decide) 0 _ rfl))) (.v [] rfl rfl rfl rfl rfl rfl (fun _ => mv rfl) (.v [] rfl rfl rfl rfl rfl rfl (fun _ => mv rfl) (.v [(31, .slice aunknown unknown.length cunknown), (32, .int .i64 i)] rfl rfl rfl rfl rfl rfl (fun _ => ix rfl rfl tS22 (_q7.ne (by decide) (inb_pos q14681)) q14681) (.v [(33, .pointer (some (ead aunknown (i.toNat * 1))))] rfl rfl rfl rfl rfl rfl (fun _ => ld1 (v := .int .i64 (gt unknown i)) rfl tO3 (cellH ((_q7.mono (FH.le_trans (FH.le_trans (le1) (q9810)) (q14436))).elemF q14681 (by decide) 0 _ rfl))) (.nil)))))))))))) (.cons [(34, .int .i64 (gt unknown i))] rfl rfl (fun sL hL => ?_) (.nil))
      refine bs2 (cs := #[.int .i64 (gt unknown i)]) (pv := [(0, .int .i64 (gt unknown i))]) tS22 rfl rfl (by decide) (by decide) rfl rfl rfl (fun a3 _ => ?_)
      refine .cast (A' := [OwnSl 3 1 a3 (([(gt unknown i)] : List Int).length) 1 (flL ([(gt unknown i)] : List Int)), Box pt [.int .i64 t.facts, .slice at_ t.init.length ct, .slice at_2 t.goal.length ct2, .slice at_3 t.ops.length ct3]]) rfl ?_
      refine .nil ?_
      refine .ja (M := [10, 9, 7, 8]) (C' := [0, 1, 2, 3, 4, 5, 6]) (pre := [(11, .slice a3 (([(gt unknown i)] : List Int).length) 1)]) [(1, .slice aunknown unknown.length cunknown), (2, .pointer (some pt)), (5, .slice aout out.length cout), (6, .int .i64 i), (7, .slice anext next.length cnext), (8, .int .i64 k)] [1, 2, 5, 6, 7, 8] hL rfl rfl rfl rfl rfl (.cons rfl (.cons rfl (.cons rfl (.cons rfl (.cons rfl (.cons rfl (.nil))))))) rfl rfl (by kernel_rfl) ?_
      refine .step [12] 12 rfl (by kernel_rfl) (by kernel_rfl) (.v [] rfl rfl rfl rfl rfl rfl (fun _ => mv rfl) (.v [] rfl rfl rfl rfl rfl rfl (fun _ => fa rfl tF25_0) (.v [(25, .pointer (some (pt.add 0)))] rfl rfl rfl rfl rfl rfl (fun _ => ld1 rfl tO3 (cellB (off := 0) (k := 1) rfl rfl)) (.v [] rfl rfl rfl rfl rfl rfl (fun _ => mv rfl) (.v [] rfl rfl rfl rfl rfl rfl (fun _ => mv rfl) (.v [(27, .slice aout out.length cout), (28, .int .i64 k)] rfl rfl rfl rfl rfl rfl (fun _ => ix rfl rfl tS35 (q9808.ne (by decide) (inb_pos q14677)) q14677) (.v [(29, .pointer (some (ead aout (k.toNat * 1))))] rfl rfl rfl rfl rfl rfl (fun _ => ld1 (v := .slice a2 ((gt out k).length) c) rfl tO22 (cellH ((fun q => (q14680 q).mono (q14436)) (by decide) 0 _ rfl))) (.nil)))))))) (.cons [(26, .int .i64 t.facts), (30, .slice a2 ((gt out k).length) c), (35, .slice a3 (([(gt unknown i)] : List Int).length) 1)] rfl rfl (fun sL hL => ?_) (.nil))
      refine .freezeL (k := 0) rfl (fun h3064 le3064 q14684 q14683 => ?_)
      refine .cast (A' := [tru, Box pt [.int .i64 t.facts, .slice at_ t.init.length ct, .slice at_2 t.goal.length ct2, .slice at_3 t.ops.length ct3]]) rfl ?_
      obtain ⟨q14685, hF⟩ := hF
      obtain ⟨r2, q14686⟩ : ∃ y_ : List Int, y_ = sp_changed t.facts (gt out k) ([(gt unknown i)] : List Int) [] := ⟨_, rfl⟩
      replace hF := hF r2 q14686
      refine clR (α := Option Addr × Nat) (Φ := fun h1 z => RSl h1 z.1 r2 ∧ r2.length ≤ z.2) (V := fun z => .slice z.1 r2.length z.2) Tryz.call58 rfl rfl (fun w S => (by rw [q14686]; exact c_changed S.sub t.facts (gt out k) a2 c (q14679.mono (FH.le_trans (q14436) (le3064))) q14678 ([(gt unknown i)] : List Int) a3 1 (RSl.of q14683) (q14684) [] none 0 RSl.nil_ (Nat.le_refl 0) q14685)) rfl (fun z h3065 le3065 hz => ?_)
      obtain ⟨a4, c2⟩ := z
      obtain ⟨q14687, q14688⟩ := hz
      refine .nil ?_
      refine .ja (M := [2, 6, 1, 5, 3, 4]) (C' := [0]) (pre := [(12, .slice a4 r2.length c2)]) [(1, .slice aunknown unknown.length cunknown), (2, .pointer (some pt)), (5, .slice aout out.length cout), (6, .int .i64 i), (7, .slice anext next.length cnext), (8, .int .i64 k)] [1, 2, 5, 6, 7, 8] hL rfl rfl rfl rfl rfl (.cons rfl (.cons rfl (.cons rfl (.cons rfl (.cons rfl (.cons rfl (.nil))))))) rfl rfl (by kernel_rfl) ?_
      refine .step [13] 13 rfl (by kernel_rfl) (by kernel_rfl) (.v [] rfl rfl rfl rfl rfl rfl (fun _ => mv rfl) (.nil)) (.cons [(24, .slice anext next.length cnext), (36, .slice a4 r2.length c2), (36, .slice a4 r2.length c2)] rfl rfl (fun sL hL => ?_) (.nil))
      obtain ⟨q14689, hF⟩ := hF
      obtain ⟨r3, q14690⟩ : ∃ y_ : List (List Int), y_ = sp_insert next r2 := ⟨_, rfl⟩
      replace hF := hF r3 q14690
      refine clR (α := Option Addr × Nat) (Φ := fun h1 z => RSl h1 z.1 r3 ∧ r3.length ≤ z.2) (V := fun z => .slice z.1 r3.length z.2) Tryz.call57 rfl rfl (fun w S => (by rw [q14690]; exact c_insert S.sub next anext cnext (q14434.mono (FH.le_trans (le3064) (le3065))) q14435 r2 a4 c2 q14687 q14688 q14689)) rfl (fun z h3066 le3066 hz => ?_)
      obtain ⟨a5, c3⟩ := z
      obtain ⟨q14691, q14692⟩ := hz
      refine .nil ?_
      refine .ja (M := [0]) (C' := []) (pre := [(13, .slice a5 r3.length c3)]) [(1, .slice aunknown unknown.length cunknown), (2, .pointer (some pt)), (5, .slice aout out.length cout), (6, .int .i64 i), (7, .slice anext next.length cnext), (8, .int .i64 k)] [1, 2, 5, 6, 7, 8] hL rfl rfl rfl rfl rfl (.cons rfl (.cons rfl (.cons rfl (.cons rfl (.cons rfl (.cons rfl (.nil))))))) rfl rfl (by kernel_rfl) ?_
      refine .step [14] 14 rfl (by kernel_rfl) (by kernel_rfl) (.nil) (.cons [(37, .slice a5 r3.length c3), (37, .slice a5 r3.length c3), (24, .slice anext next.length cnext), (25, .pointer (some (pt.add 0))), (26, .int .i64 t.facts), (27, .slice aout out.length cout), (28, .int .i64 k), (29, .pointer (some (ead aout (k.toNat * 1)))), (30, .slice a2 ((gt out k).length) c), (31, .slice aunknown unknown.length cunknown), (32, .int .i64 i), (33, .pointer (some (ead aunknown (i.toNat * 1)))), (34, .int .i64 (gt unknown i)), (35, .slice a3 (([(gt unknown i)] : List Int).length) 1), (36, .slice a4 r2.length c2), (37, .slice a5 r3.length c3)] rfl rfl (fun sL hL => ?_) (.nil))
      refine .v (asg rfl) rfl rfl rfl ?_
      refine .nil ?_
      refine .ja (M := []) (C' := []) (pre := [(14, .slice a5 r3.length c3)]) [(1, .slice aunknown unknown.length cunknown), (2, .pointer (some pt)), (5, .slice aout out.length cout), (6, .int .i64 i), (8, .int .i64 k)] [1, 2, 5, 6, 8] hL rfl rfl rfl rfl rfl (.cons rfl (.cons rfl (.cons rfl (.cons rfl (.cons rfl (.nil)))))) rfl rfl (by kernel_rfl) ?_
      refine .last [(24, .slice anext next.length cnext), (25, .pointer (some (pt.add 0))), (26, .int .i64 t.facts), (27, .slice aout out.length cout), (28, .int .i64 k), (29, .pointer (some (ead aout (k.toNat * 1)))), (30, .slice a2 ((gt out k).length) c), (31, .slice aunknown unknown.length cunknown), (32, .int .i64 i), (33, .pointer (some (ead aunknown (i.toNat * 1)))), (34, .int .i64 (gt unknown i)), (35, .slice a3 (([(gt unknown i)] : List Int).length) 1), (36, .slice a4 r2.length c2), (37, .slice a5 r3.length c3), (7, .slice a5 r3.length c3)] rfl (by kernel_rfl) (.nil) rfl ?_
      refine .seqN ?_
      refine .openA (s0 := [(1, .slice aunknown unknown.length cunknown), (2, .pointer (some pt)), (5, .slice aout out.length cout), (6, .int .i64 i), (7, .slice a5 r3.length c3), (8, .int .i64 k)]) [0, 1, 2, 3, 4, 5, 6, 7, 8, 9, 10] [(0, .slice a5 r3.length c3), (1, .pointer (some (pt.add 0))), (2, .int .i64 t.facts), (3, .slice aout out.length cout), (4, .int .i64 k), (5, .pointer (some (ead aout (k.toNat * 1)))), (6, .slice a2 ((gt out k).length) c), (7, .slice aunknown unknown.length cunknown), (8, .int .i64 i), (9, .pointer (some (ead aunknown (i.toNat * 1)))), (10, .int .i64 (gt unknown i))] (by kernel_rfl) (.cons rfl (.cons rfl (.cons rfl (.cons rfl (.cons rfl (.cons rfl (.nil))))))) [1, 2, 5, 6, 7, 8] [14] rfl (by kernel_rfl) ?_
      refine .step [11] 11 rfl (by kernel_rfl) (by kernel_rfl) (.v [] rfl rfl rfl rfl rfl rfl (fun _ => mv rfl) (.v [] rfl rfl rfl rfl rfl rfl (fun _ => fa rfl tF25_0) (.v [(39, .pointer (some (pt.add 0)))] rfl rfl rfl rfl rfl rfl (fun _ => ld1 rfl tO3 (cellB (off := 0) (k := 1) rfl rfl)) (.v [] rfl rfl rfl rfl rfl rfl (fun _ => mv rfl) (.v [] rfl rfl rfl rfl rfl rfl (fun _ => mv rfl) (.v [(41, .slice aout out.length cout), (42, .int .i64 k)] rfl rfl rfl rfl rfl rfl (fun _ => ix rfl rfl tS35 (q9808.ne (by decide) (inb_pos q14677)) q14677) (.v [(43, .pointer (some (ead aout (k.toNat * 1))))] rfl rfl rfl rfl rfl rfl (fun _ => ld1 (v := .slice a2 ((gt out k).length) c) rfl tO22 (cellH ((fun q => (q14680 q).mono (FH.le_trans (FH.le_trans (FH.le_trans (q14436) (le3064)) (le3065)) (le3066))) (by decide) 0 _ rfl))) (.v [] rfl rfl rfl rfl rfl rfl (fun _ => mv rfl) (.v [] rfl rfl rfl rfl rfl rfl (fun _ => mv rfl) (.v [(45, .slice aunknown unknown.length cunknown), (46, .int .i64 i)] rfl rfl rfl rfl rfl rfl (fun _ => ix rfl rfl tS22 (_q7.ne (by decide) (inb_pos q14681)) q14681) (.v [(47, .pointer (some (ead aunknown (i.toNat * 1))))] rfl rfl rfl rfl rfl rfl (fun _ => ld1 (v := .int .i64 (gt unknown i)) rfl tO3 (cellH ((_q7.mono (FH.le_trans (FH.le_trans (FH.le_trans (FH.le_trans (FH.le_trans (le1) (q9810)) (q14436)) (le3064)) (le3065)) (le3066))).elemF q14681 (by decide) 0 _ rfl))) (.nil)))))))))))) (.cons [(48, .int .i64 (gt unknown i))] rfl rfl (fun sL hL => ?_) (.nil))
      refine bs2 (cs := #[.int .i64 (gt unknown i)]) (pv := [(0, .int .i64 (gt unknown i))]) tS22 rfl rfl (by decide) (by decide) rfl rfl rfl (fun a6 _ => ?_)
      refine .cast (A' := [OwnSl 3 1 a6 (([(gt unknown i)] : List Int).length) 1 (flL ([(gt unknown i)] : List Int)), tru, Box pt [.int .i64 t.facts, .slice at_ t.init.length ct, .slice at_2 t.goal.length ct2, .slice at_3 t.ops.length ct3]]) rfl ?_
      refine .nil ?_
      refine .ja (M := [10, 9, 7, 8]) (C' := [0, 1, 2, 3, 4, 5, 6]) (pre := [(11, .slice a6 (([(gt unknown i)] : List Int).length) 1)]) [(1, .slice aunknown unknown.length cunknown), (2, .pointer (some pt)), (5, .slice aout out.length cout), (6, .int .i64 i), (7, .slice a5 r3.length c3), (8, .int .i64 k)] [1, 2, 5, 6, 7, 8] hL rfl rfl rfl rfl rfl (.cons rfl (.cons rfl (.cons rfl (.cons rfl (.cons rfl (.cons rfl (.nil))))))) rfl rfl (by kernel_rfl) ?_
      refine .step [12] 12 rfl (by kernel_rfl) (by kernel_rfl) (.v [] rfl rfl rfl rfl rfl rfl (fun _ => mv rfl) (.v [] rfl rfl rfl rfl rfl rfl (fun _ => fa rfl tF25_0) (.v [(39, .pointer (some (pt.add 0)))] rfl rfl rfl rfl rfl rfl (fun _ => ld1 rfl tO3 (cellB (off := 0) (k := 2) rfl rfl)) (.v [] rfl rfl rfl rfl rfl rfl (fun _ => mv rfl) (.v [] rfl rfl rfl rfl rfl rfl (fun _ => mv rfl) (.v [(41, .slice aout out.length cout), (42, .int .i64 k)] rfl rfl rfl rfl rfl rfl (fun _ => ix rfl rfl tS35 (q9808.ne (by decide) (inb_pos q14677)) q14677) (.v [(43, .pointer (some (ead aout (k.toNat * 1))))] rfl rfl rfl rfl rfl rfl (fun _ => ld1 (v := .slice a2 ((gt out k).length) c) rfl tO22 (cellH ((fun q => (q14680 q).mono (FH.le_trans (FH.le_trans (FH.le_trans (q14436) (le3064)) (le3065)) (le3066))) (by decide) 0 _ rfl))) (.nil)))))))) (.cons [(40, .int .i64 t.facts), (44, .slice a2 ((gt out k).length) c), (49, .slice a6 (([(gt unknown i)] : List Int).length) 1)] rfl rfl (fun sL hL => ?_) (.nil))
      refine .freezeL (k := 0) rfl (fun h3067 le3067 q14695 q14694 => ?_)
      refine .cast (A' := [tru, tru, Box pt [.int .i64 t.facts, .slice at_ t.init.length ct, .slice at_2 t.goal.length ct2, .slice at_3 t.ops.length ct3]]) rfl ?_
      obtain ⟨q14696, hF⟩ := hF
      obtain ⟨r4, q14697⟩ : ∃ y_ : List Int, y_ = sp_changed t.facts (gt out k) [] ([(gt unknown i)] : List Int) := ⟨_, rfl⟩
      replace hF := hF r4 q14697
      refine clR (α := Option Addr × Nat) (Φ := fun h1 z => RSl h1 z.1 r4 ∧ r4.length ≤ z.2) (V := fun z => .slice z.1 r4.length z.2) Tryz.call58 rfl rfl (fun w S => (by rw [q14697]; exact c_changed S.sub t.facts (gt out k) a2 c (q14679.mono (FH.le_trans (FH.le_trans (FH.le_trans (FH.le_trans (q14436) (le3064)) (le3065)) (le3066)) (le3067))) q14678 [] none 0 RSl.nil_ (Nat.le_refl 0) ([(gt unknown i)] : List Int) a6 1 (RSl.of q14694) (q14695) q14696)) rfl (fun z h3068 le3068 hz => ?_)
      obtain ⟨a7, c4⟩ := z
      obtain ⟨q14698, q14699⟩ := hz
      refine .nil ?_
      refine .ja (M := [2, 6, 1, 5, 3, 4]) (C' := [0]) (pre := [(12, .slice a7 r4.length c4)]) [(1, .slice aunknown unknown.length cunknown), (2, .pointer (some pt)), (5, .slice aout out.length cout), (6, .int .i64 i), (7, .slice a5 r3.length c3), (8, .int .i64 k)] [1, 2, 5, 6, 7, 8] hL rfl rfl rfl rfl rfl (.cons rfl (.cons rfl (.cons rfl (.cons rfl (.cons rfl (.cons rfl (.nil))))))) rfl rfl (by kernel_rfl) ?_
      refine .step [13] 13 rfl (by kernel_rfl) (by kernel_rfl) (.v [] rfl rfl rfl rfl rfl rfl (fun _ => mv rfl) (.nil)) (.cons [(38, .slice a5 r3.length c3), (50, .slice a7 r4.length c4), (50, .slice a7 r4.length c4)] rfl rfl (fun sL hL => ?_) (.nil))
      obtain ⟨q14700, hF⟩ := hF
      obtain ⟨r5, q14701⟩ : ∃ y_ : List (List Int), y_ = sp_insert r3 r4 := ⟨_, rfl⟩
      replace hF := hF r5 q14701
      refine clR (α := Option Addr × Nat) (Φ := fun h1 z => RSl h1 z.1 r5 ∧ r5.length ≤ z.2) (V := fun z => .slice z.1 r5.length z.2) Tryz.call57 rfl rfl (fun w S => (by rw [q14701]; exact c_insert S.sub r3 a5 c3 (q14691.mono (FH.le_trans (le3067) (le3068))) q14692 r4 a7 c4 q14698 q14699 q14700)) rfl (fun z h3069 le3069 hz => ?_)
      obtain ⟨a8, c5⟩ := z
      obtain ⟨q14702, q14703⟩ := hz
      refine .nil ?_
      refine .ja (M := [0]) (C' := []) (pre := [(13, .slice a8 r5.length c5)]) [(1, .slice aunknown unknown.length cunknown), (2, .pointer (some pt)), (5, .slice aout out.length cout), (6, .int .i64 i), (7, .slice a5 r3.length c3), (8, .int .i64 k)] [1, 2, 5, 6, 7, 8] hL rfl rfl rfl rfl rfl (.cons rfl (.cons rfl (.cons rfl (.cons rfl (.cons rfl (.cons rfl (.nil))))))) rfl rfl (by kernel_rfl) ?_
      refine .step [14] 14 rfl (by kernel_rfl) (by kernel_rfl) (.nil) (.cons [(51, .slice a8 r5.length c5), (51, .slice a8 r5.length c5), (38, .slice a5 r3.length c3), (39, .pointer (some (pt.add 0))), (40, .int .i64 t.facts), (41, .slice aout out.length cout), (42, .int .i64 k), (43, .pointer (some (ead aout (k.toNat * 1)))), (44, .slice a2 ((gt out k).length) c), (45, .slice aunknown unknown.length cunknown), (46, .int .i64 i), (47, .pointer (some (ead aunknown (i.toNat * 1)))), (48, .int .i64 (gt unknown i)), (49, .slice a6 (([(gt unknown i)] : List Int).length) 1), (50, .slice a7 r4.length c4), (51, .slice a8 r5.length c5)] rfl rfl (fun sL hL => ?_) (.nil))
      refine .v (asg rfl) rfl rfl rfl ?_
      refine .nil ?_
      refine .ja (M := []) (C' := []) (pre := [(14, .slice a8 r5.length c5)]) [(1, .slice aunknown unknown.length cunknown), (2, .pointer (some pt)), (5, .slice aout out.length cout), (6, .int .i64 i), (8, .int .i64 k)] [1, 2, 5, 6, 8] hL rfl rfl rfl rfl rfl (.cons rfl (.cons rfl (.cons rfl (.cons rfl (.cons rfl (.nil)))))) rfl rfl (by kernel_rfl) ?_
      refine .last [(38, .slice a5 r3.length c3), (39, .pointer (some (pt.add 0))), (40, .int .i64 t.facts), (41, .slice aout out.length cout), (42, .int .i64 k), (43, .pointer (some (ead aout (k.toNat * 1)))), (44, .slice a2 ((gt out k).length) c), (45, .slice aunknown unknown.length cunknown), (46, .int .i64 i), (47, .pointer (some (ead aunknown (i.toNat * 1)))), (48, .int .i64 (gt unknown i)), (49, .slice a6 (([(gt unknown i)] : List Int).length) 1), (50, .slice a7 r4.length c4), (51, .slice a8 r5.length c5), (7, .slice a8 r5.length c5)] rfl (by kernel_rfl) (.nil) rfl ?_
      refine .blkN ?_
      refine .seqN ?_
      refine .region ?_
      refine .v (mv rfl) rfl rfl rfl ?_
      refine .v (bi rfl rfl rfl) rfl rfl rfl ?_
      refine .v (asg rfl) rfl rfl rfl ?_
      refine .nil ?_
      refine .sel0 [2] (by decide) rfl ?_
      exact .round (r5, IntKind.i64.wrap (k + 1), a8, c5, h3069) ⟨hF.1, q14702, q14703, (FH.le_trans (FH.le_trans (FH.le_trans (FH.le_trans (FH.le_trans (FH.le_trans (q14436) (le3064)) (le3065)) (le3066)) (le3067)) (le3068)) (le3069))⟩ hF.2 (.cons rfl (.cons rfl (.cons rfl (.cons rfl (.cons rfl (.cons rfl (.nil))))))) rfl (FH.le_refl _)
    replace hF := hF.2 q14574
    refine .exit ?_
    refine .seqX ?_
    refine .seqX ?_
    refine .blkX ?_
    refine .seqN ?_
    refine .region ?_
    refine .v (mv rfl) rfl rfl rfl ?_
    refine .v (asg rfl) rfl rfl rfl ?_
    refine .nil ?_
    refine .blkN ?_
    refine .seqN ?_
    refine .region ?_
    refine .v (mv rfl) rfl rfl rfl ?_
    refine .v (bi rfl rfl rfl) rfl rfl rfl ?_
    refine .v (asg rfl) rfl rfl rfl ?_
    refine .nil ?_
    exact .round (next, IntKind.i64.wrap (i + 1), anext, cnext, h3014) ⟨hF.1, q14434, q14435, (FH.le_trans (q9810) (q14436))⟩ hF.2 (.cons rfl (.cons rfl (.cons rfl (.cons rfl (.nil))))) rfl (FH.le_refl _)
  replace hF := hF.2 q12261
  refine .exit ?_
  refine .seqX ?_
  refine .seqX ?_
  refine .blkX ?_
  refine .seqN ?_
  refine .seq ?_
  refine .region ?_
  refine .v (mv rfl) rfl rfl rfl ?_
  refine .v (asg rfl) rfl rfl rfl ?_
  refine .nil ?_
  refine .seqN ?_
  refine .ret ?_
  refine .res1 rfl (rvT rfl) (fun w' S => ⟨out, (aout, cout), h2048, hF, rfl, (FH.le_trans (le1) (q9810)), ⟨q9808, q9809⟩, S.none⟩)

theorem c_possible {h : FH} {w : World} (hs : Sub h w) (t : Task) (at_ : Option Addr) (ct : Nat) (_q1 : RSl h at_ t.init) (_q2 : t.init.length ≤ ct) (at_2 : Option Addr) (ct2 : Nat) (_q3 : RSl h at_2 t.goal) (_q4 : t.goal.length ≤ ct2) (at_3 : Option Addr) (ct3 : Nat) (_q5 : RSl h at_3 t.ops) (_q6 : t.ops.length ≤ ct3) (unknown : List Int) (aunknown : Option Addr) (cunknown : Nat) (_q7 : RSl h aunknown unknown) (_q8 : unknown.length ≤ cunknown) (hp : pre_possible t unknown) : Calls Tryz.prog 16 #[.agg #[.int .i64 t.facts, .slice at_ t.init.length ct, .slice at_2 t.goal.length ct2, .slice at_3 t.ops.length ct3], .slice aunknown unknown.length cunknown] w fun e w' => ∃ (z : Option Addr × Nat) (h1 : FH), e = .returned (.slice z.1 (sp_possible t unknown).length z.2) ∧ FH.le h h1 ∧ (RSl h1 z.1 (sp_possible t unknown) ∧ (sp_possible t unknown).length ≤ z.2) ∧ SH (Kp.all w h) h1 w' [] :=
  (w_possible hs t at_ ct _q1 _q2 at_2 ct2 _q3 _q4 at_3 ct3 _q5 _q6 unknown aunknown cunknown _q7 _q8 (fun r => r = sp_possible t unknown) (ok_possible t unknown hp)).mono fun _ _ ⟨r, z, h1, hk, he, hl, hf, hS⟩ => by subst hk; exact ⟨z, h1, he, hl, hf, hS⟩

end Go.Proofs.YtojoehfldbimpaaGreatDoor.Pl

