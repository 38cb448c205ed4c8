import Derived.Test.YtojoehfldbimpaaGreatDoorM1
import Derived.Test.YtojoehfldbimpaaGreatDoorM3
import Derived.Test.YtojoehfldbimpaaGreatDoorM2
import Derived.Shelf.SlSortCmp.NoneTotal
import Derived.Ground.SlsfProg
namespace Go.Proofs.YtojoehfldbimpaaGreatDoor.Pl
open Go Go.RowKit
theorem w_key {h : FH} {w : World} (hs : Sub h w) (ht : TabH Tryz.prog h) (l : List (List Int)) (al2 : Option Addr) (cl2 : Nat) (_q1 : RSl h al2 l) (_q2 : l.length ≤ cl2) (K : (List UInt8) → Prop) (hF : F_key l K) : Calls Tryz.prog 49 #[.slice al2 l.length cl2] w fun e w' => ∃ r : List UInt8, K r ∧ e = .returned (strV r) ∧ Below w.heap.size w w' := by
 refine enter (args := [vSl al2 l cl2]) Tryz.func49 rfl Tryz.ntmps49 rfl hs ?_
 refine .seq (.region (.V ag0 ?_))
 refine .nil (.seqN (.seq (.region (.V ag0 ?_))))
 refine .nil (.seqN (.seq (.seq (.region (.V mv0 ?_)))))
 refine .V (ln rfl tS35.is) ?_
 refine .V mv0 ?_
 refine .nil (.seqN (.block ?_))
 refine .nilSl 5 1 ?_
 refine .KA [oL 5 1 none ([] : List UInt8) 0] ?_
 obtain ⟨I1, μ1, q2075, q2076⟩ := hF
 refine .loop' (σ := Int × List UInt8 × Option Addr × Nat) (fun z => I1 z.1 z.2.1) (fun z => μ1 z.1 z.2.1) (fun z => [(3, vSl z.2.2.1 z.2.1 z.2.2.2), (8, vSl al2 l cl2), (9, iV ((l.length : Nat) : Int)), (10, iV z.1)]) (fun z => [oL 5 1 z.2.2.1 z.2.1 z.2.2.2]) (fun _ => h) (0, ([] : List UInt8), none, 0) q2075 sb rfl (FH.le_refl _) ?_
 rintro ⟨t10, b, ab, cb⟩ q2075
 have hF := q2076 t10 b q2075
 show J _ _ _ _ _ [(3, vSl ab b cb), (8, vSl al2 l cl2), (9, iV ((l.length : Nat) : Int)), (10, iV t10)] [oL 5 1 ab b cb] h
 refine .seq (.region (.V bi0 ?_))
 refine .nil (.seqN (.seq ?_))
 refine .cond rfl (fun q2079 => ?_) (fun q2079 => ?_)
 ·replace hF := hF.1 q2079
  refine .skip (.seqN (.seq (.block (.seq (.region ?_)))))
  obtain ⟨q2354, hF⟩ := hF
  refine .V (ix rfl rfl tS35 (_q1.ne (by decide) (inb_pos q2354)) q2354) ?_
  obtain ⟨_, ⟨a, c, rfl, q2355, q2356⟩, q2357⟩ := _q1.elem q2354
  refine .V (ld1 (v := .slice a ((gt l t10).length) c) rfl tO22 (cellH (q2357 (by decide) 0 _ rfl))) ?_
  refine .V ag0 ?_
  refine .nil (.seqN (.seq (.seq (.region (.V mv0 ?_)))))
  refine .V (ln rfl tS22.is) ?_
  refine .V mv0 ?_
  refine .nil (.seqN (.block ?_))
  obtain ⟨I2, μ2, q2465, q2466⟩ := hF
  refine .loop' (σ := Int × List UInt8 × Option Addr × Nat) (fun z => I2 z.1 z.2.1) (fun z => μ2 z.1 z.2.1) (fun z => [(3, vSl z.2.2.1 z.2.1 z.2.2.2), (8, vSl al2 l cl2), (9, iV ((l.length : Nat) : Int)), (10, iV t10), (14, .slice a ((gt l t10).length) c), (15, iV (((gt l t10).length : Nat) : Int)), (16, iV z.1)]) (fun z => [oL 5 1 z.2.2.1 z.2.1 z.2.2.2]) (fun _ => h) (0, b, ab, cb) q2465 sb rfl (FH.le_refl _) ?_
  rintro ⟨t16, b3, ab3, cb3⟩ q2465
  have hF := q2466 t16 b3 q2465
  show J _ _ _ _ _ [(3, vSl ab3 b3 cb3), (8, vSl al2 l cl2), (9, iV ((l.length : Nat) : Int)), (10, iV t10), (14, .slice a ((gt l t10).length) c), (15, iV (((gt l t10).length : Nat) : Int)), (16, iV t16)] [oL 5 1 ab3 b3 cb3] h
  refine .seq (.region (.V bi0 ?_))
  refine .nil (.seqN (.seq ?_))
  refine .cond rfl (fun q2469 => ?_) (fun q2469 => ?_)
  ·replace hF := hF.1 q2469
   refine .skip (.seqN (.seq (.block (.seq (.region ?_)))))
   obtain ⟨q2482, hF⟩ := hF
   refine .V (ix rfl rfl tS22 (q2356.ne (by decide) (inb_pos q2482)) q2482) ?_
   refine .V (ld1 (v := iV (gt (gt l t10) t16)) rfl tO3 (cellH (q2356.elemF q2482 (by decide) 0 _ rfl))) ?_
   refine .V ag0 ?_
   refine .nil (.seqN (.region (.V mv0 ?_)))
   refine .V mv0 ?_
   obtain ⟨q2483, q2484, hF⟩ := hF
   refine ai2 (bs := b3) YtojoehfldbimpaaGreatDoor.lays176 hs ht Tryz.call85 rfl rfl rfl rfl rfl q2483 q2484 rfl (fun a2 c2 => ?_)
   refine .KA [oL 5 1 a2 (b3 ++ Lib.itoa (gt (gt l t10) t16)) c2] ?_
   refine bs2 (cs := #[.int .u8 44]) (pv := [(0, .int .u8 44)]) tS110 rfl rfl (by decide) (by decide) rfl rfl rfl (fun a3 _ => ?_)
   refine .KA [oL 5 1 a3 ([44] : List UInt8) 1, oL 5 1 a2 (b3 ++ Lib.itoa (gt (gt l t10) t16)) c2] ?_
   obtain ⟨q2486, hF⟩ := hF
   have q2487 : (b3 ++ Lib.itoa (gt (gt l t10) t16)).length + ([44] : List UInt8).length = (((b3 ++ Lib.itoa (gt (gt l t10) t16)) ++ ([44] : List UInt8))).length := len_app rfl rfl
   refine app (k := 1) (news := flL ([44] : List UInt8)) (cs' := flL ((b3 ++ Lib.itoa (gt (gt l t10) t16)) ++ ([44] : List UInt8))) (nm := (((b3 ++ Lib.itoa (gt (gt l t10) t16)) ++ ([44] : List UInt8))).length) tS110 rfl (by decide) rfl rfl rfl (by rw [flL_len]; rfl) (srcS (k := 0) rfl) (flL_one _) (room_of q2487 q2486).1 (room_of q2487 q2486).2 q2487 (flL_append _ _).symm rfl (fun a4 c3 => ?_)
   refine .KA [oL 5 1 a3 ([44] : List UInt8) 1, oL 5 1 a4 ((b3 ++ Lib.itoa (gt (gt l t10) t16)) ++ ([44] : List UInt8)) c3] ?_
   refine .V ag0 ?_
   refine .nil (.blkN (.seqN (.region (.V bi0 ?_))))
   refine .V mv0 ?_
   refine .nil ?_
   refine .sel0 [1] (by decide) rfl ?_
   exact .RO (wr (t16 + 1), ((b3 ++ Lib.itoa (gt (gt l t10) t16)) ++ ([44] : List UInt8)), a4, c3) hF.1 hF.2
  replace hF := hF.2 q2469
  refine .exit (.seqX (.seqX (.blkX (.seqN (.region (.V mv0 ?_))))))
  refine bs2 (cs := #[.int .u8 59]) (pv := [(0, .int .u8 59)]) tS110 rfl rfl (by decide) (by decide) rfl rfl rfl (fun a5 _ => ?_)
  refine .KA [oL 5 1 a5 ([59] : List UInt8) 1, oL 5 1 ab3 b3 cb3] ?_
  obtain ⟨q2489, hF⟩ := hF
  have q2490 : b3.length + ([59] : List UInt8).length = ((b3 ++ ([59] : List UInt8))).length := len_app rfl rfl
  refine app (k := 1) (news := flL ([59] : List UInt8)) (cs' := flL (b3 ++ ([59] : List UInt8))) (nm := ((b3 ++ ([59] : List UInt8))).length) tS110 rfl (by decide) rfl rfl rfl (by rw [flL_len]; rfl) (srcS (k := 0) rfl) (flL_one _) (room_of q2490 q2489).1 (room_of q2490 q2489).2 q2490 (flL_append _ _).symm rfl (fun a6 c4 => ?_)
  refine .KA [oL 5 1 a5 ([59] : List UInt8) 1, oL 5 1 a6 (b3 ++ ([59] : List UInt8)) c4] ?_
  refine .V ag0 ?_
  refine .nil (.blkN (.seqN (.region (.V bi0 ?_))))
  refine .V mv0 ?_
  refine .nil ?_
  refine .sel0 [1] (by decide) rfl ?_
  exact .RO (wr (t10 + 1), (b3 ++ ([59] : List UInt8)), a6, c4) hF.1 hF.2
 replace hF := hF.2 q2079
 refine .exit (.seqX (.seqX (.blkX (.seqN (.seq (.region (.V mv0 ?_)))))))
 refine .V (cvO (k := 0) Tryz.underlying110 Tryz.underlying5 Tryz.underlying9 rfl rfl) ?_
 refine .V ag0 ?_
 refine .nil (.seqN (.ret ?_))
 refine .res1 rfl (rvT rfl) (fun w' S => ⟨b, hF, rfl, S.below⟩)
theorem c_key {h : FH} {w : World} (hs : Sub h w) (ht : TabH Tryz.prog h) (l : List (List Int)) (al2 : Option Addr) (cl2 : Nat) (_q1 : RSl h al2 l) (_q2 : l.length ≤ cl2) (hp : pre_key l) : Calls Tryz.prog 49 #[.slice al2 l.length cl2] w fun e w' => e = .returned (strV (sp_key l)) ∧ Below w.heap.size w w' :=
 (w_key hs ht l al2 cl2 _q1 _q2 (fun r => r = sp_key l) (ok_key l hp)).mono fun _ _ ⟨_, hk, he, hb⟩ => ⟨by rw [he, hk], hb⟩
set_option maxHeartbeats 8000000 in
theorem w_scompare {h : FH} {w : World} (hs : Sub h w) (s1 : List Int) (as1 : Option Addr) (cs1 : Nat) (_q1 : RSl h as1 s1) (_q2 : s1.length ≤ cs1) (s2 : List Int) (as2 : Option Addr) (cs2 : Nat) (_q3 : RSl h as2 s2) (_q4 : s2.length ≤ cs2) (K : Int → Prop) (hF : F_scompare s1 s2 K) : Calls Tryz.prog 92 #[.slice as1 s1.length cs1, .slice as2 s2.length cs2] w fun e w' => ∃ r : Int, K r ∧ e = .returned (iV r) ∧ Below w.heap.size w w' := by
 refine enter (args := [vSl as1 s1 cs1, vSl as2 s2 cs2]) Tryz.func92 rfl Tryz.ntmps92 rfl hs ?_
 refine .seq (.region (.V ag0 ?_))
 refine .nil (.seqN (.seq (.seq (.region (.V mv0 ?_)))))
 refine .V (ln rfl tS22.is) ?_
 refine .V mv0 ?_
 refine .nil (.seqN (.block ?_))
 obtain ⟨I1, μ1, q112, q113⟩ := hF
 refine .loop' (σ := Int) (fun z => I1 z) (fun z => μ1 z) (fun z => [(0, vSl as1 s1 cs1), (1, vSl as2 s2 cs2), (9, vSl as1 s1 cs1), (10, iV ((s1.length : Nat) : Int)), (11, iV z)]) (fun _ => []) (fun _ => h) 0 q112 sb rfl (FH.le_refl _) ?_
 rintro t11 q112
 have hF := q113 t11 q112
 show J _ _ _ _ _ [(0, vSl as1 s1 cs1), (1, vSl as2 s2 cs2), (9, vSl as1 s1 cs1), (10, iV ((s1.length : Nat) : Int)), (11, iV t11)] [] h
 refine .seq (.region (.V bi0 ?_))
 refine .nil (.seqN (.seq ?_))
 refine .cond rfl (fun q116 => ?_) (fun q116 => ?_)
 ·replace hF := hF.1 q116
  refine .skip (.seqN (.seq (.block (.seq (.region (.V mv0 ?_))))))
  obtain ⟨q129, hF⟩ := hF
  refine .V (ix rfl rfl tS22 (_q1.ne (by decide) (inb_pos q129)) q129) ?_
  refine .V (ld1 (v := iV (gt s1 t11)) rfl tO3 (cellH (_q1.elemF q129 (by decide) 0 _ rfl))) ?_
  refine .V ag0 ?_
  refine .V ag0 ?_
  refine .nil (.seqN (.seq (.seq (.region (.V mv0 ?_)))))
  refine .V mv0 ?_
  refine .V (ln rfl tS22.is) ?_
  refine .V bi0 ?_
  refine .nil (.seqN ?_)
  refine .cond rfl (fun q131 => ?_) (fun q131 => ?_)
  ·replace hF := hF.1 q131
   refine .seq (.region (.V ag0 ?_))
   refine .nil (.seqN (.ret (.seqR (.blkR (.seqR (.seqR (.blkR (.seqR ?_))))))))
   refine .res1 rfl (rvT rfl) (fun w' S => ⟨1, hF, rfl, S.below⟩)
  replace hF := hF.2 q131
  refine .skip (.seqN (.seq (.region (.V mv0 ?_))))
  refine .V mv0 ?_
  obtain ⟨q132, hF⟩ := hF
  refine .V (ix rfl rfl tS22 (_q3.ne (by decide) (inb_pos q132)) q132) ?_
  refine .V (ld1 (v := iV (gt s2 t11)) rfl tO3 (cellH (_q3.elemF q132 (by decide) 0 _ rfl))) ?_
  refine .V ag0 ?_
  refine .nil (.seqN (.seq (.region (.V mv0 ?_))))
  refine .V mv0 ?_
  obtain ⟨r2, q133⟩ : ∃ y_ : Int, y_ = sp_compare (gt s1 t11) (gt s2 t11) := ⟨_, rfl⟩
  replace hF := hF r2 q133
  refine .C (cl (v := iV r2) Tryz.call111 rfl rfl (fun w S => (by rw [q133]; exact c_compare S.sub (gt s1 t11) (gt s2 t11) ))) ?_
  refine .V ag0 ?_
  refine .nil (.seqN (.seq (.region (.V mv0 ?_))))
  refine .V bi0 ?_
  refine .nil (.seqN ?_)
  refine .cond rfl (fun q134 => ?_) (fun q134 => ?_)
  ·replace hF := hF.1 q134
   refine .seq (.region (.V mv0 ?_))
   refine .V ag0 ?_
   refine .nil (.seqN (.ret (.blkR (.seqR (.seqR (.blkR (.seqR ?_)))))))
   refine .res1 rfl (rvT rfl) (fun w' S => ⟨r2, hF, rfl, S.below⟩)
  replace hF := hF.2 q134
  refine .skip (.blkN (.seqN (.region (.V bi0 ?_))))
  refine .V mv0 ?_
  refine .nil ?_
  exact .RO (wr (t11 + 1)) hF.1 hF.2
 replace hF := hF.2 q116
 refine .exit (.seqX (.seqX (.blkX (.seqN (.seq (.seq (.region (.V mv0 ?_))))))))
 refine .V (ln rfl tS22.is) ?_
 refine .V mv0 ?_
 refine .V (ln rfl tS22.is) ?_
 refine .V bi0 ?_
 refine .nil (.seqN ?_)
 refine .cond rfl (fun q136 => ?_) (fun q136 => ?_)
 ·replace hF := hF.1 q136
  refine .seq (.region (.V ag0 ?_))
  refine .nil (.seqN (.ret (.seqR ?_)))
  refine .res1 rfl (rvT rfl) (fun w' S => ⟨(-1), hF, rfl, S.below⟩)
 replace hF := hF.2 q136
 refine .skip (.seqN (.seq (.region (.V ag0 ?_))))
 refine .nil (.seqN (.ret ?_))
 refine .res1 rfl (rvT rfl) (fun w' S => ⟨0, hF, rfl, S.below⟩)
theorem c_scompare {h : FH} {w : World} (hs : Sub h w) (s1 : List Int) (as1 : Option Addr) (cs1 : Nat) (_q1 : RSl h as1 s1) (_q2 : s1.length ≤ cs1) (s2 : List Int) (as2 : Option Addr) (cs2 : Nat) (_q3 : RSl h as2 s2) (_q4 : s2.length ≤ cs2) (hp : pre_scompare s1 s2) : Calls Tryz.prog 92 #[.slice as1 s1.length cs1, .slice as2 s2.length cs2] w fun e w' => e = .returned (iV (sp_scompare s1 s2)) ∧ Below w.heap.size w w' :=
 (w_scompare hs s1 as1 cs1 _q1 _q2 s2 as2 cs2 _q3 _q4 (fun r => r = sp_scompare s1 s2) (ok_scompare s1 s2 hp)).mono fun _ _ ⟨_, hk, he, hb⟩ => ⟨by rw [he, hk], hb⟩
theorem w_sequal {h : FH} {w : World} (hs : Sub h w) (s1 : List Int) (as1 : Option Addr) (cs1 : Nat) (_q1 : RSl h as1 s1) (_q2 : s1.length ≤ cs1) (s2 : List Int) (as2 : Option Addr) (cs2 : Nat) (_q3 : RSl h as2 s2) (_q4 : s2.length ≤ cs2) (K : Bool → Prop) (hF : F_sequal s1 s2 K) : Calls Tryz.prog 109 #[.slice as1 s1.length cs1, .slice as2 s2.length cs2] w fun e w' => ∃ r : Bool, K r ∧ e = .returned (.bool r) ∧ Below w.heap.size w w' := by
 refine enter (args := [vSl as1 s1 cs1, vSl as2 s2 cs2]) Tryz.func109 rfl Tryz.ntmps109 rfl hs ?_
 refine .seq (.region (.V ag0 ?_))
 refine .nil (.seqN (.seq (.seq (.region (.V mv0 ?_)))))
 refine .V (ln rfl tS22.is) ?_
 refine .V mv0 ?_
 refine .V (ln rfl tS22.is) ?_
 refine .V bi0 ?_
 refine .nil (.seqN ?_)
 refine .cond rfl (fun q6 => ?_) (fun q6 => ?_)
 ·replace hF := hF.1 q6
  refine .seq (.region (.V ag0 ?_))
  refine .nil (.seqN (.ret (.seqR ?_)))
  refine .res1 rfl (rvT rfl) (fun w' S => ⟨false, hF, rfl, S.below⟩)
 replace hF := hF.2 q6
 refine .skip (.seqN (.seq (.seq (.region (.V mv0 ?_)))))
 refine .V (ln rfl tS22.is) ?_
 refine .V mv0 ?_
 refine .nil (.seqN (.block ?_))
 obtain ⟨I1, μ1, q69, q70⟩ := hF
 refine .loop' (σ := Int) (fun z => I1 z) (fun z => μ1 z) (fun z => [(0, vSl as1 s1 cs1), (1, vSl as2 s2 cs2), (12, iV ((s1.length : Nat) : Int)), (13, iV z)]) (fun _ => []) (fun _ => h) 0 q69 sb rfl (FH.le_refl _) ?_
 rintro t13 q69
 have hF := q70 t13 q69
 show J _ _ _ _ _ [(0, vSl as1 s1 cs1), (1, vSl as2 s2 cs2), (12, iV ((s1.length : Nat) : Int)), (13, iV t13)] [] h
 refine .seq (.region (.V bi0 ?_))
 refine .nil (.seqN (.seq ?_))
 refine .cond rfl (fun q73 => ?_) (fun q73 => ?_)
 ·replace hF := hF.1 q73
  refine .skip (.seqN (.seq (.block (.seq (.region (.V mv0 ?_))))))
  refine .V ag0 ?_
  refine .nil (.seqN (.seq ?_))
  refine .open_ (by kernel_rfl) (by kernel_rfl) ?_
  refine .V mv0 ?_
  refine .V mv0 ?_
  obtain ⟨q80, hF⟩ := hF
  refine .V (ix rfl rfl tS22 (_q1.ne (by decide) (inb_pos q80)) q80) ?_
  refine .V (ld1 (v := iV (gt s1 t13)) rfl tO3 (cellH (_q1.elemF q80 (by decide) 0 _ rfl))) ?_
  refine .V mv0 ?_
  refine .V mv0 ?_
  obtain ⟨q81, hF⟩ := hF
  refine .V (ix rfl rfl tS22 (_q3.ne (by decide) (inb_pos q81)) q81) ?_
  refine .V (ld1 (v := iV (gt s2 t13)) rfl tO3 (cellH (_q3.elemF q81 (by decide) 0 _ rfl))) ?_
  refine .V bi0 ?_
  refine .fin ?_
  refine .seqN ?_
  refine .cond rfl (fun q82 => ?_) (fun q82 => ?_)
  ·replace hF := hF.1 q82
   refine .seq (.region (.V ag0 ?_))
   refine .nil (.seqN (.ret (.blkR (.seqR (.seqR (.blkR (.seqR ?_)))))))
   refine .res1 rfl (rvT rfl) (fun w' S => ⟨false, hF, rfl, S.below⟩)
  replace hF := hF.2 q82
  refine .skip (.blkN (.seqN (.region (.V bi0 ?_))))
  refine .V mv0 ?_
  refine .nil ?_
  exact .RO (wr (t13 + 1)) hF.1 hF.2
 replace hF := hF.2 q73
 refine .exit (.seqX (.seqX (.blkX (.seqN (.seq (.region (.V ag0 ?_)))))))
 refine .nil (.seqN (.ret ?_))
 refine .res1 rfl (rvT rfl) (fun w' S => ⟨true, hF, rfl, S.below⟩)
theorem c_sequal {h : FH} {w : World} (hs : Sub h w) (s1 : List Int) (as1 : Option Addr) (cs1 : Nat) (_q1 : RSl h as1 s1) (_q2 : s1.length ≤ cs1) (s2 : List Int) (as2 : Option Addr) (cs2 : Nat) (_q3 : RSl h as2 s2) (_q4 : s2.length ≤ cs2) (hp : pre_sequal s1 s2) : Calls Tryz.prog 109 #[.slice as1 s1.length cs1, .slice as2 s2.length cs2] w fun e w' => e = .returned (.bool (sp_sequal s1 s2)) ∧ Below w.heap.size w w' :=
 (w_sequal hs s1 as1 cs1 _q1 _q2 s2 as2 cs2 _q3 _q4 (fun r => r = sp_sequal s1 s2) (ok_sequal s1 s2 hp)).mono fun _ _ ⟨_, hk, he, hb⟩ => ⟨by rw [he, hk], hb⟩
theorem w_indexR {h : FH} {w : World} (hs : Sub h w) (s_ : List (List Int)) (as_ : Option Addr) (cs_ : Nat) (_q1 : RSl h as_ s_) (_q2 : s_.length ≤ cs_) (pf : (List Int) → Bool) (Df : (List Int) → Prop) (ff : FuncId) (firstf capsf : Array Value) (hff : ∀ args w, (callFunc ff args).run Tryz.prog w = .ok (.enter ff args) w) (hpf : ∀ (x : List Int) (a : Option Addr) (c : Nat), RSl h a x → x.length ≤ c → ∀ (w' : World), Df x → Sub h w' → Calls Tryz.prog ff (firstf.toList ++ [(.slice a x.length c : Value)] ++ capsf.toList).toArray w' fun e w'' => e = .returned (.bool (pf x)) ∧ Below w'.heap.size w' w'') (K : Int → Prop) (hF : F_indexR s_ pf Df K) : Calls Tryz.prog 94 #[.slice as_ s_.length cs_, .func (.func ff) firstf capsf] w fun e w' => ∃ r : Int, K r ∧ e = .returned (iV r) ∧ Below w.heap.size w w' := by
 refine enter (args := [vSl as_ s_ cs_, .func (.func ff) firstf capsf]) Tryz.func94 rfl Tryz.ntmps94 rfl hs ?_
 refine .seq (.region (.V ag0 ?_))
 refine .nil (.seqN (.seq (.seq (.region (.V mv0 ?_)))))
 refine .V (ln rfl tS35.is) ?_
 refine .V mv0 ?_
 refine .nil (.seqN (.block ?_))
 obtain ⟨I1, μ1, q125, q126⟩ := hF
 refine .loop' (σ := Int) (fun z => I1 z) (fun z => μ1 z) (fun z => [(0, vSl as_ s_ cs_), (1, .func (.func ff) firstf capsf), (7, iV ((s_.length : Nat) : Int)), (8, iV z)]) (fun _ => []) (fun _ => h) 0 q125 sb rfl (FH.le_refl _) ?_
 rintro t8 q125
 have hF := q126 t8 q125
 show J _ _ _ _ _ [(0, vSl as_ s_ cs_), (1, .func (.func ff) firstf capsf), (7, iV ((s_.length : Nat) : Int)), (8, iV t8)] [] h
 refine .seq (.region (.V bi0 ?_))
 refine .nil (.seqN (.seq ?_))
 refine .cond rfl (fun q129 => ?_) (fun q129 => ?_)
 ·replace hF := hF.1 q129
  refine .skip (.seqN (.seq (.block (.seq (.region (.V mv0 ?_))))))
  refine .V ag0 ?_
  refine .nil (.seqN (.seq (.region (.V mv0 ?_))))
  refine .V mv0 ?_
  refine .V mv0 ?_
  obtain ⟨q144, hF⟩ := hF
  refine .V (ix rfl rfl tS35 (_q1.ne (by decide) (inb_pos q144)) q144) ?_
  obtain ⟨_, ⟨a, c, rfl, q145, q146⟩, q147⟩ := _q1.elem q144
  refine .V (ld1 (v := .slice a ((gt s_ t8).length) c) rfl tO22 (cellH (q147 (by decide) 0 _ rfl))) ?_
  obtain ⟨q148, hF⟩ := hF
  obtain ⟨r2, q149⟩ : ∃ y_ : Bool, y_ = pf (gt s_ t8) := ⟨_, rfl⟩
  replace hF := hF r2 q149
  refine .C (cl (v := .bool r2) hff rfl rfl (fun w S => (by rw [q149]; exact hpf (gt s_ t8) a c q146 q145 w q148 (S.sub.anti (FH.le_refl _))))) ?_
  refine .nil (.seqN ?_)
  refine .cond rfl (fun q150 => ?_) (fun q150 => ?_)
  ·replace hF := hF.1 q150
   refine .seq (.region (.V mv0 ?_))
   refine .V ag0 ?_
   refine .nil (.seqN (.ret (.blkR (.seqR (.seqR (.blkR (.seqR ?_)))))))
   refine .res1 rfl (rvT rfl) (fun w' S => ⟨t8, hF, rfl, S.below⟩)
  replace hF := hF.2 q150
  refine .skip (.blkN (.seqN (.region (.V bi0 ?_))))
  refine .V mv0 ?_
  refine .nil ?_
  exact .RO (wr (t8 + 1)) hF.1 hF.2
 replace hF := hF.2 q129
 refine .exit (.seqX (.seqX (.blkX (.seqN (.seq (.region (.V ag0 ?_)))))))
 refine .nil (.seqN (.ret ?_))
 refine .res1 rfl (rvT rfl) (fun w' S => ⟨(-1), hF, rfl, S.below⟩)
theorem c_indexR {h : FH} {w : World} (hs : Sub h w) (s_ : List (List Int)) (as_ : Option Addr) (cs_ : Nat) (_q1 : RSl h as_ s_) (_q2 : s_.length ≤ cs_) (pf : (List Int) → Bool) (Df : (List Int) → Prop) (ff : FuncId) (firstf capsf : Array Value) (hff : ∀ args w, (callFunc ff args).run Tryz.prog w = .ok (.enter ff args) w) (hpf : ∀ (x : List Int) (a : Option Addr) (c : Nat), RSl h a x → x.length ≤ c → ∀ (w' : World), Df x → Sub h w' → Calls Tryz.prog ff (firstf.toList ++ [(.slice a x.length c : Value)] ++ capsf.toList).toArray w' fun e w'' => e = .returned (.bool (pf x)) ∧ Below w'.heap.size w' w'') (hp : pre_any s_ pf Df) : Calls Tryz.prog 94 #[.slice as_ s_.length cs_, .func (.func ff) firstf capsf] w fun e w' => e = .returned (iV (sp_indexF s_ pf Df)) ∧ Below w.heap.size w w' :=
 (w_indexR hs s_ as_ cs_ _q1 _q2 pf Df ff firstf capsf hff hpf (fun r => r = sp_indexF s_ pf Df) (ok_indexR s_ pf Df hp)).mono fun _ _ ⟨_, hk, he, hb⟩ => ⟨by rw [he, hk], hb⟩
theorem w_containsR {h : FH} {w : World} (hs : Sub h w) (s_ : List (List Int)) (as_ : Option Addr) (cs_ : Nat) (_q1 : RSl h as_ s_) (_q2 : s_.length ≤ cs_) (pf : (List Int) → Bool) (Df : (List Int) → Prop) (ff : FuncId) (firstf capsf : Array Value) (hff : ∀ args w, (callFunc ff args).run Tryz.prog w = .ok (.enter ff args) w) (hpf : ∀ (x : List Int) (a : Option Addr) (c : Nat), RSl h a x → x.length ≤ c → ∀ (w' : World), Df x → Sub h w' → Calls Tryz.prog ff (firstf.toList ++ [(.slice a x.length c : Value)] ++ capsf.toList).toArray w' fun e w'' => e = .returned (.bool (pf x)) ∧ Below w'.heap.size w' w'') (K : Bool → Prop) (hF : F_containsR s_ pf Df K) : Calls Tryz.prog 66 #[.slice as_ s_.length cs_, .func (.func ff) firstf capsf] w fun e w' => ∃ r : Bool, K r ∧ e = .returned (.bool r) ∧ Below w.heap.size w w' := by
 refine enter (args := [vSl as_ s_ cs_, .func (.func ff) firstf capsf]) Tryz.func66 rfl Tryz.ntmps66 rfl hs ?_
 refine .seq (.region (.V ag0 ?_))
 refine .nil (.seqN (.seq (.region (.V mv0 ?_))))
 refine .V mv0 ?_
 obtain ⟨q3, hF⟩ := hF
 obtain ⟨r2, q4⟩ : ∃ y_ : Int, y_ = sp_indexF s_ pf Df := ⟨_, rfl⟩
 replace hF := hF r2 q4
 refine .C (cl (v := iV r2) Tryz.call94 rfl rfl (fun w S => (by rw [q4]; exact c_indexR S.sub s_ as_ cs_ _q1 _q2 pf Df ff firstf capsf hff hpf q3))) ?_
 refine .V bi0 ?_
 refine .V ag0 ?_
 refine .nil (.seqN (.ret ?_))
 refine .res1 rfl (rvT rfl) (fun w' S => ⟨decide (0 ≤ r2), hF, rfl, S.below⟩)
theorem c_containsR {h : FH} {w : World} (hs : Sub h w) (s_ : List (List Int)) (as_ : Option Addr) (cs_ : Nat) (_q1 : RSl h as_ s_) (_q2 : s_.length ≤ cs_) (pf : (List Int) → Bool) (Df : (List Int) → Prop) (ff : FuncId) (firstf capsf : Array Value) (hff : ∀ args w, (callFunc ff args).run Tryz.prog w = .ok (.enter ff args) w) (hpf : ∀ (x : List Int) (a : Option Addr) (c : Nat), RSl h a x → x.length ≤ c → ∀ (w' : World), Df x → Sub h w' → Calls Tryz.prog ff (firstf.toList ++ [(.slice a x.length c : Value)] ++ capsf.toList).toArray w' fun e w'' => e = .returned (.bool (pf x)) ∧ Below w'.heap.size w' w'') (hp : pre_any s_ pf Df) : Calls Tryz.prog 66 #[.slice as_ s_.length cs_, .func (.func ff) firstf capsf] w fun e w' => e = .returned (.bool (sp_any s_ pf Df)) ∧ Below w.heap.size w w' :=
 (w_containsR hs s_ as_ cs_ _q1 _q2 pf Df ff firstf capsf hff hpf (fun r => r = sp_any s_ pf Df) (ok_containsR s_ pf Df hp)).mono fun _ _ ⟨_, hk, he, hb⟩ => ⟨by rw [he, hk], hb⟩
theorem w_reverse {h : FH} {w : World} (hs : Sub h w) (s_ : List Int) (as_ : Option Addr) (cs_ : Nat) {gX : FH} (ownX : OwnSl 3 1 as_ s_.length cs_ (flL s_) gX) (subX : Sub gX w) (disX : Disj h gX) (K : (List Int) → Prop) (hF : F_reverse s_ K) : Calls Tryz.prog 86 #[.slice as_ s_.length cs_] w fun e w' => ∃ r : List Int, K r ∧ e = .returned (.tuple #[]) ∧ SH (Kp.ex w h gX) h w' [OwnSl 3 1 as_ s_.length cs_ (flL r)] := by
 refine enterX (X := oL 3 1 as_ s_ cs_) (args := [vSl as_ s_ cs_]) Tryz.func86 rfl Tryz.ntmps86 rfl hs subX disX ownX ?_
 refine .seq (.region (.V mv0 ?_))
 refine .V (ln rfl tS22.is) ?_
 refine .V bi0 ?_
 refine .V ag0 ?_
 refine .V ag0 ?_
 refine .nil (.seqN (.block ?_))
 obtain ⟨I1, μ1, q52, q53⟩ := hF
 refine .loop' (σ := Int × Int × List Int) (fun z => I1 z.1 z.2.1 z.2.2 ∧ z.2.2.length = s_.length) (fun z => μ1 z.1 z.2.1 z.2.2) (fun z => [(0, vSl as_ s_ cs_), (2, iV z.1), (3, iV z.2.1)]) (fun z => [OwnSl 3 1 as_ s_.length cs_ (flL z.2.2)]) (fun _ => h) (0, wr (((s_.length : Nat) : Int) - 1), s_) ⟨q52, rfl⟩ sb rfl (FH.le_refl _) ?_
 rintro ⟨i, j, s_2⟩ ⟨q52, q27⟩
 have hF := q53 i j s_2 q52
 show J _ _ _ _ _ [(0, vSl as_ s_ cs_), (2, iV i), (3, iV j)] [OwnSl 3 1 as_ s_.length cs_ (flL s_2)] h
 refine .seq (.seq (.region (.V mv0 ?_)))
 refine .V mv0 ?_
 refine .V bi0 ?_
 refine .nil (.seqN ?_)
 refine .cond rfl (fun q55 => ?_) (fun q55 => ?_)
 ·replace hF := hF.1 q55
  refine .skip (.seqN (.seq (.block ?_)))
  obtain ⟨q70, q71, hF⟩ := hF
  refine .openA (s0 := [(0, vSl as_ s_ cs_), (2, iV i), (3, iV j)]) [0, 1, 2, 3, 4, 5, 6, 7, 8, 9, 10, 11, 12] [(0, vSl as_ s_ cs_), (1, iV i), (2, vSl as_ s_ cs_), (3, iV j), (4, vSl as_ s_ cs_), (5, iV j), (6, .pointer (some (ead as_ (j.toNat * 1)))), (7, iV (gt s_2 j)), (8, vSl as_ s_ cs_), (9, iV i), (10, .pointer (some (ead as_ (i.toNat * 1)))), (11, iV (gt s_2 i)), (12, .pointer (some (ead as_ (i.toNat * 1))))] (by kernel_rfl) sb [0, 2, 3] [] rfl (by kernel_rfl) ?_
  refine .step [13] 13 rfl (by kernel_rfl) (by kernel_rfl) (.v [] rfl rfl rfl rfl rfl rfl (fun _ => mv rfl) (.v [] rfl rfl rfl rfl rfl rfl (fun _ => mv rfl) (.v [] rfl rfl rfl rfl rfl rfl (fun _ => mv rfl) (.v [] rfl rfl rfl rfl rfl rfl (fun _ => mv rfl) (.v [] rfl rfl rfl rfl rfl rfl (fun _ => mv rfl) (.v [] rfl rfl rfl rfl rfl rfl (fun _ => mv rfl) (.v [(18, vSl as_ s_ cs_), (19, iV j)] rfl rfl rfl rfl rfl rfl (fun _ => ixS rfl rfl tS22 (k := 0) rfl (inb_n q70 q27)) (.v [(20, .pointer (some (ead as_ (j.toNat * 1))))] rfl rfl rfl rfl rfl rfl (fun _ => ld1 (v := iV (gt s_2 j)) rfl tO3 (cellS (k := 0) rfl (flL_get q70 (j := 0) rfl))) (.v [] rfl rfl rfl rfl rfl rfl (fun _ => mv rfl) (.v [] rfl rfl rfl rfl rfl rfl (fun _ => mv rfl) (.v [(22, vSl as_ s_ cs_), (23, iV i)] rfl rfl rfl rfl rfl rfl (fun _ => ixS rfl rfl tS22 (k := 0) rfl (inb_n q71 q27)) (.v [(24, .pointer (some (ead as_ (i.toNat * 1))))] rfl rfl rfl rfl rfl rfl (fun _ => ld1 (v := iV (gt s_2 i)) rfl tO3 (cellS (k := 0) rfl (flL_get q71 (j := 0) rfl))) (.v [(14, vSl as_ s_ cs_), (15, iV i), (14, vSl as_ s_ cs_), (15, iV i), (18, vSl as_ s_ cs_), (19, iV j), (20, .pointer (some (ead as_ (j.toNat * 1)))), (21, iV (gt s_2 j)), (25, iV (gt s_2 i))] rfl rfl rfl rfl rfl rfl (fun _ => ixS rfl rfl tS22 (k := 0) rfl (inb_n q71 q27)) (.nil)))))))))))))) (.cons [(26, .pointer (some (ead as_ (i.toNat * 1)))), (21, iV (gt s_2 j)), (14, vSl as_ s_ cs_), (15, iV i), (18, vSl as_ s_ cs_), (19, iV j), (20, .pointer (some (ead as_ (j.toNat * 1)))), (21, iV (gt s_2 j)), (25, iV (gt s_2 i))] rfl rfl (fun sL hL => ?_) (.nil))
  obtain ⟨d, q72⟩ : ∃ y_ : List Int, y_ = (s_2.set (i).toNat (gt s_2 j)) := ⟨_, rfl⟩
  replace hF := hF d q72
  refine stS (k := 0) (cs' := flL d) rfl (fun _ => rfl) rfl rfl (fun w => (tO3 w).2) rfl rfl rfl (by rw [← q27]; exact inb_pos q71) (fl_room q71) (by rw [q72]; exact flL_set q71 (gt s_2 j)) ?_
  have q73 : d.length = s_.length := by rw [q72]; exact List.length_set.trans q27
  refine .KA [OwnSl 3 1 as_ s_.length cs_ (flL d)] ?_
  refine .nil ?_
  obtain ⟨q74, hF⟩ := hF
  refine .jaN (M := [12, 7, 0, 1, 4, 5, 6, 11, 10, 8, 9]) (C' := [2, 3, 14]) (pre := [(14, .pointer (some (ead as_ (j.toNat * 1))))]) [0, 2, 3] hL rfl rfl rfl rfl rfl (by kernel_rfl) ?_
  refine .step [15] 15 rfl (by kernel_rfl) (by kernel_rfl) (.v [] rfl rfl rfl rfl rfl rfl (fun _ => mv rfl) (.v [] rfl rfl rfl rfl rfl rfl (fun _ => mv rfl) (.v [(16, vSl as_ s_ cs_), (17, iV j), (14, vSl as_ s_ cs_), (15, iV i), (16, vSl as_ s_ cs_), (17, iV j), (18, vSl as_ s_ cs_), (19, iV j), (20, .pointer (some (ead as_ (j.toNat * 1)))), (21, iV (gt s_2 j)), (22, vSl as_ s_ cs_), (23, iV i), (24, .pointer (some (ead as_ (i.toNat * 1)))), (25, iV (gt s_2 i)), (26, .pointer (some (ead as_ (i.toNat * 1))))] rfl rfl rfl rfl rfl rfl (fun _ => ixS rfl rfl tS22 (k := 0) rfl (inb_n q74 q73)) (.nil)))) (.cons [(27, .pointer (some (ead as_ (j.toNat * 1)))), (25, iV (gt s_2 i)), (14, vSl as_ s_ cs_), (15, iV i), (16, vSl as_ s_ cs_), (17, iV j), (18, vSl as_ s_ cs_), (19, iV j), (20, .pointer (some (ead as_ (j.toNat * 1)))), (21, iV (gt s_2 j)), (22, vSl as_ s_ cs_), (23, iV i), (24, .pointer (some (ead as_ (i.toNat * 1)))), (25, iV (gt s_2 i)), (26, .pointer (some (ead as_ (i.toNat * 1))))] rfl rfl (fun sL hL => ?_) (.nil))
  obtain ⟨d2, q75⟩ : ∃ y_ : List Int, y_ = (d.set (j).toNat (gt s_2 i)) := ⟨_, rfl⟩
  replace hF := hF d2 q75
  refine stS (k := 0) (cs' := flL d2) rfl (fun _ => rfl) rfl rfl (fun w => (tO3 w).2) rfl rfl rfl (by rw [← q73]; exact inb_pos q74) (fl_room q74) (by rw [q75]; exact flL_set q74 (gt s_2 i)) ?_
  have q76 : d2.length = s_.length := by rw [q75]; exact List.length_set.trans q73
  refine .KA [OwnSl 3 1 as_ s_.length cs_ (flL d2)] ?_
  refine .nil ?_
  refine .jaN (M := [14, 2, 3]) (C' := []) (pre := []) [0, 2, 3] hL rfl rfl rfl rfl rfl (by kernel_rfl) ?_
  refine .last [(14, vSl as_ s_ cs_), (15, iV i), (16, vSl as_ s_ cs_), (17, iV j), (18, vSl as_ s_ cs_), (19, iV j), (20, .pointer (some (ead as_ (j.toNat * 1)))), (21, iV (gt s_2 j)), (22, vSl as_ s_ cs_), (23, iV i), (24, .pointer (some (ead as_ (i.toNat * 1)))), (25, iV (gt s_2 i)), (26, .pointer (some (ead as_ (i.toNat * 1)))), (27, .pointer (some (ead as_ (j.toNat * 1))))] rfl (by kernel_rfl) (.nil) rfl ?_
  refine .blkN (.seqN (.region (.V mv0 ?_)))
  refine .V bi0 ?_
  refine .V mv0 ?_
  refine .V bi0 ?_
  refine .V ag0 ?_
  refine .V ag0 ?_
  refine .nil ?_
  exact .RO (wr (i + 1), wr (j - 1), d2) ⟨hF.1, q76⟩ hF.2
 replace hF := hF.2 q55
 refine .exit (.seqX (.seqX (.blkX ?_)))
 refine .res0 (.inr rfl) rfl (fun w' S => ⟨s_2, hF, rfl, S.pick (k := 0) rfl⟩)
theorem c_reverse {h : FH} {w : World} (hs : Sub h w) (s_ : List Int) (as_ : Option Addr) (cs_ : Nat) {gX : FH} (ownX : OwnSl 3 1 as_ s_.length cs_ (flL s_) gX) (subX : Sub gX w) (disX : Disj h gX) (hp : pre_reverse s_) : Calls Tryz.prog 86 #[.slice as_ s_.length cs_] w fun e w' => e = .returned (.tuple #[]) ∧ SH (Kp.ex w h gX) h w' [OwnSl 3 1 as_ s_.length cs_ (flL (sp_reverse s_))] :=
 (w_reverse hs s_ as_ cs_ ownX subX disX (fun r => r = sp_reverse s_) (ok_reverse s_ hp)).mono fun _ _ ⟨r, hk, he, hS⟩ => ⟨he, by rw [← hk]; exact hS⟩
theorem w_unknownFault {h : FH} {w : World} (hs : Sub h w) (t : Task) (at_ : Option Addr) (ct : Nat) (_q1 : RSl h at_ t.init) (_q2 : t.init.length ≤ ct) (at_2 : Option Addr) (ct2 : Nat) (_q3 : RSl h at_2 t.goal) (_q4 : t.goal.length ≤ ct2) (at_3 : Option Addr) (ct3 : Nat) (_q5 : RSl h at_3 t.ops) (_q6 : t.ops.length ≤ ct3) (unknown : List Int) (aunknown : Option Addr) (cunknown : Nat) (_q7 : RSl h aunknown unknown) (_q8 : unknown.length ≤ cunknown) (K : Fault → Prop) (hF : F_unknownFault t unknown K) : Calls Tryz.prog 45 #[.agg #[iV t.facts, .slice at_ t.init.length ct, .slice at_2 t.goal.length ct2, .slice at_3 t.ops.length ct3], .slice aunknown unknown.length cunknown] w fun e w' => ∃ r : Fault, K r ∧ e = .returned (.agg #[iV r.code, iV r.index]) ∧ Below w.heap.size w w' := by
 refine enter (args := [.agg (tF t at_ ct at_2 ct2 at_3 ct3).toArray, vSl aunknown unknown cunknown]) Tryz.func45 rfl Tryz.ntmps45 rfl hs ?_
 refine .seq (.region ?_)
 refine bx (vs := (tF t at_ ct at_2 ct2 at_3 ct3)) rfl rfl rfl (fun pt => ?_)
 refine al tZ27 rfl (fun pv => ?_)
 refine .nil (.seqN (.seq (.seq (.region (.V (ldA (cs := (tF t at_ ct at_2 ct2 at_3 ct3)) rfl tA25 rfl (cellsB (off := 0) (k := 1) rfl (m := 4) rfl)) ?_)))))
 obtain ⟨r2, q9⟩ : ∃ y_ : Fault, y_ = sp_validate t := ⟨_, rfl⟩
 replace hF := hF r2 q9
 refine .C (cl (v := .agg #[iV r2.code, iV r2.index]) Tryz.call79 rfl rfl (fun w S => (by rw [q9]; exact c_validate S.sub t at_ ct _q1 _q2 at_2 ct2 _q3 _q4 at_3 ct3 _q5 _q6 ))) ?_
 refine al tZ27 rfl (fun pf => ?_)
 refine st (p := pf) (off := 0) (k := 0) (vs := [iV r2.code, iV r2.index]) rfl rfl rfl (fun w => (tA27 w).2) rfl rfl rfl rfl ?_
 refine .KA [Box pf [iV r2.code, iV r2.index], Box pv [iV 0, iV 0], Box pt (tF t at_ ct at_2 ct2 at_3 ct3)] ?_
 refine .nil (.seqN (.seq (.region (.V (ldA (cs := [iV r2.code, iV r2.index]) rfl tA27 rfl (cellsB (off := 0) (k := 0) rfl (m := 2) rfl)) ?_))))
 refine .V (bld (cs := #[iV 0, iV 0]) (pv := []) tB27 rfl rfl) ?_
 refine .V (ne2 tE27 rfl rfl) ?_
 refine .nil (.seqN ?_)
 refine .cond rfl (fun q11 => ?_) (fun q11 => ?_)
 ·replace hF := hF.1 q11
  refine .seq (.region (.V (ldA (cs := [iV r2.code, iV r2.index]) rfl tA27 rfl (cellsB (off := 0) (k := 0) rfl (m := 2) rfl)) ?_))
  refine st (p := pv) (off := 0) (k := 1) (vs := [iV r2.code, iV r2.index]) rfl rfl rfl (fun w => (tA27 w).2) rfl rfl rfl rfl ?_
  refine .KA [Box pf [iV r2.code, iV r2.index], Box pv [iV r2.code, iV r2.index], Box pt (tF t at_ ct at_2 ct2 at_3 ct3)] ?_
  refine .nil (.seqN (.ret (.seqR ?_)))
  refine .res1 rfl (rvC rfl tA27 (k := 1) rfl rfl) (fun w' S => ⟨r2, hF, rfl, S.below⟩)
 replace hF := hF.2 q11
 refine .skip (.seqN (.seq (.block (.seq (.region (.V mv0 ?_))))))
 refine .V (ln rfl tS22.is) ?_
 refine .V bi0 ?_
 refine .V ag0 ?_
 refine .nil (.seqN ?_)
 refine .cond rfl (fun q20 => ?_) (fun q20 => ?_)
 ·replace hF := hF.1 q20
  refine .seq (.region (.V (bld (cs := #[iV 2, iV (-8)]) (pv := [(0, iV 2), (1, iV (-8))]) tB27 rfl rfl) ?_))
  refine st (p := pv) (off := 0) (k := 1) (vs := [iV 2, iV (-8)]) rfl rfl rfl (fun w => (tA27 w).2) rfl rfl rfl rfl ?_
  refine .KA [Box pf [iV r2.code, iV r2.index], Box pv [iV 2, iV (-8)], Box pt (tF t at_ ct at_2 ct2 at_3 ct3)] ?_
  refine .nil (.seqN (.ret (.blkR (.seqR ?_))))
  refine .res1 rfl (rvC rfl tA27 (k := 1) rfl rfl) (fun w' S => ⟨(⟨2, (-8)⟩ : Fault), hF, rfl, S.below⟩)
 replace hF := hF.2 q20
 refine .seq (.region (.V mv0 ?_))
 refine .V (fa rfl tF25_0) ?_
 refine .V (ld1 rfl tO3 (cellB (off := 0) (k := 2) rfl rfl)) ?_
 obtain ⟨q21, hF⟩ := hF
 obtain ⟨r3, q22⟩ : ∃ y_ : Bool, y_ = sp_isSet unknown t.facts := ⟨_, rfl⟩
 replace hF := hF r3 q22
 refine .C (cl (v := .bool r3) Tryz.call61 rfl rfl (fun w S => (by rw [q22]; exact c_isSet S.sub unknown aunknown cunknown _q7 _q8 t.facts q21))) ?_
 refine .V (nt rfl) ?_
 refine .V ag0 ?_
 refine .nil (.seqN ?_)
 refine .cond rfl (fun q23 => ?_) (fun q23 => ?_)
 ·replace hF := hF.1 q23
  refine .seq (.region (.V (bld (cs := #[iV 5, iV (-8)]) (pv := [(0, iV 5), (1, iV (-8))]) tB27 rfl rfl) ?_))
  refine st (p := pv) (off := 0) (k := 1) (vs := [iV 5, iV (-8)]) rfl rfl rfl (fun w => (tA27 w).2) rfl rfl rfl rfl ?_
  refine .KA [Box pf [iV r2.code, iV r2.index], Box pv [iV 5, iV (-8)], Box pt (tF t at_ ct at_2 ct2 at_3 ct3)] ?_
  refine .nil (.seqN (.ret (.blkR (.seqR ?_))))
  refine .res1 rfl (rvC rfl tA27 (k := 1) rfl rfl) (fun w' S => ⟨(⟨5, (-8)⟩ : Fault), hF, rfl, S.below⟩)
 replace hF := hF.2 q23
 refine .skip (.blkN (.seqN (.seq (.region (.V (bld (cs := #[iV 0, iV 0]) (pv := []) tB27 rfl rfl) ?_)))))
 refine st (p := pv) (off := 0) (k := 1) (vs := [iV 0, iV 0]) rfl rfl rfl (fun w => (tA27 w).2) rfl rfl rfl rfl ?_
 refine .KA [Box pf [iV r2.code, iV r2.index], Box pv [iV 0, iV 0], Box pt (tF t at_ ct at_2 ct2 at_3 ct3)] ?_
 refine .nil (.seqN (.ret ?_))
 refine .res1 rfl (rvC rfl tA27 (k := 1) rfl rfl) (fun w' S => ⟨(⟨0, 0⟩ : Fault), hF, rfl, S.below⟩)
theorem c_unknownFault {h : FH} {w : World} (hs : Sub h w) (t : Task) (at_ : Option Addr) (ct : Nat) (_q1 : RSl h at_ t.init) (_q2 : t.init.length ≤ ct) (at_2 : Option Addr) (ct2 : Nat) (_q3 : RSl h at_2 t.goal) (_q4 : t.goal.length ≤ ct2) (at_3 : Option Addr) (ct3 : Nat) (_q5 : RSl h at_3 t.ops) (_q6 : t.ops.length ≤ ct3) (unknown : List Int) (aunknown : Option Addr) (cunknown : Nat) (_q7 : RSl h aunknown unknown) (_q8 : unknown.length ≤ cunknown) : Calls Tryz.prog 45 #[.agg #[iV t.facts, .slice at_ t.init.length ct, .slice at_2 t.goal.length ct2, .slice at_3 t.ops.length ct3], .slice aunknown unknown.length cunknown] w fun e w' => e = .returned (.agg #[iV (sp_unknownFault t unknown).code, iV (sp_unknownFault t unknown).index]) ∧ Below w.heap.size w w' :=
 (w_unknownFault hs t at_ ct _q1 _q2 at_2 ct2 _q3 _q4 at_3 ct3 _q5 _q6 unknown aunknown cunknown _q7 _q8 (fun r => r = sp_unknownFault t unknown) (ok_unknownFault t unknown)).mono fun _ _ ⟨_, hk, he, hb⟩ => ⟨by rw [he, hk], hb⟩
theorem w_sure1 {h : FH} {w : World} (hs : Sub h w) (s_ : List Int) (as_ : Option Addr) (cs_ : Nat) (_q1 : RSl h as_ s_) (_q2 : s_.length ≤ cs_) (x : List Int) (ax : Option Addr) (cx : Nat) (_q3 : RSl h ax x) (_q4 : x.length ≤ cx) (px : Addr) (_q5 : CellsAt h px [.slice ax x.length cx]) (K : Bool → Prop) (hF : F_sure1 s_ x K) : Calls Tryz.prog 87 #[.slice as_ s_.length cs_, .pointer (some px)] w fun e w' => ∃ r : Bool, K r ∧ e = .returned (.bool r) ∧ Below w.heap.size w w' := by
 refine enter (args := [vSl as_ s_ cs_, .pointer (some px)]) Tryz.func87 rfl Tryz.ntmps87 rfl hs ?_
 refine .seq (.region (.V ag0 ?_))
 refine .nil (.seqN (.seq (.region (.V mv0 ?_))))
 refine .V (ld1 (v := vSl ax x cx) rfl tO22 (cellH (CellsAt.mono (FH.le_refl _) _q5 0 _ rfl))) ?_
 obtain ⟨q6, hF⟩ := hF
 obtain ⟨r2, q7⟩ : ∃ y_ : Bool, y_ = sp_contains2 s_ x := ⟨_, rfl⟩
 replace hF := hF r2 q7
 refine .C (cl (v := .bool r2) Tryz.call88 rfl rfl (fun w S => (by rw [q7]; exact c_contains2 S.sub s_ as_ cs_ _q1 _q2 x ax cx _q3 _q4 q6))) ?_
 refine .V (nt rfl) ?_
 refine .V ag0 ?_
 refine .nil (.seqN (.ret ?_))
 refine .res1 rfl (rvT rfl) (fun w' S => ⟨!r2, hF, rfl, S.below⟩)
theorem c_sure1 {h : FH} {w : World} (hs : Sub h w) (s_ : List Int) (as_ : Option Addr) (cs_ : Nat) (_q1 : RSl h as_ s_) (_q2 : s_.length ≤ cs_) (x : List Int) (ax : Option Addr) (cx : Nat) (_q3 : RSl h ax x) (_q4 : x.length ≤ cx) (px : Addr) (_q5 : CellsAt h px [.slice ax x.length cx]) (hp : pre_sure1 s_ x) : Calls Tryz.prog 87 #[.slice as_ s_.length cs_, .pointer (some px)] w fun e w' => e = .returned (.bool (sp_sure1 s_ x)) ∧ Below w.heap.size w w' :=
 (w_sure1 hs s_ as_ cs_ _q1 _q2 x ax cx _q3 _q4 px _q5 (fun r => r = sp_sure1 s_ x) (ok_sure1 s_ x hp)).mono fun _ _ ⟨_, hk, he, hb⟩ => ⟨by rw [he, hk], hb⟩
theorem w_sure {h : FH} {w : World} (hs : Sub h w) (worlds : List (List Int)) (aworlds : Option Addr) (cworlds : Nat) (_q1 : RSl h aworlds worlds) (_q2 : worlds.length ≤ cworlds) (facts : List Int) (afacts : Option Addr) (cfacts : Nat) (_q3 : RSl h afacts facts) (_q4 : facts.length ≤ cfacts) (K : Bool → Prop) (hF : F_sure worlds facts K) : Calls Tryz.prog 52 #[.slice aworlds worlds.length cworlds, .slice afacts facts.length cfacts] w fun e w' => ∃ r : Bool, K r ∧ e = .returned (.bool r) ∧ Below w.heap.size w w' := by
 refine enter (args := [vSl aworlds worlds cworlds, vSl afacts facts cfacts]) Tryz.func52 rfl Tryz.ntmps52 rfl hs ?_
 refine .seq (.region ?_)
 refine bx (vs := [vSl afacts facts cfacts]) rfl rfl rfl (fun pfacts => ?_)
 refine .V ag0 ?_
 refine .nil (.seqN (.seq (.region (.V mv0 ?_))))
 refine .V (mkf (vf := []) (vc := [.pointer (some pfacts)]) rfl rfl) ?_
 obtain ⟨q5, hF⟩ := hF
 obtain ⟨r2, q6⟩ : ∃ y_ : Bool, y_ = sp_any worlds (fun y_ : List Int => sp_sure1 y_ facts) (fun y_ : List Int => pre_sure1 y_ facts) := ⟨_, rfl⟩
 replace hF := hF r2 q6
 refine .C (cl (v := .bool r2) Tryz.call66 rfl rfl (fun w S => (by rw [q6]; obtain ⟨h_, hl_, hs_, hb_⟩ := lookB S (k := 0) rfl; exact c_containsR hs_ worlds aworlds cworlds (RSl.mono hl_ _q1) _q2 (fun y_ : List Int => sp_sure1 y_ facts) (fun y_ : List Int => pre_sure1 y_ facts) 87 #[] #[.pointer (some pfacts)] Tryz.call87 (fun x a_ c_ r_ l_ w' hD hs' => c_sure1 hs' x a_ c_ r_ l_ facts afacts cfacts (RSl.mono hl_ _q3) _q4 pfacts hb_ hD) q5))) ?_
 refine .V (nt rfl) ?_
 refine .V ag0 ?_
 refine .nil (.seqN (.ret ?_))
 refine .res1 rfl (rvT rfl) (fun w' S => ⟨!r2, hF, rfl, S.below⟩)
theorem c_sure {h : FH} {w : World} (hs : Sub h w) (worlds : List (List Int)) (aworlds : Option Addr) (cworlds : Nat) (_q1 : RSl h aworlds worlds) (_q2 : worlds.length ≤ cworlds) (facts : List Int) (afacts : Option Addr) (cfacts : Nat) (_q3 : RSl h afacts facts) (_q4 : facts.length ≤ cfacts) (hp : pre_sure worlds facts) : Calls Tryz.prog 52 #[.slice aworlds worlds.length cworlds, .slice afacts facts.length cfacts] w fun e w' => e = .returned (.bool (sp_sure worlds facts)) ∧ Below w.heap.size w w' :=
 (w_sure hs worlds aworlds cworlds _q1 _q2 facts afacts cfacts _q3 _q4 (fun r => r = sp_sure worlds facts) (ok_sure worlds facts hp)).mono fun _ _ ⟨_, hk, he, hb⟩ => ⟨by rw [he, hk], hb⟩
end Go.Proofs.YtojoehfldbimpaaGreatDoor.Pl

namespace Go.Proofs.YtojoehfldbimpaaGreatDoor.Pl.Pd
open Go Go.RowKit
def dr (w : World) : Nat := w.drawn
theorem dr_drew (w : World) : dr w ≤ dr w.drew := by unfold dr; first | exact Nat.le_succ _ | exact Nat.le_refl _
structure Below (B : Nat) (w w' : World) : Prop where
 os : w'.os = w.os
 tape : w'.tape = w.tape
 output : w'.output = w.output
 size : w.heap.size ≤ w'.heap.size
 block : ∀ k, k < B → w'.heap[k]? = w.heap[k]?
 drawn : dr w ≤ dr w'
theorem Below.refl (B : Nat) (w : World) : Below B w w := ⟨rfl, rfl, rfl, Nat.le_refl _, fun _ _ => rfl, Nat.le_refl _⟩
theorem Below.drew {B : Nat} {a w : World} (h : Below B a w) : Below B a w.drew := ⟨h.os, h.tape, h.output, h.size, h.block, Nat.le_trans h.drawn (dr_drew _)⟩
structure Kept (K : Kp) (w : World) : Prop where
 os : w.os = K.w.os
 tape : w.tape = K.w.tape
 output : w.output = K.w.output
 size : K.w.heap.size ≤ w.heap.size
 block : ∀ b, K.keep b → w.heap[b]? = K.w.heap[b]?
 drawn : dr K.w ≤ dr w
theorem Kept.start (w : World) (h : FH) : Kept (Kp.all w h) w := ⟨rfl, rfl, rfl, Nat.le_refl _, fun _ _ => rfl, Nat.le_refl _⟩
theorem Kept.below {w w' : World} {h : FH} (k : Kept (Kp.all w h) w') : Below w.heap.size w w' := ⟨k.os, k.tape, k.output, k.size, k.block, k.drawn⟩
structure SH (K : Kp) (h : FH) (w : World) (A : List Asrt) : Prop where
 kept : Kept K w
 sub : Sub h w
 fresh : ∀ b, h b ≠ none → K.h b ≠ none ∨ ¬ K.keep b
 parts : ∃ gs, Parts K h w A gs
section
variable {K : Kp} {h : FH} {w : World} {A : List Asrt}
theorem SH.start (w : World) (h : FH) (s : Sub h w) : SH (Kp.all w h) h w [] :=
 ⟨Kept.start w h, s, fun _ h => .inl h, [], rfl, by simp, by simp, by simp⟩
theorem SH.below {w0 : World} {h0 : FH} (s : SH (Kp.all w0 h0) h w A) : Below w0.heap.size w0 w := s.kept.below
theorem SH.anti {h' : FH} (hl : FH.le h h') (s : SH K h' w A) : SH K h w A := by
 obtain ⟨gs, p1, p2, p3, p4⟩ := s.parts
 refine ⟨s.kept, s.sub.anti hl, fun b hb => s.fresh b (by
  cases e : h b with
  | none => exact absurd e hb
  | some o => rw [hl b o e]; simp), gs, p1, p2, fun i g hi => ?_, p4⟩
 have o := p3 i g hi
 refine ⟨fun b => ?_, o.sub, o.free⟩
 rcases o.disj b with e | e
 ·cases hb : h b with
  | none => exact .inl rfl
  | some x => rw [hl _ _ hb] at e; cases e
 ·exact .inr e
theorem SH.ext {w' : World} (s : SH K h w A) (hb : Below w.heap.size w w') : SH K h w' A := by
 obtain ⟨gs, p1, p2, p3, p4⟩ := s.parts
 refine ⟨⟨hb.os.trans s.kept.os, hb.tape.trans s.kept.tape, hb.output.trans s.kept.output, Nat.le_trans s.kept.size hb.size, fun b hk => ?_, Nat.le_trans s.kept.drawn hb.drawn⟩, s.sub.ext hb.block, s.fresh, gs, p1, p2, fun i g hi => ⟨(p3 i g hi).disj, (p3 i g hi).sub.ext hb.block, (p3 i g hi).free⟩, p4⟩
 rw [hb.block b (Nat.lt_of_lt_of_le (K.lt b hk) s.kept.size)]
 exact s.kept.block b hk
theorem SH.drop {X : Asrt} (s : SH K h w (X :: A)) : SH K h w A := by
 obtain ⟨gs, p1, p2, p3, p4⟩ := s.parts
 cases gs with
 | nil => simp at p1
 | cons g gs =>
  refine ⟨s.kept, s.sub, s.fresh, gs, by simpa using p1, fun i g1 Y hi hY => p2 (i + 1) g1 Y (by simpa using hi) (by simpa using hY), fun i g1 hi => p3 (i + 1) g1 (by simpa using hi), fun i j g1 g2 hij hi hj => p4 (i + 1) (j + 1) g1 g2 (by omega) (by simpa using hi) (by simpa using hj)⟩
end
section
variable {P : Program} {K : Kp} {n : Fr}
def J (P : Program) (K : Kp) (n : Fr) (c : Code) (Q : Exit → Act → World → Prop) (s : St) (A : List Asrt) (h : FH) : Prop :=
 ∀ a w, Holds n s a → SH K h w A → WC P n.ro c Q a w
def JL (P : Program) (K : Kp) (n : Fr) (ops : Array Oper) (l : List Oper) (Q : Exit → Act → World → Prop) (s : St) (A : List Asrt) (h : FH) : Prop :=
 ∀ a w, Holds n s a → SH K h w A → WL P n.ro ops Q l a w
def E (K : Kp) (n : Fr) (Q : Exit → Act → World → Prop) (e : Exit) (s : St) (A : List Asrt) (h : FH) : Prop :=
 ∀ a w, Holds n s a → SH K h w A → Q e a w
variable {Q : Exit → Act → World → Prop} {s s' : St} {A : List Asrt} {h h' : FH}
theorem J.up (hl : FH.le h h') {c : Code} (j : J P K n c Q s A h) : J P K n c Q s A h' := fun a w H S => j a w H (S.anti hl)
theorem J.sub (hs : SubSt s' s) {c : Code} (j : J P K n c Q s' A h) : J P K n c Q s A h := fun a w H S => j a w (H.sub hs) S
theorem J.drop {c : Code} {X : Asrt} (j : J P K n c Q s A h) : J P K n c Q s (X :: A) h := fun a w H S => j a w H S.drop
theorem J.seq {x y : Code} (j : J P K n x (Exit.then (fun a w => WC P n.ro y Q a w) Q) s A h) : J P K n (.seq x y) Q s A h := by
 obtain ⟨m, ro, dl⟩ := n
 cases ro with
 | none => exact fun a w H S => wp_seq (j a w H S)
 | some l => exact fun a w H S => wpIn_seq (j a w H S)
theorem J.cond {c : Operand} {x y : Code} {b : Bool} (hc : ev s c = some (.bool b)) (ht : b = true → J P K n x Q s A h) (hf : b = false → J P K n y Q s A h) : J P K n (.cond c x y) Q s A h := by
 obtain ⟨m, ro, dl⟩ := n
 cases ro with
 | none => exact fun a w H S => wp_cond_split (H.ev hc) (fun e => ht e a w H S) (fun e => hf e a w H S)
 | some l => exact fun a w H S => wpIn_cond_split (H.ev hc) (fun e => ht e a w H S) (fun e => hf e a w H S)
theorem J.block {id : Nat} {c : Code} (j : J P K n c (Exit.inBlock id Q) s A h) : J P K n (.block id c) Q s A h := by
 obtain ⟨m, ro, dl⟩ := n
 cases ro with
 | none => exact fun a w H S => wp_block (j a w H S)
 | some l => exact fun a w H S => wpIn_block (j a w H S)
theorem J.region {id : Nat} {l : List Oper} (j : JL P K n l.toArray l Q s A h) : J P K n (.region id l.toArray false) Q s A h := by
 obtain ⟨m, ro, dl⟩ := n
 cases ro with
 | none => exact fun a w H S => wp_region_lit (j a w H S)
 | some l => exact fun a w H S => wpIn_region_lit (j a w H S)
theorem J.skip (j : E K n Q .normal s A h) : J P K n .skip Q s A h := by
 obtain ⟨m, ro, dl⟩ := n
 cases ro with
 | none => exact fun a w H S => wp_skip (j a w H S)
 | some l => exact fun a w H S => wpIn_skip (j a w H S)
theorem J.exit {id : Nat} (j : E K n Q (.exit id) s A h) : J P K n (.exit id) Q s A h := by
 obtain ⟨m, ro, dl⟩ := n
 cases ro with
 | none => exact fun a w H S => wp_exit (j a w H S)
 | some l => exact fun a w H S => wpIn_exit (j a w H S)
theorem J.ret (j : E K n Q .ret s A h) : J P K n .ret Q s A h := by
 obtain ⟨m, ro, dl⟩ := n
 cases ro with
 | none => exact fun a w H S => wp_ret (j a w H S)
 | some l => exact fun a w H S => wpIn_ret (j a w H S)
theorem JL.nil {ops : Array Oper} (j : E K n Q .normal s A h) : JL P K n ops [] Q s A h := by
 obtain ⟨m, ro, dl⟩ := n
 cases ro with
 | none => exact fun a w H S => wpList_nil (P := P) (ops := ops) (j a w H S)
 | some l => exact fun a w H S => wpListIn_nil (F := FR l) (n := 0) (P := P) (ops := ops) (j a w H S)
theorem JL.up (hl : FH.le h h') {ops : Array Oper} {l : List Oper} (j : JL P K n ops l Q s A h) : JL P K n ops l Q s A h' := fun a w H S => j a w H (S.anti hl)
theorem JL.sub (hs : SubSt s' s) {ops : Array Oper} {l : List Oper} (j : JL P K n ops l Q s' A h) : JL P K n ops l Q s A h := fun a w H S => j a w (H.sub hs) S
theorem JL.drop {ops : Array Oper} {l : List Oper} {X : Asrt} (j : JL P K n ops l Q s A h) : JL P K n ops l Q s (X :: A) h := fun a w H S => j a w H S.drop
theorem E.up {e : Exit} (hl : FH.le h h') (j : E K n Q e s A h) : E K n Q e s A h' := fun a w H S => j a w H (S.anti hl)
theorem E.sub {e : Exit} (hs : SubSt s' s) (j : E K n Q e s' A h) : E K n Q e s A h := fun a w H S => j a w (H.sub hs) S
theorem E.drop {e : Exit} {X : Asrt} (j : E K n Q e s A h) : E K n Q e s (X :: A) h := fun a w H S => j a w H S.drop
theorem E.seqN {y : Code} (j : J P K n y Q s A h) : E K n (Exit.then (fun a w => WC P n.ro y Q a w) Q) .normal s A h := j
theorem E.seqR {F : Act → World → Prop} (j : E K n Q .ret s A h) : E K n (Exit.then F Q) .ret s A h := j
theorem E.seqX {F : Act → World → Prop} {i : Nat} (j : E K n Q (.exit i) s A h) : E K n (Exit.then F Q) (.exit i) s A h := j
theorem E.blkN {id : Nat} (j : E K n Q .normal s A h) : E K n (Exit.inBlock id Q) .normal s A h := j
theorem E.blkR {id : Nat} (j : E K n Q .ret s A h) : E K n (Exit.inBlock id Q) .ret s A h := j
theorem E.blkX {id : Nat} (j : E K n Q .normal s A h) : E K n (Exit.inBlock id Q) (.exit id) s A h := fun a w H S => by
 simp only [Exit.inBlock, if_true]; exact j a w H S
theorem J.loopN {σ : Type} (I : σ → Prop) (μ : σ → Nat) (N : σ → Fr) (S : σ → St) (M : σ → List Asrt) (F : σ → FH) {c : Code} (x0 : σ) (hI : I x0) (hn : ∀ x, (N x).ro = n.ro) (h0 : N x0 = n)
  (round : ∀ x, I x → J P K (N x) c (Exit.then (fun a w => ∃ y, I y ∧ μ y < μ x ∧ Holds (N y) (S y) a ∧ SH K (F y) w (M y)) Q) (S x) (M x) (F x)) :
  J P K n (.loop c) Q (S x0) (M x0) (F x0) := fun a w H Sh => by
 refine WC.loop (fun a w => ∃ x, I x ∧ Holds (N x) (S x) a ∧ SH K (F x) w (M x)) (fun a w => leastOf fun k => ∃ x, μ x = k ∧ I x ∧ Holds (N x) (S x) a ∧ SH K (F x) w (M x)) ⟨x0, hI, by rw [h0]; exact H, Sh⟩ ?_
 intro a w hx
 have he : ∃ k, ∃ x, μ x = k ∧ I x ∧ Holds (N x) (S x) a ∧ SH K (F x) w (M x) := by obtain ⟨x, h⟩ := hx; exact ⟨μ x, x, rfl, h⟩
 obtain ⟨⟨x, h0, h1, h2, h3⟩, _⟩ := leastOf_spec he
 have hr := round x h1 a w h2 h3
 rw [hn] at hr
 refine WC.mono (fun e a' w' q => ?_) hr
 cases e with
 | normal =>
  obtain ⟨y, y1, y2, y3, y4⟩ := q
  refine ⟨⟨y, y1, y3, y4⟩, ?_⟩
  have hl := (leastOf_spec (p := fun k => ∃ x, μ x = k ∧ I x ∧ Holds (N x) (S x) a' ∧ SH K (F x) w' (M x)) ⟨μ y, y, rfl, y1, y3, y4⟩).2 (μ y) ⟨y, rfl, y1, y3, y4⟩
  exact Nat.lt_of_le_of_lt hl (by rw [← h0]; exact y2)
 | exit id => exact q
 | goto l => exact q
 | ret => exact q
 | panic ch => exact q
 | outgrown => exact q
theorem J.loop {σ : Type} (I : σ → Prop) (μ : σ → Nat) (S : σ → St) (M : σ → List Asrt) (F : σ → FH) {c : Code} (x0 : σ) (hI : I x0)
  (round : ∀ x, I x → J P K n c (Exit.then (fun a w => ∃ y, I y ∧ μ y < μ x ∧ Holds n (S y) a ∧ SH K (F y) w (M y)) Q) (S x) (M x) (F x)) :
  J P K n (.loop c) Q (S x0) (M x0) (F x0) := J.loopN I μ (fun _ => n) S M F x0 hI (fun _ => rfl) rfl round
theorem E.round {σ : Type} {I : σ → Prop} {μ : σ → Nat} {S : σ → St} {M : σ → List Asrt} {F : σ → FH} {m : Nat} (y : σ) (hI : I y) (hμ : μ y < m) (hs : SubSt (S y) s) (hm : M y = A) (hf : FH.le (F y) h) :
  E K n (Exit.then (fun a w => ∃ y, I y ∧ μ y < m ∧ Holds n (S y) a ∧ SH K (F y) w (M y)) Q) .normal s A h :=
 fun a w H Sh => ⟨y, hI, hμ, H.sub hs, by rw [hm]; exact Sh.anti hf⟩
end
section
variable {P : Program}
variable {K : Kp} {n : Fr} {ops : Array Oper} {Q : Exit → Act → World → Prop} {s : St} {A : List Asrt} {h : FH} {rest : List Oper}
def VF (P : Program) (K : Kp) (n : Fr) (s : St) (A : List Asrt) (h : FH) (o : Oper) (v : Value) : Prop := ∀ a w, Holds n s a → SH K h w A → (execOp a.eval o).run P w = .ok (.value v) w
def CF (P : Program) (K : Kp) (n : Fr) (s : St) (A : List Asrt) (h : FH) (o : Oper) (v : Value) : Prop := ∀ a w, Holds n s a → SH K h w A →
 ∃ f args, (execOp a.eval o).run P w = .ok (.enter f args) w ∧ Calls P f args w fun e w' => e = .returned v ∧ Below w.heap.size w w'
theorem JL.v {o : Oper} {d : Nat} {v : Value} (hx : VF P K n s A h o v) (hg : o.guard = none) (hd : o.dst = some d) (hn : Nat.blt d n.sz = true)
  (k : JL P K n ops rest Q ((d, v) :: s) A h) : JL P K n ops (o :: rest) Q s A h :=
 fun a w H S => WL.val hg (hx a w H S) (k _ w (by rw [hd]; exact H.put v hn) S)
theorem JL.c {o : Oper} {d : Nat} {v : Value} (hx : CF P K n s A h o v) (hg : o.guard = none) (hd : o.dst = some d) (hn : Nat.blt d n.sz = true)
  (k : JL P K n ops rest Q ((d, v) :: s) A h) : JL P K n ops (o :: rest) Q s A h :=
 fun a w H S => by
  obtain ⟨f, args, hr, hc⟩ := hx a w H S
  exact WL.enter hg hr (hc.mono fun e w' ⟨he, hb⟩ => ⟨v, he, k _ w' (by rw [hd]; exact H.put v hn) (S.ext hb)⟩)
section ops
variable {dd : Option Tmp} {gd : Option (Nat × Bool)} {ty : TypeId} {pos : String} {af : Array Edge}
theorem mv {x : Operand} {v : Value} (hx : ev s x = some v) : VF P K n s A h ⟨dd, .move x, ty, pos, af, gd⟩ (v) :=
 (fun a w H _ => by simp [execOp, H.ev hx])
theorem asg {x : Operand} {v : Value} (hx : ev s x = some v) : VF P K n s A h ⟨dd, .assign x, ty, pos, af, gd⟩ (v) :=
 (fun a w H _ => by simp [execOp, H.ev hx])
theorem bi {op : BinOp} {x y : Operand} {t t' : TypeId} {ki : IntKind} {i j : Int} {v : Value} (hx : ev s x = some (.int ki i)) (hy : ev s y = some (.int ki j)) (hv : ibin op ki i j = some v) : VF P K n s A h ⟨dd, .binOp op t x y t', ty, pos, af, gd⟩ (v) :=
 (fun a w H _ => by
  obtain ⟨e1, e2⟩ := run_ibin (P := P) hv x y t w
  simp [execOp, H.ev hx, H.ev hy, e1, e2])
theorem ix {x y : Operand} {t e : TypeId} {a : Option Addr} {len cap sz by_ : Nat} {zs : List Value} {ki : IntKind} {i : Int} (hx : ev s x = some (.slice a len cap)) (hy : ev s y = some (.int ki i)) (ht : TSl P t e sz by_ zs) (ha : a ≠ none) (hi : 0 ≤ i ∧ i < len) : VF P K n s A h ⟨dd, .indexAddr t x y, ty, pos, af, gd⟩ (.pointer (some (ead a (i.toNat * sz)))) :=
 (fun ac w H _ => by
  obtain ⟨ii, z, h1, h2, h3, h4, h5⟩ := ht.info
  cases a with
  | none => exact absurd rfl ha
  | some p => simp [execOp, H.ev hx, H.ev hy, Instr.indexAt, asIntOf, run_underlying ht.und, sizeOf, typeInfo, h1, h3, hi, ead])
theorem ln {x : Operand} {t : TypeId} {a : Option Addr} {len cap : Nat} (hx : ev s x = some (.slice a len cap)) (ht : TIsSl P t) : VF P K n s A h ⟨dd, .call { callee := .builtin .len, args := #[x], argTypes := #[t] }, ty, pos, af, gd⟩ (.int .i64 (len : Int)) :=
 (fun ac w H _ => by
  obtain ⟨e, he⟩ := ht
  simp [execOp, resolve, invoke, builtin, H.ev hx, Builtin.len_, run_underlying he, goInt])
theorem ext {x : Operand} {vs : Array Value} {i : Nat} {v : Value} (hx : ev s x = some (.tuple vs)) (hv : vs[i]? = some v) : VF P K n s A h ⟨dd, .extract x i, ty, pos, af, gd⟩ (v) :=
 (fun ac w H _ => by simp [execOp, H.ev hx, Instr.extract, hv])
end ops
end
section
variable {P : Program} {K : Kp} {n : Fr} {ops : Array Oper} {Q : Exit → Act → World → Prop} {s : St} {A : List Asrt} {h : FH} {rest : List Oper} {d : Nat} {dd : Option Tmp} {gd : Option (Nat × Bool)} {ty : TypeId} {pos : String} {af : Array Edge}
theorem ld1 {x : Operand} {t : TypeId} {p : Addr} {v : Value} (hx : ev s x = some (.pointer (some p))) (ht : TOne P t) (hc : ∀ w, SH K h w A → w.cell? p = some v) : VF P K n s A h ⟨dd, .load t x, ty, pos, af, gd⟩ (v) :=
 (fun ac w H S => by
  simp [execOp, H.ev hx, Instr.loadAt, Instr.sureAddr, loadVar, (ht w).1, run_load, hc w S])
theorem cellH {p : Addr} {v : Value} (hv : h.cell p = some v) : ∀ w, SH K h w A → w.cell? p = some v := fun _ S => S.sub.cell hv
theorem cl {f : FuncId} {x : Operand} {xs : Array Operand} {ts : Array TypeId} {first cap : Array Value} {vs : List Value} {v : Value} (hf : ∀ args w, (callFunc f args).run P w = .ok (.enter f args) w)
  (hx : ev s x = some (.func (.func f) first cap)) (hv : evs s xs.toList = some vs) (hc : ∀ w, SH K h w A → Calls P f (first.toList ++ vs ++ cap.toList).toArray w fun e w' => e = .returned v ∧ Below w.heap.size w w') : CF P K n s A h ⟨dd, .call { callee := .value x, args := xs, argTypes := ts }, ty, pos, af, gd⟩ v :=
 fun _ w H S => ⟨f, _, call_exec H hf hx hv rfl, hc w S⟩
end
section
variable {P : Program} {K : Kp} {n : Fr} {s : St} {A : List Asrt} {h : FH} {fn : Func} {R : Ending → World → Prop}
def RV (P : Program) (K : Kp) (n : Fr) (s : St) (A : List Asrt) (h : FH) (r : ResultVar) (v : Value) : Prop := ∀ a w, Holds n s a → SH K h w A →
 (resOne a.tmps r).run P w = .ok v w
theorem rvT {t : Nat} {v : Value} (hv : get s t = some v) : RV P K n s A h (.tmp t) v := fun a w H _ => by simp only [resOne, H.getD hv]; rfl
theorem E.res1 {m_ : Nat} {ro_ : Option (Option Nat)} {r : ResultVar} {v : Value} (hr : fn.results = #[r]) (h1 : RV P K ⟨m_, ro_, []⟩ s A h r v) (k : ∀ w, SH K h w A → R (.returned v) w) : E K ⟨m_, ro_, []⟩ (bodyPost P fn R) .ret s A h := fun a w H S => by
 refine ⟨H.defers, v, ?_, k w S⟩
 have e1 := h1 a w H S
 simp only [results_eq, hr, Sem.run_bind, List.mapM_toArray, List.mapM_cons, List.mapM_nil, e1, Sem.run_map, Result.andThen_ok, Sem.run_pure]
 rfl
theorem enter {f : FuncId} {c : Code} {args : List Value} {w : World} (hf : P.funcs[f]? = some fn) (hb : fn.body = some c) {n : Nat} (hn : fn.ntmps = n) (hle : Nat.ble args.length n = true) (hs : Sub h w)
  (j : J P (Kp.all w h) ⟨n, none, []⟩ c (bodyPost P fn R) (start 0 args) [] h) : Calls P f args.toArray w R := by
 have hl : args.length ≤ n := by simpa using hle
 refine calls_of_wp hf hb (j _ w ⟨rfl, ?_, fun t v e => ?_⟩ (SH.start w h hs))
 ·simp [hn]; omega
 ·obtain ⟨_, h2⟩ := get_start 0 args t v e
  simp only [Nat.sub_zero] at h2
  have hlt : t < args.length := (List.getElem?_eq_some_iff.1 h2).1
  rw [Array.getElem?_append_left (by simpa using hlt)]
  simpa using h2
end
section
variable {P : Program} {K : Kp} {n : Fr} {ops : Array Oper} {Q : Exit → Act → World → Prop} {s : St} {A : List Asrt} {h : FH}
theorem J.loop' {σ : Type} (I : σ → Prop) (μ : σ → Nat) (S : σ → St) (M : σ → List Asrt) (F : σ → FH) {c : Code} (x0 : σ) (hI : I x0) (hs : SubSt (S x0) s) (hm : M x0 = A) (hf : FH.le (F x0) h)
  (round : ∀ x, I x → J P K n c (Exit.then (fun a w => ∃ y, I y ∧ μ y < μ x ∧ Holds n (S y) a ∧ SH K (F y) w (M y)) Q) (S x) (M x) (F x)) :
  J P K n (.loop c) Q s A h := by
 subst hm
 exact .up hf (.sub hs (.loop I μ S M F x0 hI round))
end
section
variable {P : Program} {K : Kp} {n : Fr} {ops : Array Oper} {Q : Exit → Act → World → Prop} {s : St} {A : List Asrt} {h : FH} {rest : List Oper} {R : Act → Prop}
def QL (P : Program) (K : Kp) (n : Fr) (ops : Array Oper) (l : List Oper) (R : Act → Prop) (s : St) (A : List Asrt) (h : FH) : Prop := ∀ a, Holds n s a → wpQuiet P ops (fun w => SH K h w A) R l a
theorem QL.nil (hr : ∀ a, Holds n s a → R a) : QL P K n ops [] R s A h := fun a H => wpQuiet_nil (hr a H)
theorem QL.v {o : Oper} {d : Nat} {v : Value} (hx : VF P K n s A h o v) (hg : o.guard = none) (hd : o.dst = some d) (hn : Nat.blt d n.sz = true) (k : QL P K n ops rest R ((d, v) :: s) A h) : QL P K n ops (o :: rest) R s A h :=
 fun a H => wpQuiet_step fun Kc hK => by
  rw [if_pos (by simp [Region.wanted, hg])]
  refine ⟨v, fun w hw => ?_, hK _ (k _ ?_)⟩
  ·unfold Oper.quietAt; rw [hx a w H hw]; exact ⟨rfl, rfl⟩
  ·rw [hd]; exact H.put v hn
theorem QL.c {o : Oper} {d : Nat} {v : Value} (hx : CF P K n s A h o v) (hg : o.guard = none) (hd : o.dst = some d) (hn : Nat.blt d n.sz = true) (k : QL P K n ops rest R ((d, v) :: s) A h) : QL P K n ops (o :: rest) R s A h :=
 fun a H => wpQuiet_step fun Kc hK => by
  rw [if_pos (by simp [Region.wanted, hg])]
  refine ⟨v, fun w hw => ?_, hK _ (k _ ?_)⟩
  ·obtain ⟨f, args, hr, hc⟩ := hx a w H hw
   unfold Oper.quietAt; rw [hr]
   exact ⟨rfl, hc.mono fun e w' ⟨he, hb⟩ => ⟨he, SH.ext hw hb⟩⟩
  ·rw [hd]; exact H.put v hn
theorem SH.drew {w : World} (S : SH K h w A) : SH K h { w with drawn := w.drawn + 1 } A := S.ext ((Below.refl _ _).drew)
end
section
variable {P : Program} {K : Kp} {n : Fr} {ops : Array Oper} {Q : Exit → Act → World → Prop} {s : St} {A A' : List Asrt} {h : FH} {l : List Oper} {c : Code} {ex : Exit}
theorem SH.move {w : World} {X : Asrt} (S : SH K h w (X :: A)) (k : Nat) : SH K h w (A.set k X) := by
 obtain ⟨gs, p1, p2, p3, p4⟩ := S.parts
 cases gs with
 | nil => simp at p1
 | cons g0 gs =>
  have hl : gs.length = A.length := by simpa using p1
  refine ⟨S.kept, S.sub, S.fresh, gs.set k g0, by simp [hl], fun i g Y hi hY => ?_, fun i g hi => ?_, fun i j g g2 hij hi hj => ?_⟩
  ·rcases list_set_get hi with ⟨rfl, rfl, _⟩ | ⟨hne, hi'⟩
   ·rcases list_set_get hY with ⟨_, rfl, _⟩ | ⟨hne, _⟩
    ·exact p2 0 g Y rfl rfl
    ·exact absurd rfl hne
   ·rcases list_set_get hY with ⟨rfl, _, _⟩ | ⟨_, hY'⟩
    ·exact absurd rfl hne
    ·exact p2 (i + 1) g Y (by simpa using hi') (by simpa using hY')
  ·rcases list_set_get hi with ⟨rfl, rfl, _⟩ | ⟨hne, hi'⟩
   ·exact p3 0 g rfl
   ·exact p3 (i + 1) g (by simpa using hi')
  ·rcases list_set_get hi with ⟨rfl, rfl, _⟩ | ⟨hne, hi'⟩
   ·rcases list_set_get hj with ⟨rfl, rfl, _⟩ | ⟨hne2, hj'⟩
    ·exact absurd rfl hij
    ·exact p4 0 (j + 1) g g2 (by omega) rfl (by simpa using hj')
   ·rcases list_set_get hj with ⟨rfl, rfl, _⟩ | ⟨hne2, hj'⟩
    ·exact p4 (i + 1) 0 g g2 (by omega) (by simpa using hi') rfl
    ·exact p4 (i + 1) (j + 1) g g2 (by omega) (by simpa using hi') (by simpa using hj')
theorem JL.move {X : Asrt} (k : Nat) (j : JL P K n ops l Q s (A.set k X) h) : JL P K n ops l Q s (X :: A) h := fun a w H S => j a w H (S.move k)
end
section
variable {P : Program} {K : Kp} {n : Fr} {ops : Array Oper} {Q : Exit → Act → World → Prop} {s : St} {A A' : List Asrt} {h : FH} {rest : List Oper}
theorem SH.none {w : World} (S : SH K h w A) : SH K h w [] := by
 induction A with
 | nil => exact S
 | cons x r ih => exact ih S.drop
end
section
variable {P : Program} {K : Kp} {m_ : Nat} {dl_ : List Nat} {ops : Array Oper} {Q : Exit → Act → World → Prop} {s : St} {A : List Asrt} {h : FH}
def JA (P : Program) (K : Kp) (n : Fr) (ops : Array Oper) (Q : Exit → Act → World → Prop) (X D C : List Nat) (val s0 : St) (A : List Asrt) (h : FH) : Prop :=
 dstOk ops (s0.map (·.1)) X = true → ∀ (fuel : Nat) (listed : Array Bool) (a : Act) (w : World) (sL : St), Known ops D C val s0 listed sL → listed.toList.count false ≤ fuel → Holds n sL a → SH K h w A → wpAny P .any ops Q fuel listed a w
def QA (P : Program) (K : Kp) (n : Fr) (ops : Array Oper) (val s0 : St) (A : List Asrt) (h : FH) (C : List Nat) : Prop :=
 ∀ i ∈ C, ∃ o d v si, ops[i]? = some o ∧ o.dst = some d ∧ Nat.blt d n.sz = true ∧ get val i = some v ∧ dl ops val o = si ∧ ((gdT ops si o ∧ ((∀ sL, VF P K n (si ++ (s0 ++ sL)) A h o v) ∨ (∀ sL, CF P K n (si ++ (s0 ++ sL)) A h o v))) ∨ (gdF ops si o ∧ v = undef))
section
variable {val s0 : St} {i d g t : Nat} {C : List Nat} {o : Oper} {u : Value} {want b : Bool}
theorem QA.nil : QA P K ⟨m_, none, dl_⟩ ops val s0 A h [] := fun i hi => by cases hi
theorem QA.cons (si : St) (ho : ops[i]? = some o) (hd : o.dst = some d) (hn : Nat.blt d m_ = true) (hv : get val i = some u) (hs : dl ops val o = si) (hx : (gdT ops si o ∧ ((∀ sL, VF P K ⟨m_, none, dl_⟩ (si ++ (s0 ++ sL)) A h o u) ∨ (∀ sL, CF P K ⟨m_, none, dl_⟩ (si ++ (s0 ++ sL)) A h o u))) ∨ (gdF ops si o ∧ u = undef)) (r : QA P K ⟨m_, none, dl_⟩ ops val s0 A h C) : QA P K ⟨m_, none, dl_⟩ ops val s0 A h (i :: C) := fun j hj => by
 rcases List.mem_cons.1 hj with rfl | hj
 ·exact ⟨o, d, u, si, ho, hd, hn, hv, hs, hx⟩
 ·exact r j hj
theorem QA.v (si : St) (ho : ops[i]? = some o) (hg : o.guard = none) (hd : o.dst = some d) (hn : Nat.blt d m_ = true) (hv : get val i = some u) (hs : dl ops val o = si) (hx : ∀ sL, VF P K ⟨m_, none, dl_⟩ (si ++ (s0 ++ sL)) A h o u) (r : QA P K ⟨m_, none, dl_⟩ ops val s0 A h C) : QA P K ⟨m_, none, dl_⟩ ops val s0 A h (i :: C) :=
 .cons si ho hd hn hv hs (.inl ⟨gdT_none hg, .inl hx⟩) r
theorem QA.c (si : St) (ho : ops[i]? = some o) (hg : o.guard = none) (hd : o.dst = some d) (hn : Nat.blt d m_ = true) (hv : get val i = some u) (hs : dl ops val o = si) (hx : ∀ sL, CF P K ⟨m_, none, dl_⟩ (si ++ (s0 ++ sL)) A h o u) (r : QA P K ⟨m_, none, dl_⟩ ops val s0 A h C) : QA P K ⟨m_, none, dl_⟩ ops val s0 A h (i :: C) :=
 .cons si ho hd hn hv hs (.inl ⟨gdT_none hg, .inr hx⟩) r
end
def After (P : Program) (K : Kp) (n : Fr) (ops : Array Oper) (Q : Exit → Act → World → Prop) (X D C : List Nat) (val s0 : St) (i : Nat) (o : Oper) (sL : St) : Act → World → Prop := fun a w =>
 ∃ (M C' : List Nat) (pre s1 : St) (A' : List Asrt) (h' : FH), ((∀ t v, get s1 t = some v → get s0 t = some v) ∧ (∀ d, o.dst = some d → ∀ p ∈ s1, Nat.beq p.1 d = false) ∧ dstOk ops (s1.map (·.1)) X = true) ∧ ancOk ops [i] M = true ∧ (∀ j ∈ C, j ∈ M ∨ j ∈ C') ∧ (∀ j, j ∈ D ∨ j ∈ C → get (pre ++ val) j = get val j) ∧
  (match o.dst with | some d => ∃ v, get (pre ++ val) i = some v ∧ Holds n ((d, v) :: sL) a | none => Holds n sL a) ∧ SH K h' w A' ∧ JA P K n ops Q X (i :: (M ++ D)) C' (pre ++ val) s1 A' h'
def HA (P : Program) (K : Kp) (n : Fr) (ops : Array Oper) (Q : Exit → Act → World → Prop) (X D C : List Nat) (val s0 : St) (A : List Asrt) (h : FH) (H : List Nat) : Prop :=
 ∀ i ∈ H, ∃ o si, ops[i]? = some o ∧ dl ops val o = si ∧ ∀ sL, (∀ t v, get (si ++ s0) t = some v → get sL t = some v) → JL P K n ops [o] (Exit.then (After P K n ops Q X D C val s0 i o sL) Q) (si ++ (s0 ++ sL)) A h
theorem HA.nil {X D C : List Nat} {val s0 : St} : HA P K ⟨m_, none, dl_⟩ ops Q X D C val s0 A h [] := fun i hi => by cases hi
theorem HA.cons {X D C H : List Nat} {val s0 : St} {i : Nat} {o : Oper} (si : St) (ho : ops[i]? = some o) (hs : dl ops val o = si) (hx : ∀ sL, (∀ t v, get (si ++ s0) t = some v → get sL t = some v) → JL P K ⟨m_, none, dl_⟩ ops [o] (Exit.then (After P K ⟨m_, none, dl_⟩ ops Q X D C val s0 i o sL) Q) (si ++ (s0 ++ sL)) A h) (r : HA P K ⟨m_, none, dl_⟩ ops Q X D C val s0 A h H) : HA P K ⟨m_, none, dl_⟩ ops Q X D C val s0 A h (i :: H) := fun j hj => by
 rcases List.mem_cons.1 hj with rfl | hj
 ·exact ⟨o, si, ho, hs, hx⟩
 ·exact r j hj
end
section
variable {P : Program} {K : Kp} {n : Fr} {ops : Array Oper} {Q : Exit → Act → World → Prop} {s : St} {A : List Asrt} {h : FH} {rest : List Oper} {fn : Func} {R : Ending → World → Prop}
end
theorem w_isNaN1 {h : FH} {w : World} (hs : Sub h w) (x : Int) (K : Bool → Prop) (hF : F_isNaN1 x K) : Calls Tryz.prog 122 #[.int .i64 x] w fun e w' => ∃ r : Bool, K r ∧ e = .returned (.bool r) ∧ Below w.heap.size w w' := by
 refine enter (args := [.int .i64 x]) Tryz.func122 rfl Tryz.ntmps122 rfl hs ?_
 refine .seq ?_
 refine .region ?_
 refine .v (asg rfl) rfl rfl rfl ?_
 refine .nil ?_
 refine .seqN ?_
 refine .seq ?_
 refine .region ?_
 refine .v (mv rfl) rfl rfl rfl ?_
 refine .v (mv rfl) rfl rfl rfl ?_
 refine .v (bi rfl rfl rfl) rfl rfl rfl ?_
 refine .v (asg rfl) rfl rfl rfl ?_
 refine .nil ?_
 refine .seqN ?_
 refine .ret ?_
 refine .res1 rfl (rvT rfl) (fun w' S => ⟨x != x, hF, rfl, S.below⟩)
theorem c_isNaN1 {h : FH} {w : World} (hs : Sub h w) (x : Int) : Calls Tryz.prog 122 #[.int .i64 x] w fun e w' => e = .returned (.bool (sp_isNaN1 x)) ∧ Below w.heap.size w w' :=
 (w_isNaN1 hs x (fun r => r = sp_isNaN1 x) (ok_isNaN1 x)).mono fun _ _ ⟨_, hk, he, hb⟩ => ⟨by rw [he, hk], hb⟩
theorem w_compare {h : FH} {w : World} (hs : Sub h w) (x : Int) (y : Int) (K : Int → Prop) (hF : F_compare x y K) : Calls Tryz.prog 111 #[.int .i64 x, .int .i64 y] w fun e w' => ∃ r : Int, K r ∧ e = .returned (.int .i64 r) ∧ Below w.heap.size w w' := by
 refine enter (args := [.int .i64 x, .int .i64 y]) Tryz.func111 rfl Tryz.ntmps111 rfl hs ?_
 refine .seq ?_
 refine .region ?_
 refine .v (asg rfl) rfl rfl rfl ?_
 refine .nil ?_
 refine .seqN ?_
 refine .seq ?_
 refine .region ?_
 refine .v (mv rfl) rfl rfl rfl ?_
 obtain ⟨r2, q1⟩ : ∃ y_ : Bool, y_ = sp_isNaN1 x := ⟨_, rfl⟩
 replace hF := hF r2 q1
 refine .c (cl (v := .bool r2) Tryz.call122 rfl rfl (fun w S => (by rw [q1]; exact c_isNaN1 S.sub x ))) rfl rfl rfl ?_
 refine .v (asg rfl) rfl rfl rfl ?_
 refine .nil ?_
 refine .seqN ?_
 refine .seq ?_
 refine .region ?_
 refine .v (mv rfl) rfl rfl rfl ?_
 obtain ⟨r3, q2⟩ : ∃ y_ : Bool, y_ = sp_isNaN1 y := ⟨_, rfl⟩
 replace hF := hF r3 q2
 refine .c (cl (v := .bool r3) Tryz.call122 rfl rfl (fun w S => (by rw [q2]; exact c_isNaN1 S.sub y ))) rfl rfl rfl ?_
 refine .v (asg rfl) rfl rfl rfl ?_
 refine .nil ?_
 refine .seqN ?_
 refine .seq ?_
 refine .seq ?_
 refine .region ?_
 refine .v (mv rfl) rfl rfl rfl ?_
 refine .nil ?_
 refine .seqN ?_
 refine .cond rfl (fun q6 => ?_) (fun q6 => ?_)
 ·replace hF := hF.1 q6
  refine .seq ?_
  refine .seq ?_
  refine .region ?_
  refine .v (mv rfl) rfl rfl rfl ?_
  refine .nil ?_
  refine .seqN ?_
  refine .cond rfl (fun q8 => ?_) (fun q8 => ?_)
  ·replace hF := hF.1 q8
   refine .seq ?_
   refine .region ?_
   refine .v (asg rfl) rfl rfl rfl ?_
   refine .nil ?_
   refine .seqN ?_
   refine .ret ?_
   refine .seqR ?_
   refine .seqR ?_
   refine .res1 rfl (rvT rfl) (fun w' S => ⟨0, hF, rfl, S.below⟩)
  replace hF := hF.2 q8
  refine .skip ?_
  refine .seqN ?_
  refine .seq ?_
  refine .region ?_
  refine .v (asg rfl) rfl rfl rfl ?_
  refine .nil ?_
  refine .seqN ?_
  refine .ret ?_
  refine .seqR ?_
  refine .res1 rfl (rvT rfl) (fun w' S => ⟨(-1), hF, rfl, S.below⟩)
 replace hF := hF.2 q6
 refine .skip ?_
 refine .seqN ?_
 refine .seq ?_
 refine .seq ?_
 refine .region ?_
 refine .v (mv rfl) rfl rfl rfl ?_
 refine .nil ?_
 refine .seqN ?_
 refine .cond rfl (fun q10 => ?_) (fun q10 => ?_)
 ·replace hF := hF.1 q10
  refine .seq ?_
  refine .region ?_
  refine .v (asg rfl) rfl rfl rfl ?_
  refine .nil ?_
  refine .seqN ?_
  refine .ret ?_
  refine .seqR ?_
  refine .res1 rfl (rvT rfl) (fun w' S => ⟨1, hF, rfl, S.below⟩)
 replace hF := hF.2 q10
 refine .skip ?_
 refine .seqN ?_
 refine .seq ?_
 refine .seq ?_
 refine .region ?_
 refine .v (mv rfl) rfl rfl rfl ?_
 refine .v (mv rfl) rfl rfl rfl ?_
 refine .v (bi rfl rfl rfl) rfl rfl rfl ?_
 refine .nil ?_
 refine .seqN ?_
 refine .cond rfl (fun q12 => ?_) (fun q12 => ?_)
 ·replace hF := hF.1 q12
  refine .seq ?_
  refine .region ?_
  refine .v (asg rfl) rfl rfl rfl ?_
  refine .nil ?_
  refine .seqN ?_
  refine .ret ?_
  refine .seqR ?_
  refine .res1 rfl (rvT rfl) (fun w' S => ⟨(-1), hF, rfl, S.below⟩)
 replace hF := hF.2 q12
 refine .skip ?_
 refine .seqN ?_
 refine .seq ?_
 refine .seq ?_
 refine .region ?_
 refine .v (mv rfl) rfl rfl rfl ?_
 refine .v (mv rfl) rfl rfl rfl ?_
 refine .v (bi rfl rfl rfl) rfl rfl rfl ?_
 refine .nil ?_
 refine .seqN ?_
 refine .cond rfl (fun q14 => ?_) (fun q14 => ?_)
 ·replace hF := hF.1 q14
  refine .seq ?_
  refine .region ?_
  refine .v (asg rfl) rfl rfl rfl ?_
  refine .nil ?_
  refine .seqN ?_
  refine .ret ?_
  refine .seqR ?_
  refine .res1 rfl (rvT rfl) (fun w' S => ⟨1, hF, rfl, S.below⟩)
 replace hF := hF.2 q14
 refine .skip ?_
 refine .seqN ?_
 refine .seq ?_
 refine .region ?_
 refine .v (asg rfl) rfl rfl rfl ?_
 refine .nil ?_
 refine .seqN ?_
 refine .ret ?_
 refine .res1 rfl (rvT rfl) (fun w' S => ⟨0, hF, rfl, S.below⟩)
theorem c_compare {h : FH} {w : World} (hs : Sub h w) (x : Int) (y : Int) : Calls Tryz.prog 111 #[.int .i64 x, .int .i64 y] w fun e w' => e = .returned (.int .i64 (sp_compare x y)) ∧ Below w.heap.size w w' :=
 (w_compare hs x y (fun r => r = sp_compare x y) (ok_compare x y)).mono fun _ _ ⟨_, hk, he, hb⟩ => ⟨by rw [he, hk], hb⟩
set_option maxHeartbeats 8000000 in
theorem w_scompare {h : FH} {w : World} (hs : Sub h w) (s1 : List Int) (as1 : Option Addr) (cs1 : Nat) (_q1 : RSl h as1 s1) (_q2 : s1.length ≤ cs1) (s2 : List Int) (as2 : Option Addr) (cs2 : Nat) (_q3 : RSl h as2 s2) (_q4 : s2.length ≤ cs2) (K : Int → Prop) (hF : F_scompare s1 s2 K) : Calls Tryz.prog 92 #[.slice as1 s1.length cs1, .slice as2 s2.length cs2] w fun e w' => ∃ r : Int, K r ∧ e = .returned (.int .i64 r) ∧ Below w.heap.size w w' := by
 refine enter (args := [.slice as1 s1.length cs1, .slice as2 s2.length cs2]) Tryz.func92 rfl Tryz.ntmps92 rfl hs ?_
 refine .seq ?_
 refine .region ?_
 refine .v (asg rfl) rfl rfl rfl ?_
 refine .nil ?_
 refine .seqN ?_
 refine .seq ?_
 refine .seq ?_
 refine .region ?_
 refine .v (mv rfl) rfl rfl rfl ?_
 refine .v (ln rfl tS22.is) rfl rfl rfl ?_
 refine .v (mv rfl) rfl rfl rfl ?_
 refine .nil ?_
 refine .seqN ?_
 refine .block ?_
 obtain ⟨I1, μ1, q112, q113⟩ := hF
 refine .loop' (σ := Int) (fun z => I1 z) (fun z => μ1 z) (fun z => [(0, .slice as1 s1.length cs1), (1, .slice as2 s2.length cs2), (9, .slice as1 s1.length cs1), (10, .int .i64 ((s1.length : Nat) : Int)), (11, .int .i64 z)]) (fun _ => []) (fun _ => h) 0 q112 (.cons rfl (.cons rfl (.cons rfl (.cons rfl (.cons rfl (.nil)))))) rfl (FH.le_refl _) ?_
 rintro t11 q112
 have hF := q113 t11 q112
 show J _ _ _ _ _ [(0, .slice as1 s1.length cs1), (1, .slice as2 s2.length cs2), (9, .slice as1 s1.length cs1), (10, .int .i64 ((s1.length : Nat) : Int)), (11, .int .i64 t11)] [] h
 refine .seq ?_
 refine .region ?_
 refine .v (bi rfl rfl rfl) rfl rfl rfl ?_
 refine .nil ?_
 refine .seqN ?_
 refine .seq ?_
 refine .cond rfl (fun q116 => ?_) (fun q116 => ?_)
 ·replace hF := hF.1 q116
  refine .skip ?_
  refine .seqN ?_
  refine .seq ?_
  refine .block ?_
  refine .seq ?_
  refine .region ?_
  refine .v (mv rfl) rfl rfl rfl ?_
  obtain ⟨q129, hF⟩ := hF
  refine .v (ix rfl rfl tS22 (_q1.ne (by decide) (inb_pos q129)) q129) rfl rfl rfl ?_
  refine .v (ld1 (v := .int .i64 (gt s1 t11)) rfl tO3 (cellH (_q1.elemF q129 (by decide) 0 _ rfl))) rfl rfl rfl ?_
  refine .v (asg rfl) rfl rfl rfl ?_
  refine .v (asg rfl) rfl rfl rfl ?_
  refine .nil ?_
  refine .seqN ?_
  refine .seq ?_
  refine .seq ?_
  refine .region ?_
  refine .v (mv rfl) rfl rfl rfl ?_
  refine .v (mv rfl) rfl rfl rfl ?_
  refine .v (ln rfl tS22.is) rfl rfl rfl ?_
  refine .v (bi rfl rfl rfl) rfl rfl rfl ?_
  refine .nil ?_
  refine .seqN ?_
  refine .cond rfl (fun q131 => ?_) (fun q131 => ?_)
  ·replace hF := hF.1 q131
   refine .seq ?_
   refine .region ?_
   refine .v (asg rfl) rfl rfl rfl ?_
   refine .nil ?_
   refine .seqN ?_
   refine .ret ?_
   refine .seqR ?_
   refine .blkR ?_
   refine .seqR ?_
   refine .seqR ?_
   refine .blkR ?_
   refine .seqR ?_
   refine .res1 rfl (rvT rfl) (fun w' S => ⟨1, hF, rfl, S.below⟩)
  replace hF := hF.2 q131
  refine .skip ?_
  refine .seqN ?_
  refine .seq ?_
  refine .region ?_
  refine .v (mv rfl) rfl rfl rfl ?_
  refine .v (mv rfl) rfl rfl rfl ?_
  obtain ⟨q132, hF⟩ := hF
  refine .v (ix rfl rfl tS22 (_q3.ne (by decide) (inb_pos q132)) q132) rfl rfl rfl ?_
  refine .v (ld1 (v := .int .i64 (gt s2 t11)) rfl tO3 (cellH (_q3.elemF q132 (by decide) 0 _ rfl))) rfl rfl rfl ?_
  refine .v (asg rfl) rfl rfl rfl ?_
  refine .nil ?_
  refine .seqN ?_
  refine .seq ?_
  refine .region ?_
  refine .v (mv rfl) rfl rfl rfl ?_
  refine .v (mv rfl) rfl rfl rfl ?_
  obtain ⟨r2, q133⟩ : ∃ y_ : Int, y_ = sp_compare (gt s1 t11) (gt s2 t11) := ⟨_, rfl⟩
  replace hF := hF r2 q133
  refine .c (cl (v := .int .i64 r2) Tryz.call111 rfl rfl (fun w S => (by rw [q133]; exact c_compare S.sub (gt s1 t11) (gt s2 t11) ))) rfl rfl rfl ?_
  refine .v (asg rfl) rfl rfl rfl ?_
  refine .nil ?_
  refine .seqN ?_
  refine .seq ?_
  refine .region ?_
  refine .v (mv rfl) rfl rfl rfl ?_
  refine .v (bi rfl rfl rfl) rfl rfl rfl ?_
  refine .nil ?_
  refine .seqN ?_
  refine .cond rfl (fun q134 => ?_) (fun q134 => ?_)
  ·replace hF := hF.1 q134
   refine .seq ?_
   refine .region ?_
   refine .v (mv rfl) rfl rfl rfl ?_
   refine .v (asg rfl) rfl rfl rfl ?_
   refine .nil ?_
   refine .seqN ?_
   refine .ret ?_
   refine .blkR ?_
   refine .seqR ?_
   refine .seqR ?_
   refine .blkR ?_
   refine .seqR ?_
   refine .res1 rfl (rvT rfl) (fun w' S => ⟨r2, hF, rfl, S.below⟩)
  replace hF := hF.2 q134
  refine .skip ?_
  refine .blkN ?_
  refine .seqN ?_
  refine .region ?_
  refine .v (bi rfl rfl rfl) rfl rfl rfl ?_
  refine .v (mv rfl) rfl rfl rfl ?_
  refine .nil ?_
  exact .round (IntKind.i64.wrap (t11 + 1)) hF.1 hF.2 (.cons rfl (.cons rfl (.cons rfl (.cons rfl (.cons rfl (.nil)))))) rfl (FH.le_refl _)
 replace hF := hF.2 q116
 refine .exit ?_
 refine .seqX ?_
 refine .seqX ?_
 refine .blkX ?_
 refine .seqN ?_
 refine .seq ?_
 refine .seq ?_
 refine .region ?_
 refine .v (mv rfl) rfl rfl rfl ?_
 refine .v (ln rfl tS22.is) rfl rfl rfl ?_
 refine .v (mv rfl) rfl rfl rfl ?_
 refine .v (ln rfl tS22.is) rfl rfl rfl ?_
 refine .v (bi rfl rfl rfl) rfl rfl rfl ?_
 refine .nil ?_
 refine .seqN ?_
 refine .cond rfl (fun q136 => ?_) (fun q136 => ?_)
 ·replace hF := hF.1 q136
  refine .seq ?_
  refine .region ?_
  refine .v (asg rfl) rfl rfl rfl ?_
  refine .nil ?_
  refine .seqN ?_
  refine .ret ?_
  refine .seqR ?_
  refine .res1 rfl (rvT rfl) (fun w' S => ⟨(-1), hF, rfl, S.below⟩)
 replace hF := hF.2 q136
 refine .skip ?_
 refine .seqN ?_
 refine .seq ?_
 refine .region ?_
 refine .v (asg rfl) rfl rfl rfl ?_
 refine .nil ?_
 refine .seqN ?_
 refine .ret ?_
 refine .res1 rfl (rvT rfl) (fun w' S => ⟨0, hF, rfl, S.below⟩)
theorem c_scompare {h : FH} {w : World} (hs : Sub h w) (s1 : List Int) (as1 : Option Addr) (cs1 : Nat) (_q1 : RSl h as1 s1) (_q2 : s1.length ≤ cs1) (s2 : List Int) (as2 : Option Addr) (cs2 : Nat) (_q3 : RSl h as2 s2) (_q4 : s2.length ≤ cs2) (hp : pre_scompare s1 s2) : Calls Tryz.prog 92 #[.slice as1 s1.length cs1, .slice as2 s2.length cs2] w fun e w' => e = .returned (.int .i64 (sp_scompare s1 s2)) ∧ Below w.heap.size w w' :=
 (w_scompare hs s1 as1 cs1 _q1 _q2 s2 as2 cs2 _q3 _q4 (fun r => r = sp_scompare s1 s2) (ok_scompare s1 s2 hp)).mono fun _ _ ⟨_, hk, he, hb⟩ => ⟨by rw [he, hk], hb⟩
end Go.Proofs.YtojoehfldbimpaaGreatDoor.Pl.Pd

namespace Go.Proofs
open Go.Shelf
def YtojoehfldbimpaaGreatDoor.laysSR_ren : Go.Shelf.Ren := ⟨fun | 6 => 107 | 15 => 119 | 14 => 120 | 28 => 134 | 29 => 135 | 20 => 136 | 21 => 137 | 22 => 138 | 23 => 139 | 24 => 140 | 25 => 141 | 26 => 142 | 27 => 143 | 46 => 155 | 47 => 151 | 48 => 152 | 49 => 156 | 50 => 157 | 57 => 163 | n => n, fun | 22 => 35 | 24 => 22 | 25 => 116 | 3 => 3 | 39 => 131 | 0 => 0 | 53 => 148 | 55 => 137 | 4 => 4 | 46 => 142 | 45 => 141 | 50 => 123 | 5 => 5 | 9 => 9 | 66 => 161 | 70 => 165 | 76 => 173 | 77 => 174 | n => n, fun | n => n⟩
theorem YtojoehfldbimpaaGreatDoor.laysSR : Go.Proofs.SlLaysF.n6 Tryz.prog YtojoehfldbimpaaGreatDoor.laysSR_ren := {
  mixed := by kernel_rfl
  f6 := ⟨Tryz.f107.name, by decide, Tryz.func107.trans (congrArg some (by kernel_rfl))⟩
  f14 := ⟨Tryz.f120.name, by decide, Tryz.func120.trans (congrArg some (by kernel_rfl))⟩
  f15 := Tryz.func119.trans (congrArg some (by kernel_rfl))
  f20 := ⟨Tryz.f136.name, by decide, Tryz.func136.trans (congrArg some (by kernel_rfl))⟩
  f21 := ⟨Tryz.f137.name, by decide, Tryz.func137.trans (congrArg some (by kernel_rfl))⟩
  f22 := ⟨Tryz.f138.name, by decide, Tryz.func138.trans (congrArg some (by kernel_rfl))⟩
  f23 := ⟨Tryz.f139.name, by decide, Tryz.func139.trans (congrArg some (by kernel_rfl))⟩
  f24 := ⟨Tryz.f140.name, by decide, Tryz.func140.trans (congrArg some (by kernel_rfl))⟩
  f25 := ⟨Tryz.f141.name, by decide, Tryz.func141.trans (congrArg some (by kernel_rfl))⟩
  f26 := ⟨Tryz.f142.name, by decide, Tryz.func142.trans (congrArg some (by kernel_rfl))⟩
  f27 := ⟨Tryz.f143.name, by decide, Tryz.func143.trans (congrArg some (by kernel_rfl))⟩
  f28 := Tryz.func134.trans (congrArg some (by kernel_rfl))
  f29 := Tryz.func135.trans (congrArg some (by kernel_rfl))
  f46 := ⟨Tryz.f155.name, by decide, Tryz.func155.trans (congrArg some (by kernel_rfl))⟩
  f47 := Tryz.func151.trans (congrArg some (by kernel_rfl))
  f48 := Tryz.func152.trans (congrArg some (by kernel_rfl))
  f49 := ⟨Tryz.f156.name, by decide, Tryz.func156.trans (congrArg some (by kernel_rfl))⟩
  f50 := ⟨Tryz.f157.name, by decide, Tryz.func157.trans (congrArg some (by kernel_rfl))⟩
  f57 := ⟨Tryz.f163.name, by decide, Tryz.func163.trans (congrArg some (by kernel_rfl))⟩
  t0 := Tryz.underlying0
  a0 := Tryz.isAgg0
  z0 := Tryz.sizeOf0
  v0 := Tryz.zeroValue0
  t3 := Tryz.underlying3
  a3 := Tryz.isAgg3
  z3 := Tryz.sizeOf3
  v3 := Tryz.zeroValue3
  t4 := Tryz.underlying4
  a4 := Tryz.isAgg4
  z4 := Tryz.sizeOf4
  v4 := Tryz.zeroValue4
  t5 := Tryz.underlying5
  a5 := Tryz.isAgg5
  z5 := Tryz.sizeOf5
  v5 := Tryz.zeroValue5
  t9 := Tryz.underlying9
  a9 := Tryz.isAgg9
  z9 := Tryz.sizeOf9
  v9 := Tryz.zeroValue9
  t22 := Tryz.underlying35
  a22 := Tryz.isAgg35
  z22 := Tryz.sizeOf35
  v22 := Tryz.zeroValue35
  a24 := Tryz.isAgg22
  z24 := Tryz.sizeOf22
  t25 := Tryz.underlying116
  a25 := Tryz.isAgg116
  z25 := Tryz.sizeOf116
  v25 := Tryz.zeroValue116
  t39 := Tryz.underlying131
  a39 := Tryz.isAgg131
  z39 := Tryz.sizeOf131
  v39 := Tryz.zeroValue131
  t45 := Tryz.underlying141
  a45 := Tryz.isAgg141
  z45 := Tryz.sizeOf141
  v45 := Tryz.zeroValue141
  t46 := Tryz.underlying142
  a46 := Tryz.isAgg142
  z46 := Tryz.sizeOf142
  v46 := Tryz.zeroValue142
  t50 := Tryz.underlying123
  a50 := Tryz.isAgg123
  z50 := Tryz.sizeOf123
  v50 := Tryz.zeroValue123
  t53 := Tryz.underlying148
  a53 := Tryz.isAgg148
  z53 := Tryz.sizeOf148
  v53 := Tryz.zeroValue148
  t55 := Tryz.underlying137
  a55 := Tryz.isAgg137
  z55 := Tryz.sizeOf137
  v55 := Tryz.zeroValue137
  t66 := Tryz.underlying161
  a66 := Tryz.isAgg161
  z66 := Tryz.sizeOf161
  v66 := Tryz.zeroValue161
  t70 := Tryz.underlying165
  a70 := Tryz.isAgg165
  z70 := Tryz.sizeOf165
  v70 := Tryz.zeroValue165
  t76 := Tryz.underlying173
  a76 := Tryz.isAgg173
  z76 := Tryz.sizeOf173
  v76 := Tryz.zeroValue173
  t77 := Tryz.underlying174
  a77 := Tryz.isAgg174
  z77 := Tryz.sizeOf174
  v77 := Tryz.zeroValue174 }
end Go.Proofs
namespace Go.Proofs.YtojoehfldbimpaaGreatDoor.Pl
open Go Go.RowKit Go.Sort
theorem grow_of_drawn {W w' : World} (hb : Pd.Below W.heap.size W w') : ∃ q os', w' = grow (W.drewN q) os' := by
 refine ⟨w'.drawn - W.drawn, w'.heap.extract W.heap.size w'.heap.size, ?_⟩
 have h1 : w'.heap = W.heap ++ w'.heap.extract W.heap.size w'.heap.size := by
  refine Array.ext_getElem? fun i => ?_
  rw [Array.getElem?_append]
  split
  ·rename_i h; exact hb.block i h
  ·rename_i h
   rw [Array.getElem?_extract]
   split
   ·congr 1; omega
   ·exact Array.getElem?_eq_none (by omega)
 have h2 : w'.drawn = W.drawn + (w'.drawn - W.drawn) := by have h0 : W.drawn ≤ w'.drawn := hb.drawn; omega
 have h3 := hb.os
 have h4 := hb.tape
 have h5 := hb.output
 generalize w'.heap.extract W.heap.size w'.heap.size = os at h1
 generalize w'.drawn - W.drawn = q at h2
 cases w'
 simp only at h1 h2 h3 h4 h5
 subst h1; subst h2; subst h3; subst h4; subst h5
 rfl
theorem putG {w : World} {h : FH} {b c m sz q : Nat} {cur : Array Value} {e : TypeId} {ds : List Value} {os : Array Obj} (hs : Sub h w) (sg : Sub (FH.one b (.cells cur e (0, 0))) w) (hd : Disj h (FH.one b (.cells cur e (0, 0)))) (hmax : c ≤ maxLen) (hsz : cur.size = c * sz) (hds : ds.length = m * sz) (hm : m ≤ c) :
  SH (Kp.ex w h (FH.one b (.cells cur e (0, 0)))) h (grow (putRow id (Sort.ahead w q) b 0 ds.toArray) os) [OwnSl e sz (some ⟨b, 0, none⟩) m c ds] := by
 have hb : w.heap[b]? = some (.cells cur e (0, 0)) := sg b _ (FH.one_self _ _)
 have hlt : b < w.heap.size := sg.lt (FH.one_self _ _)
 have hheap : ∀ i, i < w.heap.size → (grow (putRow id (Sort.ahead w q) b 0 ds.toArray) os).heap[i]? = if b = i then some (.cells (putCells id 0 ds.toArray cur) e (0, 0)) else w.heap[i]? := fun i hi => by
  show ((w.heap.modify b (onCells (putCells id 0 ds.toArray))) ++ os)[i]? = _
  rw [Array.getElem?_append_left (by rw [Array.size_modify]; exact hi), Array.getElem?_modify]
  by_cases q : b = i
  ·subst q
   rw [if_pos rfl, if_pos rfl, hb]; rfl
  ·rw [if_neg q, if_neg q]
 have hsize : w.heap.size ≤ (grow (putRow id (Sort.ahead w q) b 0 ds.toArray) os).heap.size := by
  show w.heap.size ≤ ((w.heap.modify b (onCells (putCells id 0 ds.toArray))) ++ os).size
  rw [Array.size_append, Array.size_modify]; omega
 have hone : ∀ i, FH.one b (.cells cur e (0, 0)) i = none → b ≠ i := fun i g q => by
  subst q
  rw [FH.one_self] at g; cases g
 have hnb : ∀ i, h i ≠ none → b ≠ i := fun i hi => hone i ((hd i).resolve_left hi)
 refine ⟨⟨rfl, rfl, rfl, hsize, fun i hi => ?_, (by unfold dr; first | exact Nat.le_add_right _ _ | exact Nat.le_refl _)⟩, fun i o ho => ?_, fun i hi => .inl hi, [FH.one b (.cells (putCells id 0 ds.toArray cur) e (0, 0))], rfl, ?_, ?_, ?_⟩
 ·rw [hheap i hi.1, if_neg (hone i hi.2)]; rfl
 ·rw [hheap i (hs.lt ho), if_neg (hnb i (by rw [ho]; simp))]; exact hs i o ho
 ·intro i g X hi hX
  cases i with
  | succ i => simp at hi
  | zero =>
   simp at hi hX
   subst hi; subst hX
   have hle : m * sz ≤ c * sz := Nat.mul_le_mul_right sz hm
   refine ⟨hds, .inr ⟨b, _, rfl, rfl, hm, hmax, by simp [putCells, hsz], ?_⟩⟩
   refine List.ext_getElem? fun k => ?_
   rw [List.getElem?_take]
   by_cases g : k < m * sz
   ·have g2 : k < ds.length := by omega
    have g3 : k < cur.size := by omega
    rw [if_pos g, Array.getElem?_toList]
    simp [putCells, g2, g3]
   ·rw [if_neg g, List.getElem?_eq_none (by omega)]
 ·intro i g hi
  cases i with
  | succ i => simp at hi
  | zero =>
   simp at hi
   subst hi
   refine ⟨fun j => ?_, Sub.one ?_, fun j hj hk => ?_⟩
   ·by_cases g : h j = none
    ·exact .inl g
    ·exact .inr (by unfold FH.one; rw [if_neg (fun e => hnb j g e.symm)])
   ·rw [hheap b hlt, if_pos rfl]
   ·exact hone j hk.2 (FH.one_ne hj).symm
 ·intro i j g g' hij hi hj
  cases i with
  | succ i => simp at hi
  | zero => cases j with
   | zero => exact absurd rfl hij
   | succ j => simp at hj
theorem ownHoldsG {w : World} {b m : Nat} {cur : Array Value} {e : TypeId} {ds : List Value} (hb : w.heap[b]? = some (.cells cur e (0, 0))) (hl : ds.length = m) (ht : cur.toList.take m = ds) : Go.Sort.Holds id w b 0 ds.toArray := fun j hj => by
 have hj' : j < ds.length := by simpa using hj
 refine ⟨?_, ?_⟩
 ·unfold World.cell?
  rw [hb]
  show (if (none : Option _).isSome = true then none else cur[0 + j]?) = _
  have h1 := congrArg (fun l => l[j]?) ht
  simp only [List.getElem?_take, show j < m by omega, if_true] at h1
  rw [Array.getElem?_toList, List.getElem?_eq_getElem hj'] at h1
  rw [Nat.zero_add]
  simp [h1, hj']
 ·unfold World.frozen?
  rw [hb]
  simp
abbrev RowA (h : FH) := {p : List Int × Value // Rep.rep h p.1 [p.2] ∧ p.1.length ≤ 1000}
instance (h : FH) : Inhabited (RowA h) := ⟨⟨([], .slice none 0 0), ⟨none, 0, rfl, Nat.le_refl 0, RSl.nil_⟩, by simp⟩⟩
def encA {h : FH} (p : RowA h) : Value := p.1.2
def cfA {h : FH} (p q : RowA h) : Int := sp_scompare p.1.1 q.1.1
theorem rows_of {h : FH} : ∀ (l : Bel) (cs : List Value), RepL h l cs → (∀ x ∈ l, x.length ≤ 1000) → ∃ ds : List (RowA h), ds.map (·.1.1) = l ∧ ds.map encA = cs
 | [], cs, r, _ => ⟨[], rfl, (show cs = [] from r).symm⟩
 | x :: l, cs, ⟨c, r, e, h1, h2⟩, hx => by
  obtain ⟨ds, d1, d2⟩ := rows_of l r h2 fun y hy => hx y (List.mem_cons_of_mem _ hy)
  have hl := Rep.len h1
  match c, hl with
  | [v], _ => exact ⟨⟨(x, v), h1, hx x List.mem_cons_self⟩ :: ds, by rw [List.map_cons, d1], by rw [List.map_cons, d2, e]; rfl⟩
theorem rep_rows {h : FH} : ∀ ds : List (RowA h), RepL h (ds.map (·.1.1)) (ds.map encA)
 | [] => rfl
 | p :: ds => ⟨[p.1.2], ds.map encA, rfl, p.2.1, rep_rows ds⟩
theorem ltA {h : FH} (p q : RowA h) : ltOf cfA p q = sp_before p.1.1 q.1.1 := by
 unfold ltOf cfA
 rw [Bool.eq_iff_iff, decide_eq_true_eq]
 exact (scompare_before _ _).1
theorem swoA {h : FH} : SWO (ltOf (cfA (h := h))) := ⟨fun x => by rw [ltA]; exact before_irr _, fun x y z h1 h2 => by
 rw [ltA] at *; exact before_trans _ _ _ h1 h2, fun x y z h1 h2 => by
 rw [ltA] at *; exact nle_trans (y := y.1.1) h2 h1⟩
theorem putRow_map {α : Type} [Inhabited α] (enc : α → Value) (w : World) (b : Nat) (d : Array α) : putRow enc w b 0 d = putRow id w b 0 (d.map enc) := by
 unfold putRow
 congr 1
 funext c
 unfold putCells
 apply Array.ext
 ·simp
 ·intro i h1 h2
  simp only [Array.getElem_mapIdx, Array.size_map, id]
  split
  ·rename_i hi
   have hlt : i - 0 < d.size := by omega
   rw [getElem!_pos d _ hlt, getElem!_pos (d.map enc) _ (by simpa using hlt), Array.getElem_map]
  ·rfl
theorem holds_map {α : Type} [Inhabited α] (enc : α → Value) {w : World} {b : Nat} {d : Array α} (h : Go.Sort.Holds id w b 0 (d.map enc)) : Go.Sort.Holds enc w b 0 d := fun j hj => by
 have := h j (by simpa using hj)
 rwa [getElem!_pos (d.map enc) j (by simpa using hj), Array.getElem_map, ← getElem!_pos d j hj] at this
theorem c_sortR {h : FH} {w : World} (hs : Sub h w) (x : List (List Int)) (a : Option Addr) (c : Nat) {cs : List Value} (rep : RepL h x cs) {gX : FH} (ownX : OwnSl 22 1 a x.length c cs gX) (subX : Sub gX w) (disX : Disj h gX) (hp : pre_sortR x) :
  Calls Tryz.prog 107 #[.slice a x.length c, .func (.func 92) #[] #[]] w fun e w' => e = .returned (.tuple #[]) ∧ SH (Kp.ex w h gX) h w' [OwnPX h 22 1 a c (sp_sortR x)] := by
 have own0 := ownX
 obtain ⟨h1, ⟨rfl, h2, rfl, rfl⟩ | ⟨b, cur, rfl, rfl, h4, h5, h6, h7⟩⟩ := ownX
 ·have e : x = [] := List.length_eq_zero_iff.1 h2
  subst e
  refine (AnyF.slices_SortFunc_none { YtojoehfldbimpaaGreatDoor.laysSR with } none 0 _ w).mono fun e w' ⟨he, hw⟩ => ⟨he, ?_⟩
  subst hw
  rw [show sp_sortR [] = [] by simp [sp_sortR]]
  exact SH.startX (X := OwnPX h 22 1 none 0 ([] : Bel)) hs subX disX ⟨cs, rep, own0⟩
 ·obtain ⟨ds, d1, d2⟩ := rows_of x cs rep hp.2
  have hdl : ds.length = x.length := by rw [← d1, List.length_map]
  have hb := subX b _ (FH.one_self _ _)
  have hlt := subX.lt (FH.one_self _ _)
  have hnb : ∀ i, h i ≠ none → b ≠ i := fun i hi q => by
   subst q
   rcases disX b with g | g
   ·exact hi g
   ·rw [FH.one_self] at g; cases g
  have hcmp : CmpLays1 Tryz.prog 92 #[] (encA (h := h)) cfA b 0 ds.toArray.size w := fun m os dk _ u v => by
   have hsW : Sub h (sortWorld encA w b 0 m dk os) := fun i o ho => by
    have hi := hs.lt ho
    show ((w.heap.modify b (onCells (putCells encA 0 dk))) ++ os)[i]? = _
    rw [Array.getElem?_append_left (by rw [Array.size_modify]; exact hi), Array.getElem?_modify, if_neg (hnb i (by rw [ho]; simp))]
    exact hs i o ho
   obtain ⟨⟨u1, u2⟩, ⟨ua, uc, ue, ul, ur⟩, un⟩ := u
   obtain ⟨⟨v1, v2⟩, ⟨va, vc, ve, vl, vr⟩, vn⟩ := v
   simp only [List.cons.injEq, and_true] at ue ve
   subst ue; subst ve
   exact (Pd.c_scompare hsW u1 ua uc ur ul v1 va vc vr vl ⟨un, vn⟩).mono fun e w' ⟨he, hb⟩ => ⟨he, grow_of_drawn hb⟩
  have hH : Go.Sort.Holds encA w b 0 ds.toArray := holds_map encA (by
   rw [List.map_toArray, d2]
   exact ownHoldsG hb h1 h7)
  have hsz : ds.toArray.size = x.length := by simpa using hdl
  have key := Any.slices_SortFunc YtojoehfldbimpaaGreatDoor.laysSR (encA (h := h)) (fun p => by
   obtain ⟨⟨p1, p2⟩, ⟨pa, pc, pe, _⟩, _⟩ := p
   simp only [List.cons.injEq, and_true] at pe
   subst pe; rfl) cfA swoA 92 #[] b 0 c ds.toArray w Tryz.call92 hcmp hH hlt (by rw [hsz]; have := hp.1; omega)
  rw [hsz] at key
  refine key.mono fun e w' ⟨he, d', n, os, hp', hs', hw⟩ => ⟨he, ?_⟩
  subst hw
  obtain ⟨p1, _, p3⟩ := hp'
  have hx1 : d'.extract 0 x.length = d' := by rw [← hsz, ← p1]; exact Array.extract_size
  have hx2 : ds.toArray.extract 0 x.length = ds.toArray := by rw [← hsz]; exact Array.extract_size
  rw [hx1, hx2] at p3
  have hsort : sp_sortR x = d'.toList.map (·.1.1) := by
   refine sorted_perm _ _ (sortR_sorted x) ?_ ?_
   ·rw [List.pairwise_map, List.pairwise_iff_getElem]
    intro i j hi hj hij
    have hsz' : d'.size = x.length := by rw [p1, hsz]
    have hj' : j < d'.size := by simpa using hj
    have := hs' i j (Nat.zero_le _) hij (by omega)
    rw [ltA, getElem!_pos d' j hj', getElem!_pos d' i (by omega)] at this
    exact this
   ·refine (sortR_perm x).trans ?_
    have := (p3.map (fun p : RowA h => p.1.1)).symm
    rw [List.toList_toArray, d1] at this
    exact this
  have hrep := rep_rows d'.toList
  rw [← hsort] at hrep
  have hlen : (d'.toList.map (encA (h := h))).length = x.length * 1 := by
   rw [List.length_map, Array.length_toList, p1, hsz, Nat.mul_one]
  have big := putG (q := n) (os := os) (ds := d'.toList.map (encA (h := h))) (m := x.length) (sz := 1) hs subX disX h5 h6 hlen h4
  have hlen2 := sortR_len x
  unfold sortWorld
  rw [putRow_map]
  have e5 : d'.map (encA (h := h)) = (d'.toList.map encA).toArray := by
   apply Array.toList_inj.1; simp
  rw [e5]
  exact big.weaken (k := 0) (X := OwnSl 22 1 (some ⟨b, 0, none⟩) x.length c (d'.toList.map encA)) (Y := OwnPX h 22 1 (some ⟨b, 0, none⟩) c (sp_sortR x)) rfl fun g hx => ⟨_, hrep, by rw [hlen2]; exact hx⟩
end Go.Proofs.YtojoehfldbimpaaGreatDoor.Pl

namespace Go.Proofs.YtojoehfldbimpaaGreatDoor.Pl
open Go Go.RowKit
theorem w_compactR {h : FH} {w : World} (hs : Sub h w) (s_ : List (List Int)) (as_ : Option Addr) (cs_ : Nat) {cs : List Value} (q1 : RepL h s_ cs) {gX : FH} (ownX : OwnSl 22 1 as_ s_.length cs_ cs gX) (subX : Sub gX w) (disX : Disj h gX) (K : (List (List Int)) → Prop) (hF : F_compactR s_ K) : Calls Tryz.prog 108 #[.slice as_ s_.length cs_, .func (.func 109) #[] #[]] w fun e w' => ∃ r : List (List Int), K r ∧ e = .returned (.slice as_ r.length cs_) ∧ SH (Kp.ex w h gX) h w' [OwnPX h 22 1 as_ cs_ r] := by
 refine enterX (X := OwnSl 22 1 as_ s_.length cs_ cs) (args := [vSl as_ s_ cs_, .func (.func 109) #[] #[]]) Tryz.func108 rfl Tryz.ntmps108 rfl hs subX disX ownX ?_
 refine .seq (.region (.V ag0 ?_))
 refine .nil (.seqN (.seq (.seq (.region (.V mv0 ?_)))))
 refine .V (ln rfl tS35.is) ?_
 refine .V bi0 ?_
 refine .nil (.seqN ?_)
 refine .cond rfl (fun q3 => ?_) (fun q3 => ?_)
 ·replace hF := hF.1 q3
  refine .seq (.region (.V mv0 ?_))
  refine .V ag0 ?_
  refine .nil (.seqN (.ret (.seqR ?_)))
  refine .res1 rfl (rvT rfl) (fun w' S => ⟨s_, hF, rfl, S.wholeP (k := 0) rfl q1 rfl⟩)
 replace hF := hF.2 q3
 refine .skip (.seqN (.seq (.seq (.region (.V ag0 ?_)))))
 refine .nil (.seqN (.block ?_))
 obtain ⟨I1, μ1, q4021, q4022⟩ := hF
 refine .loop' (σ := Int) (fun z => I1 z) (fun z => μ1 z) (fun z => [(0, vSl as_ s_ cs_), (1, .func (.func 109) #[] #[]), (5, iV z)]) (fun _ => [OwnSl 22 1 as_ s_.length cs_ cs]) (fun _ => h) 1 q4021 sb rfl (FH.le_refl _) ?_
 rintro k q4021
 have hF := q4022 k q4021
 show J _ _ _ _ _ [(0, vSl as_ s_ cs_), (1, .func (.func 109) #[] #[]), (5, iV k)] [OwnSl 22 1 as_ s_.length cs_ cs] h
 refine .seq (.seq (.region (.V mv0 ?_)))
 refine .V mv0 ?_
 refine .V (ln rfl tS35.is) ?_
 refine .V bi0 ?_
 refine .nil (.seqN ?_)
 refine .cond rfl (fun q4024 => ?_) (fun q4024 => ?_)
 ·replace hF := hF.1 q4024
  refine .skip (.seqN (.seq (.block (.seq ?_))))
  refine .open_ (by kernel_rfl) (by kernel_rfl) ?_
  refine .V mv0 ?_
  refine .V mv0 ?_
  refine .V mv0 ?_
  obtain ⟨q4559, hF⟩ := hF
  refine .V (ixS rfl rfl tS35 (k := 0) rfl q4559) ?_
  obtain ⟨_, ⟨a, c, rfl, q4560, q4561⟩, q4562⟩ := RepL.get q1 (gt_get q4559)
  refine .V (ld1 (v := .slice a ((gt s_ k).length) c) rfl tO22 (cellS (k := 0) rfl (q4562 0 _ rfl))) ?_
  refine .V mv0 ?_
  refine .V mv0 ?_
  refine .V bi0 ?_
  obtain ⟨q4563, hF⟩ := hF
  refine .V (ixS rfl rfl tS35 (k := 0) rfl q4563) ?_
  obtain ⟨_, ⟨a2, c2, rfl, q4564, q4565⟩, q4566⟩ := RepL.get q1 (gt_get q4563)
  refine .V (ld1 (v := .slice a2 ((gt s_ (wr (k - 1))).length) c2) rfl tO22 (cellS (k := 0) rfl (q4566 0 _ rfl))) ?_
  obtain ⟨q4567, hF⟩ := hF
  obtain ⟨r2, q4568⟩ : ∃ y_ : Bool, y_ = sp_sequal (gt s_ k) (gt s_ (wr (k - 1))) := ⟨_, rfl⟩
  replace hF := hF r2 q4568
  refine .C (cl (v := .bool r2) Tryz.call109 rfl rfl (fun w S => (by rw [q4568]; exact c_sequal S.sub (gt s_ k) a c q4561 q4560 (gt s_ (wr (k - 1))) a2 c2 q4565 q4564 q4567))) ?_
  refine .fin ?_
  refine .seqN ?_
  refine .cond rfl (fun q4569 => ?_) (fun q4569 => ?_)
  ·replace hF := hF.1 q4569
   refine .seq ?_
   refine .fact (fun w S => look_len S (k := 0) rfl) (fun q4570 => ?_)
   refine .region (.V mv0 ?_)
   refine .V mv0 ?_
   obtain ⟨q4571, hF⟩ := hF
   refine .V (slL tS35 rfl rfl q4571.1 rfl (Int.toNat_le.2 q4571.2)) ?_
   refine .V ag0 ?_
   refine .nil (.seqN (.seq (.seq (.region (.V ag0 ?_)))))
   refine .nil (.seqN (.block ?_))
   obtain ⟨I2, μ2, q4781, q4782⟩ := hF
   refine .loop' (σ := Int × Int × List (List Int) × List Value) (fun z => I2 z.1 z.2.1 z.2.2.1 ∧ RepL h z.2.2.1 z.2.2.2 ∧ z.2.2.1.length = s_.length) (fun z => μ2 z.1 z.2.1 z.2.2.1) (fun z => [(0, vSl as_ s_ cs_), (1, .func (.func 109) #[] #[]), (5, iV z.1), (6, .slice (sla as_ cs_ (k).toNat 1) (s_.length - (k).toNat) (cs_ - (k).toNat)), (7, iV z.2.1)]) (fun z => [OwnSl 22 1 as_ s_.length cs_ z.2.2.2]) (fun _ => h) (k, 1, s_, cs) ⟨q4781, q1, rfl⟩ sb rfl (FH.le_refl _) ?_
   rintro ⟨k3, k22, s_2, css⟩ ⟨q4781, q4738, q4739⟩
   have hF := q4782 k3 k22 s_2 q4781
   show J _ _ _ _ _ [(0, vSl as_ s_ cs_), (1, .func (.func 109) #[] #[]), (5, iV k3), (6, .slice (sla as_ cs_ (k).toNat 1) (s_.length - (k).toNat) (cs_ - (k).toNat)), (7, iV k22)] [OwnSl 22 1 as_ s_.length cs_ css] h
   refine .seq (.seq (.region (.V mv0 ?_)))
   refine .V mv0 ?_
   refine .V (ln rfl tS35.is) ?_
   refine .V bi0 ?_
   refine .nil (.seqN ?_)
   refine .cond rfl (fun q4784 => ?_) (fun q4784 => ?_)
   ·replace hF := hF.1 q4784
    refine .skip (.seqN ?_)
    refine .share (σ := Int × List (List Int) × List Value) (fun z => F_compactR_J1 s_2 k3 k22 I2 μ2 z.2.1 z.1 ∧ RepL h z.2.1 z.2.2 ∧ z.2.1.length = s_.length) (fun z => [(0, vSl as_ s_ cs_), (1, .func (.func 109) #[] #[]), (5, iV z.1), (6, .slice (sla as_ cs_ (k).toNat 1) (s_.length - (k).toNat) (cs_ - (k).toNat)), (7, iV k22)]) (fun z => [OwnSl 22 1 as_ s_.length cs_ z.2.2]) (fun _ => h) ?_ (fun q4804 => ?_)
    ·rintro ⟨k5, s_4, css3⟩ ⟨hF, q4802, q4803⟩
     show J _ _ _ _ _ [(0, vSl as_ s_ cs_), (1, .func (.func 109) #[] #[]), (5, iV k5), (6, .slice (sla as_ cs_ (k).toNat 1) (s_.length - (k).toNat) (cs_ - (k).toNat)), (7, iV k22)] [OwnSl 22 1 as_ s_.length cs_ css3] h
     refine .region (.V mv0 ?_)
     refine .V bi0 ?_
     refine .V ag0 ?_
     refine .nil ?_
     exact .RO (k5, wr (k22 + 1), s_4, css3) ⟨hF.1, q4802, q4803⟩ hF.2
    refine .block (.seq ?_)
    refine .open_ (by kernel_rfl) (by kernel_rfl) ?_
    refine .V mv0 ?_
    refine .V mv0 ?_
    refine .V mv0 ?_
    obtain ⟨q4805, q4806, hF⟩ := hF
    refine .V (ixV rfl rfl tS35 (k := 0) rfl q4805 (inb_n q4806 q4739)) ?_
    obtain ⟨_, ⟨a3, c3, rfl, q4807, q4808⟩, q4809⟩ := RepL.get q4738 (gt_get q4806)
    refine .V (ld1 (v := .slice a3 ((gt s_2 ((((k).toNat : Nat) : Int) + k22)).length) c3) rfl tO22 (cellS (k := 0) rfl (q4809 0 _ rfl))) ?_
    refine .V mv0 ?_
    refine .V mv0 ?_
    refine .V bi0 ?_
    obtain ⟨q4810, q4811, hF⟩ := hF
    refine .V (ixV rfl rfl tS35 (k := 0) rfl q4810 (inb_n q4811 q4739)) ?_
    obtain ⟨_, ⟨a4, c4, rfl, q4812, q4813⟩, q4814⟩ := RepL.get q4738 (gt_get q4811)
    refine .V (ld1 (v := .slice a4 ((gt s_2 ((((k).toNat : Nat) : Int) + (wr (k22 - 1)))).length) c4) rfl tO22 (cellS (k := 0) rfl (q4814 0 _ rfl))) ?_
    obtain ⟨q4815, hF⟩ := hF
    obtain ⟨r3, q4816⟩ : ∃ y_ : Bool, y_ = sp_sequal (gt s_2 ((((k).toNat : Nat) : Int) + k22)) (gt s_2 ((((k).toNat : Nat) : Int) + (wr (k22 - 1)))) := ⟨_, rfl⟩
    replace hF := hF r3 q4816
    refine .C (cl (v := .bool r3) Tryz.call109 rfl rfl (fun w S => (by rw [q4816]; exact c_sequal S.sub (gt s_2 ((((k).toNat : Nat) : Int) + k22)) a3 c3 q4808 q4807 (gt s_2 ((((k).toNat : Nat) : Int) + (wr (k22 - 1)))) a4 c4 q4813 q4812 q4815))) ?_
    refine .V (nt rfl) ?_
    refine .fin ?_
    refine .seqN ?_
    refine .cond rfl (fun q4817 => ?_) (fun q4817 => ?_)
    ·replace hF := hF.1 q4817
     refine .seq (.region (.V mv0 ?_))
     refine .V mv0 ?_
     refine .V mv0 ?_
     refine .V mv0 ?_
     refine .V (ixV rfl rfl tS35 (k := 0) rfl q4805 (inb_n q4806 q4739)) ?_
     refine .V (ld1 (v := .slice a3 ((gt s_2 ((((k).toNat : Nat) : Int) + k22)).length) c3) rfl tO22 (cellS (k := 0) rfl (q4809 0 _ rfl))) ?_
     obtain ⟨q4818, hF⟩ := hF
     refine .V (ixS rfl rfl tS35 (k := 0) rfl (inb_n q4818 q4739)) ?_
     obtain ⟨d, q4819⟩ : ∃ y_ : List (List Int), y_ = (s_2.set (k3).toNat (gt s_2 ((((k).toNat : Nat) : Int) + k22))) := ⟨_, rfl⟩
     replace hF := hF d q4819
     have q4821 : d.length = s_.length := by rw [q4819]; exact List.length_set.trans q4739
     have q4820 : RepL h d (wrL css ((k3).toNat * 1) [.slice a3 ((gt s_2 ((((k).toNat : Nat) : Int) + k22)).length) c3]) := by rw [q4819]; exact RepL.set q4738 (inb_lt q4818) ⟨a3, c3, rfl, q4807, q4808⟩
     refine stS (k := 0) (cs' := (wrL css ((k3).toNat * 1) [.slice a3 ((gt s_2 ((((k).toNat : Nat) : Int) + k22)).length) c3])) rfl (fun _ => rfl) rfl rfl (fun w => (tO22 w).2) rfl rfl rfl (by rw [← q4739]; exact inb_pos q4818) (rep_room q4738 q4818) rfl ?_
     refine .KA [OwnSl 22 1 as_ s_.length cs_ (wrL css ((k3).toNat * 1) [.slice a3 ((gt s_2 ((((k).toNat : Nat) : Int) + k22)).length) c3])] ?_
     refine .nil (.seqN (.region (.V mv0 ?_)))
     refine .V bi0 ?_
     refine .V ag0 ?_
     refine .nil (.blkN ?_)
     exact .US q4804 (wr (k3 + 1), d, (wrL css ((k3).toNat * 1) [.slice a3 ((gt s_2 ((((k).toNat : Nat) : Int) + k22)).length) c3])) ⟨hF, q4820, q4821⟩
    replace hF := hF.2 q4817
    refine .skip (.blkN ?_)
    exact .US q4804 (k3, s_2, css) ⟨hF, q4738, q4739⟩
   replace hF := hF.2 q4784
   refine .exit (.seqX (.seqX (.blkX (.seqN (.seq ?_)))))
   refine .fact (fun w S => look_len S (k := 0) rfl) (fun q4822 => ?_)
   refine .region (.V mv0 ?_)
   refine .V mv0 ?_
   obtain ⟨q4823, hF⟩ := hF
   refine .V (slL tS35 rfl rfl q4823.1 rfl (Int.toNat_le.2 q4823.2)) ?_
   have q4824 : RepL h (s_2.take (k3).toNat ++ List.replicate (s_.length - (k3).toNat) []) (css.take (k3).toNat ++ List.replicate (s_.length - (k3).toNat) (.slice none 0 0)) := RepL.append (by have := RepL.take_ q4738 (k3).toNat; rwa [show Rep.sz (List Int) = 1 from rfl, Nat.mul_one] at this) (rep_nils _)
   have q4825 : (s_2.take (k3).toNat ++ List.replicate (s_.length - (k3).toNat) []).length = s_.length := take_rep q4739 (Int.toNat_le.2 q4823.2)
   refine clS (k := 0) (lo := (k3).toNat) tS35 rfl rfl rfl rfl rfl (Int.toNat_le.2 q4823.2) rfl ?_
   refine .KA [OwnSl 22 1 as_ s_.length cs_ (css.take (k3).toNat ++ List.replicate (s_.length - (k3).toNat) (.slice none 0 0))] ?_
   refine .nil (.seqN (.seq (.region (.V mv0 ?_))))
   refine .V mv0 ?_
   refine .V (slH tS35 rfl rfl q4823.1 rfl (Nat.le_trans (Int.toNat_le.2 q4823.2) q4822)) ?_
   refine .V ag0 ?_
   refine .nil (.seqN (.ret (.blkR (.seqR (.seqR (.blkR (.seqR ?_)))))))
   refine .res1 rfl (rvT rfl) (fun w' S => ⟨((s_2.take (k3).toNat ++ List.replicate (s_.length - (k3).toNat) []).take ((k3).toNat)), hF, (by rw [len_take (q4825) (Int.toNat_le.2 q4823.2)]), S.prefixP (k := 0) rfl q4824 q4825 (Int.toNat_le.2 q4823.2)⟩)
  replace hF := hF.2 q4569
  refine .skip (.blkN (.seqN (.region (.V mv0 ?_))))
  refine .V bi0 ?_
  refine .V ag0 ?_
  refine .nil ?_
  exact .RO (wr (k + 1)) hF.1 hF.2
 replace hF := hF.2 q4024
 refine .exit (.seqX (.seqX (.blkX (.seqN (.seq (.region (.V mv0 ?_)))))))
 refine .V ag0 ?_
 refine .nil (.seqN (.ret ?_))
 refine .res1 rfl (rvT rfl) (fun w' S => ⟨s_, hF, rfl, S.wholeP (k := 0) rfl q1 rfl⟩)
theorem c_compactR {h : FH} {w : World} (hs : Sub h w) (s_ : List (List Int)) (as_ : Option Addr) (cs_ : Nat) {cs : List Value} (q1 : RepL h s_ cs) {gX : FH} (ownX : OwnSl 22 1 as_ s_.length cs_ cs gX) (subX : Sub gX w) (disX : Disj h gX) (hp : pre_compactR s_) : Calls Tryz.prog 108 #[.slice as_ s_.length cs_, .func (.func 109) #[] #[]] w fun e w' => e = .returned (.slice as_ (sp_compactR s_).length cs_) ∧ SH (Kp.ex w h gX) h w' [OwnPX h 22 1 as_ cs_ (sp_compactR s_)] :=
 (w_compactR hs s_ as_ cs_ q1 ownX subX disX  (fun r => r = sp_compactR s_) (ok_compactR s_ hp)).mono fun _ _ ⟨r, hk, he, hS⟩ => ⟨by rw [← hk]; exact he, by rw [← hk]; exact hS⟩
theorem w_normal {h : FH} {w : World} (hs : Sub h w) (l : List (List Int)) (al2 : Option Addr) (cl2 : Nat) {cs : List Value} (q1 : RepL h l cs) {gX : FH} (ownX : OwnSl 22 1 al2 l.length cl2 cs gX) (subX : Sub gX w) (disX : Disj h gX) (K : (List (List Int)) → Prop) (hF : F_normal l K) : Calls Tryz.prog 84 #[.slice al2 l.length cl2] w fun e w' => ∃ r : List (List Int), K r ∧ e = .returned (.slice al2 r.length cl2) ∧ SH (Kp.ex w h gX) h w' [OwnPX h 22 1 al2 cl2 r] := by
 refine enterX (X := OwnSl 22 1 al2 l.length cl2 cs) (args := [vSl al2 l cl2]) Tryz.func84 rfl Tryz.ntmps84 rfl hs subX disX ownX ?_
 refine .seq (.region (.V ag0 ?_))
 refine .nil (.seqN (.seq (.region (.V mv0 ?_))))
 obtain ⟨q2, hF⟩ := hF
 obtain ⟨r2, q3⟩ : ∃ y_ : List (List Int), y_ = sp_sortR l := ⟨_, rfl⟩
 replace hF := hF r2 q3
 refine callX (k := 0) (v := .tuple #[]) (X' := OwnPX h 22 1 al2 cl2 r2) rfl Tryz.call107 rfl rfl (fun w g hx sg hd hs' => ?_) rfl ?_
 ·rw [q3]; exact c_sortR hs' l al2 cl2 q1 (own_n (rfl).symm hx) sg hd q2
 have q5 : r2.length = l.length := by rw [q3]; exact (sortR_len l).trans rfl
 refine .openPn (k := 0) rfl q5 (fun cs2 q4 => ?_)
 refine .KA [OwnSl 22 1 al2 l.length cl2 cs2] ?_
 refine .nil (.seqN (.seq (.region (.V mv0 ?_))))
 obtain ⟨q6, hF⟩ := hF
 obtain ⟨r3, q7⟩ : ∃ y_ : List (List Int), y_ = sp_compactR r2 := ⟨_, rfl⟩
 replace hF := hF r3 q7
 refine callX (k := 0) (v := vSl al2 r3 cl2) (X' := OwnPX h 22 1 al2 cl2 r3) rfl Tryz.call108 rfl rfl (fun w g hx sg hd hs' => ?_) rfl ?_
 ·rw [q7]; have hc_ := c_compactR hs' r2 al2 cl2 q4 (own_n (q5).symm hx) sg hd q6; rw [q5] at hc_; exact hc_
 refine .openP (k := 0) rfl (fun cs3 q8 => ?_)
 refine .KA [OwnSl 22 1 al2 r3.length cl2 cs3] ?_
 refine .V ag0 ?_
 refine .nil (.seqN (.ret ?_))
 refine .res1 rfl (rvT rfl) (fun w' S => ⟨r3, hF, rfl, S.wholeP (k := 0) rfl q8 rfl⟩)
theorem c_normal {h : FH} {w : World} (hs : Sub h w) (l : List (List Int)) (al2 : Option Addr) (cl2 : Nat) {cs : List Value} (q1 : RepL h l cs) {gX : FH} (ownX : OwnSl 22 1 al2 l.length cl2 cs gX) (subX : Sub gX w) (disX : Disj h gX) (hp : pre_normal l) : Calls Tryz.prog 84 #[.slice al2 l.length cl2] w fun e w' => e = .returned (.slice al2 (sp_normal l).length cl2) ∧ SH (Kp.ex w h gX) h w' [OwnPX h 22 1 al2 cl2 (sp_normal l)] :=
 (w_normal hs l al2 cl2 q1 ownX subX disX (fun r => r = sp_normal l) (ok_normal l hp)).mono fun _ _ ⟨r, hk, he, hS⟩ => ⟨by rw [← hk]; exact he, by rw [← hk]; exact hS⟩
set_option maxHeartbeats 8000000 in
theorem w_worlds {h : FH} {w : World} (hs : Sub h w) (t : Task) (at_ : Option Addr) (ct : Nat) (_q1 : RSl h at_ t.init) (_q2 : t.init.length ≤ ct) (at_2 : Option Addr) (ct2 : Nat) (_q3 : RSl h at_2 t.goal) (_q4 : t.goal.length ≤ ct2) (at_3 : Option Addr) (ct3 : Nat) (_q5 : RSl h at_3 t.ops) (_q6 : t.ops.length ≤ ct3) (unknown : List Int) (aunknown : Option Addr) (cunknown : Nat) (_q7 : RSl h aunknown unknown) (_q8 : unknown.length ≤ cunknown) (K : (List (List Int)) → Prop) (hF : F_worlds t unknown K) : Calls Tryz.prog 48 #[.agg #[iV t.facts, .slice at_ t.init.length ct, .slice at_2 t.goal.length ct2, .slice at_3 t.ops.length ct3], .slice aunknown unknown.length cunknown] w fun e w' => ∃ (r : List (List Int)) (z : Option Addr × Nat) (h1 : FH), K r ∧ e = .returned (.slice z.1 r.length z.2) ∧ FH.le h h1 ∧ (RSl h1 z.1 r ∧ r.length ≤ z.2) ∧ SH (Kp.all w h) h1 w' [] := by
 refine enter (args := [.agg (tF t at_ ct at_2 ct2 at_3 ct3).toArray, vSl aunknown unknown cunknown]) Tryz.func48 rfl Tryz.ntmps48 rfl hs ?_
 refine .seq (.region ?_)
 refine bx (vs := (tF t at_ ct at_2 ct2 at_3 ct3)) rfl rfl rfl (fun pt => ?_)
 refine .V ag0 ?_
 refine .nil (.seqN (.seq (.region (.V ag0 ?_))))
 refine .nil (.seqN (.seq (.seq (.region (.V mv0 ?_)))))
 refine .V (ln rfl tS22.is) ?_
 obtain ⟨q9, hF⟩ := hF
 obtain ⟨x, q10⟩ : ∃ y_ : Int, y_ = (wr (1 * 2 ^ (min ((((unknown.length : Nat) : Int) : Int)).toNat (IntKind.bits .i64)))) := ⟨_, rfl⟩
 replace hF := hF x q10
 refine .v (v := iV x) (by rw [q10]; exact bsh rfl rfl q9 rfl) rfl rfl rfl ?_
 refine .V mv0 ?_
 refine .nil (.seqN (.block ?_))
 refine .nilSl 22 1 ?_
 refine .KA [OwnSl 22 1 none (([] : List (List Int)).length) 0 [], Box pt (tF t at_ ct at_2 ct2 at_3 ct3)] ?_
 refine .sel0 [1, 0] (by decide) rfl ?_
 obtain ⟨I1, μ1, q1784, q1785⟩ := hF
 refine .loop' (σ := Int × List (List Int) × Option Addr × Nat × List Value × FH) (fun z => I1 z.1 z.2.1 ∧ RepL z.2.2.2.2.2 z.2.1 z.2.2.2.2.1 ∧ FH.le h z.2.2.2.2.2) (fun z => μ1 z.1 z.2.1) (fun z => [(1, vSl aunknown unknown cunknown), (2, .pointer (some pt)), (5, vSl z.2.2.1 z.2.1 z.2.2.2.1), (12, iV x), (13, iV z.1)]) (fun z => [Box pt (tF t at_ ct at_2 ct2 at_3 ct3), OwnSl 22 1 z.2.2.1 z.2.1.length z.2.2.2.1 z.2.2.2.2.1]) (fun z => z.2.2.2.2.2) (0, ([] : List (List Int)), none, 0, [], h) ⟨q1784, (show RepL h ([] : List (List Int)) [] from rfl), (FH.le_refl _)⟩ sb rfl (FH.le_refl _) ?_
 rintro ⟨t13, out, aout, cout, csout, h19⟩ ⟨q1784, q1429, q1430⟩
 have hF := q1785 t13 out q1784
 show J _ _ _ _ _ [(1, vSl aunknown unknown cunknown), (2, .pointer (some pt)), (5, vSl aout out cout), (12, iV x), (13, iV t13)] [Box pt (tF t at_ ct at_2 ct2 at_3 ct3), OwnSl 22 1 aout out.length cout csout] h19
 refine .seq (.region (.V bi0 ?_))
 refine .nil (.seqN (.seq ?_))
 refine .cond rfl (fun q1788 => ?_) (fun q1788 => ?_)
 ·replace hF := hF.1 q1788
  refine .skip (.seqN (.seq (.block (.seq (.region (.V mv0 ?_))))))
  refine .V ag0 ?_
  refine .nil (.seqN (.seq (.region (.V ag0 ?_))))
  refine .nil (.seqN (.seq (.seq (.region (.V mv0 ?_)))))
  refine .V (ln rfl tS22.is) ?_
  refine .V mv0 ?_
  refine .nil (.seqN (.block ?_))
  refine .nilSl 3 1 ?_
  refine .KA [oL 3 1 none ([] : List Int) 0, Box pt (tF t at_ ct at_2 ct2 at_3 ct3), OwnSl 22 1 aout out.length cout csout] ?_
  refine .sel0 [1, 2, 0] (by decide) rfl ?_
  obtain ⟨I2, μ2, q2109, q2110⟩ := hF
  refine .loop' (σ := Int × List Int × Option Addr × Nat) (fun z => I2 z.1 z.2.1) (fun z => μ2 z.1 z.2.1) (fun z => [(1, vSl aunknown unknown cunknown), (2, .pointer (some pt)), (5, vSl aout out cout), (6, iV t13), (7, vSl z.2.2.1 z.2.1 z.2.2.2), (12, iV x), (13, iV t13), (16, vSl aunknown unknown cunknown), (17, iV ((unknown.length : Nat) : Int)), (18, iV z.1)]) (fun z => [Box pt (tF t at_ ct at_2 ct2 at_3 ct3), OwnSl 22 1 aout out.length cout csout, oL 3 1 z.2.2.1 z.2.1 z.2.2.2]) (fun _ => h19) (0, ([] : List Int), none, 0) q2109 sb rfl (FH.le_refl _) ?_
  rintro ⟨t18, add, aadd, cadd⟩ q2109
  have hF := q2110 t18 add q2109
  show J _ _ _ _ _ [(1, vSl aunknown unknown cunknown), (2, .pointer (some pt)), (5, vSl aout out cout), (6, iV t13), (7, vSl aadd add cadd), (12, iV x), (13, iV t13), (16, vSl aunknown unknown cunknown), (17, iV ((unknown.length : Nat) : Int)), (18, iV t18)] [Box pt (tF t at_ ct at_2 ct2 at_3 ct3), OwnSl 22 1 aout out.length cout csout, oL 3 1 aadd add cadd] h19
  refine .seq (.region (.V bi0 ?_))
  refine .nil (.seqN (.seq ?_))
  refine .cond rfl (fun q2113 => ?_) (fun q2113 => ?_)
  ·replace hF := hF.1 q2113
   refine .skip (.seqN ?_)
   refine .share (σ := List Int × Option Addr × Nat) (fun z => F_worlds_J1 add t18 I2 μ2 z.1) (fun z => [(1, vSl aunknown unknown cunknown), (2, .pointer (some pt)), (5, vSl aout out cout), (6, iV t13), (7, vSl z.2.1 z.1 z.2.2), (12, iV x), (13, iV t13), (16, vSl aunknown unknown cunknown), (17, iV ((unknown.length : Nat) : Int)), (18, iV t18)]) (fun z => [Box pt (tF t at_ ct at_2 ct2 at_3 ct3), OwnSl 22 1 aout out.length cout csout, oL 3 1 z.2.1 z.1 z.2.2]) (fun _ => h19) ?_ (fun q2121 => ?_)
   ·rintro ⟨add3, aadd3, cadd3⟩ hF
    show J _ _ _ _ _ [(1, vSl aunknown unknown cunknown), (2, .pointer (some pt)), (5, vSl aout out cout), (6, iV t13), (7, vSl aadd3 add3 cadd3), (12, iV x), (13, iV t13), (16, vSl aunknown unknown cunknown), (17, iV ((unknown.length : Nat) : Int)), (18, iV t18)] [Box pt (tF t at_ ct at_2 ct2 at_3 ct3), OwnSl 22 1 aout out.length cout csout, oL 3 1 aadd3 add3 cadd3] h19
    refine .region (.V bi0 ?_)
    refine .V mv0 ?_
    refine .nil ?_
    exact .RO (wr (t18 + 1), add3, aadd3, cadd3) hF.1 hF.2
   refine .block (.seq (.region (.V mv0 ?_)))
   obtain ⟨q2122, hF⟩ := hF
   refine .V (ix rfl rfl tS22 (_q7.ne (by decide) (inb_pos q2122)) q2122) ?_
   refine .V (ld1 (v := iV (gt unknown t18)) rfl tO3 (cellH ((_q7.mono (q1430)).elemF q2122 (by decide) 0 _ rfl))) ?_
   refine .V ag0 ?_
   refine .V ag0 ?_
   refine .nil (.seqN (.seq (.region (.V mv0 ?_))))
   refine .V mv0 ?_
   obtain ⟨q2123, hF⟩ := hF
   refine .V (bsh rfl rfl q2123 rfl) ?_
   obtain ⟨x2, q2124⟩ : ∃ y_ : Int, y_ = (bits .and .i64 (Int.fdiv t13 (2 ^ (min ((t18 : Int)).toNat (IntKind.bits .i64)))) 1) := ⟨_, rfl⟩
   replace hF := hF x2 q2124
   refine .v (v := iV x2) (by rw [q2124]; exact bi rfl rfl rfl) rfl rfl rfl ?_
   refine .V bi0 ?_
   refine .nil (.seqN ?_)
   refine .cond rfl (fun q2125 => ?_) (fun q2125 => ?_)
   ·replace hF := hF.1 q2125
    refine .region (.V mv0 ?_)
    refine .V mv0 ?_
    refine bs2 (cs := #[iV (gt unknown t18)]) (pv := [(0, iV (gt unknown t18))]) tS22 rfl rfl (by decide) (by decide) rfl rfl rfl (fun a _ => ?_)
    refine .KA [oL 3 1 a ([(gt unknown t18)] : List Int) 1, Box pt (tF t at_ ct at_2 ct2 at_3 ct3), OwnSl 22 1 aout out.length cout csout, oL 3 1 aadd add cadd] ?_
    obtain ⟨q2127, hF⟩ := hF
    have q2128 : add.length + ([(gt unknown t18)] : List Int).length = ((add ++ ([(gt unknown t18)] : List Int))).length := len_app rfl rfl
    refine app (k := 3) (news := flL ([(gt unknown t18)] : List Int)) (cs' := flL (add ++ ([(gt unknown t18)] : List Int))) (nm := ((add ++ ([(gt unknown t18)] : List Int))).length) tS22 rfl (by decide) rfl rfl rfl (by rw [flL_len]; rfl) (srcS (k := 0) rfl) (flL_one _) (room_of q2128 q2127).1 (room_of q2128 q2127).2 q2128 (flL_append _ _).symm rfl (fun a2 c => ?_)
    refine .KA [oL 3 1 a ([(gt unknown t18)] : List Int) 1, Box pt (tF t at_ ct at_2 ct2 at_3 ct3), OwnSl 22 1 aout out.length cout csout, oL 3 1 a2 (add ++ ([(gt unknown t18)] : List Int)) c] ?_
    refine .V ag0 ?_
    refine .nil (.blkN ?_)
    refine .sel0 [1, 2, 3] (by decide) rfl ?_
    exact .US q2121 ((add ++ ([(gt unknown t18)] : List Int)), a2, c) hF
   replace hF := hF.2 q2125
   refine .skip (.blkN ?_)
   exact .US q2121 (add, aadd, cadd) hF
  replace hF := hF.2 q2113
  refine .exit (.seqX (.seqX (.blkX (.seqN (.region (.V mv0 ?_))))))
  refine .V (fa rfl tF25_1) ?_
  refine .V (ld1 rfl tO22 (cellB (off := 1) (k := 0) rfl rfl)) ?_
  refine .V mv0 ?_
  refine .V mv0 ?_
  obtain ⟨q2129, hF⟩ := hF
  obtain ⟨r2, q2130⟩ : ∃ y_ : List Int, y_ = sp_update t.init add unknown := ⟨_, rfl⟩
  replace hF := hF r2 q2130
  refine clO (α := Option Addr × Nat) (V := fun z => vSl z.1 r2 z.2) (Ψ := fun z => True) (B := fun z => [oL 3 1 z.1 r2 z.2]) Tryz.call83 rfl rfl (fun w S => (by rw [q2130]; obtain ⟨h_, hl_, hs_, hne_, hr_⟩ := look S (k := 2) rfl; exact (c_update hs_ t.init at_ ct (RSl.mono hl_ (_q1.mono (q1430))) _q2 add aadd cadd (RSl.of hr_) (look_len S (k := 2) rfl) unknown aunknown cunknown (RSl.mono hl_ (_q7.mono (q1430))) _q8 q2129).mono fun _ _ ⟨z, h0, h1, e1, e2, e3, e4⟩ => ⟨z, h0, h1, e1, e2, FH.le_trans hl_ e3, e4⟩)) rfl (fun z _ => ?_)
  obtain ⟨a3, c2⟩ := z
  refine .KA [oL 3 1 a3 r2 c2, Box pt (tF t at_ ct at_2 ct2 at_3 ct3), OwnSl 22 1 aout out.length cout csout, oL 3 1 aadd add cadd] ?_
  refine .freezeL (k := 0) rfl (fun h26 le26 q2132 q2131 => ?_)
  refine .KA [tru, Box pt (tF t at_ ct at_2 ct2 at_3 ct3), OwnSl 22 1 aout out.length cout csout, oL 3 1 aadd add cadd] ?_
  refine bs2 (cs := #[vSl a3 r2 c2]) (pv := [(0, vSl a3 r2 c2)]) tS35 rfl rfl (by decide) (by decide) rfl rfl rfl (fun a4 _ => ?_)
  refine .KA [OwnSl 22 1 a4 (([r2] : List (List Int)).length) 1 [vSl a3 r2 c2], tru, Box pt (tF t at_ ct at_2 ct2 at_3 ct3), OwnSl 22 1 aout out.length cout csout, oL 3 1 aadd add cadd] ?_
  obtain ⟨q2134, hF⟩ := hF
  have q2135 : out.length + ([r2] : List (List Int)).length = ((out ++ ([r2] : List (List Int)))).length := len_app rfl rfl
  have q2136 := RepL.append (RepL.mono (le26) q1429) (show RepL h26 ([r2] : List (List Int)) [.slice a3 r2.length c2] from ⟨[.slice a3 r2.length c2], _, rfl, ⟨a3, c2, rfl, (q2132), (RSl.of q2131)⟩, rfl⟩)
  refine app (k := 3) (news := [vSl a3 r2 c2]) (cs' := (csout ++ [vSl a3 r2 c2])) (nm := ((out ++ ([r2] : List (List Int)))).length) tS35 rfl (by decide) rfl rfl rfl (RepL.len (show RepL h26 ([r2] : List (List Int)) [vSl a3 r2 c2] from ⟨[vSl a3 r2 c2], _, rfl, ⟨a3, c2, rfl, (q2132), (RSl.of q2131)⟩, rfl⟩)) (srcS (k := 0) rfl) (RepL.one (show RepL h26 ([r2] : List (List Int)) [vSl a3 r2 c2] from ⟨[vSl a3 r2 c2], _, rfl, ⟨a3, c2, rfl, (q2132), (RSl.of q2131)⟩, rfl⟩)) (room_of q2135 q2134).1 (room_of q2135 q2134).2 q2135 rfl rfl (fun a5 c3 => ?_)
  refine .KA [OwnSl 22 1 a4 (([r2] : List (List Int)).length) 1 [vSl a3 r2 c2], tru, Box pt (tF t at_ ct at_2 ct2 at_3 ct3), OwnSl 22 1 a5 ((out ++ ([r2] : List (List Int))).length) c3 (csout ++ [vSl a3 r2 c2]), oL 3 1 aadd add cadd] ?_
  refine .V ag0 ?_
  refine .nil (.blkN (.seqN (.region (.V bi0 ?_))))
  refine .V mv0 ?_
  refine .nil ?_
  refine .sel0 [2, 3] (by decide) rfl ?_
  exact .RO (wr (t13 + 1), (out ++ ([r2] : List (List Int))), a5, c3, (csout ++ [vSl a3 r2 c2]), h26) ⟨hF.1, q2136, (FH.le_trans (q1430) (le26))⟩ hF.2
 replace hF := hF.2 q1788
 refine .exit (.seqX (.seqX (.blkX (.seqN (.seq (.region (.V mv0 ?_)))))))
 obtain ⟨q2137, hF⟩ := hF
 obtain ⟨r3, q2138⟩ : ∃ y_ : List (List Int), y_ = sp_normal out := ⟨_, rfl⟩
 replace hF := hF r3 q2138
 refine callX (k := 1) (v := vSl aout r3 cout) (X' := OwnPX h19 22 1 aout cout r3) rfl Tryz.call84 rfl rfl (fun w g hx sg hd hs' => ?_) rfl ?_
 ·rw [q2138]; exact c_normal hs' out aout cout q1429 (own_n (rfl).symm hx) sg hd q2137
 refine .openP (k := 1) rfl (fun cs q2139 => ?_)
 refine .KA [Box pt (tF t at_ ct at_2 ct2 at_3 ct3), OwnSl 22 1 aout r3.length cout cs] ?_
 refine .V ag0 ?_
 refine .nil (.seqN ?_)
 refine .freezeL (k := 1) rfl (fun h27 le27 q2141 q2140 => ?_)
 refine .KA [Box pt (tF t at_ ct at_2 ct2 at_3 ct3), tru] ?_
 refine .ret ?_
 refine .res1 rfl (rvT rfl) (fun w' S => ⟨r3, (aout, cout), h27, hF, rfl, (FH.le_trans (q1430) (le27)), ⟨(show RSl h27 aout r3 from ⟨_, q2139.mono (le27), q2140⟩), (q2141)⟩, S.none⟩)
theorem c_worlds {h : FH} {w : World} (hs : Sub h w) (t : Task) (at_ : Option Addr) (ct : Nat) (_q1 : RSl h at_ t.init) (_q2 : t.init.length ≤ ct) (at_2 : Option Addr) (ct2 : Nat) (_q3 : RSl h at_2 t.goal) (_q4 : t.goal.length ≤ ct2) (at_3 : Option Addr) (ct3 : Nat) (_q5 : RSl h at_3 t.ops) (_q6 : t.ops.length ≤ ct3) (unknown : List Int) (aunknown : Option Addr) (cunknown : Nat) (_q7 : RSl h aunknown unknown) (_q8 : unknown.length ≤ cunknown) (hp : pre_worlds t unknown) : Calls Tryz.prog 48 #[.agg #[iV t.facts, .slice at_ t.init.length ct, .slice at_2 t.goal.length ct2, .slice at_3 t.ops.length ct3], .slice aunknown unknown.length cunknown] w fun e w' => ∃ (z : Option Addr × Nat) (h1 : FH), e = .returned (.slice z.1 (sp_worlds t unknown).length z.2) ∧ FH.le h h1 ∧ (RSl h1 z.1 (sp_worlds t unknown) ∧ (sp_worlds t unknown).length ≤ z.2) ∧ SH (Kp.all w h) h1 w' [] :=
 (w_worlds hs t at_ ct _q1 _q2 at_2 ct2 _q3 _q4 at_3 ct3 _q5 _q6 unknown aunknown cunknown _q7 _q8 (fun r => r = sp_worlds t unknown) (ok_worlds t unknown hp)).mono fun _ _ ⟨r, z, h1, hk, he, hl, hf, hS⟩ => by subst hk; exact ⟨z, h1, he, hl, hf, hS⟩
theorem w_bafter {h : FH} {w : World} (hs : Sub h w) (t : Task) (at_ : Option Addr) (ct : Nat) (_q1 : RSl h at_ t.init) (_q2 : t.init.length ≤ ct) (at_2 : Option Addr) (ct2 : Nat) (_q3 : RSl h at_2 t.goal) (_q4 : t.goal.length ≤ ct2) (at_3 : Option Addr) (ct3 : Nat) (_q5 : RSl h at_3 t.ops) (_q6 : t.ops.length ≤ ct3) (worlds : List (List Int)) (aworlds : Option Addr) (cworlds : Nat) (_q7 : RSl h aworlds worlds) (_q8 : worlds.length ≤ cworlds) (op : Int) (K : (List (List Int)) → Prop) (hF : F_bafter t worlds op K) : Calls Tryz.prog 60 #[.agg #[iV t.facts, .slice at_ t.init.length ct, .slice at_2 t.goal.length ct2, .slice at_3 t.ops.length ct3], .slice aworlds worlds.length cworlds, iV op] w fun e w' => ∃ (r : List (List Int)) (z : Option Addr × Nat) (h1 : FH), K r ∧ e = .returned (.slice z.1 r.length z.2) ∧ FH.le h h1 ∧ (RSl h1 z.1 r ∧ r.length ≤ z.2) ∧ SH (Kp.all w h) h1 w' [] := by
 refine enter (args := [.agg (tF t at_ ct at_2 ct2 at_3 ct3).toArray, vSl aworlds worlds cworlds, iV op]) Tryz.func60 rfl Tryz.ntmps60 rfl hs ?_
 refine .seq (.region ?_)
 refine bx (vs := (tF t at_ ct at_2 ct2 at_3 ct3)) rfl rfl rfl (fun pt => ?_)
 refine .V ag0 ?_
 refine .nil (.seqN (.seq (.region (.V ag0 ?_))))
 refine .nil (.seqN (.seq (.seq (.region (.V mv0 ?_)))))
 refine .V (ln rfl tS35.is) ?_
 refine .V mv0 ?_
 refine .nil (.seqN (.block ?_))
 refine .nilSl 22 1 ?_
 refine .KA [OwnSl 22 1 none (([] : List (List Int)).length) 0 [], Box pt (tF t at_ ct at_2 ct2 at_3 ct3)] ?_
 refine .sel0 [1, 0] (by decide) rfl ?_
 obtain ⟨I1, μ1, q222, q223⟩ := hF
 refine .loop' (σ := Int × List (List Int) × Option Addr × Nat × List Value × FH) (fun z => I1 z.1 z.2.1 ∧ RepL z.2.2.2.2.2 z.2.1 z.2.2.2.2.1 ∧ FH.le h z.2.2.2.2.2) (fun z => μ1 z.1 z.2.1) (fun z => [(2, iV op), (3, .pointer (some pt)), (7, vSl z.2.2.1 z.2.1 z.2.2.2.1), (10, vSl aworlds worlds cworlds), (11, iV ((worlds.length : Nat) : Int)), (12, iV z.1)]) (fun z => [Box pt (tF t at_ ct at_2 ct2 at_3 ct3), OwnSl 22 1 z.2.2.1 z.2.1.length z.2.2.2.1 z.2.2.2.2.1]) (fun z => z.2.2.2.2.2) (0, ([] : List (List Int)), none, 0, [], h) ⟨q222, (show RepL h ([] : List (List Int)) [] from rfl), (FH.le_refl _)⟩ sb rfl (FH.le_refl _) ?_
 rintro ⟨t12, out, aout, cout, csout, h19⟩ ⟨q222, q179, q180⟩
 have hF := q223 t12 out q222
 show J _ _ _ _ _ [(2, iV op), (3, .pointer (some pt)), (7, vSl aout out cout), (10, vSl aworlds worlds cworlds), (11, iV ((worlds.length : Nat) : Int)), (12, iV t12)] [Box pt (tF t at_ ct at_2 ct2 at_3 ct3), OwnSl 22 1 aout out.length cout csout] h19
 refine .seq (.region (.V bi0 ?_))
 refine .nil (.seqN (.seq ?_))
 refine .cond rfl (fun q226 => ?_) (fun q226 => ?_)
 ·replace hF := hF.1 q226
  refine .skip (.seqN (.seq (.block (.seq (.region ?_)))))
  obtain ⟨q251, hF⟩ := hF
  refine .V (ix rfl rfl tS35 (_q7.ne (by decide) (inb_pos q251)) q251) ?_
  obtain ⟨_, ⟨a, c, rfl, q252, q253⟩, q254⟩ := _q7.elem q251
  refine .V (ld1 (v := .slice a ((gt worlds t12).length) c) rfl tO22 (cellH ((fun q => (q254 q).mono (q180)) (by decide) 0 _ rfl))) ?_
  refine .V ag0 ?_
  refine .nil (.seqN (.region (.V mv0 ?_)))
  refine .V (ldA (cs := (tF t at_ ct at_2 ct2 at_3 ct3)) rfl tA25 rfl (cellsB (off := 0) (k := 0) rfl (m := 4) rfl)) ?_
  refine .V mv0 ?_
  refine .V mv0 ?_
  obtain ⟨q255, hF⟩ := hF
  obtain ⟨r2, q256⟩ : ∃ y_ : List Int, y_ = sp_after t (gt worlds t12) op := ⟨_, rfl⟩
  replace hF := hF r2 q256
  refine clR (α := Option Addr × Nat) (Φ := fun h1 z => RSl h1 z.1 r2 ∧ r2.length ≤ z.2) (V := fun z => vSl z.1 r2 z.2) Tryz.call93 rfl rfl (fun w S => (by rw [q256]; exact c_next S.sub t at_ ct (_q1.mono (q180)) _q2 at_2 ct2 (_q3.mono (q180)) _q4 at_3 ct3 (_q5.mono (q180)) _q6 (gt worlds t12) a c (q253.mono (q180)) q252 op q255)) rfl (fun z h26 le26 hz => ?_)
  obtain ⟨a2, c2⟩ := z
  obtain ⟨q257, q258⟩ := hz
  refine bs2 (cs := #[vSl a2 r2 c2]) (pv := [(0, vSl a2 r2 c2)]) tS35 rfl rfl (by decide) (by decide) rfl rfl rfl (fun a3 _ => ?_)
  refine .KA [OwnSl 22 1 a3 (([r2] : List (List Int)).length) 1 [vSl a2 r2 c2], Box pt (tF t at_ ct at_2 ct2 at_3 ct3), OwnSl 22 1 aout out.length cout csout] ?_
  obtain ⟨q260, hF⟩ := hF
  have q261 : out.length + ([r2] : List (List Int)).length = ((out ++ ([r2] : List (List Int)))).length := len_app rfl rfl
  have q262 := RepL.append (RepL.mono (le26) q179) (show RepL h26 ([r2] : List (List Int)) [.slice a2 r2.length c2] from ⟨[.slice a2 r2.length c2], _, rfl, ⟨a2, c2, rfl, q258, q257⟩, rfl⟩)
  refine app (k := 2) (news := [vSl a2 r2 c2]) (cs' := (csout ++ [vSl a2 r2 c2])) (nm := ((out ++ ([r2] : List (List Int)))).length) tS35 rfl (by decide) rfl rfl rfl (RepL.len (show RepL h26 ([r2] : List (List Int)) [vSl a2 r2 c2] from ⟨[vSl a2 r2 c2], _, rfl, ⟨a2, c2, rfl, q258, q257⟩, rfl⟩)) (srcS (k := 0) rfl) (RepL.one (show RepL h26 ([r2] : List (List Int)) [vSl a2 r2 c2] from ⟨[vSl a2 r2 c2], _, rfl, ⟨a2, c2, rfl, q258, q257⟩, rfl⟩)) (room_of q261 q260).1 (room_of q261 q260).2 q261 rfl rfl (fun a4 c3 => ?_)
  refine .KA [OwnSl 22 1 a3 (([r2] : List (List Int)).length) 1 [vSl a2 r2 c2], Box pt (tF t at_ ct at_2 ct2 at_3 ct3), OwnSl 22 1 a4 ((out ++ ([r2] : List (List Int))).length) c3 (csout ++ [vSl a2 r2 c2])] ?_
  refine .V ag0 ?_
  refine .nil (.blkN (.seqN (.region (.V bi0 ?_))))
  refine .V mv0 ?_
  refine .nil ?_
  refine .sel0 [1, 2] (by decide) rfl ?_
  exact .RO (wr (t12 + 1), (out ++ ([r2] : List (List Int))), a4, c3, (csout ++ [vSl a2 r2 c2]), h26) ⟨hF.1, q262, (FH.le_trans (q180) (le26))⟩ hF.2
 replace hF := hF.2 q226
 refine .exit (.seqX (.seqX (.blkX (.seqN (.seq (.region (.V mv0 ?_)))))))
 obtain ⟨q263, hF⟩ := hF
 obtain ⟨r3, q264⟩ : ∃ y_ : List (List Int), y_ = sp_normal out := ⟨_, rfl⟩
 replace hF := hF r3 q264
 refine callX (k := 1) (v := vSl aout r3 cout) (X' := OwnPX h19 22 1 aout cout r3) rfl Tryz.call84 rfl rfl (fun w g hx sg hd hs' => ?_) rfl ?_
 ·rw [q264]; exact c_normal hs' out aout cout q179 (own_n (rfl).symm hx) sg hd q263
 refine .openP (k := 1) rfl (fun cs q265 => ?_)
 refine .KA [Box pt (tF t at_ ct at_2 ct2 at_3 ct3), OwnSl 22 1 aout r3.length cout cs] ?_
 refine .V ag0 ?_
 refine .nil (.seqN ?_)
 refine .freezeL (k := 1) rfl (fun h27 le27 q267 q266 => ?_)
 refine .KA [Box pt (tF t at_ ct at_2 ct2 at_3 ct3), tru] ?_
 refine .ret ?_
 refine .res1 rfl (rvT rfl) (fun w' S => ⟨r3, (aout, cout), h27, hF, rfl, (FH.le_trans (q180) (le27)), ⟨(show RSl h27 aout r3 from ⟨_, q265.mono (le27), q266⟩), (q267)⟩, S.none⟩)
theorem c_bafter {h : FH} {w : World} (hs : Sub h w) (t : Task) (at_ : Option Addr) (ct : Nat) (_q1 : RSl h at_ t.init) (_q2 : t.init.length ≤ ct) (at_2 : Option Addr) (ct2 : Nat) (_q3 : RSl h at_2 t.goal) (_q4 : t.goal.length ≤ ct2) (at_3 : Option Addr) (ct3 : Nat) (_q5 : RSl h at_3 t.ops) (_q6 : t.ops.length ≤ ct3) (worlds : List (List Int)) (aworlds : Option Addr) (cworlds : Nat) (_q7 : RSl h aworlds worlds) (_q8 : worlds.length ≤ cworlds) (op : Int) (hp : pre_bafter t worlds op) : Calls Tryz.prog 60 #[.agg #[iV t.facts, .slice at_ t.init.length ct, .slice at_2 t.goal.length ct2, .slice at_3 t.ops.length ct3], .slice aworlds worlds.length cworlds, iV op] w fun e w' => ∃ (z : Option Addr × Nat) (h1 : FH), e = .returned (.slice z.1 (sp_bafter t worlds op).length z.2) ∧ FH.le h h1 ∧ (RSl h1 z.1 (sp_bafter t worlds op) ∧ (sp_bafter t worlds op).length ≤ z.2) ∧ SH (Kp.all w h) h1 w' [] :=
 (w_bafter hs t at_ ct _q1 _q2 at_2 ct2 _q3 _q4 at_3 ct3 _q5 _q6 worlds aworlds cworlds _q7 _q8 op (fun r => r = sp_bafter t worlds op) (ok_bafter t worlds op hp)).mono fun _ _ ⟨r, z, h1, hk, he, hl, hf, hS⟩ => by subst hk; exact ⟨z, h1, he, hl, hf, hS⟩
theorem w_rUnknownFault {h : FH} {w : World} (hs : Sub h w) (t : Task) (at_ : Option Addr) (ct : Nat) (_q1 : RSl h at_ t.init) (_q2 : t.init.length ≤ ct) (at_2 : Option Addr) (ct2 : Nat) (_q3 : RSl h at_2 t.goal) (_q4 : t.goal.length ≤ ct2) (at_3 : Option Addr) (ct3 : Nat) (_q5 : RSl h at_3 t.ops) (_q6 : t.ops.length ≤ ct3) (unknown : List Int) (aunknown : Option Addr) (cunknown : Nat) (_q7 : RSl h aunknown unknown) (_q8 : unknown.length ≤ cunknown) (K : Fault → Prop) (hF : F_rUnknownFault t unknown K) : Calls Tryz.prog 13 #[.agg #[iV t.facts, .slice at_ t.init.length ct, .slice at_2 t.goal.length ct2, .slice at_3 t.ops.length ct3], .slice aunknown unknown.length cunknown] w fun e w' => ∃ r : Fault, K r ∧ e = .returned (.agg #[iV r.code, iV r.index]) ∧ Below w.heap.size w w' := by
 refine enter (args := [.agg (tF t at_ ct at_2 ct2 at_3 ct3).toArray, vSl aunknown unknown cunknown]) Tryz.func13 rfl Tryz.ntmps13 rfl hs ?_
 refine .seq (.region ?_)
 refine bx (vs := (tF t at_ ct at_2 ct2 at_3 ct3)) rfl rfl rfl (fun pt => ?_)
 refine al tZ27 rfl (fun pv => ?_)
 refine .nil (.seqN (.seq (.region (.V (ldA (cs := (tF t at_ ct at_2 ct2 at_3 ct3)) rfl tA25 rfl (cellsB (off := 0) (k := 1) rfl (m := 4) rfl)) ?_))))
 obtain ⟨r2, q9⟩ : ∃ y_ : Fault, y_ = sp_validate t := ⟨_, rfl⟩
 replace hF := hF r2 q9
 refine .C (cl (v := .agg #[iV r2.code, iV r2.index]) Tryz.call53 rfl rfl (fun w S => (by rw [q9]; exact c_taskFault S.sub t at_ ct _q1 _q2 at_2 ct2 _q3 _q4 at_3 ct3 _q5 _q6 ))) ?_
 refine al tZ27 rfl (fun pf => ?_)
 refine st (p := pf) (off := 0) (k := 0) (vs := [iV r2.code, iV r2.index]) rfl rfl rfl (fun w => (tA27 w).2) rfl rfl rfl rfl ?_
 refine .KA [Box pf [iV r2.code, iV r2.index], Box pv [iV 0, iV 0], Box pt (tF t at_ ct at_2 ct2 at_3 ct3)] ?_
 refine .nil (.seqN (.seq ?_))
 refine .share (σ := Bool) (fun z => F_rUnknownFault_J1 t unknown K r2 z) (fun z => [(1, vSl aunknown unknown cunknown), (2, .pointer (some pt)), (4, .pointer (some pv)), (5, .pointer (some pf)), (15, .bool z)]) (fun _ => [Box pt (tF t at_ ct at_2 ct2 at_3 ct3), Box pv [iV 0, iV 0], Box pf [iV r2.code, iV r2.index]]) (fun _ => h) ?_ (fun q11 => ?_)
 ·rintro t15 hF
  show J _ _ _ _ _ [(1, vSl aunknown unknown cunknown), (2, .pointer (some pt)), (4, .pointer (some pv)), (5, .pointer (some pf)), (15, .bool t15)] [Box pt (tF t at_ ct at_2 ct2 at_3 ct3), Box pv [iV 0, iV 0], Box pf [iV r2.code, iV r2.index]] h
  refine .shareT (σ := Int × Int) (fun z => F_rUnknownFault_J2 t unknown K z.1 z.2) (fun _ => [(1, vSl aunknown unknown cunknown), (2, .pointer (some pt)), (4, .pointer (some pv)), (5, .pointer (some pf))]) (fun z => [Box pt (tF t at_ ct at_2 ct2 at_3 ct3), Box pv [iV 0, iV 0], Box pf [iV z.1, iV z.2]]) (fun _ => h) ?_ (fun q14 => ?_)
  ·rintro ⟨x, x2⟩ hF
   show J _ _ _ _ _ [(1, vSl aunknown unknown cunknown), (2, .pointer (some pt)), (4, .pointer (some pv)), (5, .pointer (some pf))] [Box pt (tF t at_ ct at_2 ct2 at_3 ct3), Box pv [iV 0, iV 0], Box pf [iV x, iV x2]] h
   refine .seq ?_
   refine .share (σ := Bool) (fun z => F_rUnknownFault_J3 K x x2 z) (fun z => [(4, .pointer (some pv)), (5, .pointer (some pf)), (26, .bool z)]) (fun _ => [Box pv [iV 0, iV 0], Box pf [iV x, iV x2]]) (fun _ => h) ?_ (fun q18 => ?_)
   ·rintro t26 hF
    show J _ _ _ _ _ [(4, .pointer (some pv)), (5, .pointer (some pf)), (26, .bool t26)] [Box pv [iV 0, iV 0], Box pf [iV x, iV x2]] h
    refine .cond rfl (fun q21 => ?_) (fun q21 => ?_)
    ·replace hF := hF.1 q21
     refine .region ?_
     obtain ⟨r3, q22⟩ : ∃ y_ : Fault, y_ = sp_at_ 5 (-8) := ⟨_, rfl⟩
     replace hF := hF r3 q22
     refine .C (cl (v := .agg #[iV r3.code, iV r3.index]) Tryz.call18 rfl rfl (fun w S => (by rw [q22]; exact c_at_ S.sub 5 (-8) ))) ?_
     refine st (p := pf) (off := 0) (k := 1) (vs := [iV r3.code, iV r3.index]) rfl rfl rfl (fun w => (tA27 w).2) rfl rfl rfl rfl ?_
     refine .KA [Box pv [iV 0, iV 0], Box pf [iV r3.code, iV r3.index]] ?_
     refine .nil (.seqN (.seq (.region (.V (ldA (cs := [iV r3.code, iV r3.index]) rfl tA27 rfl (cellsB (off := 0) (k := 1) rfl (m := 2) rfl)) ?_))))
     refine st (p := pv) (off := 0) (k := 0) (vs := [iV r3.code, iV r3.index]) rfl rfl rfl (fun w => (tA27 w).2) rfl rfl rfl rfl ?_
     refine .KA [Box pv [iV r3.code, iV r3.index], Box pf [iV r3.code, iV r3.index]] ?_
     refine .nil (.seqN (.ret ?_))
     refine .res1 rfl (rvC rfl tA27 (k := 0) rfl rfl) (fun w' S => ⟨r3, hF, rfl, S.below⟩)
    replace hF := hF.2 q21
    refine .skip (.seqN (.seq (.region (.V (ldA (cs := [iV x, iV x2]) rfl tA27 rfl (cellsB (off := 0) (k := 1) rfl (m := 2) rfl)) ?_))))
    refine st (p := pv) (off := 0) (k := 0) (vs := [iV x, iV x2]) rfl rfl rfl (fun w => (tA27 w).2) rfl rfl rfl rfl ?_
    refine .KA [Box pv [iV x, iV x2], Box pf [iV x, iV x2]] ?_
    refine .nil (.seqN (.ret ?_))
    refine .res1 rfl (rvC rfl tA27 (k := 0) rfl rfl) (fun w' S => ⟨(⟨x, x2⟩ : Fault), hF, rfl, S.below⟩)
   refine .region (.V (fa rfl tF27_0) ?_)
   refine .V (ld1 rfl tO3 (cellB (off := 0) (k := 2) rfl rfl)) ?_
   refine .V bi0 ?_
   refine .V mv0 ?_
   rcases Bool.eq_false_or_eq_true (x == 0) with q23 | q23
   ·replace hF := hF.1 q23
    refine .GV mv0 q23 ?_
    refine .GV (fa rfl tF25_0) q23 ?_
    refine .GV (ld1 rfl tO3 (cellB (off := 0) (k := 0) rfl rfl)) q23 ?_
    obtain ⟨q24, hF⟩ := hF
    obtain ⟨r4, q25⟩ : ∃ y_ : Bool, y_ = sp_isSet unknown t.facts := ⟨_, rfl⟩
    replace hF := hF r4 q25
    refine .gc (cl (v := .bool r4) Tryz.call26 rfl rfl (fun w S => (by rw [q25]; exact c_rIsSet S.sub unknown aunknown cunknown _q7 _q8 t.facts q24))) rfl rfl rfl q23 rfl rfl ?_
    refine .GV (nt rfl) q23 ?_
    refine .V (pkT rfl q23 rfl) ?_
    refine .nil ?_
    refine .sel0 [1, 2] (by decide) rfl ?_
    exact .US q18 (!r4) hF
   replace hF := hF.2 q23
   refine .GS q23 ?_
   refine .GS q23 ?_
   refine .GS q23 ?_
   refine .GS q23 ?_
   refine .GS q23 ?_
   refine .V (pkF rfl q23 rfl) ?_
   refine .nil ?_
   refine .sel0 [1, 2] (by decide) rfl ?_
   exact .US q18 false hF
  refine .cond rfl (fun q26 => ?_) (fun q26 => ?_)
  ·replace hF := hF.1 q26
   refine .region ?_
   obtain ⟨r5, q27⟩ : ∃ y_ : Fault, y_ = sp_at_ 2 (-8) := ⟨_, rfl⟩
   replace hF := hF r5 q27
   refine .C (cl (v := .agg #[iV r5.code, iV r5.index]) Tryz.call18 rfl rfl (fun w S => (by rw [q27]; exact c_at_ S.sub 2 (-8) ))) ?_
   refine st (p := pf) (off := 0) (k := 2) (vs := [iV r5.code, iV r5.index]) rfl rfl rfl (fun w => (tA27 w).2) rfl rfl rfl rfl ?_
   refine .KA [Box pt (tF t at_ ct at_2 ct2 at_3 ct3), Box pv [iV 0, iV 0], Box pf [iV r5.code, iV r5.index]] ?_
   refine .nil ?_
   exact .US q14 (r5.code, r5.index) hF
  replace hF := hF.2 q26
  refine .skip ?_
  exact .US q14 (r2.code, r2.index) hF
 refine .region (.V (fa rfl tF27_0) ?_)
 refine .V (ld1 rfl tO3 (cellB (off := 0) (k := 0) rfl rfl)) ?_
 refine .V bi0 ?_
 refine .V mv0 ?_
 rcases Bool.eq_false_or_eq_true (r2.code == 0) with q28 | q28
 ·replace hF := hF.1 q28
  refine .GV mv0 q28 ?_
  refine .GV (ln rfl tS22.is) q28 ?_
  refine .GV bi0 q28 ?_
  refine .V (pkT rfl q28 rfl) ?_
  refine .nil ?_
  refine .sel0 [2, 1, 0] (by decide) rfl ?_
  exact .US q11 (decide (4 < ((unknown.length : Nat) : Int))) hF
 replace hF := hF.2 q28
 refine .GS q28 ?_
 refine .GS q28 ?_
 refine .GS q28 ?_
 refine .V (pkF rfl q28 rfl) ?_
 refine .nil ?_
 refine .sel0 [2, 1, 0] (by decide) rfl ?_
 exact .US q11 false hF
theorem c_rUnknownFault {h : FH} {w : World} (hs : Sub h w) (t : Task) (at_ : Option Addr) (ct : Nat) (_q1 : RSl h at_ t.init) (_q2 : t.init.length ≤ ct) (at_2 : Option Addr) (ct2 : Nat) (_q3 : RSl h at_2 t.goal) (_q4 : t.goal.length ≤ ct2) (at_3 : Option Addr) (ct3 : Nat) (_q5 : RSl h at_3 t.ops) (_q6 : t.ops.length ≤ ct3) (unknown : List Int) (aunknown : Option Addr) (cunknown : Nat) (_q7 : RSl h aunknown unknown) (_q8 : unknown.length ≤ cunknown) : Calls Tryz.prog 13 #[.agg #[iV t.facts, .slice at_ t.init.length ct, .slice at_2 t.goal.length ct2, .slice at_3 t.ops.length ct3], .slice aunknown unknown.length cunknown] w fun e w' => e = .returned (.agg #[iV (sp_unknownFault t unknown).code, iV (sp_unknownFault t unknown).index]) ∧ Below w.heap.size w w' :=
 (w_rUnknownFault hs t at_ ct _q1 _q2 at_2 ct2 _q3 _q4 at_3 ct3 _q5 _q6 unknown aunknown cunknown _q7 _q8 (fun r => r = sp_unknownFault t unknown) (ok_rUnknownFault t unknown)).mono fun _ _ ⟨_, hk, he, hb⟩ => ⟨by rw [he, hk], hb⟩
theorem w_before {h : FH} {w : World} (hs : Sub h w) (a : List Int) (aa : Option Addr) (ca : Nat) (_q1 : RSl h aa a) (_q2 : a.length ≤ ca) (b : List Int) (ab : Option Addr) (cb : Nat) (_q3 : RSl h ab b) (_q4 : b.length ≤ cb) (K : Bool → Prop) (hF : F_before a b K) : Calls Tryz.prog 62 #[.slice aa a.length ca, .slice ab b.length cb] w fun e w' => ∃ r : Bool, K r ∧ e = .returned (.bool r) ∧ Below w.heap.size w w' := by
 refine enter (args := [vSl aa a ca, vSl ab b cb]) Tryz.func62 rfl Tryz.ntmps62 rfl hs ?_
 refine .seq (.region (.V ag0 ?_))
 refine .nil (.seqN (.seq (.seq (.region (.V ag0 ?_)))))
 refine .nil (.seqN (.block ?_))
 obtain ⟨I1, μ1, q77, q78⟩ := hF
 refine .loop' (σ := Int) (fun z => I1 z) (fun z => μ1 z) (fun z => [(0, vSl aa a ca), (1, vSl ab b cb), (5, iV z)]) (fun _ => []) (fun _ => h) 0 q77 sb rfl (FH.le_refl _) ?_
 rintro i q77
 have hF := q78 i q77
 show J _ _ _ _ _ [(0, vSl aa a ca), (1, vSl ab b cb), (5, iV i)] [] h
 refine .seq ?_
 refine .share (σ := Bool) (fun z => F_before_J1 a b K z i I1 μ1) (fun z => [(0, vSl aa a ca), (1, vSl ab b cb), (5, iV i), (15, .bool z)]) (fun _ => []) (fun _ => h) ?_ (fun q80 => ?_)
 ·rintro t15 hF
  show J _ _ _ _ _ [(0, vSl aa a ca), (1, vSl ab b cb), (5, iV i), (15, .bool t15)] [] h
  refine .cond rfl (fun q82 => ?_) (fun q82 => ?_)
  ·replace hF := hF.1 q82
   refine .skip (.seqN (.seq (.block (.seq ?_))))
   refine .open_ (by kernel_rfl) (by kernel_rfl) ?_
   refine .V mv0 ?_
   refine .V mv0 ?_
   obtain ⟨q89, hF⟩ := hF
   refine .V (ix rfl rfl tS22 (_q1.ne (by decide) (inb_pos q89)) q89) ?_
   refine .V (ld1 (v := iV (gt a i)) rfl tO3 (cellH (_q1.elemF q89 (by decide) 0 _ rfl))) ?_
   refine .V mv0 ?_
   refine .V mv0 ?_
   obtain ⟨q90, hF⟩ := hF
   refine .V (ix rfl rfl tS22 (_q3.ne (by decide) (inb_pos q90)) q90) ?_
   refine .V (ld1 (v := iV (gt b i)) rfl tO3 (cellH (_q3.elemF q90 (by decide) 0 _ rfl))) ?_
   refine .V bi0 ?_
   refine .fin ?_
   refine .seqN ?_
   refine .cond rfl (fun q91 => ?_) (fun q91 => ?_)
   ·replace hF := hF.1 q91
    refine .seq ?_
    refine .open_ (by kernel_rfl) (by kernel_rfl) ?_
    refine .V mv0 ?_
    refine .V mv0 ?_
    refine .V (ix rfl rfl tS22 (_q1.ne (by decide) (inb_pos q89)) q89) ?_
    refine .V (ld1 (v := iV (gt a i)) rfl tO3 (cellH (_q1.elemF q89 (by decide) 0 _ rfl))) ?_
    refine .V mv0 ?_
    refine .V mv0 ?_
    refine .V (ix rfl rfl tS22 (_q3.ne (by decide) (inb_pos q90)) q90) ?_
    refine .V (ld1 (v := iV (gt b i)) rfl tO3 (cellH (_q3.elemF q90 (by decide) 0 _ rfl))) ?_
    refine .V bi0 ?_
    refine .V ag0 ?_
    refine .fin ?_
    refine .seqN (.ret (.blkR (.seqR (.seqR (.blkR (.seqR ?_))))))
    refine .res1 rfl (rvT rfl) (fun w' S => ⟨decide ((gt a i) < (gt b i)), hF, rfl, S.below⟩)
   replace hF := hF.2 q91
   refine .skip (.blkN (.seqN (.region (.V mv0 ?_))))
   refine .V bi0 ?_
   refine .V ag0 ?_
   refine .nil ?_
   exact .RO (wr (i + 1)) hF.1 hF.2
  replace hF := hF.2 q82
  refine .exit (.seqX (.seqX (.blkX (.seqN (.seq (.region (.V mv0 ?_)))))))
  refine .V (ln rfl tS22.is) ?_
  refine .V mv0 ?_
  refine .V (ln rfl tS22.is) ?_
  refine .V bi0 ?_
  refine .V ag0 ?_
  refine .nil (.seqN (.ret ?_))
  refine .res1 rfl (rvT rfl) (fun w' S => ⟨decide (((a.length : Nat) : Int) < ((b.length : Nat) : Int)), hF, rfl, S.below⟩)
 refine .region (.V mv0 ?_)
 refine .V mv0 ?_
 refine .V (ln rfl tS22.is) ?_
 refine .V bi0 ?_
 refine .V mv0 ?_
 rcases Bool.eq_false_or_eq_true (decide (i < ((a.length : Nat) : Int))) with q92 | q92
 ·replace hF := hF.1 q92
  refine .GV mv0 q92 ?_
  refine .GV mv0 q92 ?_
  refine .GV (ln rfl tS22.is) q92 ?_
  refine .GV bi0 q92 ?_
  refine .V (pkT rfl q92 rfl) ?_
  refine .nil ?_
  exact .US q80 (decide (i < ((b.length : Nat) : Int))) hF
 replace hF := hF.2 q92
 refine .GS q92 ?_
 refine .GS q92 ?_
 refine .GS q92 ?_
 refine .GS q92 ?_
 refine .V (pkF rfl q92 rfl) ?_
 refine .nil ?_
 exact .US q80 false hF
theorem c_before {h : FH} {w : World} (hs : Sub h w) (a : List Int) (aa : Option Addr) (ca : Nat) (_q1 : RSl h aa a) (_q2 : a.length ≤ ca) (b : List Int) (ab : Option Addr) (cb : Nat) (_q3 : RSl h ab b) (_q4 : b.length ≤ cb) (hp : pre_before a b) : Calls Tryz.prog 62 #[.slice aa a.length ca, .slice ab b.length cb] w fun e w' => e = .returned (.bool (sp_before a b)) ∧ Below w.heap.size w w' :=
 (w_before hs a aa ca _q1 _q2 b ab cb _q3 _q4 (fun r => r = sp_before a b) (ok_before a b hp)).mono fun _ _ ⟨_, hk, he, hb⟩ => ⟨by rw [he, hk], hb⟩
theorem w_ints {h : FH} {w : World} (hs : Sub h w) (a : List Int) (aa : Option Addr) (ca : Nat) (_q1 : RSl h aa a) (_q2 : a.length ≤ ca) (b : List Int) (ab : Option Addr) (cb : Nat) (_q3 : RSl h ab b) (_q4 : b.length ≤ cb) (K : Bool → Prop) (hF : F_ints a b K) : Calls Tryz.prog 91 #[.slice aa a.length ca, .slice ab b.length cb] w fun e w' => ∃ r : Bool, K r ∧ e = .returned (.bool r) ∧ Below w.heap.size w w' := by
 refine enter (args := [vSl aa a ca, vSl ab b cb]) Tryz.func91 rfl Tryz.ntmps91 rfl hs ?_
 refine .seq (.region (.V ag0 ?_))
 refine .nil (.seqN (.seq (.seq (.region (.V mv0 ?_)))))
 refine .V (ln rfl tS22.is) ?_
 refine .V mv0 ?_
 refine .V (ln rfl tS22.is) ?_
 refine .V bi0 ?_
 refine .nil (.seqN ?_)
 refine .cond rfl (fun q6 => ?_) (fun q6 => ?_)
 ·replace hF := hF.1 q6
  refine .seq (.region (.V ag0 ?_))
  refine .nil (.seqN (.ret (.seqR ?_)))
  refine .res1 rfl (rvT rfl) (fun w' S => ⟨false, hF, rfl, S.below⟩)
 replace hF := hF.2 q6
 refine .skip (.seqN (.seq (.seq (.region (.V ag0 ?_)))))
 refine .nil (.seqN (.block ?_))
 obtain ⟨I1, μ1, q64, q65⟩ := hF
 refine .loop' (σ := Int) (fun z => I1 z) (fun z => μ1 z) (fun z => [(0, vSl aa a ca), (1, vSl ab b cb), (5, iV z)]) (fun _ => []) (fun _ => h) 0 q64 sb rfl (FH.le_refl _) ?_
 rintro i q64
 have hF := q65 i q64
 show J _ _ _ _ _ [(0, vSl aa a ca), (1, vSl ab b cb), (5, iV i)] [] h
 refine .seq (.seq (.region (.V mv0 ?_)))
 refine .V mv0 ?_
 refine .V (ln rfl tS22.is) ?_
 refine .V bi0 ?_
 refine .nil (.seqN ?_)
 refine .cond rfl (fun q67 => ?_) (fun q67 => ?_)
 ·replace hF := hF.1 q67
  refine .skip (.seqN (.seq (.block (.seq ?_))))
  refine .open_ (by kernel_rfl) (by kernel_rfl) ?_
  refine .V mv0 ?_
  refine .V mv0 ?_
  obtain ⟨q74, hF⟩ := hF
  refine .V (ix rfl rfl tS22 (_q1.ne (by decide) (inb_pos q74)) q74) ?_
  refine .V (ld1 (v := iV (gt a i)) rfl tO3 (cellH (_q1.elemF q74 (by decide) 0 _ rfl))) ?_
  refine .V mv0 ?_
  refine .V mv0 ?_
  obtain ⟨q75, hF⟩ := hF
  refine .V (ix rfl rfl tS22 (_q3.ne (by decide) (inb_pos q75)) q75) ?_
  refine .V (ld1 (v := iV (gt b i)) rfl tO3 (cellH (_q3.elemF q75 (by decide) 0 _ rfl))) ?_
  refine .V bi0 ?_
  refine .fin ?_
  refine .seqN ?_
  refine .cond rfl (fun q76 => ?_) (fun q76 => ?_)
  ·replace hF := hF.1 q76
   refine .seq (.region (.V ag0 ?_))
   refine .nil (.seqN (.ret (.blkR (.seqR (.seqR (.blkR (.seqR ?_)))))))
   refine .res1 rfl (rvT rfl) (fun w' S => ⟨false, hF, rfl, S.below⟩)
  replace hF := hF.2 q76
  refine .skip (.blkN (.seqN (.region (.V mv0 ?_))))
  refine .V bi0 ?_
  refine .V ag0 ?_
  refine .nil ?_
  exact .RO (wr (i + 1)) hF.1 hF.2
 replace hF := hF.2 q67
 refine .exit (.seqX (.seqX (.blkX (.seqN (.seq (.region (.V ag0 ?_)))))))
 refine .nil (.seqN (.ret ?_))
 refine .res1 rfl (rvT rfl) (fun w' S => ⟨true, hF, rfl, S.below⟩)
theorem c_ints {h : FH} {w : World} (hs : Sub h w) (a : List Int) (aa : Option Addr) (ca : Nat) (_q1 : RSl h aa a) (_q2 : a.length ≤ ca) (b : List Int) (ab : Option Addr) (cb : Nat) (_q3 : RSl h ab b) (_q4 : b.length ≤ cb) (hp : pre_ints a b) : Calls Tryz.prog 91 #[.slice aa a.length ca, .slice ab b.length cb] w fun e w' => e = .returned (.bool (sp_ints a b)) ∧ Below w.heap.size w w' :=
 (w_ints hs a aa ca _q1 _q2 b ab cb _q3 _q4 (fun r => r = sp_ints a b) (ok_ints a b hp)).mono fun _ _ ⟨_, hk, he, hb⟩ => ⟨by rw [he, hk], hb⟩
set_option maxHeartbeats 8000000 in
theorem w_insert {h : FH} {w : World} (hs : Sub h w) (l : List (List Int)) (al2 : Option Addr) (cl2 : Nat) (_q1 : RSl h al2 l) (_q2 : l.length ≤ cl2) (s_ : List Int) (as_ : Option Addr) (cs_ : Nat) (_q3 : RSl h as_ s_) (_q4 : s_.length ≤ cs_) (K : (List (List Int)) → Prop) (hF : F_insert l s_ K) : Calls Tryz.prog 57 #[.slice al2 l.length cl2, .slice as_ s_.length cs_] w fun e w' => ∃ (r : List (List Int)) (z : Option Addr × Nat) (h1 : FH), K r ∧ e = .returned (.slice z.1 r.length z.2) ∧ FH.le h h1 ∧ (RSl h1 z.1 r ∧ r.length ≤ z.2) ∧ SH (Kp.all w h) h1 w' [] := by
 refine enter (args := [vSl al2 l cl2, vSl as_ s_ cs_]) Tryz.func57 rfl Tryz.ntmps57 rfl hs ?_
 refine .seq (.region (.V ag0 ?_))
 refine .nil (.seqN (.seq (.region (.V ag0 ?_))))
 refine .nil (.seqN (.seq (.block ?_)))
 obtain ⟨I1, μ1, q145, q146⟩ := hF
 refine .loop' (σ := Int) (fun z => I1 z) (fun z => μ1 z) (fun z => [(0, vSl al2 l cl2), (1, vSl as_ s_ cs_), (5, iV z)]) (fun _ => []) (fun _ => h) 0 q145 sb rfl (FH.le_refl _) ?_
 rintro k q145
 have hF := q146 k q145
 show J _ _ _ _ _ [(0, vSl al2 l cl2), (1, vSl as_ s_ cs_), (5, iV k)] [] h
 refine .seq ?_
 refine .share (σ := Bool) (fun z => F_insert_J1 l s_ K z k I1 μ1) (fun z => [(0, vSl al2 l cl2), (1, vSl as_ s_ cs_), (5, iV k), (17, .bool z)]) (fun _ => []) (fun _ => h) ?_ (fun q154 => ?_)
 ·rintro t17 hF
  show J _ _ _ _ _ [(0, vSl al2 l cl2), (1, vSl as_ s_ cs_), (5, iV k), (17, .bool t17)] [] h
  refine .cond rfl (fun q156 => ?_) (fun q156 => ?_)
  ·replace hF := hF.1 q156
   refine .skip (.seqN (.block (.region (.V mv0 ?_))))
   refine .V bi0 ?_
   refine .V ag0 ?_
   refine .nil (.blkN ?_)
   exact .RO (wr (k + 1)) hF.1 hF.2
  replace hF := hF.2 q156
  refine .exit (.seqX (.seqX (.blkX (.seqN (.seq ?_)))))
  refine .share (σ := Bool) (fun z => F_insert_J2 l s_ K k z) (fun z => [(0, vSl al2 l cl2), (1, vSl as_ s_ cs_), (5, iV k), (31, .bool z)]) (fun _ => []) (fun _ => h) ?_ (fun q164 => ?_)
  ·rintro t31 hF
   show J _ _ _ _ _ [(0, vSl al2 l cl2), (1, vSl as_ s_ cs_), (5, iV k), (31, .bool t31)] [] h
   refine .cond rfl (fun q166 => ?_) (fun q166 => ?_)
   ·replace hF := hF.1 q166
    refine .seq (.region (.V mv0 ?_))
    refine .V ag0 ?_
    refine .nil (.seqN (.ret (.seqR ?_)))
    refine .res1 rfl (rvT rfl) (fun w' S => ⟨l, (al2, cl2), h, hF, rfl, (FH.le_refl _), ⟨_q1, _q2⟩, S.none⟩)
   replace hF := hF.2 q166
   refine .skip (.seqN (.seq ?_))
   obtain ⟨q212, hF⟩ := hF
   refine .openA (s0 := [(0, vSl al2 l cl2), (1, vSl as_ s_ cs_), (5, iV k)]) [1, 2, 3, 5, 8, 9, 10] [(1, vSl al2 l cl2), (2, iV k), (3, .slice al2 ((l.take (k).toNat).length) cl2), (5, vSl as_ s_ cs_), (8, vSl al2 l cl2), (9, iV k), (10, .slice (sla al2 cl2 (k).toNat 1) ((l.drop (k).toNat).length) (cl2 - (k).toNat))] (by kernel_rfl) sb [0, 1, 5] [] rfl (by kernel_rfl) ?_
   refine .step [0, 6] 0 rfl (by kernel_rfl) (by kernel_rfl) (.v [] rfl rfl rfl rfl rfl rfl (fun _ => mv rfl) (.v [] rfl rfl rfl rfl rfl rfl (fun _ => mv rfl) (.v [(34, vSl al2 l cl2), (35, iV k)] rfl rfl rfl rfl rfl rfl (fun _ => slH tS35 rfl rfl q212.1 (take_len q212).symm (take_cap _q2)) (.v [] rfl rfl rfl rfl rfl rfl (fun _ => mv rfl) (.v [] rfl rfl rfl rfl rfl rfl (fun _ => mv rfl) (.v [] rfl rfl rfl rfl rfl rfl (fun _ => mv rfl) (.v [(41, vSl al2 l cl2), (42, iV k)] rfl rfl rfl rfl rfl rfl (fun _ => slL2 tS35 rfl rfl q212.1 (drop_len q212).symm (drop_le q212)) (.nil)))))))) (.cons [] rfl rfl (fun sL hL => ?_) (.cons [(38, vSl as_ s_ cs_)] rfl rfl (fun sL hL => ?_) (.nil)))
   ·refine bs2 (cs := #[]) (pv := []) tS35 rfl rfl (by decide) (by decide) rfl rfl rfl (fun a _ => ?_)
    refine .KA [OwnSl 22 1 a (([] : List (List Int)).length) 0 []] ?_
    refine .nil ?_
    refine .ja (M := []) (C' := [1, 2, 3, 5, 8, 9, 10]) (pre := [(0, .slice a (([] : List (List Int)).length) 0)]) [(0, vSl al2 l cl2), (1, vSl as_ s_ cs_), (5, iV k)] [0, 1, 5] hL rfl rfl rfl rfl rfl sb rfl rfl (by kernel_rfl) ?_
    refine .step [4, 6] 4 rfl (by kernel_rfl) (by kernel_rfl) (.v [] rfl rfl rfl rfl rfl rfl (fun _ => mv rfl) (.v [] rfl rfl rfl rfl rfl rfl (fun _ => mv rfl) (.v [(34, vSl al2 l cl2), (35, iV k)] rfl rfl rfl rfl rfl rfl (fun _ => slH tS35 rfl rfl q212.1 (take_len q212).symm (take_cap _q2)) (.v [] rfl rfl rfl rfl rfl rfl (fun _ => mv rfl) (.v [] rfl rfl rfl rfl rfl rfl (fun _ => mv rfl) (.v [] rfl rfl rfl rfl rfl rfl (fun _ => mv rfl) (.v [(41, vSl al2 l cl2), (42, iV k)] rfl rfl rfl rfl rfl rfl (fun _ => slL2 tS35 rfl rfl q212.1 (drop_len q212).symm (drop_le q212)) (.nil)))))))) (.cons [(33, .slice a (([] : List (List Int)).length) 0), (36, .slice al2 ((l.take (k).toNat).length) cl2)] rfl rfl (fun sL hL => ?_) (.cons [(38, vSl as_ s_ cs_)] rfl rfl (fun sL hL => ?_) (.nil)))
    ·obtain ⟨cs, q214, q215⟩ := id (RSl.take_ _q1)
     obtain ⟨q216, hF⟩ := hF
     have q217 : ([] : List (List Int)).length + (l.take (k).toNat).length = ((([] : List (List Int)) ++ (l.take (k).toNat))).length := len_app rfl rfl
     have q218 := RepL.append (show RepL h ([] : List (List Int)) [] from rfl) q214
     refine app (k := 0) (news := cs) (cs' := ([] ++ cs)) (nm := ((([] : List (List Int)) ++ (l.take (k).toNat))).length) tS35 rfl (by decide) rfl rfl rfl (RepL.len q214) (srcH (fun q => (RSl.take_ _q1).ne (by decide) q) q215) (RepL.one q214) (room_of q217 q216).1 (room_of q217 q216).2 q217 rfl rfl (fun a2 c => ?_)
     refine .KA [OwnSl 22 1 a2 ((([] : List (List Int)) ++ (l.take (k).toNat)).length) c ([] ++ cs)] ?_
     refine .nil ?_
     refine .ja (M := [3, 1, 2]) (C' := [5, 8, 9, 10]) (pre := [(4, .slice a2 ((([] : List (List Int)) ++ (l.take (k).toNat)).length) c)]) [(0, vSl al2 l cl2), (1, vSl as_ s_ cs_), (5, iV k)] [0, 1, 5] hL rfl rfl rfl rfl rfl sb rfl rfl (by kernel_rfl) ?_
     refine .step [6] 6 rfl (by kernel_rfl) (by kernel_rfl) (.v [] rfl rfl rfl rfl rfl rfl (fun _ => mv rfl) (.v [] rfl rfl rfl rfl rfl rfl (fun _ => mv rfl) (.v [] rfl rfl rfl rfl rfl rfl (fun _ => mv rfl) (.v [(41, vSl al2 l cl2), (42, iV k)] rfl rfl rfl rfl rfl rfl (fun _ => slL2 tS35 rfl rfl q212.1 (drop_len q212).symm (drop_le q212)) (.nil))))) (.cons [(38, vSl as_ s_ cs_)] rfl rfl (fun sL hL => ?_) (.nil))
     refine bs2 (cs := #[vSl as_ s_ cs_]) (pv := [(0, vSl as_ s_ cs_)]) tS35 rfl rfl (by decide) (by decide) rfl rfl rfl (fun a3 _ => ?_)
     refine .KA [OwnSl 22 1 a3 (([s_] : List (List Int)).length) 1 [vSl as_ s_ cs_], OwnSl 22 1 a2 ((([] : List (List Int)) ++ (l.take (k).toNat)).length) c ([] ++ cs)] ?_
     refine .nil ?_
     refine .ja (M := [5]) (C' := [8, 9, 10]) (pre := [(6, .slice a3 (([s_] : List (List Int)).length) 1)]) [(0, vSl al2 l cl2), (1, vSl as_ s_ cs_), (5, iV k)] [0, 1, 5] hL rfl rfl rfl rfl rfl sb rfl rfl (by kernel_rfl) ?_
     refine .step [7] 7 rfl (by kernel_rfl) (by kernel_rfl) (.v [] rfl rfl rfl rfl rfl rfl (fun _ => mv rfl) (.v [] rfl rfl rfl rfl rfl rfl (fun _ => mv rfl) (.v [(41, vSl al2 l cl2), (42, iV k)] rfl rfl rfl rfl rfl rfl (fun _ => slL2 tS35 rfl rfl q212.1 (drop_len q212).symm (drop_le q212)) (.nil)))) (.cons [(37, .slice a2 ((([] : List (List Int)) ++ (l.take (k).toNat)).length) c), (39, .slice a3 (([s_] : List (List Int)).length) 1), (37, .slice a2 ((([] : List (List Int)) ++ (l.take (k).toNat)).length) c)] rfl rfl (fun sL hL => ?_) (.nil))
     obtain ⟨q220, hF⟩ := hF
     have q221 : (([] : List (List Int)) ++ (l.take (k).toNat)).length + ([s_] : List (List Int)).length = (((([] : List (List Int)) ++ (l.take (k).toNat)) ++ ([s_] : List (List Int)))).length := len_app rfl rfl
     have q222 := RepL.append q218 (show RepL h ([s_] : List (List Int)) [.slice as_ s_.length cs_] from ⟨[.slice as_ s_.length cs_], _, rfl, ⟨as_, cs_, rfl, _q4, _q3⟩, rfl⟩)
     refine app (k := 1) (news := [vSl as_ s_ cs_]) (cs' := (([] ++ cs) ++ [vSl as_ s_ cs_])) (nm := (((([] : List (List Int)) ++ (l.take (k).toNat)) ++ ([s_] : List (List Int)))).length) tS35 rfl (by decide) rfl rfl rfl (RepL.len (show RepL h ([s_] : List (List Int)) [vSl as_ s_ cs_] from ⟨[vSl as_ s_ cs_], _, rfl, ⟨as_, cs_, rfl, _q4, _q3⟩, rfl⟩)) (srcS (k := 0) rfl) (RepL.one (show RepL h ([s_] : List (List Int)) [vSl as_ s_ cs_] from ⟨[vSl as_ s_ cs_], _, rfl, ⟨as_, cs_, rfl, _q4, _q3⟩, rfl⟩)) (room_of q221 q220).1 (room_of q221 q220).2 q221 rfl rfl (fun a4 c2 => ?_)
     refine .KA [OwnSl 22 1 a3 (([s_] : List (List Int)).length) 1 [vSl as_ s_ cs_], OwnSl 22 1 a4 (((([] : List (List Int)) ++ (l.take (k).toNat)) ++ ([s_] : List (List Int))).length) c2 (([] ++ cs) ++ [vSl as_ s_ cs_])] ?_
     refine .nil ?_
     refine .ja (M := []) (C' := [8, 9, 10]) (pre := [(7, .slice a4 (((([] : List (List Int)) ++ (l.take (k).toNat)) ++ ([s_] : List (List Int))).length) c2)]) [(0, vSl al2 l cl2), (1, vSl as_ s_ cs_), (5, iV k)] [0, 1, 5] hL rfl rfl rfl rfl rfl sb rfl rfl (by kernel_rfl) ?_
     refine .step [11] 11 rfl (by kernel_rfl) (by kernel_rfl) (.v [] rfl rfl rfl rfl rfl rfl (fun _ => mv rfl) (.v [] rfl rfl rfl rfl rfl rfl (fun _ => mv rfl) (.v [(41, vSl al2 l cl2), (42, iV k)] rfl rfl rfl rfl rfl rfl (fun _ => slL2 tS35 rfl rfl q212.1 (drop_len q212).symm (drop_le q212)) (.nil)))) (.cons [(40, .slice a4 (((([] : List (List Int)) ++ (l.take (k).toNat)) ++ ([s_] : List (List Int))).length) c2), (43, .slice (sla al2 cl2 (k).toNat 1) ((l.drop (k).toNat).length) (cl2 - (k).toNat)), (40, .slice a4 (((([] : List (List Int)) ++ (l.take (k).toNat)) ++ ([s_] : List (List Int))).length) c2)] rfl rfl (fun sL hL => ?_) (.nil))
     obtain ⟨cs2, q223, q224⟩ := id (RSl.drop_ _q1 _q2 q212)
     obtain ⟨q225, hF⟩ := hF
     have q226 : ((([] : List (List Int)) ++ (l.take (k).toNat)) ++ ([s_] : List (List Int))).length + (l.drop (k).toNat).length = ((((([] : List (List Int)) ++ (l.take (k).toNat)) ++ ([s_] : List (List Int))) ++ (l.drop (k).toNat))).length := len_app rfl rfl
     have q227 := RepL.append q222 q223
     refine app (k := 1) (news := cs2) (cs' := ((([] ++ cs) ++ [vSl as_ s_ cs_]) ++ cs2)) (nm := ((((([] : List (List Int)) ++ (l.take (k).toNat)) ++ ([s_] : List (List Int))) ++ (l.drop (k).toNat))).length) tS35 rfl (by decide) rfl rfl rfl (RepL.len q223) (srcH (fun q => (RSl.drop_ _q1 _q2 q212).ne (by decide) q) q224) (RepL.one q223) (room_of q226 q225).1 (room_of q226 q225).2 q226 rfl rfl (fun a5 c3 => ?_)
     refine .KA [OwnSl 22 1 a3 (([s_] : List (List Int)).length) 1 [vSl as_ s_ cs_], OwnSl 22 1 a5 ((((([] : List (List Int)) ++ (l.take (k).toNat)) ++ ([s_] : List (List Int))) ++ (l.drop (k).toNat)).length) c3 ((([] ++ cs) ++ [vSl as_ s_ cs_]) ++ cs2)] ?_
     refine .nil ?_
     refine .ja (M := [10, 8, 9]) (C' := [12]) (pre := [(11, .slice a5 ((((([] : List (List Int)) ++ (l.take (k).toNat)) ++ ([s_] : List (List Int))) ++ (l.drop (k).toNat)).length) c3), (12, .slice a5 ((((([] : List (List Int)) ++ (l.take (k).toNat)) ++ ([s_] : List (List Int))) ++ (l.drop (k).toNat)).length) c3)]) [(0, vSl al2 l cl2), (1, vSl as_ s_ cs_), (5, iV k)] [0, 1, 5] hL rfl rfl rfl rfl rfl sb rfl rfl (by kernel_rfl) ?_
     refine .last [(33, .slice a (([] : List (List Int)).length) 0), (34, vSl al2 l cl2), (35, iV k), (36, .slice al2 ((l.take (k).toNat).length) cl2), (37, .slice a2 ((([] : List (List Int)) ++ (l.take (k).toNat)).length) c), (38, vSl as_ s_ cs_), (39, .slice a3 (([s_] : List (List Int)).length) 1), (40, .slice a4 (((([] : List (List Int)) ++ (l.take (k).toNat)) ++ ([s_] : List (List Int))).length) c2), (41, vSl al2 l cl2), (42, iV k), (43, .slice (sla al2 cl2 (k).toNat 1) ((l.drop (k).toNat).length) (cl2 - (k).toNat)), (44, .slice a5 ((((([] : List (List Int)) ++ (l.take (k).toNat)) ++ ([s_] : List (List Int))) ++ (l.drop (k).toNat)).length) c3), (4, .slice a5 ((((([] : List (List Int)) ++ (l.take (k).toNat)) ++ ([s_] : List (List Int))) ++ (l.drop (k).toNat)).length) c3)] rfl (by kernel_rfl) (.v [(44, .slice a5 ((((([] : List (List Int)) ++ (l.take (k).toNat)) ++ ([s_] : List (List Int))) ++ (l.drop (k).toNat)).length) c3), (44, .slice a5 ((((([] : List (List Int)) ++ (l.take (k).toNat)) ++ ([s_] : List (List Int))) ++ (l.drop (k).toNat)).length) c3), (33, .slice a (([] : List (List Int)).length) 0), (34, vSl al2 l cl2), (35, iV k), (36, .slice al2 ((l.take (k).toNat).length) cl2), (37, .slice a2 ((([] : List (List Int)) ++ (l.take (k).toNat)).length) c), (38, vSl as_ s_ cs_), (39, .slice a3 (([s_] : List (List Int)).length) 1), (40, .slice a4 (((([] : List (List Int)) ++ (l.take (k).toNat)) ++ ([s_] : List (List Int))).length) c2), (41, vSl al2 l cl2), (42, iV k), (43, .slice (sla al2 cl2 (k).toNat 1) ((l.drop (k).toNat).length) (cl2 - (k).toNat)), (44, .slice a5 ((((([] : List (List Int)) ++ (l.take (k).toNat)) ++ ([s_] : List (List Int))) ++ (l.drop (k).toNat)).length) c3)] rfl rfl rfl rfl rfl rfl (fun _ => asg rfl) (.nil)) rfl ?_
     refine .seqN ?_
     refine .freezeL (k := 1) rfl (fun h1 le1 q229 q228 => ?_)
     refine .KA [OwnSl 22 1 a3 (([s_] : List (List Int)).length) 1 [vSl as_ s_ cs_], tru] ?_
     refine .ret ?_
     refine .res1 rfl (rvT rfl) (fun w' S => ⟨(((([] : List (List Int)) ++ (l.take (k).toNat)) ++ ([s_] : List (List Int))) ++ (l.drop (k).toNat)), (a5, c3), h1, hF, rfl, (le1), ⟨(show RSl h1 a5 (((([] : List (List Int)) ++ (l.take (k).toNat)) ++ ([s_] : List (List Int))) ++ (l.drop (k).toNat)) from ⟨_, q227.mono (le1), q228⟩), (q229)⟩, S.none⟩)
    ·refine bs2 (cs := #[vSl as_ s_ cs_]) (pv := [(0, vSl as_ s_ cs_)]) tS35 rfl rfl (by decide) (by decide) rfl rfl rfl (fun a2 _ => ?_)
     refine .KA [OwnSl 22 1 a2 (([s_] : List (List Int)).length) 1 [vSl as_ s_ cs_], OwnSl 22 1 a (([] : List (List Int)).length) 0 []] ?_
     refine .nil ?_
     refine .ja (M := [5]) (C' := [1, 2, 3, 8, 9, 10]) (pre := [(6, .slice a2 (([s_] : List (List Int)).length) 1)]) [(0, vSl al2 l cl2), (1, vSl as_ s_ cs_), (5, iV k)] [0, 1, 5] hL rfl rfl rfl rfl rfl sb rfl rfl (by kernel_rfl) ?_
     refine .step [4] 4 rfl (by kernel_rfl) (by kernel_rfl) (.v [] rfl rfl rfl rfl rfl rfl (fun _ => mv rfl) (.v [] rfl rfl rfl rfl rfl rfl (fun _ => mv rfl) (.v [(34, vSl al2 l cl2), (35, iV k)] rfl rfl rfl rfl rfl rfl (fun _ => slH tS35 rfl rfl q212.1 (take_len q212).symm (take_cap _q2)) (.v [] rfl rfl rfl rfl rfl rfl (fun _ => mv rfl) (.v [] rfl rfl rfl rfl rfl rfl (fun _ => mv rfl) (.v [(41, vSl al2 l cl2), (42, iV k)] rfl rfl rfl rfl rfl rfl (fun _ => slL2 tS35 rfl rfl q212.1 (drop_len q212).symm (drop_le q212)) (.nil))))))) (.cons [(33, .slice a (([] : List (List Int)).length) 0), (36, .slice al2 ((l.take (k).toNat).length) cl2)] rfl rfl (fun sL hL => ?_) (.nil))
     obtain ⟨cs, q231, q232⟩ := id (RSl.take_ _q1)
     obtain ⟨q233, hF⟩ := hF
     have q234 : ([] : List (List Int)).length + (l.take (k).toNat).length = ((([] : List (List Int)) ++ (l.take (k).toNat))).length := len_app rfl rfl
     have q235 := RepL.append (show RepL h ([] : List (List Int)) [] from rfl) q231
     refine app (k := 1) (news := cs) (cs' := ([] ++ cs)) (nm := ((([] : List (List Int)) ++ (l.take (k).toNat))).length) tS35 rfl (by decide) rfl rfl rfl (RepL.len q231) (srcH (fun q => (RSl.take_ _q1).ne (by decide) q) q232) (RepL.one q231) (room_of q234 q233).1 (room_of q234 q233).2 q234 rfl rfl (fun a3 c => ?_)
     refine .KA [OwnSl 22 1 a2 (([s_] : List (List Int)).length) 1 [vSl as_ s_ cs_], OwnSl 22 1 a3 ((([] : List (List Int)) ++ (l.take (k).toNat)).length) c ([] ++ cs)] ?_
     refine .nil ?_
     refine .ja (M := [3, 1, 2]) (C' := [8, 9, 10]) (pre := [(4, .slice a3 ((([] : List (List Int)) ++ (l.take (k).toNat)).length) c)]) [(0, vSl al2 l cl2), (1, vSl as_ s_ cs_), (5, iV k)] [0, 1, 5] hL rfl rfl rfl rfl rfl sb rfl rfl (by kernel_rfl) ?_
     refine .step [7] 7 rfl (by kernel_rfl) (by kernel_rfl) (.v [] rfl rfl rfl rfl rfl rfl (fun _ => mv rfl) (.v [] rfl rfl rfl rfl rfl rfl (fun _ => mv rfl) (.v [(41, vSl al2 l cl2), (42, iV k)] rfl rfl rfl rfl rfl rfl (fun _ => slL2 tS35 rfl rfl q212.1 (drop_len q212).symm (drop_le q212)) (.nil)))) (.cons [(37, .slice a3 ((([] : List (List Int)) ++ (l.take (k).toNat)).length) c), (39, .slice a2 (([s_] : List (List Int)).length) 1), (37, .slice a3 ((([] : List (List Int)) ++ (l.take (k).toNat)).length) c)] rfl rfl (fun sL hL => ?_) (.nil))
     obtain ⟨q236, hF⟩ := hF
     have q237 : (([] : List (List Int)) ++ (l.take (k).toNat)).length + ([s_] : List (List Int)).length = (((([] : List (List Int)) ++ (l.take (k).toNat)) ++ ([s_] : List (List Int)))).length := len_app rfl rfl
     have q238 := RepL.append q235 (show RepL h ([s_] : List (List Int)) [.slice as_ s_.length cs_] from ⟨[.slice as_ s_.length cs_], _, rfl, ⟨as_, cs_, rfl, _q4, _q3⟩, rfl⟩)
     refine app (k := 1) (news := [vSl as_ s_ cs_]) (cs' := (([] ++ cs) ++ [vSl as_ s_ cs_])) (nm := (((([] : List (List Int)) ++ (l.take (k).toNat)) ++ ([s_] : List (List Int)))).length) tS35 rfl (by decide) rfl rfl rfl (RepL.len (show RepL h ([s_] : List (List Int)) [vSl as_ s_ cs_] from ⟨[vSl as_ s_ cs_], _, rfl, ⟨as_, cs_, rfl, _q4, _q3⟩, rfl⟩)) (srcS (k := 0) rfl) (RepL.one (show RepL h ([s_] : List (List Int)) [vSl as_ s_ cs_] from ⟨[vSl as_ s_ cs_], _, rfl, ⟨as_, cs_, rfl, _q4, _q3⟩, rfl⟩)) (room_of q237 q236).1 (room_of q237 q236).2 q237 rfl rfl (fun a4 c2 => ?_)
     refine .KA [OwnSl 22 1 a2 (([s_] : List (List Int)).length) 1 [vSl as_ s_ cs_], OwnSl 22 1 a4 (((([] : List (List Int)) ++ (l.take (k).toNat)) ++ ([s_] : List (List Int))).length) c2 (([] ++ cs) ++ [vSl as_ s_ cs_])] ?_
     refine .nil ?_
     refine .ja (M := []) (C' := [8, 9, 10]) (pre := [(7, .slice a4 (((([] : List (List Int)) ++ (l.take (k).toNat)) ++ ([s_] : List (List Int))).length) c2)]) [(0, vSl al2 l cl2), (1, vSl as_ s_ cs_), (5, iV k)] [0, 1, 5] hL rfl rfl rfl rfl rfl sb rfl rfl (by kernel_rfl) ?_
     refine .step [11] 11 rfl (by kernel_rfl) (by kernel_rfl) (.v [] rfl rfl rfl rfl rfl rfl (fun _ => mv rfl) (.v [] rfl rfl rfl rfl rfl rfl (fun _ => mv rfl) (.v [(41, vSl al2 l cl2), (42, iV k)] rfl rfl rfl rfl rfl rfl (fun _ => slL2 tS35 rfl rfl q212.1 (drop_len q212).symm (drop_le q212)) (.nil)))) (.cons [(40, .slice a4 (((([] : List (List Int)) ++ (l.take (k).toNat)) ++ ([s_] : List (List Int))).length) c2), (43, .slice (sla al2 cl2 (k).toNat 1) ((l.drop (k).toNat).length) (cl2 - (k).toNat)), (40, .slice a4 (((([] : List (List Int)) ++ (l.take (k).toNat)) ++ ([s_] : List (List Int))).length) c2)] rfl rfl (fun sL hL => ?_) (.nil))
     obtain ⟨cs2, q239, q240⟩ := id (RSl.drop_ _q1 _q2 q212)
     obtain ⟨q241, hF⟩ := hF
     have q242 : ((([] : List (List Int)) ++ (l.take (k).toNat)) ++ ([s_] : List (List Int))).length + (l.drop (k).toNat).length = ((((([] : List (List Int)) ++ (l.take (k).toNat)) ++ ([s_] : List (List Int))) ++ (l.drop (k).toNat))).length := len_app rfl rfl
     have q243 := RepL.append q238 q239
     refine app (k := 1) (news := cs2) (cs' := ((([] ++ cs) ++ [vSl as_ s_ cs_]) ++ cs2)) (nm := ((((([] : List (List Int)) ++ (l.take (k).toNat)) ++ ([s_] : List (List Int))) ++ (l.drop (k).toNat))).length) tS35 rfl (by decide) rfl rfl rfl (RepL.len q239) (srcH (fun q => (RSl.drop_ _q1 _q2 q212).ne (by decide) q) q240) (RepL.one q239) (room_of q242 q241).1 (room_of q242 q241).2 q242 rfl rfl (fun a5 c3 => ?_)
     refine .KA [OwnSl 22 1 a2 (([s_] : List (List Int)).length) 1 [vSl as_ s_ cs_], OwnSl 22 1 a5 ((((([] : List (List Int)) ++ (l.take (k).toNat)) ++ ([s_] : List (List Int))) ++ (l.drop (k).toNat)).length) c3 ((([] ++ cs) ++ [vSl as_ s_ cs_]) ++ cs2)] ?_
     refine .nil ?_
     refine .ja (M := [10, 8, 9]) (C' := [12]) (pre := [(11, .slice a5 ((((([] : List (List Int)) ++ (l.take (k).toNat)) ++ ([s_] : List (List Int))) ++ (l.drop (k).toNat)).length) c3), (12, .slice a5 ((((([] : List (List Int)) ++ (l.take (k).toNat)) ++ ([s_] : List (List Int))) ++ (l.drop (k).toNat)).length) c3)]) [(0, vSl al2 l cl2), (1, vSl as_ s_ cs_), (5, iV k)] [0, 1, 5] hL rfl rfl rfl rfl rfl sb rfl rfl (by kernel_rfl) ?_
     refine .last [(33, .slice a (([] : List (List Int)).length) 0), (34, vSl al2 l cl2), (35, iV k), (36, .slice al2 ((l.take (k).toNat).length) cl2), (37, .slice a3 ((([] : List (List Int)) ++ (l.take (k).toNat)).length) c), (38, vSl as_ s_ cs_), (39, .slice a2 (([s_] : List (List Int)).length) 1), (40, .slice a4 (((([] : List (List Int)) ++ (l.take (k).toNat)) ++ ([s_] : List (List Int))).length) c2), (41, vSl al2 l cl2), (42, iV k), (43, .slice (sla al2 cl2 (k).toNat 1) ((l.drop (k).toNat).length) (cl2 - (k).toNat)), (44, .slice a5 ((((([] : List (List Int)) ++ (l.take (k).toNat)) ++ ([s_] : List (List Int))) ++ (l.drop (k).toNat)).length) c3), (4, .slice a5 ((((([] : List (List Int)) ++ (l.take (k).toNat)) ++ ([s_] : List (List Int))) ++ (l.drop (k).toNat)).length) c3)] rfl (by kernel_rfl) (.v [(44, .slice a5 ((((([] : List (List Int)) ++ (l.take (k).toNat)) ++ ([s_] : List (List Int))) ++ (l.drop (k).toNat)).length) c3), (44, .slice a5 ((((([] : List (List Int)) ++ (l.take (k).toNat)) ++ ([s_] : List (List Int))) ++ (l.drop (k).toNat)).length) c3), (33, .slice a (([] : List (List Int)).length) 0), (34, vSl al2 l cl2), (35, iV k), (36, .slice al2 ((l.take (k).toNat).length) cl2), (37, .slice a3 ((([] : List (List Int)) ++ (l.take (k).toNat)).length) c), (38, vSl as_ s_ cs_), (39, .slice a2 (([s_] : List (List Int)).length) 1), (40, .slice a4 (((([] : List (List Int)) ++ (l.take (k).toNat)) ++ ([s_] : List (List Int))).length) c2), (41, vSl al2 l cl2), (42, iV k), (43, .slice (sla al2 cl2 (k).toNat 1) ((l.drop (k).toNat).length) (cl2 - (k).toNat)), (44, .slice a5 ((((([] : List (List Int)) ++ (l.take (k).toNat)) ++ ([s_] : List (List Int))) ++ (l.drop (k).toNat)).length) c3)] rfl rfl rfl rfl rfl rfl (fun _ => asg rfl) (.nil)) rfl ?_
     refine .seqN ?_
     refine .freezeL (k := 1) rfl (fun h2 le2 q245 q244 => ?_)
     refine .KA [OwnSl 22 1 a2 (([s_] : List (List Int)).length) 1 [vSl as_ s_ cs_], tru] ?_
     refine .ret ?_
     refine .res1 rfl (rvT rfl) (fun w' S => ⟨(((([] : List (List Int)) ++ (l.take (k).toNat)) ++ ([s_] : List (List Int))) ++ (l.drop (k).toNat)), (a5, c3), h2, hF, rfl, (le2), ⟨(show RSl h2 a5 (((([] : List (List Int)) ++ (l.take (k).toNat)) ++ ([s_] : List (List Int))) ++ (l.drop (k).toNat)) from ⟨_, q243.mono (le2), q244⟩), (q245)⟩, S.none⟩)
   ·refine bs2 (cs := #[vSl as_ s_ cs_]) (pv := [(0, vSl as_ s_ cs_)]) tS35 rfl rfl (by decide) (by decide) rfl rfl rfl (fun a _ => ?_)
    refine .KA [OwnSl 22 1 a (([s_] : List (List Int)).length) 1 [vSl as_ s_ cs_]] ?_
    refine .nil ?_
    refine .ja (M := [5]) (C' := [1, 2, 3, 8, 9, 10]) (pre := [(6, .slice a (([s_] : List (List Int)).length) 1)]) [(0, vSl al2 l cl2), (1, vSl as_ s_ cs_), (5, iV k)] [0, 1, 5] hL rfl rfl rfl rfl rfl sb rfl rfl (by kernel_rfl) ?_
    refine .step [0] 0 rfl (by kernel_rfl) (by kernel_rfl) (.v [] rfl rfl rfl rfl rfl rfl (fun _ => mv rfl) (.v [] rfl rfl rfl rfl rfl rfl (fun _ => mv rfl) (.v [(34, vSl al2 l cl2), (35, iV k)] rfl rfl rfl rfl rfl rfl (fun _ => slH tS35 rfl rfl q212.1 (take_len q212).symm (take_cap _q2)) (.v [] rfl rfl rfl rfl rfl rfl (fun _ => mv rfl) (.v [] rfl rfl rfl rfl rfl rfl (fun _ => mv rfl) (.v [(41, vSl al2 l cl2), (42, iV k)] rfl rfl rfl rfl rfl rfl (fun _ => slL2 tS35 rfl rfl q212.1 (drop_len q212).symm (drop_le q212)) (.nil))))))) (.cons [] rfl rfl (fun sL hL => ?_) (.nil))
    refine bs2 (cs := #[]) (pv := []) tS35 rfl rfl (by decide) (by decide) rfl rfl rfl (fun a2 _ => ?_)
    refine .KA [OwnSl 22 1 a2 (([] : List (List Int)).length) 0 [], OwnSl 22 1 a (([s_] : List (List Int)).length) 1 [vSl as_ s_ cs_]] ?_
    refine .nil ?_
    refine .ja (M := []) (C' := [1, 2, 3, 8, 9, 10]) (pre := [(0, .slice a2 (([] : List (List Int)).length) 0)]) [(0, vSl al2 l cl2), (1, vSl as_ s_ cs_), (5, iV k)] [0, 1, 5] hL rfl rfl rfl rfl rfl sb rfl rfl (by kernel_rfl) ?_
    refine .step [4] 4 rfl (by kernel_rfl) (by kernel_rfl) (.v [] rfl rfl rfl rfl rfl rfl (fun _ => mv rfl) (.v [] rfl rfl rfl rfl rfl rfl (fun _ => mv rfl) (.v [(34, vSl al2 l cl2), (35, iV k)] rfl rfl rfl rfl rfl rfl (fun _ => slH tS35 rfl rfl q212.1 (take_len q212).symm (take_cap _q2)) (.v [] rfl rfl rfl rfl rfl rfl (fun _ => mv rfl) (.v [] rfl rfl rfl rfl rfl rfl (fun _ => mv rfl) (.v [(41, vSl al2 l cl2), (42, iV k)] rfl rfl rfl rfl rfl rfl (fun _ => slL2 tS35 rfl rfl q212.1 (drop_len q212).symm (drop_le q212)) (.nil))))))) (.cons [(33, .slice a2 (([] : List (List Int)).length) 0), (36, .slice al2 ((l.take (k).toNat).length) cl2)] rfl rfl (fun sL hL => ?_) (.nil))
    obtain ⟨cs, q248, q249⟩ := id (RSl.take_ _q1)
    obtain ⟨q250, hF⟩ := hF
    have q251 : ([] : List (List Int)).length + (l.take (k).toNat).length = ((([] : List (List Int)) ++ (l.take (k).toNat))).length := len_app rfl rfl
    have q252 := RepL.append (show RepL h ([] : List (List Int)) [] from rfl) q248
    refine app (k := 0) (news := cs) (cs' := ([] ++ cs)) (nm := ((([] : List (List Int)) ++ (l.take (k).toNat))).length) tS35 rfl (by decide) rfl rfl rfl (RepL.len q248) (srcH (fun q => (RSl.take_ _q1).ne (by decide) q) q249) (RepL.one q248) (room_of q251 q250).1 (room_of q251 q250).2 q251 rfl rfl (fun a3 c => ?_)
    refine .KA [OwnSl 22 1 a3 ((([] : List (List Int)) ++ (l.take (k).toNat)).length) c ([] ++ cs), OwnSl 22 1 a (([s_] : List (List Int)).length) 1 [vSl as_ s_ cs_]] ?_
    refine .nil ?_
    refine .ja (M := [3, 1, 2]) (C' := [8, 9, 10]) (pre := [(4, .slice a3 ((([] : List (List Int)) ++ (l.take (k).toNat)).length) c)]) [(0, vSl al2 l cl2), (1, vSl as_ s_ cs_), (5, iV k)] [0, 1, 5] hL rfl rfl rfl rfl rfl sb rfl rfl (by kernel_rfl) ?_
    refine .step [7] 7 rfl (by kernel_rfl) (by kernel_rfl) (.v [] rfl rfl rfl rfl rfl rfl (fun _ => mv rfl) (.v [] rfl rfl rfl rfl rfl rfl (fun _ => mv rfl) (.v [(41, vSl al2 l cl2), (42, iV k)] rfl rfl rfl rfl rfl rfl (fun _ => slL2 tS35 rfl rfl q212.1 (drop_len q212).symm (drop_le q212)) (.nil)))) (.cons [(37, .slice a3 ((([] : List (List Int)) ++ (l.take (k).toNat)).length) c), (39, .slice a (([s_] : List (List Int)).length) 1), (37, .slice a3 ((([] : List (List Int)) ++ (l.take (k).toNat)).length) c)] rfl rfl (fun sL hL => ?_) (.nil))
    obtain ⟨q253, hF⟩ := hF
    have q254 : (([] : List (List Int)) ++ (l.take (k).toNat)).length + ([s_] : List (List Int)).length = (((([] : List (List Int)) ++ (l.take (k).toNat)) ++ ([s_] : List (List Int)))).length := len_app rfl rfl
    have q255 := RepL.append q252 (show RepL h ([s_] : List (List Int)) [.slice as_ s_.length cs_] from ⟨[.slice as_ s_.length cs_], _, rfl, ⟨as_, cs_, rfl, _q4, _q3⟩, rfl⟩)
    refine app (k := 0) (news := [vSl as_ s_ cs_]) (cs' := (([] ++ cs) ++ [vSl as_ s_ cs_])) (nm := (((([] : List (List Int)) ++ (l.take (k).toNat)) ++ ([s_] : List (List Int)))).length) tS35 rfl (by decide) rfl rfl rfl (RepL.len (show RepL h ([s_] : List (List Int)) [vSl as_ s_ cs_] from ⟨[vSl as_ s_ cs_], _, rfl, ⟨as_, cs_, rfl, _q4, _q3⟩, rfl⟩)) (srcS (k := 1) rfl) (RepL.one (show RepL h ([s_] : List (List Int)) [vSl as_ s_ cs_] from ⟨[vSl as_ s_ cs_], _, rfl, ⟨as_, cs_, rfl, _q4, _q3⟩, rfl⟩)) (room_of q254 q253).1 (room_of q254 q253).2 q254 rfl rfl (fun a4 c2 => ?_)
    refine .KA [OwnSl 22 1 a4 (((([] : List (List Int)) ++ (l.take (k).toNat)) ++ ([s_] : List (List Int))).length) c2 (([] ++ cs) ++ [vSl as_ s_ cs_]), OwnSl 22 1 a (([s_] : List (List Int)).length) 1 [vSl as_ s_ cs_]] ?_
    refine .nil ?_
    refine .ja (M := []) (C' := [8, 9, 10]) (pre := [(7, .slice a4 (((([] : List (List Int)) ++ (l.take (k).toNat)) ++ ([s_] : List (List Int))).length) c2)]) [(0, vSl al2 l cl2), (1, vSl as_ s_ cs_), (5, iV k)] [0, 1, 5] hL rfl rfl rfl rfl rfl sb rfl rfl (by kernel_rfl) ?_
    refine .step [11] 11 rfl (by kernel_rfl) (by kernel_rfl) (.v [] rfl rfl rfl rfl rfl rfl (fun _ => mv rfl) (.v [] rfl rfl rfl rfl rfl rfl (fun _ => mv rfl) (.v [(41, vSl al2 l cl2), (42, iV k)] rfl rfl rfl rfl rfl rfl (fun _ => slL2 tS35 rfl rfl q212.1 (drop_len q212).symm (drop_le q212)) (.nil)))) (.cons [(40, .slice a4 (((([] : List (List Int)) ++ (l.take (k).toNat)) ++ ([s_] : List (List Int))).length) c2), (43, .slice (sla al2 cl2 (k).toNat 1) ((l.drop (k).toNat).length) (cl2 - (k).toNat)), (40, .slice a4 (((([] : List (List Int)) ++ (l.take (k).toNat)) ++ ([s_] : List (List Int))).length) c2)] rfl rfl (fun sL hL => ?_) (.nil))
    obtain ⟨cs2, q256, q257⟩ := id (RSl.drop_ _q1 _q2 q212)
    obtain ⟨q258, hF⟩ := hF
    have q259 : ((([] : List (List Int)) ++ (l.take (k).toNat)) ++ ([s_] : List (List Int))).length + (l.drop (k).toNat).length = ((((([] : List (List Int)) ++ (l.take (k).toNat)) ++ ([s_] : List (List Int))) ++ (l.drop (k).toNat))).length := len_app rfl rfl
    have q260 := RepL.append q255 q256
    refine app (k := 0) (news := cs2) (cs' := ((([] ++ cs) ++ [vSl as_ s_ cs_]) ++ cs2)) (nm := ((((([] : List (List Int)) ++ (l.take (k).toNat)) ++ ([s_] : List (List Int))) ++ (l.drop (k).toNat))).length) tS35 rfl (by decide) rfl rfl rfl (RepL.len q256) (srcH (fun q => (RSl.drop_ _q1 _q2 q212).ne (by decide) q) q257) (RepL.one q256) (room_of q259 q258).1 (room_of q259 q258).2 q259 rfl rfl (fun a5 c3 => ?_)
    refine .KA [OwnSl 22 1 a5 ((((([] : List (List Int)) ++ (l.take (k).toNat)) ++ ([s_] : List (List Int))) ++ (l.drop (k).toNat)).length) c3 ((([] ++ cs) ++ [vSl as_ s_ cs_]) ++ cs2), OwnSl 22 1 a (([s_] : List (List Int)).length) 1 [vSl as_ s_ cs_]] ?_
    refine .nil ?_
    refine .ja (M := [10, 8, 9]) (C' := [12]) (pre := [(11, .slice a5 ((((([] : List (List Int)) ++ (l.take (k).toNat)) ++ ([s_] : List (List Int))) ++ (l.drop (k).toNat)).length) c3), (12, .slice a5 ((((([] : List (List Int)) ++ (l.take (k).toNat)) ++ ([s_] : List (List Int))) ++ (l.drop (k).toNat)).length) c3)]) [(0, vSl al2 l cl2), (1, vSl as_ s_ cs_), (5, iV k)] [0, 1, 5] hL rfl rfl rfl rfl rfl sb rfl rfl (by kernel_rfl) ?_
    refine .last [(33, .slice a2 (([] : List (List Int)).length) 0), (34, vSl al2 l cl2), (35, iV k), (36, .slice al2 ((l.take (k).toNat).length) cl2), (37, .slice a3 ((([] : List (List Int)) ++ (l.take (k).toNat)).length) c), (38, vSl as_ s_ cs_), (39, .slice a (([s_] : List (List Int)).length) 1), (40, .slice a4 (((([] : List (List Int)) ++ (l.take (k).toNat)) ++ ([s_] : List (List Int))).length) c2), (41, vSl al2 l cl2), (42, iV k), (43, .slice (sla al2 cl2 (k).toNat 1) ((l.drop (k).toNat).length) (cl2 - (k).toNat)), (44, .slice a5 ((((([] : List (List Int)) ++ (l.take (k).toNat)) ++ ([s_] : List (List Int))) ++ (l.drop (k).toNat)).length) c3), (4, .slice a5 ((((([] : List (List Int)) ++ (l.take (k).toNat)) ++ ([s_] : List (List Int))) ++ (l.drop (k).toNat)).length) c3)] rfl (by kernel_rfl) (.v [(44, .slice a5 ((((([] : List (List Int)) ++ (l.take (k).toNat)) ++ ([s_] : List (List Int))) ++ (l.drop (k).toNat)).length) c3), (44, .slice a5 ((((([] : List (List Int)) ++ (l.take (k).toNat)) ++ ([s_] : List (List Int))) ++ (l.drop (k).toNat)).length) c3), (33, .slice a2 (([] : List (List Int)).length) 0), (34, vSl al2 l cl2), (35, iV k), (36, .slice al2 ((l.take (k).toNat).length) cl2), (37, .slice a3 ((([] : List (List Int)) ++ (l.take (k).toNat)).length) c), (38, vSl as_ s_ cs_), (39, .slice a (([s_] : List (List Int)).length) 1), (40, .slice a4 (((([] : List (List Int)) ++ (l.take (k).toNat)) ++ ([s_] : List (List Int))).length) c2), (41, vSl al2 l cl2), (42, iV k), (43, .slice (sla al2 cl2 (k).toNat 1) ((l.drop (k).toNat).length) (cl2 - (k).toNat)), (44, .slice a5 ((((([] : List (List Int)) ++ (l.take (k).toNat)) ++ ([s_] : List (List Int))) ++ (l.drop (k).toNat)).length) c3)] rfl rfl rfl rfl rfl rfl (fun _ => asg rfl) (.nil)) rfl ?_
    refine .seqN ?_
    refine .freezeL (k := 0) rfl (fun h3 le3 q262 q261 => ?_)
    refine .KA [tru, OwnSl 22 1 a (([s_] : List (List Int)).length) 1 [vSl as_ s_ cs_]] ?_
    refine .ret ?_
    refine .res1 rfl (rvT rfl) (fun w' S => ⟨(((([] : List (List Int)) ++ (l.take (k).toNat)) ++ ([s_] : List (List Int))) ++ (l.drop (k).toNat)), (a5, c3), h3, hF, rfl, (le3), ⟨(show RSl h3 a5 (((([] : List (List Int)) ++ (l.take (k).toNat)) ++ ([s_] : List (List Int))) ++ (l.drop (k).toNat)) from ⟨_, q260.mono (le3), q261⟩), (q262)⟩, S.none⟩)
  refine .region (.V mv0 ?_)
  refine .V mv0 ?_
  refine .V (ln rfl tS35.is) ?_
  refine .V bi0 ?_
  refine .V mv0 ?_
  rcases Bool.eq_false_or_eq_true (decide (k < ((l.length : Nat) : Int))) with q263 | q263
  ·replace hF := hF.1 q263
   refine .GV mv0 q263 ?_
   refine .GV mv0 q263 ?_
   obtain ⟨q264, hF⟩ := hF
   refine .GV (ix rfl rfl tS35 (_q1.ne (by decide) (inb_pos q264)) q264) q263 ?_
   obtain ⟨_, ⟨a6, c4, rfl, q265, q266⟩, q267⟩ := _q1.elem q264
   refine .GV (ld1 (v := .slice a6 ((gt l k).length) c4) rfl tO22 (cellH (q267 (by decide) 0 _ rfl))) q263 ?_
   refine .GV mv0 q263 ?_
   obtain ⟨q268, hF⟩ := hF
   obtain ⟨r2, q269⟩ : ∃ y_ : Bool, y_ = sp_ints (gt l k) s_ := ⟨_, rfl⟩
   replace hF := hF r2 q269
   refine .gc (cl (v := .bool r2) Tryz.call91 rfl rfl (fun w S => (by rw [q269]; exact c_ints S.sub (gt l k) a6 c4 q266 q265 s_ as_ cs_ _q3 _q4 q268))) rfl rfl rfl q263 rfl rfl ?_
   refine .V (pkT rfl q263 rfl) ?_
   refine .nil ?_
   exact .US q164 r2 hF
  replace hF := hF.2 q263
  refine .GS q263 ?_
  refine .GS q263 ?_
  refine .GS q263 ?_
  refine .GS q263 ?_
  refine .GS q263 ?_
  refine .GS q263 ?_
  refine .V (pkF rfl q263 rfl) ?_
  refine .nil ?_
  exact .US q164 false hF
 refine .region (.V mv0 ?_)
 refine .V mv0 ?_
 refine .V (ln rfl tS35.is) ?_
 refine .V bi0 ?_
 refine .V mv0 ?_
 rcases Bool.eq_false_or_eq_true (decide (k < ((l.length : Nat) : Int))) with q270 | q270
 ·replace hF := hF.1 q270
  refine .GV mv0 q270 ?_
  refine .GV mv0 q270 ?_
  obtain ⟨q271, hF⟩ := hF
  refine .GV (ix rfl rfl tS35 (_q1.ne (by decide) (inb_pos q271)) q271) q270 ?_
  obtain ⟨_, ⟨a7, c5, rfl, q272, q273⟩, q274⟩ := _q1.elem q271
  refine .GV (ld1 (v := .slice a7 ((gt l k).length) c5) rfl tO22 (cellH (q274 (by decide) 0 _ rfl))) q270 ?_
  refine .GV mv0 q270 ?_
  obtain ⟨q275, hF⟩ := hF
  obtain ⟨r3, q276⟩ : ∃ y_ : Bool, y_ = sp_before (gt l k) s_ := ⟨_, rfl⟩
  replace hF := hF r3 q276
  refine .gc (cl (v := .bool r3) Tryz.call62 rfl rfl (fun w S => (by rw [q276]; exact c_before S.sub (gt l k) a7 c5 q273 q272 s_ as_ cs_ _q3 _q4 q275))) rfl rfl rfl q270 rfl rfl ?_
  refine .V (pkT rfl q270 rfl) ?_
  refine .nil ?_
  exact .US q154 r3 hF
 replace hF := hF.2 q270
 refine .GS q270 ?_
 refine .GS q270 ?_
 refine .GS q270 ?_
 refine .GS q270 ?_
 refine .GS q270 ?_
 refine .GS q270 ?_
 refine .V (pkF rfl q270 rfl) ?_
 refine .nil ?_
 exact .US q154 false hF
theorem c_insert {h : FH} {w : World} (hs : Sub h w) (l : List (List Int)) (al2 : Option Addr) (cl2 : Nat) (_q1 : RSl h al2 l) (_q2 : l.length ≤ cl2) (s_ : List Int) (as_ : Option Addr) (cs_ : Nat) (_q3 : RSl h as_ s_) (_q4 : s_.length ≤ cs_) (hp : pre_insert l s_) : Calls Tryz.prog 57 #[.slice al2 l.length cl2, .slice as_ s_.length cs_] w fun e w' => ∃ (z : Option Addr × Nat) (h1 : FH), e = .returned (.slice z.1 (sp_insert l s_).length z.2) ∧ FH.le h h1 ∧ (RSl h1 z.1 (sp_insert l s_) ∧ (sp_insert l s_).length ≤ z.2) ∧ SH (Kp.all w h) h1 w' [] :=
 (w_insert hs l al2 cl2 _q1 _q2 s_ as_ cs_ _q3 _q4 (fun r => r = sp_insert l s_) (ok_insert l s_ hp)).mono fun _ _ ⟨r, z, h1, hk, he, hl, hf, hS⟩ => by subst hk; exact ⟨z, h1, he, hl, hf, hS⟩
set_option maxHeartbeats 8000000 in
theorem w_possible {h : FH} {w : World} (hs : Sub h w) (t : Task) (at_ : Option Addr) (ct : Nat) (_q1 : RSl h at_ t.init) (_q2 : t.init.length ≤ ct) (at_2 : Option Addr) (ct2 : Nat) (_q3 : RSl h at_2 t.goal) (_q4 : t.goal.length ≤ ct2) (at_3 : Option Addr) (ct3 : Nat) (_q5 : RSl h at_3 t.ops) (_q6 : t.ops.length ≤ ct3) (unknown : List Int) (aunknown : Option Addr) (cunknown : Nat) (_q7 : RSl h aunknown unknown) (_q8 : unknown.length ≤ cunknown) (K : (List (List Int)) → Prop) (hF : F_possible t unknown K) : Calls Tryz.prog 16 #[.agg #[iV t.facts, .slice at_ t.init.length ct, .slice at_2 t.goal.length ct2, .slice at_3 t.ops.length ct3], .slice aunknown unknown.length cunknown] w fun e w' => ∃ (r : List (List Int)) (z : Option Addr × Nat) (h1 : FH), K r ∧ e = .returned (.slice z.1 r.length z.2) ∧ FH.le h h1 ∧ (RSl h1 z.1 r ∧ r.length ≤ z.2) ∧ SH (Kp.all w h) h1 w' [] := by
 refine enter (args := [.agg (tF t at_ ct at_2 ct2 at_3 ct3).toArray, vSl aunknown unknown cunknown]) Tryz.func16 rfl Tryz.ntmps16 rfl hs ?_
 refine .seq (.region ?_)
 refine bx (vs := (tF t at_ ct at_2 ct2 at_3 ct3)) rfl rfl rfl (fun pt => ?_)
 refine .V ag0 ?_
 refine .nil (.seqN (.seq (.region (.V (fa rfl tF25_1) ?_))))
 refine .V (ld1 rfl tO22 (cellB (off := 1) (k := 0) rfl rfl)) ?_
 refine bs2 (cs := #[vSl at_ t.init ct]) (pv := [(0, vSl at_ t.init ct)]) tS35 rfl rfl (by decide) (by decide) rfl rfl rfl (fun a _ => ?_)
 refine .KA [OwnSl 22 1 a (([t.init] : List (List Int)).length) 1 [vSl at_ t.init ct], Box pt (tF t at_ ct at_2 ct2 at_3 ct3)] ?_
 refine .freezeL (k := 0) rfl (fun h1 le1 q11 q10 => ?_)
 refine .KA [tru, Box pt (tF t at_ ct at_2 ct2 at_3 ct3)] ?_
 refine .V ag0 ?_
 refine .nil (.seqN (.seq (.seq (.region (.V ag0 ?_)))))
 refine .nil (.seqN (.block ?_))
 refine .sel0 [1] (by decide) rfl ?_
 obtain ⟨I1, μ1, q12258, q12259⟩ := hF
 refine .loop' (σ := List (List Int) × Int × Option Addr × Nat × FH) (fun z => I1 z.1 z.2.1 ∧ RSl z.2.2.2.2 z.2.2.1 z.1 ∧ z.1.length ≤ z.2.2.2.1 ∧ FH.le h1 z.2.2.2.2) (fun z => μ1 z.1 z.2.1) (fun z => [(1, vSl aunknown unknown cunknown), (2, .pointer (some pt)), (5, vSl z.2.2.1 z.1 z.2.2.2.1), (6, iV z.2.1)]) (fun _ => [Box pt (tF t at_ ct at_2 ct2 at_3 ct3)]) (fun z => z.2.2.2.2) (([t.init] : List (List Int)), 0, a, 1, h1) ⟨q12258, (show RSl h1 a ([t.init] : List (List Int)) from ⟨_, (show RepL h ([t.init] : List (List Int)) [vSl at_ t.init ct] from ⟨[vSl at_ t.init ct], _, rfl, ⟨at_, ct, rfl, _q2, _q1⟩, rfl⟩).mono (le1), q10⟩), (q11), (FH.le_refl _)⟩ sb rfl (FH.le_refl _) ?_
 rintro ⟨out, i, aout, cout, h2048⟩ ⟨q12258, q9808, q9809, q9810⟩
 have hF := q12259 out i q12258
 show J _ _ _ _ _ [(1, vSl aunknown unknown cunknown), (2, .pointer (some pt)), (5, vSl aout out cout), (6, iV i)] [Box pt (tF t at_ ct at_2 ct2 at_3 ct3)] h2048
 refine .seq (.seq (.region (.V mv0 ?_)))
 refine .V mv0 ?_
 refine .V (ln rfl tS22.is) ?_
 refine .V bi0 ?_
 refine .nil (.seqN ?_)
 refine .cond rfl (fun q12261 => ?_) (fun q12261 => ?_)
 ·replace hF := hF.1 q12261
  refine .skip (.seqN (.seq (.block (.seq (.region (.V ag0 ?_))))))
  refine .nil (.seqN (.seq (.seq (.region (.V ag0 ?_)))))
  refine .nil (.seqN (.block ?_))
  obtain ⟨I2, μ2, q14571, q14572⟩ := hF
  refine .loop' (σ := List (List Int) × Int × Option Addr × Nat × FH) (fun z => I2 z.1 z.2.1 ∧ RSl z.2.2.2.2 z.2.2.1 z.1 ∧ z.1.length ≤ z.2.2.2.1 ∧ FH.le h2048 z.2.2.2.2) (fun z => μ2 z.1 z.2.1) (fun z => [(1, vSl aunknown unknown cunknown), (2, .pointer (some pt)), (5, vSl aout out cout), (6, iV i), (7, vSl z.2.2.1 z.1 z.2.2.2.1), (8, iV z.2.1)]) (fun _ => [Box pt (tF t at_ ct at_2 ct2 at_3 ct3)]) (fun z => z.2.2.2.2) ([], 0, none, 0, h2048) ⟨q14571, RSl.nil_, (Nat.le_refl 0), (FH.le_refl _)⟩ sb rfl (FH.le_refl _) ?_
  rintro ⟨next, k, anext, cnext, h3014⟩ ⟨q14571, q14434, q14435, q14436⟩
  have hF := q14572 next k q14571
  show J _ _ _ _ _ [(1, vSl aunknown unknown cunknown), (2, .pointer (some pt)), (5, vSl aout out cout), (6, iV i), (7, vSl anext next cnext), (8, iV k)] [Box pt (tF t at_ ct at_2 ct2 at_3 ct3)] h3014
  refine .seq (.seq (.region (.V mv0 ?_)))
  refine .V mv0 ?_
  refine .V (ln rfl tS35.is) ?_
  refine .V bi0 ?_
  refine .nil (.seqN ?_)
  refine .cond rfl (fun q14574 => ?_) (fun q14574 => ?_)
  ·replace hF := hF.1 q14574
   refine .skip (.seqN (.seq (.block (.seq ?_))))
   obtain ⟨q14677, hF⟩ := hF
   obtain ⟨_, ⟨a2, c, rfl, q14678, q14679⟩, q14680⟩ := q9808.elem q14677
   obtain ⟨q14681, hF⟩ := hF
   refine .openA (s0 := [(1, vSl aunknown unknown cunknown), (2, .pointer (some pt)), (5, vSl aout out cout), (6, iV i), (7, vSl anext next cnext), (8, iV k)]) [0, 1, 2, 3, 4, 5, 6, 7, 8, 9, 10] [(0, vSl anext next cnext), (1, .pointer (some (pt.add 0))), (2, iV t.facts), (3, vSl aout out cout), (4, iV k), (5, .pointer (some (ead aout (k.toNat * 1)))), (6, .slice a2 ((gt out k).length) c), (7, vSl aunknown unknown cunknown), (8, iV i), (9, .pointer (some (ead aunknown (i.toNat * 1)))), (10, iV (gt unknown i))] (by kernel_rfl) sb [1, 2, 5, 6, 7, 8] [14] rfl (by kernel_rfl) ?_
   refine .step [11] 11 rfl (by kernel_rfl) (by kernel_rfl) (.v [] rfl rfl rfl rfl rfl rfl (fun _ => mv rfl) (.v [] rfl rfl rfl rfl rfl rfl (fun _ => fa rfl tF25_0) (.v [(25, .pointer (some (pt.add 0)))] rfl rfl rfl rfl rfl rfl (fun _ => ld1 rfl tO3 (cellB (off := 0) (k := 0) rfl rfl)) (.v [] rfl rfl rfl rfl rfl rfl (fun _ => mv rfl) (.v [] rfl rfl rfl rfl rfl rfl (fun _ => mv rfl) (.v [(27, vSl aout out cout), (28, iV k)] rfl rfl rfl rfl rfl rfl (fun _ => ix rfl rfl tS35 (q9808.ne (by decide) (inb_pos q14677)) q14677) (.v [(29, .pointer (some (ead aout (k.toNat * 1))))] rfl rfl rfl rfl rfl rfl (fun _ => ld1 (v := .slice a2 ((gt out k).length) c) rfl tO22 (cellH ((fun q => (q14680 q).mono (q14436)) (by decide) 0 _ rfl))) (.v [] rfl rfl rfl rfl rfl rfl (fun _ => mv rfl) (.v [] rfl rfl rfl rfl rfl rfl (fun _ => mv rfl) (.v [(31, vSl aunknown unknown cunknown), (32, iV i)] rfl rfl rfl rfl rfl rfl (fun _ => ix rfl rfl tS22 (_q7.ne (by decide) (inb_pos q14681)) q14681) (.v [(33, .pointer (some (ead aunknown (i.toNat * 1))))] rfl rfl rfl rfl rfl rfl (fun _ => ld1 (v := iV (gt unknown i)) rfl tO3 (cellH ((_q7.mono (FH.le_trans (FH.le_trans (le1) (q9810)) (q14436))).elemF q14681 (by decide) 0 _ rfl))) (.nil)))))))))))) (.cons [(34, iV (gt unknown i))] rfl rfl (fun sL hL => ?_) (.nil))
   refine bs2 (cs := #[iV (gt unknown i)]) (pv := [(0, iV (gt unknown i))]) tS22 rfl rfl (by decide) (by decide) rfl rfl rfl (fun a3 _ => ?_)
   refine .KA [oL 3 1 a3 ([(gt unknown i)] : List Int) 1, Box pt (tF t at_ ct at_2 ct2 at_3 ct3)] ?_
   refine .nil ?_
   refine .ja (M := [10, 9, 7, 8]) (C' := [0, 1, 2, 3, 4, 5, 6]) (pre := [(11, .slice a3 (([(gt unknown i)] : List Int).length) 1)]) [(1, vSl aunknown unknown cunknown), (2, .pointer (some pt)), (5, vSl aout out cout), (6, iV i), (7, vSl anext next cnext), (8, iV k)] [1, 2, 5, 6, 7, 8] hL rfl rfl rfl rfl rfl sb rfl rfl (by kernel_rfl) ?_
   refine .step [12] 12 rfl (by kernel_rfl) (by kernel_rfl) (.v [] rfl rfl rfl rfl rfl rfl (fun _ => mv rfl) (.v [] rfl rfl rfl rfl rfl rfl (fun _ => fa rfl tF25_0) (.v [(25, .pointer (some (pt.add 0)))] rfl rfl rfl rfl rfl rfl (fun _ => ld1 rfl tO3 (cellB (off := 0) (k := 1) rfl rfl)) (.v [] rfl rfl rfl rfl rfl rfl (fun _ => mv rfl) (.v [] rfl rfl rfl rfl rfl rfl (fun _ => mv rfl) (.v [(27, vSl aout out cout), (28, iV k)] rfl rfl rfl rfl rfl rfl (fun _ => ix rfl rfl tS35 (q9808.ne (by decide) (inb_pos q14677)) q14677) (.v [(29, .pointer (some (ead aout (k.toNat * 1))))] rfl rfl rfl rfl rfl rfl (fun _ => ld1 (v := .slice a2 ((gt out k).length) c) rfl tO22 (cellH ((fun q => (q14680 q).mono (q14436)) (by decide) 0 _ rfl))) (.nil)))))))) (.cons [(26, iV t.facts), (30, .slice a2 ((gt out k).length) c), (35, .slice a3 (([(gt unknown i)] : List Int).length) 1)] rfl rfl (fun sL hL => ?_) (.nil))
   refine .freezeL (k := 0) rfl (fun h3064 le3064 q14684 q14683 => ?_)
   refine .KA [tru, Box pt (tF t at_ ct at_2 ct2 at_3 ct3)] ?_
   obtain ⟨q14685, hF⟩ := hF
   obtain ⟨r2, q14686⟩ : ∃ y_ : List Int, y_ = sp_changed t.facts (gt out k) ([(gt unknown i)] : List Int) [] := ⟨_, rfl⟩
   replace hF := hF r2 q14686
   refine clR (α := Option Addr × Nat) (Φ := fun h1 z => RSl h1 z.1 r2 ∧ r2.length ≤ z.2) (V := fun z => vSl z.1 r2 z.2) Tryz.call58 rfl rfl (fun w S => (by rw [q14686]; exact c_changed S.sub t.facts (gt out k) a2 c (q14679.mono (FH.le_trans (q14436) (le3064))) q14678 ([(gt unknown i)] : List Int) a3 1 (RSl.of q14683) (q14684) [] none 0 RSl.nil_ (Nat.le_refl 0) q14685)) rfl (fun z h3065 le3065 hz => ?_)
   obtain ⟨a4, c2⟩ := z
   obtain ⟨q14687, q14688⟩ := hz
   refine .nil ?_
   refine .ja (M := [2, 6, 1, 5, 3, 4]) (C' := [0]) (pre := [(12, vSl a4 r2 c2)]) [(1, vSl aunknown unknown cunknown), (2, .pointer (some pt)), (5, vSl aout out cout), (6, iV i), (7, vSl anext next cnext), (8, iV k)] [1, 2, 5, 6, 7, 8] hL rfl rfl rfl rfl rfl sb rfl rfl (by kernel_rfl) ?_
   refine .step [13] 13 rfl (by kernel_rfl) (by kernel_rfl) (.v [] rfl rfl rfl rfl rfl rfl (fun _ => mv rfl) (.nil)) (.cons [(24, vSl anext next cnext), (36, vSl a4 r2 c2), (36, vSl a4 r2 c2)] rfl rfl (fun sL hL => ?_) (.nil))
   obtain ⟨q14689, hF⟩ := hF
   obtain ⟨r3, q14690⟩ : ∃ y_ : List (List Int), y_ = sp_insert next r2 := ⟨_, rfl⟩
   replace hF := hF r3 q14690
   refine clR (α := Option Addr × Nat) (Φ := fun h1 z => RSl h1 z.1 r3 ∧ r3.length ≤ z.2) (V := fun z => vSl z.1 r3 z.2) Tryz.call57 rfl rfl (fun w S => (by rw [q14690]; exact c_insert S.sub next anext cnext (q14434.mono (FH.le_trans (le3064) (le3065))) q14435 r2 a4 c2 q14687 q14688 q14689)) rfl (fun z h3066 le3066 hz => ?_)
   obtain ⟨a5, c3⟩ := z
   obtain ⟨q14691, q14692⟩ := hz
   refine .nil ?_
   refine .ja (M := [0]) (C' := []) (pre := [(13, vSl a5 r3 c3)]) [(1, vSl aunknown unknown cunknown), (2, .pointer (some pt)), (5, vSl aout out cout), (6, iV i), (7, vSl anext next cnext), (8, iV k)] [1, 2, 5, 6, 7, 8] hL rfl rfl rfl rfl rfl sb rfl rfl (by kernel_rfl) ?_
   refine .step [14] 14 rfl (by kernel_rfl) (by kernel_rfl) (.nil) (.cons [(37, vSl a5 r3 c3), (37, vSl a5 r3 c3), (24, vSl anext next cnext), (25, .pointer (some (pt.add 0))), (26, iV t.facts), (27, vSl aout out cout), (28, iV k), (29, .pointer (some (ead aout (k.toNat * 1)))), (30, .slice a2 ((gt out k).length) c), (31, vSl aunknown unknown cunknown), (32, iV i), (33, .pointer (some (ead aunknown (i.toNat * 1)))), (34, iV (gt unknown i)), (35, .slice a3 (([(gt unknown i)] : List Int).length) 1), (36, vSl a4 r2 c2), (37, vSl a5 r3 c3)] rfl rfl (fun sL hL => ?_) (.nil))
   refine .V ag0 ?_
   refine .nil ?_
   refine .ja (M := []) (C' := []) (pre := [(14, vSl a5 r3 c3)]) [(1, vSl aunknown unknown cunknown), (2, .pointer (some pt)), (5, vSl aout out cout), (6, iV i), (8, iV k)] [1, 2, 5, 6, 8] hL rfl rfl rfl rfl rfl sb rfl rfl (by kernel_rfl) ?_
   refine .last [(24, vSl anext next cnext), (25, .pointer (some (pt.add 0))), (26, iV t.facts), (27, vSl aout out cout), (28, iV k), (29, .pointer (some (ead aout (k.toNat * 1)))), (30, .slice a2 ((gt out k).length) c), (31, vSl aunknown unknown cunknown), (32, iV i), (33, .pointer (some (ead aunknown (i.toNat * 1)))), (34, iV (gt unknown i)), (35, .slice a3 (([(gt unknown i)] : List Int).length) 1), (36, vSl a4 r2 c2), (37, vSl a5 r3 c3), (7, vSl a5 r3 c3)] rfl (by kernel_rfl) (.nil) rfl ?_
   refine .seqN ?_
   refine .openA (s0 := [(1, vSl aunknown unknown cunknown), (2, .pointer (some pt)), (5, vSl aout out cout), (6, iV i), (7, vSl a5 r3 c3), (8, iV k)]) [0, 1, 2, 3, 4, 5, 6, 7, 8, 9, 10] [(0, vSl a5 r3 c3), (1, .pointer (some (pt.add 0))), (2, iV t.facts), (3, vSl aout out cout), (4, iV k), (5, .pointer (some (ead aout (k.toNat * 1)))), (6, .slice a2 ((gt out k).length) c), (7, vSl aunknown unknown cunknown), (8, iV i), (9, .pointer (some (ead aunknown (i.toNat * 1)))), (10, iV (gt unknown i))] (by kernel_rfl) sb [1, 2, 5, 6, 7, 8] [14] rfl (by kernel_rfl) ?_
   refine .step [11] 11 rfl (by kernel_rfl) (by kernel_rfl) (.v [] rfl rfl rfl rfl rfl rfl (fun _ => mv rfl) (.v [] rfl rfl rfl rfl rfl rfl (fun _ => fa rfl tF25_0) (.v [(39, .pointer (some (pt.add 0)))] rfl rfl rfl rfl rfl rfl (fun _ => ld1 rfl tO3 (cellB (off := 0) (k := 1) rfl rfl)) (.v [] rfl rfl rfl rfl rfl rfl (fun _ => mv rfl) (.v [] rfl rfl rfl rfl rfl rfl (fun _ => mv rfl) (.v [(41, vSl aout out cout), (42, iV k)] rfl rfl rfl rfl rfl rfl (fun _ => ix rfl rfl tS35 (q9808.ne (by decide) (inb_pos q14677)) q14677) (.v [(43, .pointer (some (ead aout (k.toNat * 1))))] rfl rfl rfl rfl rfl rfl (fun _ => ld1 (v := .slice a2 ((gt out k).length) c) rfl tO22 (cellH ((fun q => (q14680 q).mono (FH.le_trans (FH.le_trans (FH.le_trans (q14436) (le3064)) (le3065)) (le3066))) (by decide) 0 _ rfl))) (.v [] rfl rfl rfl rfl rfl rfl (fun _ => mv rfl) (.v [] rfl rfl rfl rfl rfl rfl (fun _ => mv rfl) (.v [(45, vSl aunknown unknown cunknown), (46, iV i)] rfl rfl rfl rfl rfl rfl (fun _ => ix rfl rfl tS22 (_q7.ne (by decide) (inb_pos q14681)) q14681) (.v [(47, .pointer (some (ead aunknown (i.toNat * 1))))] rfl rfl rfl rfl rfl rfl (fun _ => ld1 (v := iV (gt unknown i)) rfl tO3 (cellH ((_q7.mono (FH.le_trans (FH.le_trans (FH.le_trans (FH.le_trans (FH.le_trans (le1) (q9810)) (q14436)) (le3064)) (le3065)) (le3066))).elemF q14681 (by decide) 0 _ rfl))) (.nil)))))))))))) (.cons [(48, iV (gt unknown i))] rfl rfl (fun sL hL => ?_) (.nil))
   refine bs2 (cs := #[iV (gt unknown i)]) (pv := [(0, iV (gt unknown i))]) tS22 rfl rfl (by decide) (by decide) rfl rfl rfl (fun a6 _ => ?_)
   refine .KA [oL 3 1 a6 ([(gt unknown i)] : List Int) 1, tru, Box pt (tF t at_ ct at_2 ct2 at_3 ct3)] ?_
   refine .nil ?_
   refine .ja (M := [10, 9, 7, 8]) (C' := [0, 1, 2, 3, 4, 5, 6]) (pre := [(11, .slice a6 (([(gt unknown i)] : List Int).length) 1)]) [(1, vSl aunknown unknown cunknown), (2, .pointer (some pt)), (5, vSl aout out cout), (6, iV i), (7, vSl a5 r3 c3), (8, iV k)] [1, 2, 5, 6, 7, 8] hL rfl rfl rfl rfl rfl sb rfl rfl (by kernel_rfl) ?_
   refine .step [12] 12 rfl (by kernel_rfl) (by kernel_rfl) (.v [] rfl rfl rfl rfl rfl rfl (fun _ => mv rfl) (.v [] rfl rfl rfl rfl rfl rfl (fun _ => fa rfl tF25_0) (.v [(39, .pointer (some (pt.add 0)))] rfl rfl rfl rfl rfl rfl (fun _ => ld1 rfl tO3 (cellB (off := 0) (k := 2) rfl rfl)) (.v [] rfl rfl rfl rfl rfl rfl (fun _ => mv rfl) (.v [] rfl rfl rfl rfl rfl rfl (fun _ => mv rfl) (.v [(41, vSl aout out cout), (42, iV k)] rfl rfl rfl rfl rfl rfl (fun _ => ix rfl rfl tS35 (q9808.ne (by decide) (inb_pos q14677)) q14677) (.v [(43, .pointer (some (ead aout (k.toNat * 1))))] rfl rfl rfl rfl rfl rfl (fun _ => ld1 (v := .slice a2 ((gt out k).length) c) rfl tO22 (cellH ((fun q => (q14680 q).mono (FH.le_trans (FH.le_trans (FH.le_trans (q14436) (le3064)) (le3065)) (le3066))) (by decide) 0 _ rfl))) (.nil)))))))) (.cons [(40, iV t.facts), (44, .slice a2 ((gt out k).length) c), (49, .slice a6 (([(gt unknown i)] : List Int).length) 1)] rfl rfl (fun sL hL => ?_) (.nil))
   refine .freezeL (k := 0) rfl (fun h3067 le3067 q14695 q14694 => ?_)
   refine .KA [tru, tru, Box pt (tF t at_ ct at_2 ct2 at_3 ct3)] ?_
   obtain ⟨q14696, hF⟩ := hF
   obtain ⟨r4, q14697⟩ : ∃ y_ : List Int, y_ = sp_changed t.facts (gt out k) [] ([(gt unknown i)] : List Int) := ⟨_, rfl⟩
   replace hF := hF r4 q14697
   refine clR (α := Option Addr × Nat) (Φ := fun h1 z => RSl h1 z.1 r4 ∧ r4.length ≤ z.2) (V := fun z => vSl z.1 r4 z.2) Tryz.call58 rfl rfl (fun w S => (by rw [q14697]; exact c_changed S.sub t.facts (gt out k) a2 c (q14679.mono (FH.le_trans (FH.le_trans (FH.le_trans (FH.le_trans (q14436) (le3064)) (le3065)) (le3066)) (le3067))) q14678 [] none 0 RSl.nil_ (Nat.le_refl 0) ([(gt unknown i)] : List Int) a6 1 (RSl.of q14694) (q14695) q14696)) rfl (fun z h3068 le3068 hz => ?_)
   obtain ⟨a7, c4⟩ := z
   obtain ⟨q14698, q14699⟩ := hz
   refine .nil ?_
   refine .ja (M := [2, 6, 1, 5, 3, 4]) (C' := [0]) (pre := [(12, vSl a7 r4 c4)]) [(1, vSl aunknown unknown cunknown), (2, .pointer (some pt)), (5, vSl aout out cout), (6, iV i), (7, vSl a5 r3 c3), (8, iV k)] [1, 2, 5, 6, 7, 8] hL rfl rfl rfl rfl rfl sb rfl rfl (by kernel_rfl) ?_
   refine .step [13] 13 rfl (by kernel_rfl) (by kernel_rfl) (.v [] rfl rfl rfl rfl rfl rfl (fun _ => mv rfl) (.nil)) (.cons [(38, vSl a5 r3 c3), (50, vSl a7 r4 c4), (50, vSl a7 r4 c4)] rfl rfl (fun sL hL => ?_) (.nil))
   obtain ⟨q14700, hF⟩ := hF
   obtain ⟨r5, q14701⟩ : ∃ y_ : List (List Int), y_ = sp_insert r3 r4 := ⟨_, rfl⟩
   replace hF := hF r5 q14701
   refine clR (α := Option Addr × Nat) (Φ := fun h1 z => RSl h1 z.1 r5 ∧ r5.length ≤ z.2) (V := fun z => vSl z.1 r5 z.2) Tryz.call57 rfl rfl (fun w S => (by rw [q14701]; exact c_insert S.sub r3 a5 c3 (q14691.mono (FH.le_trans (le3067) (le3068))) q14692 r4 a7 c4 q14698 q14699 q14700)) rfl (fun z h3069 le3069 hz => ?_)
   obtain ⟨a8, c5⟩ := z
   obtain ⟨q14702, q14703⟩ := hz
   refine .nil ?_
   refine .ja (M := [0]) (C' := []) (pre := [(13, vSl a8 r5 c5)]) [(1, vSl aunknown unknown cunknown), (2, .pointer (some pt)), (5, vSl aout out cout), (6, iV i), (7, vSl a5 r3 c3), (8, iV k)] [1, 2, 5, 6, 7, 8] hL rfl rfl rfl rfl rfl sb rfl rfl (by kernel_rfl) ?_
   refine .step [14] 14 rfl (by kernel_rfl) (by kernel_rfl) (.nil) (.cons [(51, vSl a8 r5 c5), (51, vSl a8 r5 c5), (38, vSl a5 r3 c3), (39, .pointer (some (pt.add 0))), (40, iV t.facts), (41, vSl aout out cout), (42, iV k), (43, .pointer (some (ead aout (k.toNat * 1)))), (44, .slice a2 ((gt out k).length) c), (45, vSl aunknown unknown cunknown), (46, iV i), (47, .pointer (some (ead aunknown (i.toNat * 1)))), (48, iV (gt unknown i)), (49, .slice a6 (([(gt unknown i)] : List Int).length) 1), (50, vSl a7 r4 c4), (51, vSl a8 r5 c5)] rfl rfl (fun sL hL => ?_) (.nil))
   refine .V ag0 ?_
   refine .nil ?_
   refine .ja (M := []) (C' := []) (pre := [(14, vSl a8 r5 c5)]) [(1, vSl aunknown unknown cunknown), (2, .pointer (some pt)), (5, vSl aout out cout), (6, iV i), (8, iV k)] [1, 2, 5, 6, 8] hL rfl rfl rfl rfl rfl sb rfl rfl (by kernel_rfl) ?_
   refine .last [(38, vSl a5 r3 c3), (39, .pointer (some (pt.add 0))), (40, iV t.facts), (41, vSl aout out cout), (42, iV k), (43, .pointer (some (ead aout (k.toNat * 1)))), (44, .slice a2 ((gt out k).length) c), (45, vSl aunknown unknown cunknown), (46, iV i), (47, .pointer (some (ead aunknown (i.toNat * 1)))), (48, iV (gt unknown i)), (49, .slice a6 (([(gt unknown i)] : List Int).length) 1), (50, vSl a7 r4 c4), (51, vSl a8 r5 c5), (7, vSl a8 r5 c5)] rfl (by kernel_rfl) (.nil) rfl ?_
   refine .blkN (.seqN (.region (.V mv0 ?_)))
   refine .V bi0 ?_
   refine .V ag0 ?_
   refine .nil ?_
   refine .sel0 [2] (by decide) rfl ?_
   exact .RO (r5, wr (k + 1), a8, c5, h3069) ⟨hF.1, q14702, q14703, (FH.le_trans (FH.le_trans (FH.le_trans (FH.le_trans (FH.le_trans (FH.le_trans (q14436) (le3064)) (le3065)) (le3066)) (le3067)) (le3068)) (le3069))⟩ hF.2
  replace hF := hF.2 q14574
  refine .exit (.seqX (.seqX (.blkX (.seqN (.region (.V mv0 ?_))))))
  refine .V ag0 ?_
  refine .nil (.blkN (.seqN (.region (.V mv0 ?_))))
  refine .V bi0 ?_
  refine .V ag0 ?_
  refine .nil ?_
  exact .RO (next, wr (i + 1), anext, cnext, h3014) ⟨hF.1, q14434, q14435, (FH.le_trans (q9810) (q14436))⟩ hF.2
 replace hF := hF.2 q12261
 refine .exit (.seqX (.seqX (.blkX (.seqN (.seq (.region (.V mv0 ?_)))))))
 refine .V ag0 ?_
 refine .nil (.seqN (.ret ?_))
 refine .res1 rfl (rvT rfl) (fun w' S => ⟨out, (aout, cout), h2048, hF, rfl, (FH.le_trans (le1) (q9810)), ⟨q9808, q9809⟩, S.none⟩)
theorem c_possible {h : FH} {w : World} (hs : Sub h w) (t : Task) (at_ : Option Addr) (ct : Nat) (_q1 : RSl h at_ t.init) (_q2 : t.init.length ≤ ct) (at_2 : Option Addr) (ct2 : Nat) (_q3 : RSl h at_2 t.goal) (_q4 : t.goal.length ≤ ct2) (at_3 : Option Addr) (ct3 : Nat) (_q5 : RSl h at_3 t.ops) (_q6 : t.ops.length ≤ ct3) (unknown : List Int) (aunknown : Option Addr) (cunknown : Nat) (_q7 : RSl h aunknown unknown) (_q8 : unknown.length ≤ cunknown) (hp : pre_possible t unknown) : Calls Tryz.prog 16 #[.agg #[iV t.facts, .slice at_ t.init.length ct, .slice at_2 t.goal.length ct2, .slice at_3 t.ops.length ct3], .slice aunknown unknown.length cunknown] w fun e w' => ∃ (z : Option Addr × Nat) (h1 : FH), e = .returned (.slice z.1 (sp_possible t unknown).length z.2) ∧ FH.le h h1 ∧ (RSl h1 z.1 (sp_possible t unknown) ∧ (sp_possible t unknown).length ≤ z.2) ∧ SH (Kp.all w h) h1 w' [] :=
 (w_possible hs t at_ ct _q1 _q2 at_2 ct2 _q3 _q4 at_3 ct3 _q5 _q6 unknown aunknown cunknown _q7 _q8 (fun r => r = sp_possible t unknown) (ok_possible t unknown hp)).mono fun _ _ ⟨r, z, h1, hk, he, hl, hf, hS⟩ => by subst hk; exact ⟨z, h1, he, hl, hf, hS⟩
end Go.Proofs.YtojoehfldbimpaaGreatDoor.Pl

namespace Go.Proofs.YtojoehfldbimpaaGreatDoor.Pl
open Go Go.RowKit
theorem w_afterAll {h : FH} {w : World} (hs : Sub h w) (t : Task) (at_ : Option Addr) (ct : Nat) (_q1 : RSl h at_ t.init) (_q2 : t.init.length ≤ ct) (at_2 : Option Addr) (ct2 : Nat) (_q3 : RSl h at_2 t.goal) (_q4 : t.goal.length ≤ ct2) (at_3 : Option Addr) (ct3 : Nat) (_q5 : RSl h at_3 t.ops) (_q6 : t.ops.length ≤ ct3) (l : List (List Int)) (al2 : Option Addr) (cl2 : Nat) (_q7 : RSl h al2 l) (_q8 : l.length ≤ cl2) (op : Int) (K : (List (List Int)) → Prop) (hF : F_afterAll t l op K) : Calls Tryz.prog 28 #[.agg #[iV t.facts, .slice at_ t.init.length ct, .slice at_2 t.goal.length ct2, .slice at_3 t.ops.length ct3], .slice al2 l.length cl2, iV op] w fun e w' => ∃ (r : List (List Int)) (z : Option Addr × Nat) (h1 : FH), K r ∧ e = .returned (.slice z.1 r.length z.2) ∧ FH.le h h1 ∧ (RSl h1 z.1 r ∧ r.length ≤ z.2) ∧ SH (Kp.all w h) h1 w' [] := by
 refine enter (args := [.agg (tF t at_ ct at_2 ct2 at_3 ct3).toArray, vSl al2 l cl2, iV op]) Tryz.func28 rfl Tryz.ntmps28 rfl hs ?_
 refine .seq (.region ?_)
 refine bx (vs := (tF t at_ ct at_2 ct2 at_3 ct3)) rfl rfl rfl (fun pt => ?_)
 refine .V ag0 ?_
 refine .nil (.seqN (.seq (.region (.V ag0 ?_))))
 refine .nil (.seqN (.seq (.seq (.region (.V ag0 ?_)))))
 refine .nil (.seqN (.block ?_))
 obtain ⟨I1, μ1, q225, q226⟩ := hF
 refine .loop' (σ := List (List Int) × Int × Option Addr × Nat × FH) (fun z => I1 z.1 z.2.1 ∧ RSl z.2.2.2.2 z.2.2.1 z.1 ∧ z.1.length ≤ z.2.2.2.1 ∧ FH.le h z.2.2.2.2) (fun z => μ1 z.1 z.2.1) (fun z => [(1, vSl al2 l cl2), (2, iV op), (3, .pointer (some pt)), (7, vSl z.2.2.1 z.1 z.2.2.2.1), (8, iV z.2.1)]) (fun _ => [Box pt (tF t at_ ct at_2 ct2 at_3 ct3)]) (fun z => z.2.2.2.2) ([], 0, none, 0, h) ⟨q225, RSl.nil_, (Nat.le_refl 0), (FH.le_refl _)⟩ sb rfl (FH.le_refl _) ?_
 rintro ⟨out, i, aout, cout, h31⟩ ⟨q225, q181, q182, q183⟩
 have hF := q226 out i q225
 show J _ _ _ _ _ [(1, vSl al2 l cl2), (2, iV op), (3, .pointer (some pt)), (7, vSl aout out cout), (8, iV i)] [Box pt (tF t at_ ct at_2 ct2 at_3 ct3)] h31
 refine .seq (.seq (.region (.V mv0 ?_)))
 refine .V mv0 ?_
 refine .V (ln rfl tS35.is) ?_
 refine .V bi0 ?_
 refine .nil (.seqN ?_)
 refine .cond rfl (fun q228 => ?_) (fun q228 => ?_)
 ·replace hF := hF.1 q228
  refine .skip (.seqN (.seq (.block ?_)))
  obtain ⟨q253, hF⟩ := hF
  obtain ⟨_, ⟨a, c, rfl, q254, q255⟩, q256⟩ := _q7.elem q253
  refine .openA (s0 := [(1, vSl al2 l cl2), (2, iV op), (3, .pointer (some pt)), (7, vSl aout out cout), (8, iV i)]) [0, 1, 2, 3, 4, 5, 6] [(0, vSl aout out cout), (1, .agg (tF t at_ ct at_2 ct2 at_3 ct3).toArray), (2, vSl al2 l cl2), (3, iV i), (4, .pointer (some (ead al2 (i.toNat * 1)))), (5, .slice a ((gt l i).length) c), (6, iV op)] (by kernel_rfl) sb [1, 2, 3, 7, 8] [9] rfl (by kernel_rfl) ?_
  refine .step [7] 7 rfl (by kernel_rfl) (by kernel_rfl) (.v [] rfl rfl rfl rfl rfl rfl (fun _ => mv rfl) (.v [] rfl rfl rfl rfl rfl rfl (fun _ => ldA (cs := (tF t at_ ct at_2 ct2 at_3 ct3)) rfl tA25 rfl (cellsB (off := 0) (k := 0) rfl (m := 4) rfl)) (.v [] rfl rfl rfl rfl rfl rfl (fun _ => mv rfl) (.v [] rfl rfl rfl rfl rfl rfl (fun _ => mv rfl) (.v [(17, vSl al2 l cl2), (18, iV i)] rfl rfl rfl rfl rfl rfl (fun _ => ix rfl rfl tS35 (_q7.ne (by decide) (inb_pos q253)) q253) (.v [(19, .pointer (some (ead al2 (i.toNat * 1))))] rfl rfl rfl rfl rfl rfl (fun _ => ld1 (v := .slice a ((gt l i).length) c) rfl tO22 (cellH ((fun q => (q256 q).mono (q183)) (by decide) 0 _ rfl))) (.v [] rfl rfl rfl rfl rfl rfl (fun _ => mv rfl) (.nil)))))))) (.cons [(16, .agg (tF t at_ ct at_2 ct2 at_3 ct3).toArray), (20, .slice a ((gt l i).length) c), (21, iV op)] rfl rfl (fun sL hL => ?_) (.nil))
  obtain ⟨q257, hF⟩ := hF
  obtain ⟨r2, q258⟩ : ∃ y_ : List Int, y_ = sp_after t (gt l i) op := ⟨_, rfl⟩
  replace hF := hF r2 q258
  refine clR (α := Option Addr × Nat) (Φ := fun h1 z => RSl h1 z.1 r2 ∧ r2.length ≤ z.2) (V := fun z => vSl z.1 r2 z.2) Tryz.call64 rfl rfl (fun w S => (by rw [q258]; exact c_after S.sub t at_ ct (_q1.mono (q183)) _q2 at_2 ct2 (_q3.mono (q183)) _q4 at_3 ct3 (_q5.mono (q183)) _q6 (gt l i) a c (q255.mono (q183)) q254 op q257)) rfl (fun z h43 le43 hz => ?_)
  obtain ⟨a2, c2⟩ := z
  obtain ⟨q259, q260⟩ := hz
  refine .nil ?_
  refine .ja (M := [1, 5, 6, 4, 2, 3]) (C' := [0]) (pre := [(7, vSl a2 r2 c2)]) [(1, vSl al2 l cl2), (2, iV op), (3, .pointer (some pt)), (7, vSl aout out cout), (8, iV i)] [1, 2, 3, 7, 8] hL rfl rfl rfl rfl rfl sb rfl rfl (by kernel_rfl) ?_
  refine .step [8] 8 rfl (by kernel_rfl) (by kernel_rfl) (.v [] rfl rfl rfl rfl rfl rfl (fun _ => mv rfl) (.nil)) (.cons [(15, vSl aout out cout), (22, vSl a2 r2 c2), (22, vSl a2 r2 c2)] rfl rfl (fun sL hL => ?_) (.nil))
  obtain ⟨q261, hF⟩ := hF
  obtain ⟨r3, q262⟩ : ∃ y_ : List (List Int), y_ = sp_insert out r2 := ⟨_, rfl⟩
  replace hF := hF r3 q262
  refine clR (α := Option Addr × Nat) (Φ := fun h1 z => RSl h1 z.1 r3 ∧ r3.length ≤ z.2) (V := fun z => vSl z.1 r3 z.2) Tryz.call57 rfl rfl (fun w S => (by rw [q262]; exact c_insert S.sub out aout cout (q181.mono (le43)) q182 r2 a2 c2 q259 q260 q261)) rfl (fun z h44 le44 hz => ?_)
  obtain ⟨a3, c3⟩ := z
  obtain ⟨q263, q264⟩ := hz
  refine .nil ?_
  refine .ja (M := [0]) (C' := []) (pre := [(8, vSl a3 r3 c3)]) [(1, vSl al2 l cl2), (2, iV op), (3, .pointer (some pt)), (7, vSl aout out cout), (8, iV i)] [1, 2, 3, 7, 8] hL rfl rfl rfl rfl rfl sb rfl rfl (by kernel_rfl) ?_
  refine .step [9] 9 rfl (by kernel_rfl) (by kernel_rfl) (.nil) (.cons [(23, vSl a3 r3 c3), (23, vSl a3 r3 c3), (15, vSl aout out cout), (16, .agg (tF t at_ ct at_2 ct2 at_3 ct3).toArray), (17, vSl al2 l cl2), (18, iV i), (19, .pointer (some (ead al2 (i.toNat * 1)))), (20, .slice a ((gt l i).length) c), (21, iV op), (22, vSl a2 r2 c2), (23, vSl a3 r3 c3)] rfl rfl (fun sL hL => ?_) (.nil))
  refine .V ag0 ?_
  refine .nil ?_
  refine .ja (M := []) (C' := []) (pre := [(9, vSl a3 r3 c3)]) [(1, vSl al2 l cl2), (2, iV op), (3, .pointer (some pt)), (8, iV i)] [1, 2, 3, 8] hL rfl rfl rfl rfl rfl sb rfl rfl (by kernel_rfl) ?_
  refine .last [(15, vSl aout out cout), (16, .agg (tF t at_ ct at_2 ct2 at_3 ct3).toArray), (17, vSl al2 l cl2), (18, iV i), (19, .pointer (some (ead al2 (i.toNat * 1)))), (20, .slice a ((gt l i).length) c), (21, iV op), (22, vSl a2 r2 c2), (23, vSl a3 r3 c3), (7, vSl a3 r3 c3)] rfl (by kernel_rfl) (.nil) rfl ?_
  refine .blkN (.seqN (.region (.V mv0 ?_)))
  refine .V bi0 ?_
  refine .V ag0 ?_
  refine .nil ?_
  exact .RO (r3, wr (i + 1), a3, c3, h44) ⟨hF.1, q263, q264, (FH.le_trans (FH.le_trans (q183) (le43)) (le44))⟩ hF.2
 replace hF := hF.2 q228
 refine .exit (.seqX (.seqX (.blkX (.seqN (.seq (.region (.V mv0 ?_)))))))
 refine .V ag0 ?_
 refine .nil (.seqN (.ret ?_))
 refine .res1 rfl (rvT rfl) (fun w' S => ⟨out, (aout, cout), h31, hF, rfl, (q183), ⟨q181, q182⟩, S.none⟩)
theorem c_afterAll {h : FH} {w : World} (hs : Sub h w) (t : Task) (at_ : Option Addr) (ct : Nat) (_q1 : RSl h at_ t.init) (_q2 : t.init.length ≤ ct) (at_2 : Option Addr) (ct2 : Nat) (_q3 : RSl h at_2 t.goal) (_q4 : t.goal.length ≤ ct2) (at_3 : Option Addr) (ct3 : Nat) (_q5 : RSl h at_3 t.ops) (_q6 : t.ops.length ≤ ct3) (l : List (List Int)) (al2 : Option Addr) (cl2 : Nat) (_q7 : RSl h al2 l) (_q8 : l.length ≤ cl2) (op : Int) (hp : pre_afterAll t l op) : Calls Tryz.prog 28 #[.agg #[iV t.facts, .slice at_ t.init.length ct, .slice at_2 t.goal.length ct2, .slice at_3 t.ops.length ct3], .slice al2 l.length cl2, iV op] w fun e w' => ∃ (z : Option Addr × Nat) (h1 : FH), e = .returned (.slice z.1 (sp_afterAll t l op).length z.2) ∧ FH.le h h1 ∧ (RSl h1 z.1 (sp_afterAll t l op) ∧ (sp_afterAll t l op).length ≤ z.2) ∧ SH (Kp.all w h) h1 w' [] :=
 (w_afterAll hs t at_ ct _q1 _q2 at_2 ct2 _q3 _q4 at_3 ct3 _q5 _q6 l al2 cl2 _q7 _q8 op (fun r => r = sp_afterAll t l op) (ok_afterAll t l op hp)).mono fun _ _ ⟨r, z, h1, hk, he, hl, hf, hS⟩ => by subst hk; exact ⟨z, h1, he, hl, hf, hS⟩
theorem w_allHold {h : FH} {w : World} (hs : Sub h w) (l : List (List Int)) (al2 : Option Addr) (cl2 : Nat) (_q1 : RSl h al2 l) (_q2 : l.length ≤ cl2) (facts : List Int) (afacts : Option Addr) (cfacts : Nat) (_q3 : RSl h afacts facts) (_q4 : facts.length ≤ cfacts) (K : Bool → Prop) (hF : F_allHold l facts K) : Calls Tryz.prog 27 #[.slice al2 l.length cl2, .slice afacts facts.length cfacts] w fun e w' => ∃ r : Bool, K r ∧ e = .returned (.bool r) ∧ Below w.heap.size w w' := by
 refine enter (args := [vSl al2 l cl2, vSl afacts facts cfacts]) Tryz.func27 rfl Tryz.ntmps27 rfl hs ?_
 refine .seq (.region (.V ag0 ?_))
 refine .nil (.seqN (.seq (.seq (.region (.V ag0 ?_)))))
 refine .nil (.seqN (.block ?_))
 obtain ⟨I1, μ1, q122, q123⟩ := hF
 refine .loop' (σ := Int) (fun z => I1 z) (fun z => μ1 z) (fun z => [(0, vSl al2 l cl2), (1, vSl afacts facts cfacts), (5, iV z)]) (fun _ => []) (fun _ => h) 0 q122 sb rfl (FH.le_refl _) ?_
 rintro i q122
 have hF := q123 i q122
 show J _ _ _ _ _ [(0, vSl al2 l cl2), (1, vSl afacts facts cfacts), (5, iV i)] [] h
 refine .seq (.seq (.region (.V mv0 ?_)))
 refine .V mv0 ?_
 refine .V (ln rfl tS35.is) ?_
 refine .V bi0 ?_
 refine .nil (.seqN ?_)
 refine .cond rfl (fun q125 => ?_) (fun q125 => ?_)
 ·replace hF := hF.1 q125
  refine .skip (.seqN (.seq (.block (.seq (.region (.V mv0 ?_))))))
  refine .V mv0 ?_
  refine .V mv0 ?_
  obtain ⟨q140, hF⟩ := hF
  refine .V (ix rfl rfl tS35 (_q1.ne (by decide) (inb_pos q140)) q140) ?_
  obtain ⟨_, ⟨a, c, rfl, q141, q142⟩, q143⟩ := _q1.elem q140
  refine .V (ld1 (v := .slice a ((gt l i).length) c) rfl tO22 (cellH (q143 (by decide) 0 _ rfl))) ?_
  obtain ⟨q144, hF⟩ := hF
  obtain ⟨r2, q145⟩ : ∃ y_ : Bool, y_ = sp_subset facts (gt l i) := ⟨_, rfl⟩
  replace hF := hF r2 q145
  refine .C (cl (v := .bool r2) Tryz.call63 rfl rfl (fun w S => (by rw [q145]; exact c_subset S.sub facts afacts cfacts _q3 _q4 (gt l i) a c q142 q141 q144))) ?_
  refine .V (nt rfl) ?_
  refine .nil (.seqN ?_)
  refine .cond rfl (fun q146 => ?_) (fun q146 => ?_)
  ·replace hF := hF.1 q146
   refine .seq (.region (.V ag0 ?_))
   refine .nil (.seqN (.ret (.blkR (.seqR (.seqR (.blkR (.seqR ?_)))))))
   refine .res1 rfl (rvT rfl) (fun w' S => ⟨false, hF, rfl, S.below⟩)
  replace hF := hF.2 q146
  refine .skip (.blkN (.seqN (.region (.V mv0 ?_))))
  refine .V bi0 ?_
  refine .V ag0 ?_
  refine .nil ?_
  exact .RO (wr (i + 1)) hF.1 hF.2
 replace hF := hF.2 q125
 refine .exit (.seqX (.seqX (.blkX (.seqN (.seq (.region (.V ag0 ?_)))))))
 refine .nil (.seqN (.ret ?_))
 refine .res1 rfl (rvT rfl) (fun w' S => ⟨true, hF, rfl, S.below⟩)
theorem c_allHold {h : FH} {w : World} (hs : Sub h w) (l : List (List Int)) (al2 : Option Addr) (cl2 : Nat) (_q1 : RSl h al2 l) (_q2 : l.length ≤ cl2) (facts : List Int) (afacts : Option Addr) (cfacts : Nat) (_q3 : RSl h afacts facts) (_q4 : facts.length ≤ cfacts) (hp : pre_allHold l facts) : Calls Tryz.prog 27 #[.slice al2 l.length cl2, .slice afacts facts.length cfacts] w fun e w' => e = .returned (.bool (sp_allHold l facts)) ∧ Below w.heap.size w w' :=
 (w_allHold hs l al2 cl2 _q1 _q2 facts afacts cfacts _q3 _q4 (fun r => r = sp_allHold l facts) (ok_allHold l facts hp)).mono fun _ _ ⟨_, hk, he, hb⟩ => ⟨by rw [he, hk], hb⟩
theorem w_same {h : FH} {w : World} (hs : Sub h w) (a : List (List Int)) (aa : Option Addr) (ca : Nat) (_q1 : RSl h aa a) (_q2 : a.length ≤ ca) (b : List (List Int)) (ab : Option Addr) (cb : Nat) (_q3 : RSl h ab b) (_q4 : b.length ≤ cb) (K : Bool → Prop) (hF : F_same a b K) : Calls Tryz.prog 90 #[.slice aa a.length ca, .slice ab b.length cb] w fun e w' => ∃ r : Bool, K r ∧ e = .returned (.bool r) ∧ Below w.heap.size w w' := by
 refine enter (args := [vSl aa a ca, vSl ab b cb]) Tryz.func90 rfl Tryz.ntmps90 rfl hs ?_
 refine .seq (.region (.V ag0 ?_))
 refine .nil (.seqN (.seq (.seq (.region (.V mv0 ?_)))))
 refine .V (ln rfl tS35.is) ?_
 refine .V mv0 ?_
 refine .V (ln rfl tS35.is) ?_
 refine .V bi0 ?_
 refine .nil (.seqN ?_)
 refine .cond rfl (fun q6 => ?_) (fun q6 => ?_)
 ·replace hF := hF.1 q6
  refine .seq (.region (.V ag0 ?_))
  refine .nil (.seqN (.ret (.seqR ?_)))
  refine .res1 rfl (rvT rfl) (fun w' S => ⟨false, hF, rfl, S.below⟩)
 replace hF := hF.2 q6
 refine .skip (.seqN (.seq (.seq (.region (.V ag0 ?_)))))
 refine .nil (.seqN (.block ?_))
 obtain ⟨I1, μ1, q184, q185⟩ := hF
 refine .loop' (σ := Int) (fun z => I1 z) (fun z => μ1 z) (fun z => [(0, vSl aa a ca), (1, vSl ab b cb), (5, iV z)]) (fun _ => []) (fun _ => h) 0 q184 sb rfl (FH.le_refl _) ?_
 rintro i q184
 have hF := q185 i q184
 show J _ _ _ _ _ [(0, vSl aa a ca), (1, vSl ab b cb), (5, iV i)] [] h
 refine .seq (.seq (.region (.V mv0 ?_)))
 refine .V mv0 ?_
 refine .V (ln rfl tS35.is) ?_
 refine .V bi0 ?_
 refine .nil (.seqN ?_)
 refine .cond rfl (fun q187 => ?_) (fun q187 => ?_)
 ·replace hF := hF.1 q187
  refine .skip (.seqN (.seq (.block (.seq ?_))))
  refine .open_ (by kernel_rfl) (by kernel_rfl) ?_
  refine .V mv0 ?_
  refine .V mv0 ?_
  obtain ⟨q210, hF⟩ := hF
  refine .V (ix rfl rfl tS35 (_q1.ne (by decide) (inb_pos q210)) q210) ?_
  obtain ⟨_, ⟨a2, c, rfl, q211, q212⟩, q213⟩ := _q1.elem q210
  refine .V (ld1 (v := .slice a2 ((gt a i).length) c) rfl tO22 (cellH (q213 (by decide) 0 _ rfl))) ?_
  refine .V mv0 ?_
  refine .V mv0 ?_
  obtain ⟨q214, hF⟩ := hF
  refine .V (ix rfl rfl tS35 (_q3.ne (by decide) (inb_pos q214)) q214) ?_
  obtain ⟨_, ⟨a3, c2, rfl, q215, q216⟩, q217⟩ := _q3.elem q214
  refine .V (ld1 (v := .slice a3 ((gt b i).length) c2) rfl tO22 (cellH (q217 (by decide) 0 _ rfl))) ?_
  obtain ⟨q218, hF⟩ := hF
  obtain ⟨r2, q219⟩ : ∃ y_ : Bool, y_ = sp_ints (gt a i) (gt b i) := ⟨_, rfl⟩
  replace hF := hF r2 q219
  refine .C (cl (v := .bool r2) Tryz.call91 rfl rfl (fun w S => (by rw [q219]; exact c_ints S.sub (gt a i) a2 c q212 q211 (gt b i) a3 c2 q216 q215 q218))) ?_
  refine .V (nt rfl) ?_
  refine .fin ?_
  refine .seqN ?_
  refine .cond rfl (fun q220 => ?_) (fun q220 => ?_)
  ·replace hF := hF.1 q220
   refine .seq (.region (.V ag0 ?_))
   refine .nil (.seqN (.ret (.blkR (.seqR (.seqR (.blkR (.seqR ?_)))))))
   refine .res1 rfl (rvT rfl) (fun w' S => ⟨false, hF, rfl, S.below⟩)
  replace hF := hF.2 q220
  refine .skip (.blkN (.seqN (.region (.V mv0 ?_))))
  refine .V bi0 ?_
  refine .V ag0 ?_
  refine .nil ?_
  exact .RO (wr (i + 1)) hF.1 hF.2
 replace hF := hF.2 q187
 refine .exit (.seqX (.seqX (.blkX (.seqN (.seq (.region (.V ag0 ?_)))))))
 refine .nil (.seqN (.ret ?_))
 refine .res1 rfl (rvT rfl) (fun w' S => ⟨true, hF, rfl, S.below⟩)
theorem c_same {h : FH} {w : World} (hs : Sub h w) (a : List (List Int)) (aa : Option Addr) (ca : Nat) (_q1 : RSl h aa a) (_q2 : a.length ≤ ca) (b : List (List Int)) (ab : Option Addr) (cb : Nat) (_q3 : RSl h ab b) (_q4 : b.length ≤ cb) (hp : pre_same a b) : Calls Tryz.prog 90 #[.slice aa a.length ca, .slice ab b.length cb] w fun e w' => e = .returned (.bool (sp_same a b)) ∧ Below w.heap.size w w' :=
 (w_same hs a aa ca _q1 _q2 b ab cb _q3 _q4 (fun r => r = sp_same a b) (ok_same a b hp)).mono fun _ _ ⟨_, hk, he, hb⟩ => ⟨by rw [he, hk], hb⟩
theorem w_placeOf {h : FH} {w : World} (hs : Sub h w) (all : List (List (List Int))) (aall : Option Addr) (call : Nat) (_q1 : RSl h aall all) (_q2 : all.length ≤ call) (l : List (List Int)) (al2 : Option Addr) (cl2 : Nat) (_q3 : RSl h al2 l) (_q4 : l.length ≤ cl2) (K : Int → Prop) (hF : F_placeOf all l K) : Calls Tryz.prog 56 #[.slice aall all.length call, .slice al2 l.length cl2] w fun e w' => ∃ r : Int, K r ∧ e = .returned (iV r) ∧ Below w.heap.size w w' := by
 refine enter (args := [vSl aall all call, vSl al2 l cl2]) Tryz.func56 rfl Tryz.ntmps56 rfl hs ?_
 refine .seq (.region (.V ag0 ?_))
 refine .nil (.seqN (.seq (.seq (.region (.V ag0 ?_)))))
 refine .nil (.seqN (.block ?_))
 obtain ⟨I1, μ1, q122, q123⟩ := hF
 refine .loop' (σ := Int) (fun z => I1 z) (fun z => μ1 z) (fun z => [(0, vSl aall all call), (1, vSl al2 l cl2), (5, iV z)]) (fun _ => []) (fun _ => h) 0 q122 sb rfl (FH.le_refl _) ?_
 rintro i q122
 have hF := q123 i q122
 show J _ _ _ _ _ [(0, vSl aall all call), (1, vSl al2 l cl2), (5, iV i)] [] h
 refine .seq (.seq (.region (.V mv0 ?_)))
 refine .V mv0 ?_
 refine .V (ln rfl tS32.is) ?_
 refine .V bi0 ?_
 refine .nil (.seqN ?_)
 refine .cond rfl (fun q125 => ?_) (fun q125 => ?_)
 ·replace hF := hF.1 q125
  refine .skip (.seqN (.seq (.block (.seq (.region (.V mv0 ?_))))))
  refine .V mv0 ?_
  obtain ⟨q140, hF⟩ := hF
  refine .V (ix rfl rfl tS32 (_q1.ne (by decide) (inb_pos q140)) q140) ?_
  obtain ⟨_, ⟨a, c, rfl, q141, q142⟩, q143⟩ := _q1.elem q140
  refine .V (ld1 (v := .slice a ((gt all i).length) c) rfl tO35 (cellH (q143 (by decide) 0 _ rfl))) ?_
  refine .V mv0 ?_
  obtain ⟨q144, hF⟩ := hF
  obtain ⟨r2, q145⟩ : ∃ y_ : Bool, y_ = sp_same (gt all i) l := ⟨_, rfl⟩
  replace hF := hF r2 q145
  refine .C (cl (v := .bool r2) Tryz.call90 rfl rfl (fun w S => (by rw [q145]; exact c_same S.sub (gt all i) a c q142 q141 l al2 cl2 _q3 _q4 q144))) ?_
  refine .nil (.seqN ?_)
  refine .cond rfl (fun q146 => ?_) (fun q146 => ?_)
  ·replace hF := hF.1 q146
   refine .seq (.region (.V mv0 ?_))
   refine .V ag0 ?_
   refine .nil (.seqN (.ret (.blkR (.seqR (.seqR (.blkR (.seqR ?_)))))))
   refine .res1 rfl (rvT rfl) (fun w' S => ⟨i, hF, rfl, S.below⟩)
  replace hF := hF.2 q146
  refine .skip (.blkN (.seqN (.region (.V mv0 ?_))))
  refine .V bi0 ?_
  refine .V ag0 ?_
  refine .nil ?_
  exact .RO (wr (i + 1)) hF.1 hF.2
 replace hF := hF.2 q125
 refine .exit (.seqX (.seqX (.blkX (.seqN (.seq (.region (.V ag0 ?_)))))))
 refine .nil (.seqN (.ret ?_))
 refine .res1 rfl (rvT rfl) (fun w' S => ⟨(-1), hF, rfl, S.below⟩)
theorem c_placeOf {h : FH} {w : World} (hs : Sub h w) (all : List (List (List Int))) (aall : Option Addr) (call : Nat) (_q1 : RSl h aall all) (_q2 : all.length ≤ call) (l : List (List Int)) (al2 : Option Addr) (cl2 : Nat) (_q3 : RSl h al2 l) (_q4 : l.length ≤ cl2) (hp : pre_placeOf all l) : Calls Tryz.prog 56 #[.slice aall all.length call, .slice al2 l.length cl2] w fun e w' => e = .returned (iV (sp_placeOf all l)) ∧ Below w.heap.size w w' :=
 (w_placeOf hs all aall call _q1 _q2 l al2 cl2 _q3 _q4 (fun r => r = sp_placeOf all l) (ok_placeOf all l hp)).mono fun _ _ ⟨_, hk, he, hb⟩ => ⟨by rw [he, hk], hb⟩
theorem w_observed {h : FH} {w : World} (hs : Sub h w) (l : List (List Int)) (al2 : Option Addr) (cl2 : Nat) (_q1 : RSl h al2 l) (_q2 : l.length ≤ cl2) (fact : Int) (K : (List (List Int) × List (List Int)) → Prop) (hF : F_observed l fact K) : Calls Tryz.prog 55 #[.slice al2 l.length cl2, iV fact] w fun e w' => ∃ (r : List (List Int) × List (List Int)) (z : Option Addr × Nat × Option Addr × Nat) (h1 : FH), K r ∧ e = .returned (.tuple #[.slice z.1 r.1.length z.2.1, .slice z.2.2.1 r.2.length z.2.2.2]) ∧ FH.le h h1 ∧ (RSl h1 z.1 r.1 ∧ r.1.length ≤ z.2.1 ∧ RSl h1 z.2.2.1 r.2 ∧ r.2.length ≤ z.2.2.2) ∧ SH (Kp.all w h) h1 w' [] := by
 refine enter (args := [vSl al2 l cl2, iV fact]) Tryz.func55 rfl Tryz.ntmps55 rfl hs ?_
 refine .seq (.region (.V ag0 ?_))
 refine .V ag0 ?_
 refine .nil (.seqN (.seq (.region (.V ag0 ?_))))
 refine .nil (.seqN (.seq (.region (.V ag0 ?_))))
 refine .nil (.seqN (.seq (.seq (.region (.V ag0 ?_)))))
 refine .nil (.seqN (.block ?_))
 refine .nilSl 22 1 ?_
 refine .KA [OwnSl 22 1 none (([] : List (List Int)).length) 0 []] ?_
 refine .nilSl 22 1 ?_
 refine .KA [OwnSl 22 1 none (([] : List (List Int)).length) 0 [], OwnSl 22 1 none (([] : List (List Int)).length) 0 []] ?_
 refine .sel0 [1, 0] (by decide) rfl ?_
 obtain ⟨I1, μ1, q196, q197⟩ := hF
 refine .loop' (σ := Int × List (List Int) × List (List Int) × Option Addr × Nat × List Value × Option Addr × Nat × List Value) (fun z => I1 z.1 z.2.1 z.2.2.1 ∧ RepL h z.2.1 z.2.2.2.2.2.1 ∧ RepL h z.2.2.1 z.2.2.2.2.2.2.2.2) (fun z => μ1 z.1 z.2.1 z.2.2.1) (fun z => [(0, vSl al2 l cl2), (1, iV fact), (6, vSl z.2.2.2.1 z.2.1 z.2.2.2.2.1), (7, vSl z.2.2.2.2.2.2.1 z.2.2.1 z.2.2.2.2.2.2.2.1), (8, iV z.1)]) (fun z => [OwnSl 22 1 z.2.2.2.1 z.2.1.length z.2.2.2.2.1 z.2.2.2.2.2.1, OwnSl 22 1 z.2.2.2.2.2.2.1 z.2.2.1.length z.2.2.2.2.2.2.2.1 z.2.2.2.2.2.2.2.2]) (fun _ => h) (0, ([] : List (List Int)), ([] : List (List Int)), none, 0, [], none, 0, []) ⟨q196, (show RepL h ([] : List (List Int)) [] from rfl), (show RepL h ([] : List (List Int)) [] from rfl)⟩ sb rfl (FH.le_refl _) ?_
 rintro ⟨i, yes, no, ayes, cyes, csyes, ano, cno, csno⟩ ⟨q196, q157, q158⟩
 have hF := q197 i yes no q196
 show J _ _ _ _ _ [(0, vSl al2 l cl2), (1, iV fact), (6, vSl ayes yes cyes), (7, vSl ano no cno), (8, iV i)] [OwnSl 22 1 ayes yes.length cyes csyes, OwnSl 22 1 ano no.length cno csno] h
 refine .seq (.seq (.region (.V mv0 ?_)))
 refine .V mv0 ?_
 refine .V (ln rfl tS35.is) ?_
 refine .V bi0 ?_
 refine .nil (.seqN ?_)
 refine .cond rfl (fun q199 => ?_) (fun q199 => ?_)
 ·replace hF := hF.1 q199
  refine .skip (.seqN ?_)
  refine .share (σ := List (List Int) × List (List Int) × Option Addr × Nat × List Value × Option Addr × Nat × List Value) (fun z => F_observed_J1 yes no i I1 μ1 z.1 z.2.1 ∧ RepL h z.1 z.2.2.2.2.1 ∧ RepL h z.2.1 z.2.2.2.2.2.2.2) (fun z => [(0, vSl al2 l cl2), (1, iV fact), (6, vSl z.2.2.1 z.1 z.2.2.2.1), (7, vSl z.2.2.2.2.2.1 z.2.1 z.2.2.2.2.2.2.1), (8, iV i)]) (fun z => [OwnSl 22 1 z.2.2.1 z.1.length z.2.2.2.1 z.2.2.2.2.1, OwnSl 22 1 z.2.2.2.2.2.1 z.2.1.length z.2.2.2.2.2.2.1 z.2.2.2.2.2.2.2]) (fun _ => h) ?_ (fun q217 => ?_)
  ·rintro ⟨yes3, no3, ayes3, cyes3, csyes3, ano3, cno3, csno3⟩ ⟨hF, q215, q216⟩
   show J _ _ _ _ _ [(0, vSl al2 l cl2), (1, iV fact), (6, vSl ayes3 yes3 cyes3), (7, vSl ano3 no3 cno3), (8, iV i)] [OwnSl 22 1 ayes3 yes3.length cyes3 csyes3, OwnSl 22 1 ano3 no3.length cno3 csno3] h
   refine .region (.V mv0 ?_)
   refine .V bi0 ?_
   refine .V ag0 ?_
   refine .nil ?_
   exact .RO (wr (i + 1), yes3, no3, ayes3, cyes3, csyes3, ano3, cno3, csno3) ⟨hF.1, q215, q216⟩ hF.2
  refine .block (.seq (.region (.V mv0 ?_)))
  refine .V mv0 ?_
  obtain ⟨q218, hF⟩ := hF
  refine .V (ix rfl rfl tS35 (_q1.ne (by decide) (inb_pos q218)) q218) ?_
  obtain ⟨_, ⟨a, c, rfl, q219, q220⟩, q221⟩ := _q1.elem q218
  refine .V (ld1 (v := .slice a ((gt l i).length) c) rfl tO22 (cellH (q221 (by decide) 0 _ rfl))) ?_
  refine .V mv0 ?_
  obtain ⟨q222, hF⟩ := hF
  obtain ⟨r2, q223⟩ : ∃ y_ : Bool, y_ = sp_has (gt l i) fact := ⟨_, rfl⟩
  replace hF := hF r2 q223
  refine .C (cl (v := .bool r2) Tryz.call76 rfl rfl (fun w S => (by rw [q223]; exact c_has S.sub (gt l i) a c q220 q219 fact q222))) ?_
  refine .nil (.seqN ?_)
  refine .cond rfl (fun q224 => ?_) (fun q224 => ?_)
  ·replace hF := hF.1 q224
   refine .region (.V mv0 ?_)
   refine .V mv0 ?_
   refine .V mv0 ?_
   refine .V (ix rfl rfl tS35 (_q1.ne (by decide) (inb_pos q218)) q218) ?_
   refine .V (ld1 (v := .slice a ((gt l i).length) c) rfl tO22 (cellH (q221 (by decide) 0 _ rfl))) ?_
   refine bs2 (cs := #[.slice a ((gt l i).length) c]) (pv := [(0, .slice a ((gt l i).length) c)]) tS35 rfl rfl (by decide) (by decide) rfl rfl rfl (fun a2 _ => ?_)
   refine .KA [OwnSl 22 1 a2 (([(gt l i)] : List (List Int)).length) 1 [.slice a ((gt l i).length) c], OwnSl 22 1 ayes yes.length cyes csyes, OwnSl 22 1 ano no.length cno csno] ?_
   obtain ⟨q226, hF⟩ := hF
   have q227 : yes.length + ([(gt l i)] : List (List Int)).length = ((yes ++ ([(gt l i)] : List (List Int)))).length := len_app rfl rfl
   have q228 := RepL.append q157 (show RepL h ([(gt l i)] : List (List Int)) [.slice a ((gt l i).length) c] from ⟨[.slice a ((gt l i).length) c], _, rfl, ⟨a, c, rfl, q219, q220⟩, rfl⟩)
   refine app (k := 1) (news := [.slice a ((gt l i).length) c]) (cs' := (csyes ++ [.slice a ((gt l i).length) c])) (nm := ((yes ++ ([(gt l i)] : List (List Int)))).length) tS35 rfl (by decide) rfl rfl rfl (RepL.len (show RepL h ([(gt l i)] : List (List Int)) [.slice a ((gt l i).length) c] from ⟨[.slice a ((gt l i).length) c], _, rfl, ⟨a, c, rfl, q219, q220⟩, rfl⟩)) (srcS (k := 0) rfl) (RepL.one (show RepL h ([(gt l i)] : List (List Int)) [.slice a ((gt l i).length) c] from ⟨[.slice a ((gt l i).length) c], _, rfl, ⟨a, c, rfl, q219, q220⟩, rfl⟩)) (room_of q227 q226).1 (room_of q227 q226).2 q227 rfl rfl (fun a3 c2 => ?_)
   refine .KA [OwnSl 22 1 a2 (([(gt l i)] : List (List Int)).length) 1 [.slice a ((gt l i).length) c], OwnSl 22 1 a3 ((yes ++ ([(gt l i)] : List (List Int))).length) c2 (csyes ++ [.slice a ((gt l i).length) c]), OwnSl 22 1 ano no.length cno csno] ?_
   refine .V ag0 ?_
   refine .nil (.blkN ?_)
   refine .sel0 [1, 2] (by decide) rfl ?_
   exact .US q217 ((yes ++ ([(gt l i)] : List (List Int))), no, a3, c2, (csyes ++ [.slice a ((gt l i).length) c]), ano, cno, csno) ⟨hF, q228, q158⟩
  replace hF := hF.2 q224
  refine .region (.V mv0 ?_)
  refine .V mv0 ?_
  refine .V mv0 ?_
  refine .V (ix rfl rfl tS35 (_q1.ne (by decide) (inb_pos q218)) q218) ?_
  refine .V (ld1 (v := .slice a ((gt l i).length) c) rfl tO22 (cellH (q221 (by decide) 0 _ rfl))) ?_
  refine bs2 (cs := #[.slice a ((gt l i).length) c]) (pv := [(0, .slice a ((gt l i).length) c)]) tS35 rfl rfl (by decide) (by decide) rfl rfl rfl (fun a4 _ => ?_)
  refine .KA [OwnSl 22 1 a4 (([(gt l i)] : List (List Int)).length) 1 [.slice a ((gt l i).length) c], OwnSl 22 1 ayes yes.length cyes csyes, OwnSl 22 1 ano no.length cno csno] ?_
  obtain ⟨q230, hF⟩ := hF
  have q231 : no.length + ([(gt l i)] : List (List Int)).length = ((no ++ ([(gt l i)] : List (List Int)))).length := len_app rfl rfl
  have q232 := RepL.append q158 (show RepL h ([(gt l i)] : List (List Int)) [.slice a ((gt l i).length) c] from ⟨[.slice a ((gt l i).length) c], _, rfl, ⟨a, c, rfl, q219, q220⟩, rfl⟩)
  refine app (k := 2) (news := [.slice a ((gt l i).length) c]) (cs' := (csno ++ [.slice a ((gt l i).length) c])) (nm := ((no ++ ([(gt l i)] : List (List Int)))).length) tS35 rfl (by decide) rfl rfl rfl (RepL.len (show RepL h ([(gt l i)] : List (List Int)) [.slice a ((gt l i).length) c] from ⟨[.slice a ((gt l i).length) c], _, rfl, ⟨a, c, rfl, q219, q220⟩, rfl⟩)) (srcS (k := 0) rfl) (RepL.one (show RepL h ([(gt l i)] : List (List Int)) [.slice a ((gt l i).length) c] from ⟨[.slice a ((gt l i).length) c], _, rfl, ⟨a, c, rfl, q219, q220⟩, rfl⟩)) (room_of q231 q230).1 (room_of q231 q230).2 q231 rfl rfl (fun a5 c3 => ?_)
  refine .KA [OwnSl 22 1 a4 (([(gt l i)] : List (List Int)).length) 1 [.slice a ((gt l i).length) c], OwnSl 22 1 ayes yes.length cyes csyes, OwnSl 22 1 a5 ((no ++ ([(gt l i)] : List (List Int))).length) c3 (csno ++ [.slice a ((gt l i).length) c])] ?_
  refine .V ag0 ?_
  refine .nil (.blkN ?_)
  refine .sel0 [1, 2] (by decide) rfl ?_
  exact .US q217 (yes, (no ++ ([(gt l i)] : List (List Int))), ayes, cyes, csyes, a5, c3, (csno ++ [.slice a ((gt l i).length) c])) ⟨hF, q157, q232⟩
 replace hF := hF.2 q199
 refine .exit (.seqX (.seqX (.blkX (.seqN (.seq (.region (.V mv0 ?_)))))))
 refine .V mv0 ?_
 refine .V ag0 ?_
 refine .V ag0 ?_
 refine .nil (.seqN ?_)
 refine .freezeL (k := 1) rfl (fun h1 le1 q234 q233 => ?_)
 refine .KA [OwnSl 22 1 ayes yes.length cyes csyes, tru] ?_
 refine .freezeL (k := 0) rfl (fun h2 le2 q236 q235 => ?_)
 refine .KA [tru, tru] ?_
 refine .ret ?_
 refine .res2 rfl (rvT rfl) (rvT rfl) (fun w' S => ⟨(yes, no), (ayes, cyes, ano, cno), h2, hF, rfl, (FH.le_trans (le1) (le2)), ⟨(show RSl h2 ayes yes from ⟨_, q157.mono (FH.le_trans (le1) (le2)), q235⟩), (q236), ((show RSl h1 ano no from ⟨_, q158.mono (le1), q233⟩).mono (le2)), (q234)⟩, S.none⟩)
theorem c_observed {h : FH} {w : World} (hs : Sub h w) (l : List (List Int)) (al2 : Option Addr) (cl2 : Nat) (_q1 : RSl h al2 l) (_q2 : l.length ≤ cl2) (fact : Int) (hp : pre_observed l fact) : Calls Tryz.prog 55 #[.slice al2 l.length cl2, iV fact] w fun e w' => ∃ (z : Option Addr × Nat × Option Addr × Nat) (h1 : FH), e = .returned (.tuple #[.slice z.1 (sp_observed l fact).1.length z.2.1, .slice z.2.2.1 (sp_observed l fact).2.length z.2.2.2]) ∧ FH.le h h1 ∧ (RSl h1 z.1 (sp_observed l fact).1 ∧ (sp_observed l fact).1.length ≤ z.2.1 ∧ RSl h1 z.2.2.1 (sp_observed l fact).2 ∧ (sp_observed l fact).2.length ≤ z.2.2.2) ∧ SH (Kp.all w h) h1 w' [] :=
 (w_observed hs l al2 cl2 _q1 _q2 fact (fun r => r = sp_observed l fact) (ok_observed l fact hp)).mono fun _ _ ⟨r, z, h1, hk, he, hl, hf, hS⟩ => by subst hk; exact ⟨z, h1, he, hl, hf, hS⟩
set_option maxHeartbeats 8000000 in
theorem w_beliefs {h : FH} {w : World} (hs : Sub h w) (t : Task) (at_ : Option Addr) (ct : Nat) (_q1 : RSl h at_ t.init) (_q2 : t.init.length ≤ ct) (at_2 : Option Addr) (ct2 : Nat) (_q3 : RSl h at_2 t.goal) (_q4 : t.goal.length ≤ ct2) (at_3 : Option Addr) (ct3 : Nat) (_q5 : RSl h at_3 t.ops) (_q6 : t.ops.length ≤ ct3) (start2 : List (List Int)) (astart2 : Option Addr) (cstart2 : Nat) (_q7 : RSl h astart2 start2) (_q8 : start2.length ≤ cstart2) (sN : List Int) (aSn : Option Addr) (cSn : Nat) (_q9 : RSl h aSn sN) (_q10 : sN.length ≤ cSn) (most : Int) (K : (List (List (List Int)) × Bool) → Prop) (hF : F_beliefs t start2 sN most K) : Calls Tryz.prog 15 #[.agg #[iV t.facts, .slice at_ t.init.length ct, .slice at_2 t.goal.length ct2, .slice at_3 t.ops.length ct3], .slice astart2 start2.length cstart2, .slice aSn sN.length cSn, iV most] w fun e w' => ∃ (r : List (List (List Int)) × Bool) (z : Option Addr × Nat) (h1 : FH), K r ∧ e = .returned (.tuple #[.slice z.1 r.1.length z.2, .bool r.2]) ∧ FH.le h h1 ∧ (RSl h1 z.1 r.1 ∧ r.1.length ≤ z.2) ∧ SH (Kp.all w h) h1 w' [] := by
 refine enter (args := [.agg (tF t at_ ct at_2 ct2 at_3 ct3).toArray, vSl astart2 start2 cstart2, vSl aSn sN cSn, iV most]) Tryz.func15 rfl Tryz.ntmps15 rfl hs ?_
 refine .seq (.region ?_)
 refine bx (vs := (tF t at_ ct at_2 ct2 at_3 ct3)) rfl rfl rfl (fun pt => ?_)
 refine .V ag0 ?_
 refine .V ag0 ?_
 refine .nil (.seqN (.seq (.region (.V mv0 ?_))))
 refine bs2 (cs := #[vSl astart2 start2 cstart2]) (pv := [(0, vSl astart2 start2 cstart2)]) tS32 rfl rfl (by decide) (by decide) rfl rfl rfl (fun a _ => ?_)
 refine .KA [OwnSl 35 1 a (([start2] : List (List (List Int))).length) 1 [vSl astart2 start2 cstart2], Box pt (tF t at_ ct at_2 ct2 at_3 ct3)] ?_
 refine .V ag0 ?_
 refine .nil (.seqN (.seq (.seq (.region (.V ag0 ?_)))))
 refine .nil (.seqN (.block ?_))
 refine .sel0 [1, 0] (by decide) rfl ?_
 obtain ⟨I1, μ1, q10554, q10555⟩ := hF
 refine .loop' (σ := Int × List (List (List Int)) × Option Addr × Nat × List Value × FH) (fun z => I1 z.1 z.2.1 ∧ RepL z.2.2.2.2.2 z.2.1 z.2.2.2.2.1 ∧ FH.le h z.2.2.2.2.2) (fun z => μ1 z.1 z.2.1) (fun z => [(2, vSl aSn sN cSn), (3, iV most), (4, .pointer (some pt)), (10, vSl z.2.2.1 z.2.1 z.2.2.2.1), (11, iV z.1)]) (fun z => [Box pt (tF t at_ ct at_2 ct2 at_3 ct3), OwnSl 35 1 z.2.2.1 z.2.1.length z.2.2.2.1 z.2.2.2.2.1]) (fun z => z.2.2.2.2.2) (0, ([start2] : List (List (List Int))), a, 1, [vSl astart2 start2 cstart2], h) ⟨q10554, (show RepL h ([start2] : List (List (List Int))) [vSl astart2 start2 cstart2] from ⟨[vSl astart2 start2 cstart2], _, rfl, ⟨astart2, cstart2, rfl, _q8, _q7⟩, rfl⟩), (FH.le_refl _)⟩ sb rfl (FH.le_refl _) ?_
 rintro ⟨i, all, aall, call, csall, h631⟩ ⟨q10554, q8448, q8449⟩
 have hF := q10555 i all q10554
 show J _ _ _ _ _ [(2, vSl aSn sN cSn), (3, iV most), (4, .pointer (some pt)), (10, vSl aall all call), (11, iV i)] [Box pt (tF t at_ ct at_2 ct2 at_3 ct3), OwnSl 35 1 aall all.length call csall] h631
 refine .seq (.seq (.region (.V mv0 ?_)))
 refine .V mv0 ?_
 refine .V (ln rfl tS32.is) ?_
 refine .V bi0 ?_
 refine .nil (.seqN ?_)
 refine .cond rfl (fun q10557 => ?_) (fun q10557 => ?_)
 ·replace hF := hF.1 q10557
  refine .skip (.seqN (.seq (.block (.seq (.region (.V ag0 ?_))))))
  refine .nil (.seqN (.seq (.seq (.region (.V ag0 ?_)))))
  refine .nil (.seqN (.block ?_))
  refine .nilSl 35 1 ?_
  refine .KA [OwnSl 35 1 none (([] : List (List (List Int))).length) 0 [], Box pt (tF t at_ ct at_2 ct2 at_3 ct3), OwnSl 35 1 aall all.length call csall] ?_
  refine .sel0 [1, 2, 0] (by decide) rfl ?_
  obtain ⟨I2, μ2, q12231, q12232⟩ := hF
  refine .loop' (σ := Int × List (List (List Int)) × Option Addr × Nat × List Value × FH) (fun z => I2 z.1 z.2.1 ∧ RepL z.2.2.2.2.2 z.2.1 z.2.2.2.2.1 ∧ FH.le h631 z.2.2.2.2.2) (fun z => μ2 z.1 z.2.1) (fun z => [(2, vSl aSn sN cSn), (3, iV most), (4, .pointer (some pt)), (10, vSl aall all call), (11, iV i), (12, vSl z.2.2.1 z.2.1 z.2.2.2.1), (13, iV z.1)]) (fun z => [Box pt (tF t at_ ct at_2 ct2 at_3 ct3), OwnSl 35 1 aall all.length call csall, OwnSl 35 1 z.2.2.1 z.2.1.length z.2.2.2.1 z.2.2.2.2.1]) (fun z => z.2.2.2.2.2) (0, ([] : List (List (List Int))), none, 0, [], h631) ⟨q12231, (show RepL h631 ([] : List (List (List Int))) [] from rfl), (FH.le_refl _)⟩ sb rfl (FH.le_refl _) ?_
  rintro ⟨op, next, anext, cnext, csnext, h911⟩ ⟨q12231, q12176, q12177⟩
  have hF := q12232 op next q12231
  show J _ _ _ _ _ [(2, vSl aSn sN cSn), (3, iV most), (4, .pointer (some pt)), (10, vSl aall all call), (11, iV i), (12, vSl anext next cnext), (13, iV op)] [Box pt (tF t at_ ct at_2 ct2 at_3 ct3), OwnSl 35 1 aall all.length call csall, OwnSl 35 1 anext next.length cnext csnext] h911
  refine .seq (.seq (.region (.V mv0 ?_)))
  refine .V (fa rfl tF25_3) ?_
  refine .V (ld1 rfl tO23 (cellB (off := 3) (k := 0) rfl rfl)) ?_
  refine .V (ln rfl tS23.is) ?_
  refine .V bi0 ?_
  refine .nil (.seqN ?_)
  refine .cond rfl (fun q12234 => ?_) (fun q12234 => ?_)
  ·replace hF := hF.1 q12234
   refine .skip (.seqN ?_)
   refine .share (σ := List (List (List Int)) × Option Addr × Nat × List Value × FH) (fun z => F_beliefs_J1 next op I2 μ2 z.1 ∧ RepL z.2.2.2.2 z.1 z.2.2.2.1 ∧ FH.le h911 z.2.2.2.2) (fun z => [(2, vSl aSn sN cSn), (3, iV most), (4, .pointer (some pt)), (10, vSl aall all call), (11, iV i), (12, vSl z.2.1 z.1 z.2.2.1), (13, iV op)]) (fun z => [Box pt (tF t at_ ct at_2 ct2 at_3 ct3), OwnSl 35 1 aall all.length call csall, OwnSl 35 1 z.2.1 z.1.length z.2.2.1 z.2.2.2.1]) (fun z => z.2.2.2.2) ?_ (fun q12260 => ?_)
   ·rintro ⟨next3, anext3, cnext3, csnext3, h917⟩ ⟨hF, q12258, q12259⟩
    show J _ _ _ _ _ [(2, vSl aSn sN cSn), (3, iV most), (4, .pointer (some pt)), (10, vSl aall all call), (11, iV i), (12, vSl anext3 next3 cnext3), (13, iV op)] [Box pt (tF t at_ ct at_2 ct2 at_3 ct3), OwnSl 35 1 aall all.length call csall, OwnSl 35 1 anext3 next3.length cnext3 csnext3] h917
    refine .region (.V mv0 ?_)
    refine .V bi0 ?_
    refine .V ag0 ?_
    refine .nil ?_
    exact .RO (wr (op + 1), next3, anext3, cnext3, csnext3, h917) ⟨hF.1, q12258, (FH.le_trans (q12177) (q12259))⟩ hF.2
   refine .block (.seq ?_)
   refine .open_ (by kernel_rfl) (by kernel_rfl) ?_
   refine .V mv0 ?_
   refine .V mv0 ?_
   obtain ⟨q12261, hF⟩ := hF
   refine .V (ixS rfl rfl tS32 (k := 1) rfl q12261) ?_
   obtain ⟨_, ⟨a2, c, rfl, q12262, q12263⟩, q12264⟩ := RepL.get q8448 (gt_get q12261)
   refine .V (ld1 (v := .slice a2 ((gt all i).length) c) rfl tO35 (cellS (k := 1) rfl (q12264 0 _ rfl))) ?_
   refine .V (fa rfl tF25_3) ?_
   refine .V (ld1 rfl tO23 (cellB (off := 3) (k := 0) rfl rfl)) ?_
   refine .V mv0 ?_
   obtain ⟨q12265, hF⟩ := hF
   refine .V (ix rfl rfl tS23 (_q5.ne (by decide) (inb_pos q12265)) q12265) ?_
   refine .V (fa rfl tF54_0) ?_
   obtain ⟨_, ⟨a3, c2, a4, c3, a5, c4, rfl, ⟨q12266, q12267⟩, ⟨q12268, q12269⟩, q12270, q12271⟩, q12272⟩ := _q5.elem q12265
   refine .V (ld1 (v := .slice a3 ((gt t.ops op).pre.length) c2) rfl tO22 (cellH ((fun q => (q12272 q).mono (FH.le_trans (q8449) (q12177))) (by decide) 0 _ rfl))) ?_
   obtain ⟨q12273, hF⟩ := hF
   obtain ⟨r2, q12274⟩ : ∃ y_ : Bool, y_ = sp_allHold (gt all i) ((gt t.ops op).pre) := ⟨_, rfl⟩
   replace hF := hF r2 q12274
   refine .C (cl (v := .bool r2) Tryz.call27 rfl rfl (fun w S => (by rw [q12274]; exact c_allHold S.sub (gt all i) a2 c (q12263.mono (q12177)) q12262 ((gt t.ops op).pre) a3 c2 (q12267.mono (FH.le_trans (q8449) (q12177))) q12266 q12273))) ?_
   refine .fin ?_
   refine .seqN ?_
   refine .cond rfl (fun q12275 => ?_) (fun q12275 => ?_)
   ·replace hF := hF.1 q12275
    refine .openA (s0 := [(2, vSl aSn sN cSn), (3, iV most), (4, .pointer (some pt)), (10, vSl aall all call), (11, iV i), (12, vSl anext next cnext), (13, iV op)]) [0, 1, 2, 3, 4, 5, 6] [(0, vSl anext next cnext), (1, .agg (tF t at_ ct at_2 ct2 at_3 ct3).toArray), (2, vSl aall all call), (3, iV i), (4, .pointer (some (ead aall (i.toNat * 1)))), (5, .slice a2 ((gt all i).length) c), (6, iV op)] (by kernel_rfl) sb [2, 3, 4, 10, 11, 12, 13] [10] rfl (by kernel_rfl) ?_
    refine .step [7] 7 rfl (by kernel_rfl) (by kernel_rfl) (.v [] rfl rfl rfl rfl rfl rfl (fun _ => mv rfl) (.v [] rfl rfl rfl rfl rfl rfl (fun _ => ldA (cs := (tF t at_ ct at_2 ct2 at_3 ct3)) rfl tA25 rfl (cellsB (off := 0) (k := 0) rfl (m := 4) rfl)) (.v [] rfl rfl rfl rfl rfl rfl (fun _ => mv rfl) (.v [] rfl rfl rfl rfl rfl rfl (fun _ => mv rfl) (.v [(46, vSl aall all call), (47, iV i)] rfl rfl rfl rfl rfl rfl (fun _ => ixS rfl rfl tS32 (k := 1) rfl q12261) (.v [(48, .pointer (some (ead aall (i.toNat * 1))))] rfl rfl rfl rfl rfl rfl (fun _ => ld1 (v := .slice a2 ((gt all i).length) c) rfl tO35 (cellS (k := 1) rfl (q12264 0 _ rfl))) (.v [] rfl rfl rfl rfl rfl rfl (fun _ => mv rfl) (.nil)))))))) (.cons [(45, .agg (tF t at_ ct at_2 ct2 at_3 ct3).toArray), (49, .slice a2 ((gt all i).length) c), (50, iV op)] rfl rfl (fun sL hL => ?_) (.nil))
    obtain ⟨q12276, hF⟩ := hF
    obtain ⟨r3, q12277⟩ : ∃ y_ : List (List Int), y_ = sp_afterAll t (gt all i) op := ⟨_, rfl⟩
    replace hF := hF r3 q12277
    refine clR (α := Option Addr × Nat) (Φ := fun h1 z => RSl h1 z.1 r3 ∧ r3.length ≤ z.2) (V := fun z => vSl z.1 r3 z.2) Tryz.call28 rfl rfl (fun w S => (by rw [q12277]; exact c_afterAll S.sub t at_ ct (_q1.mono (FH.le_trans (q8449) (q12177))) _q2 at_2 ct2 (_q3.mono (FH.le_trans (q8449) (q12177))) _q4 at_3 ct3 (_q5.mono (FH.le_trans (q8449) (q12177))) _q6 (gt all i) a2 c (q12263.mono (q12177)) q12262 op q12276)) rfl (fun z h918 le918 hz => ?_)
    obtain ⟨a6, c5⟩ := z
    obtain ⟨q12278, q12279⟩ := hz
    refine .nil ?_
    refine .ja (M := [1, 5, 6, 4, 2, 3]) (C' := [0]) (pre := [(7, vSl a6 r3 c5)]) [(2, vSl aSn sN cSn), (3, iV most), (4, .pointer (some pt)), (10, vSl aall all call), (11, iV i), (12, vSl anext next cnext), (13, iV op)] [2, 3, 4, 10, 11, 12, 13] hL rfl rfl rfl rfl rfl sb rfl rfl (by kernel_rfl) ?_
    refine .step [8] 8 rfl (by kernel_rfl) (by kernel_rfl) (.v [] rfl rfl rfl rfl rfl rfl (fun _ => mv rfl) (.nil)) (.cons [(51, vSl a6 r3 c5)] rfl rfl (fun sL hL => ?_) (.nil))
    refine bs2 (cs := #[vSl a6 r3 c5]) (pv := [(0, vSl a6 r3 c5)]) tS32 rfl rfl (by decide) (by decide) rfl rfl rfl (fun a7 _ => ?_)
    refine .KA [OwnSl 35 1 a7 (([r3] : List (List (List Int))).length) 1 [vSl a6 r3 c5], Box pt (tF t at_ ct at_2 ct2 at_3 ct3), OwnSl 35 1 aall all.length call csall, OwnSl 35 1 anext next.length cnext csnext] ?_
    refine .nil ?_
    refine .ja (M := []) (C' := [0]) (pre := [(8, .slice a7 (([r3] : List (List (List Int))).length) 1)]) [(2, vSl aSn sN cSn), (3, iV most), (4, .pointer (some pt)), (10, vSl aall all call), (11, iV i), (12, vSl anext next cnext), (13, iV op)] [2, 3, 4, 10, 11, 12, 13] hL rfl rfl rfl rfl rfl sb rfl rfl (by kernel_rfl) ?_
    refine .step [9] 9 rfl (by kernel_rfl) (by kernel_rfl) (.v [] rfl rfl rfl rfl rfl rfl (fun _ => mv rfl) (.nil)) (.cons [(44, vSl anext next cnext), (52, .slice a7 (([r3] : List (List (List Int))).length) 1), (51, vSl a6 r3 c5)] rfl rfl (fun sL hL => ?_) (.nil))
    obtain ⟨q12281, hF⟩ := hF
    have q12282 : next.length + ([r3] : List (List (List Int))).length = ((next ++ ([r3] : List (List (List Int))))).length := len_app rfl rfl
    have q12283 := RepL.append (RepL.mono (le918) q12176) (show RepL h918 ([r3] : List (List (List Int))) [.slice a6 r3.length c5] from ⟨[.slice a6 r3.length c5], _, rfl, ⟨a6, c5, rfl, q12279, q12278⟩, rfl⟩)
    refine app (k := 3) (news := [vSl a6 r3 c5]) (cs' := (csnext ++ [vSl a6 r3 c5])) (nm := ((next ++ ([r3] : List (List (List Int))))).length) tS32 rfl (by decide) rfl rfl rfl (RepL.len (show RepL h918 ([r3] : List (List (List Int))) [vSl a6 r3 c5] from ⟨[vSl a6 r3 c5], _, rfl, ⟨a6, c5, rfl, q12279, q12278⟩, rfl⟩)) (srcS (k := 0) rfl) (RepL.one (show RepL h918 ([r3] : List (List (List Int))) [vSl a6 r3 c5] from ⟨[vSl a6 r3 c5], _, rfl, ⟨a6, c5, rfl, q12279, q12278⟩, rfl⟩)) (room_of q12282 q12281).1 (room_of q12282 q12281).2 q12282 rfl rfl (fun a8 c6 => ?_)
    refine .KA [OwnSl 35 1 a7 (([r3] : List (List (List Int))).length) 1 [vSl a6 r3 c5], Box pt (tF t at_ ct at_2 ct2 at_3 ct3), OwnSl 35 1 aall all.length call csall, OwnSl 35 1 a8 ((next ++ ([r3] : List (List (List Int)))).length) c6 (csnext ++ [vSl a6 r3 c5])] ?_
    refine .nil ?_
    refine .ja (M := [0]) (C' := []) (pre := [(9, .slice a8 ((next ++ ([r3] : List (List (List Int)))).length) c6)]) [(2, vSl aSn sN cSn), (3, iV most), (4, .pointer (some pt)), (10, vSl aall all call), (11, iV i), (12, vSl anext next cnext), (13, iV op)] [2, 3, 4, 10, 11, 12, 13] hL rfl rfl rfl rfl rfl sb rfl rfl (by kernel_rfl) ?_
    refine .step [10] 10 rfl (by kernel_rfl) (by kernel_rfl) (.nil) (.cons [(53, .slice a8 ((next ++ ([r3] : List (List (List Int)))).length) c6), (53, .slice a8 ((next ++ ([r3] : List (List (List Int)))).length) c6), (44, vSl anext next cnext), (45, .agg (tF t at_ ct at_2 ct2 at_3 ct3).toArray), (46, vSl aall all call), (47, iV i), (48, .pointer (some (ead aall (i.toNat * 1)))), (49, .slice a2 ((gt all i).length) c), (50, iV op), (51, vSl a6 r3 c5), (52, .slice a7 (([r3] : List (List (List Int))).length) 1), (53, .slice a8 ((next ++ ([r3] : List (List (List Int)))).length) c6)] rfl rfl (fun sL hL => ?_) (.nil))
    refine .V ag0 ?_
    refine .nil ?_
    refine .ja (M := []) (C' := []) (pre := [(10, .slice a8 ((next ++ ([r3] : List (List (List Int)))).length) c6)]) [(2, vSl aSn sN cSn), (3, iV most), (4, .pointer (some pt)), (10, vSl aall all call), (11, iV i), (13, iV op)] [2, 3, 4, 10, 11, 13] hL rfl rfl rfl rfl rfl sb rfl rfl (by kernel_rfl) ?_
    refine .last [(44, vSl anext next cnext), (45, .agg (tF t at_ ct at_2 ct2 at_3 ct3).toArray), (46, vSl aall all call), (47, iV i), (48, .pointer (some (ead aall (i.toNat * 1)))), (49, .slice a2 ((gt all i).length) c), (50, iV op), (51, vSl a6 r3 c5), (52, .slice a7 (([r3] : List (List (List Int))).length) 1), (53, .slice a8 ((next ++ ([r3] : List (List (List Int)))).length) c6), (12, .slice a8 ((next ++ ([r3] : List (List (List Int)))).length) c6)] rfl (by kernel_rfl) (.nil) rfl ?_
    refine .blkN ?_
    refine .sel0 [1, 2, 3] (by decide) rfl ?_
    exact .US q12260 ((next ++ ([r3] : List (List (List Int)))), a8, c6, (csnext ++ [vSl a6 r3 c5]), h918) ⟨hF, q12283, (le918)⟩
   replace hF := hF.2 q12275
   refine .skip (.blkN ?_)
   exact .US q12260 (next, anext, cnext, csnext, h911) ⟨hF, q12176, (FH.le_refl _)⟩
  replace hF := hF.2 q12234
  refine .exit (.seqX (.seqX (.blkX (.seqN (.seq (.seq (.region (.V ag0 ?_))))))))
  refine .nil (.seqN (.block ?_))
  obtain ⟨I3, μ3, q12517, q12518⟩ := hF
  refine .loop' (σ := Int × List (List (List Int)) × Option Addr × Nat × List Value × FH) (fun z => I3 z.1 z.2.1 ∧ RepL z.2.2.2.2.2 z.2.1 z.2.2.2.2.1 ∧ FH.le h911 z.2.2.2.2.2) (fun z => μ3 z.1 z.2.1) (fun z => [(2, vSl aSn sN cSn), (3, iV most), (4, .pointer (some pt)), (10, vSl aall all call), (11, iV i), (12, vSl z.2.2.1 z.2.1 z.2.2.2.1), (14, iV z.1)]) (fun z => [Box pt (tF t at_ ct at_2 ct2 at_3 ct3), OwnSl 35 1 aall all.length call csall, OwnSl 35 1 z.2.2.1 z.2.1.length z.2.2.2.1 z.2.2.2.2.1]) (fun z => z.2.2.2.2.2) (0, next, anext, cnext, csnext, h911) ⟨q12517, q12176, (FH.le_refl _)⟩ sb rfl (FH.le_refl _) ?_
  rintro ⟨k, next4, anext4, cnext4, csnext4, h937⟩ ⟨q12517, q12470, q12471⟩
  have hF := q12518 k next4 q12517
  show J _ _ _ _ _ [(2, vSl aSn sN cSn), (3, iV most), (4, .pointer (some pt)), (10, vSl aall all call), (11, iV i), (12, vSl anext4 next4 cnext4), (14, iV k)] [Box pt (tF t at_ ct at_2 ct2 at_3 ct3), OwnSl 35 1 aall all.length call csall, OwnSl 35 1 anext4 next4.length cnext4 csnext4] h937
  refine .seq (.seq (.region (.V mv0 ?_)))
  refine .V mv0 ?_
  refine .V (ln rfl tS22.is) ?_
  refine .V bi0 ?_
  refine .nil (.seqN ?_)
  refine .cond rfl (fun q12520 => ?_) (fun q12520 => ?_)
  ·replace hF := hF.1 q12520
   refine .skip (.seqN ?_)
   refine .share (σ := List (List (List Int)) × Option Addr × Nat × List Value × FH) (fun z => F_beliefs_J2 next4 k I3 μ3 z.1 ∧ RepL z.2.2.2.2 z.1 z.2.2.2.1 ∧ FH.le h937 z.2.2.2.2) (fun z => [(2, vSl aSn sN cSn), (3, iV most), (4, .pointer (some pt)), (10, vSl aall all call), (11, iV i), (12, vSl z.2.1 z.1 z.2.2.1), (14, iV k)]) (fun z => [Box pt (tF t at_ ct at_2 ct2 at_3 ct3), OwnSl 35 1 aall all.length call csall, OwnSl 35 1 z.2.1 z.1.length z.2.2.1 z.2.2.2.1]) (fun z => z.2.2.2.2) ?_ (fun q12542 => ?_)
   ·rintro ⟨next6, anext6, cnext6, csnext6, h943⟩ ⟨hF, q12540, q12541⟩
    show J _ _ _ _ _ [(2, vSl aSn sN cSn), (3, iV most), (4, .pointer (some pt)), (10, vSl aall all call), (11, iV i), (12, vSl anext6 next6 cnext6), (14, iV k)] [Box pt (tF t at_ ct at_2 ct2 at_3 ct3), OwnSl 35 1 aall all.length call csall, OwnSl 35 1 anext6 next6.length cnext6 csnext6] h943
    refine .region (.V mv0 ?_)
    refine .V bi0 ?_
    refine .V ag0 ?_
    refine .nil ?_
    exact .RO (wr (k + 1), next6, anext6, cnext6, csnext6, h943) ⟨hF.1, q12540, (FH.le_trans (q12471) (q12541))⟩ hF.2
   refine .block (.seq ?_)
   obtain ⟨q12543, hF⟩ := hF
   obtain ⟨_, ⟨a9, c7, rfl, q12544, q12545⟩, q12546⟩ := RepL.get q8448 (gt_get q12543)
   obtain ⟨q12547, hF⟩ := hF
   refine .openA (s0 := [(2, vSl aSn sN cSn), (3, iV most), (4, .pointer (some pt)), (10, vSl aall all call), (11, iV i), (12, vSl anext4 next4 cnext4), (14, iV k)]) [0, 1, 2, 3, 4, 5, 6, 7] [(0, vSl aall all call), (1, iV i), (2, .pointer (some (ead aall (i.toNat * 1)))), (3, .slice a9 ((gt all i).length) c7), (4, vSl aSn sN cSn), (5, iV k), (6, .pointer (some (ead aSn (k.toNat * 1)))), (7, iV (gt sN k))] (by kernel_rfl) sb [2, 3, 4, 10, 11, 12, 14] [] rfl (by kernel_rfl) ?_
   refine .step [8] 8 rfl (by kernel_rfl) (by kernel_rfl) (.v [] rfl rfl rfl rfl rfl rfl (fun _ => mv rfl) (.v [] rfl rfl rfl rfl rfl rfl (fun _ => mv rfl) (.v [(61, vSl aall all call), (62, iV i)] rfl rfl rfl rfl rfl rfl (fun _ => ixS rfl rfl tS32 (k := 1) rfl q12543) (.v [(63, .pointer (some (ead aall (i.toNat * 1))))] rfl rfl rfl rfl rfl rfl (fun _ => ld1 (v := .slice a9 ((gt all i).length) c7) rfl tO35 (cellS (k := 1) rfl (q12546 0 _ rfl))) (.v [] rfl rfl rfl rfl rfl rfl (fun _ => mv rfl) (.v [] rfl rfl rfl rfl rfl rfl (fun _ => mv rfl) (.v [(65, vSl aSn sN cSn), (66, iV k)] rfl rfl rfl rfl rfl rfl (fun _ => ix rfl rfl tS22 (_q9.ne (by decide) (inb_pos q12547)) q12547) (.v [(67, .pointer (some (ead aSn (k.toNat * 1))))] rfl rfl rfl rfl rfl rfl (fun _ => ld1 (v := iV (gt sN k)) rfl tO3 (cellH ((_q9.mono (FH.le_trans (FH.le_trans (q8449) (q12177)) (q12471))).elemF q12547 (by decide) 0 _ rfl))) (.nil))))))))) (.cons [(64, .slice a9 ((gt all i).length) c7), (68, iV (gt sN k))] rfl rfl (fun sL hL => ?_) (.nil))
   obtain ⟨q12548, hF⟩ := hF
   obtain ⟨r4, q12549⟩ : ∃ y_ : List (List Int) × List (List Int), y_ = sp_observed (gt all i) (gt sN k) := ⟨_, rfl⟩
   replace hF := hF r4 q12549
   refine clR (α := Option Addr × Nat × Option Addr × Nat) (Φ := fun h1 z => RSl h1 z.1 r4.1 ∧ r4.1.length ≤ z.2.1 ∧ RSl h1 z.2.2.1 r4.2 ∧ r4.2.length ≤ z.2.2.2) (V := fun z => .tuple #[vSl z.1 r4.1 z.2.1, vSl z.2.2.1 r4.2 z.2.2.2]) Tryz.call55 rfl rfl (fun w S => (by rw [q12549]; exact c_observed S.sub (gt all i) a9 c7 (q12545.mono (FH.le_trans (q12177) (q12471))) q12544 (gt sN k) q12548)) rfl (fun z h944 le944 hz => ?_)
   obtain ⟨a10, c8, a11, c9⟩ := z
   obtain ⟨q12550, q12551, q12552, q12553⟩ := hz
   refine .nil ?_
   refine .ja (M := [3, 7, 2, 6, 0, 1, 4, 5]) (C' := [9, 10, 11, 12, 13]) (pre := [(8, .tuple #[vSl a10 r4.1 c8, vSl a11 r4.2 c9]), (9, .tuple #[vSl a10 r4.1 c8, vSl a11 r4.2 c9]), (10, vSl a10 r4.1 c8), (11, vSl a11 r4.2 c9), (12, vSl a10 r4.1 c8), (13, vSl a11 r4.2 c9)]) [(2, vSl aSn sN cSn), (3, iV most), (4, .pointer (some pt)), (10, vSl aall all call), (11, iV i), (12, vSl anext4 next4 cnext4), (14, iV k)] [2, 3, 4, 10, 11, 12, 14] hL rfl rfl rfl rfl rfl sb rfl rfl (by kernel_rfl) ?_
   refine .last [(61, vSl aall all call), (62, iV i), (63, .pointer (some (ead aall (i.toNat * 1)))), (64, .slice a9 ((gt all i).length) c7), (65, vSl aSn sN cSn), (66, iV k), (67, .pointer (some (ead aSn (k.toNat * 1)))), (68, iV (gt sN k)), (69, .tuple #[vSl a10 r4.1 c8, vSl a11 r4.2 c9]), (60, .tuple #[vSl a10 r4.1 c8, vSl a11 r4.2 c9]), (70, vSl a10 r4.1 c8), (71, vSl a11 r4.2 c9), (15, vSl a10 r4.1 c8), (16, vSl a11 r4.2 c9)] rfl (by kernel_rfl) (.v [(69, .tuple #[vSl a10 r4.1 c8, vSl a11 r4.2 c9])] rfl rfl rfl rfl rfl rfl (fun _ => mv rfl) (.v [(60, .tuple #[vSl a10 r4.1 c8, vSl a11 r4.2 c9])] rfl rfl rfl rfl rfl rfl (fun _ => ext rfl rfl) (.v [(60, .tuple #[vSl a10 r4.1 c8, vSl a11 r4.2 c9])] rfl rfl rfl rfl rfl rfl (fun _ => ext rfl rfl) (.v [(70, vSl a10 r4.1 c8), (69, .tuple #[vSl a10 r4.1 c8, vSl a11 r4.2 c9]), (61, vSl aall all call), (62, iV i), (63, .pointer (some (ead aall (i.toNat * 1)))), (64, .slice a9 ((gt all i).length) c7), (65, vSl aSn sN cSn), (66, iV k), (67, .pointer (some (ead aSn (k.toNat * 1)))), (68, iV (gt sN k)), (69, .tuple #[vSl a10 r4.1 c8, vSl a11 r4.2 c9]), (60, .tuple #[vSl a10 r4.1 c8, vSl a11 r4.2 c9]), (70, vSl a10 r4.1 c8)] rfl rfl rfl rfl rfl rfl (fun _ => asg rfl) (.v [(71, vSl a11 r4.2 c9), (15, vSl a10 r4.1 c8), (61, vSl aall all call), (62, iV i), (63, .pointer (some (ead aall (i.toNat * 1)))), (64, .slice a9 ((gt all i).length) c7), (65, vSl aSn sN cSn), (66, iV k), (67, .pointer (some (ead aSn (k.toNat * 1)))), (68, iV (gt sN k)), (69, .tuple #[vSl a10 r4.1 c8, vSl a11 r4.2 c9]), (60, .tuple #[vSl a10 r4.1 c8, vSl a11 r4.2 c9]), (70, vSl a10 r4.1 c8), (71, vSl a11 r4.2 c9), (15, vSl a10 r4.1 c8)] rfl rfl rfl rfl rfl rfl (fun _ => asg rfl) (.nil)))))) rfl ?_
   refine .seqN ?_
   refine .share (σ := Bool) (fun z => F_beliefs_J3 r4 z next4 k I3 μ3) (fun z => [(2, vSl aSn sN cSn), (3, iV most), (4, .pointer (some pt)), (10, vSl aall all call), (11, iV i), (12, vSl anext4 next4 cnext4), (14, iV k), (15, vSl a10 r4.1 c8), (16, vSl a11 r4.2 c9), (79, .bool z)]) (fun _ => [Box pt (tF t at_ ct at_2 ct2 at_3 ct3), OwnSl 35 1 aall all.length call csall, OwnSl 35 1 anext4 next4.length cnext4 csnext4]) (fun _ => h944) ?_ (fun q12555 => ?_)
   ·rintro t79 hF
    show J _ _ _ _ _ [(2, vSl aSn sN cSn), (3, iV most), (4, .pointer (some pt)), (10, vSl aall all call), (11, iV i), (12, vSl anext4 next4 cnext4), (14, iV k), (15, vSl a10 r4.1 c8), (16, vSl a11 r4.2 c9), (79, .bool t79)] [Box pt (tF t at_ ct at_2 ct2 at_3 ct3), OwnSl 35 1 aall all.length call csall, OwnSl 35 1 anext4 next4.length cnext4 csnext4] h944
    refine .cond rfl (fun q12556 => ?_) (fun q12556 => ?_)
    ·replace hF := hF.1 q12556
     refine .region (.V mv0 ?_)
     refine .V mv0 ?_
     refine .V mv0 ?_
     refine bs2 (cs := #[vSl a10 r4.1 c8, vSl a11 r4.2 c9]) (pv := [(0, vSl a10 r4.1 c8), (1, vSl a11 r4.2 c9)]) tS32 rfl rfl (by decide) (by decide) rfl rfl rfl (fun a12 _ => ?_)
     refine .KA [OwnSl 35 1 a12 (([r4.1, r4.2] : List (List (List Int))).length) 2 [vSl a10 r4.1 c8, vSl a11 r4.2 c9], Box pt (tF t at_ ct at_2 ct2 at_3 ct3), OwnSl 35 1 aall all.length call csall, OwnSl 35 1 anext4 next4.length cnext4 csnext4] ?_
     obtain ⟨q12558, hF⟩ := hF
     have q12559 : next4.length + ([r4.1, r4.2] : List (List (List Int))).length = ((next4 ++ ([r4.1, r4.2] : List (List (List Int))))).length := len_app rfl rfl
     have q12560 := RepL.append (RepL.mono (le944) q12470) (show RepL h944 ([r4.1, r4.2] : List (List (List Int))) [.slice a10 r4.1.length c8, .slice a11 r4.2.length c9] from ⟨[.slice a10 r4.1.length c8], _, rfl, ⟨a10, c8, rfl, q12551, q12550⟩, ⟨[.slice a11 r4.2.length c9], _, rfl, ⟨a11, c9, rfl, q12553, q12552⟩, rfl⟩⟩)
     refine app (k := 3) (news := [vSl a10 r4.1 c8, vSl a11 r4.2 c9]) (cs' := (csnext4 ++ [vSl a10 r4.1 c8, vSl a11 r4.2 c9])) (nm := ((next4 ++ ([r4.1, r4.2] : List (List (List Int))))).length) tS32 rfl (by decide) rfl rfl rfl (RepL.len (show RepL h944 ([r4.1, r4.2] : List (List (List Int))) [vSl a10 r4.1 c8, vSl a11 r4.2 c9] from ⟨[vSl a10 r4.1 c8], _, rfl, ⟨a10, c8, rfl, q12551, q12550⟩, ⟨[vSl a11 r4.2 c9], _, rfl, ⟨a11, c9, rfl, q12553, q12552⟩, rfl⟩⟩)) (srcS (k := 0) rfl) (RepL.one (show RepL h944 ([r4.1, r4.2] : List (List (List Int))) [vSl a10 r4.1 c8, vSl a11 r4.2 c9] from ⟨[vSl a10 r4.1 c8], _, rfl, ⟨a10, c8, rfl, q12551, q12550⟩, ⟨[vSl a11 r4.2 c9], _, rfl, ⟨a11, c9, rfl, q12553, q12552⟩, rfl⟩⟩)) (room_of q12559 q12558).1 (room_of q12559 q12558).2 q12559 rfl rfl (fun a13 c10 => ?_)
     refine .KA [OwnSl 35 1 a12 (([r4.1, r4.2] : List (List (List Int))).length) 2 [vSl a10 r4.1 c8, vSl a11 r4.2 c9], Box pt (tF t at_ ct at_2 ct2 at_3 ct3), OwnSl 35 1 aall all.length call csall, OwnSl 35 1 a13 ((next4 ++ ([r4.1, r4.2] : List (List (List Int)))).length) c10 (csnext4 ++ [vSl a10 r4.1 c8, vSl a11 r4.2 c9])] ?_
     refine .V ag0 ?_
     refine .nil (.blkN ?_)
     refine .sel0 [1, 2, 3] (by decide) rfl ?_
     exact .US q12542 ((next4 ++ ([r4.1, r4.2] : List (List (List Int)))), a13, c10, (csnext4 ++ [vSl a10 r4.1 c8, vSl a11 r4.2 c9]), h944) ⟨hF, q12560, (le944)⟩
    replace hF := hF.2 q12556
    refine .skip (.blkN ?_)
    exact .US q12542 (next4, anext4, cnext4, csnext4, h944) ⟨hF, (RepL.mono (le944) q12470), (le944)⟩
   refine .region (.V mv0 ?_)
   refine .V (ln rfl tS35.is) ?_
   refine .V bi0 ?_
   refine .V mv0 ?_
   rcases Bool.eq_false_or_eq_true (decide (0 < ((r4.1.length : Nat) : Int))) with q12561 | q12561
   ·replace hF := hF.1 q12561
    refine .GV mv0 q12561 ?_
    refine .GV (ln rfl tS35.is) q12561 ?_
    refine .GV bi0 q12561 ?_
    refine .V (pkT rfl q12561 rfl) ?_
    refine .nil ?_
    exact .US q12555 (decide (0 < ((r4.2.length : Nat) : Int))) hF
   replace hF := hF.2 q12561
   refine .GS q12561 ?_
   refine .GS q12561 ?_
   refine .GS q12561 ?_
   refine .V (pkF rfl q12561 rfl) ?_
   refine .nil ?_
   exact .US q12555 false hF
  replace hF := hF.2 q12520
  refine .exit (.seqX (.seqX (.blkX (.seqN (.seq (.region (.V ag0 ?_)))))))
  refine .nil (.seqN (.block ?_))
  obtain ⟨I4, μ4, q12626, q12627⟩ := hF
  refine .loop' (σ := Int × List (List (List Int)) × Option Addr × Nat × List Value) (fun z => I4 z.1 z.2.1 ∧ RepL h937 z.2.1 z.2.2.2.2) (fun z => μ4 z.1 z.2.1) (fun z => [(2, vSl aSn sN cSn), (3, iV most), (4, .pointer (some pt)), (10, vSl z.2.2.1 z.2.1 z.2.2.2.1), (11, iV i), (12, vSl anext4 next4 cnext4), (17, iV z.1)]) (fun z => [Box pt (tF t at_ ct at_2 ct2 at_3 ct3), OwnSl 35 1 z.2.2.1 z.2.1.length z.2.2.2.1 z.2.2.2.2, OwnSl 35 1 anext4 next4.length cnext4 csnext4]) (fun _ => h937) (0, all, aall, call, csall) ⟨q12626, (RepL.mono (FH.le_trans (q12177) (q12471)) q8448)⟩ sb rfl (FH.le_refl _) ?_
  rintro ⟨k3, all3, aall3, call3, csall3⟩ ⟨q12626, q12594⟩
  have hF := q12627 k3 all3 q12626
  show J _ _ _ _ _ [(2, vSl aSn sN cSn), (3, iV most), (4, .pointer (some pt)), (10, vSl aall3 all3 call3), (11, iV i), (12, vSl anext4 next4 cnext4), (17, iV k3)] [Box pt (tF t at_ ct at_2 ct2 at_3 ct3), OwnSl 35 1 aall3 all3.length call3 csall3, OwnSl 35 1 anext4 next4.length cnext4 csnext4] h937
  refine .seq (.seq (.region (.V mv0 ?_)))
  refine .V mv0 ?_
  refine .V (ln rfl tS32.is) ?_
  refine .V bi0 ?_
  refine .nil (.seqN ?_)
  refine .cond rfl (fun q12629 => ?_) (fun q12629 => ?_)
  ·replace hF := hF.1 q12629
   refine .skip (.seqN ?_)
   refine .share (σ := List (List (List Int)) × Option Addr × Nat × List Value) (fun z => F_beliefs_J4 k3 I4 μ4 all3 z.1 ∧ RepL h937 z.1 z.2.2.2) (fun z => [(2, vSl aSn sN cSn), (3, iV most), (4, .pointer (some pt)), (10, vSl z.2.1 z.1 z.2.2.1), (11, iV i), (12, vSl anext4 next4 cnext4), (17, iV k3)]) (fun z => [Box pt (tF t at_ ct at_2 ct2 at_3 ct3), OwnSl 35 1 z.2.1 z.1.length z.2.2.1 z.2.2.2, OwnSl 35 1 anext4 next4.length cnext4 csnext4]) (fun _ => h937) ?_ (fun q12644 => ?_)
   ·rintro ⟨all5, aall5, call5, csall5⟩ ⟨hF, q12643⟩
    show J _ _ _ _ _ [(2, vSl aSn sN cSn), (3, iV most), (4, .pointer (some pt)), (10, vSl aall5 all5 call5), (11, iV i), (12, vSl anext4 next4 cnext4), (17, iV k3)] [Box pt (tF t at_ ct at_2 ct2 at_3 ct3), OwnSl 35 1 aall5 all5.length call5 csall5, OwnSl 35 1 anext4 next4.length cnext4 csnext4] h937
    refine .region (.V mv0 ?_)
    refine .V bi0 ?_
    refine .V ag0 ?_
    refine .nil ?_
    exact .RO (wr (k3 + 1), all5, aall5, call5, csall5) ⟨hF.1, q12643⟩ hF.2
   refine .block (.seq (.region (.V mv0 ?_)))
   refine .V mv0 ?_
   refine .V mv0 ?_
   obtain ⟨q12645, hF⟩ := hF
   refine .V (ixS rfl rfl tS32 (k := 2) rfl q12645) ?_
   obtain ⟨_, ⟨a14, c11, rfl, q12646, q12647⟩, q12648⟩ := RepL.get q12470 (gt_get q12645)
   refine .V (ld1 (v := .slice a14 ((gt next4 k3).length) c11) rfl tO35 (cellS (k := 2) rfl (q12648 0 _ rfl))) ?_
   obtain ⟨q12649, hF⟩ := hF
   obtain ⟨r5, q12650⟩ : ∃ y_ : Int, y_ = sp_placeOf all3 (gt next4 k3) := ⟨_, rfl⟩
   replace hF := hF r5 q12650
   refine .C (cl (v := iV r5) Tryz.call56 rfl rfl (fun w S => (by rw [q12650]; obtain ⟨h_, hl_, hs_, hne_, hr_⟩ := look S (k := 1) rfl; exact c_placeOf hs_ all3 aall3 call3 ⟨_, RepL.mono (FH.le_trans (FH.le_refl _) hl_) q12594, hr_⟩ (look_len S (k := 1) rfl) (gt next4 k3) a14 c11 (RSl.mono hl_ q12647) q12646 q12649))) ?_
   refine .V bi0 ?_
   refine .nil (.seqN ?_)
   refine .cond rfl (fun q12651 => ?_) (fun q12651 => ?_)
   ·replace hF := hF.1 q12651
    refine .seq (.seq (.region (.V mv0 ?_)))
    refine .V (ln rfl tS32.is) ?_
    refine .V mv0 ?_
    refine .V bi0 ?_
    refine .nil (.seqN ?_)
    refine .cond rfl (fun q12653 => ?_) (fun q12653 => ?_)
    ·replace hF := hF.1 q12653
     refine .seq (.region (.V ag0 ?_))
     refine .V ag0 ?_
     refine .nil (.seqN (.ret (.seqR (.blkR (.seqR (.seqR (.blkR (.blkR (.seqR (.seqR (.blkR (.seqR ?_))))))))))))
     refine .res2 rfl (rvT rfl) (rvT rfl) (fun w' S => ⟨(([] : List (List (List Int))), false), (none, 0), h937, hF, rfl, (FH.le_trans (FH.le_trans (q8449) (q12177)) (q12471)), ⟨RSl.nil_, (Nat.le_refl 0)⟩, S.none⟩)
    replace hF := hF.2 q12653
    refine .skip (.seqN (.region (.V mv0 ?_)))
    refine .V mv0 ?_
    refine .V mv0 ?_
    refine .V (ixS rfl rfl tS32 (k := 2) rfl q12645) ?_
    refine .V (ld1 (v := .slice a14 ((gt next4 k3).length) c11) rfl tO35 (cellS (k := 2) rfl (q12648 0 _ rfl))) ?_
    refine bs2 (cs := #[.slice a14 ((gt next4 k3).length) c11]) (pv := [(0, .slice a14 ((gt next4 k3).length) c11)]) tS32 rfl rfl (by decide) (by decide) rfl rfl rfl (fun a15 _ => ?_)
    refine .KA [OwnSl 35 1 a15 (([(gt next4 k3)] : List (List (List Int))).length) 1 [.slice a14 ((gt next4 k3).length) c11], Box pt (tF t at_ ct at_2 ct2 at_3 ct3), OwnSl 35 1 aall3 all3.length call3 csall3, OwnSl 35 1 anext4 next4.length cnext4 csnext4] ?_
    obtain ⟨q12655, hF⟩ := hF
    have q12656 : all3.length + ([(gt next4 k3)] : List (List (List Int))).length = ((all3 ++ ([(gt next4 k3)] : List (List (List Int))))).length := len_app rfl rfl
    have q12657 := RepL.append q12594 (show RepL h937 ([(gt next4 k3)] : List (List (List Int))) [.slice a14 ((gt next4 k3).length) c11] from ⟨[.slice a14 ((gt next4 k3).length) c11], _, rfl, ⟨a14, c11, rfl, q12646, q12647⟩, rfl⟩)
    refine app (k := 2) (news := [.slice a14 ((gt next4 k3).length) c11]) (cs' := (csall3 ++ [.slice a14 ((gt next4 k3).length) c11])) (nm := ((all3 ++ ([(gt next4 k3)] : List (List (List Int))))).length) tS32 rfl (by decide) rfl rfl rfl (RepL.len (show RepL h937 ([(gt next4 k3)] : List (List (List Int))) [.slice a14 ((gt next4 k3).length) c11] from ⟨[.slice a14 ((gt next4 k3).length) c11], _, rfl, ⟨a14, c11, rfl, q12646, q12647⟩, rfl⟩)) (srcS (k := 0) rfl) (RepL.one (show RepL h937 ([(gt next4 k3)] : List (List (List Int))) [.slice a14 ((gt next4 k3).length) c11] from ⟨[.slice a14 ((gt next4 k3).length) c11], _, rfl, ⟨a14, c11, rfl, q12646, q12647⟩, rfl⟩)) (room_of q12656 q12655).1 (room_of q12656 q12655).2 q12656 rfl rfl (fun a16 c12 => ?_)
    refine .KA [OwnSl 35 1 a15 (([(gt next4 k3)] : List (List (List Int))).length) 1 [.slice a14 ((gt next4 k3).length) c11], Box pt (tF t at_ ct at_2 ct2 at_3 ct3), OwnSl 35 1 a16 ((all3 ++ ([(gt next4 k3)] : List (List (List Int)))).length) c12 (csall3 ++ [.slice a14 ((gt next4 k3).length) c11]), OwnSl 35 1 anext4 next4.length cnext4 csnext4] ?_
    refine .V ag0 ?_
    refine .nil (.blkN ?_)
    refine .sel0 [1, 2, 3] (by decide) rfl ?_
    exact .US q12644 ((all3 ++ ([(gt next4 k3)] : List (List (List Int)))), a16, c12, (csall3 ++ [.slice a14 ((gt next4 k3).length) c11])) ⟨hF, q12657⟩
   replace hF := hF.2 q12651
   refine .skip (.blkN ?_)
   exact .US q12644 (all3, aall3, call3, csall3) ⟨hF, q12594⟩
  replace hF := hF.2 q12629
  refine .exit (.seqX (.seqX (.blkX (.blkN (.seqN (.region (.V mv0 ?_)))))))
  refine .V bi0 ?_
  refine .V ag0 ?_
  refine .nil ?_
  refine .sel0 [0, 1] (by decide) rfl ?_
  exact .RO (wr (i + 1), all3, aall3, call3, csall3, h937) ⟨hF.1, q12594, (FH.le_trans (FH.le_trans (q8449) (q12177)) (q12471))⟩ hF.2
 replace hF := hF.2 q10557
 refine .exit (.seqX (.seqX (.blkX (.seqN (.seq (.region (.V mv0 ?_)))))))
 refine .V ag0 ?_
 refine .V ag0 ?_
 refine .nil (.seqN ?_)
 refine .freezeL (k := 1) rfl (fun h945 le945 q12659 q12658 => ?_)
 refine .KA [Box pt (tF t at_ ct at_2 ct2 at_3 ct3), tru] ?_
 refine .ret ?_
 refine .res2 rfl (rvT rfl) (rvT rfl) (fun w' S => ⟨(all, true), (aall, call), h945, hF, rfl, (FH.le_trans (q8449) (le945)), ⟨(show RSl h945 aall all from ⟨_, q8448.mono (le945), q12658⟩), (q12659)⟩, S.none⟩)
theorem c_beliefs {h : FH} {w : World} (hs : Sub h w) (t : Task) (at_ : Option Addr) (ct : Nat) (_q1 : RSl h at_ t.init) (_q2 : t.init.length ≤ ct) (at_2 : Option Addr) (ct2 : Nat) (_q3 : RSl h at_2 t.goal) (_q4 : t.goal.length ≤ ct2) (at_3 : Option Addr) (ct3 : Nat) (_q5 : RSl h at_3 t.ops) (_q6 : t.ops.length ≤ ct3) (start2 : List (List Int)) (astart2 : Option Addr) (cstart2 : Nat) (_q7 : RSl h astart2 start2) (_q8 : start2.length ≤ cstart2) (sN : List Int) (aSn : Option Addr) (cSn : Nat) (_q9 : RSl h aSn sN) (_q10 : sN.length ≤ cSn) (most : Int) (hp : pre_beliefs t start2 sN most) : Calls Tryz.prog 15 #[.agg #[iV t.facts, .slice at_ t.init.length ct, .slice at_2 t.goal.length ct2, .slice at_3 t.ops.length ct3], .slice astart2 start2.length cstart2, .slice aSn sN.length cSn, iV most] w fun e w' => ∃ (z : Option Addr × Nat) (h1 : FH), e = .returned (.tuple #[.slice z.1 (sp_beliefs t start2 sN most).1.length z.2, .bool (sp_beliefs t start2 sN most).2]) ∧ FH.le h h1 ∧ (RSl h1 z.1 (sp_beliefs t start2 sN most).1 ∧ (sp_beliefs t start2 sN most).1.length ≤ z.2) ∧ SH (Kp.all w h) h1 w' [] :=
 (w_beliefs hs t at_ ct _q1 _q2 at_2 ct2 _q3 _q4 at_3 ct3 _q5 _q6 start2 astart2 cstart2 _q7 _q8 sN aSn cSn _q9 _q10 most (fun r => r = sp_beliefs t start2 sN most) (ok_beliefs t start2 sN most hp)).mono fun _ _ ⟨r, z, h1, hk, he, hl, hf, hS⟩ => by subst hk; exact ⟨z, h1, he, hl, hf, hS⟩
end Go.Proofs.YtojoehfldbimpaaGreatDoor.Pl

namespace Go.Proofs.YtojoehfldbimpaaGreatDoor.Pl
open Go Go.RowKit
theorem w_able {h : FH} {w : World} (hs : Sub h w) (K : Task → Prop) (hF : F_able  K) : Calls Tryz.prog 54 #[] w fun e w' => ∃ (r : Task) (z : Option Addr × Nat × Option Addr × Nat × Option Addr × Nat) (h1 : FH), K r ∧ e = .returned (.agg #[iV r.facts, .slice z.1 r.init.length z.2.1, .slice z.2.2.1 r.goal.length z.2.2.2.1, .slice z.2.2.2.2.1 r.ops.length z.2.2.2.2.2]) ∧ FH.le h h1 ∧ (RSl h1 z.1 r.init ∧ r.init.length ≤ z.2.1 ∧ RSl h1 z.2.2.1 r.goal ∧ r.goal.length ≤ z.2.2.2.1 ∧ RSl h1 z.2.2.2.2.1 r.ops ∧ r.ops.length ≤ z.2.2.2.2.2) ∧ SH (Kp.all w h) h1 w' [] := by
 refine enter (args := []) Tryz.func54 rfl Tryz.ntmps54 rfl hs ?_
 refine .seq (.region ?_)
 refine al tZ25 rfl (fun pv => ?_)
 refine .nil (.seqN (.seq (.region ?_)))
 refine bs2 (cs := #[iV 0]) (pv := [(0, iV 0)]) tS22 rfl rfl (by decide) (by decide) rfl rfl rfl (fun a _ => ?_)
 refine .KA [oL 3 1 a ([0] : List Int) 1, Box pv [iV 0, .slice none 0 0, .slice none 0 0, .slice none 0 0]] ?_
 refine bs2 (cs := #[iV 0]) (pv := [(0, iV 0)]) tS22 rfl rfl (by decide) (by decide) rfl rfl rfl (fun a2 _ => ?_)
 refine .KA [oL 3 1 a2 ([0] : List Int) 1, oL 3 1 a ([0] : List Int) 1, Box pv [iV 0, .slice none 0 0, .slice none 0 0, .slice none 0 0]] ?_
 refine .V (bld (cs := #[.slice none 0 0, .slice a2 (([0] : List Int).length) 1, .slice none 0 0, iV 1]) (pv := [(1, .slice a2 (([0] : List Int).length) 1), (3, iV 1)]) tB54 rfl rfl) ?_
 refine .freezeL (k := 0) rfl (fun h1 le1 q4 q3 => ?_)
 refine .KA [tru, oL 3 1 a ([0] : List Int) 1, Box pv [iV 0, .slice none 0 0, .slice none 0 0, .slice none 0 0]] ?_
 refine bs2 (cs := #[.slice none 0 0, .slice a2 (([0] : List Int).length) 1, .slice none 0 0, iV 1]) (pv := [(0, .agg #[.slice none 0 0, .slice a2 (([0] : List Int).length) 1, .slice none 0 0, iV 1])]) tS23 rfl rfl (by decide) (by decide) rfl rfl rfl (fun a3 _ => ?_)
 refine .KA [OwnSl 54 4 a3 (([(⟨[], ([0] : List Int), [], 1⟩ : Operator)] : List Operator).length) 1 [.slice none 0 0, .slice a2 (([0] : List Int).length) 1, .slice none 0 0, iV 1], tru, oL 3 1 a ([0] : List Int) 1, Box pv [iV 0, .slice none 0 0, .slice none 0 0, .slice none 0 0]] ?_
 refine .V (bld (cs := #[iV 1, .slice none 0 0, .slice a (([0] : List Int).length) 1, .slice a3 (([(⟨[], ([0] : List Int), [], 1⟩ : Operator)] : List Operator).length) 1]) (pv := [(0, iV 1), (2, .slice a (([0] : List Int).length) 1), (3, .slice a3 (([(⟨[], ([0] : List Int), [], 1⟩ : Operator)] : List Operator).length) 1)]) tB25 rfl rfl) ?_
 refine st (p := pv) (off := 0) (k := 3) (vs := [iV 1, .slice none 0 0, .slice a (([0] : List Int).length) 1, .slice a3 (([(⟨[], ([0] : List Int), [], 1⟩ : Operator)] : List Operator).length) 1]) rfl rfl rfl (fun w => (tA25 w).2) rfl rfl rfl rfl ?_
 refine .KA [OwnSl 54 4 a3 (([(⟨[], ([0] : List Int), [], 1⟩ : Operator)] : List Operator).length) 1 [.slice none 0 0, .slice a2 (([0] : List Int).length) 1, .slice none 0 0, iV 1], tru, oL 3 1 a ([0] : List Int) 1, Box pv [iV 1, .slice none 0 0, .slice a (([0] : List Int).length) 1, .slice a3 (([(⟨[], ([0] : List Int), [], 1⟩ : Operator)] : List Operator).length) 1]] ?_
 refine .nil (.seqN ?_)
 refine .freezeL (k := 0) rfl (fun h2 le2 q7 q6 => ?_)
 refine .KA [tru, tru, oL 3 1 a ([0] : List Int) 1, Box pv [iV 1, .slice none 0 0, .slice a (([0] : List Int).length) 1, .slice a3 (([(⟨[], ([0] : List Int), [], 1⟩ : Operator)] : List Operator).length) 1]] ?_
 refine .freezeL (k := 2) rfl (fun h3 le3 q9 q8 => ?_)
 refine .KA [tru, tru, tru, Box pv [iV 1, .slice none 0 0, .slice a (([0] : List Int).length) 1, .slice a3 (([(⟨[], ([0] : List Int), [], 1⟩ : Operator)] : List Operator).length) 1]] ?_
 refine .ret ?_
 refine .res1 rfl (rvC rfl tA25 (k := 3) rfl rfl) (fun w' S => ⟨(⟨1, [], ([0] : List Int), ([(⟨[], ([0] : List Int), [], 1⟩ : Operator)] : List Operator)⟩ : Task), (none, 0, a, 1, a3, 1), h3, hF, rfl, (FH.le_trans (FH.le_trans (le1) (le2)) (le3)), ⟨RSl.nil_, (Nat.le_refl 0), (RSl.of q8), (q9), ((show RSl h2 a3 ([(⟨[], ([0] : List Int), [], 1⟩ : Operator)] : List Operator) from ⟨_, (show RepL h1 ([(⟨[], ([0] : List Int), [], 1⟩ : Operator)] : List Operator) [.slice none 0 0, .slice a2 (([0] : List Int).length) 1, .slice none 0 0, iV 1] from ⟨[.slice none 0 0, .slice a2 (([0] : List Int).length) 1, .slice none 0 0, iV 1], _, rfl, ⟨none, 0, a2, 1, none, 0, rfl, ⟨Nat.le_refl 0, RSl.nil_⟩, ⟨(q4), (RSl.of q3)⟩, ⟨Nat.le_refl 0, RSl.nil_⟩⟩, rfl⟩).mono (le2), q6⟩).mono (le3)), (q7)⟩, S.none⟩)
theorem c_able {h : FH} {w : World} (hs : Sub h w) : Calls Tryz.prog 54 #[] w fun e w' => ∃ (z : Option Addr × Nat × Option Addr × Nat × Option Addr × Nat) (h1 : FH), e = .returned (.agg #[iV (sp_able).facts, .slice z.1 (sp_able).init.length z.2.1, .slice z.2.2.1 (sp_able).goal.length z.2.2.2.1, .slice z.2.2.2.2.1 (sp_able).ops.length z.2.2.2.2.2]) ∧ FH.le h h1 ∧ (RSl h1 z.1 (sp_able).init ∧ (sp_able).init.length ≤ z.2.1 ∧ RSl h1 z.2.2.1 (sp_able).goal ∧ (sp_able).goal.length ≤ z.2.2.2.1 ∧ RSl h1 z.2.2.2.2.1 (sp_able).ops ∧ (sp_able).ops.length ≤ z.2.2.2.2.2) ∧ SH (Kp.all w h) h1 w' [] :=
 (w_able hs  (fun r => r = sp_able) (ok_able )).mono fun _ _ ⟨r, z, h1, hk, he, hl, hf, hS⟩ => by subst hk; exact ⟨z, h1, he, hl, hf, hS⟩
theorem w_succ {h : FH} {w : World} (hs : Sub h w) (t : Task) (at_ : Option Addr) (ct : Nat) (_q1 : RSl h at_ t.init) (_q2 : t.init.length ≤ ct) (at_2 : Option Addr) (ct2 : Nat) (_q3 : RSl h at_2 t.goal) (_q4 : t.goal.length ≤ ct2) (at_3 : Option Addr) (ct3 : Nat) (_q5 : RSl h at_3 t.ops) (_q6 : t.ops.length ≤ ct3) (worlds : List (List Int)) (aworlds : Option Addr) (cworlds : Nat) (_q7 : RSl h aworlds worlds) (_q8 : worlds.length ≤ cworlds) (K : Unit → Prop) (hF : F_succ t worlds K) : Calls Tryz.prog 81 #[.agg #[iV t.facts, .slice at_ t.init.length ct, .slice at_2 t.goal.length ct2, .slice at_3 t.ops.length ct3], .slice aworlds worlds.length cworlds] w fun e w' => ∃ (r : Unit) (z : Addr × Addr) (h1 : FH), K r ∧ e = .returned (.func (.func 103) #[] #[.pointer (some z.1), .pointer (some z.2)]) ∧ FH.le h h1 ∧ (CellsAt h1 z.1 [iV t.facts, .slice at_ t.init.length ct, .slice at_2 t.goal.length ct2, .slice at_3 t.ops.length ct3] ∧ CellsAt h1 z.2 [.slice aworlds worlds.length cworlds]) ∧ SH (Kp.all w h) h1 w' [] := by
 refine enter (args := [.agg (tF t at_ ct at_2 ct2 at_3 ct3).toArray, vSl aworlds worlds cworlds]) Tryz.func81 rfl Tryz.ntmps81 rfl hs ?_
 refine .seq (.region ?_)
 refine bx (vs := (tF t at_ ct at_2 ct2 at_3 ct3)) rfl rfl rfl (fun pt => ?_)
 refine bx (vs := [vSl aworlds worlds cworlds]) rfl rfl rfl (fun pworlds => ?_)
 refine .V ag0 ?_
 refine .nil (.seqN (.seq (.region (.V (mkf (vf := []) (vc := [.pointer (some pt), .pointer (some pworlds)]) rfl rfl) ?_))))
 refine .V ag0 ?_
 refine .nil (.seqN ?_)
 refine .freezeBx (k := 1) rfl (fun h1 le1 q9 => ?_)
 refine .KA [Box pworlds [vSl aworlds worlds cworlds], tru] ?_
 refine .freezeBx (k := 0) rfl (fun h2 le2 q10 => ?_)
 refine .KA [tru, tru] ?_
 refine .ret ?_
 refine .res1 rfl (rvT rfl) (fun w' S => ⟨(), (pt, pworlds), h2, hF, rfl, (FH.le_trans (le1) (le2)), ⟨(CellsAt.mono (le2) q9), (CellsAt.mono (FH.le_refl _) q10)⟩, S.none⟩)
theorem c_succ {h : FH} {w : World} (hs : Sub h w) (t : Task) (at_ : Option Addr) (ct : Nat) (_q1 : RSl h at_ t.init) (_q2 : t.init.length ≤ ct) (at_2 : Option Addr) (ct2 : Nat) (_q3 : RSl h at_2 t.goal) (_q4 : t.goal.length ≤ ct2) (at_3 : Option Addr) (ct3 : Nat) (_q5 : RSl h at_3 t.ops) (_q6 : t.ops.length ≤ ct3) (worlds : List (List Int)) (aworlds : Option Addr) (cworlds : Nat) (_q7 : RSl h aworlds worlds) (_q8 : worlds.length ≤ cworlds) : Calls Tryz.prog 81 #[.agg #[iV t.facts, .slice at_ t.init.length ct, .slice at_2 t.goal.length ct2, .slice at_3 t.ops.length ct3], .slice aworlds worlds.length cworlds] w fun e w' => ∃ (z : Addr × Addr) (h1 : FH), e = .returned (.func (.func 103) #[] #[.pointer (some z.1), .pointer (some z.2)]) ∧ FH.le h h1 ∧ (CellsAt h1 z.1 [iV t.facts, .slice at_ t.init.length ct, .slice at_2 t.goal.length ct2, .slice at_3 t.ops.length ct3] ∧ CellsAt h1 z.2 [.slice aworlds worlds.length cworlds]) ∧ SH (Kp.all w h) h1 w' [] :=
 (w_succ hs t at_ ct _q1 _q2 at_2 ct2 _q3 _q4 at_3 ct3 _q5 _q6 worlds aworlds cworlds _q7 _q8 (fun r => r = sp_succ t worlds) (ok_succ t worlds)).mono fun _ _ ⟨r, z, h1, hk, he, hl, hf, hS⟩ => by subst hk; exact ⟨z, h1, he, hl, hf, hS⟩
theorem w_small1 {h : FH} {w : World} (hs : Sub h w) (x : List (List Int)) (ax : Option Addr) (cx : Nat) (_q1 : RSl h ax x) (_q2 : x.length ≤ cx) (K : Bool → Prop) (hF : F_small1 x K) : Calls Tryz.prog 82 #[.slice ax x.length cx] w fun e w' => ∃ r : Bool, K r ∧ e = .returned (.bool r) ∧ Below w.heap.size w w' := by
 refine enter (args := [vSl ax x cx]) Tryz.func82 rfl Tryz.ntmps82 rfl hs ?_
 refine .seq (.region (.V ag0 ?_))
 refine .nil (.seqN (.seq (.region (.V ag0 ?_))))
 refine .nil (.seqN (.ret ?_))
 refine .res1 rfl (rvT rfl) (fun w' S => ⟨false, hF, rfl, S.below⟩)
theorem c_small1 {h : FH} {w : World} (hs : Sub h w) (x : List (List Int)) (ax : Option Addr) (cx : Nat) (_q1 : RSl h ax x) (_q2 : x.length ≤ cx) : Calls Tryz.prog 82 #[.slice ax x.length cx] w fun e w' => e = .returned (.bool (sp_small1 x)) ∧ Below w.heap.size w w' :=
 (w_small1 hs x ax cx _q1 _q2 (fun r => r = sp_small1 x) (ok_small1 x)).mono fun _ _ ⟨_, hk, he, hb⟩ => ⟨by rw [he, hk], hb⟩
end Go.Proofs.YtojoehfldbimpaaGreatDoor.Pl

