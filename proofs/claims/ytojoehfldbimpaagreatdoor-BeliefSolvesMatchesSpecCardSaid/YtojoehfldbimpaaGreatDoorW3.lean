/- The walks: from what each function asks to what it does; printed from the code. No condition. -/
import Derived.Test.YtojoehfldbimpaaGreatDoorW2
import Derived.Test.YtojoehfldbimpaaGreatDoorLy
namespace Go.Proofs.YtojoehfldbimpaaGreatDoor.Pl
open Go Go.RowKit
theorem w_key {h : FH} {w : World} (hs : Sub h w) (ht : TabH Tryz.prog h) (l : List (List Int)) (al2 : Option Addr) (cl2 : Nat) (_q1 : RSl h al2 l) (_q2 : l.length ≤ cl2) (K : (List UInt8) → Prop) (hF : F_key l K) : Calls Tryz.prog 49 #[.slice al2 l.length cl2] w fun e w' => ∃ r : List UInt8, K r ∧ e = .returned (strV r) ∧ Below w.heap.size w w' := by
  refine enter (args := [.slice al2 l.length cl2]) Tryz.func49 rfl Tryz.ntmps49 rfl hs ?_
  refine .seq ?_
  refine .region ?_
  refine .v (asg rfl) rfl rfl rfl ?_
  refine .nil ?_
  refine .seqN ?_
  refine .seq ?_
  refine .region ?_
  refine .v (asg rfl) rfl rfl rfl ?_
  refine .nil ?_
  refine .seqN ?_
  refine .seq ?_
  refine .seq ?_
  refine .region ?_
  refine .v (mv rfl) rfl rfl rfl ?_
  refine .v (ln rfl tS35.is) rfl rfl rfl ?_
  refine .v (mv rfl) rfl rfl rfl ?_
  refine .nil ?_
  refine .seqN ?_
  refine .block ?_
  refine .nilSl 5 1 ?_
  refine .cast (A' := [OwnSl 5 1 none (([] : List UInt8).length) 0 (flL ([] : List UInt8))]) rfl ?_
  obtain ⟨I1, μ1, q2075, q2076⟩ := hF
  refine .loop' (σ := Int × List UInt8 × Option Addr × Nat) (fun z => I1 z.1 z.2.1) (fun z => μ1 z.1 z.2.1) (fun z => [(3, .slice z.2.2.1 z.2.1.length z.2.2.2), (8, .slice al2 l.length cl2), (9, .int .i64 ((l.length : Nat) : Int)), (10, .int .i64 z.1)]) (fun z => [OwnSl 5 1 z.2.2.1 z.2.1.length z.2.2.2 (flL z.2.1)]) (fun _ => h) (0, ([] : List UInt8), none, 0) q2075 (.cons rfl (.cons rfl (.cons rfl (.cons rfl (.nil))))) rfl (FH.le_refl _) ?_
  rintro ⟨t10, b, ab, cb⟩ q2075
  have hF := q2076 t10 b q2075
  show J _ _ _ _ _ [(3, .slice ab b.length cb), (8, .slice al2 l.length cl2), (9, .int .i64 ((l.length : Nat) : Int)), (10, .int .i64 t10)] [OwnSl 5 1 ab b.length cb (flL b)] h
  refine .seq ?_
  refine .region ?_
  refine .v (bi rfl rfl rfl) rfl rfl rfl ?_
  refine .nil ?_
  refine .seqN ?_
  refine .seq ?_
  refine .cond rfl (fun q2079 => ?_) (fun q2079 => ?_)
  · replace hF := hF.1 q2079
    refine .skip ?_
    refine .seqN ?_
    refine .seq ?_
    refine .block ?_
    refine .seq ?_
    refine .region ?_
    obtain ⟨q2354, hF⟩ := hF
    refine .v (ix rfl rfl tS35 (_q1.ne (by decide) (inb_pos q2354)) q2354) rfl rfl rfl ?_
    obtain ⟨_, ⟨a, c, rfl, q2355, q2356⟩, q2357⟩ := _q1.elem q2354
    refine .v (ld1 (v := .slice a ((gt l t10).length) c) rfl tO22 (cellH (q2357 (by decide) 0 _ rfl))) rfl rfl rfl ?_
    refine .v (asg rfl) rfl rfl rfl ?_
    refine .nil ?_
    refine .seqN ?_
    refine .seq ?_
    refine .seq ?_
    refine .region ?_
    refine .v (mv rfl) rfl rfl rfl ?_
    refine .v (ln rfl tS22.is) rfl rfl rfl ?_
    refine .v (mv rfl) rfl rfl rfl ?_
    refine .nil ?_
    refine .seqN ?_
    refine .block ?_
    obtain ⟨I2, μ2, q2465, q2466⟩ := hF
    refine .loop' (σ := Int × List UInt8 × Option Addr × Nat) (fun z => I2 z.1 z.2.1) (fun z => μ2 z.1 z.2.1) (fun z => [(3, .slice z.2.2.1 z.2.1.length z.2.2.2), (8, .slice al2 l.length cl2), (9, .int .i64 ((l.length : Nat) : Int)), (10, .int .i64 t10), (14, .slice a ((gt l t10).length) c), (15, .int .i64 (((gt l t10).length : Nat) : Int)), (16, .int .i64 z.1)]) (fun z => [OwnSl 5 1 z.2.2.1 z.2.1.length z.2.2.2 (flL z.2.1)]) (fun _ => h) (0, b, ab, cb) q2465 (.cons rfl (.cons rfl (.cons rfl (.cons rfl (.cons rfl (.cons rfl (.cons rfl (.nil)))))))) rfl (FH.le_refl _) ?_
    rintro ⟨t16, b3, ab3, cb3⟩ q2465
    have hF := q2466 t16 b3 q2465
    show J _ _ _ _ _ [(3, .slice ab3 b3.length cb3), (8, .slice al2 l.length cl2), (9, .int .i64 ((l.length : Nat) : Int)), (10, .int .i64 t10), (14, .slice a ((gt l t10).length) c), (15, .int .i64 (((gt l t10).length : Nat) : Int)), (16, .int .i64 t16)] [OwnSl 5 1 ab3 b3.length cb3 (flL b3)] h
    refine .seq ?_
    refine .region ?_
    refine .v (bi rfl rfl rfl) rfl rfl rfl ?_
    refine .nil ?_
    refine .seqN ?_
    refine .seq ?_
    refine .cond rfl (fun q2469 => ?_) (fun q2469 => ?_)
    · replace hF := hF.1 q2469
      refine .skip ?_
      refine .seqN ?_
      refine .seq ?_
      refine .block ?_
      refine .seq ?_
      refine .region ?_
      obtain ⟨q2482, hF⟩ := hF
      refine .v (ix rfl rfl tS22 (q2356.ne (by decide) (inb_pos q2482)) q2482) rfl rfl rfl ?_
      refine .v (ld1 (v := .int .i64 (gt (gt l t10) t16)) rfl tO3 (cellH (q2356.elemF q2482 (by decide) 0 _ rfl))) rfl rfl rfl ?_
      refine .v (asg rfl) rfl rfl rfl ?_
      refine .nil ?_
      refine .seqN ?_
      refine .region ?_
      refine .v (mv rfl) rfl rfl rfl ?_
      refine .v (mv rfl) rfl rfl rfl ?_
      obtain ⟨q2483, hF⟩ := hF
      obtain ⟨q2484, hF⟩ := hF
      refine ai2 (bs := b3) YtojoehfldbimpaaGreatDoor.lays176 hs ht Tryz.call85 rfl rfl rfl rfl rfl q2483 q2484 rfl (fun a2 c2 => ?_)
      refine .cast (A' := [OwnSl 5 1 a2 ((b3 ++ Lib.itoa (gt (gt l t10) t16)).length) c2 (flL (b3 ++ Lib.itoa (gt (gt l t10) t16)))]) rfl ?_
      refine bs2 (cs := #[.int .u8 44]) (pv := [(0, .int .u8 44)]) tS110 rfl rfl (by decide) (by decide) rfl rfl rfl (fun a3 _ => ?_)
      refine .cast (A' := [OwnSl 5 1 a3 (([44] : List UInt8).length) 1 (flL ([44] : List UInt8)), OwnSl 5 1 a2 ((b3 ++ Lib.itoa (gt (gt l t10) t16)).length) c2 (flL (b3 ++ Lib.itoa (gt (gt l t10) t16)))]) rfl ?_
      obtain ⟨q2486, hF⟩ := hF
      have q2487 : (b3 ++ Lib.itoa (gt (gt l t10) t16)).length + ([44] : List UInt8).length = (((b3 ++ Lib.itoa (gt (gt l t10) t16)) ++ ([44] : List UInt8))).length := len_app rfl rfl
      refine app (k := 1) (news := flL ([44] : List UInt8)) (cs' := flL ((b3 ++ Lib.itoa (gt (gt l t10) t16)) ++ ([44] : List UInt8))) (nm := (((b3 ++ Lib.itoa (gt (gt l t10) t16)) ++ ([44] : List UInt8))).length) tS110 rfl (by decide) rfl rfl rfl (by rw [flL_len]; rfl) (srcS (k := 0) rfl) (flL_one _) (room_of q2487 q2486).1 (room_of q2487 q2486).2 q2487 (flL_append _ _).symm rfl (fun a4 c3 => ?_)
      refine .cast (A' := [OwnSl 5 1 a3 (([44] : List UInt8).length) 1 (flL ([44] : List UInt8)), OwnSl 5 1 a4 (((b3 ++ Lib.itoa (gt (gt l t10) t16)) ++ ([44] : List UInt8)).length) c3 (flL ((b3 ++ Lib.itoa (gt (gt l t10) t16)) ++ ([44] : List UInt8)))]) rfl ?_
      refine .v (asg rfl) rfl rfl rfl ?_
      refine .nil ?_
      refine .blkN ?_
      refine .seqN ?_
      refine .region ?_
      refine .v (bi rfl rfl rfl) rfl rfl rfl ?_
      refine .v (mv rfl) rfl rfl rfl ?_
      refine .nil ?_
      refine .sel0 [1] (by decide) rfl ?_
      exact .round (IntKind.i64.wrap (t16 + 1), ((b3 ++ Lib.itoa (gt (gt l t10) t16)) ++ ([44] : List UInt8)), a4, c3) hF.1 hF.2 (.cons rfl (.cons rfl (.cons rfl (.cons rfl (.cons rfl (.cons rfl (.cons rfl (.nil)))))))) rfl (FH.le_refl _)
    replace hF := hF.2 q2469
    refine .exit ?_
    refine .seqX ?_
    refine .seqX ?_
    refine .blkX ?_
    refine .seqN ?_
    refine .region ?_
    refine .v (mv rfl) rfl rfl rfl ?_
    refine bs2 (cs := #[.int .u8 59]) (pv := [(0, .int .u8 59)]) tS110 rfl rfl (by decide) (by decide) rfl rfl rfl (fun a5 _ => ?_)
    refine .cast (A' := [OwnSl 5 1 a5 (([59] : List UInt8).length) 1 (flL ([59] : List UInt8)), OwnSl 5 1 ab3 b3.length cb3 (flL b3)]) rfl ?_
    obtain ⟨q2489, hF⟩ := hF
    have q2490 : b3.length + ([59] : List UInt8).length = ((b3 ++ ([59] : List UInt8))).length := len_app rfl rfl
    refine app (k := 1) (news := flL ([59] : List UInt8)) (cs' := flL (b3 ++ ([59] : List UInt8))) (nm := ((b3 ++ ([59] : List UInt8))).length) tS110 rfl (by decide) rfl rfl rfl (by rw [flL_len]; rfl) (srcS (k := 0) rfl) (flL_one _) (room_of q2490 q2489).1 (room_of q2490 q2489).2 q2490 (flL_append _ _).symm rfl (fun a6 c4 => ?_)
    refine .cast (A' := [OwnSl 5 1 a5 (([59] : List UInt8).length) 1 (flL ([59] : List UInt8)), OwnSl 5 1 a6 ((b3 ++ ([59] : List UInt8)).length) c4 (flL (b3 ++ ([59] : List UInt8)))]) rfl ?_
    refine .v (asg rfl) rfl rfl rfl ?_
    refine .nil ?_
    refine .blkN ?_
    refine .seqN ?_
    refine .region ?_
    refine .v (bi rfl rfl rfl) rfl rfl rfl ?_
    refine .v (mv rfl) rfl rfl rfl ?_
    refine .nil ?_
    refine .sel0 [1] (by decide) rfl ?_
    exact .round (IntKind.i64.wrap (t10 + 1), (b3 ++ ([59] : List UInt8)), a6, c4) hF.1 hF.2 (.cons rfl (.cons rfl (.cons rfl (.cons rfl (.nil))))) rfl (FH.le_refl _)
  replace hF := hF.2 q2079
  refine .exit ?_
  refine .seqX ?_
  refine .seqX ?_
  refine .blkX ?_
  refine .seqN ?_
  refine .seq ?_
  refine .region ?_
  refine .v (mv rfl) rfl rfl rfl ?_
  refine .v (cvO (k := 0) Tryz.underlying110 Tryz.underlying5 Tryz.underlying9 rfl rfl) rfl rfl rfl ?_
  refine .v (asg rfl) rfl rfl rfl ?_
  refine .nil ?_
  refine .seqN ?_
  refine .ret ?_
  refine .res1 rfl (rvT rfl) (fun w' S => ⟨b, hF, rfl, S.below⟩)

theorem c_key {h : FH} {w : World} (hs : Sub h w) (ht : TabH Tryz.prog h) (l : List (List Int)) (al2 : Option Addr) (cl2 : Nat) (_q1 : RSl h al2 l) (_q2 : l.length ≤ cl2) (hp : pre_key l) : Calls Tryz.prog 49 #[.slice al2 l.length cl2] w fun e w' => e = .returned (strV (sp_key l)) ∧ Below w.heap.size w w' :=
  (w_key hs ht l al2 cl2 _q1 _q2 (fun r => r = sp_key l) (ok_key l hp)).mono fun _ _ ⟨_, hk, he, hb⟩ => ⟨by rw [he, hk], hb⟩

set_option maxHeartbeats 8000000 in
theorem w_scompare {h : FH} {w : World} (hs : Sub h w) (s1 : List Int) (as1 : Option Addr) (cs1 : Nat) (_q1 : RSl h as1 s1) (_q2 : s1.length ≤ cs1) (s2 : List Int) (as2 : Option Addr) (cs2 : Nat) (_q3 : RSl h as2 s2) (_q4 : s2.length ≤ cs2) (K : Int → Prop) (hF : F_scompare s1 s2 K) : Calls Tryz.prog 92 #[.slice as1 s1.length cs1, .slice as2 s2.length cs2] w fun e w' => ∃ r : Int, K r ∧ e = .returned (.int .i64 r) ∧ Below w.heap.size w w' := by
  refine enter (args := [.slice as1 s1.length cs1, .slice as2 s2.length cs2]) Tryz.func92 rfl Tryz.ntmps92 rfl hs ?_
  refine .seq ?_
  refine .region ?_
  refine .v (asg rfl) rfl rfl rfl ?_
  refine .nil ?_
  refine .seqN ?_
  refine .seq ?_
  refine .seq ?_
  refine .region ?_
  refine .v (mv rfl) rfl rfl rfl ?_
  refine .v (ln rfl tS22.is) rfl rfl rfl ?_
  refine .v (mv rfl) rfl rfl rfl ?_
  refine .nil ?_
  refine .seqN ?_
  refine .block ?_
  obtain ⟨I1, μ1, q112, q113⟩ := hF
  refine .loop' (σ := Int) (fun z => I1 z) (fun z => μ1 z) (fun z => [(0, .slice as1 s1.length cs1), (1, .slice as2 s2.length cs2), (9, .slice as1 s1.length cs1), (10, .int .i64 ((s1.length : Nat) : Int)), (11, .int .i64 z)]) (fun _ => []) (fun _ => h) 0 q112 (.cons rfl (.cons rfl (.cons rfl (.cons rfl (.cons rfl (.nil)))))) rfl (FH.le_refl _) ?_
  rintro t11 q112
  have hF := q113 t11 q112
  show J _ _ _ _ _ [(0, .slice as1 s1.length cs1), (1, .slice as2 s2.length cs2), (9, .slice as1 s1.length cs1), (10, .int .i64 ((s1.length : Nat) : Int)), (11, .int .i64 t11)] [] h
  refine .seq ?_
  refine .region ?_
  refine .v (bi rfl rfl rfl) rfl rfl rfl ?_
  refine .nil ?_
  refine .seqN ?_
  refine .seq ?_
  refine .cond rfl (fun q116 => ?_) (fun q116 => ?_)
  · replace hF := hF.1 q116
    refine .skip ?_
    refine .seqN ?_
    refine .seq ?_
    refine .block ?_
    refine .seq ?_
    refine .region ?_
    refine .v (mv rfl) rfl rfl rfl ?_
    obtain ⟨q129, hF⟩ := hF
    refine .v (ix rfl rfl tS22 (_q1.ne (by decide) (inb_pos q129)) q129) rfl rfl rfl ?_
    refine .v (ld1 (v := .int .i64 (gt s1 t11)) rfl tO3 (cellH (_q1.elemF q129 (by decide) 0 _ rfl))) rfl rfl rfl ?_
    refine .v (asg rfl) rfl rfl rfl ?_
    refine .v (asg rfl) rfl rfl rfl ?_
    refine .nil ?_
    refine .seqN ?_
    refine .seq ?_
    refine .seq ?_
    refine .region ?_
    refine .v (mv rfl) rfl rfl rfl ?_
    refine .v (mv rfl) rfl rfl rfl ?_
    refine .v (ln rfl tS22.is) rfl rfl rfl ?_
    refine .v (bi rfl rfl rfl) rfl rfl rfl ?_
    refine .nil ?_
    refine .seqN ?_
    refine .cond rfl (fun q131 => ?_) (fun q131 => ?_)
    · replace hF := hF.1 q131
      refine .seq ?_
      refine .region ?_
      refine .v (asg rfl) rfl rfl rfl ?_
      refine .nil ?_
      refine .seqN ?_
      refine .ret ?_
      refine .seqR ?_
      refine .blkR ?_
      refine .seqR ?_
      refine .seqR ?_
      refine .blkR ?_
      refine .seqR ?_
      refine .res1 rfl (rvT rfl) (fun w' S => ⟨1, hF, rfl, S.below⟩)
    replace hF := hF.2 q131
    refine .skip ?_
    refine .seqN ?_
    refine .seq ?_
    refine .region ?_
    refine .v (mv rfl) rfl rfl rfl ?_
    refine .v (mv rfl) rfl rfl rfl ?_
    obtain ⟨q132, hF⟩ := hF
    refine .v (ix rfl rfl tS22 (_q3.ne (by decide) (inb_pos q132)) q132) rfl rfl rfl ?_
    refine .v (ld1 (v := .int .i64 (gt s2 t11)) rfl tO3 (cellH (_q3.elemF q132 (by decide) 0 _ rfl))) rfl rfl rfl ?_
    refine .v (asg rfl) rfl rfl rfl ?_
    refine .nil ?_
    refine .seqN ?_
    refine .seq ?_
    refine .region ?_
    refine .v (mv rfl) rfl rfl rfl ?_
    refine .v (mv rfl) rfl rfl rfl ?_
    obtain ⟨r2, q133⟩ : ∃ y_ : Int, y_ = sp_compare (gt s1 t11) (gt s2 t11) := ⟨_, rfl⟩
    replace hF := hF r2 q133
    refine .c (cl (v := .int .i64 r2) Tryz.call111 rfl rfl (fun w S => (by rw [q133]; exact c_compare S.sub (gt s1 t11) (gt s2 t11) ))) rfl rfl rfl ?_
    refine .v (asg rfl) rfl rfl rfl ?_
    refine .nil ?_
    refine .seqN ?_
    refine .seq ?_
    refine .region ?_
    refine .v (mv rfl) rfl rfl rfl ?_
    refine .v (bi rfl rfl rfl) rfl rfl rfl ?_
    refine .nil ?_
    refine .seqN ?_
    refine .cond rfl (fun q134 => ?_) (fun q134 => ?_)
    · replace hF := hF.1 q134
      refine .seq ?_
      refine .region ?_
      refine .v (mv rfl) rfl rfl rfl ?_
      refine .v (asg rfl) rfl rfl rfl ?_
      refine .nil ?_
      refine .seqN ?_
      refine .ret ?_
      refine .blkR ?_
      refine .seqR ?_
      refine .seqR ?_
      refine .blkR ?_
      refine .seqR ?_
      refine .res1 rfl (rvT rfl) (fun w' S => ⟨r2, hF, rfl, S.below⟩)
    replace hF := hF.2 q134
    refine .skip ?_
    refine .blkN ?_
    refine .seqN ?_
    refine .region ?_
    refine .v (bi rfl rfl rfl) rfl rfl rfl ?_
    refine .v (mv rfl) rfl rfl rfl ?_
    refine .nil ?_
    exact .round (IntKind.i64.wrap (t11 + 1)) hF.1 hF.2 (.cons rfl (.cons rfl (.cons rfl (.cons rfl (.cons rfl (.nil)))))) rfl (FH.le_refl _)
  replace hF := hF.2 q116
  refine .exit ?_
  refine .seqX ?_
  refine .seqX ?_
  refine .blkX ?_
  refine .seqN ?_
  refine .seq ?_
  refine .seq ?_
  refine .region ?_
  refine .v (mv rfl) rfl rfl rfl ?_
  refine .v (ln rfl tS22.is) rfl rfl rfl ?_
  refine .v (mv rfl) rfl rfl rfl ?_
  refine .v (ln rfl tS22.is) rfl rfl rfl ?_
  refine .v (bi rfl rfl rfl) rfl rfl rfl ?_
  refine .nil ?_
  refine .seqN ?_
  refine .cond rfl (fun q136 => ?_) (fun q136 => ?_)
  · replace hF := hF.1 q136
    refine .seq ?_
    refine .region ?_
    refine .v (asg rfl) rfl rfl rfl ?_
    refine .nil ?_
    refine .seqN ?_
    refine .ret ?_
    refine .seqR ?_
    refine .res1 rfl (rvT rfl) (fun w' S => ⟨(-1), hF, rfl, S.below⟩)
  replace hF := hF.2 q136
  refine .skip ?_
  refine .seqN ?_
  refine .seq ?_
  refine .region ?_
  refine .v (asg rfl) rfl rfl rfl ?_
  refine .nil ?_
  refine .seqN ?_
  refine .ret ?_
  refine .res1 rfl (rvT rfl) (fun w' S => ⟨0, hF, rfl, S.below⟩)

theorem c_scompare {h : FH} {w : World} (hs : Sub h w) (s1 : List Int) (as1 : Option Addr) (cs1 : Nat) (_q1 : RSl h as1 s1) (_q2 : s1.length ≤ cs1) (s2 : List Int) (as2 : Option Addr) (cs2 : Nat) (_q3 : RSl h as2 s2) (_q4 : s2.length ≤ cs2) (hp : pre_scompare s1 s2) : Calls Tryz.prog 92 #[.slice as1 s1.length cs1, .slice as2 s2.length cs2] w fun e w' => e = .returned (.int .i64 (sp_scompare s1 s2)) ∧ Below w.heap.size w w' :=
  (w_scompare hs s1 as1 cs1 _q1 _q2 s2 as2 cs2 _q3 _q4 (fun r => r = sp_scompare s1 s2) (ok_scompare s1 s2 hp)).mono fun _ _ ⟨_, hk, he, hb⟩ => ⟨by rw [he, hk], hb⟩

theorem w_sequal {h : FH} {w : World} (hs : Sub h w) (s1 : List Int) (as1 : Option Addr) (cs1 : Nat) (_q1 : RSl h as1 s1) (_q2 : s1.length ≤ cs1) (s2 : List Int) (as2 : Option Addr) (cs2 : Nat) (_q3 : RSl h as2 s2) (_q4 : s2.length ≤ cs2) (K : Bool → Prop) (hF : F_sequal s1 s2 K) : Calls Tryz.prog 109 #[.slice as1 s1.length cs1, .slice as2 s2.length cs2] w fun e w' => ∃ r : Bool, K r ∧ e = .returned (.bool r) ∧ Below w.heap.size w w' := by
  refine enter (args := [.slice as1 s1.length cs1, .slice as2 s2.length cs2]) Tryz.func109 rfl Tryz.ntmps109 rfl hs ?_
  refine .seq ?_
  refine .region ?_
  refine .v (asg rfl) rfl rfl rfl ?_
  refine .nil ?_
  refine .seqN ?_
  refine .seq ?_
  refine .seq ?_
  refine .region ?_
  refine .v (mv rfl) rfl rfl rfl ?_
  refine .v (ln rfl tS22.is) rfl rfl rfl ?_
  refine .v (mv rfl) rfl rfl rfl ?_
  refine .v (ln rfl tS22.is) rfl rfl rfl ?_
  refine .v (bi rfl rfl rfl) rfl rfl rfl ?_
  refine .nil ?_
  refine .seqN ?_
  refine .cond rfl (fun q6 => ?_) (fun q6 => ?_)
  · replace hF := hF.1 q6
    refine .seq ?_
    refine .region ?_
    refine .v (asg rfl) rfl rfl rfl ?_
    refine .nil ?_
    refine .seqN ?_
    refine .ret ?_
    refine .seqR ?_
    refine .res1 rfl (rvT rfl) (fun w' S => ⟨false, hF, rfl, S.below⟩)
  replace hF := hF.2 q6
  refine .skip ?_
  refine .seqN ?_
  refine .seq ?_
  refine .seq ?_
  refine .region ?_
  refine .v (mv rfl) rfl rfl rfl ?_
  refine .v (ln rfl tS22.is) rfl rfl rfl ?_
  refine .v (mv rfl) rfl rfl rfl ?_
  refine .nil ?_
  refine .seqN ?_
  refine .block ?_
  obtain ⟨I1, μ1, q69, q70⟩ := hF
  refine .loop' (σ := Int) (fun z => I1 z) (fun z => μ1 z) (fun z => [(0, .slice as1 s1.length cs1), (1, .slice as2 s2.length cs2), (12, .int .i64 ((s1.length : Nat) : Int)), (13, .int .i64 z)]) (fun _ => []) (fun _ => h) 0 q69 (.cons rfl (.cons rfl (.cons rfl (.cons rfl (.nil))))) rfl (FH.le_refl _) ?_
  rintro t13 q69
  have hF := q70 t13 q69
  show J _ _ _ _ _ [(0, .slice as1 s1.length cs1), (1, .slice as2 s2.length cs2), (12, .int .i64 ((s1.length : Nat) : Int)), (13, .int .i64 t13)] [] h
  refine .seq ?_
  refine .region ?_
  refine .v (bi rfl rfl rfl) rfl rfl rfl ?_
  refine .nil ?_
  refine .seqN ?_
  refine .seq ?_
  refine .cond rfl (fun q73 => ?_) (fun q73 => ?_)
  · replace hF := hF.1 q73
    refine .skip ?_
    refine .seqN ?_
    refine .seq ?_
    refine .block ?_
    refine .seq ?_
    refine .region ?_
    refine .v (mv rfl) rfl rfl rfl ?_
    refine .v (asg rfl) rfl rfl rfl ?_
    refine .nil ?_
    refine .seqN ?_
    refine .seq ?_
    refine .open_ (by kernel_rfl) (by kernel_rfl) ?_
    refine .v (mv rfl) rfl rfl rfl ?_
    refine .v (mv rfl) rfl rfl rfl ?_
    obtain ⟨q80, hF⟩ := hF
    refine .v (ix rfl rfl tS22 (_q1.ne (by decide) (inb_pos q80)) q80) rfl rfl rfl ?_
    refine .v (ld1 (v := .int .i64 (gt s1 t13)) rfl tO3 (cellH (_q1.elemF q80 (by decide) 0 _ rfl))) rfl rfl rfl ?_
    refine .v (mv rfl) rfl rfl rfl ?_
    refine .v (mv rfl) rfl rfl rfl ?_
    obtain ⟨q81, hF⟩ := hF
    refine .v (ix rfl rfl tS22 (_q3.ne (by decide) (inb_pos q81)) q81) rfl rfl rfl ?_
    refine .v (ld1 (v := .int .i64 (gt s2 t13)) rfl tO3 (cellH (_q3.elemF q81 (by decide) 0 _ rfl))) rfl rfl rfl ?_
    refine .v (bi rfl rfl rfl) rfl rfl rfl ?_
    refine .fin ?_
    refine .seqN ?_
    refine .cond rfl (fun q82 => ?_) (fun q82 => ?_)
    · replace hF := hF.1 q82
      refine .seq ?_
      refine .region ?_
      refine .v (asg rfl) rfl rfl rfl ?_
      refine .nil ?_
      refine .seqN ?_
      refine .ret ?_
      refine .blkR ?_
      refine .seqR ?_
      refine .seqR ?_
      refine .blkR ?_
      refine .seqR ?_
      refine .res1 rfl (rvT rfl) (fun w' S => ⟨false, hF, rfl, S.below⟩)
    replace hF := hF.2 q82
    refine .skip ?_
    refine .blkN ?_
    refine .seqN ?_
    refine .region ?_
    refine .v (bi rfl rfl rfl) rfl rfl rfl ?_
    refine .v (mv rfl) rfl rfl rfl ?_
    refine .nil ?_
    exact .round (IntKind.i64.wrap (t13 + 1)) hF.1 hF.2 (.cons rfl (.cons rfl (.cons rfl (.cons rfl (.nil))))) rfl (FH.le_refl _)
  replace hF := hF.2 q73
  refine .exit ?_
  refine .seqX ?_
  refine .seqX ?_
  refine .blkX ?_
  refine .seqN ?_
  refine .seq ?_
  refine .region ?_
  refine .v (asg rfl) rfl rfl rfl ?_
  refine .nil ?_
  refine .seqN ?_
  refine .ret ?_
  refine .res1 rfl (rvT rfl) (fun w' S => ⟨true, hF, rfl, S.below⟩)

theorem c_sequal {h : FH} {w : World} (hs : Sub h w) (s1 : List Int) (as1 : Option Addr) (cs1 : Nat) (_q1 : RSl h as1 s1) (_q2 : s1.length ≤ cs1) (s2 : List Int) (as2 : Option Addr) (cs2 : Nat) (_q3 : RSl h as2 s2) (_q4 : s2.length ≤ cs2) (hp : pre_sequal s1 s2) : Calls Tryz.prog 109 #[.slice as1 s1.length cs1, .slice as2 s2.length cs2] w fun e w' => e = .returned (.bool (sp_sequal s1 s2)) ∧ Below w.heap.size w w' :=
  (w_sequal hs s1 as1 cs1 _q1 _q2 s2 as2 cs2 _q3 _q4 (fun r => r = sp_sequal s1 s2) (ok_sequal s1 s2 hp)).mono fun _ _ ⟨_, hk, he, hb⟩ => ⟨by rw [he, hk], hb⟩

theorem w_indexR {h : FH} {w : World} (hs : Sub h w) (s_ : List (List Int)) (as_ : Option Addr) (cs_ : Nat) (_q1 : RSl h as_ s_) (_q2 : s_.length ≤ cs_) (pf : (List Int) → Bool) (Df : (List Int) → Prop) (ff : FuncId) (firstf capsf : Array Value) (hff : ∀ args w, (callFunc ff args).run Tryz.prog w = .ok (.enter ff args) w) (hpf : ∀ (x : List Int) (a : Option Addr) (c : Nat), RSl h a x → x.length ≤ c → ∀ (w' : World), Df x → Sub h w' → Calls Tryz.prog ff (firstf.toList ++ [(.slice a x.length c : Value)] ++ capsf.toList).toArray w' fun e w'' => e = .returned (.bool (pf x)) ∧ Below w'.heap.size w' w'') (K : Int → Prop) (hF : F_indexR s_ pf Df K) : Calls Tryz.prog 94 #[.slice as_ s_.length cs_, .func (.func ff) firstf capsf] w fun e w' => ∃ r : Int, K r ∧ e = .returned (.int .i64 r) ∧ Below w.heap.size w w' := by
  refine enter (args := [.slice as_ s_.length cs_, .func (.func ff) firstf capsf]) Tryz.func94 rfl Tryz.ntmps94 rfl hs ?_
  refine .seq ?_
  refine .region ?_
  refine .v (asg rfl) rfl rfl rfl ?_
  refine .nil ?_
  refine .seqN ?_
  refine .seq ?_
  refine .seq ?_
  refine .region ?_
  refine .v (mv rfl) rfl rfl rfl ?_
  refine .v (ln rfl tS35.is) rfl rfl rfl ?_
  refine .v (mv rfl) rfl rfl rfl ?_
  refine .nil ?_
  refine .seqN ?_
  refine .block ?_
  obtain ⟨I1, μ1, q125, q126⟩ := hF
  refine .loop' (σ := Int) (fun z => I1 z) (fun z => μ1 z) (fun z => [(0, .slice as_ s_.length cs_), (1, .func (.func ff) firstf capsf), (7, .int .i64 ((s_.length : Nat) : Int)), (8, .int .i64 z)]) (fun _ => []) (fun _ => h) 0 q125 (.cons rfl (.cons rfl (.cons rfl (.cons rfl (.nil))))) rfl (FH.le_refl _) ?_
  rintro t8 q125
  have hF := q126 t8 q125
  show J _ _ _ _ _ [(0, .slice as_ s_.length cs_), (1, .func (.func ff) firstf capsf), (7, .int .i64 ((s_.length : Nat) : Int)), (8, .int .i64 t8)] [] h
  refine .seq ?_
  refine .region ?_
  refine .v (bi rfl rfl rfl) rfl rfl rfl ?_
  refine .nil ?_
  refine .seqN ?_
  refine .seq ?_
  refine .cond rfl (fun q129 => ?_) (fun q129 => ?_)
  · replace hF := hF.1 q129
    refine .skip ?_
    refine .seqN ?_
    refine .seq ?_
    refine .block ?_
    refine .seq ?_
    refine .region ?_
    refine .v (mv rfl) rfl rfl rfl ?_
    refine .v (asg rfl) rfl rfl rfl ?_
    refine .nil ?_
    refine .seqN ?_
    refine .seq ?_
    refine .region ?_
    refine .v (mv rfl) rfl rfl rfl ?_
    refine .v (mv rfl) rfl rfl rfl ?_
    refine .v (mv rfl) rfl rfl rfl ?_
    obtain ⟨q144, hF⟩ := hF
    refine .v (ix rfl rfl tS35 (_q1.ne (by decide) (inb_pos q144)) q144) rfl rfl rfl ?_
    obtain ⟨_, ⟨a, c, rfl, q145, q146⟩, q147⟩ := _q1.elem q144
    refine .v (ld1 (v := .slice a ((gt s_ t8).length) c) rfl tO22 (cellH (q147 (by decide) 0 _ rfl))) rfl rfl rfl ?_
    obtain ⟨q148, hF⟩ := hF
    obtain ⟨r2, q149⟩ : ∃ y_ : Bool, y_ = pf (gt s_ t8) := ⟨_, rfl⟩
    replace hF := hF r2 q149
    refine .c (cl (v := .bool r2) hff rfl rfl (fun w S => (by rw [q149]; exact hpf (gt s_ t8) a c q146 q145 w q148 (S.sub.anti (FH.le_refl _))))) rfl rfl rfl ?_
    refine .nil ?_
    refine .seqN ?_
    refine .cond rfl (fun q150 => ?_) (fun q150 => ?_)
    · replace hF := hF.1 q150
      refine .seq ?_
      refine .region ?_
      refine .v (mv rfl) rfl rfl rfl ?_
      refine .v (asg rfl) rfl rfl rfl ?_
      refine .nil ?_
      refine .seqN ?_
      refine .ret ?_
      refine .blkR ?_
      refine .seqR ?_
      refine .seqR ?_
      refine .blkR ?_
      refine .seqR ?_
      refine .res1 rfl (rvT rfl) (fun w' S => ⟨t8, hF, rfl, S.below⟩)
    replace hF := hF.2 q150
    refine .skip ?_
    refine .blkN ?_
    refine .seqN ?_
    refine .region ?_
    refine .v (bi rfl rfl rfl) rfl rfl rfl ?_
    refine .v (mv rfl) rfl rfl rfl ?_
    refine .nil ?_
    exact .round (IntKind.i64.wrap (t8 + 1)) hF.1 hF.2 (.cons rfl (.cons rfl (.cons rfl (.cons rfl (.nil))))) rfl (FH.le_refl _)
  replace hF := hF.2 q129
  refine .exit ?_
  refine .seqX ?_
  refine .seqX ?_
  refine .blkX ?_
  refine .seqN ?_
  refine .seq ?_
  refine .region ?_
  refine .v (asg rfl) rfl rfl rfl ?_
  refine .nil ?_
  refine .seqN ?_
  refine .ret ?_
  refine .res1 rfl (rvT rfl) (fun w' S => ⟨(-1), hF, rfl, S.below⟩)

theorem c_indexR {h : FH} {w : World} (hs : Sub h w) (s_ : List (List Int)) (as_ : Option Addr) (cs_ : Nat) (_q1 : RSl h as_ s_) (_q2 : s_.length ≤ cs_) (pf : (List Int) → Bool) (Df : (List Int) → Prop) (ff : FuncId) (firstf capsf : Array Value) (hff : ∀ args w, (callFunc ff args).run Tryz.prog w = .ok (.enter ff args) w) (hpf : ∀ (x : List Int) (a : Option Addr) (c : Nat), RSl h a x → x.length ≤ c → ∀ (w' : World), Df x → Sub h w' → Calls Tryz.prog ff (firstf.toList ++ [(.slice a x.length c : Value)] ++ capsf.toList).toArray w' fun e w'' => e = .returned (.bool (pf x)) ∧ Below w'.heap.size w' w'') (hp : pre_any s_ pf Df) : Calls Tryz.prog 94 #[.slice as_ s_.length cs_, .func (.func ff) firstf capsf] w fun e w' => e = .returned (.int .i64 (sp_indexF s_ pf Df)) ∧ Below w.heap.size w w' :=
  (w_indexR hs s_ as_ cs_ _q1 _q2 pf Df ff firstf capsf hff hpf (fun r => r = sp_indexF s_ pf Df) (ok_indexR s_ pf Df hp)).mono fun _ _ ⟨_, hk, he, hb⟩ => ⟨by rw [he, hk], hb⟩

theorem w_containsR {h : FH} {w : World} (hs : Sub h w) (s_ : List (List Int)) (as_ : Option Addr) (cs_ : Nat) (_q1 : RSl h as_ s_) (_q2 : s_.length ≤ cs_) (pf : (List Int) → Bool) (Df : (List Int) → Prop) (ff : FuncId) (firstf capsf : Array Value) (hff : ∀ args w, (callFunc ff args).run Tryz.prog w = .ok (.enter ff args) w) (hpf : ∀ (x : List Int) (a : Option Addr) (c : Nat), RSl h a x → x.length ≤ c → ∀ (w' : World), Df x → Sub h w' → Calls Tryz.prog ff (firstf.toList ++ [(.slice a x.length c : Value)] ++ capsf.toList).toArray w' fun e w'' => e = .returned (.bool (pf x)) ∧ Below w'.heap.size w' w'') (K : Bool → Prop) (hF : F_containsR s_ pf Df K) : Calls Tryz.prog 66 #[.slice as_ s_.length cs_, .func (.func ff) firstf capsf] w fun e w' => ∃ r : Bool, K r ∧ e = .returned (.bool r) ∧ Below w.heap.size w w' := by
  refine enter (args := [.slice as_ s_.length cs_, .func (.func ff) firstf capsf]) Tryz.func66 rfl Tryz.ntmps66 rfl hs ?_
  refine .seq ?_
  refine .region ?_
  refine .v (asg rfl) rfl rfl rfl ?_
  refine .nil ?_
  refine .seqN ?_
  refine .seq ?_
  refine .region ?_
  refine .v (mv rfl) rfl rfl rfl ?_
  refine .v (mv rfl) rfl rfl rfl ?_
  obtain ⟨q3, hF⟩ := hF
  obtain ⟨r2, q4⟩ : ∃ y_ : Int, y_ = sp_indexF s_ pf Df := ⟨_, rfl⟩
  replace hF := hF r2 q4
  refine .c (cl (v := .int .i64 r2) Tryz.call94 rfl rfl (fun w S => (by rw [q4]; exact c_indexR S.sub s_ as_ cs_ _q1 _q2 pf Df ff firstf capsf hff hpf q3))) rfl rfl rfl ?_
  refine .v (bi rfl rfl rfl) rfl rfl rfl ?_
  refine .v (asg rfl) rfl rfl rfl ?_
  refine .nil ?_
  refine .seqN ?_
  refine .ret ?_
  refine .res1 rfl (rvT rfl) (fun w' S => ⟨decide (0 ≤ r2), hF, rfl, S.below⟩)

theorem c_containsR {h : FH} {w : World} (hs : Sub h w) (s_ : List (List Int)) (as_ : Option Addr) (cs_ : Nat) (_q1 : RSl h as_ s_) (_q2 : s_.length ≤ cs_) (pf : (List Int) → Bool) (Df : (List Int) → Prop) (ff : FuncId) (firstf capsf : Array Value) (hff : ∀ args w, (callFunc ff args).run Tryz.prog w = .ok (.enter ff args) w) (hpf : ∀ (x : List Int) (a : Option Addr) (c : Nat), RSl h a x → x.length ≤ c → ∀ (w' : World), Df x → Sub h w' → Calls Tryz.prog ff (firstf.toList ++ [(.slice a x.length c : Value)] ++ capsf.toList).toArray w' fun e w'' => e = .returned (.bool (pf x)) ∧ Below w'.heap.size w' w'') (hp : pre_any s_ pf Df) : Calls Tryz.prog 66 #[.slice as_ s_.length cs_, .func (.func ff) firstf capsf] w fun e w' => e = .returned (.bool (sp_any s_ pf Df)) ∧ Below w.heap.size w w' :=
  (w_containsR hs s_ as_ cs_ _q1 _q2 pf Df ff firstf capsf hff hpf (fun r => r = sp_any s_ pf Df) (ok_containsR s_ pf Df hp)).mono fun _ _ ⟨_, hk, he, hb⟩ => ⟨by rw [he, hk], hb⟩

theorem w_reverse {h : FH} {w : World} (hs : Sub h w) (s_ : List Int) (as_ : Option Addr) (cs_ : Nat) {gX : FH} (ownX : OwnSl 3 1 as_ s_.length cs_ (flL s_) gX) (subX : Sub gX w) (disX : Disj h gX) (K : (List Int) → Prop) (hF : F_reverse s_ K) : Calls Tryz.prog 86 #[.slice as_ s_.length cs_] w fun e w' => ∃ r : List Int, K r ∧ e = .returned (.tuple #[]) ∧ SH (Kp.ex w h gX) h w' [OwnSl 3 1 as_ s_.length cs_ (flL r)] := by
  refine enterX (X := OwnSl 3 1 as_ s_.length cs_ (flL s_)) (args := [.slice as_ s_.length cs_]) Tryz.func86 rfl Tryz.ntmps86 rfl hs subX disX ownX ?_
  refine .seq ?_
  refine .region ?_
  refine .v (mv rfl) rfl rfl rfl ?_
  refine .v (ln rfl tS22.is) rfl rfl rfl ?_
  refine .v (bi rfl rfl rfl) rfl rfl rfl ?_
  refine .v (asg rfl) rfl rfl rfl ?_
  refine .v (asg rfl) rfl rfl rfl ?_
  refine .nil ?_
  refine .seqN ?_
  refine .block ?_
  obtain ⟨I1, μ1, q52, q53⟩ := hF
  refine .loop' (σ := Int × Int × List Int) (fun z => I1 z.1 z.2.1 z.2.2 ∧ z.2.2.length = s_.length) (fun z => μ1 z.1 z.2.1 z.2.2) (fun z => [(0, .slice as_ s_.length cs_), (2, .int .i64 z.1), (3, .int .i64 z.2.1)]) (fun z => [OwnSl 3 1 as_ s_.length cs_ (flL z.2.2)]) (fun _ => h) (0, IntKind.i64.wrap (((s_.length : Nat) : Int) - 1), s_) ⟨q52, rfl⟩ (.cons rfl (.cons rfl (.cons rfl (.nil)))) rfl (FH.le_refl _) ?_
  rintro ⟨i, j, s_2⟩ ⟨q52, q27⟩
  have hF := q53 i j s_2 q52
  show J _ _ _ _ _ [(0, .slice as_ s_.length cs_), (2, .int .i64 i), (3, .int .i64 j)] [OwnSl 3 1 as_ s_.length cs_ (flL s_2)] h
  refine .seq ?_
  refine .seq ?_
  refine .region ?_
  refine .v (mv rfl) rfl rfl rfl ?_
  refine .v (mv rfl) rfl rfl rfl ?_
  refine .v (bi rfl rfl rfl) rfl rfl rfl ?_
  refine .nil ?_
  refine .seqN ?_
  refine .cond rfl (fun q55 => ?_) (fun q55 => ?_)
  · replace hF := hF.1 q55
    refine .skip ?_
    refine .seqN ?_
    refine .seq ?_
    refine .block ?_
    obtain ⟨q70, hF⟩ := hF
    obtain ⟨q71, hF⟩ := hF
    refine .openA (s0 := [(0, .slice as_ s_.length cs_), (2, .int .i64 i), (3, .int .i64 j)]) [0, 1, 2, 3, 4, 5, 6, 7, 8, 9, 10, 11, 12] [(0, .slice as_ s_.length cs_), (1, .int .i64 i), (2, .slice as_ s_.length cs_), (3, .int .i64 j), (4, .slice as_ s_.length cs_), (5, .int .i64 j), (6, .pointer (some (ead as_ (j.toNat * 1)))), (7, .int .i64 (gt s_2 j)), (8, .slice as_ s_.length cs_), (9, .int .i64 i), (10, .pointer (some (ead as_ (i.toNat * 1)))), (11, .int .i64 (gt s_2 i)), (12, .pointer (some (ead as_ (i.toNat * 1))))] (by kernel_rfl) (.cons rfl (.cons rfl (.cons rfl (.nil)))) [0, 2, 3] [] rfl (by kernel_rfl) ?_
    refine .step [13] 13 rfl (by kernel_rfl) (by kernel_rfl) (.v [] rfl rfl rfl rfl rfl rfl (fun _ => mv rfl) (.v [] rfl rfl rfl rfl rfl rfl (fun _ => mv rfl) (.v [] rfl rfl rfl rfl rfl rfl (fun _ => mv rfl) (.v [] rfl rfl rfl rfl rfl rfl (fun _ => mv rfl) (.v [] rfl rfl rfl rfl rfl rfl (fun _ => mv rfl) (.v [] rfl rfl rfl rfl rfl rfl (fun _ => mv rfl) (.v [(18, .slice as_ s_.length cs_), (19, .int .i64 j)] rfl rfl rfl rfl rfl rfl (fun _ => ixS rfl rfl tS22 (k := 0) rfl (inb_n q70 q27)) (.v [(20, .pointer (some (ead as_ (j.toNat * 1))))] rfl rfl rfl rfl rfl rfl (fun _ => ld1 (v := .int .i64 (gt s_2 j)) rfl tO3 (cellS (k := 0) rfl (flL_get q70 (j := 0) rfl))) (.v [] rfl rfl rfl rfl rfl rfl (fun _ => mv rfl) (.v [] rfl rfl rfl rfl rfl rfl (fun _ => mv rfl) (.v [(22, .slice as_ s_.length cs_), (23, .int .i64 i)] rfl rfl rfl rfl rfl rfl (fun _ => ixS rfl rfl tS22 (k := 0) rfl (inb_n q71 q27)) (.v [(24, .pointer (some (ead as_ (i.toNat * 1))))] rfl rfl rfl rfl rfl rfl (fun _ => ld1 (v := .int .i64 (gt s_2 i)) rfl tO3 (cellS (k := 0) rfl (flL_get q71 (j := 0) rfl))) (.v [(14, .slice as_ s_.length cs_), (15, .int .i64 i), (14, .slice as_ s_.length cs_), (15, .int .i64 i), (18, .slice as_ s_.length cs_), (19, .int .i64 j), (20, .pointer (some (ead as_ (j.toNat * 1)))), (21, .int .i64 (gt s_2 j)), (25, .int .i64 (gt s_2 i))] rfl rfl rfl rfl rfl rfl (fun _ => ixS rfl rfl tS22 (k := 0) rfl (inb_n q71 q27)) (.nil)))))))))))))) (.cons [(26, .pointer (some (ead as_ (i.toNat * 1)))), (21, .int .i64 (gt s_2 j)), (14, .slice as_ s_.length cs_), (15, .int .i64 i), (18, .slice as_ s_.length cs_), (19, .int .i64 j), (20, .pointer (some (ead as_ (j.toNat * 1)))), (21, .int .i64 (gt s_2 j)), (25, .int .i64 (gt s_2 i))] rfl rfl (fun sL hL => ?_) (.nil))
    obtain ⟨d, q72⟩ : ∃ y_ : List Int, y_ = (s_2.set (i).toNat (gt s_2 j)) := ⟨_, rfl⟩
    replace hF := hF d q72
    refine stS (k := 0) (cs' := flL d) rfl (fun _ => rfl) rfl rfl (fun w => (tO3 w).2) rfl rfl rfl (by rw [← q27]; exact inb_pos q71) (fl_room q71) (by rw [q72]; exact flL_set q71 (gt s_2 j)) ?_
    have q73 : d.length = s_.length := by rw [q72]; exact List.length_set.trans q27
    refine .cast (A' := [OwnSl 3 1 as_ s_.length cs_ (flL d)]) rfl ?_
    refine .nil ?_
    obtain ⟨q74, hF⟩ := hF
    refine .jaN (M := [12, 7, 0, 1, 4, 5, 6, 11, 10, 8, 9]) (C' := [2, 3, 14]) (pre := [(14, .pointer (some (ead as_ (j.toNat * 1))))]) [0, 2, 3] hL rfl rfl rfl rfl rfl (by kernel_rfl) ?_
    refine .step [15] 15 rfl (by kernel_rfl) (by kernel_rfl) (.v [] rfl rfl rfl rfl rfl rfl (fun _ => mv rfl) (.v [] rfl rfl rfl rfl rfl rfl (fun _ => mv rfl) (.v [(16, .slice as_ s_.length cs_), (17, .int .i64 j), (14, .slice as_ s_.length cs_), (15, .int .i64 i), (16, .slice as_ s_.length cs_), (17, .int .i64 j), (18, .slice as_ s_.length cs_), (19, .int .i64 j), (20, .pointer (some (ead as_ (j.toNat * 1)))), (21, .int .i64 (gt s_2 j)), (22, .slice as_ s_.length cs_), (23, .int .i64 i), (24, .pointer (some (ead as_ (i.toNat * 1)))), (25, .int .i64 (gt s_2 i)), (26, .pointer (some (ead as_ (i.toNat * 1))))] rfl rfl rfl rfl rfl rfl (fun _ => ixS rfl rfl tS22 (k := 0) rfl (inb_n q74 q73)) (.nil)))) (.cons [(27, .pointer (some (ead as_ (j.toNat * 1)))), (25, .int .i64 (gt s_2 i)), (14, .slice as_ s_.length cs_), (15, .int .i64 i), (16, .slice as_ s_.length cs_), (17, .int .i64 j), (18, .slice as_ s_.length cs_), (19, .int .i64 j), (20, .pointer (some (ead as_ (j.toNat * 1)))), (21, .int .i64 (gt s_2 j)), (22, .slice as_ s_.length cs_), (23, .int .i64 i), (24, .pointer (some (ead as_ (i.toNat * 1)))), (25, .int .i64 (gt s_2 i)), (26, .pointer (some (ead as_ (i.toNat * 1))))] rfl rfl (fun sL hL => ?_) (.nil))
    obtain ⟨d2, q75⟩ : ∃ y_ : List Int, y_ = (d.set (j).toNat (gt s_2 i)) := ⟨_, rfl⟩
    replace hF := hF d2 q75
    refine stS (k := 0) (cs' := flL d2) rfl (fun _ => rfl) rfl rfl (fun w => (tO3 w).2) rfl rfl rfl (by rw [← q73]; exact inb_pos q74) (fl_room q74) (by rw [q75]; exact flL_set q74 (gt s_2 i)) ?_
    have q76 : d2.length = s_.length := by rw [q75]; exact List.length_set.trans q73
    refine .cast (A' := [OwnSl 3 1 as_ s_.length cs_ (flL d2)]) rfl ?_
    refine .nil ?_
    refine .jaN (M := [14, 2, 3]) (C' := []) (pre := []) [0, 2, 3] hL rfl rfl rfl rfl rfl (by kernel_rfl) ?_
    refine .last [(14, .slice as_ s_.length cs_), (15, .int .i64 i), (16, .slice as_ s_.length cs_), (17, .int .i64 j), (18, .slice as_ s_.length cs_), (19, .int .i64 j), (20, .pointer (some (ead as_ (j.toNat * 1)))), (21, .int .i64 (gt s_2 j)), (22, .slice as_ s_.length cs_), (23, .int .i64 i), (24, .pointer (some (ead as_ (i.toNat * 1)))), (25, .int .i64 (gt s_2 i)), (26, .pointer (some (ead as_ (i.toNat * 1)))), (27, .pointer (some (ead as_ (j.toNat * 1))))] rfl (by kernel_rfl) (.nil) rfl ?_
    refine .blkN ?_
    refine .seqN ?_
    refine .region ?_
    refine .v (mv rfl) rfl rfl rfl ?_
    refine .v (bi rfl rfl rfl) rfl rfl rfl ?_
    refine .v (mv rfl) rfl rfl rfl ?_
    refine .v (bi rfl rfl rfl) rfl rfl rfl ?_
    refine .v (asg rfl) rfl rfl rfl ?_
    refine .v (asg rfl) rfl rfl rfl ?_
    refine .nil ?_
    exact .round (IntKind.i64.wrap (i + 1), IntKind.i64.wrap (j - 1), d2) ⟨hF.1, q76⟩ hF.2 (.cons rfl (.cons rfl (.cons rfl (.nil)))) rfl (FH.le_refl _)
  replace hF := hF.2 q55
  refine .exit ?_
  refine .seqX ?_
  refine .seqX ?_
  refine .blkX ?_
  refine .res0 (.inr rfl) rfl (fun w' S => ⟨s_2, hF, rfl, S.pick (k := 0) rfl⟩)

theorem c_reverse {h : FH} {w : World} (hs : Sub h w) (s_ : List Int) (as_ : Option Addr) (cs_ : Nat) {gX : FH} (ownX : OwnSl 3 1 as_ s_.length cs_ (flL s_) gX) (subX : Sub gX w) (disX : Disj h gX) (hp : pre_reverse s_) : Calls Tryz.prog 86 #[.slice as_ s_.length cs_] w fun e w' => e = .returned (.tuple #[]) ∧ SH (Kp.ex w h gX) h w' [OwnSl 3 1 as_ s_.length cs_ (flL (sp_reverse s_))] :=
  (w_reverse hs s_ as_ cs_ ownX subX disX (fun r => r = sp_reverse s_) (ok_reverse s_ hp)).mono fun _ _ ⟨r, hk, he, hS⟩ => ⟨he, by rw [← hk]; exact hS⟩

theorem w_unknownFault {h : FH} {w : World} (hs : Sub h w) (t : Task) (at_ : Option Addr) (ct : Nat) (_q1 : RSl h at_ t.init) (_q2 : t.init.length ≤ ct) (at_2 : Option Addr) (ct2 : Nat) (_q3 : RSl h at_2 t.goal) (_q4 : t.goal.length ≤ ct2) (at_3 : Option Addr) (ct3 : Nat) (_q5 : RSl h at_3 t.ops) (_q6 : t.ops.length ≤ ct3) (unknown : List Int) (aunknown : Option Addr) (cunknown : Nat) (_q7 : RSl h aunknown unknown) (_q8 : unknown.length ≤ cunknown) (K : Fault → Prop) (hF : F_unknownFault t unknown K) : Calls Tryz.prog 45 #[.agg #[.int .i64 t.facts, .slice at_ t.init.length ct, .slice at_2 t.goal.length ct2, .slice at_3 t.ops.length ct3], .slice aunknown unknown.length cunknown] w fun e w' => ∃ r : Fault, K r ∧ e = .returned (.agg #[.int .i64 r.code, .int .i64 r.index]) ∧ Below w.heap.size w w' := by
  refine enter (args := [.agg #[.int .i64 t.facts, .slice at_ t.init.length ct, .slice at_2 t.goal.length ct2, .slice at_3 t.ops.length ct3], .slice aunknown unknown.length cunknown]) Tryz.func45 rfl Tryz.ntmps45 rfl hs ?_
  refine .seq ?_
  refine .region ?_
  refine bx (vs := [.int .i64 t.facts, .slice at_ t.init.length ct, .slice at_2 t.goal.length ct2, .slice at_3 t.ops.length ct3]) rfl rfl rfl (fun pt => ?_)
  refine al tZ27 rfl (fun pv => ?_)
  refine .nil ?_
  refine .seqN ?_
  refine .seq ?_
  refine .seq ?_
  refine .region ?_
  refine .v (ldA (cs := [.int .i64 t.facts, .slice at_ t.init.length ct, .slice at_2 t.goal.length ct2, .slice at_3 t.ops.length ct3]) rfl tA25 rfl (cellsB (off := 0) (k := 1) rfl (m := 4) rfl)) rfl rfl rfl ?_
  obtain ⟨r2, q9⟩ : ∃ y_ : Fault, y_ = sp_validate t := ⟨_, rfl⟩
  replace hF := hF r2 q9
  refine .c (cl (v := .agg #[.int .i64 r2.code, .int .i64 r2.index]) Tryz.call79 rfl rfl (fun w S => (by rw [q9]; exact c_validate S.sub t at_ ct _q1 _q2 at_2 ct2 _q3 _q4 at_3 ct3 _q5 _q6 ))) rfl rfl rfl ?_
  refine al tZ27 rfl (fun pf => ?_)
  refine st (p := pf) (off := 0) (k := 0) (vs := [.int .i64 r2.code, .int .i64 r2.index]) rfl rfl rfl (fun w => (tA27 w).2) rfl rfl rfl rfl ?_
  refine .cast (A' := [Box pf [.int .i64 r2.code, .int .i64 r2.index], Box pv [.int .i64 0, .int .i64 0], Box pt [.int .i64 t.facts, .slice at_ t.init.length ct, .slice at_2 t.goal.length ct2, .slice at_3 t.ops.length ct3]]) rfl ?_
  refine .nil ?_
  refine .seqN ?_
  refine .seq ?_
  refine .region ?_
  refine .v (ldA (cs := [.int .i64 r2.code, .int .i64 r2.index]) rfl tA27 rfl (cellsB (off := 0) (k := 0) rfl (m := 2) rfl)) rfl rfl rfl ?_
  refine .v (bld (cs := #[.int .i64 0, .int .i64 0]) (pv := []) tB27 rfl rfl) rfl rfl rfl ?_
  refine .v (ne2 tE27 rfl rfl) rfl rfl rfl ?_
  refine .nil ?_
  refine .seqN ?_
  refine .cond rfl (fun q11 => ?_) (fun q11 => ?_)
  · replace hF := hF.1 q11
    refine .seq ?_
    refine .region ?_
    refine .v (ldA (cs := [.int .i64 r2.code, .int .i64 r2.index]) rfl tA27 rfl (cellsB (off := 0) (k := 0) rfl (m := 2) rfl)) rfl rfl rfl ?_
    refine st (p := pv) (off := 0) (k := 1) (vs := [.int .i64 r2.code, .int .i64 r2.index]) rfl rfl rfl (fun w => (tA27 w).2) rfl rfl rfl rfl ?_
    refine .cast (A' := [Box pf [.int .i64 r2.code, .int .i64 r2.index], Box pv [.int .i64 r2.code, .int .i64 r2.index], Box pt [.int .i64 t.facts, .slice at_ t.init.length ct, .slice at_2 t.goal.length ct2, .slice at_3 t.ops.length ct3]]) rfl ?_
    refine .nil ?_
    refine .seqN ?_
    refine .ret ?_
    refine .seqR ?_
    refine .res1 rfl (rvC rfl tA27 (k := 1) rfl rfl) (fun w' S => ⟨r2, hF, rfl, S.below⟩)
  replace hF := hF.2 q11
  refine .skip ?_
  refine .seqN ?_
  refine .seq ?_
  refine .block ?_
  refine .seq ?_
  refine .region ?_
  refine .v (mv rfl) rfl rfl rfl ?_
  refine .v (ln rfl tS22.is) rfl rfl rfl ?_
  refine .v (bi rfl rfl rfl) rfl rfl rfl ?_
  refine .v (asg rfl) rfl rfl rfl ?_
  refine .nil ?_
  refine .seqN ?_
  refine .cond rfl (fun q20 => ?_) (fun q20 => ?_)
  · replace hF := hF.1 q20
    refine .seq ?_
    refine .region ?_
    refine .v (bld (cs := #[.int .i64 2, .int .i64 (-8)]) (pv := [(0, .int .i64 2), (1, .int .i64 (-8))]) tB27 rfl rfl) rfl rfl rfl ?_
    refine st (p := pv) (off := 0) (k := 1) (vs := [.int .i64 2, .int .i64 (-8)]) rfl rfl rfl (fun w => (tA27 w).2) rfl rfl rfl rfl ?_
    refine .cast (A' := [Box pf [.int .i64 r2.code, .int .i64 r2.index], Box pv [.int .i64 2, .int .i64 (-8)], Box pt [.int .i64 t.facts, .slice at_ t.init.length ct, .slice at_2 t.goal.length ct2, .slice at_3 t.ops.length ct3]]) rfl ?_
    refine .nil ?_
    refine .seqN ?_
    refine .ret ?_
    refine .blkR ?_
    refine .seqR ?_
    refine .res1 rfl (rvC rfl tA27 (k := 1) rfl rfl) (fun w' S => ⟨(⟨2, (-8)⟩ : Fault), hF, rfl, S.below⟩)
  replace hF := hF.2 q20
  refine .seq ?_
  refine .region ?_
  refine .v (mv rfl) rfl rfl rfl ?_
  refine .v (fa rfl tF25_0) rfl rfl rfl ?_
  refine .v (ld1 rfl tO3 (cellB (off := 0) (k := 2) rfl rfl)) rfl rfl rfl ?_
  obtain ⟨q21, hF⟩ := hF
  obtain ⟨r3, q22⟩ : ∃ y_ : Bool, y_ = sp_isSet unknown t.facts := ⟨_, rfl⟩
  replace hF := hF r3 q22
  refine .c (cl (v := .bool r3) Tryz.call61 rfl rfl (fun w S => (by rw [q22]; exact c_isSet S.sub unknown aunknown cunknown _q7 _q8 t.facts q21))) rfl rfl rfl ?_
  refine .v (nt rfl) rfl rfl rfl ?_
  refine .v (asg rfl) rfl rfl rfl ?_
  refine .nil ?_
  refine .seqN ?_
  refine .cond rfl (fun q23 => ?_) (fun q23 => ?_)
  · replace hF := hF.1 q23
    refine .seq ?_
    refine .region ?_
    refine .v (bld (cs := #[.int .i64 5, .int .i64 (-8)]) (pv := [(0, .int .i64 5), (1, .int .i64 (-8))]) tB27 rfl rfl) rfl rfl rfl ?_
    refine st (p := pv) (off := 0) (k := 1) (vs := [.int .i64 5, .int .i64 (-8)]) rfl rfl rfl (fun w => (tA27 w).2) rfl rfl rfl rfl ?_
    refine .cast (A' := [Box pf [.int .i64 r2.code, .int .i64 r2.index], Box pv [.int .i64 5, .int .i64 (-8)], Box pt [.int .i64 t.facts, .slice at_ t.init.length ct, .slice at_2 t.goal.length ct2, .slice at_3 t.ops.length ct3]]) rfl ?_
    refine .nil ?_
    refine .seqN ?_
    refine .ret ?_
    refine .blkR ?_
    refine .seqR ?_
    refine .res1 rfl (rvC rfl tA27 (k := 1) rfl rfl) (fun w' S => ⟨(⟨5, (-8)⟩ : Fault), hF, rfl, S.below⟩)
  replace hF := hF.2 q23
  refine .skip ?_
  refine .blkN ?_
  refine .seqN ?_
  refine .seq ?_
  refine .region ?_
  refine .v (bld (cs := #[.int .i64 0, .int .i64 0]) (pv := []) tB27 rfl rfl) rfl rfl rfl ?_
  refine st (p := pv) (off := 0) (k := 1) (vs := [.int .i64 0, .int .i64 0]) rfl rfl rfl (fun w => (tA27 w).2) rfl rfl rfl rfl ?_
  refine .cast (A' := [Box pf [.int .i64 r2.code, .int .i64 r2.index], Box pv [.int .i64 0, .int .i64 0], Box pt [.int .i64 t.facts, .slice at_ t.init.length ct, .slice at_2 t.goal.length ct2, .slice at_3 t.ops.length ct3]]) rfl ?_
  refine .nil ?_
  refine .seqN ?_
  refine .ret ?_
  refine .res1 rfl (rvC rfl tA27 (k := 1) rfl rfl) (fun w' S => ⟨(⟨0, 0⟩ : Fault), hF, rfl, S.below⟩)

theorem c_unknownFault {h : FH} {w : World} (hs : Sub h w) (t : Task) (at_ : Option Addr) (ct : Nat) (_q1 : RSl h at_ t.init) (_q2 : t.init.length ≤ ct) (at_2 : Option Addr) (ct2 : Nat) (_q3 : RSl h at_2 t.goal) (_q4 : t.goal.length ≤ ct2) (at_3 : Option Addr) (ct3 : Nat) (_q5 : RSl h at_3 t.ops) (_q6 : t.ops.length ≤ ct3) (unknown : List Int) (aunknown : Option Addr) (cunknown : Nat) (_q7 : RSl h aunknown unknown) (_q8 : unknown.length ≤ cunknown) : Calls Tryz.prog 45 #[.agg #[.int .i64 t.facts, .slice at_ t.init.length ct, .slice at_2 t.goal.length ct2, .slice at_3 t.ops.length ct3], .slice aunknown unknown.length cunknown] w fun e w' => e = .returned (.agg #[.int .i64 (sp_unknownFault t unknown).code, .int .i64 (sp_unknownFault t unknown).index]) ∧ Below w.heap.size w w' :=
  (w_unknownFault hs t at_ ct _q1 _q2 at_2 ct2 _q3 _q4 at_3 ct3 _q5 _q6 unknown aunknown cunknown _q7 _q8 (fun r => r = sp_unknownFault t unknown) (ok_unknownFault t unknown)).mono fun _ _ ⟨_, hk, he, hb⟩ => ⟨by rw [he, hk], hb⟩

theorem w_sure1 {h : FH} {w : World} (hs : Sub h w) (s_ : List Int) (as_ : Option Addr) (cs_ : Nat) (_q1 : RSl h as_ s_) (_q2 : s_.length ≤ cs_) (x : List Int) (ax : Option Addr) (cx : Nat) (_q3 : RSl h ax x) (_q4 : x.length ≤ cx) (px : Addr) (_q5 : CellsAt h px [.slice ax x.length cx]) (K : Bool → Prop) (hF : F_sure1 s_ x K) : Calls Tryz.prog 87 #[.slice as_ s_.length cs_, .pointer (some px)] w fun e w' => ∃ r : Bool, K r ∧ e = .returned (.bool r) ∧ Below w.heap.size w w' := by
  refine enter (args := [.slice as_ s_.length cs_, .pointer (some px)]) Tryz.func87 rfl Tryz.ntmps87 rfl hs ?_
  refine .seq ?_
  refine .region ?_
  refine .v (asg rfl) rfl rfl rfl ?_
  refine .nil ?_
  refine .seqN ?_
  refine .seq ?_
  refine .region ?_
  refine .v (mv rfl) rfl rfl rfl ?_
  refine .v (ld1 (v := .slice ax x.length cx) rfl tO22 (cellH (CellsAt.mono (FH.le_refl _) _q5 0 _ rfl))) rfl rfl rfl ?_
  obtain ⟨q6, hF⟩ := hF
  obtain ⟨r2, q7⟩ : ∃ y_ : Bool, y_ = sp_contains2 s_ x := ⟨_, rfl⟩
  replace hF := hF r2 q7
  refine .c (cl (v := .bool r2) Tryz.call88 rfl rfl (fun w S => (by rw [q7]; exact c_contains2 S.sub s_ as_ cs_ _q1 _q2 x ax cx _q3 _q4 q6))) rfl rfl rfl ?_
  refine .v (nt rfl) rfl rfl rfl ?_
  refine .v (asg rfl) rfl rfl rfl ?_
  refine .nil ?_
  refine .seqN ?_
  refine .ret ?_
  refine .res1 rfl (rvT rfl) (fun w' S => ⟨!r2, hF, rfl, S.below⟩)

theorem c_sure1 {h : FH} {w : World} (hs : Sub h w) (s_ : List Int) (as_ : Option Addr) (cs_ : Nat) (_q1 : RSl h as_ s_) (_q2 : s_.length ≤ cs_) (x : List Int) (ax : Option Addr) (cx : Nat) (_q3 : RSl h ax x) (_q4 : x.length ≤ cx) (px : Addr) (_q5 : CellsAt h px [.slice ax x.length cx]) (hp : pre_sure1 s_ x) : Calls Tryz.prog 87 #[.slice as_ s_.length cs_, .pointer (some px)] w fun e w' => e = .returned (.bool (sp_sure1 s_ x)) ∧ Below w.heap.size w w' :=
  (w_sure1 hs s_ as_ cs_ _q1 _q2 x ax cx _q3 _q4 px _q5 (fun r => r = sp_sure1 s_ x) (ok_sure1 s_ x hp)).mono fun _ _ ⟨_, hk, he, hb⟩ => ⟨by rw [he, hk], hb⟩

theorem w_sure {h : FH} {w : World} (hs : Sub h w) (worlds : List (List Int)) (aworlds : Option Addr) (cworlds : Nat) (_q1 : RSl h aworlds worlds) (_q2 : worlds.length ≤ cworlds) (facts : List Int) (afacts : Option Addr) (cfacts : Nat) (_q3 : RSl h afacts facts) (_q4 : facts.length ≤ cfacts) (K : Bool → Prop) (hF : F_sure worlds facts K) : Calls Tryz.prog 52 #[.slice aworlds worlds.length cworlds, .slice afacts facts.length cfacts] w fun e w' => ∃ r : Bool, K r ∧ e = .returned (.bool r) ∧ Below w.heap.size w w' := by
  refine enter (args := [.slice aworlds worlds.length cworlds, .slice afacts facts.length cfacts]) Tryz.func52 rfl Tryz.ntmps52 rfl hs ?_
  refine .seq ?_
  refine .region ?_
  refine bx (vs := [.slice afacts facts.length cfacts]) rfl rfl rfl (fun pfacts => ?_)
  refine .v (asg rfl) rfl rfl rfl ?_
  refine .nil ?_
  refine .seqN ?_
  refine .seq ?_
  refine .region ?_
  refine .v (mv rfl) rfl rfl rfl ?_
  refine .v (mkf (vf := []) (vc := [.pointer (some pfacts)]) rfl rfl) rfl rfl rfl ?_
  obtain ⟨q5, hF⟩ := hF
  obtain ⟨r2, q6⟩ : ∃ y_ : Bool, y_ = sp_any worlds (fun y_ : List Int => sp_sure1 y_ facts) (fun y_ : List Int => pre_sure1 y_ facts) := ⟨_, rfl⟩
  replace hF := hF r2 q6
  refine .c (cl (v := .bool r2) Tryz.call66 rfl rfl (fun w S => (by rw [q6]; obtain ⟨h_, hl_, hs_, hb_⟩ := lookB S (k := 0) rfl; exact c_containsR hs_ worlds aworlds cworlds (RSl.mono hl_ _q1) _q2 (fun y_ : List Int => sp_sure1 y_ facts) (fun y_ : List Int => pre_sure1 y_ facts) 87 #[] #[.pointer (some pfacts)] Tryz.call87 (fun x a_ c_ r_ l_ w' hD hs' => c_sure1 hs' x a_ c_ r_ l_ facts afacts cfacts (RSl.mono hl_ _q3) _q4 pfacts hb_ hD) q5))) rfl rfl rfl ?_
  refine .v (nt rfl) rfl rfl rfl ?_
  refine .v (asg rfl) rfl rfl rfl ?_
  refine .nil ?_
  refine .seqN ?_
  refine .ret ?_
  refine .res1 rfl (rvT rfl) (fun w' S => ⟨!r2, hF, rfl, S.below⟩)

theorem c_sure {h : FH} {w : World} (hs : Sub h w) (worlds : List (List Int)) (aworlds : Option Addr) (cworlds : Nat) (_q1 : RSl h aworlds worlds) (_q2 : worlds.length ≤ cworlds) (facts : List Int) (afacts : Option Addr) (cfacts : Nat) (_q3 : RSl h afacts facts) (_q4 : facts.length ≤ cfacts) (hp : pre_sure worlds facts) : Calls Tryz.prog 52 #[.slice aworlds worlds.length cworlds, .slice afacts facts.length cfacts] w fun e w' => e = .returned (.bool (sp_sure worlds facts)) ∧ Below w.heap.size w w' :=
  (w_sure hs worlds aworlds cworlds _q1 _q2 facts afacts cfacts _q3 _q4 (fun r => r = sp_sure worlds facts) (ok_sure worlds facts hp)).mono fun _ _ ⟨_, hk, he, hb⟩ => ⟨by rw [he, hk], hb⟩

end Go.Proofs.YtojoehfldbimpaaGreatDoor.Pl

