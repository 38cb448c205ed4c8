import Derived.Test.YtimillpakjgnoaaGreatDoorM1
import Derived.Test.YtimillpakjgnoaaGreatDoorM4
import Derived.Test.YtimillpakjgnoaaGreatDoorM2
namespace Go.Proofs.YtimillpakjgnoaaGreatDoor.Pl
open Go Go.RowKit
set_option maxHeartbeats 8000000 in
theorem w_all {h : FH} {w : World} (hs : Sub h w) (x : WordsT) (ax : Option Addr) (cx : Nat) (_q1 : RSl h ax x.ops) (_q2 : x.ops.length ≤ cx) (px : Addr) (_q3 : CellsAt h px [.int .u32 x.start, .int .u32 x.goal, .slice ax x.ops.length cx]) (K : (List Int × Bool) → Prop) (hF : F_all x K) : Calls Tryz.prog 48 #[.iface 53 (.pointer (some px))] w fun e w' => ∃ (r : List Int × Bool) (z : Option Addr × Nat) (h1 : FH), K r ∧ e = .returned (.tuple #[.slice z.1 r.1.length z.2, .bool r.2]) ∧ FH.le h h1 ∧ True ∧ SH (Kp.all w h) h1 w' [OwnSl 60 1 z.1 r.1.length z.2 (flL (α := W32) r.1)] := by
 refine enterM (args := [.iface 53 (.pointer (some px))]) Tryz.func48 rfl Tryz.ntmps48 rfl hs ?_
 refine .seq (.region (.V ag0 ?_))
 refine .V ag0 ?_
 refine .nil (.seqN (.seq (.region (.V mv0 ?_))))
 refine .inlI Tryz.func80 rfl Tryz.ntmps80 Tryz.call80 tm53_Start rfl rfl rfl (fun a q4 => ?_)
 refine .seq (.region (.V ag0 ?_))
 refine .nil (.seqN (.seq (.region (.V mv0 ?_))))
 refine .V (nck rfl) ?_
 refine .V (fa rfl tF112_0) ?_
 refine .V (ld1 (v := .int .u32 x.start) rfl tO60 (cellH (CellsAt.mono (FH.le_refl _) _q3 0 _ rfl))) ?_
 refine .V ag0 ?_
 refine .nil (.seqN (.ret ?_))
 refine .res1 rfl (rvT rfl) (inl_back (v := .int .u32 x.start) q4 rfl ?_)
 refine .KA [MkA []] ?_
 refine bs2 (cs := #[.int .u32 x.start]) (pv := [(0, .int .u32 x.start)]) tS54 rfl rfl (by decide) (by decide) rfl rfl rfl (fun a2 _ => ?_)
 refine .KA [OwnSl 60 1 a2 (([x.start] : List Int).length) 1 (flL (α := W32) ([x.start] : List Int)), MkA []] ?_
 refine al tZ54 rfl (fun pstack => ?_)
 refine st (p := pstack) (off := 0) (k := 0) (vs := [.slice a2 (([x.start] : List Int).length) 1]) rfl rfl rfl (fun w => (tO54 w).2) rfl rfl rfl rfl ?_
 refine .KA [Box pstack [.slice a2 (([x.start] : List Int).length) 1], OwnSl 60 1 a2 (([x.start] : List Int).length) 1 (flL (α := W32) ([x.start] : List Int)), MkA []] ?_
 refine .nil (.seqN (.seq (.region ?_)))
 refine mmI .u32 (fun _ : Unit => .agg #[]) rfl (fun bv => ?_)
 refine .KA [OwnMapI bv .u32 (fun _ : Unit => .agg #[]) ([] : List (Int × Unit)), Box pstack [.slice a2 (([x.start] : List Int).length) 1], OwnSl 60 1 a2 (([x.start] : List Int).length) 1 (flL (α := W32) ([x.start] : List Int)), MkA []] ?_
 refine .V mv0 ?_
 refine .inlI Tryz.func80 rfl Tryz.ntmps80 Tryz.call80 tm53_Start rfl rfl rfl (fun a3 q6 => ?_)
 refine .seq (.region (.V ag0 ?_))
 refine .nil (.seqN (.seq (.region (.V mv0 ?_))))
 refine .V (nck rfl) ?_
 refine .V (fa rfl tF112_0) ?_
 refine .V (ld1 (v := .int .u32 x.start) rfl tO60 (cellH (CellsAt.mono (FH.le_refl _) _q3 0 _ rfl))) ?_
 refine .V ag0 ?_
 refine .nil (.seqN (.ret ?_))
 refine .res1 rfl (rvT rfl) (inl_back (v := .int .u32 x.start) q6 rfl ?_)
 refine .KA [OwnMapI bv .u32 (fun _ : Unit => .agg #[]) ([] : List (Int × Unit)), Box pstack [.slice a2 (([x.start] : List Int).length) 1], OwnSl 60 1 a2 (([x.start] : List Int).length) 1 (flL (α := W32) ([x.start] : List Int)), MkA []] ?_
 refine .V (bld (cs := #[]) (pv := []) tB133 rfl rfl) ?_
 refine miI (enc := (fun _ : Unit => .agg #[])) () tMI134 rfl rfl rfl (q := 0) rfl ?_
 obtain ⟨m, q7⟩ : ∃ y_ : List (Int × Unit), y_ = (setA ([] : List (Int × Unit)) x.start ()) := ⟨_, rfl⟩
 replace hF := hF m q7
 refine .cast (A' := [OwnMapI bv .u32 (fun _ : Unit => .agg #[]) m, Box pstack [.slice a2 (([x.start] : List Int).length) 1], OwnSl 60 1 a2 (([x.start] : List Int).length) 1 (flL (α := W32) ([x.start] : List Int)), MkA []]) (by rw [q7]; rfl) ?_
 refine .V mv0 ?_
 refine al tZ134 rfl (fun pseen => ?_)
 refine st (p := pseen) (off := 0) (k := 0) (vs := [.map (some bv)]) rfl rfl rfl (fun w => (tO134 w).2) rfl rfl rfl rfl ?_
 refine .KA [Box pseen [.map (some bv)], OwnMapI bv .u32 (fun _ : Unit => .agg #[]) m, Box pstack [.slice a2 (([x.start] : List Int).length) 1], OwnSl 60 1 a2 (([x.start] : List Int).length) 1 (flL (α := W32) ([x.start] : List Int)), MkA []] ?_
 refine .nil (.seqN (.seq (.region (.V ag0 ?_))))
 refine .nil (.seqN (.seq (.block ?_)))
 refine .nilSl 60 1 ?_
 refine .KA [OwnSl 60 1 none (([] : List Int).length) 0 (flL (α := W32) ([] : List Int)), Box pseen [.map (some bv)], OwnMapI bv .u32 (fun _ : Unit => .agg #[]) m, Box pstack [.slice a2 (([x.start] : List Int).length) 1], OwnSl 60 1 a2 (([x.start] : List Int).length) 1 (flL (α := W32) ([x.start] : List Int)), MkA []] ?_
 refine .sel0 [3, 1, 0, 5, 4, 2] (by decide) rfl ?_
 obtain ⟨I1, μ1, q1355, q1356⟩ := hF
 refine .loopN' (σ := List Int × List Int × List (Int × Unit) × Option Addr × Nat × List Nat × Option Addr × Nat) (fun z => I1 z.1 z.2.1 z.2.2.1) (fun z => μ1 z.1 z.2.1 z.2.2.1) (fun z => ⟨63, none, z.2.2.2.2.2.1⟩) (fun z => [(0, .iface 53 (.pointer (some px))), (4, .pointer (some pstack)), (5, .pointer (some pseen)), (6, vSl z.2.2.2.1 z.1 z.2.2.2.2.1)]) (fun z => [Box pstack [vSl z.2.2.2.2.2.2.1 z.2.1 z.2.2.2.2.2.2.2], Box pseen [.map (some bv)], OwnSl 60 1 z.2.2.2.1 z.1.length z.2.2.2.2.1 (flL (α := W32) z.1), MkA z.2.2.2.2.2.1, OwnSl 60 1 z.2.2.2.2.2.2.1 z.2.1.length z.2.2.2.2.2.2.2 (flL (α := W32) z.2.1), OwnMapI bv .u32 (fun _ : Unit => .agg #[]) z.2.2.1]) (fun _ => h) (([] : List Int), ([x.start] : List Int), m, none, 0, [], a2, 1) q1355 (fun _ => rfl) rfl sb rfl (FH.le_refl _) ?_
 rintro ⟨out, l, m2, aout, cout, dl, al2, cl2⟩ q1355
 have hF := q1356 out l m2 q1355
 show J _ _ ⟨63, none, dl⟩ _ _ [(0, .iface 53 (.pointer (some px))), (4, .pointer (some pstack)), (5, .pointer (some pseen)), (6, vSl aout out cout)] [Box pstack [vSl al2 l cl2], Box pseen [.map (some bv)], OwnSl 60 1 aout out.length cout (flL (α := W32) out), MkA dl, OwnSl 60 1 al2 l.length cl2 (flL (α := W32) l), OwnMapI bv .u32 (fun _ : Unit => .agg #[]) m2] h
 refine .seq (.seq (.region (.V (ld1 rfl tO54 (cellB (off := 0) (k := 0) rfl rfl)) ?_)))
 refine .V (ln rfl tS54.is) ?_
 refine .V bi0 ?_
 refine .nil (.seqN ?_)
 refine .cond rfl (fun q1358 => ?_) (fun q1358 => ?_)
 ·replace hF := hF.1 q1358
  refine .skip (.seqN (.block (.seq (.region (.V (ld1 rfl tO54 (cellB (off := 0) (k := 0) rfl rfl)) ?_)))))
  refine .V (ld1 rfl tO54 (cellB (off := 0) (k := 0) rfl rfl)) ?_
  refine .V (ln rfl tS54.is) ?_
  refine .V bi0 ?_
  obtain ⟨q1359, hF⟩ := hF
  refine .V (ixS rfl rfl tS54 (k := 4) rfl q1359) ?_
  refine .V (ld1 (v := .int .u32 (gt l (wr (((l.length : Nat) : Int) - 1)))) rfl tO60 (cellS (k := 4) rfl (flL_get (α := W32) q1359 (j := 0) rfl))) ?_
  refine .V ag0 ?_
  refine .nil (.seqN (.seq ?_))
  refine .fact (fun w S => look_len S (k := 2) rfl) (fun q1360 => ?_)
  refine .fact (fun w S => look_len S (k := 4) rfl) (fun q1361 => ?_)
  refine .region (.V (ld1 rfl tO54 (cellB (off := 0) (k := 0) rfl rfl)) ?_)
  refine .V (ld1 rfl tO54 (cellB (off := 0) (k := 0) rfl rfl)) ?_
  refine .V (ln rfl tS54.is) ?_
  refine .V bi0 ?_
  obtain ⟨q1362, hF⟩ := hF
  obtain ⟨d, q1363⟩ : ∃ y_ : List Int, y_ = (l.take (wr (((l.length : Nat) : Int) - 1)).toNat) := ⟨_, rfl⟩
  replace hF := hF d q1363
  have q1364 : d.length = (wr (((l.length : Nat) : Int) - 1)).toNat := by rw [q1363]; exact len_take rfl (Int.toNat_le.2 q1362.2)
  refine .v (v := .slice al2 (List.length d) cl2) (by rw [q1364]; exact slH tS54 rfl rfl q1362.1 rfl (Nat.le_trans (Int.toNat_le.2 q1362.2) q1361)) rfl rfl rfl ?_
  refine .shrink (k := 4) (m' := d.length) (cs' := flL (α := W32) d) rfl (by rw [q1364]; exact (Int.toNat_le.2 q1362.2)) (by rw [q1364, Nat.mul_one, q1363]; exact flL_take _ _ rfl) ?_
  refine .KA [Box pstack [vSl al2 l cl2], Box pseen [.map (some bv)], OwnSl 60 1 aout out.length cout (flL (α := W32) out), MkA dl, OwnSl 60 1 al2 d.length cl2 (flL (α := W32) d), OwnMapI bv .u32 (fun _ : Unit => .agg #[]) m2] ?_
  refine st (p := pstack) (off := 0) (k := 0) (vs := [vSl al2 d cl2]) rfl rfl rfl (fun w => (tO54 w).2) rfl rfl rfl rfl ?_
  refine .KA [Box pstack [vSl al2 d cl2], Box pseen [.map (some bv)], OwnSl 60 1 aout out.length cout (flL (α := W32) out), MkA dl, OwnSl 60 1 al2 d.length cl2 (flL (α := W32) d), OwnMapI bv .u32 (fun _ : Unit => .agg #[]) m2] ?_
  refine .nil (.seqN (.seq (.region (.V mv0 ?_))))
  refine .V mv0 ?_
  refine bs2 (cs := #[.int .u32 (gt l (wr (((l.length : Nat) : Int) - 1)))]) (pv := [(0, .int .u32 (gt l (wr (((l.length : Nat) : Int) - 1))))]) tS54 rfl rfl (by decide) (by decide) rfl rfl rfl (fun a4 _ => ?_)
  refine .KA [OwnSl 60 1 a4 (([(gt l (wr (((l.length : Nat) : Int) - 1)))] : List Int).length) 1 (flL (α := W32) ([(gt l (wr (((l.length : Nat) : Int) - 1)))] : List Int)), Box pstack [vSl al2 d cl2], Box pseen [.map (some bv)], OwnSl 60 1 aout out.length cout (flL (α := W32) out), MkA dl, OwnSl 60 1 al2 d.length cl2 (flL (α := W32) d), OwnMapI bv .u32 (fun _ : Unit => .agg #[]) m2] ?_
  obtain ⟨q1366, hF⟩ := hF
  have q1367 : out.length + ([(gt l (wr (((l.length : Nat) : Int) - 1)))] : List Int).length = ((out ++ ([(gt l (wr (((l.length : Nat) : Int) - 1)))] : List Int))).length := len_app rfl rfl
  refine app (k := 3) (news := flL (α := W32) ([(gt l (wr (((l.length : Nat) : Int) - 1)))] : List Int)) (cs' := flL (α := W32) (out ++ ([(gt l (wr (((l.length : Nat) : Int) - 1)))] : List Int))) (nm := ((out ++ ([(gt l (wr (((l.length : Nat) : Int) - 1)))] : List Int))).length) tS54 rfl (by decide) rfl rfl rfl ((flL_len _).trans rfl) (srcS (k := 0) rfl) (flL_one _) (room_of q1367 q1366).1 (room_of q1367 q1366).2 q1367 (flL_append _ _).symm rfl (fun a5 c => ?_)
  refine .KA [OwnSl 60 1 a4 (([(gt l (wr (((l.length : Nat) : Int) - 1)))] : List Int).length) 1 (flL (α := W32) ([(gt l (wr (((l.length : Nat) : Int) - 1)))] : List Int)), Box pstack [vSl al2 d cl2], Box pseen [.map (some bv)], OwnSl 60 1 a5 ((out ++ ([(gt l (wr (((l.length : Nat) : Int) - 1)))] : List Int)).length) c (flL (α := W32) (out ++ ([(gt l (wr (((l.length : Nat) : Int) - 1)))] : List Int))), MkA dl, OwnSl 60 1 al2 d.length cl2 (flL (α := W32) d), OwnMapI bv .u32 (fun _ : Unit => .agg #[]) m2] ?_
  refine .V ag0 ?_
  refine .nil (.seqN (.seq (.seq (.region (.V mv0 ?_)))))
  refine .V mv0 ?_
  refine .inlI Tryz.func101 rfl Tryz.ntmps101 Tryz.call101 tm53_Steps rfl rfl rfl (fun a6 q1368 => ?_)
  refine .seq (.region ?_)
  refine bx (vs := [.pointer (some px)]) rfl rfl rfl (fun pw => ?_)
  refine bx (vs := [.int .u32 (gt l (wr (((l.length : Nat) : Int) - 1)))]) rfl rfl rfl (fun ps => ?_)
  refine .V ag0 ?_
  refine .nil (.seqN (.seq (.region (.V (mkf (vf := []) (vc := [.pointer (some pw), .pointer (some ps)]) rfl rfl) ?_))))
  refine .V ag0 ?_
  refine .nil (.seqN (.ret ?_))
  refine .res1 rfl (rvT rfl) (inl_back (v := .func (.func 132) #[] #[.pointer (some pw), .pointer (some ps)]) q1368 rfl ?_)
  refine .KA [Box ps [.int .u32 (gt l (wr (((l.length : Nat) : Int) - 1)))], Box pw [.pointer (some px)], OwnSl 60 1 a4 (([(gt l (wr (((l.length : Nat) : Int) - 1)))] : List Int).length) 1 (flL (α := W32) ([(gt l (wr (((l.length : Nat) : Int) - 1)))] : List Int)), Box pstack [vSl al2 d cl2], Box pseen [.map (some bv)], OwnSl 60 1 a5 ((out ++ ([(gt l (wr (((l.length : Nat) : Int) - 1)))] : List Int)).length) c (flL (α := W32) (out ++ ([(gt l (wr (((l.length : Nat) : Int) - 1)))] : List Int))), MkA dl, OwnSl 60 1 al2 d.length cl2 (flL (α := W32) d), OwnMapI bv .u32 (fun _ : Unit => .agg #[]) m2] ?_
  refine .nil (.seqN (.block ?_))
  refine .sub (s' := [(0, .iface 53 (.pointer (some px))), (4, .pointer (some pstack)), (5, .pointer (some pseen)), (6, .slice a5 ((out ++ ([(gt l (wr (((l.length : Nat) : Int) - 1)))] : List Int)).length) c), (39, .func (.func 132) #[] #[.pointer (some pw), .pointer (some ps)])]) sb ?_
  refine .rangeF (k := 6) (caps := [.pointer (some pw), .pointer (some ps)]) rfl rfl Tryz.func132 rfl Tryz.ntmps132 rfl Tryz.call132 (fun l3 D LA a7 q1447 q1448 => ?_)
  refine .KA [LA .ready none, Box ps [.int .u32 (gt l (wr (((l.length : Nat) : Int) - 1)))], Box pw [.pointer (some px)], OwnSl 60 1 a4 (([(gt l (wr (((l.length : Nat) : Int) - 1)))] : List Int).length) 1 (flL (α := W32) ([(gt l (wr (((l.length : Nat) : Int) - 1)))] : List Int)), Box pstack [vSl al2 d cl2], Box pseen [.map (some bv)], OwnSl 60 1 a5 ((out ++ ([(gt l (wr (((l.length : Nat) : Int) - 1)))] : List Int)).length) c (flL (α := W32) (out ++ ([(gt l (wr (((l.length : Nat) : Int) - 1)))] : List Int))), MkA (D :: dl), OwnSl 60 1 al2 d.length cl2 (flL (α := W32) d), OwnMapI bv .u32 (fun _ : Unit => .agg #[]) m2] ?_
  refine .seq (.region (.V (ld1 rfl tO53 (cellB (off := 0) (k := 2) rfl rfl)) ?_))
  refine .V (nck rfl) ?_
  refine .V (fa rfl tF112_2) ?_
  refine .V (ld1 (v := vSl ax x.ops cx) rfl tO110 (cellH (CellsAt.mono (FH.le_refl _) _q3 2 _ rfl))) ?_
  refine .V (ln rfl tS110.is) ?_
  refine .V mv0 ?_
  refine .nil (.seqN (.block ?_))
  refine .sel0 [0, 1, 4, 5, 6, 2, 7, 8, 9] (by decide) rfl ?_
  obtain ⟨I2, μ2, q1499, q1500⟩ := hF
  refine .loop' (σ := Int × List Int × List (Int × Unit) × Option Addr × Nat) (fun z => I2 z.1 z.2.1 z.2.2.1) (fun z => μ2 z.1 z.2.1 z.2.2.1) (fun z => [(0, .func (.yield l3) #[] #[]), (2, .pointer (some ps)), (9, vSl ax x.ops cx), (10, iV ((x.ops.length : Nat) : Int)), (11, iV z.1)]) (fun z => [LA .ready none, Box ps [.int .u32 (gt l (wr (((l.length : Nat) : Int) - 1)))], Box pstack [vSl z.2.2.2.1 z.2.1 z.2.2.2.2], Box pseen [.map (some bv)], OwnSl 60 1 a5 ((out ++ ([(gt l (wr (((l.length : Nat) : Int) - 1)))] : List Int)).length) c (flL (α := W32) (out ++ ([(gt l (wr (((l.length : Nat) : Int) - 1)))] : List Int))), Box pw [.pointer (some px)], MkA (D :: dl), OwnSl 60 1 z.2.2.2.1 z.2.1.length z.2.2.2.2 (flL (α := W32) z.2.1), OwnMapI bv .u32 (fun _ : Unit => .agg #[]) z.2.2.1]) (fun _ => h) (0, d, m2, al2, cl2) q1499 sb rfl (FH.le_refl _) ?_
  rintro ⟨t11, l4, m4, al4, cl4⟩ q1499
  have hF := q1500 t11 l4 m4 q1499
  show J _ _ _ _ _ [(0, .func (.yield l3) #[] #[]), (2, .pointer (some ps)), (9, vSl ax x.ops cx), (10, iV ((x.ops.length : Nat) : Int)), (11, iV t11)] [LA .ready none, Box ps [.int .u32 (gt l (wr (((l.length : Nat) : Int) - 1)))], Box pstack [vSl al4 l4 cl4], Box pseen [.map (some bv)], OwnSl 60 1 a5 ((out ++ ([(gt l (wr (((l.length : Nat) : Int) - 1)))] : List Int)).length) c (flL (α := W32) (out ++ ([(gt l (wr (((l.length : Nat) : Int) - 1)))] : List Int))), Box pw [.pointer (some px)], MkA (D :: dl), OwnSl 60 1 al4 l4.length cl4 (flL (α := W32) l4), OwnMapI bv .u32 (fun _ : Unit => .agg #[]) m4] h
  refine .seq (.region (.V bi0 ?_))
  refine .nil (.seqN (.seq ?_))
  refine .cond rfl (fun q1503 => ?_) (fun q1503 => ?_)
  ·replace hF := hF.1 q1503
   refine .skip (.seqN ?_)
   refine .share (σ := List Int × List (Int × Unit) × Option Addr × Nat) (fun z => F_all_J1 t11 m4 I2 μ2 l4 z.2.1 z.1) (fun _ => [(0, .func (.yield l3) #[] #[]), (2, .pointer (some ps)), (9, vSl ax x.ops cx), (10, iV ((x.ops.length : Nat) : Int)), (11, iV t11)]) (fun z => [LA .ready none, Box ps [.int .u32 (gt l (wr (((l.length : Nat) : Int) - 1)))], Box pstack [vSl z.2.2.1 z.1 z.2.2.2], Box pseen [.map (some bv)], OwnSl 60 1 a5 ((out ++ ([(gt l (wr (((l.length : Nat) : Int) - 1)))] : List Int)).length) c (flL (α := W32) (out ++ ([(gt l (wr (((l.length : Nat) : Int) - 1)))] : List Int))), Box pw [.pointer (some px)], MkA (D :: dl), OwnSl 60 1 z.2.2.1 z.1.length z.2.2.2 (flL (α := W32) z.1), OwnMapI bv .u32 (fun _ : Unit => .agg #[]) z.2.1]) (fun _ => h) ?_ (fun q1514 => ?_)
   ·rintro ⟨l6, m6, al6, cl6⟩ hF
    show J _ _ _ _ _ [(0, .func (.yield l3) #[] #[]), (2, .pointer (some ps)), (9, vSl ax x.ops cx), (10, iV ((x.ops.length : Nat) : Int)), (11, iV t11)] [LA .ready none, Box ps [.int .u32 (gt l (wr (((l.length : Nat) : Int) - 1)))], Box pstack [vSl al6 l6 cl6], Box pseen [.map (some bv)], OwnSl 60 1 a5 ((out ++ ([(gt l (wr (((l.length : Nat) : Int) - 1)))] : List Int)).length) c (flL (α := W32) (out ++ ([(gt l (wr (((l.length : Nat) : Int) - 1)))] : List Int))), Box pw [.pointer (some px)], MkA (D :: dl), OwnSl 60 1 al6 l6.length cl6 (flL (α := W32) l6), OwnMapI bv .u32 (fun _ : Unit => .agg #[]) m6] h
    refine .region (.V bi0 ?_)
    refine .V mv0 ?_
    refine .nil ?_
    exact .RO (wr (t11 + 1), l6, m6, al6, cl6) hF.1 hF.2
   refine .block (.seq (.region (.V mv0 ?_)))
   obtain ⟨q1515, hF⟩ := hF
   refine .V (ix rfl rfl tS110 (_q1.ne (by decide) (inb_pos q1515)) q1515) ?_
   refine .V (ldA (cs := [.int .u32 ((gt x.ops t11).pre), .int .u32 ((gt x.ops t11).add), .int .u32 ((gt x.ops t11).del), iV ((gt x.ops t11).cost)]) rfl tA132 rfl (cellsH (_q1.elemF q1515 (by decide)))) ?_
   refine al tZ132 rfl (fun pseen2 => ?_)
   refine .V ag0 ?_
   refine st (p := pseen2) (off := 0) (k := 0) (vs := [.int .u32 ((gt x.ops t11).pre), .int .u32 ((gt x.ops t11).add), .int .u32 ((gt x.ops t11).del), iV ((gt x.ops t11).cost)]) rfl rfl rfl (fun w => (tA132 w).2) rfl rfl rfl rfl ?_
   refine .KA [Box pseen2 [.int .u32 ((gt x.ops t11).pre), .int .u32 ((gt x.ops t11).add), .int .u32 ((gt x.ops t11).del), iV ((gt x.ops t11).cost)], LA .ready none, Box ps [.int .u32 (gt l (wr (((l.length : Nat) : Int) - 1)))], Box pstack [vSl al4 l4 cl4], Box pseen [.map (some bv)], OwnSl 60 1 a5 ((out ++ ([(gt l (wr (((l.length : Nat) : Int) - 1)))] : List Int)).length) c (flL (α := W32) (out ++ ([(gt l (wr (((l.length : Nat) : Int) - 1)))] : List Int))), Box pw [.pointer (some px)], MkA (D :: dl), OwnSl 60 1 al4 l4.length cl4 (flL (α := W32) l4), OwnMapI bv .u32 (fun _ : Unit => .agg #[]) m4] ?_
   refine .nil (.seqN (.seq (.region (.V (ld1 rfl tO60 (cellB (off := 0) (k := 2) rfl rfl)) ?_))))
   refine .V (fa rfl tF132_0) ?_
   refine .V (ld1 rfl tO60 (cellB (off := 0) (k := 0) rfl rfl)) ?_
   obtain ⟨x2, q1516⟩ : ∃ y_ : Int, y_ = (bits .and .u32 (gt l (wr (((l.length : Nat) : Int) - 1))) ((gt x.ops t11).pre)) := ⟨_, rfl⟩
   replace hF := hF x2 q1516
   refine .v (v := .int .u32 x2) (by rw [q1516]; exact bi rfl rfl rfl) rfl rfl rfl ?_
   refine .V (fa rfl tF132_0) ?_
   refine .V (ld1 rfl tO60 (cellB (off := 0) (k := 0) rfl rfl)) ?_
   refine .V bi0 ?_
   refine .V mv0 ?_
   rcases Bool.eq_false_or_eq_true (x2 == ((gt x.ops t11).pre)) with q1517 | q1517
   ·replace hF := hF.1 q1517
    refine .GV mv0 q1517 ?_
    refine .GV mv0 q1517 ?_
    refine .GV (fa rfl tF132_3) q1517 ?_
    refine .GV (ld1 rfl tO3 (cellB (off := 3) (k := 0) rfl rfl)) q1517 ?_
    refine .GV (ld1 rfl tO60 (cellB (off := 0) (k := 2) rfl rfl)) q1517 ?_
    refine .GV (fa rfl tF132_2) q1517 ?_
    refine .GV (ld1 rfl tO60 (cellB (off := 2) (k := 0) rfl rfl)) q1517 ?_
    obtain ⟨x3, q1518⟩ : ∃ y_ : Int, y_ = (bits .andNot .u32 (gt l (wr (((l.length : Nat) : Int) - 1))) ((gt x.ops t11).del)) := ⟨_, rfl⟩
    replace hF := hF x3 q1518
    refine .gv (v := .int .u32 x3) (by rw [q1518]; exact bi rfl rfl rfl) rfl rfl rfl q1517 rfl rfl ?_
    refine .GV (fa rfl tF132_1) q1517 ?_
    refine .GV (ld1 rfl tO60 (cellB (off := 1) (k := 0) rfl rfl)) q1517 ?_
    refine .GV bi0 q1517 ?_
    refine .GV (bld (cs := #[iV t11, iV ((gt x.ops t11).cost), .int .u32 (bits .or .u32 x3 ((gt x.ops t11).add))]) (pv := [(0, iV t11), (1, iV ((gt x.ops t11).cost)), (2, .int .u32 (bits .or .u32 x3 ((gt x.ops t11).add)))]) tB108 rfl rfl) q1517 ?_
    refine .gR rfl rfl rfl q1517 ?_
    refine .yld (k := 1) (vs := [.agg #[iV t11, iV ((gt x.ops t11).cost), .int .u32 (bits .or .u32 x3 ((gt x.ops t11).add))]]) q1447 rfl rfl rfl rfl rfl (fun aG q1519 => ?_)
    refine .sub (s' := [(4, .pointer (some pstack)), (5, .pointer (some pseen)), (40, .agg #[iV t11, iV ((gt x.ops t11).cost), .int .u32 (bits .or .u32 x3 ((gt x.ops t11).add))])]) sb ?_
    refine .region ?_
    refine al tZ108 rfl (fun pe => ?_)
    refine st (p := pe) (off := 0) (k := 0) (vs := [iV t11, iV ((gt x.ops t11).cost), .int .u32 (bits .or .u32 x3 ((gt x.ops t11).add))]) rfl rfl rfl (fun w => (tA108 w).2) rfl rfl rfl rfl ?_
    refine .KA [Box pe [iV t11, iV ((gt x.ops t11).cost), .int .u32 (bits .or .u32 x3 ((gt x.ops t11).add))], Box pseen2 [.int .u32 ((gt x.ops t11).pre), .int .u32 ((gt x.ops t11).add), .int .u32 ((gt x.ops t11).del), iV ((gt x.ops t11).cost)], LA .ready none, Box ps [.int .u32 (gt l (wr (((l.length : Nat) : Int) - 1)))], Box pstack [vSl al4 l4 cl4], Box pseen [.map (some bv)], OwnSl 60 1 a5 ((out ++ ([(gt l (wr (((l.length : Nat) : Int) - 1)))] : List Int)).length) c (flL (α := W32) (out ++ ([(gt l (wr (((l.length : Nat) : Int) - 1)))] : List Int))), Box pw [.pointer (some px)], MkA (D :: dl), OwnSl 60 1 al4 l4.length cl4 (flL (α := W32) l4), OwnMapI bv .u32 (fun _ : Unit => .agg #[]) m4] ?_
    refine .nil ?_
    refine .begin_ (k := 2) q1447 rfl ?_
    refine .KA [Box pe [iV t11, iV ((gt x.ops t11).cost), .int .u32 (bits .or .u32 x3 ((gt x.ops t11).add))], Box pseen2 [.int .u32 ((gt x.ops t11).pre), .int .u32 ((gt x.ops t11).add), .int .u32 ((gt x.ops t11).del), iV ((gt x.ops t11).cost)], LA .busy none, Box ps [.int .u32 (gt l (wr (((l.length : Nat) : Int) - 1)))], Box pstack [vSl al4 l4 cl4], Box pseen [.map (some bv)], OwnSl 60 1 a5 ((out ++ ([(gt l (wr (((l.length : Nat) : Int) - 1)))] : List Int)).length) c (flL (α := W32) (out ++ ([(gt l (wr (((l.length : Nat) : Int) - 1)))] : List Int))), Box pw [.pointer (some px)], MkA (D :: dl), OwnSl 60 1 al4 l4.length cl4 (flL (α := W32) l4), OwnMapI bv .u32 (fun _ : Unit => .agg #[]) m4] ?_
    refine .block (.seq (.region (.V (ld1 rfl tO134 (cellB (off := 0) (k := 5) rfl rfl)) ?_)))
    refine .V (fa rfl tF108_2) ?_
    refine .V (ld1 rfl tO60 (cellB (off := 2) (k := 0) rfl rfl)) ?_
    refine .V (lkI2 (enc := (fun _ : Unit => .agg #[])) () tMI134 rfl rfl (q := 10) rfl) ?_
    refine .V mv0 ?_
    refine .V (ext rfl rfl) ?_
    refine .V (ext rfl rfl) ?_
    refine al tZ133 rfl (fun p_ => ?_)
    refine st (p := p_) (off := 0) (k := 0) (vs := []) rfl rfl rfl (fun w => (tA133 w).2) rfl rfl rfl rfl ?_
    refine .KA [Box p_ [], Box pe [iV t11, iV ((gt x.ops t11).cost), .int .u32 (bits .or .u32 x3 ((gt x.ops t11).add))], Box pseen2 [.int .u32 ((gt x.ops t11).pre), .int .u32 ((gt x.ops t11).add), .int .u32 ((gt x.ops t11).del), iV ((gt x.ops t11).cost)], LA .busy none, Box ps [.int .u32 (gt l (wr (((l.length : Nat) : Int) - 1)))], Box pstack [vSl al4 l4 cl4], Box pseen [.map (some bv)], OwnSl 60 1 a5 ((out ++ ([(gt l (wr (((l.length : Nat) : Int) - 1)))] : List Int)).length) c (flL (α := W32) (out ++ ([(gt l (wr (((l.length : Nat) : Int) - 1)))] : List Int))), Box pw [.pointer (some px)], MkA (D :: dl), OwnSl 60 1 al4 l4.length cl4 (flL (α := W32) l4), OwnMapI bv .u32 (fun _ : Unit => .agg #[]) m4] ?_
    refine .V ag0 ?_
    refine .nil (.seqN (.seq (.region (.V mv0 ?_))))
    refine .V (nt rfl) ?_
    refine .nil (.seqN ?_)
    refine .cond rfl (fun q1520 => ?_) (fun q1520 => ?_)
    ·replace hF := hF.1 q1520
     refine .seq (.region (.V (ld1 rfl tO134 (cellB (off := 0) (k := 6) rfl rfl)) ?_))
     refine .V (fa rfl tF108_2) ?_
     refine .V (ld1 rfl tO60 (cellB (off := 2) (k := 1) rfl rfl)) ?_
     refine .V (bld (cs := #[]) (pv := []) tB133 rfl rfl) ?_
     refine muI (enc := (fun _ : Unit => .agg #[])) () tMI134 rfl rfl rfl (q := 11) rfl ?_
     obtain ⟨m7, q1521⟩ : ∃ y_ : List (Int × Unit), y_ = (setA m4 (bits .or .u32 x3 ((gt x.ops t11).add)) ()) := ⟨_, rfl⟩
     replace hF := hF m7 q1521
     refine .cast (A' := [Box p_ [], Box pe [iV t11, iV ((gt x.ops t11).cost), .int .u32 (bits .or .u32 x3 ((gt x.ops t11).add))], Box pseen2 [.int .u32 ((gt x.ops t11).pre), .int .u32 ((gt x.ops t11).add), .int .u32 ((gt x.ops t11).del), iV ((gt x.ops t11).cost)], LA .busy none, Box ps [.int .u32 (gt l (wr (((l.length : Nat) : Int) - 1)))], Box pstack [vSl al4 l4 cl4], Box pseen [.map (some bv)], OwnSl 60 1 a5 ((out ++ ([(gt l (wr (((l.length : Nat) : Int) - 1)))] : List Int)).length) c (flL (α := W32) (out ++ ([(gt l (wr (((l.length : Nat) : Int) - 1)))] : List Int))), Box pw [.pointer (some px)], MkA (D :: dl), OwnSl 60 1 al4 l4.length cl4 (flL (α := W32) l4), OwnMapI bv .u32 (fun _ : Unit => .agg #[]) m7]) (by rw [q1521]; rfl) ?_
     refine .nil (.seqN (.region (.V (ld1 rfl tO54 (cellB (off := 0) (k := 5) rfl rfl)) ?_)))
     refine .V (fa rfl tF108_2) ?_
     refine .V (ld1 rfl tO60 (cellB (off := 2) (k := 1) rfl rfl)) ?_
     refine bs2 (cs := #[.int .u32 (bits .or .u32 x3 ((gt x.ops t11).add))]) (pv := [(0, .int .u32 (bits .or .u32 x3 ((gt x.ops t11).add)))]) tS54 rfl rfl (by decide) (by decide) rfl rfl rfl (fun a8 _ => ?_)
     refine .KA [OwnSl 60 1 a8 (([bits .or .u32 x3 ((gt x.ops t11).add)] : List Int).length) 1 (flL (α := W32) ([bits .or .u32 x3 ((gt x.ops t11).add)] : List Int)), Box p_ [], Box pe [iV t11, iV ((gt x.ops t11).cost), .int .u32 (bits .or .u32 x3 ((gt x.ops t11).add))], Box pseen2 [.int .u32 ((gt x.ops t11).pre), .int .u32 ((gt x.ops t11).add), .int .u32 ((gt x.ops t11).del), iV ((gt x.ops t11).cost)], LA .busy none, Box ps [.int .u32 (gt l (wr (((l.length : Nat) : Int) - 1)))], Box pstack [vSl al4 l4 cl4], Box pseen [.map (some bv)], OwnSl 60 1 a5 ((out ++ ([(gt l (wr (((l.length : Nat) : Int) - 1)))] : List Int)).length) c (flL (α := W32) (out ++ ([(gt l (wr (((l.length : Nat) : Int) - 1)))] : List Int))), Box pw [.pointer (some px)], MkA (D :: dl), OwnSl 60 1 al4 l4.length cl4 (flL (α := W32) l4), OwnMapI bv .u32 (fun _ : Unit => .agg #[]) m7] ?_
     obtain ⟨q1523, hF⟩ := hF
     have q1524 : l4.length + ([bits .or .u32 x3 ((gt x.ops t11).add)] : List Int).length = ((l4 ++ ([bits .or .u32 x3 ((gt x.ops t11).add)] : List Int))).length := len_app rfl rfl
     refine app (k := 11) (news := flL (α := W32) ([bits .or .u32 x3 ((gt x.ops t11).add)] : List Int)) (cs' := flL (α := W32) (l4 ++ ([bits .or .u32 x3 ((gt x.ops t11).add)] : List Int))) (nm := ((l4 ++ ([bits .or .u32 x3 ((gt x.ops t11).add)] : List Int))).length) tS54 rfl (by decide) rfl rfl rfl ((flL_len _).trans rfl) (srcS (k := 0) rfl) (flL_one _) (room_of q1524 q1523).1 (room_of q1524 q1523).2 q1524 (flL_append _ _).symm rfl (fun a9 c2 => ?_)
     refine .KA [OwnSl 60 1 a8 (([bits .or .u32 x3 ((gt x.ops t11).add)] : List Int).length) 1 (flL (α := W32) ([bits .or .u32 x3 ((gt x.ops t11).add)] : List Int)), Box p_ [], Box pe [iV t11, iV ((gt x.ops t11).cost), .int .u32 (bits .or .u32 x3 ((gt x.ops t11).add))], Box pseen2 [.int .u32 ((gt x.ops t11).pre), .int .u32 ((gt x.ops t11).add), .int .u32 ((gt x.ops t11).del), iV ((gt x.ops t11).cost)], LA .busy none, Box ps [.int .u32 (gt l (wr (((l.length : Nat) : Int) - 1)))], Box pstack [vSl al4 l4 cl4], Box pseen [.map (some bv)], OwnSl 60 1 a5 ((out ++ ([(gt l (wr (((l.length : Nat) : Int) - 1)))] : List Int)).length) c (flL (α := W32) (out ++ ([(gt l (wr (((l.length : Nat) : Int) - 1)))] : List Int))), Box pw [.pointer (some px)], MkA (D :: dl), OwnSl 60 1 a9 ((l4 ++ ([bits .or .u32 x3 ((gt x.ops t11).add)] : List Int)).length) c2 (flL (α := W32) (l4 ++ ([bits .or .u32 x3 ((gt x.ops t11).add)] : List Int))), OwnMapI bv .u32 (fun _ : Unit => .agg #[]) m7] ?_
     refine st (p := pstack) (off := 0) (k := 6) (vs := [.slice a9 ((l4 ++ ([bits .or .u32 x3 ((gt x.ops t11).add)] : List Int)).length) c2]) rfl rfl rfl (fun w => (tO54 w).2) rfl rfl rfl rfl ?_
     refine .KA [OwnSl 60 1 a8 (([bits .or .u32 x3 ((gt x.ops t11).add)] : List Int).length) 1 (flL (α := W32) ([bits .or .u32 x3 ((gt x.ops t11).add)] : List Int)), Box p_ [], Box pe [iV t11, iV ((gt x.ops t11).cost), .int .u32 (bits .or .u32 x3 ((gt x.ops t11).add))], Box pseen2 [.int .u32 ((gt x.ops t11).pre), .int .u32 ((gt x.ops t11).add), .int .u32 ((gt x.ops t11).del), iV ((gt x.ops t11).cost)], LA .busy none, Box ps [.int .u32 (gt l (wr (((l.length : Nat) : Int) - 1)))], Box pstack [.slice a9 ((l4 ++ ([bits .or .u32 x3 ((gt x.ops t11).add)] : List Int)).length) c2], Box pseen [.map (some bv)], OwnSl 60 1 a5 ((out ++ ([(gt l (wr (((l.length : Nat) : Int) - 1)))] : List Int)).length) c (flL (α := W32) (out ++ ([(gt l (wr (((l.length : Nat) : Int) - 1)))] : List Int))), Box pw [.pointer (some px)], MkA (D :: dl), OwnSl 60 1 a9 ((l4 ++ ([bits .or .u32 x3 ((gt x.ops t11).add)] : List Int)).length) c2 (flL (α := W32) (l4 ++ ([bits .or .u32 x3 ((gt x.ops t11).add)] : List Int))), OwnMapI bv .u32 (fun _ : Unit => .agg #[]) m7] ?_
     refine .nil (.blkN ?_)
     refine .rdN (k := 4) q1447 rfl q1519 rfl ?_
     refine .KA [OwnSl 60 1 a8 (([bits .or .u32 x3 ((gt x.ops t11).add)] : List Int).length) 1 (flL (α := W32) ([bits .or .u32 x3 ((gt x.ops t11).add)] : List Int)), Box p_ [], Box pe [iV t11, iV ((gt x.ops t11).cost), .int .u32 (bits .or .u32 x3 ((gt x.ops t11).add))], Box pseen2 [.int .u32 ((gt x.ops t11).pre), .int .u32 ((gt x.ops t11).add), .int .u32 ((gt x.ops t11).del), iV ((gt x.ops t11).cost)], LA .ready none, Box ps [.int .u32 (gt l (wr (((l.length : Nat) : Int) - 1)))], Box pstack [.slice a9 ((l4 ++ ([bits .or .u32 x3 ((gt x.ops t11).add)] : List Int)).length) c2], Box pseen [.map (some bv)], OwnSl 60 1 a5 ((out ++ ([(gt l (wr (((l.length : Nat) : Int) - 1)))] : List Int)).length) c (flL (α := W32) (out ++ ([(gt l (wr (((l.length : Nat) : Int) - 1)))] : List Int))), Box pw [.pointer (some px)], MkA (D :: dl), OwnSl 60 1 a9 ((l4 ++ ([bits .or .u32 x3 ((gt x.ops t11).add)] : List Int)).length) c2 (flL (α := W32) (l4 ++ ([bits .or .u32 x3 ((gt x.ops t11).add)] : List Int))), OwnMapI bv .u32 (fun _ : Unit => .agg #[]) m7] ?_
     refine .GV (nt rfl) q1517 ?_
     refine .V (pkT rfl q1517 rfl) ?_
     refine .nil (.seqN ?_)
     refine .cond rfl (fun e => absurd (e.symm.trans rfl) (by decide)) (fun _ => ?_)
     refine .skip (.blkN ?_)
     refine .sel0 [4, 5, 6, 7, 8, 9, 10, 11, 12] (by decide) rfl ?_
     exact .US q1514 ((l4 ++ ([bits .or .u32 x3 ((gt x.ops t11).add)] : List Int)), m7, a9, c2) hF
    replace hF := hF.2 q1520
    refine .skip (.blkN ?_)
    refine .rdN (k := 3) q1447 rfl q1519 rfl ?_
    refine .KA [Box p_ [], Box pe [iV t11, iV ((gt x.ops t11).cost), .int .u32 (bits .or .u32 x3 ((gt x.ops t11).add))], Box pseen2 [.int .u32 ((gt x.ops t11).pre), .int .u32 ((gt x.ops t11).add), .int .u32 ((gt x.ops t11).del), iV ((gt x.ops t11).cost)], LA .ready none, Box ps [.int .u32 (gt l (wr (((l.length : Nat) : Int) - 1)))], Box pstack [vSl al4 l4 cl4], Box pseen [.map (some bv)], OwnSl 60 1 a5 ((out ++ ([(gt l (wr (((l.length : Nat) : Int) - 1)))] : List Int)).length) c (flL (α := W32) (out ++ ([(gt l (wr (((l.length : Nat) : Int) - 1)))] : List Int))), Box pw [.pointer (some px)], MkA (D :: dl), OwnSl 60 1 al4 l4.length cl4 (flL (α := W32) l4), OwnMapI bv .u32 (fun _ : Unit => .agg #[]) m4] ?_
    refine .GV (nt rfl) q1517 ?_
    refine .V (pkT rfl q1517 rfl) ?_
    refine .nil (.seqN ?_)
    refine .cond rfl (fun e => absurd (e.symm.trans rfl) (by decide)) (fun _ => ?_)
    refine .skip (.blkN ?_)
    refine .sel0 [3, 4, 5, 6, 7, 8, 9, 10, 11] (by decide) rfl ?_
    exact .US q1514 (l4, m4, al4, cl4) hF
   replace hF := hF.2 q1517
   refine .GS q1517 ?_
   refine .GS q1517 ?_
   refine .GS q1517 ?_
   refine .GS q1517 ?_
   refine .GS q1517 ?_
   refine .GS q1517 ?_
   refine .GS q1517 ?_
   refine .GS q1517 ?_
   refine .GS q1517 ?_
   refine .GS q1517 ?_
   refine .GS q1517 ?_
   refine .GS q1517 ?_
   refine .GS q1517 ?_
   refine .GS q1517 ?_
   refine .V (pkF rfl q1517 rfl) ?_
   refine .nil (.seqN ?_)
   refine .cond rfl (fun e => absurd (e.symm.trans rfl) (by decide)) (fun _ => ?_)
   refine .skip (.blkN ?_)
   refine .sel0 [1, 2, 3, 4, 5, 6, 7, 8, 9] (by decide) rfl ?_
   exact .US q1514 (l4, m4, al4, cl4) hF
  replace hF := hF.2 q1503
  refine .exit (.seqX (.seqX (.blkX ?_)))
  refine .res0 (.inr rfl) rfl (range_done (k := 0) q1447 rfl q1448 ?_)
  refine .KA [tru, Box ps [.int .u32 (gt l (wr (((l.length : Nat) : Int) - 1)))], Box pstack [vSl al4 l4 cl4], Box pseen [.map (some bv)], OwnSl 60 1 a5 ((out ++ ([(gt l (wr (((l.length : Nat) : Int) - 1)))] : List Int)).length) c (flL (α := W32) (out ++ ([(gt l (wr (((l.length : Nat) : Int) - 1)))] : List Int))), Box pw [.pointer (some px)], MkA (D :: dl), OwnSl 60 1 al4 l4.length cl4 (flL (α := W32) l4), OwnMapI bv .u32 (fun _ : Unit => .agg #[]) m4] ?_
  refine .blkN (.seqN (.seq (.region (.V (ld1 rfl tO134 (cellB (off := 0) (k := 3) rfl rfl)) ?_))))
  refine .V (lnI tMI134 rfl (q := 8) rfl) ?_
  refine .V bi0 ?_
  refine .nil (.seqN ?_)
  refine .cond rfl (fun q1525 => ?_) (fun q1525 => ?_)
  ·replace hF := hF.1 q1525
   refine .seq (.region (.V ag0 ?_))
   refine .V ag0 ?_
   refine .nil (.seqN ?_)
   refine .nilSl 60 1 ?_
   refine .KA [OwnSl 60 1 none (([] : List Int).length) 0 (flL (α := W32) ([] : List Int)), tru, Box ps [.int .u32 (gt l (wr (((l.length : Nat) : Int) - 1)))], Box pstack [vSl al4 l4 cl4], Box pseen [.map (some bv)], OwnSl 60 1 a5 ((out ++ ([(gt l (wr (((l.length : Nat) : Int) - 1)))] : List Int)).length) c (flL (α := W32) (out ++ ([(gt l (wr (((l.length : Nat) : Int) - 1)))] : List Int))), Box pw [.pointer (some px)], MkA (D :: dl), OwnSl 60 1 al4 l4.length cl4 (flL (α := W32) l4), OwnMapI bv .u32 (fun _ : Unit => .agg #[]) m4] ?_
   refine .ret (.blkR (.seqR (.blkR (.seqR ?_))))
   refine .resM (k := 7) rfl ?_
   refine .res2 rfl (rvT rfl) (rvT rfl) (fun w' S => ⟨(([] : List Int), false), (none, 0), h, hF, rfl, (FH.le_refl _), trivial, S.pick (k := 0) rfl⟩)
  replace hF := hF.2 q1525
  refine .skip (.blkN ?_)
  refine .sel0 [2, 3, 4, 6, 7, 8] (by decide) rfl ?_
  exact .roundN ((out ++ ([(gt l (wr (((l.length : Nat) : Int) - 1)))] : List Int)), l4, m4, a5, c, D :: dl, al4, cl4) hF.1 hF.2 rfl sb rfl (FH.le_refl _)
 replace hF := hF.2 q1358
 refine .exit (.seqX (.seqX (.blkX (.seqN (.seq (.region (.V mv0 ?_)))))))
 refine .V ag0 ?_
 refine .V ag0 ?_
 refine .nil (.seqN (.ret ?_))
 refine .resM (k := 3) rfl ?_
 refine .res2 rfl (rvT rfl) (rvT rfl) (fun w' S => ⟨(out, true), (aout, cout), h, hF, rfl, (FH.le_refl _), trivial, S.pick (k := 2) rfl⟩)
theorem c_all {h : FH} {w : World} (hs : Sub h w) (x : WordsT) (ax : Option Addr) (cx : Nat) (_q1 : RSl h ax x.ops) (_q2 : x.ops.length ≤ cx) (px : Addr) (_q3 : CellsAt h px [.int .u32 x.start, .int .u32 x.goal, .slice ax x.ops.length cx]) (hp : pre_all x) : Calls Tryz.prog 48 #[.iface 53 (.pointer (some px))] w fun e w' => ∃ (z : Option Addr × Nat) (h0 h1 : FH), e = .returned (.tuple #[.slice z.1 (sp_all x).1.length z.2, .bool (sp_all x).2]) ∧ (True) ∧ FH.le h h1 ∧ SH (Kp.all w h0) h1 w' [OwnSl 60 1 z.1 (sp_all x).1.length z.2 (flL (α := W32) (sp_all x).1)] :=
 (w_all hs x ax cx _q1 _q2 px _q3 (fun r => r = sp_all x) (ok_all x hp)).mono fun _ _ ⟨r, z, h1, hk, he, hl, hψ, hS⟩ => by subst hk; exact ⟨z, h, h1, he, hψ, hl, hS⟩
end Go.Proofs.YtimillpakjgnoaaGreatDoor.Pl

namespace Go.Proofs.YtimillpakjgnoaaGreatDoor.Pl
open Go Go.RowKit
set_option maxHeartbeats 8000000 in
theorem w_optimalL {h : FH} {w : World} (hs : Sub h w) (t : Task) (at_ : Option Addr) (ct : Nat) (_q1 : RSl h at_ t.init) (_q2 : t.init.length ≤ ct) (at_2 : Option Addr) (ct2 : Nat) (_q3 : RSl h at_2 t.goal) (_q4 : t.goal.length ≤ ct2) (at_3 : Option Addr) (ct3 : Nat) (_q5 : RSl h at_3 t.ops) (_q6 : t.ops.length ≤ ct3) (K : (Int × Fault) → Prop) (hF : F_optimalL t K) : Calls Tryz.prog 56 #[.agg #[iV t.facts, .slice at_ t.init.length ct, .slice at_2 t.goal.length ct2, .slice at_3 t.ops.length ct3]] w fun e w' => ∃ r : Int × Fault, K r ∧ e = .returned (.tuple #[iV r.1, .agg #[iV r.2.code, iV r.2.index]]) ∧ Below w.heap.size w w' := by
 refine enter (args := [.agg (tF t at_ ct at_2 ct2 at_3 ct3).toArray]) Tryz.func56 rfl Tryz.ntmps56 rfl hs ?_
 obtain ⟨q7, hF⟩ := hF
 subst q7
 refine .seq (.region ?_)
 refine bx (vs := [iV 2, .slice at_ 0 ct, .slice at_2 2 ct2, .slice at_3 1 ct3]) rfl rfl rfl (fun pt => ?_)
 refine .V ag0 ?_
 refine al tZ27 rfl (fun pv => ?_)
 refine .nil (.seqN (.seq (.region (.V (ldA (cs := [iV 2, .slice at_ 0 ct, .slice at_2 2 ct2, .slice at_3 1 ct3]) rfl tA25 rfl (cellsB (off := 0) (k := 1) rfl (m := 4) rfl)) ?_))))
 refine .inl Tryz.func21 rfl Tryz.ntmps21 Tryz.call21 rfl rfl rfl rfl (fun a q8 => ?_)
 refine .sel0 [0] (by decide) rfl ?_
 refine .KA [Box pv [iV 0, iV 0]] ?_
 refine .seq (.region ?_)
 refine bx (vs := [iV 2, .slice at_ 0 ct, .slice at_2 2 ct2, .slice at_3 1 ct3]) rfl rfl rfl (fun pt2 => ?_)
 refine .V ag0 ?_
 refine .V ag0 ?_
 refine al tZ27 rfl (fun pv2 => ?_)
 refine .nil (.seqN (.seq (.seq (.region (.V (ldA (cs := [iV 2, .slice at_ 0 ct, .slice at_2 2 ct2, .slice at_3 1 ct3]) rfl tA25 rfl (cellsB (off := 0) (k := 1) rfl (m := 4) rfl)) ?_)))))
 obtain ⟨r2, q9⟩ : ∃ y_ : Fault, y_ = sp_validate (⟨2, ([] : List Int), ([0, 1] : List Int), ([(⟨([] : List Int), ([0, 1] : List Int), ([] : List Int), 2⟩ : Operator)] : List Operator)⟩ : Task) := ⟨_, rfl⟩
 replace hF := hF r2 q9
 have q10 : sp_validate (⟨2, ([] : List Int), ([0, 1] : List Int), ([(⟨([] : List Int), ([0, 1] : List Int), ([] : List Int), 2⟩ : Operator)] : List Operator)⟩ : Task) = (⟨0, 0⟩ : Fault) := by decide +kernel
 refine .C (cl (v := .agg #[iV 0, iV 0]) Tryz.call37 rfl rfl (fun w S => (by have h_ := c_validate S.sub (⟨2, ([] : List Int), ([0, 1] : List Int), ([(⟨([] : List Int), ([0, 1] : List Int), ([] : List Int), 2⟩ : Operator)] : List Operator)⟩ : Task) at_ ct _q1 _q2 at_2 ct2 _q3 _q4 at_3 ct3 _q5 _q6 ; rw [q10] at h_; exact h_))) ?_
 refine al tZ27 rfl (fun pf => ?_)
 refine st (p := pf) (off := 0) (k := 0) (vs := [iV 0, iV 0]) rfl rfl rfl (fun w => (tA27 w).2) rfl rfl rfl rfl ?_
 refine .nil (.seqN (.seq (.region (.V (ldA (cs := [iV 0, iV 0]) rfl tA27 rfl (cellsB (off := 0) (k := 0) rfl (m := 2) rfl)) ?_))))
 refine .V (bld (cs := #[iV 0, iV 0]) (pv := []) tB27 rfl rfl) ?_
 refine .V (ne2 tE27 rfl rfl) ?_
 refine .nil (.seqN ?_)
 refine .cond rfl (fun e => absurd (e.symm.trans rfl) (by decide)) (fun _ => ?_)
 refine .skip (.seqN (.seq (.region (.V (ldA (cs := [iV 2, .slice at_ 0 ct, .slice at_2 2 ct2, .slice at_3 1 ct3]) rfl tA25 rfl (cellsB (off := 0) (k := 2) rfl (m := 4) rfl)) ?_))))
 refine .inl Tryz.func47 rfl Tryz.ntmps47 Tryz.call47 rfl rfl rfl rfl (fun a2 q11 => ?_)
 refine .sel0 [1, 3] (by decide) rfl ?_
 refine .KA [Box pv2 [iV 0, iV 0], Box pv [iV 0, iV 0]] ?_
 refine .seq (.region ?_)
 refine bx (vs := [iV 2, .slice at_ 0 ct, .slice at_2 2 ct2, .slice at_3 1 ct3]) rfl rfl rfl (fun pt3 => ?_)
 refine .V ag0 ?_
 refine .nil (.seqN (.seq ?_))
 obtain ⟨q12, hF⟩ := hF
 obtain ⟨r3, q13⟩ : ∃ y_ : Int, y_ = sp_word ([] : List Int) := ⟨_, rfl⟩
 replace hF := hF r3 q13
 have q14 : sp_word ([] : List Int) = 0 := by decide +kernel
 obtain ⟨q15, hF⟩ := hF
 obtain ⟨r4, q16⟩ : ∃ y_ : Int, y_ = sp_word ([0, 1] : List Int) := ⟨_, rfl⟩
 replace hF := hF r4 q16
 have q17 : sp_word ([0, 1] : List Int) = 3 := by decide +kernel
 refine .openA (s0 := [(1, .pointer (some pt3))]) [0, 1, 2, 3, 4, 5, 6] [(0, .pointer (some (pt3.add 1))), (1, .slice at_ 0 ct), (2, .int .u32 0), (3, .pointer (some (pt3.add 2))), (4, .slice at_2 2 ct2), (5, .int .u32 3), (6, .agg #[.int .u32 0, .int .u32 3, .slice none 0 0])] (by kernel_rfl) sb [1] [] rfl (by kernel_rfl) ?_
 refine .step [7] 7 rfl (by kernel_rfl) (by kernel_rfl) (.v [] rfl rfl rfl rfl rfl rfl (fun _ => fa rfl tF25_1) (.v [(6, .pointer (some (pt3.add 1)))] rfl rfl rfl rfl rfl rfl (fun _ => ld1 rfl tO22 (cellB (off := 1) (k := 0) rfl rfl)) (.c [(7, .slice at_ 0 ct)] rfl rfl rfl rfl rfl rfl (fun _ => cl (v := .int .u32 0) Tryz.call73 rfl rfl (fun w S => (by have h_ := c_word S.sub ([] : List Int) at_ ct _q1 _q2 q12; rw [q14] at h_; exact h_))) (.v [] rfl rfl rfl rfl rfl rfl (fun _ => fa rfl tF25_2) (.v [(9, .pointer (some (pt3.add 2)))] rfl rfl rfl rfl rfl rfl (fun _ => ld1 rfl tO22 (cellB (off := 2) (k := 0) rfl rfl)) (.c [(10, .slice at_2 2 ct2), (8, .int .u32 0)] rfl rfl rfl rfl rfl rfl (fun _ => cl (v := .int .u32 3) Tryz.call73 rfl rfl (fun w S => (by have h_ := c_word S.sub ([0, 1] : List Int) at_2 ct2 _q3 _q4 q15; rw [q17] at h_; exact h_))) (.v [(8, .int .u32 0), (11, .int .u32 3)] rfl rfl rfl rfl rfl rfl (fun _ => bld (cs := #[.int .u32 0, .int .u32 3, .slice none 0 0]) (pv := [(0, .int .u32 0), (1, .int .u32 3)]) tB112 rfl rfl) (.nil)))))))) (.cons [(12, .agg #[.int .u32 0, .int .u32 3, .slice none 0 0])] rfl rfl (fun sL hL => ?_) (.nil))
 refine bx (vs := [.int .u32 0, .int .u32 3, .slice none 0 0]) rfl rfl rfl (fun pv3 => ?_)
 refine .nil ?_
 refine .ja (M := [6, 2, 5, 1, 4, 0, 3]) (C' := [8]) (pre := [(7, .pointer (some pv3)), (8, .pointer (some pv3))]) [(1, .pointer (some pt3))] [1] hL rfl rfl rfl rfl rfl sb rfl rfl (by kernel_rfl) ?_
 refine .last [(6, .pointer (some (pt3.add 1))), (7, .slice at_ 0 ct), (8, .int .u32 0), (9, .pointer (some (pt3.add 2))), (10, .slice at_2 2 ct2), (11, .int .u32 3), (12, .agg #[.int .u32 0, .int .u32 3, .slice none 0 0]), (13, .pointer (some pv3)), (3, .pointer (some pv3))] rfl (by kernel_rfl) (.v [(13, .pointer (some pv3)), (11, .int .u32 3), (6, .pointer (some (pt3.add 1))), (7, .slice at_ 0 ct), (8, .int .u32 0), (9, .pointer (some (pt3.add 2))), (10, .slice at_2 2 ct2), (11, .int .u32 3), (12, .agg #[.int .u32 0, .int .u32 3, .slice none 0 0]), (13, .pointer (some pv3))] rfl rfl rfl rfl rfl rfl (fun _ => asg rfl) (.nil)) rfl ?_
 refine .seqN (.seq (.seq (.region (.V (fa rfl tF25_3) ?_))))
 refine .V (ld1 rfl tO23 (cellB (off := 3) (k := 1) rfl rfl)) ?_
 refine .V (ln rfl tS23.is) ?_
 refine .V mv0 ?_
 refine .nil (.seqN (.block ?_))
 refine .rounds 90 ?_
 refine .seq (.region (.V bi0 ?_))
 refine .nil (.seqN (.seq ?_))
 refine .cond rfl (fun _ => ?_) (fun e => absurd (e.symm.trans rfl) (by decide))
 refine .skip (.seqN (.seq (.block (.seq (.region (.V (ix rfl rfl tS23 (_q5.ne (by decide) (inb_pos (show inb ([(⟨([] : List Int), ([0, 1] : List Int), ([] : List Int), 2⟩ : Operator)] : List Operator) (0 : Int) from And.intro (by decide) (by decide)))) (show inb ([(⟨([] : List Int), ([0, 1] : List Int), ([] : List Int), 2⟩ : Operator)] : List Operator) (0 : Int) from And.intro (by decide) (by decide))) ?_))))))
 obtain ⟨_, ⟨a3, c, a4, c2, a5, c3, rfl, ⟨q18, q19⟩, ⟨q20, q21⟩, q22, q23⟩, q24⟩ := _q5.elem (show inb ([(⟨([] : List Int), ([0, 1] : List Int), ([] : List Int), 2⟩ : Operator)] : List Operator) (0 : Int) from And.intro (by decide) (by decide))
 refine .V (ldA (cs := [.slice a3 0 c, .slice a4 2 c2, .slice a5 0 c3, iV 2]) rfl tA114 rfl (cellsH (q24 (by decide)))) ?_
 refine al tZ114 rfl (fun po => ?_)
 refine st (p := po) (off := 0) (k := 0) (vs := [.slice a3 0 c, .slice a4 2 c2, .slice a5 0 c3, iV 2]) rfl rfl rfl (fun w => (tA114 w).2) rfl rfl rfl rfl ?_
 refine .nil (.seqN ?_)
 obtain ⟨r5, q25⟩ : ∃ y_ : Int, y_ = sp_word ([] : List Int) := ⟨_, rfl⟩
 replace hF := hF r5 q25
 have q26 : sp_word ([] : List Int) = 0 := by decide +kernel
 obtain ⟨r6, q27⟩ : ∃ y_ : Int, y_ = sp_word ([0, 1] : List Int) := ⟨_, rfl⟩
 replace hF := hF r6 q27
 have q28 : sp_word ([0, 1] : List Int) = 3 := by decide +kernel
 obtain ⟨r7, q29⟩ : ∃ y_ : Int, y_ = sp_word ([] : List Int) := ⟨_, rfl⟩
 replace hF := hF r7 q29
 have q30 : sp_word ([] : List Int) = 0 := by decide +kernel
 refine .openA (s0 := [(3, .pointer (some pv3)), (5, .pointer (some po)), (15, .slice at_3 1 ct3), (16, iV 1), (17, iV 0)]) [0, 1, 2, 3, 4, 5, 6, 7, 8, 9, 10, 11, 12, 13, 14, 15, 16] [(0, .pointer (some pv3)), (1, .pointer (some pv3)), (2, .pointer (some pv3)), (3, .pointer (some (pv3.add 2))), (4, .slice none 0 0), (5, .pointer (some (po.add 0))), (6, .slice a3 0 c), (7, .int .u32 0), (8, .pointer (some (po.add 1))), (9, .slice a4 2 c2), (10, .int .u32 3), (11, .pointer (some (po.add 2))), (12, .slice a5 0 c3), (13, .int .u32 0), (14, .pointer (some (po.add 3))), (15, iV 2), (16, .agg #[.int .u32 0, .int .u32 3, .int .u32 0, iV 2])] (by kernel_rfl) sb [3, 5, 15, 16, 17] [] rfl (by kernel_rfl) ?_
 refine .step [17] 17 rfl (by kernel_rfl) (by kernel_rfl) (.v [] rfl rfl rfl rfl rfl rfl (fun _ => mv rfl) (.v [] rfl rfl rfl rfl rfl rfl (fun _ => mv rfl) (.v [(22, .pointer (some pv3))] rfl rfl rfl rfl rfl rfl (fun _ => nck rfl) (.v [(23, .pointer (some pv3))] rfl rfl rfl rfl rfl rfl (fun _ => fa rfl tF112_2) (.v [(24, .pointer (some (pv3.add 2)))] rfl rfl rfl rfl rfl rfl (fun _ => ld1 rfl tO110 (cellB (off := 2) (k := 1) rfl rfl)) (.v [] rfl rfl rfl rfl rfl rfl (fun _ => fa rfl tF114_0) (.v [(26, .pointer (some (po.add 0)))] rfl rfl rfl rfl rfl rfl (fun _ => ld1 rfl tO22 (cellB (off := 0) (k := 0) rfl rfl)) (.c [(27, .slice a3 0 c)] rfl rfl rfl rfl rfl rfl (fun _ => cl (v := .int .u32 0) Tryz.call73 rfl rfl (fun w S => (by have h_ := c_word S.sub ([] : List Int) a3 c q19 q18 q12; rw [q26] at h_; exact h_))) (.v [] rfl rfl rfl rfl rfl rfl (fun _ => fa rfl tF114_1) (.v [(29, .pointer (some (po.add 1)))] rfl rfl rfl rfl rfl rfl (fun _ => ld1 rfl tO22 (cellB (off := 1) (k := 0) rfl rfl)) (.c [(30, .slice a4 2 c2), (28, .int .u32 0)] rfl rfl rfl rfl rfl rfl (fun _ => cl (v := .int .u32 3) Tryz.call73 rfl rfl (fun w S => (by have h_ := c_word S.sub ([0, 1] : List Int) a4 c2 q21 q20 q15; rw [q28] at h_; exact h_))) (.v [] rfl rfl rfl rfl rfl rfl (fun _ => fa rfl tF114_2) (.v [(32, .pointer (some (po.add 2)))] rfl rfl rfl rfl rfl rfl (fun _ => ld1 rfl tO22 (cellB (off := 2) (k := 0) rfl rfl)) (.c [(33, .slice a5 0 c3), (31, .int .u32 3)] rfl rfl rfl rfl rfl rfl (fun _ => cl (v := .int .u32 0) Tryz.call73 rfl rfl (fun w S => (by have h_ := c_word S.sub ([] : List Int) a5 c3 q23 q22 q12; rw [q30] at h_; exact h_))) (.v [] rfl rfl rfl rfl rfl rfl (fun _ => fa rfl tF114_3) (.v [(35, .pointer (some (po.add 3)))] rfl rfl rfl rfl rfl rfl (fun _ => ld1 rfl tO3 (cellB (off := 3) (k := 0) rfl rfl)) (.v [(28, .int .u32 0), (31, .int .u32 3), (34, .int .u32 0), (36, iV 2)] rfl rfl rfl rfl rfl rfl (fun _ => bld (cs := #[.int .u32 0, .int .u32 3, .int .u32 0, iV 2]) (pv := [(0, .int .u32 0), (1, .int .u32 3), (2, .int .u32 0), (3, iV 2)]) tB132 rfl rfl) (.nil)))))))))))))))))) (.cons [(37, .agg #[.int .u32 0, .int .u32 3, .int .u32 0, iV 2])] rfl rfl (fun sL hL => ?_) (.nil))
 refine bs2 (cs := #[.int .u32 0, .int .u32 3, .int .u32 0, iV 2]) (pv := [(0, .agg #[.int .u32 0, .int .u32 3, .int .u32 0, iV 2])]) tS110 rfl rfl (by decide) (by decide) rfl rfl rfl (fun a6 q31 => ?_)
 refine .nil ?_
 refine .ja (M := [16, 7, 10, 13, 15, 6, 9, 12, 14, 5, 8, 11]) (C' := [0, 1, 2, 3, 4]) (pre := [(17, .slice a6 1 1)]) [(3, .pointer (some pv3)), (5, .pointer (some po)), (15, .slice at_3 1 ct3), (16, iV 1), (17, iV 0)] [3, 5, 15, 16, 17] hL rfl rfl rfl rfl rfl sb rfl rfl (by kernel_rfl) ?_
 refine .step [18] 18 rfl (by kernel_rfl) (by kernel_rfl) (.v [] rfl rfl rfl rfl rfl rfl (fun _ => mv rfl) (.v [] rfl rfl rfl rfl rfl rfl (fun _ => mv rfl) (.v [(22, .pointer (some pv3))] rfl rfl rfl rfl rfl rfl (fun _ => nck rfl) (.v [(23, .pointer (some pv3))] rfl rfl rfl rfl rfl rfl (fun _ => fa rfl tF112_2) (.v [(24, .pointer (some (pv3.add 2)))] rfl rfl rfl rfl rfl rfl (fun _ => ld1 rfl tO110 (cellB (off := 2) (k := 2) rfl rfl)) (.nil)))))) (.cons [(25, .slice none 0 0), (38, .slice a6 1 1), (34, .int .u32 0)] rfl rfl (fun sL hL => ?_) (.nil))
 refine .nilSl 132 4 ?_
 refine app (k := 0) (news := [.int .u32 0, .int .u32 3, .int .u32 0, iV 2]) (cs' := [.int .u32 0, .int .u32 3, .int .u32 0, iV 2]) (nm := 1) tS110 rfl (by decide) rfl rfl rfl rfl (srcS (k := 1) rfl) (oneAll rfl) (by decide) (by decide) rfl rfl rfl (fun a7 c4 => ?_)
 refine .nil ?_
 refine .ja (M := [4, 3, 2, 1]) (C' := [0, 19, 20]) (pre := [(18, .slice a7 1 c4), (19, .pointer (some pv3)), (20, .pointer (some (pv3.add 2)))]) [(3, .pointer (some pv3)), (5, .pointer (some po)), (15, .slice at_3 1 ct3), (16, iV 1), (17, iV 0)] [3, 5, 15, 16, 17] hL rfl rfl rfl rfl rfl sb rfl rfl (by kernel_rfl) ?_
 refine .step [21] 21 rfl (by kernel_rfl) (by kernel_rfl) (.v [] rfl rfl rfl rfl rfl rfl (fun _ => mv rfl) (.v [(21, .pointer (some pv3)), (21, .pointer (some pv3)), (22, .pointer (some pv3)), (23, .pointer (some pv3)), (24, .pointer (some (pv3.add 2))), (25, .slice none 0 0), (26, .pointer (some (po.add 0))), (27, .slice a3 0 c), (28, .int .u32 0), (29, .pointer (some (po.add 1))), (30, .slice a4 2 c2), (31, .int .u32 3), (32, .pointer (some (po.add 2))), (33, .slice a5 0 c3), (34, .int .u32 0), (35, .pointer (some (po.add 3))), (36, iV 2), (37, .agg #[.int .u32 0, .int .u32 3, .int .u32 0, iV 2]), (38, .slice a6 1 1), (39, .slice a7 1 c4)] rfl rfl rfl rfl rfl rfl (fun _ => nck rfl) (.v [(40, .pointer (some pv3)), (21, .pointer (some pv3)), (22, .pointer (some pv3)), (23, .pointer (some pv3)), (24, .pointer (some (pv3.add 2))), (25, .slice none 0 0), (26, .pointer (some (po.add 0))), (27, .slice a3 0 c), (28, .int .u32 0), (29, .pointer (some (po.add 1))), (30, .slice a4 2 c2), (31, .int .u32 3), (32, .pointer (some (po.add 2))), (33, .slice a5 0 c3), (34, .int .u32 0), (35, .pointer (some (po.add 3))), (36, iV 2), (37, .agg #[.int .u32 0, .int .u32 3, .int .u32 0, iV 2]), (38, .slice a6 1 1), (39, .slice a7 1 c4)] rfl rfl rfl rfl rfl rfl (fun _ => fa rfl tF112_2) (.nil)))) (.cons [(41, .pointer (some (pv3.add 2))), (39, .slice a7 1 c4), (39, .slice a7 1 c4), (21, .pointer (some pv3)), (22, .pointer (some pv3)), (23, .pointer (some pv3)), (24, .pointer (some (pv3.add 2))), (25, .slice none 0 0), (26, .pointer (some (po.add 0))), (27, .slice a3 0 c), (28, .int .u32 0), (29, .pointer (some (po.add 1))), (30, .slice a4 2 c2), (31, .int .u32 3), (32, .pointer (some (po.add 2))), (33, .slice a5 0 c3), (34, .int .u32 0), (35, .pointer (some (po.add 3))), (36, iV 2), (37, .agg #[.int .u32 0, .int .u32 3, .int .u32 0, iV 2]), (38, .slice a6 1 1), (39, .slice a7 1 c4)] rfl rfl (fun sL hL => ?_) (.nil))
 refine st (p := pv3) (off := 2) (k := 3) (vs := [.slice a7 1 c4]) rfl rfl rfl (fun w => (tO110 w).2) rfl rfl rfl rfl ?_
 refine .nil ?_
 refine .jaN (M := [20, 0, 19]) (C' := []) (pre := []) [3, 5, 15, 16, 17] hL rfl rfl rfl rfl rfl (by kernel_rfl) ?_
 refine .last [(21, .pointer (some pv3)), (22, .pointer (some pv3)), (23, .pointer (some pv3)), (24, .pointer (some (pv3.add 2))), (25, .slice none 0 0), (26, .pointer (some (po.add 0))), (27, .slice a3 0 c), (28, .int .u32 0), (29, .pointer (some (po.add 1))), (30, .slice a4 2 c2), (31, .int .u32 3), (32, .pointer (some (po.add 2))), (33, .slice a5 0 c3), (34, .int .u32 0), (35, .pointer (some (po.add 3))), (36, iV 2), (37, .agg #[.int .u32 0, .int .u32 3, .int .u32 0, iV 2]), (38, .slice a6 1 1), (39, .slice a7 1 c4), (40, .pointer (some pv3)), (41, .pointer (some (pv3.add 2)))] rfl (by kernel_rfl) (.nil) rfl ?_
 refine .blkN (.seqN (.region (.V bi0 ?_)))
 refine .V mv0 ?_
 refine .nil ?_
 refine .more ?_
 refine .sub (s' := [(3, .pointer (some pv3)), (15, .slice at_3 1 ct3), (16, iV 1), (17, iV 1)]) sb ?_
 refine .sel0 [0, 3, 5, 6] (by decide) rfl ?_
 refine .KA [OwnSl 132 4 a7 1 c4 [.int .u32 0, .int .u32 3, .int .u32 0, iV 2], Box pv3 [.int .u32 0, .int .u32 3, .slice a7 1 c4], Box pv2 [iV 0, iV 0], Box pv [iV 0, iV 0]] ?_
 refine .seq (.region (.V bi0 ?_))
 refine .nil (.seqN (.seq ?_))
 refine .cond rfl (fun e => absurd (e.symm.trans rfl) (by decide)) (fun _ => ?_)
 refine .exit (.seqX (.seqX (.blkX (.seqN (.seq (.region (.V mv0 ?_)))))))
 refine .V ag0 ?_
 refine .nil (.seqN (.ret ?_))
 refine .res1 rfl (rvT rfl) (inl_back (v := .pointer (some pv3)) q11 rfl ?_)
 refine .V ag0 ?_
 refine .nil (.seqN (.seq (.region (.V mv0 ?_))))
 refine .V (mkI tC53 rfl) ?_
 refine .freezeL (k := 0) rfl (fun h1 le1 q33 q32 => ?_)
 have q34 : RSl h1 a7 ([(⟨0, 3, 0, 2⟩ : Masks)] : List Masks) := (RSl.of (xs := ([(⟨0, 3, 0, 2⟩ : Masks)] : List Masks)) q32)
 refine .freezeBx (k := 1) rfl (fun h2 le2 q35 => ?_)
 obtain ⟨q36, hF⟩ := hF
 obtain ⟨r8, q37⟩ : ∃ y_ : List Int × Bool, y_ = sp_all (⟨0, 3, ([(⟨0, 3, 0, 2⟩ : Masks)] : List Masks)⟩ : WordsT) := ⟨_, rfl⟩
 replace hF := hF r8 q37
 refine clO (α := Option Addr × Nat) (V := fun z => .tuple #[vSl z.1 r8.1 z.2, .bool r8.2]) (Ψ := fun z => True) (B := fun z => [OwnSl 60 1 z.1 r8.1.length z.2 (flL (α := W32) r8.1)]) Tryz.call48 rfl rfl (fun w S => (by rw [q37]; exact c_all S.sub (⟨0, 3, ([(⟨0, 3, 0, 2⟩ : Masks)] : List Masks)⟩ : WordsT) a7 c4 (q34.mono (le2)) (show ([(⟨0, 3, 0, 2⟩ : Masks)] : List Masks).length ≤ c4 from q33) pv3 (CellsAt.mono (FH.le_refl _) q35) q36)) rfl (fun z _ => ?_)
 obtain ⟨a8, c5⟩ := z
 obtain rfl : r8 = (([0, 3] : List Int), true) := q37.trans (by decide +kernel)
 refine .V mv0 ?_
 refine .V (ext rfl rfl) ?_
 refine .V (ext rfl rfl) ?_
 refine .V ag0 ?_
 refine .V ag0 ?_
 refine .nil (.seqN (.seq (.seq (.region (.V mv0 ?_)))))
 refine .V (nt rfl) ?_
 refine .nil (.seqN ?_)
 refine .cond rfl (fun e => absurd (e.symm.trans rfl) (by decide)) (fun _ => ?_)
 refine .skip (.seqN (.seq (.region (.V mv0 ?_))))
 obtain ⟨q38, hF⟩ := hF
 obtain ⟨r9, q39⟩ : ∃ y_ : List Int, y_ = sp_sortW ([0, 3] : List Int) := ⟨_, rfl⟩
 replace hF := hF r9 q39
 refine callX (k := 0) (v := .tuple #[]) (X' := OwnSl 60 1 a8 (([0, 3] : List Int).length) c5 (flL (α := W32) r9)) rfl Tryz.call49 rfl rfl (fun w g hx sg hd hs' => ?_) rfl ?_
 ·rw [q39]; exact c_sortW hs' ([0, 3] : List Int) a8 c5 hx sg hd q38
 obtain rfl : r9 = ([0, 3] : List Int) := q39.trans (sortW_two (by decide +kernel))
 refine .nil (.seqN (.seq (.region (.V mv0 ?_))))
 refine .V mv0 ?_
 refine .V (bld (cs := #[iV 0, iV 0]) (pv := []) tB27 rfl rfl) ?_
 refine .V ag0 ?_
 refine .V ag0 ?_
 refine st (p := pv2) (off := 0) (k := 3) (vs := [iV 0, iV 0]) rfl rfl rfl (fun w => (tA27 w).2) rfl rfl rfl rfl ?_
 refine .KA [OwnSl 60 1 a8 2 c5 [.int .u32 0, .int .u32 3], tru, tru, Box pv2 [iV 0, iV 0], Box pv [iV 0, iV 0]] ?_
 refine .nil (.seqN (.ret ?_))
 refine .res3 rfl (rvT rfl) (rvT rfl) (rvC rfl tA27 (k := 3) rfl rfl) (inl_back (v := .tuple #[.pointer (some pv3), .slice a8 2 c5, .agg #[iV 0, iV 0]]) q8 rfl ?_)
 refine .V mv0 ?_
 refine .V (ext rfl rfl) ?_
 refine .V (ext rfl rfl) ?_
 refine .V (ext rfl rfl) ?_
 refine al tZ27 rfl (fun pf2 => ?_)
 refine .V ag0 ?_
 refine .V ag0 ?_
 refine st (p := pf2) (off := 0) (k := 0) (vs := [iV 0, iV 0]) rfl rfl rfl (fun w => (tA27 w).2) rfl rfl rfl rfl ?_
 refine .nil (.seqN (.seq (.seq (.region (.V (ldA (cs := [iV 0, iV 0]) rfl tA27 rfl (cellsB (off := 0) (k := 0) rfl (m := 2) rfl)) ?_)))))
 refine .V (bld (cs := #[iV 0, iV 0]) (pv := []) tB27 rfl rfl) ?_
 refine .V (ne2 tE27 rfl rfl) ?_
 refine .nil (.seqN ?_)
 refine .cond rfl (fun e => absurd (e.symm.trans rfl) (by decide)) (fun _ => ?_)
 refine .skip (.seqN (.seq (.region (.V mv0 ?_))))
 refine .V mv0 ?_
 refine .inlM Tryz.func79 rfl Tryz.ntmps79 Tryz.call79 rfl rfl rfl rfl (fun a9 q40 => ?_)
 refine .mk0 ?_
 refine .KA [MkA [], Box pf2 [iV 0, iV 0], OwnSl 60 1 a8 2 c5 [.int .u32 0, .int .u32 3], tru, tru, Box pv2 [iV 0, iV 0], Box pv [iV 0, iV 0]] ?_
 refine .sel0 [0, 2, 6] (by decide) rfl ?_
 refine .KA [MkA [], OwnSl 60 1 a8 2 c5 [.int .u32 0, .int .u32 3], Box pv [iV 0, iV 0]] ?_
 refine .seq (.region (.V ag0 ?_))
 refine .nil (.seqN (.seq (.region ?_)))
 refine mmI .u32 (fun v : Value => v) rfl (fun bv => ?_)
 refine al tZ159 rfl (fun pback => ?_)
 refine st (p := pback) (off := 0) (k := 0) (vs := [.map (some bv)]) rfl rfl rfl (fun w => (tO159 w).2) rfl rfl rfl rfl ?_
 refine .nil (.seqN (.seq (.region ?_)))
 refine mmI .u32 (fun v : Value => v) rfl (fun bv2 => ?_)
 refine .V ag0 ?_
 refine .nil (.seqN (.seq (.region ?_)))
 refine .inl Tryz.func99 rfl Tryz.ntmps99 Tryz.call99 rfl rfl rfl rfl (fun a10 q41 => ?_)
 refine .KA [OwnMapI bv2 .u32 (fun v : Value => v) ([] : List (Int × Value)), Box pback [.map (some bv)], OwnMapI bv .u32 (fun v : Value => v) ([] : List (Int × Value)), MkA [], OwnSl 60 1 a8 2 c5 [.int .u32 0, .int .u32 3], Box pv [iV 0, iV 0]] ?_
 refine .seq (.region (.V ag0 ?_))
 refine .nil (.seqN (.seq (.region ?_)))
 refine mmI .u32 (fun v : Value => v) rfl (fun bv3 => ?_)
 refine .V (bld (cs := #[.slice none 0 0, .map (some bv3), iV 0]) (pv := [(1, .map (some bv3))]) tB195 rfl rfl) ?_
 refine bx (vs := [.slice none 0 0, .map (some bv3), iV 0]) rfl rfl rfl (fun pv4 => ?_)
 refine .V ag0 ?_
 refine .nil (.seqN (.ret ?_))
 refine .res1 rfl (rvT rfl) (inl_back (v := .pointer (some pv4)) q41 rfl ?_)
 refine .V ag0 ?_
 refine .nil (.seqN (.seq (.seq (.region (.V mv0 ?_)))))
 refine .V (ln rfl tS54.is) ?_
 refine .V mv0 ?_
 refine .nil (.seqN (.block ?_))
 refine .rounds 90 ?_
 refine .seq (.region (.V bi0 ?_))
 refine .nil (.seqN (.seq ?_))
 refine .cond rfl (fun _ => ?_) (fun e => absurd (e.symm.trans rfl) (by decide))
 refine .skip (.seqN (.seq (.block (.seq (.region (.V (ixS rfl rfl tS54 (k := 6) rfl (And.intro (by decide) (by decide))) ?_))))))
 refine .V (ld1 (v := .int .u32 0) rfl tO60 (cellS (k := 6) rfl rfl)) ?_
 refine al tZ60 rfl (fun ps => ?_)
 refine st (p := ps) (off := 0) (k := 0) (vs := [.int .u32 0]) rfl rfl rfl (fun w => (tO60 w).2) rfl rfl rfl rfl ?_
 refine .nil (.seqN (.seq (.region (.V mv0 ?_))))
 refine .V (ld1 rfl tO60 (cellB (off := 0) (k := 0) rfl rfl)) ?_
 refine muI (enc := fun v : Value => v) (iV 1000000000) tMR141 rfl rfl rfl (q := 3) rfl ?_
 refine .nil (.seqN (.seq (.seq (.region (.V mv0 ?_)))))
 refine .V (ld1 rfl tO60 (cellB (off := 0) (k := 0) rfl rfl)) ?_
 refine .inl Tryz.func24 rfl Tryz.ntmps24 Tryz.call24 rfl rfl rfl rfl (fun a11 q42 => ?_)
 refine .KA [Box ps [.int .u32 0], Box pv4 [.slice none 0 0, .map (some bv3), iV 0], OwnMapI bv3 .u32 (fun v : Value => v) ([] : List (Int × Value)), OwnMapI bv2 .u32 (fun v : Value => v) ([(0, iV 1000000000)] : List (Int × Value)), Box pback [.map (some bv)], OwnMapI bv .u32 (fun v : Value => v) ([] : List (Int × Value)), MkA [], OwnSl 60 1 a8 2 c5 [.int .u32 0, .int .u32 3], Box pv [iV 0, iV 0]] ?_
 refine .seq (.region (.V ag0 ?_))
 refine .nil (.seqN (.seq ?_))
 refine .openA (s0 := [(0, .pointer (some pv3)), (1, .int .u32 0)]) [0, 1, 2, 3, 4, 5, 6, 7, 8, 9, 10, 11] [(0, .int .u32 0), (1, .pointer (some pv3)), (2, .pointer (some pv3)), (3, .pointer (some (pv3.add 1))), (4, .int .u32 3), (5, .int .u32 0), (6, .pointer (some pv3)), (7, .pointer (some pv3)), (8, .pointer (some (pv3.add 1))), (9, .int .u32 3), (10, .bool false), (11, .bool false)] (by kernel_rfl) sb [0, 1] [] rfl (by kernel_rfl) ?_
 refine .last [(5, .int .u32 0), (6, .pointer (some pv3)), (7, .pointer (some pv3)), (8, .pointer (some (pv3.add 1))), (9, .int .u32 3), (10, .int .u32 0), (11, .pointer (some pv3)), (12, .pointer (some pv3)), (13, .pointer (some (pv3.add 1))), (14, .int .u32 3), (15, .bool false), (4, .bool false)] rfl (by kernel_rfl) (.v [] rfl rfl rfl rfl rfl rfl (fun _ => mv rfl) (.v [] rfl rfl rfl rfl rfl rfl (fun _ => mv rfl) (.v [(6, .pointer (some pv3))] rfl rfl rfl rfl rfl rfl (fun _ => nck rfl) (.v [(7, .pointer (some pv3))] rfl rfl rfl rfl rfl rfl (fun _ => fa rfl tF112_1) (.v [(8, .pointer (some (pv3.add 1)))] rfl rfl rfl rfl rfl rfl (fun _ => ld1 (v := .int .u32 3) rfl tO60 (cellH (CellsAt.mono (FH.le_refl _) q35 1 _ rfl))) (.v [(5, .int .u32 0), (9, .int .u32 3)] rfl rfl rfl rfl rfl rfl (fun _ => bi rfl rfl rfl) (.v [] rfl rfl rfl rfl rfl rfl (fun _ => mv rfl) (.v [(11, .pointer (some pv3))] rfl rfl rfl rfl rfl rfl (fun _ => nck rfl) (.v [(12, .pointer (some pv3))] rfl rfl rfl rfl rfl rfl (fun _ => fa rfl tF112_1) (.v [(13, .pointer (some (pv3.add 1)))] rfl rfl rfl rfl rfl rfl (fun _ => ld1 (v := .int .u32 3) rfl tO60 (cellH (CellsAt.mono (FH.le_refl _) q35 1 _ rfl))) (.v [(10, .int .u32 0), (14, .int .u32 3)] rfl rfl rfl rfl rfl rfl (fun _ => bi rfl rfl rfl) (.v [(15, .bool false), (5, .int .u32 0), (6, .pointer (some pv3)), (7, .pointer (some pv3)), (8, .pointer (some (pv3.add 1))), (9, .int .u32 3), (10, .int .u32 0), (11, .pointer (some pv3)), (12, .pointer (some pv3)), (13, .pointer (some (pv3.add 1))), (14, .int .u32 3), (15, .bool false)] rfl rfl rfl rfl rfl rfl (fun _ => asg rfl) (.nil))))))))))))) rfl ?_
 refine .seqN (.ret ?_)
 refine .res1 rfl (rvT rfl) (inl_back (v := .bool false) q42 rfl ?_)
 refine .nil (.seqN ?_)
 refine .cond rfl (fun e => absurd (e.symm.trans rfl) (by decide)) (fun _ => ?_)
 refine .skip (.seqN (.seq (.region (.V mv0 ?_))))
 refine .V (ld1 rfl tO60 (cellB (off := 0) (k := 0) rfl rfl)) ?_
 refine .inl Tryz.func101 rfl Tryz.ntmps101 Tryz.call101 rfl rfl rfl rfl (fun a12 q43 => ?_)
 refine .KA [Box ps [.int .u32 0], Box pv4 [.slice none 0 0, .map (some bv3), iV 0], OwnMapI bv3 .u32 (fun v : Value => v) ([] : List (Int × Value)), OwnMapI bv2 .u32 (fun v : Value => v) ([(0, iV 1000000000)] : List (Int × Value)), Box pback [.map (some bv)], OwnMapI bv .u32 (fun v : Value => v) ([] : List (Int × Value)), MkA [], OwnSl 60 1 a8 2 c5 [.int .u32 0, .int .u32 3], Box pv [iV 0, iV 0]] ?_
 refine .seq (.region ?_)
 refine bx (vs := [.pointer (some pv3)]) rfl rfl rfl (fun pw => ?_)
 refine bx (vs := [.int .u32 0]) rfl rfl rfl (fun ps2 => ?_)
 refine .V ag0 ?_
 refine .nil (.seqN (.seq (.region (.V (mkf (vf := []) (vc := [.pointer (some pw), .pointer (some ps2)]) rfl rfl) ?_))))
 refine .V ag0 ?_
 refine .nil (.seqN (.ret ?_))
 refine .res1 rfl (rvT rfl) (inl_back (v := .func (.func 132) #[] #[.pointer (some pw), .pointer (some ps2)]) q43 rfl ?_)
 refine .nil (.seqN (.block ?_))
 refine .sub (s' := [(0, .pointer (some pv3)), (5, .pointer (some pback)), (6, .map (some bv2)), (7, .pointer (some pv4)), (9, .pointer (some ps)), (19, .slice a8 2 c5), (20, iV 2), (21, iV 0), (37, .func (.func 132) #[] #[.pointer (some pw), .pointer (some ps2)])]) sb ?_
 refine .rangeF (k := 8) (caps := [.pointer (some pw), .pointer (some ps2)]) rfl rfl Tryz.func132 rfl Tryz.ntmps132 rfl Tryz.call132 (fun l D LA a13 q44 q45 => ?_)
 refine .KA [LA .ready none, Box ps2 [.int .u32 0], Box pw [.pointer (some pv3)], Box ps [.int .u32 0], Box pv4 [.slice none 0 0, .map (some bv3), iV 0], OwnMapI bv3 .u32 (fun v : Value => v) ([] : List (Int × Value)), OwnMapI bv2 .u32 (fun v : Value => v) ([(0, iV 1000000000)] : List (Int × Value)), Box pback [.map (some bv)], OwnMapI bv .u32 (fun v : Value => v) ([] : List (Int × Value)), MkA (D :: []), OwnSl 60 1 a8 2 c5 [.int .u32 0, .int .u32 3], Box pv [iV 0, iV 0]] ?_
 refine .seq (.region (.V (ld1 rfl tO53 (cellB (off := 0) (k := 2) rfl rfl)) ?_))
 refine .V (nck rfl) ?_
 refine .V (fa rfl tF112_2) ?_
 refine .V (ld1 (v := .slice a7 1 c4) rfl tO110 (cellH (CellsAt.mono (FH.le_refl _) q35 2 _ rfl))) ?_
 refine .V (ln rfl tS110.is) ?_
 refine .V mv0 ?_
 refine .nil (.seqN (.block ?_))
 refine .rounds 90 ?_
 refine .seq (.region (.V bi0 ?_))
 refine .nil (.seqN (.seq ?_))
 refine .cond rfl (fun _ => ?_) (fun e => absurd (e.symm.trans rfl) (by decide))
 refine .skip (.seqN (.seq (.block (.seq (.region (.V mv0 ?_))))))
 refine .V (ix rfl rfl tS110 (q34.ne (by decide) (inb_pos (show inb ([(⟨0, 3, 0, 2⟩ : Masks)] : List Masks) (0 : Int) from And.intro (by decide) (by decide)))) (show inb ([(⟨0, 3, 0, 2⟩ : Masks)] : List Masks) (0 : Int) from And.intro (by decide) (by decide))) ?_
 refine .V (ldA (cs := [.int .u32 0, .int .u32 3, .int .u32 0, iV 2]) rfl tA132 rfl (cellsH ((q34.mono (le2)).elemF (show inb ([(⟨0, 3, 0, 2⟩ : Masks)] : List Masks) (0 : Int) from And.intro (by decide) (by decide)) (by decide)))) ?_
 refine al tZ132 rfl (fun pback2 => ?_)
 refine .V ag0 ?_
 refine st (p := pback2) (off := 0) (k := 0) (vs := [.int .u32 0, .int .u32 3, .int .u32 0, iV 2]) rfl rfl rfl (fun w => (tA132 w).2) rfl rfl rfl rfl ?_
 refine .nil (.seqN (.seq (.region (.V (ld1 rfl tO60 (cellB (off := 0) (k := 2) rfl rfl)) ?_))))
 refine .V (fa rfl tF132_0) ?_
 refine .V (ld1 rfl tO60 (cellB (off := 0) (k := 0) rfl rfl)) ?_
 refine .V bi0 ?_
 refine .V (fa rfl tF132_0) ?_
 refine .V (ld1 rfl tO60 (cellB (off := 0) (k := 0) rfl rfl)) ?_
 refine .V bi0 ?_
 refine .V mv0 ?_
 refine .gv mv0 rfl rfl rfl rfl rfl rfl ?_
 refine .gv mv0 rfl rfl rfl rfl rfl rfl ?_
 refine .gv (fa rfl tF132_3) rfl rfl rfl rfl rfl rfl ?_
 refine .gv (ld1 rfl tO3 (cellB (off := 3) (k := 0) rfl rfl)) rfl rfl rfl rfl rfl rfl ?_
 refine .gv (ld1 rfl tO60 (cellB (off := 0) (k := 2) rfl rfl)) rfl rfl rfl rfl rfl rfl ?_
 refine .gv (fa rfl tF132_2) rfl rfl rfl rfl rfl rfl ?_
 refine .gv (ld1 rfl tO60 (cellB (off := 2) (k := 0) rfl rfl)) rfl rfl rfl rfl rfl rfl ?_
 refine .gv bi0 rfl rfl rfl rfl rfl rfl ?_
 refine .gv (fa rfl tF132_1) rfl rfl rfl rfl rfl rfl ?_
 refine .gv (ld1 rfl tO60 (cellB (off := 1) (k := 0) rfl rfl)) rfl rfl rfl rfl rfl rfl ?_
 refine .gv bi0 rfl rfl rfl rfl rfl rfl ?_
 refine .gv (bld (cs := #[iV 0, iV 2, .int .u32 3]) (pv := [(0, iV 0), (1, iV 2), (2, .int .u32 3)]) tB108 rfl rfl) rfl rfl rfl rfl rfl rfl ?_
 refine .gR rfl rfl rfl rfl ?_
 refine .yld (k := 1) (vs := [.agg #[iV 0, iV 2, .int .u32 3]]) q44 rfl rfl rfl rfl rfl (fun aG q46 => ?_)
 refine .sub (s' := [(5, .pointer (some pback)), (9, .pointer (some ps)), (38, .agg #[iV 0, iV 2, .int .u32 3])]) sb ?_
 refine .region ?_
 refine al tZ108 rfl (fun pe => ?_)
 refine st (p := pe) (off := 0) (k := 0) (vs := [iV 0, iV 2, .int .u32 3]) rfl rfl rfl (fun w => (tA108 w).2) rfl rfl rfl rfl ?_
 refine .nil ?_
 refine .begin_ (k := 2) q44 rfl ?_
 refine .block ?_
 refine .openA (s0 := [(5, .pointer (some pback)), (9, .pointer (some ps)), (10, .pointer (some pe))]) [0, 1, 2, 3, 4, 5, 6, 7, 8, 9, 10] [(0, .map (some bv)), (1, .pointer (some (pe.add 2))), (2, .int .u32 3), (3, .map (some bv)), (4, .pointer (some (pe.add 2))), (5, .int .u32 3), (6, .slice none 0 0), (7, .int .u32 0), (8, .pointer (some (pe.add 1))), (9, iV 2), (10, .agg #[.int .u32 0, iV 2])] (by kernel_rfl) sb [5, 9, 10] [] rfl (by kernel_rfl) ?_
 refine .step [11] 11 rfl (by kernel_rfl) (by kernel_rfl) (.v [] rfl rfl rfl rfl rfl rfl (fun _ => ld1 rfl tO159 (cellB (off := 0) (k := 9) rfl rfl)) (.v [] rfl rfl rfl rfl rfl rfl (fun _ => fa rfl tF108_2) (.v [(40, .pointer (some (pe.add 2)))] rfl rfl rfl rfl rfl rfl (fun _ => ld1 rfl tO60 (cellB (off := 2) (k := 0) rfl rfl)) (.v [] rfl rfl rfl rfl rfl rfl (fun _ => ld1 rfl tO159 (cellB (off := 0) (k := 9) rfl rfl)) (.v [] rfl rfl rfl rfl rfl rfl (fun _ => fa rfl tF108_2) (.v [(43, .pointer (some (pe.add 2)))] rfl rfl rfl rfl rfl rfl (fun _ => ld1 rfl tO60 (cellB (off := 2) (k := 0) rfl rfl)) (.v [(42, .map (some bv)), (44, .int .u32 3)] rfl rfl rfl rfl rfl rfl (fun _ => lkI (enc := fun v : Value => v) (m := ([] : List (Int × Value))) (k := 3) (.slice none 0 0) tMR159 rfl rfl (q := 10) rfl) (.v [] rfl rfl rfl rfl rfl rfl (fun _ => ld1 rfl tO60 (cellB (off := 0) (k := 5) rfl rfl)) (.v [] rfl rfl rfl rfl rfl rfl (fun _ => fa rfl tF108_1) (.v [(47, .pointer (some (pe.add 1)))] rfl rfl rfl rfl rfl rfl (fun _ => ld1 rfl tO3 (cellB (off := 1) (k := 0) rfl rfl)) (.v [(46, .int .u32 0), (48, iV 2)] rfl rfl rfl rfl rfl rfl (fun _ => bld (cs := #[.int .u32 0, iV 2]) (pv := [(0, .int .u32 0), (1, iV 2)]) tB165 rfl rfl) (.nil)))))))))))) (.cons [(49, .agg #[.int .u32 0, iV 2])] rfl rfl (fun sL hL => ?_) (.nil))
 refine bs2 (cs := #[.int .u32 0, iV 2]) (pv := [(0, .agg #[.int .u32 0, iV 2])]) tS163 rfl rfl (by decide) (by decide) rfl rfl rfl (fun a14 q47 => ?_)
 refine .nil ?_
 refine .ja (M := [10, 7, 9, 8]) (C' := [0, 1, 2, 3, 4, 5, 6]) (pre := [(11, .slice a14 1 1)]) [(5, .pointer (some pback)), (9, .pointer (some ps)), (10, .pointer (some pe))] [5, 9, 10] hL rfl rfl rfl rfl rfl sb rfl rfl (by kernel_rfl) ?_
 refine .step [12] 12 rfl (by kernel_rfl) (by kernel_rfl) (.v [] rfl rfl rfl rfl rfl rfl (fun _ => ld1 rfl tO159 (cellB (off := 0) (k := 10) rfl rfl)) (.v [] rfl rfl rfl rfl rfl rfl (fun _ => fa rfl tF108_2) (.v [(40, .pointer (some (pe.add 2)))] rfl rfl rfl rfl rfl rfl (fun _ => ld1 rfl tO60 (cellB (off := 2) (k := 1) rfl rfl)) (.v [] rfl rfl rfl rfl rfl rfl (fun _ => ld1 rfl tO159 (cellB (off := 0) (k := 10) rfl rfl)) (.v [] rfl rfl rfl rfl rfl rfl (fun _ => fa rfl tF108_2) (.v [(43, .pointer (some (pe.add 2)))] rfl rfl rfl rfl rfl rfl (fun _ => ld1 rfl tO60 (cellB (off := 2) (k := 1) rfl rfl)) (.v [(42, .map (some bv)), (44, .int .u32 3)] rfl rfl rfl rfl rfl rfl (fun _ => lkI (enc := fun v : Value => v) (m := ([] : List (Int × Value))) (k := 3) (.slice none 0 0) tMR159 rfl rfl (q := 11) rfl) (.nil)))))))) (.cons [(45, .slice none 0 0), (50, .slice a14 1 1)] rfl rfl (fun sL hL => ?_) (.nil))
 refine .nilSl 165 2 ?_
 refine app (k := 0) (news := [.int .u32 0, iV 2]) (cs' := [.int .u32 0, iV 2]) (nm := 1) tS163 rfl (by decide) rfl rfl rfl rfl (srcS (k := 1) rfl) (oneAll rfl) (by decide) (by decide) rfl rfl rfl (fun a15 c6 => ?_)
 refine .nil ?_
 refine .ja (M := [6, 3, 5, 4]) (C' := [0, 1, 2]) (pre := [(12, .slice a15 1 c6)]) [(5, .pointer (some pback)), (9, .pointer (some ps)), (10, .pointer (some pe))] [5, 9, 10] hL rfl rfl rfl rfl rfl sb rfl rfl (by kernel_rfl) ?_
 refine .step [13] 13 rfl (by kernel_rfl) (by kernel_rfl) (.v [] rfl rfl rfl rfl rfl rfl (fun _ => ld1 rfl tO159 (cellB (off := 0) (k := 11) rfl rfl)) (.v [] rfl rfl rfl rfl rfl rfl (fun _ => fa rfl tF108_2) (.v [(40, .pointer (some (pe.add 2)))] rfl rfl rfl rfl rfl rfl (fun _ => ld1 rfl tO60 (cellB (off := 2) (k := 2) rfl rfl)) (.nil)))) (.cons [(39, .map (some bv)), (41, .int .u32 3), (51, .slice a15 1 c6), (51, .slice a15 1 c6), (39, .map (some bv)), (40, .pointer (some (pe.add 2))), (41, .int .u32 3), (42, .map (some bv)), (43, .pointer (some (pe.add 2))), (44, .int .u32 3), (45, .slice none 0 0), (46, .int .u32 0), (47, .pointer (some (pe.add 1))), (48, iV 2), (49, .agg #[.int .u32 0, iV 2]), (50, .slice a14 1 1), (51, .slice a15 1 c6)] rfl rfl (fun sL hL => ?_) (.nil))
 refine muI (enc := fun v : Value => v) (.slice a15 1 c6) tMR159 rfl rfl rfl (q := 12) rfl ?_
 refine .KA [OwnSl 165 2 a15 1 c6 [.int .u32 0, iV 2], OwnSl 165 2 a14 1 1 [.int .u32 0, iV 2], Box pe [iV 0, iV 2, .int .u32 3], Box pback2 [.int .u32 0, .int .u32 3, .int .u32 0, iV 2], LA .busy none, Box ps2 [.int .u32 0], Box pw [.pointer (some pv3)], Box ps [.int .u32 0], Box pv4 [.slice none 0 0, .map (some bv3), iV 0], OwnMapI bv3 .u32 (fun v : Value => v) ([] : List (Int × Value)), OwnMapI bv2 .u32 (fun v : Value => v) ([(0, iV 1000000000)] : List (Int × Value)), Box pback [.map (some bv)], OwnMapI bv .u32 (fun v : Value => v) ([(3, .slice a15 1 c6)] : List (Int × Value)), MkA (D :: []), OwnSl 60 1 a8 2 c5 [.int .u32 0, .int .u32 3], Box pv [iV 0, iV 0]] ?_
 refine .nil ?_
 refine .jaN (M := [0, 2, 1]) (C' := []) (pre := []) [5, 9, 10] hL rfl rfl rfl rfl rfl (by kernel_rfl) ?_
 refine .last [(39, .map (some bv)), (40, .pointer (some (pe.add 2))), (41, .int .u32 3), (42, .map (some bv)), (43, .pointer (some (pe.add 2))), (44, .int .u32 3), (45, .slice none 0 0), (46, .int .u32 0), (47, .pointer (some (pe.add 1))), (48, iV 2), (49, .agg #[.int .u32 0, iV 2]), (50, .slice a14 1 1), (51, .slice a15 1 c6)] rfl (by kernel_rfl) (.nil) rfl ?_
 refine .blkN ?_
 refine .rdN (k := 4) q44 rfl q46 rfl ?_
 refine .gv (nt rfl) rfl rfl rfl rfl rfl rfl ?_
 refine .V (pkT rfl rfl rfl) ?_
 refine .nil (.seqN ?_)
 refine .cond rfl (fun e => absurd (e.symm.trans rfl) (by decide)) (fun _ => ?_)
 refine .skip (.blkN (.seqN (.region (.V bi0 ?_))))
 refine .V mv0 ?_
 refine .nil ?_
 refine .more ?_
 refine .sub (s' := [(0, .func (.yield l) #[] #[]), (2, .pointer (some ps2)), (9, .slice a7 1 c4), (10, iV 1), (11, iV 1)]) sb ?_
 refine .sel0 [0, 4, 5, 6, 7, 8, 9, 10, 11, 12, 13, 14, 15] (by decide) rfl ?_
 refine .KA [OwnSl 165 2 a15 1 c6 [.int .u32 0, iV 2], LA .ready none, Box ps2 [.int .u32 0], Box pw [.pointer (some pv3)], Box ps [.int .u32 0], Box pv4 [.slice none 0 0, .map (some bv3), iV 0], OwnMapI bv3 .u32 (fun v : Value => v) ([] : List (Int × Value)), OwnMapI bv2 .u32 (fun v : Value => v) ([(0, iV 1000000000)] : List (Int × Value)), Box pback [.map (some bv)], OwnMapI bv .u32 (fun v : Value => v) ([(3, .slice a15 1 c6)] : List (Int × Value)), MkA (D :: []), OwnSl 60 1 a8 2 c5 [.int .u32 0, .int .u32 3], Box pv [iV 0, iV 0]] ?_
 refine .seq (.region (.V bi0 ?_))
 refine .nil (.seqN (.seq ?_))
 refine .cond rfl (fun e => absurd (e.symm.trans rfl) (by decide)) (fun _ => ?_)
 refine .exit (.seqX (.seqX (.blkX ?_)))
 refine .res0 (.inr rfl) rfl (range_done (k := 1) q44 rfl q45 ?_)
 refine .KA [OwnSl 165 2 a15 1 c6 [.int .u32 0, iV 2], tru, Box ps2 [.int .u32 0], Box pw [.pointer (some pv3)], Box ps [.int .u32 0], Box pv4 [.slice none 0 0, .map (some bv3), iV 0], OwnMapI bv3 .u32 (fun v : Value => v) ([] : List (Int × Value)), OwnMapI bv2 .u32 (fun v : Value => v) ([(0, iV 1000000000)] : List (Int × Value)), Box pback [.map (some bv)], OwnMapI bv .u32 (fun v : Value => v) ([(3, .slice a15 1 c6)] : List (Int × Value)), MkA (D :: []), OwnSl 60 1 a8 2 c5 [.int .u32 0, .int .u32 3], Box pv [iV 0, iV 0]] ?_
 refine .blkN (.blkN (.seqN (.region (.V bi0 ?_))))
 refine .V mv0 ?_
 refine .nil ?_
 refine .more ?_
 refine .sub (s' := [(0, .pointer (some pv3)), (5, .pointer (some pback)), (6, .map (some bv2)), (7, .pointer (some pv4)), (19, .slice a8 2 c5), (20, iV 2), (21, iV 1)]) sb ?_
 refine .sel0 [0, 5, 6, 7, 8, 9, 10, 11, 12] (by decide) rfl ?_
 refine .KA [OwnSl 165 2 a15 1 c6 [.int .u32 0, iV 2], Box pv4 [.slice none 0 0, .map (some bv3), iV 0], OwnMapI bv3 .u32 (fun v : Value => v) ([] : List (Int × Value)), OwnMapI bv2 .u32 (fun v : Value => v) ([(0, iV 1000000000)] : List (Int × Value)), Box pback [.map (some bv)], OwnMapI bv .u32 (fun v : Value => v) ([(3, .slice a15 1 c6)] : List (Int × Value)), MkA (D :: []), OwnSl 60 1 a8 2 c5 [.int .u32 0, .int .u32 3], Box pv [iV 0, iV 0]] ?_
 refine .seq (.region (.V bi0 ?_))
 refine .nil (.seqN (.seq ?_))
 refine .cond rfl (fun _ => ?_) (fun e => absurd (e.symm.trans rfl) (by decide))
 refine .skip (.seqN (.seq (.block (.seq (.region (.V (ixS rfl rfl tS54 (k := 7) rfl (And.intro (by decide) (by decide))) ?_))))))
 refine .V (ld1 (v := .int .u32 3) rfl tO60 (cellS (k := 7) rfl rfl)) ?_
 refine al tZ60 rfl (fun ps3 => ?_)
 refine st (p := ps3) (off := 0) (k := 0) (vs := [.int .u32 3]) rfl rfl rfl (fun w => (tO60 w).2) rfl rfl rfl rfl ?_
 refine .nil (.seqN (.seq (.region (.V mv0 ?_))))
 refine .V (ld1 rfl tO60 (cellB (off := 0) (k := 0) rfl rfl)) ?_
 refine muI (enc := fun v : Value => v) (iV 1000000000) tMR141 rfl rfl rfl (q := 4) rfl ?_
 refine .nil (.seqN (.seq (.seq (.region (.V mv0 ?_)))))
 refine .V (ld1 rfl tO60 (cellB (off := 0) (k := 0) rfl rfl)) ?_
 refine .inl Tryz.func24 rfl Tryz.ntmps24 Tryz.call24 rfl rfl rfl rfl (fun a16 q48 => ?_)
 refine .KA [Box ps3 [.int .u32 3], OwnSl 165 2 a15 1 c6 [.int .u32 0, iV 2], Box pv4 [.slice none 0 0, .map (some bv3), iV 0], OwnMapI bv3 .u32 (fun v : Value => v) ([] : List (Int × Value)), OwnMapI bv2 .u32 (fun v : Value => v) ([(0, iV 1000000000), (3, iV 1000000000)] : List (Int × Value)), Box pback [.map (some bv)], OwnMapI bv .u32 (fun v : Value => v) ([(3, .slice a15 1 c6)] : List (Int × Value)), MkA (D :: []), OwnSl 60 1 a8 2 c5 [.int .u32 0, .int .u32 3], Box pv [iV 0, iV 0]] ?_
 refine .seq (.region (.V ag0 ?_))
 refine .nil (.seqN (.seq ?_))
 refine .openA (s0 := [(0, .pointer (some pv3)), (1, .int .u32 3)]) [0, 1, 2, 3, 4, 5, 6, 7, 8, 9, 10, 11] [(0, .int .u32 3), (1, .pointer (some pv3)), (2, .pointer (some pv3)), (3, .pointer (some (pv3.add 1))), (4, .int .u32 3), (5, .int .u32 3), (6, .pointer (some pv3)), (7, .pointer (some pv3)), (8, .pointer (some (pv3.add 1))), (9, .int .u32 3), (10, .bool true), (11, .bool true)] (by kernel_rfl) sb [0, 1] [] rfl (by kernel_rfl) ?_
 refine .last [(5, .int .u32 3), (6, .pointer (some pv3)), (7, .pointer (some pv3)), (8, .pointer (some (pv3.add 1))), (9, .int .u32 3), (10, .int .u32 3), (11, .pointer (some pv3)), (12, .pointer (some pv3)), (13, .pointer (some (pv3.add 1))), (14, .int .u32 3), (15, .bool true), (4, .bool true)] rfl (by kernel_rfl) (.v [] rfl rfl rfl rfl rfl rfl (fun _ => mv rfl) (.v [] rfl rfl rfl rfl rfl rfl (fun _ => mv rfl) (.v [(6, .pointer (some pv3))] rfl rfl rfl rfl rfl rfl (fun _ => nck rfl) (.v [(7, .pointer (some pv3))] rfl rfl rfl rfl rfl rfl (fun _ => fa rfl tF112_1) (.v [(8, .pointer (some (pv3.add 1)))] rfl rfl rfl rfl rfl rfl (fun _ => ld1 (v := .int .u32 3) rfl tO60 (cellH (CellsAt.mono (FH.le_refl _) q35 1 _ rfl))) (.v [(5, .int .u32 3), (9, .int .u32 3)] rfl rfl rfl rfl rfl rfl (fun _ => bi rfl rfl rfl) (.v [] rfl rfl rfl rfl rfl rfl (fun _ => mv rfl) (.v [(11, .pointer (some pv3))] rfl rfl rfl rfl rfl rfl (fun _ => nck rfl) (.v [(12, .pointer (some pv3))] rfl rfl rfl rfl rfl rfl (fun _ => fa rfl tF112_1) (.v [(13, .pointer (some (pv3.add 1)))] rfl rfl rfl rfl rfl rfl (fun _ => ld1 (v := .int .u32 3) rfl tO60 (cellH (CellsAt.mono (FH.le_refl _) q35 1 _ rfl))) (.v [(10, .int .u32 3), (14, .int .u32 3)] rfl rfl rfl rfl rfl rfl (fun _ => bi rfl rfl rfl) (.v [(15, .bool true), (5, .int .u32 3), (6, .pointer (some pv3)), (7, .pointer (some pv3)), (8, .pointer (some (pv3.add 1))), (9, .int .u32 3), (10, .int .u32 3), (11, .pointer (some pv3)), (12, .pointer (some pv3)), (13, .pointer (some (pv3.add 1))), (14, .int .u32 3), (15, .bool true)] rfl rfl rfl rfl rfl rfl (fun _ => asg rfl) (.nil))))))))))))) rfl ?_
 refine .seqN (.ret ?_)
 refine .res1 rfl (rvT rfl) (inl_back (v := .bool true) q48 rfl ?_)
 refine .nil (.seqN ?_)
 refine .cond rfl (fun _ => ?_) (fun e => absurd (e.symm.trans rfl) (by decide))
 refine .seq (.region (.V mv0 ?_))
 refine .V (ld1 rfl tO60 (cellB (off := 0) (k := 0) rfl rfl)) ?_
 refine muI (enc := fun v : Value => v) (iV 0) tMR141 rfl rfl rfl (q := 4) rfl ?_
 refine .nil (.seqN (.region (.V mv0 ?_)))
 refine .V (ld1 rfl tO60 (cellB (off := 0) (k := 0) rfl rfl)) ?_
 refine .inl Tryz.func100 rfl Tryz.ntmps100 Tryz.call100 rfl rfl rfl rfl (fun a17 q49 => ?_)
 refine .KA [Box ps3 [.int .u32 3], OwnSl 165 2 a15 1 c6 [.int .u32 0, iV 2], Box pv4 [.slice none 0 0, .map (some bv3), iV 0], OwnMapI bv3 .u32 (fun v : Value => v) ([] : List (Int × Value)), OwnMapI bv2 .u32 (fun v : Value => v) ([(0, iV 1000000000), (3, iV 0)] : List (Int × Value)), Box pback [.map (some bv)], OwnMapI bv .u32 (fun v : Value => v) ([(3, .slice a15 1 c6)] : List (Int × Value)), MkA (D :: []), OwnSl 60 1 a8 2 c5 [.int .u32 0, .int .u32 3], Box pv [iV 0, iV 0]] ?_
 refine .seq (.region (.V mv0 ?_))
 refine .V (nck rfl) ?_
 refine .V (fa rfl tF195_2) ?_
 refine .V (ld1 rfl tO3 (cellB (off := 2) (k := 2) rfl rfl)) ?_
 refine .V bi0 ?_
 refine .V (nck rfl) ?_
 refine .V (fa rfl tF195_2) ?_
 refine st (p := pv4) (off := 2) (k := 2) (vs := [iV 1]) rfl rfl rfl (fun w => (tO3 w).2) rfl rfl rfl rfl ?_
 refine .nil (.seqN (.seq (.seq (.region (.V mv0 ?_)))))
 refine .V (nck rfl) ?_
 refine .V (fa rfl tF195_1) ?_
 refine .V (ld1 rfl tO191 (cellB (off := 1) (k := 2) rfl rfl)) ?_
 refine .V mv0 ?_
 refine .V (lkI2 (enc := fun v : Value => v) (m := ([] : List (Int × Value))) (k := 3) (.pointer none) tMR191 rfl rfl (q := 3) rfl) ?_
 refine .V mv0 ?_
 refine .V (ext rfl rfl) ?_
 refine .V (ext rfl rfl) ?_
 refine .V ag0 ?_
 refine .V ag0 ?_
 refine .nil (.seqN (.seq (.region (.V mv0 ?_))))
 refine .nil (.seqN ?_)
 refine .cond rfl (fun e => absurd (e.symm.trans rfl) (by decide)) (fun _ => ?_)
 refine .skip (.seqN (.seq (.region (.V mv0 ?_))))
 refine .V mv0 ?_
 refine .V mv0 ?_
 refine .V (nck rfl) ?_
 refine .V (fa rfl tF195_2) ?_
 refine .V (ld1 rfl tO3 (cellB (off := 2) (k := 2) rfl rfl)) ?_
 refine .V (bld (cs := #[.int .u32 3, iV 0, iV 1, iV 0]) (pv := [(0, .int .u32 3), (1, iV 0), (2, iV 1)]) tB199 rfl rfl) ?_
 refine bx (vs := [.int .u32 3, iV 0, iV 1, iV 0]) rfl rfl rfl (fun pv5 => ?_)
 refine .V ag0 ?_
 refine .nil (.seqN (.seq (.region (.V mv0 ?_))))
 refine .V (nck rfl) ?_
 refine .V (fa rfl tF195_1) ?_
 refine .V (ld1 rfl tO191 (cellB (off := 1) (k := 3) rfl rfl)) ?_
 refine .V mv0 ?_
 refine .V mv0 ?_
 refine muI (enc := fun v : Value => v) (.pointer (some pv5)) tMR191 rfl rfl rfl (q := 4) rfl ?_
 refine .nil (.seqN (.region (.V mv0 ?_)))
 refine .V (nck rfl) ?_
 refine .V (fa rfl tF195_0) ?_
 refine .V (mkI tC201 rfl) ?_
 refine .V mv0 ?_
 refine .V (mkI tC196 rfl) ?_
 refine .inl Tryz.func131 rfl Tryz.ntmps131 Tryz.call131 rfl rfl rfl rfl (fun a18 q50 => ?_)
 refine .KA [Box pv5 [.int .u32 3, iV 0, iV 1, iV 0], Box ps3 [.int .u32 3], OwnSl 165 2 a15 1 c6 [.int .u32 0, iV 2], Box pv4 [.slice none 0 0, .map (some bv3), iV 1], OwnMapI bv3 .u32 (fun v : Value => v) ([(3, .pointer (some pv5))] : List (Int × Value)), OwnMapI bv2 .u32 (fun v : Value => v) ([(0, iV 1000000000), (3, iV 0)] : List (Int × Value)), Box pback [.map (some bv)], OwnMapI bv .u32 (fun v : Value => v) ([(3, .slice a15 1 c6)] : List (Int × Value)), MkA (D :: []), OwnSl 60 1 a8 2 c5 [.int .u32 0, .int .u32 3], Box pv [iV 0, iV 0]] ?_
 refine .seq (.region (.V mv0 ?_))
 refine .V mv0 ?_
 refine .inlI Tryz.func171 rfl Tryz.ntmps171 Tryz.call171 tm201_Push rfl rfl rfl (fun a19 q51 => ?_)
 refine .KA [Box pv5 [.int .u32 3, iV 0, iV 1, iV 0], Box ps3 [.int .u32 3], OwnSl 165 2 a15 1 c6 [.int .u32 0, iV 2], Box pv4 [.slice none 0 0, .map (some bv3), iV 1], OwnMapI bv3 .u32 (fun v : Value => v) ([(3, .pointer (some pv5))] : List (Int × Value)), OwnMapI bv2 .u32 (fun v : Value => v) ([(0, iV 1000000000), (3, iV 0)] : List (Int × Value)), Box pback [.map (some bv)], OwnMapI bv .u32 (fun v : Value => v) ([(3, .slice a15 1 c6)] : List (Int × Value)), MkA (D :: []), OwnSl 60 1 a8 2 c5 [.int .u32 0, .int .u32 3], Box pv [iV 0, iV 0]] ?_
 refine .seq (.region (.V mv0 ?_))
 refine .V (tas tC196 rfl) ?_
 refine .V ag0 ?_
 refine .nil (.seqN (.seq (.region (.V mv0 ?_))))
 refine .V mv0 ?_
 refine .V (nck rfl) ?_
 refine .V (ld1 rfl tO193 (cellB (off := 0) (k := 3) rfl rfl)) ?_
 refine .V (ln rfl tS193.is) ?_
 refine .V (nck rfl) ?_
 refine .V (fa rfl tF199_3) ?_
 refine st (p := pv5) (off := 3) (k := 0) (vs := [iV 0]) rfl rfl rfl (fun w => (tO3 w).2) rfl rfl rfl rfl ?_
 refine .nil (.seqN (.region (.V mv0 ?_)))
 refine .V mv0 ?_
 refine .V (nck rfl) ?_
 refine .V (ld1 rfl tO193 (cellB (off := 0) (k := 3) rfl rfl)) ?_
 refine .V mv0 ?_
 refine bs2 (cs := #[.pointer (some pv5)]) (pv := [(0, .pointer (some pv5))]) tS193 rfl rfl (by decide) (by decide) rfl rfl rfl (fun a20 q52 => ?_)
 refine .nilSl 196 1 ?_
 refine app (k := 0) (news := [.pointer (some pv5)]) (cs' := [.pointer (some pv5)]) (nm := 1) tS193 rfl (by decide) rfl rfl rfl rfl (srcS (k := 1) rfl) (oneAll rfl) (by decide) (by decide) rfl rfl rfl (fun a21 c7 => ?_)
 refine .V (nck rfl) ?_
 refine st (p := pv4) (off := 0) (k := 5) (vs := [.slice a21 1 c7]) rfl rfl rfl (fun w => (tO193 w).2) rfl rfl rfl rfl ?_
 refine .nil ?_
 refine .res0 (.inr rfl) rfl (inl_back (v := .tuple #[]) q51 rfl ?_)
 refine .nil (.seqN (.region (.V mv0 ?_)))
 refine .V mv0 ?_
 refine .inlV Tryz.func167 rfl Tryz.ntmps167 Tryz.call167 tm201_Len rfl (cellB (off := 0) (k := 5) rfl rfl) rfl rfl (fun a22 q53 => ?_)
 refine .sel0 [0, 2, 3, 4, 5, 6, 7, 8, 9, 10, 11, 12] (by decide) rfl ?_
 refine .KA [OwnSl 196 1 a21 1 c7 [.pointer (some pv5)], Box pv5 [.int .u32 3, iV 0, iV 1, iV 0], Box ps3 [.int .u32 3], OwnSl 165 2 a15 1 c6 [.int .u32 0, iV 2], Box pv4 [.slice a21 1 c7, .map (some bv3), iV 1], OwnMapI bv3 .u32 (fun v : Value => v) ([(3, .pointer (some pv5))] : List (Int × Value)), OwnMapI bv2 .u32 (fun v : Value => v) ([(0, iV 1000000000), (3, iV 0)] : List (Int × Value)), Box pback [.map (some bv)], OwnMapI bv .u32 (fun v : Value => v) ([(3, .slice a15 1 c6)] : List (Int × Value)), MkA (D :: []), OwnSl 60 1 a8 2 c5 [.int .u32 0, .int .u32 3], Box pv [iV 0, iV 0]] ?_
 refine .seq (.region (.V ag0 ?_))
 refine .nil (.seqN (.seq (.region (.V mv0 ?_))))
 refine .V (ln rfl tS193.is) ?_
 refine .V ag0 ?_
 refine .nil (.seqN (.ret ?_))
 refine .res1 rfl (rvT rfl) (inl_back (v := iV 1) q53 rfl ?_)
 refine .V bi0 ?_
 refine .inl Tryz.func146 rfl Tryz.ntmps146 Tryz.call146 rfl rfl rfl rfl (fun a23 q54 => ?_)
 refine .KA [OwnSl 196 1 a21 1 c7 [.pointer (some pv5)], Box pv5 [.int .u32 3, iV 0, iV 1, iV 0], Box ps3 [.int .u32 3], OwnSl 165 2 a15 1 c6 [.int .u32 0, iV 2], Box pv4 [.slice a21 1 c7, .map (some bv3), iV 1], OwnMapI bv3 .u32 (fun v : Value => v) ([(3, .pointer (some pv5))] : List (Int × Value)), OwnMapI bv2 .u32 (fun v : Value => v) ([(0, iV 1000000000), (3, iV 0)] : List (Int × Value)), Box pback [.map (some bv)], OwnMapI bv .u32 (fun v : Value => v) ([(3, .slice a15 1 c6)] : List (Int × Value)), MkA (D :: []), OwnSl 60 1 a8 2 c5 [.int .u32 0, .int .u32 3], Box pv [iV 0, iV 0]] ?_
 refine .block ?_
 refine .rounds 90 ?_
 refine .block (.seq (.region (.V mv0 ?_)))
 refine .V bi0 ?_
 refine .V (bq rfl rfl (by decide)) ?_
 refine .V ag0 ?_
 refine .nil (.seqN (.seq (.seq (.region (.V mv0 ?_)))))
 refine .V mv0 ?_
 refine .V bi0 ?_
 refine .V mv0 ?_
 refine .gS rfl rfl rfl rfl rfl rfl ?_
 refine .gS rfl rfl rfl rfl rfl rfl ?_
 refine .gS rfl rfl rfl rfl rfl rfl ?_
 refine .gS rfl rfl rfl rfl rfl rfl ?_
 refine .gS rfl rfl rfl rfl rfl rfl ?_
 refine .V (pkT rfl rfl rfl) ?_
 refine .nil (.seqN ?_)
 refine .cond rfl (fun _ => ?_) (fun e => absurd (e.symm.trans rfl) (by decide))
 refine .exit (.seqX ?_)
 refine .blkY rfl ?_
 refine .seqX (.blkX ?_)
 refine .res0 (.inr rfl) rfl (inl_back (v := .tuple #[]) q54 rfl ?_)
 refine .nil ?_
 refine .res0 (.inr rfl) rfl (inl_back (v := .tuple #[]) q50 rfl ?_)
 refine .nil ?_
 refine .res0 (.inr rfl) rfl (inl_back (v := .tuple #[]) q49 rfl ?_)
 refine .nil (.seqN (.seq (.region (.V mv0 ?_))))
 refine .V (ld1 rfl tO60 (cellB (off := 0) (k := 2) rfl rfl)) ?_
 refine .inl Tryz.func101 rfl Tryz.ntmps101 Tryz.call101 rfl rfl rfl rfl (fun a24 q55 => ?_)
 refine .KA [OwnSl 196 1 a21 1 c7 [.pointer (some pv5)], Box pv5 [.int .u32 3, iV 0, iV 1, iV 0], Box ps3 [.int .u32 3], OwnSl 165 2 a15 1 c6 [.int .u32 0, iV 2], Box pv4 [.slice a21 1 c7, .map (some bv3), iV 1], OwnMapI bv3 .u32 (fun v : Value => v) ([(3, .pointer (some pv5))] : List (Int × Value)), OwnMapI bv2 .u32 (fun v : Value => v) ([(0, iV 1000000000), (3, iV 0)] : List (Int × Value)), Box pback [.map (some bv)], OwnMapI bv .u32 (fun v : Value => v) ([(3, .slice a15 1 c6)] : List (Int × Value)), MkA (D :: []), OwnSl 60 1 a8 2 c5 [.int .u32 0, .int .u32 3], Box pv [iV 0, iV 0]] ?_
 refine .seq (.region ?_)
 refine bx (vs := [.pointer (some pv3)]) rfl rfl rfl (fun pw2 => ?_)
 refine bx (vs := [.int .u32 3]) rfl rfl rfl (fun ps4 => ?_)
 refine .V ag0 ?_
 refine .nil (.seqN (.seq (.region (.V (mkf (vf := []) (vc := [.pointer (some pw2), .pointer (some ps4)]) rfl rfl) ?_))))
 refine .V ag0 ?_
 refine .nil (.seqN (.ret ?_))
 refine .res1 rfl (rvT rfl) (inl_back (v := .func (.func 132) #[] #[.pointer (some pw2), .pointer (some ps4)]) q55 rfl ?_)
 refine .nil (.seqN (.block ?_))
 refine .sub (s' := [(0, .pointer (some pv3)), (5, .pointer (some pback)), (6, .map (some bv2)), (7, .pointer (some pv4)), (9, .pointer (some ps3)), (19, .slice a8 2 c5), (20, iV 2), (21, iV 1), (37, .func (.func 132) #[] #[.pointer (some pw2), .pointer (some ps4)])]) sb ?_
 refine .rangeF (k := 11) (caps := [.pointer (some pw2), .pointer (some ps4)]) rfl rfl Tryz.func132 rfl Tryz.ntmps132 rfl Tryz.call132 (fun l2 D2 LA2 a25 q56 q57 => ?_)
 refine .KA [LA2 .ready none, Box ps4 [.int .u32 3], Box pw2 [.pointer (some pv3)], OwnSl 196 1 a21 1 c7 [.pointer (some pv5)], Box pv5 [.int .u32 3, iV 0, iV 1, iV 0], Box ps3 [.int .u32 3], OwnSl 165 2 a15 1 c6 [.int .u32 0, iV 2], Box pv4 [.slice a21 1 c7, .map (some bv3), iV 1], OwnMapI bv3 .u32 (fun v : Value => v) ([(3, .pointer (some pv5))] : List (Int × Value)), OwnMapI bv2 .u32 (fun v : Value => v) ([(0, iV 1000000000), (3, iV 0)] : List (Int × Value)), Box pback [.map (some bv)], OwnMapI bv .u32 (fun v : Value => v) ([(3, .slice a15 1 c6)] : List (Int × Value)), MkA (D2 :: D :: []), OwnSl 60 1 a8 2 c5 [.int .u32 0, .int .u32 3], Box pv [iV 0, iV 0]] ?_
 refine .seq (.region (.V (ld1 rfl tO53 (cellB (off := 0) (k := 2) rfl rfl)) ?_))
 refine .V (nck rfl) ?_
 refine .V (fa rfl tF112_2) ?_
 refine .V (ld1 (v := .slice a7 1 c4) rfl tO110 (cellH (CellsAt.mono (FH.le_refl _) q35 2 _ rfl))) ?_
 refine .V (ln rfl tS110.is) ?_
 refine .V mv0 ?_
 refine .nil (.seqN (.block ?_))
 refine .rounds 90 ?_
 refine .seq (.region (.V bi0 ?_))
 refine .nil (.seqN (.seq ?_))
 refine .cond rfl (fun _ => ?_) (fun e => absurd (e.symm.trans rfl) (by decide))
 refine .skip (.seqN (.seq (.block (.seq (.region (.V mv0 ?_))))))
 refine .V (ix rfl rfl tS110 (q34.ne (by decide) (inb_pos (show inb ([(⟨0, 3, 0, 2⟩ : Masks)] : List Masks) (0 : Int) from And.intro (by decide) (by decide)))) (show inb ([(⟨0, 3, 0, 2⟩ : Masks)] : List Masks) (0 : Int) from And.intro (by decide) (by decide))) ?_
 refine .V (ldA (cs := [.int .u32 0, .int .u32 3, .int .u32 0, iV 2]) rfl tA132 rfl (cellsH ((q34.mono (le2)).elemF (show inb ([(⟨0, 3, 0, 2⟩ : Masks)] : List Masks) (0 : Int) from And.intro (by decide) (by decide)) (by decide)))) ?_
 refine al tZ132 rfl (fun pback3 => ?_)
 refine .V ag0 ?_
 refine st (p := pback3) (off := 0) (k := 0) (vs := [.int .u32 0, .int .u32 3, .int .u32 0, iV 2]) rfl rfl rfl (fun w => (tA132 w).2) rfl rfl rfl rfl ?_
 refine .nil (.seqN (.seq (.region (.V (ld1 rfl tO60 (cellB (off := 0) (k := 2) rfl rfl)) ?_))))
 refine .V (fa rfl tF132_0) ?_
 refine .V (ld1 rfl tO60 (cellB (off := 0) (k := 0) rfl rfl)) ?_
 refine .V bi0 ?_
 refine .V (fa rfl tF132_0) ?_
 refine .V (ld1 rfl tO60 (cellB (off := 0) (k := 0) rfl rfl)) ?_
 refine .V bi0 ?_
 refine .V mv0 ?_
 refine .gv mv0 rfl rfl rfl rfl rfl rfl ?_
 refine .gv mv0 rfl rfl rfl rfl rfl rfl ?_
 refine .gv (fa rfl tF132_3) rfl rfl rfl rfl rfl rfl ?_
 refine .gv (ld1 rfl tO3 (cellB (off := 3) (k := 0) rfl rfl)) rfl rfl rfl rfl rfl rfl ?_
 refine .gv (ld1 rfl tO60 (cellB (off := 0) (k := 2) rfl rfl)) rfl rfl rfl rfl rfl rfl ?_
 refine .gv (fa rfl tF132_2) rfl rfl rfl rfl rfl rfl ?_
 refine .gv (ld1 rfl tO60 (cellB (off := 2) (k := 0) rfl rfl)) rfl rfl rfl rfl rfl rfl ?_
 refine .gv bi0 rfl rfl rfl rfl rfl rfl ?_
 refine .gv (fa rfl tF132_1) rfl rfl rfl rfl rfl rfl ?_
 refine .gv (ld1 rfl tO60 (cellB (off := 1) (k := 0) rfl rfl)) rfl rfl rfl rfl rfl rfl ?_
 refine .gv bi0 rfl rfl rfl rfl rfl rfl ?_
 refine .gv (bld (cs := #[iV 0, iV 2, .int .u32 3]) (pv := [(0, iV 0), (1, iV 2), (2, .int .u32 3)]) tB108 rfl rfl) rfl rfl rfl rfl rfl rfl ?_
 refine .gR rfl rfl rfl rfl ?_
 refine .yld (k := 1) (vs := [.agg #[iV 0, iV 2, .int .u32 3]]) q56 rfl rfl rfl rfl rfl (fun aG2 q58 => ?_)
 refine .sub (s' := [(5, .pointer (some pback)), (9, .pointer (some ps3)), (38, .agg #[iV 0, iV 2, .int .u32 3])]) sb ?_
 refine .region ?_
 refine al tZ108 rfl (fun pe2 => ?_)
 refine st (p := pe2) (off := 0) (k := 0) (vs := [iV 0, iV 2, .int .u32 3]) rfl rfl rfl (fun w => (tA108 w).2) rfl rfl rfl rfl ?_
 refine .nil ?_
 refine .begin_ (k := 2) q56 rfl ?_
 refine .block ?_
 refine .openA (s0 := [(5, .pointer (some pback)), (9, .pointer (some ps3)), (10, .pointer (some pe2))]) [0, 1, 2, 3, 4, 5, 6, 7, 8, 9, 10] [(0, .map (some bv)), (1, .pointer (some (pe2.add 2))), (2, .int .u32 3), (3, .map (some bv)), (4, .pointer (some (pe2.add 2))), (5, .int .u32 3), (6, .slice a15 1 c6), (7, .int .u32 3), (8, .pointer (some (pe2.add 1))), (9, iV 2), (10, .agg #[.int .u32 3, iV 2])] (by kernel_rfl) sb [5, 9, 10] [] rfl (by kernel_rfl) ?_
 refine .step [11] 11 rfl (by kernel_rfl) (by kernel_rfl) (.v [] rfl rfl rfl rfl rfl rfl (fun _ => ld1 rfl tO159 (cellB (off := 0) (k := 12) rfl rfl)) (.v [] rfl rfl rfl rfl rfl rfl (fun _ => fa rfl tF108_2) (.v [(40, .pointer (some (pe2.add 2)))] rfl rfl rfl rfl rfl rfl (fun _ => ld1 rfl tO60 (cellB (off := 2) (k := 0) rfl rfl)) (.v [] rfl rfl rfl rfl rfl rfl (fun _ => ld1 rfl tO159 (cellB (off := 0) (k := 12) rfl rfl)) (.v [] rfl rfl rfl rfl rfl rfl (fun _ => fa rfl tF108_2) (.v [(43, .pointer (some (pe2.add 2)))] rfl rfl rfl rfl rfl rfl (fun _ => ld1 rfl tO60 (cellB (off := 2) (k := 0) rfl rfl)) (.v [(42, .map (some bv)), (44, .int .u32 3)] rfl rfl rfl rfl rfl rfl (fun _ => lkI (enc := fun v : Value => v) (m := ([(3, .slice a15 1 c6)] : List (Int × Value))) (k := 3) (.slice none 0 0) tMR159 rfl rfl (q := 13) rfl) (.v [] rfl rfl rfl rfl rfl rfl (fun _ => ld1 rfl tO60 (cellB (off := 0) (k := 7) rfl rfl)) (.v [] rfl rfl rfl rfl rfl rfl (fun _ => fa rfl tF108_1) (.v [(47, .pointer (some (pe2.add 1)))] rfl rfl rfl rfl rfl rfl (fun _ => ld1 rfl tO3 (cellB (off := 1) (k := 0) rfl rfl)) (.v [(46, .int .u32 3), (48, iV 2)] rfl rfl rfl rfl rfl rfl (fun _ => bld (cs := #[.int .u32 3, iV 2]) (pv := [(0, .int .u32 3), (1, iV 2)]) tB165 rfl rfl) (.nil)))))))))))) (.cons [(49, .agg #[.int .u32 3, iV 2])] rfl rfl (fun sL hL => ?_) (.nil))
 refine bs2 (cs := #[.int .u32 3, iV 2]) (pv := [(0, .agg #[.int .u32 3, iV 2])]) tS163 rfl rfl (by decide) (by decide) rfl rfl rfl (fun a26 q59 => ?_)
 refine .nil ?_
 refine .ja (M := [10, 7, 9, 8]) (C' := [0, 1, 2, 3, 4, 5, 6]) (pre := [(11, .slice a26 1 1)]) [(5, .pointer (some pback)), (9, .pointer (some ps3)), (10, .pointer (some pe2))] [5, 9, 10] hL rfl rfl rfl rfl rfl sb rfl rfl (by kernel_rfl) ?_
 refine .step [12] 12 rfl (by kernel_rfl) (by kernel_rfl) (.v [] rfl rfl rfl rfl rfl rfl (fun _ => ld1 rfl tO159 (cellB (off := 0) (k := 13) rfl rfl)) (.v [] rfl rfl rfl rfl rfl rfl (fun _ => fa rfl tF108_2) (.v [(40, .pointer (some (pe2.add 2)))] rfl rfl rfl rfl rfl rfl (fun _ => ld1 rfl tO60 (cellB (off := 2) (k := 1) rfl rfl)) (.v [] rfl rfl rfl rfl rfl rfl (fun _ => ld1 rfl tO159 (cellB (off := 0) (k := 13) rfl rfl)) (.v [] rfl rfl rfl rfl rfl rfl (fun _ => fa rfl tF108_2) (.v [(43, .pointer (some (pe2.add 2)))] rfl rfl rfl rfl rfl rfl (fun _ => ld1 rfl tO60 (cellB (off := 2) (k := 1) rfl rfl)) (.v [(42, .map (some bv)), (44, .int .u32 3)] rfl rfl rfl rfl rfl rfl (fun _ => lkI (enc := fun v : Value => v) (m := ([(3, .slice a15 1 c6)] : List (Int × Value))) (k := 3) (.slice none 0 0) tMR159 rfl rfl (q := 14) rfl) (.nil)))))))) (.cons [(45, .slice a15 1 c6), (50, .slice a26 1 1)] rfl rfl (fun sL hL => ?_) (.nil))
 refine app (k := 9) (news := [.int .u32 3, iV 2]) (cs' := [.int .u32 0, iV 2, .int .u32 3, iV 2]) (nm := 2) tS163 rfl (by decide) rfl rfl rfl rfl (srcS (k := 0) rfl) (oneAll rfl) (by decide) (by decide) rfl rfl rfl (fun a27 c8 => ?_)
 refine .nil ?_
 refine .ja (M := [6, 3, 5, 4]) (C' := [0, 1, 2]) (pre := [(12, .slice a27 2 c8)]) [(5, .pointer (some pback)), (9, .pointer (some ps3)), (10, .pointer (some pe2))] [5, 9, 10] hL rfl rfl rfl rfl rfl sb rfl rfl (by kernel_rfl) ?_
 refine .step [13] 13 rfl (by kernel_rfl) (by kernel_rfl) (.v [] rfl rfl rfl rfl rfl rfl (fun _ => ld1 rfl tO159 (cellB (off := 0) (k := 13) rfl rfl)) (.v [] rfl rfl rfl rfl rfl rfl (fun _ => fa rfl tF108_2) (.v [(40, .pointer (some (pe2.add 2)))] rfl rfl rfl rfl rfl rfl (fun _ => ld1 rfl tO60 (cellB (off := 2) (k := 1) rfl rfl)) (.nil)))) (.cons [(39, .map (some bv)), (41, .int .u32 3), (51, .slice a27 2 c8), (51, .slice a27 2 c8), (39, .map (some bv)), (40, .pointer (some (pe2.add 2))), (41, .int .u32 3), (42, .map (some bv)), (43, .pointer (some (pe2.add 2))), (44, .int .u32 3), (45, .slice a15 1 c6), (46, .int .u32 3), (47, .pointer (some (pe2.add 1))), (48, iV 2), (49, .agg #[.int .u32 3, iV 2]), (50, .slice a26 1 1), (51, .slice a27 2 c8)] rfl rfl (fun sL hL => ?_) (.nil))
 refine muI (enc := fun v : Value => v) (.slice a27 2 c8) tMR159 rfl rfl rfl (q := 14) rfl ?_
 refine .nil ?_
 refine .jaN (M := [0, 2, 1]) (C' := []) (pre := []) [5, 9, 10] hL rfl rfl rfl rfl rfl (by kernel_rfl) ?_
 refine .last [(39, .map (some bv)), (40, .pointer (some (pe2.add 2))), (41, .int .u32 3), (42, .map (some bv)), (43, .pointer (some (pe2.add 2))), (44, .int .u32 3), (45, .slice a15 1 c6), (46, .int .u32 3), (47, .pointer (some (pe2.add 1))), (48, iV 2), (49, .agg #[.int .u32 3, iV 2]), (50, .slice a26 1 1), (51, .slice a27 2 c8)] rfl (by kernel_rfl) (.nil) rfl ?_
 refine .blkN ?_
 refine .rdN (k := 3) q56 rfl q58 rfl ?_
 refine .KA [OwnSl 165 2 a26 1 1 [.int .u32 3, iV 2], Box pe2 [iV 0, iV 2, .int .u32 3], Box pback3 [.int .u32 0, .int .u32 3, .int .u32 0, iV 2], LA2 .ready none, Box ps4 [.int .u32 3], Box pw2 [.pointer (some pv3)], OwnSl 196 1 a21 1 c7 [.pointer (some pv5)], Box pv5 [.int .u32 3, iV 0, iV 1, iV 0], Box ps3 [.int .u32 3], OwnSl 165 2 a27 2 c8 [.int .u32 0, iV 2, .int .u32 3, iV 2], Box pv4 [.slice a21 1 c7, .map (some bv3), iV 1], OwnMapI bv3 .u32 (fun v : Value => v) ([(3, .pointer (some pv5))] : List (Int × Value)), OwnMapI bv2 .u32 (fun v : Value => v) ([(0, iV 1000000000), (3, iV 0)] : List (Int × Value)), Box pback [.map (some bv)], OwnMapI bv .u32 (fun v : Value => v) ([(3, .slice a27 2 c8)] : List (Int × Value)), MkA (D2 :: D :: []), OwnSl 60 1 a8 2 c5 [.int .u32 0, .int .u32 3], Box pv [iV 0, iV 0]] ?_
 refine .gv (nt rfl) rfl rfl rfl rfl rfl rfl ?_
 refine .V (pkT rfl rfl rfl) ?_
 refine .nil (.seqN ?_)
 refine .cond rfl (fun e => absurd (e.symm.trans rfl) (by decide)) (fun _ => ?_)
 refine .skip (.blkN (.seqN (.region (.V bi0 ?_))))
 refine .V mv0 ?_
 refine .nil ?_
 refine .more ?_
 refine .sub (s' := [(0, .func (.yield l2) #[] #[]), (2, .pointer (some ps4)), (9, .slice a7 1 c4), (10, iV 1), (11, iV 1)]) sb ?_
 refine .sel0 [3, 4, 5, 6, 7, 8, 9, 10, 11, 12, 13, 14, 15, 16, 17] (by decide) rfl ?_
 refine .KA [LA2 .ready none, Box ps4 [.int .u32 3], Box pw2 [.pointer (some pv3)], OwnSl 196 1 a21 1 c7 [.pointer (some pv5)], Box pv5 [.int .u32 3, iV 0, iV 1, iV 0], Box ps3 [.int .u32 3], OwnSl 165 2 a27 2 c8 [.int .u32 0, iV 2, .int .u32 3, iV 2], Box pv4 [.slice a21 1 c7, .map (some bv3), iV 1], OwnMapI bv3 .u32 (fun v : Value => v) ([(3, .pointer (some pv5))] : List (Int × Value)), OwnMapI bv2 .u32 (fun v : Value => v) ([(0, iV 1000000000), (3, iV 0)] : List (Int × Value)), Box pback [.map (some bv)], OwnMapI bv .u32 (fun v : Value => v) ([(3, .slice a27 2 c8)] : List (Int × Value)), MkA (D2 :: D :: []), OwnSl 60 1 a8 2 c5 [.int .u32 0, .int .u32 3], Box pv [iV 0, iV 0]] ?_
 refine .seq (.region (.V bi0 ?_))
 refine .nil (.seqN (.seq ?_))
 refine .cond rfl (fun e => absurd (e.symm.trans rfl) (by decide)) (fun _ => ?_)
 refine .exit (.seqX (.seqX (.blkX ?_)))
 refine .res0 (.inr rfl) rfl (range_done (k := 0) q56 rfl q57 ?_)
 refine .KA [tru, Box ps4 [.int .u32 3], Box pw2 [.pointer (some pv3)], OwnSl 196 1 a21 1 c7 [.pointer (some pv5)], Box pv5 [.int .u32 3, iV 0, iV 1, iV 0], Box ps3 [.int .u32 3], OwnSl 165 2 a27 2 c8 [.int .u32 0, iV 2, .int .u32 3, iV 2], Box pv4 [.slice a21 1 c7, .map (some bv3), iV 1], OwnMapI bv3 .u32 (fun v : Value => v) ([(3, .pointer (some pv5))] : List (Int × Value)), OwnMapI bv2 .u32 (fun v : Value => v) ([(0, iV 1000000000), (3, iV 0)] : List (Int × Value)), Box pback [.map (some bv)], OwnMapI bv .u32 (fun v : Value => v) ([(3, .slice a27 2 c8)] : List (Int × Value)), MkA (D2 :: D :: []), OwnSl 60 1 a8 2 c5 [.int .u32 0, .int .u32 3], Box pv [iV 0, iV 0]] ?_
 refine .blkN (.blkN (.seqN (.region (.V bi0 ?_))))
 refine .V mv0 ?_
 refine .nil ?_
 refine .more ?_
 refine .sub (s' := [(0, .pointer (some pv3)), (5, .pointer (some pback)), (6, .map (some bv2)), (7, .pointer (some pv4)), (19, .slice a8 2 c5), (20, iV 2), (21, iV 2)]) sb ?_
 refine .sel0 [3, 4, 6, 7, 8, 9, 10, 11, 12, 13, 14] (by decide) rfl ?_
 refine .KA [OwnSl 196 1 a21 1 c7 [.pointer (some pv5)], Box pv5 [.int .u32 3, iV 0, iV 1, iV 0], OwnSl 165 2 a27 2 c8 [.int .u32 0, iV 2, .int .u32 3, iV 2], Box pv4 [.slice a21 1 c7, .map (some bv3), iV 1], OwnMapI bv3 .u32 (fun v : Value => v) ([(3, .pointer (some pv5))] : List (Int × Value)), OwnMapI bv2 .u32 (fun v : Value => v) ([(0, iV 1000000000), (3, iV 0)] : List (Int × Value)), Box pback [.map (some bv)], OwnMapI bv .u32 (fun v : Value => v) ([(3, .slice a27 2 c8)] : List (Int × Value)), MkA (D2 :: D :: []), OwnSl 60 1 a8 2 c5 [.int .u32 0, .int .u32 3], Box pv [iV 0, iV 0]] ?_
 refine .seq (.region (.V bi0 ?_))
 refine .nil (.seqN (.seq ?_))
 refine .cond rfl (fun e => absurd (e.symm.trans rfl) (by decide)) (fun _ => ?_)
 refine .exit (.seqX (.seqX (.blkX (.seqN (.seq (.block ?_))))))
 refine .rounds 90 ?_
 refine .seq (.seq (.region (.V mv0 ?_)))
 refine .inl Tryz.func102 rfl Tryz.ntmps102 Tryz.call102 rfl rfl rfl rfl (fun a28 q60 => ?_)
 refine .sel0 [0, 1, 2, 3, 4, 5, 6, 7, 8, 10] (by decide) rfl ?_
 refine .KA [OwnSl 196 1 a21 1 c7 [.pointer (some pv5)], Box pv5 [.int .u32 3, iV 0, iV 1, iV 0], OwnSl 165 2 a27 2 c8 [.int .u32 0, iV 2, .int .u32 3, iV 2], Box pv4 [.slice a21 1 c7, .map (some bv3), iV 1], OwnMapI bv3 .u32 (fun v : Value => v) ([(3, .pointer (some pv5))] : List (Int × Value)), OwnMapI bv2 .u32 (fun v : Value => v) ([(0, iV 1000000000), (3, iV 0)] : List (Int × Value)), Box pback [.map (some bv)], OwnMapI bv .u32 (fun v : Value => v) ([(3, .slice a27 2 c8)] : List (Int × Value)), MkA (D2 :: D :: []), Box pv [iV 0, iV 0]] ?_
 refine .seq (.region (.V ag0 ?_))
 refine .nil (.seqN (.seq (.region (.V mv0 ?_))))
 refine .V (nck rfl) ?_
 refine .V (fa rfl tF195_0) ?_
 refine .V (ld1 rfl tO193 (cellB (off := 0) (k := 3) rfl rfl)) ?_
 refine .V (ln rfl tS193.is) ?_
 refine .V ag0 ?_
 refine .nil (.seqN (.ret ?_))
 refine .res1 rfl (rvT rfl) (inl_back (v := iV 1) q60 rfl ?_)
 refine .V bi0 ?_
 refine .nil (.seqN ?_)
 refine .cond rfl (fun _ => ?_) (fun e => absurd (e.symm.trans rfl) (by decide))
 refine .skip (.seqN (.block (.seq (.region (.V mv0 ?_)))))
 refine .inl Tryz.func103 rfl Tryz.ntmps103 Tryz.call103 rfl rfl rfl rfl (fun a29 q61 => ?_)
 refine .KA [OwnSl 196 1 a21 1 c7 [.pointer (some pv5)], Box pv5 [.int .u32 3, iV 0, iV 1, iV 0], OwnSl 165 2 a27 2 c8 [.int .u32 0, iV 2, .int .u32 3, iV 2], Box pv4 [.slice a21 1 c7, .map (some bv3), iV 1], OwnMapI bv3 .u32 (fun v : Value => v) ([(3, .pointer (some pv5))] : List (Int × Value)), OwnMapI bv2 .u32 (fun v : Value => v) ([(0, iV 1000000000), (3, iV 0)] : List (Int × Value)), Box pback [.map (some bv)], OwnMapI bv .u32 (fun v : Value => v) ([(3, .slice a27 2 c8)] : List (Int × Value)), MkA (D2 :: D :: []), Box pv [iV 0, iV 0]] ?_
 refine .seq (.region (.V ag0 ?_))
 refine .V ag0 ?_
 refine .V ag0 ?_
 refine .nil (.seqN (.seq (.seq (.region (.V mv0 ?_)))))
 refine .V (nck rfl) ?_
 refine .V (fa rfl tF195_0) ?_
 refine .V (ld1 rfl tO193 (cellB (off := 0) (k := 3) rfl rfl)) ?_
 refine .V (ln rfl tS193.is) ?_
 refine .V bi0 ?_
 refine .nil (.seqN ?_)
 refine .cond rfl (fun e => absurd (e.symm.trans rfl) (by decide)) (fun _ => ?_)
 refine .skip (.seqN (.seq (.region (.V mv0 ?_))))
 refine .V (nck rfl) ?_
 refine .V (fa rfl tF195_0) ?_
 refine .V (mkI tC201 rfl) ?_
 refine .inl Tryz.func133 rfl Tryz.ntmps133 Tryz.call133 rfl rfl rfl rfl (fun a30 q62 => ?_)
 refine .KA [OwnSl 196 1 a21 1 c7 [.pointer (some pv5)], Box pv5 [.int .u32 3, iV 0, iV 1, iV 0], OwnSl 165 2 a27 2 c8 [.int .u32 0, iV 2, .int .u32 3, iV 2], Box pv4 [.slice a21 1 c7, .map (some bv3), iV 1], OwnMapI bv3 .u32 (fun v : Value => v) ([(3, .pointer (some pv5))] : List (Int × Value)), OwnMapI bv2 .u32 (fun v : Value => v) ([(0, iV 1000000000), (3, iV 0)] : List (Int × Value)), Box pback [.map (some bv)], OwnMapI bv .u32 (fun v : Value => v) ([(3, .slice a27 2 c8)] : List (Int × Value)), MkA (D2 :: D :: []), Box pv [iV 0, iV 0]] ?_
 refine .seq (.region (.V ag0 ?_))
 refine .nil (.seqN (.seq (.region (.V mv0 ?_))))
 refine .inlV Tryz.func167 rfl Tryz.ntmps167 Tryz.call167 tm201_Len rfl (cellB (off := 0) (k := 3) rfl rfl) rfl rfl (fun a31 q63 => ?_)
 refine .KA [OwnSl 196 1 a21 1 c7 [.pointer (some pv5)], Box pv5 [.int .u32 3, iV 0, iV 1, iV 0], OwnSl 165 2 a27 2 c8 [.int .u32 0, iV 2, .int .u32 3, iV 2], Box pv4 [.slice a21 1 c7, .map (some bv3), iV 1], OwnMapI bv3 .u32 (fun v : Value => v) ([(3, .pointer (some pv5))] : List (Int × Value)), OwnMapI bv2 .u32 (fun v : Value => v) ([(0, iV 1000000000), (3, iV 0)] : List (Int × Value)), Box pback [.map (some bv)], OwnMapI bv .u32 (fun v : Value => v) ([(3, .slice a27 2 c8)] : List (Int × Value)), MkA (D2 :: D :: []), Box pv [iV 0, iV 0]] ?_
 refine .seq (.region (.V ag0 ?_))
 refine .nil (.seqN (.seq (.region (.V mv0 ?_))))
 refine .V (ln rfl tS193.is) ?_
 refine .V ag0 ?_
 refine .nil (.seqN (.ret ?_))
 refine .res1 rfl (rvT rfl) (inl_back (v := iV 1) q63 rfl ?_)
 refine .V bi0 ?_
 refine .V ag0 ?_
 refine .nil (.seqN (.seq (.region (.V mv0 ?_))))
 refine .V mv0 ?_
 refine .inlV Tryz.func169 rfl Tryz.ntmps169 Tryz.call169 tm201_Swap rfl (cellB (off := 0) (k := 3) rfl rfl) rfl rfl (fun a32 q64 => ?_)
 refine .KA [OwnSl 196 1 a21 1 c7 [.pointer (some pv5)], Box pv5 [.int .u32 3, iV 0, iV 1, iV 0], OwnSl 165 2 a27 2 c8 [.int .u32 0, iV 2, .int .u32 3, iV 2], Box pv4 [.slice a21 1 c7, .map (some bv3), iV 1], OwnMapI bv3 .u32 (fun v : Value => v) ([(3, .pointer (some pv5))] : List (Int × Value)), OwnMapI bv2 .u32 (fun v : Value => v) ([(0, iV 1000000000), (3, iV 0)] : List (Int × Value)), Box pback [.map (some bv)], OwnMapI bv .u32 (fun v : Value => v) ([(3, .slice a27 2 c8)] : List (Int × Value)), MkA (D2 :: D :: []), Box pv [iV 0, iV 0]] ?_
 refine .seq ?_
 refine .openA (s0 := [(0, .slice a21 1 c7), (1, iV 0), (2, iV 0)]) [0, 1, 2, 3, 4, 5, 6, 7, 8, 9, 10, 11, 12] [(0, .slice a21 1 c7), (1, iV 0), (2, .slice a21 1 c7), (3, iV 0), (4, .slice a21 1 c7), (5, iV 0), (6, .pointer (some (ead a21 ((0 : Int).toNat * 1)))), (7, .pointer (some pv5)), (8, .slice a21 1 c7), (9, iV 0), (10, .pointer (some (ead a21 ((0 : Int).toNat * 1)))), (11, .pointer (some pv5)), (12, .pointer (some (ead a21 ((0 : Int).toNat * 1))))] (by kernel_rfl) sb [0, 1, 2] [] rfl (by kernel_rfl) ?_
 refine .step [13] 13 rfl (by kernel_rfl) (by kernel_rfl) (.v [] rfl rfl rfl rfl rfl rfl (fun _ => mv rfl) (.v [] rfl rfl rfl rfl rfl rfl (fun _ => mv rfl) (.v [] rfl rfl rfl rfl rfl rfl (fun _ => mv rfl) (.v [] rfl rfl rfl rfl rfl rfl (fun _ => mv rfl) (.v [] rfl rfl rfl rfl rfl rfl (fun _ => mv rfl) (.v [] rfl rfl rfl rfl rfl rfl (fun _ => mv rfl) (.v [(10, .slice a21 1 c7), (11, iV 0)] rfl rfl rfl rfl rfl rfl (fun _ => ixS rfl rfl tS193 (k := 0) rfl (And.intro (by decide) (by decide))) (.v [(12, .pointer (some (ead a21 ((0 : Int).toNat * 1))))] rfl rfl rfl rfl rfl rfl (fun _ => ld1 (v := .pointer (some pv5)) rfl tO196 (cellS (k := 0) rfl rfl)) (.v [] rfl rfl rfl rfl rfl rfl (fun _ => mv rfl) (.v [] rfl rfl rfl rfl rfl rfl (fun _ => mv rfl) (.v [(14, .slice a21 1 c7), (15, iV 0)] rfl rfl rfl rfl rfl rfl (fun _ => ixS rfl rfl tS193 (k := 0) rfl (And.intro (by decide) (by decide))) (.v [(16, .pointer (some (ead a21 ((0 : Int).toNat * 1))))] rfl rfl rfl rfl rfl rfl (fun _ => ld1 (v := .pointer (some pv5)) rfl tO196 (cellS (k := 0) rfl rfl)) (.v [(6, .slice a21 1 c7), (7, iV 0), (6, .slice a21 1 c7), (7, iV 0), (10, .slice a21 1 c7), (11, iV 0), (12, .pointer (some (ead a21 ((0 : Int).toNat * 1)))), (13, .pointer (some pv5)), (17, .pointer (some pv5))] rfl rfl rfl rfl rfl rfl (fun _ => ixS rfl rfl tS193 (k := 0) rfl (And.intro (by decide) (by decide))) (.nil)))))))))))))) (.cons [(18, .pointer (some (ead a21 ((0 : Int).toNat * 1)))), (13, .pointer (some pv5)), (6, .slice a21 1 c7), (7, iV 0), (10, .slice a21 1 c7), (11, iV 0), (12, .pointer (some (ead a21 ((0 : Int).toNat * 1)))), (13, .pointer (some pv5)), (17, .pointer (some pv5))] rfl rfl (fun sL hL => ?_) (.nil))
 refine stS (k := 0) (cs' := [.pointer (some pv5)]) rfl (fun _ => rfl) rfl rfl (fun w => (tO196 w).2) rfl rfl rfl (by decide) (Nat.le_of_ble_eq_true rfl) rfl ?_
 refine .nil ?_
 refine .jaN (M := [12, 7, 0, 1, 4, 5, 6, 11, 10, 8, 9]) (C' := [2, 3, 14]) (pre := [(14, .pointer (some (ead a21 ((0 : Int).toNat * 1))))]) [0, 1, 2] hL rfl rfl rfl rfl rfl (by kernel_rfl) ?_
 refine .step [15] 15 rfl (by kernel_rfl) (by kernel_rfl) (.v [] rfl rfl rfl rfl rfl rfl (fun _ => mv rfl) (.v [] rfl rfl rfl rfl rfl rfl (fun _ => mv rfl) (.v [(8, .slice a21 1 c7), (9, iV 0), (6, .slice a21 1 c7), (7, iV 0), (8, .slice a21 1 c7), (9, iV 0), (10, .slice a21 1 c7), (11, iV 0), (12, .pointer (some (ead a21 ((0 : Int).toNat * 1)))), (13, .pointer (some pv5)), (14, .slice a21 1 c7), (15, iV 0), (16, .pointer (some (ead a21 ((0 : Int).toNat * 1)))), (17, .pointer (some pv5)), (18, .pointer (some (ead a21 ((0 : Int).toNat * 1))))] rfl rfl rfl rfl rfl rfl (fun _ => ixS rfl rfl tS193 (k := 0) rfl (And.intro (by decide) (by decide))) (.nil)))) (.cons [(19, .pointer (some (ead a21 ((0 : Int).toNat * 1)))), (17, .pointer (some pv5)), (6, .slice a21 1 c7), (7, iV 0), (8, .slice a21 1 c7), (9, iV 0), (10, .slice a21 1 c7), (11, iV 0), (12, .pointer (some (ead a21 ((0 : Int).toNat * 1)))), (13, .pointer (some pv5)), (14, .slice a21 1 c7), (15, iV 0), (16, .pointer (some (ead a21 ((0 : Int).toNat * 1)))), (17, .pointer (some pv5)), (18, .pointer (some (ead a21 ((0 : Int).toNat * 1))))] rfl rfl (fun sL hL => ?_) (.nil))
 refine stS (k := 0) (cs' := [.pointer (some pv5)]) rfl (fun _ => rfl) rfl rfl (fun w => (tO196 w).2) rfl rfl rfl (by decide) (Nat.le_of_ble_eq_true rfl) rfl ?_
 refine .nil ?_
 refine .jaN (M := [14, 2, 3]) (C' := []) (pre := []) [0, 1, 2] hL rfl rfl rfl rfl rfl (by kernel_rfl) ?_
 refine .last [(6, .slice a21 1 c7), (7, iV 0), (8, .slice a21 1 c7), (9, iV 0), (10, .slice a21 1 c7), (11, iV 0), (12, .pointer (some (ead a21 ((0 : Int).toNat * 1)))), (13, .pointer (some pv5)), (14, .slice a21 1 c7), (15, iV 0), (16, .pointer (some (ead a21 ((0 : Int).toNat * 1)))), (17, .pointer (some pv5)), (18, .pointer (some (ead a21 ((0 : Int).toNat * 1)))), (19, .pointer (some (ead a21 ((0 : Int).toNat * 1))))] rfl (by kernel_rfl) (.nil) rfl ?_
 refine .seqN ?_
 refine .openA (s0 := [(0, .slice a21 1 c7), (1, iV 0), (2, iV 0)]) [0, 1, 2, 3, 4, 5, 6, 7, 8, 9, 10, 11] [(0, .slice a21 1 c7), (1, iV 0), (2, .pointer (some (ead a21 ((0 : Int).toNat * 1)))), (3, .pointer (some pv5)), (4, .slice a21 1 c7), (5, iV 0), (6, .pointer (some (ead a21 ((0 : Int).toNat * 1)))), (7, .pointer (some pv5)), (8, iV 0), (9, iV 0), (10, .pointer (some pv5)), (11, .pointer (some (pv5.add 3)))] (by kernel_rfl) sb [0, 1, 2] [] rfl (by kernel_rfl) ?_
 refine .step [12] 12 rfl (by kernel_rfl) (by kernel_rfl) (.v [] rfl rfl rfl rfl rfl rfl (fun _ => mv rfl) (.v [] rfl rfl rfl rfl rfl rfl (fun _ => mv rfl) (.v [(20, .slice a21 1 c7), (21, iV 0)] rfl rfl rfl rfl rfl rfl (fun _ => ixS rfl rfl tS193 (k := 0) rfl (And.intro (by decide) (by decide))) (.v [(22, .pointer (some (ead a21 ((0 : Int).toNat * 1))))] rfl rfl rfl rfl rfl rfl (fun _ => ld1 (v := .pointer (some pv5)) rfl tO196 (cellS (k := 0) rfl rfl)) (.v [] rfl rfl rfl rfl rfl rfl (fun _ => mv rfl) (.v [] rfl rfl rfl rfl rfl rfl (fun _ => mv rfl) (.v [(24, .slice a21 1 c7), (25, iV 0)] rfl rfl rfl rfl rfl rfl (fun _ => ixS rfl rfl tS193 (k := 0) rfl (And.intro (by decide) (by decide))) (.v [(26, .pointer (some (ead a21 ((0 : Int).toNat * 1))))] rfl rfl rfl rfl rfl rfl (fun _ => ld1 (v := .pointer (some pv5)) rfl tO196 (cellS (k := 0) rfl rfl)) (.v [] rfl rfl rfl rfl rfl rfl (fun _ => mv rfl) (.v [] rfl rfl rfl rfl rfl rfl (fun _ => mv rfl) (.v [(23, .pointer (some pv5)), (20, .slice a21 1 c7), (21, iV 0), (22, .pointer (some (ead a21 ((0 : Int).toNat * 1)))), (23, .pointer (some pv5)), (27, .pointer (some pv5)), (28, iV 0)] rfl rfl rfl rfl rfl rfl (fun _ => nck rfl) (.v [(30, .pointer (some pv5)), (20, .slice a21 1 c7), (21, iV 0), (22, .pointer (some (ead a21 ((0 : Int).toNat * 1)))), (23, .pointer (some pv5)), (27, .pointer (some pv5)), (28, iV 0)] rfl rfl rfl rfl rfl rfl (fun _ => fa rfl tF199_3) (.nil))))))))))))) (.cons [(31, .pointer (some (pv5.add 3))), (28, iV 0), (20, .slice a21 1 c7), (21, iV 0), (22, .pointer (some (ead a21 ((0 : Int).toNat * 1)))), (23, .pointer (some pv5)), (27, .pointer (some pv5)), (28, iV 0)] rfl rfl (fun sL hL => ?_) (.nil))
 refine st (p := pv5) (off := 3) (k := 1) (vs := [iV 0]) rfl rfl rfl (fun w => (tO3 w).2) rfl rfl rfl rfl ?_
 refine .nil ?_
 refine .jaN (M := [11, 8, 0, 1, 2, 3, 7, 10, 6, 4, 5]) (C' := [9, 13, 14]) (pre := [(13, .pointer (some pv5)), (14, .pointer (some (pv5.add 3)))]) [0, 1, 2] hL rfl rfl rfl rfl rfl (by kernel_rfl) ?_
 refine .step [15] 15 rfl (by kernel_rfl) (by kernel_rfl) (.v [] rfl rfl rfl rfl rfl rfl (fun _ => mv rfl) (.v [(27, .pointer (some pv5)), (20, .slice a21 1 c7), (21, iV 0), (22, .pointer (some (ead a21 ((0 : Int).toNat * 1)))), (23, .pointer (some pv5)), (24, .slice a21 1 c7), (25, iV 0), (26, .pointer (some (ead a21 ((0 : Int).toNat * 1)))), (27, .pointer (some pv5)), (28, iV 0), (29, iV 0), (30, .pointer (some pv5)), (31, .pointer (some (pv5.add 3)))] rfl rfl rfl rfl rfl rfl (fun _ => nck rfl) (.v [(32, .pointer (some pv5)), (20, .slice a21 1 c7), (21, iV 0), (22, .pointer (some (ead a21 ((0 : Int).toNat * 1)))), (23, .pointer (some pv5)), (24, .slice a21 1 c7), (25, iV 0), (26, .pointer (some (ead a21 ((0 : Int).toNat * 1)))), (27, .pointer (some pv5)), (28, iV 0), (29, iV 0), (30, .pointer (some pv5)), (31, .pointer (some (pv5.add 3)))] rfl rfl rfl rfl rfl rfl (fun _ => fa rfl tF199_3) (.nil)))) (.cons [(33, .pointer (some (pv5.add 3))), (29, iV 0), (20, .slice a21 1 c7), (21, iV 0), (22, .pointer (some (ead a21 ((0 : Int).toNat * 1)))), (23, .pointer (some pv5)), (24, .slice a21 1 c7), (25, iV 0), (26, .pointer (some (ead a21 ((0 : Int).toNat * 1)))), (27, .pointer (some pv5)), (28, iV 0), (29, iV 0), (30, .pointer (some pv5)), (31, .pointer (some (pv5.add 3)))] rfl rfl (fun sL hL => ?_) (.nil))
 refine st (p := pv5) (off := 3) (k := 1) (vs := [iV 0]) rfl rfl rfl (fun w => (tO3 w).2) rfl rfl rfl rfl ?_
 refine .nil ?_
 refine .jaN (M := [14, 9, 13]) (C' := []) (pre := []) [0, 1, 2] hL rfl rfl rfl rfl rfl (by kernel_rfl) ?_
 refine .last [(20, .slice a21 1 c7), (21, iV 0), (22, .pointer (some (ead a21 ((0 : Int).toNat * 1)))), (23, .pointer (some pv5)), (24, .slice a21 1 c7), (25, iV 0), (26, .pointer (some (ead a21 ((0 : Int).toNat * 1)))), (27, .pointer (some pv5)), (28, iV 0), (29, iV 0), (30, .pointer (some pv5)), (31, .pointer (some (pv5.add 3))), (32, .pointer (some pv5)), (33, .pointer (some (pv5.add 3)))] rfl (by kernel_rfl) (.nil) rfl ?_
 refine .res0 (.inr rfl) rfl (inl_back (v := .tuple #[]) q64 rfl ?_)
 refine .nil (.seqN (.seq (.region (.V mv0 ?_))))
 refine .V mv0 ?_
 refine .inl Tryz.func145 rfl Tryz.ntmps145 Tryz.call145 rfl rfl rfl rfl (fun a33 q65 => ?_)
 refine .KA [OwnSl 196 1 a21 1 c7 [.pointer (some pv5)], Box pv5 [.int .u32 3, iV 0, iV 1, iV 0], OwnSl 165 2 a27 2 c8 [.int .u32 0, iV 2, .int .u32 3, iV 2], Box pv4 [.slice a21 1 c7, .map (some bv3), iV 1], OwnMapI bv3 .u32 (fun v : Value => v) ([(3, .pointer (some pv5))] : List (Int × Value)), OwnMapI bv2 .u32 (fun v : Value => v) ([(0, iV 1000000000), (3, iV 0)] : List (Int × Value)), Box pback [.map (some bv)], OwnMapI bv .u32 (fun v : Value => v) ([(3, .slice a27 2 c8)] : List (Int × Value)), MkA (D2 :: D :: []), Box pv [iV 0, iV 0]] ?_
 refine .seq (.region (.V ag0 ?_))
 refine .nil (.seqN (.seq (.region (.V mv0 ?_))))
 refine .V ag0 ?_
 refine .nil (.seqN (.seq (.block ?_)))
 refine .rounds 90 ?_
 refine .block (.seq (.region (.V mv0 ?_)))
 refine .V bi0 ?_
 refine .V bi0 ?_
 refine .V ag0 ?_
 refine .nil (.seqN (.seq (.seq (.region (.V mv0 ?_)))))
 refine .V mv0 ?_
 refine .V bi0 ?_
 refine .V mv0 ?_
 refine .gS rfl rfl rfl rfl rfl rfl ?_
 refine .gS rfl rfl rfl rfl rfl rfl ?_
 refine .V (pkT rfl rfl rfl) ?_
 refine .nil (.seqN ?_)
 refine .cond rfl (fun _ => ?_) (fun e => absurd (e.symm.trans rfl) (by decide))
 refine .exit (.seqX ?_)
 refine .blkY rfl ?_
 refine .seqX (.blkX (.seqN (.seq (.region (.V mv0 ?_)))))
 refine .V mv0 ?_
 refine .V bi0 ?_
 refine .V ag0 ?_
 refine .nil (.seqN (.ret ?_))
 refine .res1 rfl (rvT rfl) (inl_back (v := .bool false) q65 rfl ?_)
 refine .nil (.seqN (.seq (.region (.V mv0 ?_))))
 refine .inlI Tryz.func170 rfl Tryz.ntmps170 Tryz.call170 tm201_Pop rfl rfl rfl (fun a34 q66 => ?_)
 refine .KA [OwnSl 196 1 a21 1 c7 [.pointer (some pv5)], Box pv5 [.int .u32 3, iV 0, iV 1, iV 0], OwnSl 165 2 a27 2 c8 [.int .u32 0, iV 2, .int .u32 3, iV 2], Box pv4 [.slice a21 1 c7, .map (some bv3), iV 1], OwnMapI bv3 .u32 (fun v : Value => v) ([(3, .pointer (some pv5))] : List (Int × Value)), OwnMapI bv2 .u32 (fun v : Value => v) ([(0, iV 1000000000), (3, iV 0)] : List (Int × Value)), Box pback [.map (some bv)], OwnMapI bv .u32 (fun v : Value => v) ([(3, .slice a27 2 c8)] : List (Int × Value)), MkA (D2 :: D :: []), Box pv [iV 0, iV 0]] ?_
 refine .seq (.region (.V ag0 ?_))
 refine .nil (.seqN (.seq (.region (.V mv0 ?_))))
 refine .V (nck rfl) ?_
 refine .V (ld1 rfl tO193 (cellB (off := 0) (k := 3) rfl rfl)) ?_
 refine .V ag0 ?_
 refine .nil (.seqN (.seq (.region (.V mv0 ?_))))
 refine .V mv0 ?_
 refine .V (ln rfl tS193.is) ?_
 refine .V bi0 ?_
 refine .V (ixS rfl rfl tS193 (k := 0) rfl (And.intro (by decide) (by decide))) ?_
 refine .V (ld1 (v := .pointer (some pv5)) rfl tO196 (cellS (k := 0) rfl rfl)) ?_
 refine .V ag0 ?_
 refine .nil (.seqN (.seq ?_))
 refine .fact (fun w S => look_len S (k := 0) rfl) (fun q67 => ?_)
 refine .fact (fun w S => look_len S (k := 2) rfl) (fun q68 => ?_)
 refine .region (.V mv0 ?_)
 refine .V mv0 ?_
 refine .V mv0 ?_
 refine .V (ln rfl tS193.is) ?_
 refine .V bi0 ?_
 refine .V (slH tS193 rfl rfl (by decide) rfl (Nat.le_trans (show 0 ≤ 1 by decide) q67)) ?_
 refine .shrink (k := 0) (cs' := []) rfl (show 0 ≤ 1 by decide) rfl ?_
 refine .V (nck rfl) ?_
 refine st (p := pv4) (off := 0) (k := 3) (vs := [.slice a21 0 c7]) rfl rfl rfl (fun w => (tO193 w).2) rfl rfl rfl rfl ?_
 refine .nil (.seqN (.seq (.region (.V mv0 ?_))))
 refine .V (mkI tC196 rfl) ?_
 refine .V ag0 ?_
 refine .nil (.seqN (.ret ?_))
 refine .res1 rfl (rvT rfl) (inl_back (v := .iface 196 (.pointer (some pv5))) q66 rfl ?_)
 refine .V ag0 ?_
 refine .nil (.seqN (.ret ?_))
 refine .res1 rfl (rvT rfl) (inl_back (v := .iface 196 (.pointer (some pv5))) q62 rfl ?_)
 refine .V (tas tC196 rfl) ?_
 refine .V ag0 ?_
 refine .nil (.seqN (.seq ?_))
 refine .openA (s0 := [(0, .pointer (some pv4)), (5, .pointer (some pv5))]) [0, 1, 2, 3, 4, 5, 6, 7] [(0, .pointer (some pv4)), (1, .pointer (some pv4)), (2, .pointer (some (pv4.add 1))), (3, .map (some bv3)), (4, .pointer (some pv5)), (5, .pointer (some pv5)), (6, .pointer (some (pv5.add 0))), (7, .int .u32 3)] (by kernel_rfl) sb [0, 5] [] rfl (by kernel_rfl) ?_
 refine .step [8] 8 rfl (by kernel_rfl) (by kernel_rfl) (.v [] rfl rfl rfl rfl rfl rfl (fun _ => mv rfl) (.v [(19, .pointer (some pv4))] rfl rfl rfl rfl rfl rfl (fun _ => nck rfl) (.v [(20, .pointer (some pv4))] rfl rfl rfl rfl rfl rfl (fun _ => fa rfl tF195_1) (.v [(21, .pointer (some (pv4.add 1)))] rfl rfl rfl rfl rfl rfl (fun _ => ld1 rfl tO191 (cellB (off := 1) (k := 3) rfl rfl)) (.v [] rfl rfl rfl rfl rfl rfl (fun _ => mv rfl) (.v [(23, .pointer (some pv5))] rfl rfl rfl rfl rfl rfl (fun _ => nck rfl) (.v [(24, .pointer (some pv5))] rfl rfl rfl rfl rfl rfl (fun _ => fa rfl tF199_0) (.v [(25, .pointer (some (pv5.add 0)))] rfl rfl rfl rfl rfl rfl (fun _ => ld1 rfl tO60 (cellB (off := 0) (k := 1) rfl rfl)) (.nil))))))))) (.cons [(22, .map (some bv3)), (26, .int .u32 3)] rfl rfl (fun sL hL => ?_) (.nil))
 refine dlI tMR191 rfl rfl (q := 4) rfl rfl ?_
 refine .nil ?_
 refine .jaN (M := [3, 7, 2, 6, 1, 5, 0, 4]) (C' := []) (pre := []) [0, 5] hL rfl rfl rfl rfl rfl (by kernel_rfl) ?_
 refine .last [(19, .pointer (some pv4)), (20, .pointer (some pv4)), (21, .pointer (some (pv4.add 1))), (22, .map (some bv3)), (23, .pointer (some pv5)), (24, .pointer (some pv5)), (25, .pointer (some (pv5.add 0))), (26, .int .u32 3)] rfl (by kernel_rfl) (.nil) rfl ?_
 refine .seqN (.seq ?_)
 refine .openA (s0 := [(5, .pointer (some pv5))]) [0, 1, 2, 3, 4, 5, 6, 7, 8, 9, 10] [(0, .pointer (some pv5)), (1, .pointer (some pv5)), (2, .pointer (some (pv5.add 0))), (3, .int .u32 3), (4, .pointer (some pv5)), (5, .pointer (some pv5)), (6, .pointer (some (pv5.add 1))), (7, iV 0), (8, .int .u32 3), (9, iV 0), (10, .bool true)] (by kernel_rfl) sb [5] [] rfl (by kernel_rfl) ?_
 refine .last [(27, .pointer (some pv5)), (28, .pointer (some pv5)), (29, .pointer (some (pv5.add 0))), (30, .int .u32 3), (31, .pointer (some pv5)), (32, .pointer (some pv5)), (33, .pointer (some (pv5.add 1))), (34, iV 0), (2, .int .u32 3), (3, iV 0), (4, .bool true)] rfl (by kernel_rfl) (.v [] rfl rfl rfl rfl rfl rfl (fun _ => mv rfl) (.v [(27, .pointer (some pv5))] rfl rfl rfl rfl rfl rfl (fun _ => nck rfl) (.v [(28, .pointer (some pv5))] rfl rfl rfl rfl rfl rfl (fun _ => fa rfl tF199_0) (.v [(29, .pointer (some (pv5.add 0)))] rfl rfl rfl rfl rfl rfl (fun _ => ld1 rfl tO60 (cellB (off := 0) (k := 1) rfl rfl)) (.v [] rfl rfl rfl rfl rfl rfl (fun _ => mv rfl) (.v [(31, .pointer (some pv5))] rfl rfl rfl rfl rfl rfl (fun _ => nck rfl) (.v [(32, .pointer (some pv5))] rfl rfl rfl rfl rfl rfl (fun _ => fa rfl tF199_1) (.v [(33, .pointer (some (pv5.add 1)))] rfl rfl rfl rfl rfl rfl (fun _ => ld1 rfl tO3 (cellB (off := 1) (k := 1) rfl rfl)) (.v [(30, .int .u32 3), (27, .pointer (some pv5)), (28, .pointer (some pv5)), (29, .pointer (some (pv5.add 0))), (30, .int .u32 3)] rfl rfl rfl rfl rfl rfl (fun _ => asg rfl) (.v [(34, iV 0), (2, .int .u32 3), (27, .pointer (some pv5)), (28, .pointer (some pv5)), (29, .pointer (some (pv5.add 0))), (30, .int .u32 3), (31, .pointer (some pv5)), (32, .pointer (some pv5)), (33, .pointer (some (pv5.add 1))), (34, iV 0), (2, .int .u32 3)] rfl rfl rfl rfl rfl rfl (fun _ => asg rfl) (.v [(3, iV 0), (27, .pointer (some pv5)), (28, .pointer (some pv5)), (29, .pointer (some (pv5.add 0))), (30, .int .u32 3), (31, .pointer (some pv5)), (32, .pointer (some pv5)), (33, .pointer (some (pv5.add 1))), (34, iV 0), (2, .int .u32 3), (3, iV 0)] rfl rfl rfl rfl rfl rfl (fun _ => asg rfl) (.nil)))))))))))) rfl ?_
 refine .seqN (.ret ?_)
 refine .res3 rfl (rvT rfl) (rvT rfl) (rvT rfl) (inl_back (v := .tuple #[.int .u32 3, iV 0, .bool true]) q61 rfl ?_)
 refine .V mv0 ?_
 refine .V (ext rfl rfl) ?_
 refine .V (ext rfl rfl) ?_
 refine .V (ext rfl rfl) ?_
 refine .V ag0 ?_
 refine .V ag0 ?_
 refine .V ag0 ?_
 refine .nil (.seqN (.seq (.region (.V (ld1 rfl tO159 (cellB (off := 0) (k := 6) rfl rfl)) ?_))))
 refine .V mv0 ?_
 refine .V (lkI (enc := fun v : Value => v) (m := ([(3, .slice a27 2 c8)] : List (Int × Value))) (k := 3) (.slice none 0 0) tMR159 rfl rfl (q := 7) rfl) ?_
 refine .V (ln rfl tS163.is) ?_
 refine .V mv0 ?_
 refine .nil (.seqN (.block ?_))
 refine .rounds 90 ?_
 refine .seq (.region (.V bi0 ?_))
 refine .nil (.seqN (.seq ?_))
 refine .cond rfl (fun _ => ?_) (fun e => absurd (e.symm.trans rfl) (by decide))
 refine .skip (.seqN (.seq (.block (.seq (.region (.V (ixS rfl rfl tS163 (k := 2) rfl (And.intro (by decide) (by decide))) ?_))))))
 refine .V (ldA (cs := [.int .u32 0, iV 2]) rfl tA165 rfl (cellsO (k := 2) rfl (rawE rfl))) ?_
 refine al tZ165 rfl (fun pa => ?_)
 refine st (p := pa) (off := 0) (k := 0) (vs := [.int .u32 0, iV 2]) rfl rfl rfl (fun w => (tA165 w).2) rfl rfl rfl rfl ?_
 refine .nil (.seqN (.seq (.region (.V mv0 ?_))))
 refine .V (fa rfl tF165_1) ?_
 refine .V (ld1 rfl tO3 (cellB (off := 1) (k := 0) rfl rfl)) ?_
 refine .V bi0 ?_
 refine .V mv0 ?_
 refine .V (fa rfl tF165_0) ?_
 refine .V (ld1 rfl tO60 (cellB (off := 0) (k := 0) rfl rfl)) ?_
 refine .V (lkI (enc := fun v : Value => v) (m := ([(0, iV 1000000000), (3, iV 0)] : List (Int × Value))) (k := 0) (iV 0) tMR141 rfl rfl (q := 6) rfl) ?_
 refine .V bi0 ?_
 refine .nil (.seqN ?_)
 refine .cond rfl (fun _ => ?_) (fun e => absurd (e.symm.trans rfl) (by decide))
 refine .seq (.region (.V mv0 ?_))
 refine .V (fa rfl tF165_0) ?_
 refine .V (ld1 rfl tO60 (cellB (off := 0) (k := 0) rfl rfl)) ?_
 refine .V mv0 ?_
 refine .V (fa rfl tF165_1) ?_
 refine .V (ld1 rfl tO3 (cellB (off := 1) (k := 0) rfl rfl)) ?_
 refine .V bi0 ?_
 refine muI (enc := fun v : Value => v) (iV 2) tMR141 rfl rfl rfl (q := 6) rfl ?_
 refine .KA [Box pa [.int .u32 0, iV 2], OwnSl 196 1 a21 0 c7 [], Box pv5 [.int .u32 3, iV 0, iV 1, iV 0], OwnSl 165 2 a27 2 c8 [.int .u32 0, iV 2, .int .u32 3, iV 2], Box pv4 [.slice a21 0 c7, .map (some bv3), iV 1], OwnMapI bv3 .u32 (fun v : Value => v) ([] : List (Int × Value)), OwnMapI bv2 .u32 (fun v : Value => v) ([(0, iV 2), (3, iV 0)] : List (Int × Value)), Box pback [.map (some bv)], OwnMapI bv .u32 (fun v : Value => v) ([(3, .slice a27 2 c8)] : List (Int × Value)), MkA (D2 :: D :: []), Box pv [iV 0, iV 0]] ?_
 refine .nil (.seqN (.region (.V mv0 ?_)))
 refine .V (fa rfl tF165_0) ?_
 refine .V (ld1 rfl tO60 (cellB (off := 0) (k := 0) rfl rfl)) ?_
 refine .V mv0 ?_
 refine .V (fa rfl tF165_1) ?_
 refine .V (ld1 rfl tO3 (cellB (off := 1) (k := 0) rfl rfl)) ?_
 refine .V bi0 ?_
 refine .inl Tryz.func100 rfl Tryz.ntmps100 Tryz.call100 rfl rfl rfl rfl (fun a35 q69 => ?_)
 refine .sel0 [1, 3, 4, 5, 6, 7, 8, 9, 10] (by decide) rfl ?_
 refine .KA [OwnSl 196 1 a21 0 c7 [], OwnSl 165 2 a27 2 c8 [.int .u32 0, iV 2, .int .u32 3, iV 2], Box pv4 [.slice a21 0 c7, .map (some bv3), iV 1], OwnMapI bv3 .u32 (fun v : Value => v) ([] : List (Int × Value)), OwnMapI bv2 .u32 (fun v : Value => v) ([(0, iV 2), (3, iV 0)] : List (Int × Value)), Box pback [.map (some bv)], OwnMapI bv .u32 (fun v : Value => v) ([(3, .slice a27 2 c8)] : List (Int × Value)), MkA (D2 :: D :: []), Box pv [iV 0, iV 0]] ?_
 refine .seq (.region (.V mv0 ?_))
 refine .V (nck rfl) ?_
 refine .V (fa rfl tF195_2) ?_
 refine .V (ld1 rfl tO3 (cellB (off := 2) (k := 2) rfl rfl)) ?_
 refine .V bi0 ?_
 refine .V (nck rfl) ?_
 refine .V (fa rfl tF195_2) ?_
 refine st (p := pv4) (off := 2) (k := 2) (vs := [iV 2]) rfl rfl rfl (fun w => (tO3 w).2) rfl rfl rfl rfl ?_
 refine .nil (.seqN (.seq (.seq (.region (.V mv0 ?_)))))
 refine .V (nck rfl) ?_
 refine .V (fa rfl tF195_1) ?_
 refine .V (ld1 rfl tO191 (cellB (off := 1) (k := 2) rfl rfl)) ?_
 refine .V mv0 ?_
 refine .V (lkI2 (enc := fun v : Value => v) (m := ([] : List (Int × Value))) (k := 0) (.pointer none) tMR191 rfl rfl (q := 3) rfl) ?_
 refine .V mv0 ?_
 refine .V (ext rfl rfl) ?_
 refine .V (ext rfl rfl) ?_
 refine .V ag0 ?_
 refine .V ag0 ?_
 refine .nil (.seqN (.seq (.region (.V mv0 ?_))))
 refine .nil (.seqN ?_)
 refine .cond rfl (fun e => absurd (e.symm.trans rfl) (by decide)) (fun _ => ?_)
 refine .skip (.seqN (.seq (.region (.V mv0 ?_))))
 refine .V mv0 ?_
 refine .V mv0 ?_
 refine .V (nck rfl) ?_
 refine .V (fa rfl tF195_2) ?_
 refine .V (ld1 rfl tO3 (cellB (off := 2) (k := 2) rfl rfl)) ?_
 refine .V (bld (cs := #[.int .u32 0, iV 2, iV 2, iV 0]) (pv := [(0, .int .u32 0), (1, iV 2), (2, iV 2)]) tB199 rfl rfl) ?_
 refine bx (vs := [.int .u32 0, iV 2, iV 2, iV 0]) rfl rfl rfl (fun pv6 => ?_)
 refine .V ag0 ?_
 refine .nil (.seqN (.seq (.region (.V mv0 ?_))))
 refine .V (nck rfl) ?_
 refine .V (fa rfl tF195_1) ?_
 refine .V (ld1 rfl tO191 (cellB (off := 1) (k := 3) rfl rfl)) ?_
 refine .V mv0 ?_
 refine .V mv0 ?_
 refine muI (enc := fun v : Value => v) (.pointer (some pv6)) tMR191 rfl rfl rfl (q := 4) rfl ?_
 refine .nil (.seqN (.region (.V mv0 ?_)))
 refine .V (nck rfl) ?_
 refine .V (fa rfl tF195_0) ?_
 refine .V (mkI tC201 rfl) ?_
 refine .V mv0 ?_
 refine .V (mkI tC196 rfl) ?_
 refine .inl Tryz.func131 rfl Tryz.ntmps131 Tryz.call131 rfl rfl rfl rfl (fun a36 q70 => ?_)
 refine .KA [Box pv6 [.int .u32 0, iV 2, iV 2, iV 0], OwnSl 196 1 a21 0 c7 [], OwnSl 165 2 a27 2 c8 [.int .u32 0, iV 2, .int .u32 3, iV 2], Box pv4 [.slice a21 0 c7, .map (some bv3), iV 2], OwnMapI bv3 .u32 (fun v : Value => v) ([(0, .pointer (some pv6))] : List (Int × Value)), OwnMapI bv2 .u32 (fun v : Value => v) ([(0, iV 2), (3, iV 0)] : List (Int × Value)), Box pback [.map (some bv)], OwnMapI bv .u32 (fun v : Value => v) ([(3, .slice a27 2 c8)] : List (Int × Value)), MkA (D2 :: D :: []), Box pv [iV 0, iV 0]] ?_
 refine .seq (.region (.V mv0 ?_))
 refine .V mv0 ?_
 refine .inlI Tryz.func171 rfl Tryz.ntmps171 Tryz.call171 tm201_Push rfl rfl rfl (fun a37 q71 => ?_)
 refine .KA [Box pv6 [.int .u32 0, iV 2, iV 2, iV 0], OwnSl 196 1 a21 0 c7 [], OwnSl 165 2 a27 2 c8 [.int .u32 0, iV 2, .int .u32 3, iV 2], Box pv4 [.slice a21 0 c7, .map (some bv3), iV 2], OwnMapI bv3 .u32 (fun v : Value => v) ([(0, .pointer (some pv6))] : List (Int × Value)), OwnMapI bv2 .u32 (fun v : Value => v) ([(0, iV 2), (3, iV 0)] : List (Int × Value)), Box pback [.map (some bv)], OwnMapI bv .u32 (fun v : Value => v) ([(3, .slice a27 2 c8)] : List (Int × Value)), MkA (D2 :: D :: []), Box pv [iV 0, iV 0]] ?_
 refine .seq (.region (.V mv0 ?_))
 refine .V (tas tC196 rfl) ?_
 refine .V ag0 ?_
 refine .nil (.seqN (.seq (.region (.V mv0 ?_))))
 refine .V mv0 ?_
 refine .V (nck rfl) ?_
 refine .V (ld1 rfl tO193 (cellB (off := 0) (k := 3) rfl rfl)) ?_
 refine .V (ln rfl tS193.is) ?_
 refine .V (nck rfl) ?_
 refine .V (fa rfl tF199_3) ?_
 refine st (p := pv6) (off := 3) (k := 0) (vs := [iV 0]) rfl rfl rfl (fun w => (tO3 w).2) rfl rfl rfl rfl ?_
 refine .nil (.seqN (.region (.V mv0 ?_)))
 refine .V mv0 ?_
 refine .V (nck rfl) ?_
 refine .V (ld1 rfl tO193 (cellB (off := 0) (k := 3) rfl rfl)) ?_
 refine .V mv0 ?_
 refine bs2 (cs := #[.pointer (some pv6)]) (pv := [(0, .pointer (some pv6))]) tS193 rfl rfl (by decide) (by decide) rfl rfl rfl (fun a38 q72 => ?_)
 refine app (k := 2) (news := [.pointer (some pv6)]) (cs' := [.pointer (some pv6)]) (nm := 1) tS193 rfl (by decide) rfl rfl rfl rfl (srcS (k := 0) rfl) (oneAll rfl) (by decide) (by decide) rfl rfl rfl (fun a39 c9 => ?_)
 refine .V (nck rfl) ?_
 refine st (p := pv4) (off := 0) (k := 4) (vs := [.slice a39 1 c9]) rfl rfl rfl (fun w => (tO193 w).2) rfl rfl rfl rfl ?_
 refine .nil ?_
 refine .res0 (.inr rfl) rfl (inl_back (v := .tuple #[]) q71 rfl ?_)
 refine .nil (.seqN (.region (.V mv0 ?_)))
 refine .V mv0 ?_
 refine .inlV Tryz.func167 rfl Tryz.ntmps167 Tryz.call167 tm201_Len rfl (cellB (off := 0) (k := 4) rfl rfl) rfl rfl (fun a40 q73 => ?_)
 refine .sel0 [1, 2, 3, 4, 5, 6, 7, 8, 9, 10] (by decide) rfl ?_
 refine .KA [Box pv6 [.int .u32 0, iV 2, iV 2, iV 0], OwnSl 196 1 a39 1 c9 [.pointer (some pv6)], OwnSl 165 2 a27 2 c8 [.int .u32 0, iV 2, .int .u32 3, iV 2], Box pv4 [.slice a39 1 c9, .map (some bv3), iV 2], OwnMapI bv3 .u32 (fun v : Value => v) ([(0, .pointer (some pv6))] : List (Int × Value)), OwnMapI bv2 .u32 (fun v : Value => v) ([(0, iV 2), (3, iV 0)] : List (Int × Value)), Box pback [.map (some bv)], OwnMapI bv .u32 (fun v : Value => v) ([(3, .slice a27 2 c8)] : List (Int × Value)), MkA (D2 :: D :: []), Box pv [iV 0, iV 0]] ?_
 refine .seq (.region (.V ag0 ?_))
 refine .nil (.seqN (.seq (.region (.V mv0 ?_))))
 refine .V (ln rfl tS193.is) ?_
 refine .V ag0 ?_
 refine .nil (.seqN (.ret ?_))
 refine .res1 rfl (rvT rfl) (inl_back (v := iV 1) q73 rfl ?_)
 refine .V bi0 ?_
 refine .inl Tryz.func146 rfl Tryz.ntmps146 Tryz.call146 rfl rfl rfl rfl (fun a41 q74 => ?_)
 refine .KA [Box pv6 [.int .u32 0, iV 2, iV 2, iV 0], OwnSl 196 1 a39 1 c9 [.pointer (some pv6)], OwnSl 165 2 a27 2 c8 [.int .u32 0, iV 2, .int .u32 3, iV 2], Box pv4 [.slice a39 1 c9, .map (some bv3), iV 2], OwnMapI bv3 .u32 (fun v : Value => v) ([(0, .pointer (some pv6))] : List (Int × Value)), OwnMapI bv2 .u32 (fun v : Value => v) ([(0, iV 2), (3, iV 0)] : List (Int × Value)), Box pback [.map (some bv)], OwnMapI bv .u32 (fun v : Value => v) ([(3, .slice a27 2 c8)] : List (Int × Value)), MkA (D2 :: D :: []), Box pv [iV 0, iV 0]] ?_
 refine .block ?_
 refine .rounds 90 ?_
 refine .block (.seq (.region (.V mv0 ?_)))
 refine .V bi0 ?_
 refine .V (bq rfl rfl (by decide)) ?_
 refine .V ag0 ?_
 refine .nil (.seqN (.seq (.seq (.region (.V mv0 ?_)))))
 refine .V mv0 ?_
 refine .V bi0 ?_
 refine .V mv0 ?_
 refine .gS rfl rfl rfl rfl rfl rfl ?_
 refine .gS rfl rfl rfl rfl rfl rfl ?_
 refine .gS rfl rfl rfl rfl rfl rfl ?_
 refine .gS rfl rfl rfl rfl rfl rfl ?_
 refine .gS rfl rfl rfl rfl rfl rfl ?_
 refine .V (pkT rfl rfl rfl) ?_
 refine .nil (.seqN ?_)
 refine .cond rfl (fun _ => ?_) (fun e => absurd (e.symm.trans rfl) (by decide))
 refine .exit (.seqX ?_)
 refine .blkY rfl ?_
 refine .seqX (.blkX ?_)
 refine .res0 (.inr rfl) rfl (inl_back (v := .tuple #[]) q74 rfl ?_)
 refine .nil ?_
 refine .res0 (.inr rfl) rfl (inl_back (v := .tuple #[]) q70 rfl ?_)
 refine .nil ?_
 refine .res0 (.inr rfl) rfl (inl_back (v := .tuple #[]) q69 rfl ?_)
 refine .nil (.blkN (.seqN (.region (.V bi0 ?_))))
 refine .V mv0 ?_
 refine .nil ?_
 refine .more ?_
 refine .sub (s' := [(5, .pointer (some pback)), (6, .map (some bv2)), (7, .pointer (some pv4)), (12, iV 0), (64, .slice a27 2 c8), (65, iV 2), (66, iV 1)]) sb ?_
 refine .KA [Box pv6 [.int .u32 0, iV 2, iV 2, iV 0], OwnSl 196 1 a39 1 c9 [.pointer (some pv6)], OwnSl 165 2 a27 2 c8 [.int .u32 0, iV 2, .int .u32 3, iV 2], Box pv4 [.slice a39 1 c9, .map (some bv3), iV 2], OwnMapI bv3 .u32 (fun v : Value => v) ([(0, .pointer (some pv6))] : List (Int × Value)), OwnMapI bv2 .u32 (fun v : Value => v) ([(0, iV 2), (3, iV 0)] : List (Int × Value)), Box pback [.map (some bv)], OwnMapI bv .u32 (fun v : Value => v) ([(3, .slice a27 2 c8)] : List (Int × Value)), MkA (D2 :: D :: []), Box pv [iV 0, iV 0]] ?_
 refine .seq (.region (.V bi0 ?_))
 refine .nil (.seqN (.seq ?_))
 refine .cond rfl (fun _ => ?_) (fun e => absurd (e.symm.trans rfl) (by decide))
 refine .skip (.seqN (.seq (.block (.seq (.region (.V (ixS rfl rfl tS163 (k := 2) rfl (And.intro (by decide) (by decide))) ?_))))))
 refine .V (ldA (cs := [.int .u32 3, iV 2]) rfl tA165 rfl (cellsO (k := 2) rfl (rawE rfl))) ?_
 refine al tZ165 rfl (fun pa2 => ?_)
 refine st (p := pa2) (off := 0) (k := 0) (vs := [.int .u32 3, iV 2]) rfl rfl rfl (fun w => (tA165 w).2) rfl rfl rfl rfl ?_
 refine .nil (.seqN (.seq (.region (.V mv0 ?_))))
 refine .V (fa rfl tF165_1) ?_
 refine .V (ld1 rfl tO3 (cellB (off := 1) (k := 0) rfl rfl)) ?_
 refine .V bi0 ?_
 refine .V mv0 ?_
 refine .V (fa rfl tF165_0) ?_
 refine .V (ld1 rfl tO60 (cellB (off := 0) (k := 0) rfl rfl)) ?_
 refine .V (lkI (enc := fun v : Value => v) (m := ([(0, iV 2), (3, iV 0)] : List (Int × Value))) (k := 3) (iV 0) tMR141 rfl rfl (q := 6) rfl) ?_
 refine .V bi0 ?_
 refine .nil (.seqN ?_)
 refine .cond rfl (fun e => absurd (e.symm.trans rfl) (by decide)) (fun _ => ?_)
 refine .skip (.blkN (.seqN (.region (.V bi0 ?_))))
 refine .V mv0 ?_
 refine .nil ?_
 refine .more ?_
 refine .sub (s' := [(5, .pointer (some pback)), (6, .map (some bv2)), (7, .pointer (some pv4)), (12, iV 0), (64, .slice a27 2 c8), (65, iV 2), (66, iV 2)]) sb ?_
 refine .sel0 [1, 2, 3, 4, 5, 6, 7, 8, 9, 10] (by decide) rfl ?_
 refine .KA [Box pv6 [.int .u32 0, iV 2, iV 2, iV 0], OwnSl 196 1 a39 1 c9 [.pointer (some pv6)], OwnSl 165 2 a27 2 c8 [.int .u32 0, iV 2, .int .u32 3, iV 2], Box pv4 [.slice a39 1 c9, .map (some bv3), iV 2], OwnMapI bv3 .u32 (fun v : Value => v) ([(0, .pointer (some pv6))] : List (Int × Value)), OwnMapI bv2 .u32 (fun v : Value => v) ([(0, iV 2), (3, iV 0)] : List (Int × Value)), Box pback [.map (some bv)], OwnMapI bv .u32 (fun v : Value => v) ([(3, .slice a27 2 c8)] : List (Int × Value)), MkA (D2 :: D :: []), Box pv [iV 0, iV 0]] ?_
 refine .seq (.region (.V bi0 ?_))
 refine .nil (.seqN (.seq ?_))
 refine .cond rfl (fun e => absurd (e.symm.trans rfl) (by decide)) (fun _ => ?_)
 refine .exit (.seqX (.seqX (.blkX (.blkN ?_))))
 refine .more ?_
 refine .sub (s' := [(5, .pointer (some pback)), (6, .map (some bv2)), (7, .pointer (some pv4))]) sb ?_
 refine .KA [Box pv6 [.int .u32 0, iV 2, iV 2, iV 0], OwnSl 196 1 a39 1 c9 [.pointer (some pv6)], OwnSl 165 2 a27 2 c8 [.int .u32 0, iV 2, .int .u32 3, iV 2], Box pv4 [.slice a39 1 c9, .map (some bv3), iV 2], OwnMapI bv3 .u32 (fun v : Value => v) ([(0, .pointer (some pv6))] : List (Int × Value)), OwnMapI bv2 .u32 (fun v : Value => v) ([(0, iV 2), (3, iV 0)] : List (Int × Value)), Box pback [.map (some bv)], OwnMapI bv .u32 (fun v : Value => v) ([(3, .slice a27 2 c8)] : List (Int × Value)), MkA (D2 :: D :: []), Box pv [iV 0, iV 0]] ?_
 refine .seq (.seq (.region (.V mv0 ?_)))
 refine .inl Tryz.func102 rfl Tryz.ntmps102 Tryz.call102 rfl rfl rfl rfl (fun a42 q75 => ?_)
 refine .KA [Box pv6 [.int .u32 0, iV 2, iV 2, iV 0], OwnSl 196 1 a39 1 c9 [.pointer (some pv6)], OwnSl 165 2 a27 2 c8 [.int .u32 0, iV 2, .int .u32 3, iV 2], Box pv4 [.slice a39 1 c9, .map (some bv3), iV 2], OwnMapI bv3 .u32 (fun v : Value => v) ([(0, .pointer (some pv6))] : List (Int × Value)), OwnMapI bv2 .u32 (fun v : Value => v) ([(0, iV 2), (3, iV 0)] : List (Int × Value)), Box pback [.map (some bv)], OwnMapI bv .u32 (fun v : Value => v) ([(3, .slice a27 2 c8)] : List (Int × Value)), MkA (D2 :: D :: []), Box pv [iV 0, iV 0]] ?_
 refine .seq (.region (.V ag0 ?_))
 refine .nil (.seqN (.seq (.region (.V mv0 ?_))))
 refine .V (nck rfl) ?_
 refine .V (fa rfl tF195_0) ?_
 refine .V (ld1 rfl tO193 (cellB (off := 0) (k := 3) rfl rfl)) ?_
 refine .V (ln rfl tS193.is) ?_
 refine .V ag0 ?_
 refine .nil (.seqN (.ret ?_))
 refine .res1 rfl (rvT rfl) (inl_back (v := iV 1) q75 rfl ?_)
 refine .V bi0 ?_
 refine .nil (.seqN ?_)
 refine .cond rfl (fun _ => ?_) (fun e => absurd (e.symm.trans rfl) (by decide))
 refine .skip (.seqN (.block (.seq (.region (.V mv0 ?_)))))
 refine .inl Tryz.func103 rfl Tryz.ntmps103 Tryz.call103 rfl rfl rfl rfl (fun a43 q76 => ?_)
 refine .KA [Box pv6 [.int .u32 0, iV 2, iV 2, iV 0], OwnSl 196 1 a39 1 c9 [.pointer (some pv6)], OwnSl 165 2 a27 2 c8 [.int .u32 0, iV 2, .int .u32 3, iV 2], Box pv4 [.slice a39 1 c9, .map (some bv3), iV 2], OwnMapI bv3 .u32 (fun v : Value => v) ([(0, .pointer (some pv6))] : List (Int × Value)), OwnMapI bv2 .u32 (fun v : Value => v) ([(0, iV 2), (3, iV 0)] : List (Int × Value)), Box pback [.map (some bv)], OwnMapI bv .u32 (fun v : Value => v) ([(3, .slice a27 2 c8)] : List (Int × Value)), MkA (D2 :: D :: []), Box pv [iV 0, iV 0]] ?_
 refine .seq (.region (.V ag0 ?_))
 refine .V ag0 ?_
 refine .V ag0 ?_
 refine .nil (.seqN (.seq (.seq (.region (.V mv0 ?_)))))
 refine .V (nck rfl) ?_
 refine .V (fa rfl tF195_0) ?_
 refine .V (ld1 rfl tO193 (cellB (off := 0) (k := 3) rfl rfl)) ?_
 refine .V (ln rfl tS193.is) ?_
 refine .V bi0 ?_
 refine .nil (.seqN ?_)
 refine .cond rfl (fun e => absurd (e.symm.trans rfl) (by decide)) (fun _ => ?_)
 refine .skip (.seqN (.seq (.region (.V mv0 ?_))))
 refine .V (nck rfl) ?_
 refine .V (fa rfl tF195_0) ?_
 refine .V (mkI tC201 rfl) ?_
 refine .inl Tryz.func133 rfl Tryz.ntmps133 Tryz.call133 rfl rfl rfl rfl (fun a44 q77 => ?_)
 refine .KA [Box pv6 [.int .u32 0, iV 2, iV 2, iV 0], OwnSl 196 1 a39 1 c9 [.pointer (some pv6)], OwnSl 165 2 a27 2 c8 [.int .u32 0, iV 2, .int .u32 3, iV 2], Box pv4 [.slice a39 1 c9, .map (some bv3), iV 2], OwnMapI bv3 .u32 (fun v : Value => v) ([(0, .pointer (some pv6))] : List (Int × Value)), OwnMapI bv2 .u32 (fun v : Value => v) ([(0, iV 2), (3, iV 0)] : List (Int × Value)), Box pback [.map (some bv)], OwnMapI bv .u32 (fun v : Value => v) ([(3, .slice a27 2 c8)] : List (Int × Value)), MkA (D2 :: D :: []), Box pv [iV 0, iV 0]] ?_
 refine .seq (.region (.V ag0 ?_))
 refine .nil (.seqN (.seq (.region (.V mv0 ?_))))
 refine .inlV Tryz.func167 rfl Tryz.ntmps167 Tryz.call167 tm201_Len rfl (cellB (off := 0) (k := 3) rfl rfl) rfl rfl (fun a45 q78 => ?_)
 refine .KA [Box pv6 [.int .u32 0, iV 2, iV 2, iV 0], OwnSl 196 1 a39 1 c9 [.pointer (some pv6)], OwnSl 165 2 a27 2 c8 [.int .u32 0, iV 2, .int .u32 3, iV 2], Box pv4 [.slice a39 1 c9, .map (some bv3), iV 2], OwnMapI bv3 .u32 (fun v : Value => v) ([(0, .pointer (some pv6))] : List (Int × Value)), OwnMapI bv2 .u32 (fun v : Value => v) ([(0, iV 2), (3, iV 0)] : List (Int × Value)), Box pback [.map (some bv)], OwnMapI bv .u32 (fun v : Value => v) ([(3, .slice a27 2 c8)] : List (Int × Value)), MkA (D2 :: D :: []), Box pv [iV 0, iV 0]] ?_
 refine .seq (.region (.V ag0 ?_))
 refine .nil (.seqN (.seq (.region (.V mv0 ?_))))
 refine .V (ln rfl tS193.is) ?_
 refine .V ag0 ?_
 refine .nil (.seqN (.ret ?_))
 refine .res1 rfl (rvT rfl) (inl_back (v := iV 1) q78 rfl ?_)
 refine .V bi0 ?_
 refine .V ag0 ?_
 refine .nil (.seqN (.seq (.region (.V mv0 ?_))))
 refine .V mv0 ?_
 refine .inlV Tryz.func169 rfl Tryz.ntmps169 Tryz.call169 tm201_Swap rfl (cellB (off := 0) (k := 3) rfl rfl) rfl rfl (fun a46 q79 => ?_)
 refine .KA [Box pv6 [.int .u32 0, iV 2, iV 2, iV 0], OwnSl 196 1 a39 1 c9 [.pointer (some pv6)], OwnSl 165 2 a27 2 c8 [.int .u32 0, iV 2, .int .u32 3, iV 2], Box pv4 [.slice a39 1 c9, .map (some bv3), iV 2], OwnMapI bv3 .u32 (fun v : Value => v) ([(0, .pointer (some pv6))] : List (Int × Value)), OwnMapI bv2 .u32 (fun v : Value => v) ([(0, iV 2), (3, iV 0)] : List (Int × Value)), Box pback [.map (some bv)], OwnMapI bv .u32 (fun v : Value => v) ([(3, .slice a27 2 c8)] : List (Int × Value)), MkA (D2 :: D :: []), Box pv [iV 0, iV 0]] ?_
 refine .seq ?_
 refine .openA (s0 := [(0, .slice a39 1 c9), (1, iV 0), (2, iV 0)]) [0, 1, 2, 3, 4, 5, 6, 7, 8, 9, 10, 11, 12] [(0, .slice a39 1 c9), (1, iV 0), (2, .slice a39 1 c9), (3, iV 0), (4, .slice a39 1 c9), (5, iV 0), (6, .pointer (some (ead a39 ((0 : Int).toNat * 1)))), (7, .pointer (some pv6)), (8, .slice a39 1 c9), (9, iV 0), (10, .pointer (some (ead a39 ((0 : Int).toNat * 1)))), (11, .pointer (some pv6)), (12, .pointer (some (ead a39 ((0 : Int).toNat * 1))))] (by kernel_rfl) sb [0, 1, 2] [] rfl (by kernel_rfl) ?_
 refine .step [13] 13 rfl (by kernel_rfl) (by kernel_rfl) (.v [] rfl rfl rfl rfl rfl rfl (fun _ => mv rfl) (.v [] rfl rfl rfl rfl rfl rfl (fun _ => mv rfl) (.v [] rfl rfl rfl rfl rfl rfl (fun _ => mv rfl) (.v [] rfl rfl rfl rfl rfl rfl (fun _ => mv rfl) (.v [] rfl rfl rfl rfl rfl rfl (fun _ => mv rfl) (.v [] rfl rfl rfl rfl rfl rfl (fun _ => mv rfl) (.v [(10, .slice a39 1 c9), (11, iV 0)] rfl rfl rfl rfl rfl rfl (fun _ => ixS rfl rfl tS193 (k := 1) rfl (And.intro (by decide) (by decide))) (.v [(12, .pointer (some (ead a39 ((0 : Int).toNat * 1))))] rfl rfl rfl rfl rfl rfl (fun _ => ld1 (v := .pointer (some pv6)) rfl tO196 (cellS (k := 1) rfl rfl)) (.v [] rfl rfl rfl rfl rfl rfl (fun _ => mv rfl) (.v [] rfl rfl rfl rfl rfl rfl (fun _ => mv rfl) (.v [(14, .slice a39 1 c9), (15, iV 0)] rfl rfl rfl rfl rfl rfl (fun _ => ixS rfl rfl tS193 (k := 1) rfl (And.intro (by decide) (by decide))) (.v [(16, .pointer (some (ead a39 ((0 : Int).toNat * 1))))] rfl rfl rfl rfl rfl rfl (fun _ => ld1 (v := .pointer (some pv6)) rfl tO196 (cellS (k := 1) rfl rfl)) (.v [(6, .slice a39 1 c9), (7, iV 0), (6, .slice a39 1 c9), (7, iV 0), (10, .slice a39 1 c9), (11, iV 0), (12, .pointer (some (ead a39 ((0 : Int).toNat * 1)))), (13, .pointer (some pv6)), (17, .pointer (some pv6))] rfl rfl rfl rfl rfl rfl (fun _ => ixS rfl rfl tS193 (k := 1) rfl (And.intro (by decide) (by decide))) (.nil)))))))))))))) (.cons [(18, .pointer (some (ead a39 ((0 : Int).toNat * 1)))), (13, .pointer (some pv6)), (6, .slice a39 1 c9), (7, iV 0), (10, .slice a39 1 c9), (11, iV 0), (12, .pointer (some (ead a39 ((0 : Int).toNat * 1)))), (13, .pointer (some pv6)), (17, .pointer (some pv6))] rfl rfl (fun sL hL => ?_) (.nil))
 refine stS (k := 1) (cs' := [.pointer (some pv6)]) rfl (fun _ => rfl) rfl rfl (fun w => (tO196 w).2) rfl rfl rfl (by decide) (Nat.le_of_ble_eq_true rfl) rfl ?_
 refine .nil ?_
 refine .jaN (M := [12, 7, 0, 1, 4, 5, 6, 11, 10, 8, 9]) (C' := [2, 3, 14]) (pre := [(14, .pointer (some (ead a39 ((0 : Int).toNat * 1))))]) [0, 1, 2] hL rfl rfl rfl rfl rfl (by kernel_rfl) ?_
 refine .step [15] 15 rfl (by kernel_rfl) (by kernel_rfl) (.v [] rfl rfl rfl rfl rfl rfl (fun _ => mv rfl) (.v [] rfl rfl rfl rfl rfl rfl (fun _ => mv rfl) (.v [(8, .slice a39 1 c9), (9, iV 0), (6, .slice a39 1 c9), (7, iV 0), (8, .slice a39 1 c9), (9, iV 0), (10, .slice a39 1 c9), (11, iV 0), (12, .pointer (some (ead a39 ((0 : Int).toNat * 1)))), (13, .pointer (some pv6)), (14, .slice a39 1 c9), (15, iV 0), (16, .pointer (some (ead a39 ((0 : Int).toNat * 1)))), (17, .pointer (some pv6)), (18, .pointer (some (ead a39 ((0 : Int).toNat * 1))))] rfl rfl rfl rfl rfl rfl (fun _ => ixS rfl rfl tS193 (k := 1) rfl (And.intro (by decide) (by decide))) (.nil)))) (.cons [(19, .pointer (some (ead a39 ((0 : Int).toNat * 1)))), (17, .pointer (some pv6)), (6, .slice a39 1 c9), (7, iV 0), (8, .slice a39 1 c9), (9, iV 0), (10, .slice a39 1 c9), (11, iV 0), (12, .pointer (some (ead a39 ((0 : Int).toNat * 1)))), (13, .pointer (some pv6)), (14, .slice a39 1 c9), (15, iV 0), (16, .pointer (some (ead a39 ((0 : Int).toNat * 1)))), (17, .pointer (some pv6)), (18, .pointer (some (ead a39 ((0 : Int).toNat * 1))))] rfl rfl (fun sL hL => ?_) (.nil))
 refine stS (k := 1) (cs' := [.pointer (some pv6)]) rfl (fun _ => rfl) rfl rfl (fun w => (tO196 w).2) rfl rfl rfl (by decide) (Nat.le_of_ble_eq_true rfl) rfl ?_
 refine .nil ?_
 refine .jaN (M := [14, 2, 3]) (C' := []) (pre := []) [0, 1, 2] hL rfl rfl rfl rfl rfl (by kernel_rfl) ?_
 refine .last [(6, .slice a39 1 c9), (7, iV 0), (8, .slice a39 1 c9), (9, iV 0), (10, .slice a39 1 c9), (11, iV 0), (12, .pointer (some (ead a39 ((0 : Int).toNat * 1)))), (13, .pointer (some pv6)), (14, .slice a39 1 c9), (15, iV 0), (16, .pointer (some (ead a39 ((0 : Int).toNat * 1)))), (17, .pointer (some pv6)), (18, .pointer (some (ead a39 ((0 : Int).toNat * 1)))), (19, .pointer (some (ead a39 ((0 : Int).toNat * 1))))] rfl (by kernel_rfl) (.nil) rfl ?_
 refine .seqN ?_
 refine .openA (s0 := [(0, .slice a39 1 c9), (1, iV 0), (2, iV 0)]) [0, 1, 2, 3, 4, 5, 6, 7, 8, 9, 10, 11] [(0, .slice a39 1 c9), (1, iV 0), (2, .pointer (some (ead a39 ((0 : Int).toNat * 1)))), (3, .pointer (some pv6)), (4, .slice a39 1 c9), (5, iV 0), (6, .pointer (some (ead a39 ((0 : Int).toNat * 1)))), (7, .pointer (some pv6)), (8, iV 0), (9, iV 0), (10, .pointer (some pv6)), (11, .pointer (some (pv6.add 3)))] (by kernel_rfl) sb [0, 1, 2] [] rfl (by kernel_rfl) ?_
 refine .step [12] 12 rfl (by kernel_rfl) (by kernel_rfl) (.v [] rfl rfl rfl rfl rfl rfl (fun _ => mv rfl) (.v [] rfl rfl rfl rfl rfl rfl (fun _ => mv rfl) (.v [(20, .slice a39 1 c9), (21, iV 0)] rfl rfl rfl rfl rfl rfl (fun _ => ixS rfl rfl tS193 (k := 1) rfl (And.intro (by decide) (by decide))) (.v [(22, .pointer (some (ead a39 ((0 : Int).toNat * 1))))] rfl rfl rfl rfl rfl rfl (fun _ => ld1 (v := .pointer (some pv6)) rfl tO196 (cellS (k := 1) rfl rfl)) (.v [] rfl rfl rfl rfl rfl rfl (fun _ => mv rfl) (.v [] rfl rfl rfl rfl rfl rfl (fun _ => mv rfl) (.v [(24, .slice a39 1 c9), (25, iV 0)] rfl rfl rfl rfl rfl rfl (fun _ => ixS rfl rfl tS193 (k := 1) rfl (And.intro (by decide) (by decide))) (.v [(26, .pointer (some (ead a39 ((0 : Int).toNat * 1))))] rfl rfl rfl rfl rfl rfl (fun _ => ld1 (v := .pointer (some pv6)) rfl tO196 (cellS (k := 1) rfl rfl)) (.v [] rfl rfl rfl rfl rfl rfl (fun _ => mv rfl) (.v [] rfl rfl rfl rfl rfl rfl (fun _ => mv rfl) (.v [(23, .pointer (some pv6)), (20, .slice a39 1 c9), (21, iV 0), (22, .pointer (some (ead a39 ((0 : Int).toNat * 1)))), (23, .pointer (some pv6)), (27, .pointer (some pv6)), (28, iV 0)] rfl rfl rfl rfl rfl rfl (fun _ => nck rfl) (.v [(30, .pointer (some pv6)), (20, .slice a39 1 c9), (21, iV 0), (22, .pointer (some (ead a39 ((0 : Int).toNat * 1)))), (23, .pointer (some pv6)), (27, .pointer (some pv6)), (28, iV 0)] rfl rfl rfl rfl rfl rfl (fun _ => fa rfl tF199_3) (.nil))))))))))))) (.cons [(31, .pointer (some (pv6.add 3))), (28, iV 0), (20, .slice a39 1 c9), (21, iV 0), (22, .pointer (some (ead a39 ((0 : Int).toNat * 1)))), (23, .pointer (some pv6)), (27, .pointer (some pv6)), (28, iV 0)] rfl rfl (fun sL hL => ?_) (.nil))
 refine st (p := pv6) (off := 3) (k := 0) (vs := [iV 0]) rfl rfl rfl (fun w => (tO3 w).2) rfl rfl rfl rfl ?_
 refine .nil ?_
 refine .jaN (M := [11, 8, 0, 1, 2, 3, 7, 10, 6, 4, 5]) (C' := [9, 13, 14]) (pre := [(13, .pointer (some pv6)), (14, .pointer (some (pv6.add 3)))]) [0, 1, 2] hL rfl rfl rfl rfl rfl (by kernel_rfl) ?_
 refine .step [15] 15 rfl (by kernel_rfl) (by kernel_rfl) (.v [] rfl rfl rfl rfl rfl rfl (fun _ => mv rfl) (.v [(27, .pointer (some pv6)), (20, .slice a39 1 c9), (21, iV 0), (22, .pointer (some (ead a39 ((0 : Int).toNat * 1)))), (23, .pointer (some pv6)), (24, .slice a39 1 c9), (25, iV 0), (26, .pointer (some (ead a39 ((0 : Int).toNat * 1)))), (27, .pointer (some pv6)), (28, iV 0), (29, iV 0), (30, .pointer (some pv6)), (31, .pointer (some (pv6.add 3)))] rfl rfl rfl rfl rfl rfl (fun _ => nck rfl) (.v [(32, .pointer (some pv6)), (20, .slice a39 1 c9), (21, iV 0), (22, .pointer (some (ead a39 ((0 : Int).toNat * 1)))), (23, .pointer (some pv6)), (24, .slice a39 1 c9), (25, iV 0), (26, .pointer (some (ead a39 ((0 : Int).toNat * 1)))), (27, .pointer (some pv6)), (28, iV 0), (29, iV 0), (30, .pointer (some pv6)), (31, .pointer (some (pv6.add 3)))] rfl rfl rfl rfl rfl rfl (fun _ => fa rfl tF199_3) (.nil)))) (.cons [(33, .pointer (some (pv6.add 3))), (29, iV 0), (20, .slice a39 1 c9), (21, iV 0), (22, .pointer (some (ead a39 ((0 : Int).toNat * 1)))), (23, .pointer (some pv6)), (24, .slice a39 1 c9), (25, iV 0), (26, .pointer (some (ead a39 ((0 : Int).toNat * 1)))), (27, .pointer (some pv6)), (28, iV 0), (29, iV 0), (30, .pointer (some pv6)), (31, .pointer (some (pv6.add 3)))] rfl rfl (fun sL hL => ?_) (.nil))
 refine st (p := pv6) (off := 3) (k := 0) (vs := [iV 0]) rfl rfl rfl (fun w => (tO3 w).2) rfl rfl rfl rfl ?_
 refine .nil ?_
 refine .jaN (M := [14, 9, 13]) (C' := []) (pre := []) [0, 1, 2] hL rfl rfl rfl rfl rfl (by kernel_rfl) ?_
 refine .last [(20, .slice a39 1 c9), (21, iV 0), (22, .pointer (some (ead a39 ((0 : Int).toNat * 1)))), (23, .pointer (some pv6)), (24, .slice a39 1 c9), (25, iV 0), (26, .pointer (some (ead a39 ((0 : Int).toNat * 1)))), (27, .pointer (some pv6)), (28, iV 0), (29, iV 0), (30, .pointer (some pv6)), (31, .pointer (some (pv6.add 3))), (32, .pointer (some pv6)), (33, .pointer (some (pv6.add 3)))] rfl (by kernel_rfl) (.nil) rfl ?_
 refine .res0 (.inr rfl) rfl (inl_back (v := .tuple #[]) q79 rfl ?_)
 refine .nil (.seqN (.seq (.region (.V mv0 ?_))))
 refine .V mv0 ?_
 refine .inl Tryz.func145 rfl Tryz.ntmps145 Tryz.call145 rfl rfl rfl rfl (fun a47 q80 => ?_)
 refine .KA [Box pv6 [.int .u32 0, iV 2, iV 2, iV 0], OwnSl 196 1 a39 1 c9 [.pointer (some pv6)], OwnSl 165 2 a27 2 c8 [.int .u32 0, iV 2, .int .u32 3, iV 2], Box pv4 [.slice a39 1 c9, .map (some bv3), iV 2], OwnMapI bv3 .u32 (fun v : Value => v) ([(0, .pointer (some pv6))] : List (Int × Value)), OwnMapI bv2 .u32 (fun v : Value => v) ([(0, iV 2), (3, iV 0)] : List (Int × Value)), Box pback [.map (some bv)], OwnMapI bv .u32 (fun v : Value => v) ([(3, .slice a27 2 c8)] : List (Int × Value)), MkA (D2 :: D :: []), Box pv [iV 0, iV 0]] ?_
 refine .seq (.region (.V ag0 ?_))
 refine .nil (.seqN (.seq (.region (.V mv0 ?_))))
 refine .V ag0 ?_
 refine .nil (.seqN (.seq (.block ?_)))
 refine .rounds 90 ?_
 refine .block (.seq (.region (.V mv0 ?_)))
 refine .V bi0 ?_
 refine .V bi0 ?_
 refine .V ag0 ?_
 refine .nil (.seqN (.seq (.seq (.region (.V mv0 ?_)))))
 refine .V mv0 ?_
 refine .V bi0 ?_
 refine .V mv0 ?_
 refine .gS rfl rfl rfl rfl rfl rfl ?_
 refine .gS rfl rfl rfl rfl rfl rfl ?_
 refine .V (pkT rfl rfl rfl) ?_
 refine .nil (.seqN ?_)
 refine .cond rfl (fun _ => ?_) (fun e => absurd (e.symm.trans rfl) (by decide))
 refine .exit (.seqX ?_)
 refine .blkY rfl ?_
 refine .seqX (.blkX (.seqN (.seq (.region (.V mv0 ?_)))))
 refine .V mv0 ?_
 refine .V bi0 ?_
 refine .V ag0 ?_
 refine .nil (.seqN (.ret ?_))
 refine .res1 rfl (rvT rfl) (inl_back (v := .bool false) q80 rfl ?_)
 refine .nil (.seqN (.seq (.region (.V mv0 ?_))))
 refine .inlI Tryz.func170 rfl Tryz.ntmps170 Tryz.call170 tm201_Pop rfl rfl rfl (fun a48 q81 => ?_)
 refine .KA [Box pv6 [.int .u32 0, iV 2, iV 2, iV 0], OwnSl 196 1 a39 1 c9 [.pointer (some pv6)], OwnSl 165 2 a27 2 c8 [.int .u32 0, iV 2, .int .u32 3, iV 2], Box pv4 [.slice a39 1 c9, .map (some bv3), iV 2], OwnMapI bv3 .u32 (fun v : Value => v) ([(0, .pointer (some pv6))] : List (Int × Value)), OwnMapI bv2 .u32 (fun v : Value => v) ([(0, iV 2), (3, iV 0)] : List (Int × Value)), Box pback [.map (some bv)], OwnMapI bv .u32 (fun v : Value => v) ([(3, .slice a27 2 c8)] : List (Int × Value)), MkA (D2 :: D :: []), Box pv [iV 0, iV 0]] ?_
 refine .seq (.region (.V ag0 ?_))
 refine .nil (.seqN (.seq (.region (.V mv0 ?_))))
 refine .V (nck rfl) ?_
 refine .V (ld1 rfl tO193 (cellB (off := 0) (k := 3) rfl rfl)) ?_
 refine .V ag0 ?_
 refine .nil (.seqN (.seq (.region (.V mv0 ?_))))
 refine .V mv0 ?_
 refine .V (ln rfl tS193.is) ?_
 refine .V bi0 ?_
 refine .V (ixS rfl rfl tS193 (k := 1) rfl (And.intro (by decide) (by decide))) ?_
 refine .V (ld1 (v := .pointer (some pv6)) rfl tO196 (cellS (k := 1) rfl rfl)) ?_
 refine .V ag0 ?_
 refine .nil (.seqN (.seq ?_))
 refine .fact (fun w S => look_len S (k := 1) rfl) (fun q82 => ?_)
 refine .region (.V mv0 ?_)
 refine .V mv0 ?_
 refine .V mv0 ?_
 refine .V (ln rfl tS193.is) ?_
 refine .V bi0 ?_
 refine .V (slH tS193 rfl rfl (by decide) rfl (Nat.le_trans (show 0 ≤ 1 by decide) q82)) ?_
 refine .shrink (k := 1) (cs' := []) rfl (show 0 ≤ 1 by decide) rfl ?_
 refine .V (nck rfl) ?_
 refine st (p := pv4) (off := 0) (k := 3) (vs := [.slice a39 0 c9]) rfl rfl rfl (fun w => (tO193 w).2) rfl rfl rfl rfl ?_
 refine .nil (.seqN (.seq (.region (.V mv0 ?_))))
 refine .V (mkI tC196 rfl) ?_
 refine .V ag0 ?_
 refine .nil (.seqN (.ret ?_))
 refine .res1 rfl (rvT rfl) (inl_back (v := .iface 196 (.pointer (some pv6))) q81 rfl ?_)
 refine .V ag0 ?_
 refine .nil (.seqN (.ret ?_))
 refine .res1 rfl (rvT rfl) (inl_back (v := .iface 196 (.pointer (some pv6))) q77 rfl ?_)
 refine .V (tas tC196 rfl) ?_
 refine .V ag0 ?_
 refine .nil (.seqN (.seq ?_))
 refine .openA (s0 := [(0, .pointer (some pv4)), (5, .pointer (some pv6))]) [0, 1, 2, 3, 4, 5, 6, 7] [(0, .pointer (some pv4)), (1, .pointer (some pv4)), (2, .pointer (some (pv4.add 1))), (3, .map (some bv3)), (4, .pointer (some pv6)), (5, .pointer (some pv6)), (6, .pointer (some (pv6.add 0))), (7, .int .u32 0)] (by kernel_rfl) sb [0, 5] [] rfl (by kernel_rfl) ?_
 refine .step [8] 8 rfl (by kernel_rfl) (by kernel_rfl) (.v [] rfl rfl rfl rfl rfl rfl (fun _ => mv rfl) (.v [(19, .pointer (some pv4))] rfl rfl rfl rfl rfl rfl (fun _ => nck rfl) (.v [(20, .pointer (some pv4))] rfl rfl rfl rfl rfl rfl (fun _ => fa rfl tF195_1) (.v [(21, .pointer (some (pv4.add 1)))] rfl rfl rfl rfl rfl rfl (fun _ => ld1 rfl tO191 (cellB (off := 1) (k := 3) rfl rfl)) (.v [] rfl rfl rfl rfl rfl rfl (fun _ => mv rfl) (.v [(23, .pointer (some pv6))] rfl rfl rfl rfl rfl rfl (fun _ => nck rfl) (.v [(24, .pointer (some pv6))] rfl rfl rfl rfl rfl rfl (fun _ => fa rfl tF199_0) (.v [(25, .pointer (some (pv6.add 0)))] rfl rfl rfl rfl rfl rfl (fun _ => ld1 rfl tO60 (cellB (off := 0) (k := 0) rfl rfl)) (.nil))))))))) (.cons [(22, .map (some bv3)), (26, .int .u32 0)] rfl rfl (fun sL hL => ?_) (.nil))
 refine dlI tMR191 rfl rfl (q := 4) rfl rfl ?_
 refine .nil ?_
 refine .jaN (M := [3, 7, 2, 6, 1, 5, 0, 4]) (C' := []) (pre := []) [0, 5] hL rfl rfl rfl rfl rfl (by kernel_rfl) ?_
 refine .last [(19, .pointer (some pv4)), (20, .pointer (some pv4)), (21, .pointer (some (pv4.add 1))), (22, .map (some bv3)), (23, .pointer (some pv6)), (24, .pointer (some pv6)), (25, .pointer (some (pv6.add 0))), (26, .int .u32 0)] rfl (by kernel_rfl) (.nil) rfl ?_
 refine .seqN (.seq ?_)
 refine .openA (s0 := [(5, .pointer (some pv6))]) [0, 1, 2, 3, 4, 5, 6, 7, 8, 9, 10] [(0, .pointer (some pv6)), (1, .pointer (some pv6)), (2, .pointer (some (pv6.add 0))), (3, .int .u32 0), (4, .pointer (some pv6)), (5, .pointer (some pv6)), (6, .pointer (some (pv6.add 1))), (7, iV 2), (8, .int .u32 0), (9, iV 2), (10, .bool true)] (by kernel_rfl) sb [5] [] rfl (by kernel_rfl) ?_
 refine .last [(27, .pointer (some pv6)), (28, .pointer (some pv6)), (29, .pointer (some (pv6.add 0))), (30, .int .u32 0), (31, .pointer (some pv6)), (32, .pointer (some pv6)), (33, .pointer (some (pv6.add 1))), (34, iV 2), (2, .int .u32 0), (3, iV 2), (4, .bool true)] rfl (by kernel_rfl) (.v [] rfl rfl rfl rfl rfl rfl (fun _ => mv rfl) (.v [(27, .pointer (some pv6))] rfl rfl rfl rfl rfl rfl (fun _ => nck rfl) (.v [(28, .pointer (some pv6))] rfl rfl rfl rfl rfl rfl (fun _ => fa rfl tF199_0) (.v [(29, .pointer (some (pv6.add 0)))] rfl rfl rfl rfl rfl rfl (fun _ => ld1 rfl tO60 (cellB (off := 0) (k := 0) rfl rfl)) (.v [] rfl rfl rfl rfl rfl rfl (fun _ => mv rfl) (.v [(31, .pointer (some pv6))] rfl rfl rfl rfl rfl rfl (fun _ => nck rfl) (.v [(32, .pointer (some pv6))] rfl rfl rfl rfl rfl rfl (fun _ => fa rfl tF199_1) (.v [(33, .pointer (some (pv6.add 1)))] rfl rfl rfl rfl rfl rfl (fun _ => ld1 rfl tO3 (cellB (off := 1) (k := 0) rfl rfl)) (.v [(30, .int .u32 0), (27, .pointer (some pv6)), (28, .pointer (some pv6)), (29, .pointer (some (pv6.add 0))), (30, .int .u32 0)] rfl rfl rfl rfl rfl rfl (fun _ => asg rfl) (.v [(34, iV 2), (2, .int .u32 0), (27, .pointer (some pv6)), (28, .pointer (some pv6)), (29, .pointer (some (pv6.add 0))), (30, .int .u32 0), (31, .pointer (some pv6)), (32, .pointer (some pv6)), (33, .pointer (some (pv6.add 1))), (34, iV 2), (2, .int .u32 0)] rfl rfl rfl rfl rfl rfl (fun _ => asg rfl) (.v [(3, iV 2), (27, .pointer (some pv6)), (28, .pointer (some pv6)), (29, .pointer (some (pv6.add 0))), (30, .int .u32 0), (31, .pointer (some pv6)), (32, .pointer (some pv6)), (33, .pointer (some (pv6.add 1))), (34, iV 2), (2, .int .u32 0), (3, iV 2)] rfl rfl rfl rfl rfl rfl (fun _ => asg rfl) (.nil)))))))))))) rfl ?_
 refine .seqN (.ret ?_)
 refine .res3 rfl (rvT rfl) (rvT rfl) (rvT rfl) (inl_back (v := .tuple #[.int .u32 0, iV 2, .bool true]) q76 rfl ?_)
 refine .V mv0 ?_
 refine .V (ext rfl rfl) ?_
 refine .V (ext rfl rfl) ?_
 refine .V (ext rfl rfl) ?_
 refine .V ag0 ?_
 refine .V ag0 ?_
 refine .V ag0 ?_
 refine .nil (.seqN (.seq (.region (.V (ld1 rfl tO159 (cellB (off := 0) (k := 6) rfl rfl)) ?_))))
 refine .V mv0 ?_
 refine .V (lkI (enc := fun v : Value => v) (m := ([(3, .slice a27 2 c8)] : List (Int × Value))) (k := 0) (.slice none 0 0) tMR159 rfl rfl (q := 7) rfl) ?_
 refine .V (ln rfl tS163.is) ?_
 refine .V mv0 ?_
 refine .nil (.seqN (.block ?_))
 refine .rounds 90 ?_
 refine .seq (.region (.V bi0 ?_))
 refine .nil (.seqN (.seq ?_))
 refine .cond rfl (fun e => absurd (e.symm.trans rfl) (by decide)) (fun _ => ?_)
 refine .exit (.seqX (.seqX (.blkX (.blkN ?_))))
 refine .more ?_
 refine .sub (s' := [(5, .pointer (some pback)), (6, .map (some bv2)), (7, .pointer (some pv4))]) sb ?_
 refine .sel0 [1, 2, 3, 4, 5, 6, 7, 8, 9] (by decide) rfl ?_
 refine .KA [OwnSl 196 1 a39 0 c9 [], OwnSl 165 2 a27 2 c8 [.int .u32 0, iV 2, .int .u32 3, iV 2], Box pv4 [.slice a39 0 c9, .map (some bv3), iV 2], OwnMapI bv3 .u32 (fun v : Value => v) ([] : List (Int × Value)), OwnMapI bv2 .u32 (fun v : Value => v) ([(0, iV 2), (3, iV 0)] : List (Int × Value)), Box pback [.map (some bv)], OwnMapI bv .u32 (fun v : Value => v) ([(3, .slice a27 2 c8)] : List (Int × Value)), MkA (D2 :: D :: []), Box pv [iV 0, iV 0]] ?_
 refine .seq (.seq (.region (.V mv0 ?_)))
 refine .inl Tryz.func102 rfl Tryz.ntmps102 Tryz.call102 rfl rfl rfl rfl (fun a49 q83 => ?_)
 refine .KA [OwnSl 196 1 a39 0 c9 [], OwnSl 165 2 a27 2 c8 [.int .u32 0, iV 2, .int .u32 3, iV 2], Box pv4 [.slice a39 0 c9, .map (some bv3), iV 2], OwnMapI bv3 .u32 (fun v : Value => v) ([] : List (Int × Value)), OwnMapI bv2 .u32 (fun v : Value => v) ([(0, iV 2), (3, iV 0)] : List (Int × Value)), Box pback [.map (some bv)], OwnMapI bv .u32 (fun v : Value => v) ([(3, .slice a27 2 c8)] : List (Int × Value)), MkA (D2 :: D :: []), Box pv [iV 0, iV 0]] ?_
 refine .seq (.region (.V ag0 ?_))
 refine .nil (.seqN (.seq (.region (.V mv0 ?_))))
 refine .V (nck rfl) ?_
 refine .V (fa rfl tF195_0) ?_
 refine .V (ld1 rfl tO193 (cellB (off := 0) (k := 2) rfl rfl)) ?_
 refine .V (ln rfl tS193.is) ?_
 refine .V ag0 ?_
 refine .nil (.seqN (.ret ?_))
 refine .res1 rfl (rvT rfl) (inl_back (v := iV 0) q83 rfl ?_)
 refine .V bi0 ?_
 refine .nil (.seqN ?_)
 refine .cond rfl (fun e => absurd (e.symm.trans rfl) (by decide)) (fun _ => ?_)
 refine .exit (.seqX (.seqX (.blkX (.seqN (.seq (.region (.V mv0 ?_)))))))
 refine .V ag0 ?_
 refine .nil (.seqN (.ret ?_))
 refine .resM (k := 7) rfl ?_
 refine .res1 rfl (rvT rfl) (inl_back (v := .map (some bv2)) q40 rfl ?_)
 refine .V mv0 ?_
 refine .inl Tryz.func80 rfl Tryz.ntmps80 Tryz.call80 rfl rfl rfl rfl (fun a50 q84 => ?_)
 refine .sel0 [4, 8] (by decide) rfl ?_
 refine .KA [OwnMapI bv2 .u32 (fun v : Value => v) ([(0, iV 2), (3, iV 0)] : List (Int × Value)), Box pv [iV 0, iV 0]] ?_
 refine .seq (.region (.V ag0 ?_))
 refine .nil (.seqN (.seq (.region (.V mv0 ?_))))
 refine .V (nck rfl) ?_
 refine .V (fa rfl tF112_0) ?_
 refine .V (ld1 (v := .int .u32 0) rfl tO60 (cellH (CellsAt.mono (FH.le_refl _) q35 0 _ rfl))) ?_
 refine .V ag0 ?_
 refine .nil (.seqN (.ret ?_))
 refine .res1 rfl (rvT rfl) (inl_back (v := .int .u32 0) q84 rfl ?_)
 refine .V (lkI (enc := fun v : Value => v) (m := ([(0, iV 2), (3, iV 0)] : List (Int × Value))) (k := 0) (iV 0) tMR141 rfl rfl (q := 0) rfl) ?_
 refine .V (bld (cs := #[iV 0, iV 0]) (pv := []) tB27 rfl rfl) ?_
 refine .V ag0 ?_
 refine st (p := pv) (off := 0) (k := 1) (vs := [iV 0, iV 0]) rfl rfl rfl (fun w => (tA27 w).2) rfl rfl rfl rfl ?_
 refine .nil (.seqN (.ret ?_))
 refine .res2 rfl (rvT rfl) (rvC rfl tA27 (k := 1) rfl rfl) (fun w' S => ⟨(2, (⟨0, 0⟩ : Fault)), hF, rfl, S.below⟩)
theorem c_optimalL {h : FH} {w : World} (hs : Sub h w) (t : Task) (at_ : Option Addr) (ct : Nat) (_q1 : RSl h at_ t.init) (_q2 : t.init.length ≤ ct) (at_2 : Option Addr) (ct2 : Nat) (_q3 : RSl h at_2 t.goal) (_q4 : t.goal.length ≤ ct2) (at_3 : Option Addr) (ct3 : Nat) (_q5 : RSl h at_3 t.ops) (_q6 : t.ops.length ≤ ct3) (hp : pre_optimalL t) : Calls Tryz.prog 56 #[.agg #[iV t.facts, .slice at_ t.init.length ct, .slice at_2 t.goal.length ct2, .slice at_3 t.ops.length ct3]] w fun e w' => e = .returned (.tuple #[iV (sp_optimalL t).1, .agg #[iV (sp_optimalL t).2.code, iV (sp_optimalL t).2.index]]) ∧ Below w.heap.size w w' :=
 (w_optimalL hs t at_ ct _q1 _q2 at_2 ct2 _q3 _q4 at_3 ct3 _q5 _q6 (fun r => r = sp_optimalL t) (ok_optimalL t hp)).mono fun _ _ ⟨_, hk, he, hb⟩ => ⟨by rw [he, hk], hb⟩
end Go.Proofs.YtimillpakjgnoaaGreatDoor.Pl

