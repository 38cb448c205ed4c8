import Derived.Test.YtimillpakjgnoaaGreatM1
import Derived.Test.YtimillpakjgnoaaGreatM3
namespace Go.Proofs.YtimillpakjgnoaaGreat.Pl
open Go Go.RowKit
set_option maxHeartbeats 8000000 in
theorem w_all {h : FH} {w : World} (hs : Sub h w) (x : WordsT) (ax : Option Addr) (cx : Nat) (_q1 : RSl h ax x.ops) (_q2 : x.ops.length ≤ cx) (px : Addr) (_q3 : CellsAt h px [.int .u32 x.start, .int .u32 x.goal, .slice ax x.ops.length cx]) (K : (List Int × Bool) → Prop) (hF : F_all x K) : Calls Tryz.prog 41 #[.iface 56 (.pointer (some px))] w fun e w' => ∃ (r : List Int × Bool) (z : Option Addr × Nat) (h1 : FH), K r ∧ e = .returned (.tuple #[.slice z.1 r.1.length z.2, .bool r.2]) ∧ FH.le h h1 ∧ True ∧ SH (Kp.all w h) h1 w' [OwnSl 62 1 z.1 r.1.length z.2 (flL (α := W32) r.1)] := by
 refine enterM (args := [.iface 56 (vP px)]) Tryz.func41 rfl Tryz.ntmps41 rfl hs ?_
 refine .seq (.region (.V ag0 ?_))
 refine .V ag0 ?_
 refine .nil (.seqN (.seq (.region (.V mv0 ?_))))
 refine .inlI Tryz.func22 rfl Tryz.ntmps22 Tryz.call22 tm56_Start rfl rfl rfl (fun a q23 => ?_)
 refine .seq (.region (.V ag0 ?_))
 refine .nil (.seqN (.seq (.region (.V mv0 ?_))))
 refine .V (nck rfl) ?_
 refine .V (fa rfl tF105_0) ?_
 refine .V (ld1 (v := .int .u32 x.start) rfl tO62 (cellH (CellsAt.mono (FH.le_refl _) _q3 0 _ rfl))) ?_
 refine .V ag0 ?_
 refine .nil (.seqN (.ret ?_))
 refine .res1 rfl (rvT rfl) (inl_back (v := .int .u32 x.start) q23 rfl ?_)
 refine .KA [MkA []] ?_
 refine bs2 (cs := #[.int .u32 x.start]) (pv := [(0, .int .u32 x.start)]) tS57 rfl rfl (by decide) (by decide) rfl rfl rfl (fun a2 _ => ?_)
 refine .KA [OwnSl 62 1 a2 (([x.start] : List Int).length) 1 (flL (α := W32) ([x.start] : List Int)), MkA []] ?_
 refine al tZ57 rfl (fun pstack => ?_)
 refine st (p := pstack) (off := 0) (k := 0) (vs := [vSl a2 ([x.start] : List Int) 1]) rfl rfl rfl (fun w => (tO57 w).2) rfl rfl rfl rfl ?_
 refine .KA [Box pstack [vSl a2 ([x.start] : List Int) 1], OwnSl 62 1 a2 (([x.start] : List Int).length) 1 (flL (α := W32) ([x.start] : List Int)), MkA []] ?_
 refine .nil (.seqN (.seq (.region ?_)))
 refine mmI .u32 (fun _ : Unit => .agg #[]) rfl (fun bv => ?_)
 refine .KA [OwnMapI bv .u32 (fun _ : Unit => .agg #[]) ([] : List (Int × Unit)), Box pstack [vSl a2 ([x.start] : List Int) 1], OwnSl 62 1 a2 (([x.start] : List Int).length) 1 (flL (α := W32) ([x.start] : List Int)), MkA []] ?_
 refine .V mv0 ?_
 refine .inlI Tryz.func22 rfl Tryz.ntmps22 Tryz.call22 tm56_Start rfl rfl rfl (fun a3 q24 => ?_)
 refine .seq (.region (.V ag0 ?_))
 refine .nil (.seqN (.seq (.region (.V mv0 ?_))))
 refine .V (nck rfl) ?_
 refine .V (fa rfl tF105_0) ?_
 refine .V (ld1 (v := .int .u32 x.start) rfl tO62 (cellH (CellsAt.mono (FH.le_refl _) _q3 0 _ rfl))) ?_
 refine .V ag0 ?_
 refine .nil (.seqN (.ret ?_))
 refine .res1 rfl (rvT rfl) (inl_back (v := .int .u32 x.start) q24 rfl ?_)
 refine .KA [OwnMapI bv .u32 (fun _ : Unit => .agg #[]) ([] : List (Int × Unit)), Box pstack [vSl a2 ([x.start] : List Int) 1], OwnSl 62 1 a2 (([x.start] : List Int).length) 1 (flL (α := W32) ([x.start] : List Int)), MkA []] ?_
 refine .V (bld (cs := #[]) (pv := []) tB147 rfl rfl) ?_
 refine miI (enc := (fun _ : Unit => .agg #[])) () tMI148 rfl rfl rfl (q := 0) rfl ?_
 obtain ⟨m, q15⟩ : ∃ y_ : List (Int × Unit), y_ = (setA ([] : List (Int × Unit)) x.start ()) := ⟨_, rfl⟩
 replace hF := hF m q15
 refine .cast (A' := [OwnMapI bv .u32 (fun _ : Unit => .agg #[]) m, Box pstack [vSl a2 ([x.start] : List Int) 1], OwnSl 62 1 a2 (([x.start] : List Int).length) 1 (flL (α := W32) ([x.start] : List Int)), MkA []]) (by rw [q15]; rfl) ?_
 refine .V mv0 ?_
 refine al tZ148 rfl (fun pseen => ?_)
 refine st (p := pseen) (off := 0) (k := 0) (vs := [.map (some bv)]) rfl rfl rfl (fun w => (tO148 w).2) rfl rfl rfl rfl ?_
 refine .KA [Box pseen [.map (some bv)], OwnMapI bv .u32 (fun _ : Unit => .agg #[]) m, Box pstack [vSl a2 ([x.start] : List Int) 1], OwnSl 62 1 a2 (([x.start] : List Int).length) 1 (flL (α := W32) ([x.start] : List Int)), MkA []] ?_
 refine .nil (.seqN (.seq (.region (.V ag0 ?_))))
 refine .nil (.seqN (.seq (.block ?_)))
 refine .nilSl 62 1 ?_
 refine .KA [OwnSl 62 1 none (([] : List Int).length) 0 (flL (α := W32) ([] : List Int)), Box pseen [.map (some bv)], OwnMapI bv .u32 (fun _ : Unit => .agg #[]) m, Box pstack [vSl a2 ([x.start] : List Int) 1], OwnSl 62 1 a2 (([x.start] : List Int).length) 1 (flL (α := W32) ([x.start] : List Int)), MkA []] ?_
 refine .sel0 [3, 1, 0, 5, 4, 2] (by decide) rfl ?_
 obtain ⟨I1, μ1, q3, q25⟩ := hF
 refine .loopN' (σ := List Int × List Int × List (Int × Unit) × Option Addr × Nat × List Nat × Option Addr × Nat) (fun z => I1 z.1 z.2.1 z.2.2.1) (fun z => μ1 z.1 z.2.1 z.2.2.1) (fun z => ⟨63, none, z.2.2.2.2.2.1⟩) (fun z => [(0, .iface 56 (vP px)), (4, vP pstack), (5, vP pseen), (6, vSl z.2.2.2.1 z.1 z.2.2.2.2.1)]) (fun z => [Box pstack [vSl z.2.2.2.2.2.2.1 z.2.1 z.2.2.2.2.2.2.2], Box pseen [.map (some bv)], OwnSl 62 1 z.2.2.2.1 z.1.length z.2.2.2.2.1 (flL (α := W32) z.1), MkA z.2.2.2.2.2.1, OwnSl 62 1 z.2.2.2.2.2.2.1 z.2.1.length z.2.2.2.2.2.2.2 (flL (α := W32) z.2.1), OwnMapI bv .u32 (fun _ : Unit => .agg #[]) z.2.2.1]) (fun _ => h) (([] : List Int), ([x.start] : List Int), m, none, 0, [], a2, 1) q3 (fun _ => rfl) rfl sb rfl (FH.le_refl _) ?_
 rintro ⟨out, l, m2, aout, cout, dl, al2, cl2⟩ q3
 have hF := q25 out l m2 q3
 show J _ _ ⟨63, none, dl⟩ _ _ [(0, .iface 56 (vP px)), (4, vP pstack), (5, vP pseen), (6, vSl aout out cout)] [Box pstack [vSl al2 l cl2], Box pseen [.map (some bv)], OwnSl 62 1 aout out.length cout (flL (α := W32) out), MkA dl, OwnSl 62 1 al2 l.length cl2 (flL (α := W32) l), OwnMapI bv .u32 (fun _ : Unit => .agg #[]) m2] h
 refine .seq (.seq (.region (.V (lB 0 0 tO57) ?_)))
 refine .V (ln rfl tS57.is) ?_
 refine .V bi0 ?_
 refine .nil (.seqN ?_)
 refine .cond rfl (fun q4 => ?_) (fun q4 => ?_)
 ·replace hF := hF.1 q4
  refine .skip (.seqN (.block (.seq (.region (.V (lB 0 0 tO57) ?_)))))
  refine .V (lB 0 0 tO57) ?_
  refine .V (ln rfl tS57.is) ?_
  refine .V bi0 ?_
  obtain ⟨q16, hF⟩ := hF
  refine .V (ixS rfl rfl tS57 (k := 4) rfl q16) ?_
  refine .V (ld1 (v := .int .u32 (gt l (nM l))) rfl tO62 (cellS (k := 4) rfl (flL_get (α := W32) q16 (j := 0) rfl))) ?_
  refine .V ag0 ?_
  refine .nil (.seqN (.seq ?_))
  refine .fact (fun w S => look_len S (k := 2) rfl) (fun q30 => ?_)
  refine .fact (fun w S => look_len S (k := 4) rfl) (fun q26 => ?_)
  refine .region (.V (lB 0 0 tO57) ?_)
  refine .V (lB 0 0 tO57) ?_
  refine .V (ln rfl tS57.is) ?_
  refine .V bi0 ?_
  obtain ⟨q2, hF⟩ := hF
  obtain ⟨d, q5⟩ : ∃ y_ : List Int, y_ = (l.take (wr (((l.length : Nat) : Int) - 1)).toNat) := ⟨_, rfl⟩
  replace hF := hF d q5
  have q6 : d.length = (wr (((l.length : Nat) : Int) - 1)).toNat := by rw [q5]; exact len_take rfl (Int.toNat_le.2 q2.2)
  refine .v (v := .slice al2 (List.length d) cl2) (by rw [q6]; exact slH tS57 rfl rfl q2.1 rfl (Nat.le_trans (Int.toNat_le.2 q2.2) q26)) rfl rfl rfl ?_
  refine .shrink (k := 4) (m' := d.length) (cs' := flL (α := W32) d) rfl (by rw [q6]; exact (Int.toNat_le.2 q2.2)) (by rw [q6, Nat.mul_one, q5]; exact flL_take _ _ rfl) ?_
  refine .KA [Box pstack [vSl al2 l cl2], Box pseen [.map (some bv)], OwnSl 62 1 aout out.length cout (flL (α := W32) out), MkA dl, OwnSl 62 1 al2 d.length cl2 (flL (α := W32) d), OwnMapI bv .u32 (fun _ : Unit => .agg #[]) m2] ?_
  refine st (p := pstack) (off := 0) (k := 0) (vs := [vSl al2 d cl2]) rfl rfl rfl (fun w => (tO57 w).2) rfl rfl rfl rfl ?_
  refine .KA [Box pstack [vSl al2 d cl2], Box pseen [.map (some bv)], OwnSl 62 1 aout out.length cout (flL (α := W32) out), MkA dl, OwnSl 62 1 al2 d.length cl2 (flL (α := W32) d), OwnMapI bv .u32 (fun _ : Unit => .agg #[]) m2] ?_
  refine .nil (.seqN (.seq (.region (.V mv0 ?_))))
  refine .V mv0 ?_
  refine bs2 (cs := #[.int .u32 (gt l (nM l))]) (pv := [(0, .int .u32 (gt l (nM l)))]) tS57 rfl rfl (by decide) (by decide) rfl rfl rfl (fun a4 _ => ?_)
  refine .KA [OwnSl 62 1 a4 (([(gt l (nM l))] : List Int).length) 1 (flL (α := W32) ([(gt l (nM l))] : List Int)), Box pstack [vSl al2 d cl2], Box pseen [.map (some bv)], OwnSl 62 1 aout out.length cout (flL (α := W32) out), MkA dl, OwnSl 62 1 al2 d.length cl2 (flL (α := W32) d), OwnMapI bv .u32 (fun _ : Unit => .agg #[]) m2] ?_
  obtain ⟨q17, hF⟩ := hF
  have q7 : out.length + ([(gt l (wr (((l.length : Nat) : Int) - 1)))] : List Int).length = ((out ++ ([(gt l (wr (((l.length : Nat) : Int) - 1)))] : List Int))).length := len_app rfl rfl
  refine app (k := 3) (news := flL (α := W32) ([(gt l (nM l))] : List Int)) (cs' := flL (α := W32) (out ++ ([(gt l (nM l))] : List Int))) (nm := ((out ++ ([(gt l (nM l))] : List Int))).length) tS57 rfl (by decide) rfl rfl rfl ((flL_len _).trans rfl) (srcS (k := 0) rfl) (flL_one _) (room_of q7 q17).1 (room_of q7 q17).2 q7 (flL_append _ _).symm rfl (fun a5 c => ?_)
  refine .KA [OwnSl 62 1 a4 (([(gt l (nM l))] : List Int).length) 1 (flL (α := W32) ([(gt l (nM l))] : List Int)), Box pstack [vSl al2 d cl2], Box pseen [.map (some bv)], OwnSl 62 1 a5 ((out ++ ([(gt l (nM l))] : List Int)).length) c (flL (α := W32) (out ++ ([(gt l (nM l))] : List Int))), MkA dl, OwnSl 62 1 al2 d.length cl2 (flL (α := W32) d), OwnMapI bv .u32 (fun _ : Unit => .agg #[]) m2] ?_
  refine .V ag0 ?_
  refine .nil (.seqN (.seq (.seq (.region (.V mv0 ?_)))))
  refine .V mv0 ?_
  refine .inlI Tryz.func48 rfl Tryz.ntmps48 Tryz.call48 tm56_Steps rfl rfl rfl (fun a6 q27 => ?_)
  refine .seq (.region ?_)
  refine bx (vs := [vP px]) rfl rfl rfl (fun pw => ?_)
  refine bx (vs := [.int .u32 (gt l (nM l))]) rfl rfl rfl (fun ps => ?_)
  refine .V ag0 ?_
  refine .nil (.seqN (.seq (.region (.V (mkf (vf := []) (vc := [vP pw, vP ps]) rfl rfl) ?_))))
  refine .V ag0 ?_
  refine .nil (.seqN (.ret ?_))
  refine .res1 rfl (rvT rfl) (inl_back (v := .func (.func 80) #[] #[.pointer (some pw), .pointer (some ps)]) q27 rfl ?_)
  refine .KA [Box ps [.int .u32 (gt l (nM l))], Box pw [vP px], OwnSl 62 1 a4 (([(gt l (nM l))] : List Int).length) 1 (flL (α := W32) ([(gt l (nM l))] : List Int)), Box pstack [vSl al2 d cl2], Box pseen [.map (some bv)], OwnSl 62 1 a5 ((out ++ ([(gt l (nM l))] : List Int)).length) c (flL (α := W32) (out ++ ([(gt l (nM l))] : List Int))), MkA dl, OwnSl 62 1 al2 d.length cl2 (flL (α := W32) d), OwnMapI bv .u32 (fun _ : Unit => .agg #[]) m2] ?_
  refine .nil (.seqN (.block ?_))
  refine .sub (s' := [(0, .iface 56 (vP px)), (4, vP pstack), (5, vP pseen), (6, vSl a5 (out ++ ([(gt l (nM l))] : List Int)) c), (39, .func (.func 80) #[] #[vP pw, vP ps])]) sb ?_
  refine .rangeF (k := 6) (caps := [vP pw, vP ps]) rfl rfl Tryz.func80 rfl Tryz.ntmps80 rfl Tryz.call80 (fun l3 D LA a7 q1 q28 => ?_)
  refine .KA [LA .ready none, Box ps [.int .u32 (gt l (nM l))], Box pw [vP px], OwnSl 62 1 a4 (([(gt l (nM l))] : List Int).length) 1 (flL (α := W32) ([(gt l (nM l))] : List Int)), Box pstack [vSl al2 d cl2], Box pseen [.map (some bv)], OwnSl 62 1 a5 ((out ++ ([(gt l (nM l))] : List Int)).length) c (flL (α := W32) (out ++ ([(gt l (nM l))] : List Int))), MkA (D :: dl), OwnSl 62 1 al2 d.length cl2 (flL (α := W32) d), OwnMapI bv .u32 (fun _ : Unit => .agg #[]) m2] ?_
  refine .seq (.region (.V (lB 0 2 tO56) ?_))
  refine .V (nck rfl) ?_
  refine .V (fa rfl tF105_2) ?_
  refine .V (ld1 (v := vSl ax x.ops cx) rfl tO103 (cellH (CellsAt.mono (FH.le_refl _) _q3 2 _ rfl))) ?_
  refine .V (ln rfl tS103.is) ?_
  refine .V mv0 ?_
  refine .nil (.seqN (.block ?_))
  refine .sel0 [0, 1, 4, 5, 6, 2, 7, 8, 9] (by decide) rfl ?_
  obtain ⟨I2, μ2, q8, q29⟩ := hF
  refine .loop' (σ := Int × List Int × List (Int × Unit) × Option Addr × Nat) (fun z => I2 z.1 z.2.1 z.2.2.1) (fun z => μ2 z.1 z.2.1 z.2.2.1) (fun z => [(0, .func (.yield l3) #[] #[]), (2, vP ps), (9, vSl ax x.ops cx), (10, iV ((x.ops.length : Nat) : Int)), (11, iV z.1)]) (fun z => [LA .ready none, Box ps [.int .u32 (gt l (nM l))], Box pstack [vSl z.2.2.2.1 z.2.1 z.2.2.2.2], Box pseen [.map (some bv)], OwnSl 62 1 a5 ((out ++ ([(gt l (nM l))] : List Int)).length) c (flL (α := W32) (out ++ ([(gt l (nM l))] : List Int))), Box pw [vP px], MkA (D :: dl), OwnSl 62 1 z.2.2.2.1 z.2.1.length z.2.2.2.2 (flL (α := W32) z.2.1), OwnMapI bv .u32 (fun _ : Unit => .agg #[]) z.2.2.1]) (fun _ => h) (0, d, m2, al2, cl2) q8 sb rfl (FH.le_refl _) ?_
  rintro ⟨t11, l4, m4, al4, cl4⟩ q8
  have hF := q29 t11 l4 m4 q8
  show J _ _ _ _ _ [(0, .func (.yield l3) #[] #[]), (2, vP ps), (9, vSl ax x.ops cx), (10, iV ((x.ops.length : Nat) : Int)), (11, iV t11)] [LA .ready none, Box ps [.int .u32 (gt l (nM l))], Box pstack [vSl al4 l4 cl4], Box pseen [.map (some bv)], OwnSl 62 1 a5 ((out ++ ([(gt l (nM l))] : List Int)).length) c (flL (α := W32) (out ++ ([(gt l (nM l))] : List Int))), Box pw [vP px], MkA (D :: dl), OwnSl 62 1 al4 l4.length cl4 (flL (α := W32) l4), OwnMapI bv .u32 (fun _ : Unit => .agg #[]) m4] h
  refine .seq (.region (.V bi0 ?_))
  refine .nil (.seqN (.seq ?_))
  refine .cond rfl (fun q9 => ?_) (fun q9 => ?_)
  ·replace hF := hF.1 q9
   refine .skip (.seqN ?_)
   refine .share (σ := List Int × List (Int × Unit) × Option Addr × Nat) (fun z => F_all_J1 t11 m4 I2 μ2 l4 z.2.1 z.1) (fun _ => [(0, .func (.yield l3) #[] #[]), (2, vP ps), (9, vSl ax x.ops cx), (10, iV ((x.ops.length : Nat) : Int)), (11, iV t11)]) (fun z => [LA .ready none, Box ps [.int .u32 (gt l (nM l))], Box pstack [vSl z.2.2.1 z.1 z.2.2.2], Box pseen [.map (some bv)], OwnSl 62 1 a5 ((out ++ ([(gt l (nM l))] : List Int)).length) c (flL (α := W32) (out ++ ([(gt l (nM l))] : List Int))), Box pw [vP px], MkA (D :: dl), OwnSl 62 1 z.2.2.1 z.1.length z.2.2.2 (flL (α := W32) z.1), OwnMapI bv .u32 (fun _ : Unit => .agg #[]) z.2.1]) (fun _ => h) ?_ (fun q10 => ?_)
   ·rintro ⟨l6, m6, al6, cl6⟩ hF
    show J _ _ _ _ _ [(0, .func (.yield l3) #[] #[]), (2, vP ps), (9, vSl ax x.ops cx), (10, iV ((x.ops.length : Nat) : Int)), (11, iV t11)] [LA .ready none, Box ps [.int .u32 (gt l (nM l))], Box pstack [vSl al6 l6 cl6], Box pseen [.map (some bv)], OwnSl 62 1 a5 ((out ++ ([(gt l (nM l))] : List Int)).length) c (flL (α := W32) (out ++ ([(gt l (nM l))] : List Int))), Box pw [vP px], MkA (D :: dl), OwnSl 62 1 al6 l6.length cl6 (flL (α := W32) l6), OwnMapI bv .u32 (fun _ : Unit => .agg #[]) m6] h
    refine .region (.V bi0 ?_)
    refine .V mv0 ?_
    refine .nil ?_
    exact .RO (wr (t11 + 1), l6, m6, al6, cl6) hF.1 hF.2
   refine .block (.seq (.region (.V mv0 ?_)))
   obtain ⟨q11, hF⟩ := hF
   refine .V (ix rfl rfl tS103 (_q1.ne (by decide) (inb_pos q11)) q11) ?_
   refine .V (ldA (cs := [.int .u32 ((gt x.ops t11).pre), .int .u32 ((gt x.ops t11).add), .int .u32 ((gt x.ops t11).del), iV ((gt x.ops t11).cost)]) rfl tA144 rfl (cellsH (_q1.elemF q11 (by decide)))) ?_
   refine al tZ144 rfl (fun pseen2 => ?_)
   refine .V ag0 ?_
   refine st (p := pseen2) (off := 0) (k := 0) (vs := [.int .u32 ((gt x.ops t11).pre), .int .u32 ((gt x.ops t11).add), .int .u32 ((gt x.ops t11).del), iV ((gt x.ops t11).cost)]) rfl rfl rfl (fun w => (tA144 w).2) rfl rfl rfl rfl ?_
   refine .KA [Box pseen2 [.int .u32 ((gt x.ops t11).pre), .int .u32 ((gt x.ops t11).add), .int .u32 ((gt x.ops t11).del), iV ((gt x.ops t11).cost)], LA .ready none, Box ps [.int .u32 (gt l (nM l))], Box pstack [vSl al4 l4 cl4], Box pseen [.map (some bv)], OwnSl 62 1 a5 ((out ++ ([(gt l (nM l))] : List Int)).length) c (flL (α := W32) (out ++ ([(gt l (nM l))] : List Int))), Box pw [vP px], MkA (D :: dl), OwnSl 62 1 al4 l4.length cl4 (flL (α := W32) l4), OwnMapI bv .u32 (fun _ : Unit => .agg #[]) m4] ?_
   refine .nil (.seqN (.seq (.region (.V (lB 0 2 tO62) ?_))))
   refine .V (fa rfl tF144_0) ?_
   refine .V (lB 0 0 tO62) ?_
   obtain ⟨x2, q18⟩ : ∃ y_ : Int, y_ = (bits .and .u32 (gt l (wr (((l.length : Nat) : Int) - 1))) ((gt x.ops t11).pre)) := ⟨_, rfl⟩
   replace hF := hF x2 q18
   refine .v (v := .int .u32 x2) (by rw [q18]; exact bi rfl rfl rfl) rfl rfl rfl ?_
   refine .V (fa rfl tF144_0) ?_
   refine .V (lB 0 0 tO62) ?_
   refine .V bi0 ?_
   refine .V mv0 ?_
   rcases Bool.eq_false_or_eq_true (x2 == ((gt x.ops t11).pre)) with q0 | q0
   ·replace hF := hF.1 q0
    refine .GV mv0 q0 ?_
    refine .GV mv0 q0 ?_
    refine .GV (fa rfl tF144_3) q0 ?_
    refine .GV (lB 3 0 tO3) q0 ?_
    refine .GV (lB 0 2 tO62) q0 ?_
    refine .GV (fa rfl tF144_2) q0 ?_
    refine .GV (lB 2 0 tO62) q0 ?_
    obtain ⟨x3, q19⟩ : ∃ y_ : Int, y_ = (bits .andNot .u32 (gt l (wr (((l.length : Nat) : Int) - 1))) ((gt x.ops t11).del)) := ⟨_, rfl⟩
    replace hF := hF x3 q19
    refine .gv (v := .int .u32 x3) (by rw [q19]; exact bi rfl rfl rfl) rfl rfl rfl q0 rfl rfl ?_
    refine .GV (fa rfl tF144_1) q0 ?_
    refine .GV (lB 1 0 tO62) q0 ?_
    refine .GV bi0 q0 ?_
    refine .GV (bld (cs := #[iV t11, iV ((gt x.ops t11).cost), .int .u32 (bits .or .u32 x3 ((gt x.ops t11).add))]) (pv := [(0, iV t11), (1, iV ((gt x.ops t11).cost)), (2, .int .u32 (bits .or .u32 x3 ((gt x.ops t11).add)))]) tB96 rfl rfl) q0 ?_
    refine .gR rfl rfl rfl q0 ?_
    refine .yld (k := 1) (vs := [.agg #[iV t11, iV ((gt x.ops t11).cost), .int .u32 (bits .or .u32 x3 ((gt x.ops t11).add))]]) q1 rfl rfl rfl rfl rfl (fun aG q20 => ?_)
    refine .sub (s' := [(4, vP pstack), (5, vP pseen), (40, .agg #[iV t11, iV ((gt x.ops t11).cost), .int .u32 (bits .or .u32 x3 ((gt x.ops t11).add))])]) sb ?_
    refine .region ?_
    refine al tZ96 rfl (fun pe => ?_)
    refine st (p := pe) (off := 0) (k := 0) (vs := [iV t11, iV ((gt x.ops t11).cost), .int .u32 (bits .or .u32 x3 ((gt x.ops t11).add))]) rfl rfl rfl (fun w => (tA96 w).2) rfl rfl rfl rfl ?_
    refine .KA [Box pe [iV t11, iV ((gt x.ops t11).cost), .int .u32 (bits .or .u32 x3 ((gt x.ops t11).add))], Box pseen2 [.int .u32 ((gt x.ops t11).pre), .int .u32 ((gt x.ops t11).add), .int .u32 ((gt x.ops t11).del), iV ((gt x.ops t11).cost)], LA .ready none, Box ps [.int .u32 (gt l (nM l))], Box pstack [vSl al4 l4 cl4], Box pseen [.map (some bv)], OwnSl 62 1 a5 ((out ++ ([(gt l (nM l))] : List Int)).length) c (flL (α := W32) (out ++ ([(gt l (nM l))] : List Int))), Box pw [vP px], MkA (D :: dl), OwnSl 62 1 al4 l4.length cl4 (flL (α := W32) l4), OwnMapI bv .u32 (fun _ : Unit => .agg #[]) m4] ?_
    refine .nil ?_
    refine .begin_ (k := 2) q1 rfl ?_
    refine .KA [Box pe [iV t11, iV ((gt x.ops t11).cost), .int .u32 (bits .or .u32 x3 ((gt x.ops t11).add))], Box pseen2 [.int .u32 ((gt x.ops t11).pre), .int .u32 ((gt x.ops t11).add), .int .u32 ((gt x.ops t11).del), iV ((gt x.ops t11).cost)], LA .busy none, Box ps [.int .u32 (gt l (nM l))], Box pstack [vSl al4 l4 cl4], Box pseen [.map (some bv)], OwnSl 62 1 a5 ((out ++ ([(gt l (nM l))] : List Int)).length) c (flL (α := W32) (out ++ ([(gt l (nM l))] : List Int))), Box pw [vP px], MkA (D :: dl), OwnSl 62 1 al4 l4.length cl4 (flL (α := W32) l4), OwnMapI bv .u32 (fun _ : Unit => .agg #[]) m4] ?_
    refine .block (.seq (.region (.V (lB 0 5 tO148) ?_)))
    refine .V (fa rfl tF96_2) ?_
    refine .V (lB 2 0 tO62) ?_
    refine .V (lkI2 (enc := (fun _ : Unit => .agg #[])) () tMI148 rfl rfl (q := 10) rfl) ?_
    refine .V mv0 ?_
    refine .V (ext rfl rfl) ?_
    refine .V (ext rfl rfl) ?_
    refine al tZ147 rfl (fun p_ => ?_)
    refine st (p := p_) (off := 0) (k := 0) (vs := []) rfl rfl rfl (fun w => (tA147 w).2) rfl rfl rfl rfl ?_
    refine .KA [Box p_ [], Box pe [iV t11, iV ((gt x.ops t11).cost), .int .u32 (bits .or .u32 x3 ((gt x.ops t11).add))], Box pseen2 [.int .u32 ((gt x.ops t11).pre), .int .u32 ((gt x.ops t11).add), .int .u32 ((gt x.ops t11).del), iV ((gt x.ops t11).cost)], LA .busy none, Box ps [.int .u32 (gt l (nM l))], Box pstack [vSl al4 l4 cl4], Box pseen [.map (some bv)], OwnSl 62 1 a5 ((out ++ ([(gt l (nM l))] : List Int)).length) c (flL (α := W32) (out ++ ([(gt l (nM l))] : List Int))), Box pw [vP px], MkA (D :: dl), OwnSl 62 1 al4 l4.length cl4 (flL (α := W32) l4), OwnMapI bv .u32 (fun _ : Unit => .agg #[]) m4] ?_
    refine .V ag0 ?_
    refine .nil (.seqN (.seq (.region (.V mv0 ?_))))
    refine .V (nt rfl) ?_
    refine .nil (.seqN ?_)
    refine .cond rfl (fun q12 => ?_) (fun q12 => ?_)
    ·replace hF := hF.1 q12
     refine .seq (.region (.V (lB 0 6 tO148) ?_))
     refine .V (fa rfl tF96_2) ?_
     refine .V (lB 2 1 tO62) ?_
     refine .V (bld (cs := #[]) (pv := []) tB147 rfl rfl) ?_
     refine muI (enc := (fun _ : Unit => .agg #[])) () tMI148 rfl rfl rfl (q := 11) rfl ?_
     obtain ⟨m7, q21⟩ : ∃ y_ : List (Int × Unit), y_ = (setA m4 (bits .or .u32 x3 ((gt x.ops t11).add)) ()) := ⟨_, rfl⟩
     replace hF := hF m7 q21
     refine .cast (A' := [Box p_ [], Box pe [iV t11, iV ((gt x.ops t11).cost), .int .u32 (bits .or .u32 x3 ((gt x.ops t11).add))], Box pseen2 [.int .u32 ((gt x.ops t11).pre), .int .u32 ((gt x.ops t11).add), .int .u32 ((gt x.ops t11).del), iV ((gt x.ops t11).cost)], LA .busy none, Box ps [.int .u32 (gt l (nM l))], Box pstack [vSl al4 l4 cl4], Box pseen [.map (some bv)], OwnSl 62 1 a5 ((out ++ ([(gt l (nM l))] : List Int)).length) c (flL (α := W32) (out ++ ([(gt l (nM l))] : List Int))), Box pw [vP px], MkA (D :: dl), OwnSl 62 1 al4 l4.length cl4 (flL (α := W32) l4), OwnMapI bv .u32 (fun _ : Unit => .agg #[]) m7]) (by rw [q21]; rfl) ?_
     refine .nil (.seqN (.region (.V (lB 0 5 tO57) ?_)))
     refine .V (fa rfl tF96_2) ?_
     refine .V (lB 2 1 tO62) ?_
     refine bs2 (cs := #[.int .u32 (bits .or .u32 x3 ((gt x.ops t11).add))]) (pv := [(0, .int .u32 (bits .or .u32 x3 ((gt x.ops t11).add)))]) tS57 rfl rfl (by decide) (by decide) rfl rfl rfl (fun a8 _ => ?_)
     refine .KA [OwnSl 62 1 a8 (([bits .or .u32 x3 ((gt x.ops t11).add)] : List Int).length) 1 (flL (α := W32) ([bits .or .u32 x3 ((gt x.ops t11).add)] : List Int)), Box p_ [], Box pe [iV t11, iV ((gt x.ops t11).cost), .int .u32 (bits .or .u32 x3 ((gt x.ops t11).add))], Box pseen2 [.int .u32 ((gt x.ops t11).pre), .int .u32 ((gt x.ops t11).add), .int .u32 ((gt x.ops t11).del), iV ((gt x.ops t11).cost)], LA .busy none, Box ps [.int .u32 (gt l (nM l))], Box pstack [vSl al4 l4 cl4], Box pseen [.map (some bv)], OwnSl 62 1 a5 ((out ++ ([(gt l (nM l))] : List Int)).length) c (flL (α := W32) (out ++ ([(gt l (nM l))] : List Int))), Box pw [vP px], MkA (D :: dl), OwnSl 62 1 al4 l4.length cl4 (flL (α := W32) l4), OwnMapI bv .u32 (fun _ : Unit => .agg #[]) m7] ?_
     obtain ⟨q22, hF⟩ := hF
     have q13 : l4.length + ([bits .or .u32 x3 ((gt x.ops t11).add)] : List Int).length = ((l4 ++ ([bits .or .u32 x3 ((gt x.ops t11).add)] : List Int))).length := len_app rfl rfl
     refine app (k := 11) (news := flL (α := W32) ([bits .or .u32 x3 ((gt x.ops t11).add)] : List Int)) (cs' := flL (α := W32) (l4 ++ ([bits .or .u32 x3 ((gt x.ops t11).add)] : List Int))) (nm := ((l4 ++ ([bits .or .u32 x3 ((gt x.ops t11).add)] : List Int))).length) tS57 rfl (by decide) rfl rfl rfl ((flL_len _).trans rfl) (srcS (k := 0) rfl) (flL_one _) (room_of q13 q22).1 (room_of q13 q22).2 q13 (flL_append _ _).symm rfl (fun a9 c2 => ?_)
     refine .KA [OwnSl 62 1 a8 (([bits .or .u32 x3 ((gt x.ops t11).add)] : List Int).length) 1 (flL (α := W32) ([bits .or .u32 x3 ((gt x.ops t11).add)] : List Int)), Box p_ [], Box pe [iV t11, iV ((gt x.ops t11).cost), .int .u32 (bits .or .u32 x3 ((gt x.ops t11).add))], Box pseen2 [.int .u32 ((gt x.ops t11).pre), .int .u32 ((gt x.ops t11).add), .int .u32 ((gt x.ops t11).del), iV ((gt x.ops t11).cost)], LA .busy none, Box ps [.int .u32 (gt l (nM l))], Box pstack [vSl al4 l4 cl4], Box pseen [.map (some bv)], OwnSl 62 1 a5 ((out ++ ([(gt l (nM l))] : List Int)).length) c (flL (α := W32) (out ++ ([(gt l (nM l))] : List Int))), Box pw [vP px], MkA (D :: dl), OwnSl 62 1 a9 ((l4 ++ ([bits .or .u32 x3 ((gt x.ops t11).add)] : List Int)).length) c2 (flL (α := W32) (l4 ++ ([bits .or .u32 x3 ((gt x.ops t11).add)] : List Int))), OwnMapI bv .u32 (fun _ : Unit => .agg #[]) m7] ?_
     refine st (p := pstack) (off := 0) (k := 6) (vs := [vSl a9 (l4 ++ ([bits .or .u32 x3 ((gt x.ops t11).add)] : List Int)) c2]) rfl rfl rfl (fun w => (tO57 w).2) rfl rfl rfl rfl ?_
     refine .KA [OwnSl 62 1 a8 (([bits .or .u32 x3 ((gt x.ops t11).add)] : List Int).length) 1 (flL (α := W32) ([bits .or .u32 x3 ((gt x.ops t11).add)] : List Int)), Box p_ [], Box pe [iV t11, iV ((gt x.ops t11).cost), .int .u32 (bits .or .u32 x3 ((gt x.ops t11).add))], Box pseen2 [.int .u32 ((gt x.ops t11).pre), .int .u32 ((gt x.ops t11).add), .int .u32 ((gt x.ops t11).del), iV ((gt x.ops t11).cost)], LA .busy none, Box ps [.int .u32 (gt l (nM l))], Box pstack [vSl a9 (l4 ++ ([bits .or .u32 x3 ((gt x.ops t11).add)] : List Int)) c2], Box pseen [.map (some bv)], OwnSl 62 1 a5 ((out ++ ([(gt l (nM l))] : List Int)).length) c (flL (α := W32) (out ++ ([(gt l (nM l))] : List Int))), Box pw [vP px], MkA (D :: dl), OwnSl 62 1 a9 ((l4 ++ ([bits .or .u32 x3 ((gt x.ops t11).add)] : List Int)).length) c2 (flL (α := W32) (l4 ++ ([bits .or .u32 x3 ((gt x.ops t11).add)] : List Int))), OwnMapI bv .u32 (fun _ : Unit => .agg #[]) m7] ?_
     refine .nil (.blkN ?_)
     refine .rdN (k := 4) q1 rfl q20 rfl ?_
     refine .KA [OwnSl 62 1 a8 (([bits .or .u32 x3 ((gt x.ops t11).add)] : List Int).length) 1 (flL (α := W32) ([bits .or .u32 x3 ((gt x.ops t11).add)] : List Int)), Box p_ [], Box pe [iV t11, iV ((gt x.ops t11).cost), .int .u32 (bits .or .u32 x3 ((gt x.ops t11).add))], Box pseen2 [.int .u32 ((gt x.ops t11).pre), .int .u32 ((gt x.ops t11).add), .int .u32 ((gt x.ops t11).del), iV ((gt x.ops t11).cost)], LA .ready none, Box ps [.int .u32 (gt l (nM l))], Box pstack [vSl a9 (l4 ++ ([bits .or .u32 x3 ((gt x.ops t11).add)] : List Int)) c2], Box pseen [.map (some bv)], OwnSl 62 1 a5 ((out ++ ([(gt l (nM l))] : List Int)).length) c (flL (α := W32) (out ++ ([(gt l (nM l))] : List Int))), Box pw [vP px], MkA (D :: dl), OwnSl 62 1 a9 ((l4 ++ ([bits .or .u32 x3 ((gt x.ops t11).add)] : List Int)).length) c2 (flL (α := W32) (l4 ++ ([bits .or .u32 x3 ((gt x.ops t11).add)] : List Int))), OwnMapI bv .u32 (fun _ : Unit => .agg #[]) m7] ?_
     refine .GV (nt rfl) q0 ?_
     refine .V (pkT rfl q0 rfl) ?_
     refine .nil (.seqN ?_)
     refine .cond rfl (fun e => absurd (e.symm.trans rfl) (by decide)) (fun _ => ?_)
     refine .skip (.blkN ?_)
     refine .sel0 [4, 5, 6, 7, 8, 9, 10, 11, 12] (by decide) rfl ?_
     exact .US q10 ((l4 ++ ([bits .or .u32 x3 ((gt x.ops t11).add)] : List Int)), m7, a9, c2) hF
    replace hF := hF.2 q12
    refine .skip (.blkN ?_)
    refine .rdN (k := 3) q1 rfl q20 rfl ?_
    refine .KA [Box p_ [], Box pe [iV t11, iV ((gt x.ops t11).cost), .int .u32 (bits .or .u32 x3 ((gt x.ops t11).add))], Box pseen2 [.int .u32 ((gt x.ops t11).pre), .int .u32 ((gt x.ops t11).add), .int .u32 ((gt x.ops t11).del), iV ((gt x.ops t11).cost)], LA .ready none, Box ps [.int .u32 (gt l (nM l))], Box pstack [vSl al4 l4 cl4], Box pseen [.map (some bv)], OwnSl 62 1 a5 ((out ++ ([(gt l (nM l))] : List Int)).length) c (flL (α := W32) (out ++ ([(gt l (nM l))] : List Int))), Box pw [vP px], MkA (D :: dl), OwnSl 62 1 al4 l4.length cl4 (flL (α := W32) l4), OwnMapI bv .u32 (fun _ : Unit => .agg #[]) m4] ?_
    refine .GV (nt rfl) q0 ?_
    refine .V (pkT rfl q0 rfl) ?_
    refine .nil (.seqN ?_)
    refine .cond rfl (fun e => absurd (e.symm.trans rfl) (by decide)) (fun _ => ?_)
    refine .skip (.blkN ?_)
    refine .sel0 [3, 4, 5, 6, 7, 8, 9, 10, 11] (by decide) rfl ?_
    exact .US q10 (l4, m4, al4, cl4) hF
   replace hF := hF.2 q0
   refine .GS q0 ?_
   refine .GS q0 ?_
   refine .GS q0 ?_
   refine .GS q0 ?_
   refine .GS q0 ?_
   refine .GS q0 ?_
   refine .GS q0 ?_
   refine .GS q0 ?_
   refine .GS q0 ?_
   refine .GS q0 ?_
   refine .GS q0 ?_
   refine .GS q0 ?_
   refine .GS q0 ?_
   refine .GS q0 ?_
   refine .V (pkF rfl q0 rfl) ?_
   refine .nil (.seqN ?_)
   refine .cond rfl (fun e => absurd (e.symm.trans rfl) (by decide)) (fun _ => ?_)
   refine .skip (.blkN ?_)
   refine .sel0 [1, 2, 3, 4, 5, 6, 7, 8, 9] (by decide) rfl ?_
   exact .US q10 (l4, m4, al4, cl4) hF
  replace hF := hF.2 q9
  refine .exit (.seqX (.seqX (.blkX ?_)))
  refine .res0 (.inr rfl) rfl (range_done (k := 0) q1 rfl q28 ?_)
  refine .KA [tru, Box ps [.int .u32 (gt l (nM l))], Box pstack [vSl al4 l4 cl4], Box pseen [.map (some bv)], OwnSl 62 1 a5 ((out ++ ([(gt l (nM l))] : List Int)).length) c (flL (α := W32) (out ++ ([(gt l (nM l))] : List Int))), Box pw [vP px], MkA (D :: dl), OwnSl 62 1 al4 l4.length cl4 (flL (α := W32) l4), OwnMapI bv .u32 (fun _ : Unit => .agg #[]) m4] ?_
  refine .blkN (.seqN (.seq (.region (.V (lB 0 3 tO148) ?_))))
  refine .V (lnI tMI148 rfl (q := 8) rfl) ?_
  refine .V bi0 ?_
  refine .nil (.seqN ?_)
  refine .cond rfl (fun q14 => ?_) (fun q14 => ?_)
  ·replace hF := hF.1 q14
   refine .seq (.region (.V ag0 ?_))
   refine .V ag0 ?_
   refine .nil (.seqN ?_)
   refine .nilSl 62 1 ?_
   refine .KA [OwnSl 62 1 none (([] : List Int).length) 0 (flL (α := W32) ([] : List Int)), tru, Box ps [.int .u32 (gt l (nM l))], Box pstack [vSl al4 l4 cl4], Box pseen [.map (some bv)], OwnSl 62 1 a5 ((out ++ ([(gt l (nM l))] : List Int)).length) c (flL (α := W32) (out ++ ([(gt l (nM l))] : List Int))), Box pw [vP px], MkA (D :: dl), OwnSl 62 1 al4 l4.length cl4 (flL (α := W32) l4), OwnMapI bv .u32 (fun _ : Unit => .agg #[]) m4] ?_
   refine .ret (.blkR (.seqR (.blkR (.seqR ?_))))
   refine .resM (k := 7) rfl ?_
   refine .res2 rfl (rvT rfl) (rvT rfl) (fun w' S => ⟨(([] : List Int), false), (none, 0), h, hF, rfl, (FH.le_refl _), trivial, S.pick (k := 0) rfl⟩)
  replace hF := hF.2 q14
  refine .skip (.blkN ?_)
  refine .sel0 [2, 3, 4, 6, 7, 8] (by decide) rfl ?_
  exact .roundN ((out ++ ([(gt l (nM l))] : List Int)), l4, m4, a5, c, D :: dl, al4, cl4) hF.1 hF.2 rfl sb rfl (FH.le_refl _)
 replace hF := hF.2 q4
 refine .exit (.seqX (.seqX (.blkX (.seqN (.seq (.region (.V mv0 ?_)))))))
 refine .V ag0 ?_
 refine .V ag0 ?_
 refine .nil (.seqN (.ret ?_))
 refine .resM (k := 3) rfl ?_
 refine .res2 rfl (rvT rfl) (rvT rfl) (fun w' S => ⟨(out, true), (aout, cout), h, hF, rfl, (FH.le_refl _), trivial, S.pick (k := 2) rfl⟩)
theorem c_all {h : FH} {w : World} (hs : Sub h w) (x : WordsT) (ax : Option Addr) (cx : Nat) (_q1 : RSl h ax x.ops) (_q2 : x.ops.length ≤ cx) (px : Addr) (_q3 : CellsAt h px [.int .u32 x.start, .int .u32 x.goal, .slice ax x.ops.length cx]) (hp : pre_all x) : Calls Tryz.prog 41 #[.iface 56 (.pointer (some px))] w fun e w' => ∃ (z : Option Addr × Nat) (h0 h1 : FH), e = .returned (.tuple #[.slice z.1 (sp_all x).1.length z.2, .bool (sp_all x).2]) ∧ (True) ∧ FH.le h h1 ∧ SH (Kp.all w h0) h1 w' [OwnSl 62 1 z.1 (sp_all x).1.length z.2 (flL (α := W32) (sp_all x).1)] :=
 (w_all hs x ax cx _q1 _q2 px _q3 (fun r => r = sp_all x) (ok_all x hp)).mono fun _ _ ⟨r, z, h1, hk, he, hl, hψ, hS⟩ => by subst hk; exact ⟨z, h, h1, he, hψ, hl, hS⟩
end Go.Proofs.YtimillpakjgnoaaGreat.Pl

namespace Go.Proofs.YtimillpakjgnoaaGreat.Pl
open Go Go.RowKit
set_option maxHeartbeats 8000000 in
theorem w_optimalK {h : FH} {w : World} (hs : Sub h w) (t : Task) (at_ : Option Addr) (ct : Nat) (_q1 : RSl h at_ t.init) (_q2 : t.init.length ≤ ct) (at_2 : Option Addr) (ct2 : Nat) (_q3 : RSl h at_2 t.goal) (_q4 : t.goal.length ≤ ct2) (at_3 : Option Addr) (ct3 : Nat) (_q5 : RSl h at_3 t.ops) (_q6 : t.ops.length ≤ ct3) (K : (Int × Fault) → Prop) (hF : F_optimalK t K) : Calls Tryz.prog 7 #[.agg #[iV t.facts, .slice at_ t.init.length ct, .slice at_2 t.goal.length ct2, .slice at_3 t.ops.length ct3]] w fun e w' => ∃ r : Int × Fault, K r ∧ e = .returned (.tuple #[iV r.1, .agg #[iV r.2.code, iV r.2.index]]) ∧ Below w.heap.size w w' := by
 refine enter (args := [.agg (tF t at_ ct at_2 ct2 at_3 ct3).toArray]) Tryz.func7 rfl Tryz.ntmps7 rfl hs ?_
 obtain ⟨q7, hF⟩ := hF
 subst q7
 refine .seq (.region ?_)
 refine bx (vs := [iV 2, .slice at_ 1 ct, .slice at_2 1 ct2, .slice at_3 1 ct3]) rfl rfl rfl (fun pt => ?_)
 refine .V ag0 ?_
 refine al tZ27 rfl (fun pv => ?_)
 refine .nil (.seqN (.seq (.region (.V (ldA (cs := [iV 2, .slice at_ 1 ct, .slice at_2 1 ct2, .slice at_3 1 ct3]) rfl tA25 rfl (cellsB (off := 0) (k := 1) rfl (m := 4) rfl)) ?_))))
 refine .inl Tryz.func20 rfl Tryz.ntmps20 Tryz.call20 rfl rfl rfl rfl (fun a q8 => ?_)
 refine .sel0 [0] (by decide) rfl ?_
 refine .KA [Box pv [iV 0, iV 0]] ?_
 refine .seq (.region ?_)
 refine bx (vs := [iV 2, .slice at_ 1 ct, .slice at_2 1 ct2, .slice at_3 1 ct3]) rfl rfl rfl (fun pt2 => ?_)
 refine .V ag0 ?_
 refine .V ag0 ?_
 refine al tZ27 rfl (fun pv2 => ?_)
 refine .nil (.seqN (.seq (.seq (.region (.V (ldA (cs := [iV 2, .slice at_ 1 ct, .slice at_2 1 ct2, .slice at_3 1 ct3]) rfl tA25 rfl (cellsB (off := 0) (k := 1) rfl (m := 4) rfl)) ?_)))))
 obtain ⟨r2, q9⟩ : ∃ y_ : Fault, y_ = sp_validate (⟨2, ([0] : List Int), ([1] : List Int), ([(⟨([0] : List Int), ([1] : List Int), ([0] : List Int), 3⟩ : Operator)] : List Operator)⟩ : Task) := ⟨_, rfl⟩
 replace hF := hF r2 q9
 have q10 : sp_validate (⟨2, ([0] : List Int), ([1] : List Int), ([(⟨([0] : List Int), ([1] : List Int), ([0] : List Int), 3⟩ : Operator)] : List Operator)⟩ : Task) = (⟨0, 0⟩ : Fault) := by decide +kernel
 refine .C (cl (v := .agg #[iV 0, iV 0]) Tryz.call15 rfl rfl (fun w S => (by have h_ := c_validate S.sub (⟨2, ([0] : List Int), ([1] : List Int), ([(⟨([0] : List Int), ([1] : List Int), ([0] : List Int), 3⟩ : Operator)] : List Operator)⟩ : Task) at_ ct _q1 _q2 at_2 ct2 _q3 _q4 at_3 ct3 _q5 _q6 ; rw [q10] at h_; exact h_))) ?_
 refine al tZ27 rfl (fun pf => ?_)
 refine st (p := pf) (off := 0) (k := 0) (vs := [iV 0, iV 0]) rfl rfl rfl (fun w => (tA27 w).2) rfl rfl rfl rfl ?_
 refine .nil (.seqN (.seq (.region (.V (ldA (cs := [iV 0, iV 0]) rfl tA27 rfl (cellsB (off := 0) (k := 0) rfl (m := 2) rfl)) ?_))))
 refine .V (bld (cs := #[iV 0, iV 0]) (pv := []) tB27 rfl rfl) ?_
 refine .V (ne2 tE27 rfl rfl) ?_
 refine .nil (.seqN ?_)
 refine .cond rfl (fun e => absurd (e.symm.trans rfl) (by decide)) (fun _ => ?_)
 refine .skip (.seqN (.seq (.region (.V (ldA (cs := [iV 2, .slice at_ 1 ct, .slice at_2 1 ct2, .slice at_3 1 ct3]) rfl tA25 rfl (cellsB (off := 0) (k := 2) rfl (m := 4) rfl)) ?_))))
 refine .inl Tryz.func40 rfl Tryz.ntmps40 Tryz.call40 rfl rfl rfl rfl (fun a2 q11 => ?_)
 refine .sel0 [1, 3] (by decide) rfl ?_
 refine .KA [Box pv2 [iV 0, iV 0], Box pv [iV 0, iV 0]] ?_
 refine .seq (.region ?_)
 refine bx (vs := [iV 2, .slice at_ 1 ct, .slice at_2 1 ct2, .slice at_3 1 ct3]) rfl rfl rfl (fun pt3 => ?_)
 refine .V ag0 ?_
 refine .nil (.seqN (.seq ?_))
 obtain ⟨q3, hF⟩ := hF
 obtain ⟨r3, q12⟩ : ∃ y_ : Int, y_ = sp_word ([0] : List Int) := ⟨_, rfl⟩
 replace hF := hF r3 q12
 have q13 : sp_word ([0] : List Int) = 1 := by decide +kernel
 obtain ⟨q6, hF⟩ := hF
 obtain ⟨r4, q14⟩ : ∃ y_ : Int, y_ = sp_word ([1] : List Int) := ⟨_, rfl⟩
 replace hF := hF r4 q14
 have q15 : sp_word ([1] : List Int) = 2 := by decide +kernel
 refine .OA (s0 := [(1, vP pt3)]) [0, 1, 2, 3, 4, 5, 6] [(0, vP (pt3.add 1)), (1, .slice at_ 1 ct), (2, .int .u32 1), (3, vP (pt3.add 2)), (4, .slice at_2 1 ct2), (5, .int .u32 2), (6, .agg #[.int .u32 1, .int .u32 2, .slice none 0 0])] [1] [] ?_
 refine .ST [7] 7 (.w [] rfl (fa rfl tF25_1) (.w [(6, vP (pt3.add 1))] rfl (lB 1 0 tO22) (.c [(7, .slice at_ 1 ct)] rfl rfl rfl rfl rfl rfl (fun _ => cl (v := .int .u32 1) Tryz.call76 rfl rfl (fun w S => (by have h_ := c_word S.sub ([0] : List Int) at_ ct _q1 _q2 q3; rw [q13] at h_; exact h_))) (.w [] rfl (fa rfl tF25_2) (.w [(9, vP (pt3.add 2))] rfl (lB 2 0 tO22) (.c [(10, .slice at_2 1 ct2), (8, .int .u32 1)] rfl rfl rfl rfl rfl rfl (fun _ => cl (v := .int .u32 2) Tryz.call76 rfl rfl (fun w S => (by have h_ := c_word S.sub ([1] : List Int) at_2 ct2 _q3 _q4 q6; rw [q15] at h_; exact h_))) (.w [(8, .int .u32 1), (11, .int .u32 2)] rfl (bld (cs := #[.int .u32 1, .int .u32 2, .slice none 0 0]) (pv := [(0, .int .u32 1), (1, .int .u32 2)]) tB105 rfl rfl) (.nil)))))))) (.cons [(12, .agg #[.int .u32 1, .int .u32 2, .slice none 0 0])] rfl rfl (fun sL hL => ?_) (.nil))
 refine bx (vs := [.int .u32 1, .int .u32 2, .slice none 0 0]) rfl rfl rfl (fun pv3 => ?_)
 refine .nil ?_
 refine .ja (M := [6, 2, 5, 1, 4, 0, 3]) (C' := [8]) (pre := [(7, vP pv3), (8, vP pv3)]) [(1, vP pt3)] [1] hL rfl rfl rfl rfl rfl sb rfl rfl (by kernel_rfl) ?_
 refine .LA [(6, vP (pt3.add 1)), (7, .slice at_ 1 ct), (8, .int .u32 1), (9, vP (pt3.add 2)), (10, .slice at_2 1 ct2), (11, .int .u32 2), (12, .agg #[.int .u32 1, .int .u32 2, .slice none 0 0]), (13, vP pv3), (3, vP pv3)] (.w [(13, vP pv3), (11, .int .u32 2), (6, vP (pt3.add 1)), (7, .slice at_ 1 ct), (8, .int .u32 1), (9, vP (pt3.add 2)), (10, .slice at_2 1 ct2), (11, .int .u32 2), (12, .agg #[.int .u32 1, .int .u32 2, .slice none 0 0]), (13, vP pv3)] rfl ag0 (.nil)) ?_
 refine .seqN (.seq (.seq (.region (.V (fa rfl tF25_3) ?_))))
 refine .V (lB 3 1 tO23) ?_
 refine .V (ln rfl tS23.is) ?_
 refine .V mv0 ?_
 refine .nil (.seqN (.block ?_))
 refine .rounds 90 ?_
 refine .seq (.region (.V bi0 ?_))
 refine .nil (.seqN (.seq ?_))
 refine .cond rfl (fun _ => ?_) (fun e => absurd (e.symm.trans rfl) (by decide))
 refine .skip (.seqN (.seq (.block (.seq (.region (.V (ix rfl rfl tS23 (_q5.ne (by decide) (inb_pos (show inb ([(⟨([0] : List Int), ([1] : List Int), ([0] : List Int), 3⟩ : Operator)] : List Operator) (0 : Int) from And.intro (by decide) (by decide)))) (show inb ([(⟨([0] : List Int), ([1] : List Int), ([0] : List Int), 3⟩ : Operator)] : List Operator) (0 : Int) from And.intro (by decide) (by decide))) ?_))))))
 obtain ⟨_, ⟨a3, c, a4, c2, a5, c3, rfl, ⟨q16, q17⟩, ⟨q18, q19⟩, q20, q21⟩, q22⟩ := _q5.elem (show inb ([(⟨([0] : List Int), ([1] : List Int), ([0] : List Int), 3⟩ : Operator)] : List Operator) (0 : Int) from And.intro (by decide) (by decide))
 refine .V (ldA (cs := [.slice a3 1 c, .slice a4 1 c2, .slice a5 1 c3, iV 3]) rfl tA52 rfl (cellsH (q22 (by decide)))) ?_
 refine al tZ52 rfl (fun po => ?_)
 refine st (p := po) (off := 0) (k := 0) (vs := [.slice a3 1 c, .slice a4 1 c2, .slice a5 1 c3, iV 3]) rfl rfl rfl (fun w => (tA52 w).2) rfl rfl rfl rfl ?_
 refine .nil (.seqN ?_)
 obtain ⟨r5, q23⟩ : ∃ y_ : Int, y_ = sp_word ([0] : List Int) := ⟨_, rfl⟩
 replace hF := hF r5 q23
 have q24 : sp_word ([0] : List Int) = 1 := by decide +kernel
 obtain ⟨r6, q25⟩ : ∃ y_ : Int, y_ = sp_word ([1] : List Int) := ⟨_, rfl⟩
 replace hF := hF r6 q25
 have q26 : sp_word ([1] : List Int) = 2 := by decide +kernel
 obtain ⟨r7, q27⟩ : ∃ y_ : Int, y_ = sp_word ([0] : List Int) := ⟨_, rfl⟩
 replace hF := hF r7 q27
 have q28 : sp_word ([0] : List Int) = 1 := by decide +kernel
 refine .OA (s0 := [(3, vP pv3), (5, vP po), (15, .slice at_3 1 ct3), (16, iV 1), (17, iV 0)]) [0, 1, 2, 3, 4, 5, 6, 7, 8, 9, 10, 11, 12, 13, 14, 15, 16] [(0, vP pv3), (1, vP pv3), (2, vP pv3), (3, vP (pv3.add 2)), (4, .slice none 0 0), (5, vP (po.add 0)), (6, .slice a3 1 c), (7, .int .u32 1), (8, vP (po.add 1)), (9, .slice a4 1 c2), (10, .int .u32 2), (11, vP (po.add 2)), (12, .slice a5 1 c3), (13, .int .u32 1), (14, vP (po.add 3)), (15, iV 3), (16, .agg #[.int .u32 1, .int .u32 2, .int .u32 1, iV 3])] [3, 5, 15, 16, 17] [] ?_
 refine .ST [17] 17 (.w [] rfl mv0 (.w [] rfl mv0 (.w [(22, vP pv3)] rfl (nck rfl) (.w [(23, vP pv3)] rfl (fa rfl tF105_2) (.w [(24, vP (pv3.add 2))] rfl (lB 2 1 tO103) (.w [] rfl (fa rfl tF52_0) (.w [(26, vP (po.add 0))] rfl (lB 0 0 tO22) (.c [(27, .slice a3 1 c)] rfl rfl rfl rfl rfl rfl (fun _ => cl (v := .int .u32 1) Tryz.call76 rfl rfl (fun w S => (by have h_ := c_word S.sub ([0] : List Int) a3 c q17 q16 q3; rw [q24] at h_; exact h_))) (.w [] rfl (fa rfl tF52_1) (.w [(29, vP (po.add 1))] rfl (lB 1 0 tO22) (.c [(30, .slice a4 1 c2), (28, .int .u32 1)] rfl rfl rfl rfl rfl rfl (fun _ => cl (v := .int .u32 2) Tryz.call76 rfl rfl (fun w S => (by have h_ := c_word S.sub ([1] : List Int) a4 c2 q19 q18 q6; rw [q26] at h_; exact h_))) (.w [] rfl (fa rfl tF52_2) (.w [(32, vP (po.add 2))] rfl (lB 2 0 tO22) (.c [(33, .slice a5 1 c3), (31, .int .u32 2)] rfl rfl rfl rfl rfl rfl (fun _ => cl (v := .int .u32 1) Tryz.call76 rfl rfl (fun w S => (by have h_ := c_word S.sub ([0] : List Int) a5 c3 q21 q20 q3; rw [q28] at h_; exact h_))) (.w [] rfl (fa rfl tF52_3) (.w [(35, vP (po.add 3))] rfl (lB 3 0 tO3) (.w [(28, .int .u32 1), (31, .int .u32 2), (34, .int .u32 1), (36, iV 3)] rfl (bld (cs := #[.int .u32 1, .int .u32 2, .int .u32 1, iV 3]) (pv := [(0, .int .u32 1), (1, .int .u32 2), (2, .int .u32 1), (3, iV 3)]) tB144 rfl rfl) (.nil)))))))))))))))))) (.cons [(37, .agg #[.int .u32 1, .int .u32 2, .int .u32 1, iV 3])] rfl rfl (fun sL hL => ?_) (.nil))
 refine bs2 (cs := #[.int .u32 1, .int .u32 2, .int .u32 1, iV 3]) (pv := [(0, .agg #[.int .u32 1, .int .u32 2, .int .u32 1, iV 3])]) tS103 rfl rfl (by decide) (by decide) rfl rfl rfl (fun a6 q71 => ?_)
 refine .nil ?_
 refine .ja (M := [16, 7, 10, 13, 15, 6, 9, 12, 14, 5, 8, 11]) (C' := [0, 1, 2, 3, 4]) (pre := [(17, .slice a6 1 1)]) [(3, vP pv3), (5, vP po), (15, .slice at_3 1 ct3), (16, iV 1), (17, iV 0)] [3, 5, 15, 16, 17] hL rfl rfl rfl rfl rfl sb rfl rfl (by kernel_rfl) ?_
 refine .ST [18] 18 (.w [] rfl mv0 (.w [] rfl mv0 (.w [(22, vP pv3)] rfl (nck rfl) (.w [(23, vP pv3)] rfl (fa rfl tF105_2) (.w [(24, vP (pv3.add 2))] rfl (lB 2 2 tO103) (.nil)))))) (.cons [(25, .slice none 0 0), (38, .slice a6 1 1), (34, .int .u32 1)] rfl rfl (fun sL hL => ?_) (.nil))
 refine .nilSl 144 4 ?_
 refine app (k := 0) (news := [.int .u32 1, .int .u32 2, .int .u32 1, iV 3]) (cs' := [.int .u32 1, .int .u32 2, .int .u32 1, iV 3]) (nm := 1) tS103 rfl (by decide) rfl rfl rfl rfl (srcS (k := 1) rfl) (oneAll rfl) (by decide) (by decide) rfl rfl rfl (fun a7 c4 => ?_)
 refine .nil ?_
 refine .ja (M := [4, 3, 2, 1]) (C' := [0, 19, 20]) (pre := [(18, .slice a7 1 c4), (19, vP pv3), (20, vP (pv3.add 2))]) [(3, vP pv3), (5, vP po), (15, .slice at_3 1 ct3), (16, iV 1), (17, iV 0)] [3, 5, 15, 16, 17] hL rfl rfl rfl rfl rfl sb rfl rfl (by kernel_rfl) ?_
 refine .ST [21] 21 (.w [] rfl mv0 (.w [(21, vP pv3), (21, vP pv3), (22, vP pv3), (23, vP pv3), (24, vP (pv3.add 2)), (25, .slice none 0 0), (26, vP (po.add 0)), (27, .slice a3 1 c), (28, .int .u32 1), (29, vP (po.add 1)), (30, .slice a4 1 c2), (31, .int .u32 2), (32, vP (po.add 2)), (33, .slice a5 1 c3), (34, .int .u32 1), (35, vP (po.add 3)), (36, iV 3), (37, .agg #[.int .u32 1, .int .u32 2, .int .u32 1, iV 3]), (38, .slice a6 1 1), (39, .slice a7 1 c4)] rfl (nck rfl) (.w [(40, vP pv3), (21, vP pv3), (22, vP pv3), (23, vP pv3), (24, vP (pv3.add 2)), (25, .slice none 0 0), (26, vP (po.add 0)), (27, .slice a3 1 c), (28, .int .u32 1), (29, vP (po.add 1)), (30, .slice a4 1 c2), (31, .int .u32 2), (32, vP (po.add 2)), (33, .slice a5 1 c3), (34, .int .u32 1), (35, vP (po.add 3)), (36, iV 3), (37, .agg #[.int .u32 1, .int .u32 2, .int .u32 1, iV 3]), (38, .slice a6 1 1), (39, .slice a7 1 c4)] rfl (fa rfl tF105_2) (.nil)))) (.cons [(41, vP (pv3.add 2)), (39, .slice a7 1 c4), (39, .slice a7 1 c4), (21, vP pv3), (22, vP pv3), (23, vP pv3), (24, vP (pv3.add 2)), (25, .slice none 0 0), (26, vP (po.add 0)), (27, .slice a3 1 c), (28, .int .u32 1), (29, vP (po.add 1)), (30, .slice a4 1 c2), (31, .int .u32 2), (32, vP (po.add 2)), (33, .slice a5 1 c3), (34, .int .u32 1), (35, vP (po.add 3)), (36, iV 3), (37, .agg #[.int .u32 1, .int .u32 2, .int .u32 1, iV 3]), (38, .slice a6 1 1), (39, .slice a7 1 c4)] rfl rfl (fun sL hL => ?_) (.nil))
 refine st (p := pv3) (off := 2) (k := 3) (vs := [.slice a7 1 c4]) rfl rfl rfl (fun w => (tO103 w).2) rfl rfl rfl rfl ?_
 refine .nil ?_
 refine .jaN (M := [20, 0, 19]) (C' := []) (pre := []) [3, 5, 15, 16, 17] hL rfl rfl rfl rfl rfl (by kernel_rfl) ?_
 refine .LA [(21, vP pv3), (22, vP pv3), (23, vP pv3), (24, vP (pv3.add 2)), (25, .slice none 0 0), (26, vP (po.add 0)), (27, .slice a3 1 c), (28, .int .u32 1), (29, vP (po.add 1)), (30, .slice a4 1 c2), (31, .int .u32 2), (32, vP (po.add 2)), (33, .slice a5 1 c3), (34, .int .u32 1), (35, vP (po.add 3)), (36, iV 3), (37, .agg #[.int .u32 1, .int .u32 2, .int .u32 1, iV 3]), (38, .slice a6 1 1), (39, .slice a7 1 c4), (40, vP pv3), (41, vP (pv3.add 2))] (.nil) ?_
 refine .blkN (.seqN (.region (.V bi0 ?_)))
 refine .V mv0 ?_
 refine .nil ?_
 refine .more ?_
 refine .sub (s' := [(3, vP pv3), (15, .slice at_3 1 ct3), (16, iV 1), (17, iV 1)]) sb ?_
 refine .sel0 [0, 3, 5, 6] (by decide) rfl ?_
 refine .KA [OwnSl 144 4 a7 1 c4 [.int .u32 1, .int .u32 2, .int .u32 1, iV 3], Box pv3 [.int .u32 1, .int .u32 2, .slice a7 1 c4], Box pv2 [iV 0, iV 0], Box pv [iV 0, iV 0]] ?_
 refine .seq (.region (.V bi0 ?_))
 refine .nil (.seqN (.seq ?_))
 refine .cond rfl (fun e => absurd (e.symm.trans rfl) (by decide)) (fun _ => ?_)
 refine .exit (.seqX (.seqX (.blkX (.seqN (.seq (.region (.V mv0 ?_)))))))
 refine .V ag0 ?_
 refine .nil (.seqN (.ret ?_))
 refine .res1 rfl (rvT rfl) (inl_back (v := .pointer (some pv3)) q11 rfl ?_)
 refine .V ag0 ?_
 refine .nil (.seqN (.seq (.region (.V mv0 ?_))))
 refine .V (mkI tC56 rfl) ?_
 refine .freezeL (k := 0) rfl (fun h1 le1 q29 q30 => ?_)
 have q1 : RSl h1 a7 ([(⟨1, 2, 1, 3⟩ : Masks)] : List Masks) := (RSl.of (xs := ([(⟨1, 2, 1, 3⟩ : Masks)] : List Masks)) q30)
 refine .freezeBx (k := 1) rfl (fun h2 le2 q0 => ?_)
 obtain ⟨q31, hF⟩ := hF
 obtain ⟨r8, q4⟩ : ∃ y_ : List Int × Bool, y_ = sp_all (⟨1, 2, ([(⟨1, 2, 1, 3⟩ : Masks)] : List Masks)⟩ : WordsT) := ⟨_, rfl⟩
 replace hF := hF r8 q4
 refine clO (α := Option Addr × Nat) (V := fun z => .tuple #[vSl z.1 r8.1 z.2, .bool r8.2]) (Ψ := fun z => True) (B := fun z => [OwnSl 62 1 z.1 r8.1.length z.2 (flL (α := W32) r8.1)]) Tryz.call41 rfl rfl (fun w S => (by rw [q4]; exact c_all S.sub (⟨1, 2, ([(⟨1, 2, 1, 3⟩ : Masks)] : List Masks)⟩ : WordsT) a7 c4 (q1.mono (le2)) (show ([(⟨1, 2, 1, 3⟩ : Masks)] : List Masks).length ≤ c4 from q29) pv3 (CellsAt.mono (FH.le_refl _) q0) q31)) rfl (fun z _ => ?_)
 obtain ⟨a8, c5⟩ := z
 obtain rfl : r8 = (([1, 2] : List Int), true) := q4.trans (by decide +kernel)
 refine .V mv0 ?_
 refine .V (ext rfl rfl) ?_
 refine .V (ext rfl rfl) ?_
 refine .V ag0 ?_
 refine .V ag0 ?_
 refine .nil (.seqN (.seq (.seq (.region (.V mv0 ?_)))))
 refine .V (nt rfl) ?_
 refine .nil (.seqN ?_)
 refine .cond rfl (fun e => absurd (e.symm.trans rfl) (by decide)) (fun _ => ?_)
 refine .skip (.seqN (.seq (.region (.V mv0 ?_))))
 obtain ⟨q32, hF⟩ := hF
 obtain ⟨r9, q5⟩ : ∃ y_ : List Int, y_ = sp_sortW ([1, 2] : List Int) := ⟨_, rfl⟩
 replace hF := hF r9 q5
 refine callX (k := 0) (v := .tuple #[]) (X' := OwnSl 62 1 a8 (([1, 2] : List Int).length) c5 (flL (α := W32) r9)) rfl Tryz.call42 rfl rfl (fun w g hx sg hd hs' => ?_) rfl ?_
 ·rw [q5]; exact c_sortW hs' ([1, 2] : List Int) a8 c5 hx sg hd q32
 obtain rfl : r9 = ([1, 2] : List Int) := q5.trans (sortW_two (by decide +kernel))
 refine .nil (.seqN (.seq (.region (.V mv0 ?_))))
 refine .V mv0 ?_
 refine .V (bld (cs := #[iV 0, iV 0]) (pv := []) tB27 rfl rfl) ?_
 refine .V ag0 ?_
 refine .V ag0 ?_
 refine st (p := pv2) (off := 0) (k := 3) (vs := [iV 0, iV 0]) rfl rfl rfl (fun w => (tA27 w).2) rfl rfl rfl rfl ?_
 refine .KA [OwnSl 62 1 a8 2 c5 [.int .u32 1, .int .u32 2], tru, tru, Box pv2 [iV 0, iV 0], Box pv [iV 0, iV 0]] ?_
 refine .nil (.seqN (.ret ?_))
 refine .res3 rfl (rvT rfl) (rvT rfl) (rvC rfl tA27 (k := 3) rfl rfl) (inl_back (v := .tuple #[.pointer (some pv3), .slice a8 2 c5, .agg #[iV 0, iV 0]]) q8 rfl ?_)
 refine .V mv0 ?_
 refine .V (ext rfl rfl) ?_
 refine .V (ext rfl rfl) ?_
 refine .V (ext rfl rfl) ?_
 refine al tZ27 rfl (fun pf2 => ?_)
 refine .V ag0 ?_
 refine .V ag0 ?_
 refine st (p := pf2) (off := 0) (k := 0) (vs := [iV 0, iV 0]) rfl rfl rfl (fun w => (tA27 w).2) rfl rfl rfl rfl ?_
 refine .nil (.seqN (.seq (.seq (.region (.V (ldA (cs := [iV 0, iV 0]) rfl tA27 rfl (cellsB (off := 0) (k := 0) rfl (m := 2) rfl)) ?_)))))
 refine .V (bld (cs := #[iV 0, iV 0]) (pv := []) tB27 rfl rfl) ?_
 refine .V (ne2 tE27 rfl rfl) ?_
 refine .nil (.seqN ?_)
 refine .cond rfl (fun e => absurd (e.symm.trans rfl) (by decide)) (fun _ => ?_)
 refine .skip (.seqN (.seq (.region (.V mv0 ?_))))
 refine .V mv0 ?_
 refine .inlM Tryz.func21 rfl Tryz.ntmps21 Tryz.call21 rfl rfl rfl rfl (fun a9 q33 => ?_)
 refine .mk0 ?_
 refine .KA [MkA [], Box pf2 [iV 0, iV 0], OwnSl 62 1 a8 2 c5 [.int .u32 1, .int .u32 2], tru, tru, Box pv2 [iV 0, iV 0], Box pv [iV 0, iV 0]] ?_
 refine .sel0 [0, 2, 6] (by decide) rfl ?_
 refine .KA [MkA [], OwnSl 62 1 a8 2 c5 [.int .u32 1, .int .u32 2], Box pv [iV 0, iV 0]] ?_
 refine .seq (.region (.V ag0 ?_))
 refine .nil (.seqN (.seq (.region ?_)))
 refine mmI .u32 (fun v : Value => v) rfl (fun bv => ?_)
 refine al tZ87 rfl (fun pback => ?_)
 refine st (p := pback) (off := 0) (k := 0) (vs := [.map (some bv)]) rfl rfl rfl (fun w => (tO87 w).2) rfl rfl rfl rfl ?_
 refine .nil (.seqN (.seq (.region ?_)))
 refine mmI .u32 (fun v : Value => v) rfl (fun bv2 => ?_)
 refine .V ag0 ?_
 refine .nil (.seqN (.seq (.region ?_)))
 refine .inl Tryz.func45 rfl Tryz.ntmps45 Tryz.call45 rfl rfl rfl rfl (fun a10 q34 => ?_)
 refine .KA [OwnMapI bv2 .u32 (fun v : Value => v) ([] : List (Int × Value)), Box pback [.map (some bv)], OwnMapI bv .u32 (fun v : Value => v) ([] : List (Int × Value)), MkA [], OwnSl 62 1 a8 2 c5 [.int .u32 1, .int .u32 2], Box pv [iV 0, iV 0]] ?_
 refine .seq (.region (.V ag0 ?_))
 refine .nil (.seqN (.seq (.region ?_)))
 refine mmI .u32 (fun v : Value => v) rfl (fun bv3 => ?_)
 refine .V (bld (cs := #[.slice none 0 0, .map (some bv3), iV 0]) (pv := [(1, .map (some bv3))]) tB157 rfl rfl) ?_
 refine bx (vs := [.slice none 0 0, .map (some bv3), iV 0]) rfl rfl rfl (fun pv4 => ?_)
 refine .V ag0 ?_
 refine .nil (.seqN (.ret ?_))
 refine .res1 rfl (rvT rfl) (inl_back (v := .pointer (some pv4)) q34 rfl ?_)
 refine .V ag0 ?_
 refine .nil (.seqN (.seq (.seq (.region (.V mv0 ?_)))))
 refine .V (ln rfl tS57.is) ?_
 refine .V mv0 ?_
 refine .nil (.seqN (.block ?_))
 refine .rounds 90 ?_
 refine .seq (.region (.V bi0 ?_))
 refine .nil (.seqN (.seq ?_))
 refine .cond rfl (fun _ => ?_) (fun e => absurd (e.symm.trans rfl) (by decide))
 refine .skip (.seqN (.seq (.block (.seq (.region (.V (ixS rfl rfl tS57 (k := 6) rfl (And.intro (by decide) (by decide))) ?_))))))
 refine .V (ld1 (v := .int .u32 1) rfl tO62 (cellS (k := 6) rfl rfl)) ?_
 refine al tZ62 rfl (fun ps => ?_)
 refine st (p := ps) (off := 0) (k := 0) (vs := [.int .u32 1]) rfl rfl rfl (fun w => (tO62 w).2) rfl rfl rfl rfl ?_
 refine .nil (.seqN (.seq (.region (.V mv0 ?_))))
 refine .V (lB 0 0 tO62) ?_
 refine muI (enc := fun v : Value => v) (iV 1000000000) tMR60 rfl rfl rfl (q := 3) rfl ?_
 refine .nil (.seqN (.seq (.seq (.region (.V mv0 ?_)))))
 refine .V (lB 0 0 tO62) ?_
 refine .inl Tryz.func46 rfl Tryz.ntmps46 Tryz.call46 rfl rfl rfl rfl (fun a11 q35 => ?_)
 refine .KA [Box ps [.int .u32 1], Box pv4 [.slice none 0 0, .map (some bv3), iV 0], OwnMapI bv3 .u32 (fun v : Value => v) ([] : List (Int × Value)), OwnMapI bv2 .u32 (fun v : Value => v) ([(1, iV 1000000000)] : List (Int × Value)), Box pback [.map (some bv)], OwnMapI bv .u32 (fun v : Value => v) ([] : List (Int × Value)), MkA [], OwnSl 62 1 a8 2 c5 [.int .u32 1, .int .u32 2], Box pv [iV 0, iV 0]] ?_
 refine .seq (.region (.V ag0 ?_))
 refine .nil (.seqN (.seq ?_))
 refine .OA (s0 := [(0, vP pv3), (1, .int .u32 1)]) [0, 1, 2, 3, 4, 5, 6, 7, 8, 9, 10, 11] [(0, .int .u32 1), (1, vP pv3), (2, vP pv3), (3, vP (pv3.add 1)), (4, .int .u32 2), (5, .int .u32 0), (6, vP pv3), (7, vP pv3), (8, vP (pv3.add 1)), (9, .int .u32 2), (10, .bool false), (11, .bool false)] [0, 1] [] ?_
 refine .LA [(5, .int .u32 1), (6, vP pv3), (7, vP pv3), (8, vP (pv3.add 1)), (9, .int .u32 2), (10, .int .u32 0), (11, vP pv3), (12, vP pv3), (13, vP (pv3.add 1)), (14, .int .u32 2), (15, .bool false), (4, .bool false)] (.w [] rfl mv0 (.w [] rfl mv0 (.w [(6, vP pv3)] rfl (nck rfl) (.w [(7, vP pv3)] rfl (fa rfl tF105_1) (.w [(8, vP (pv3.add 1))] rfl (ld1 (v := .int .u32 2) rfl tO62 (cellH (CellsAt.mono (FH.le_refl _) q0 1 _ rfl))) (.w [(5, .int .u32 1), (9, .int .u32 2)] rfl bi0 (.w [] rfl mv0 (.w [(11, vP pv3)] rfl (nck rfl) (.w [(12, vP pv3)] rfl (fa rfl tF105_1) (.w [(13, vP (pv3.add 1))] rfl (ld1 (v := .int .u32 2) rfl tO62 (cellH (CellsAt.mono (FH.le_refl _) q0 1 _ rfl))) (.w [(10, .int .u32 0), (14, .int .u32 2)] rfl bi0 (.w [(15, .bool false), (5, .int .u32 1), (6, vP pv3), (7, vP pv3), (8, vP (pv3.add 1)), (9, .int .u32 2), (10, .int .u32 0), (11, vP pv3), (12, vP pv3), (13, vP (pv3.add 1)), (14, .int .u32 2), (15, .bool false)] rfl ag0 (.nil))))))))))))) ?_
 refine .seqN (.ret ?_)
 refine .res1 rfl (rvT rfl) (inl_back (v := .bool false) q35 rfl ?_)
 refine .nil (.seqN ?_)
 refine .cond rfl (fun e => absurd (e.symm.trans rfl) (by decide)) (fun _ => ?_)
 refine .skip (.seqN (.seq (.region (.V mv0 ?_))))
 refine .V (lB 0 0 tO62) ?_
 refine .inl Tryz.func48 rfl Tryz.ntmps48 Tryz.call48 rfl rfl rfl rfl (fun a12 q36 => ?_)
 refine .KA [Box ps [.int .u32 1], Box pv4 [.slice none 0 0, .map (some bv3), iV 0], OwnMapI bv3 .u32 (fun v : Value => v) ([] : List (Int × Value)), OwnMapI bv2 .u32 (fun v : Value => v) ([(1, iV 1000000000)] : List (Int × Value)), Box pback [.map (some bv)], OwnMapI bv .u32 (fun v : Value => v) ([] : List (Int × Value)), MkA [], OwnSl 62 1 a8 2 c5 [.int .u32 1, .int .u32 2], Box pv [iV 0, iV 0]] ?_
 refine .seq (.region ?_)
 refine bx (vs := [vP pv3]) rfl rfl rfl (fun pw => ?_)
 refine bx (vs := [.int .u32 1]) rfl rfl rfl (fun ps2 => ?_)
 refine .V ag0 ?_
 refine .nil (.seqN (.seq (.region (.V (mkf (vf := []) (vc := [vP pw, vP ps2]) rfl rfl) ?_))))
 refine .V ag0 ?_
 refine .nil (.seqN (.ret ?_))
 refine .res1 rfl (rvT rfl) (inl_back (v := .func (.func 80) #[] #[.pointer (some pw), .pointer (some ps2)]) q36 rfl ?_)
 refine .nil (.seqN (.block ?_))
 refine .sub (s' := [(0, vP pv3), (5, vP pback), (6, .map (some bv2)), (7, vP pv4), (9, vP ps), (19, .slice a8 2 c5), (20, iV 2), (21, iV 0), (37, .func (.func 80) #[] #[vP pw, vP ps2])]) sb ?_
 refine .rangeF (k := 8) (caps := [vP pw, vP ps2]) rfl rfl Tryz.func80 rfl Tryz.ntmps80 rfl Tryz.call80 (fun l D LA a13 q2 q37 => ?_)
 refine .KA [LA .ready none, Box ps2 [.int .u32 1], Box pw [vP pv3], Box ps [.int .u32 1], Box pv4 [.slice none 0 0, .map (some bv3), iV 0], OwnMapI bv3 .u32 (fun v : Value => v) ([] : List (Int × Value)), OwnMapI bv2 .u32 (fun v : Value => v) ([(1, iV 1000000000)] : List (Int × Value)), Box pback [.map (some bv)], OwnMapI bv .u32 (fun v : Value => v) ([] : List (Int × Value)), MkA (D :: []), OwnSl 62 1 a8 2 c5 [.int .u32 1, .int .u32 2], Box pv [iV 0, iV 0]] ?_
 refine .seq (.region (.V (lB 0 2 tO56) ?_))
 refine .V (nck rfl) ?_
 refine .V (fa rfl tF105_2) ?_
 refine .V (ld1 (v := .slice a7 1 c4) rfl tO103 (cellH (CellsAt.mono (FH.le_refl _) q0 2 _ rfl))) ?_
 refine .V (ln rfl tS103.is) ?_
 refine .V mv0 ?_
 refine .nil (.seqN (.block ?_))
 refine .rounds 90 ?_
 refine .seq (.region (.V bi0 ?_))
 refine .nil (.seqN (.seq ?_))
 refine .cond rfl (fun _ => ?_) (fun e => absurd (e.symm.trans rfl) (by decide))
 refine .skip (.seqN (.seq (.block (.seq (.region (.V mv0 ?_))))))
 refine .V (ix rfl rfl tS103 (q1.ne (by decide) (inb_pos (show inb ([(⟨1, 2, 1, 3⟩ : Masks)] : List Masks) (0 : Int) from And.intro (by decide) (by decide)))) (show inb ([(⟨1, 2, 1, 3⟩ : Masks)] : List Masks) (0 : Int) from And.intro (by decide) (by decide))) ?_
 refine .V (ldA (cs := [.int .u32 1, .int .u32 2, .int .u32 1, iV 3]) rfl tA144 rfl (cellsH ((q1.mono (le2)).elemF (show inb ([(⟨1, 2, 1, 3⟩ : Masks)] : List Masks) (0 : Int) from And.intro (by decide) (by decide)) (by decide)))) ?_
 refine al tZ144 rfl (fun pback2 => ?_)
 refine .V ag0 ?_
 refine st (p := pback2) (off := 0) (k := 0) (vs := [.int .u32 1, .int .u32 2, .int .u32 1, iV 3]) rfl rfl rfl (fun w => (tA144 w).2) rfl rfl rfl rfl ?_
 refine .nil (.seqN (.seq (.region (.V (lB 0 2 tO62) ?_))))
 refine .V (fa rfl tF144_0) ?_
 refine .V (lB 0 0 tO62) ?_
 refine .V bi0 ?_
 refine .V (fa rfl tF144_0) ?_
 refine .V (lB 0 0 tO62) ?_
 refine .V bi0 ?_
 refine .V mv0 ?_
 refine .gv mv0 rfl rfl rfl rfl rfl rfl ?_
 refine .gv mv0 rfl rfl rfl rfl rfl rfl ?_
 refine .gv (fa rfl tF144_3) rfl rfl rfl rfl rfl rfl ?_
 refine .gv (lB 3 0 tO3) rfl rfl rfl rfl rfl rfl ?_
 refine .gv (lB 0 2 tO62) rfl rfl rfl rfl rfl rfl ?_
 refine .gv (fa rfl tF144_2) rfl rfl rfl rfl rfl rfl ?_
 refine .gv (lB 2 0 tO62) rfl rfl rfl rfl rfl rfl ?_
 refine .gv bi0 rfl rfl rfl rfl rfl rfl ?_
 refine .gv (fa rfl tF144_1) rfl rfl rfl rfl rfl rfl ?_
 refine .gv (lB 1 0 tO62) rfl rfl rfl rfl rfl rfl ?_
 refine .gv bi0 rfl rfl rfl rfl rfl rfl ?_
 refine .gv (bld (cs := #[iV 0, iV 3, .int .u32 2]) (pv := [(0, iV 0), (1, iV 3), (2, .int .u32 2)]) tB96 rfl rfl) rfl rfl rfl rfl rfl rfl ?_
 refine .gR rfl rfl rfl rfl ?_
 refine .yld (k := 1) (vs := [.agg #[iV 0, iV 3, .int .u32 2]]) q2 rfl rfl rfl rfl rfl (fun aG q38 => ?_)
 refine .sub (s' := [(5, vP pback), (9, vP ps), (38, .agg #[iV 0, iV 3, .int .u32 2])]) sb ?_
 refine .region ?_
 refine al tZ96 rfl (fun pe => ?_)
 refine st (p := pe) (off := 0) (k := 0) (vs := [iV 0, iV 3, .int .u32 2]) rfl rfl rfl (fun w => (tA96 w).2) rfl rfl rfl rfl ?_
 refine .nil ?_
 refine .begin_ (k := 2) q2 rfl ?_
 refine .block ?_
 refine .OA (s0 := [(5, vP pback), (9, vP ps), (10, vP pe)]) [0, 1, 2, 3, 4, 5, 6, 7, 8, 9, 10] [(0, .map (some bv)), (1, vP (pe.add 2)), (2, .int .u32 2), (3, .map (some bv)), (4, vP (pe.add 2)), (5, .int .u32 2), (6, .slice none 0 0), (7, .int .u32 1), (8, vP (pe.add 1)), (9, iV 3), (10, .agg #[.int .u32 1, iV 3])] [5, 9, 10] [] ?_
 refine .ST [11] 11 (.w [] rfl (lB 0 9 tO87) (.w [] rfl (fa rfl tF96_2) (.w [(40, vP (pe.add 2))] rfl (lB 2 0 tO62) (.w [] rfl (lB 0 9 tO87) (.w [] rfl (fa rfl tF96_2) (.w [(43, vP (pe.add 2))] rfl (lB 2 0 tO62) (.w [(42, .map (some bv)), (44, .int .u32 2)] rfl (lkI (enc := fun v : Value => v) (m := ([] : List (Int × Value))) (k := 2) (.slice none 0 0) tMR87 rfl rfl (q := 10) rfl) (.w [] rfl (lB 0 5 tO62) (.w [] rfl (fa rfl tF96_1) (.w [(47, vP (pe.add 1))] rfl (lB 1 0 tO3) (.w [(46, .int .u32 1), (48, iV 3)] rfl (bld (cs := #[.int .u32 1, iV 3]) (pv := [(0, .int .u32 1), (1, iV 3)]) tB99 rfl rfl) (.nil)))))))))))) (.cons [(49, .agg #[.int .u32 1, iV 3])] rfl rfl (fun sL hL => ?_) (.nil))
 refine bs2 (cs := #[.int .u32 1, iV 3]) (pv := [(0, .agg #[.int .u32 1, iV 3])]) tS97 rfl rfl (by decide) (by decide) rfl rfl rfl (fun a14 q72 => ?_)
 refine .nil ?_
 refine .ja (M := [10, 7, 9, 8]) (C' := [0, 1, 2, 3, 4, 5, 6]) (pre := [(11, .slice a14 1 1)]) [(5, vP pback), (9, vP ps), (10, vP pe)] [5, 9, 10] hL rfl rfl rfl rfl rfl sb rfl rfl (by kernel_rfl) ?_
 refine .ST [12] 12 (.w [] rfl (lB 0 10 tO87) (.w [] rfl (fa rfl tF96_2) (.w [(40, vP (pe.add 2))] rfl (lB 2 1 tO62) (.w [] rfl (lB 0 10 tO87) (.w [] rfl (fa rfl tF96_2) (.w [(43, vP (pe.add 2))] rfl (lB 2 1 tO62) (.w [(42, .map (some bv)), (44, .int .u32 2)] rfl (lkI (enc := fun v : Value => v) (m := ([] : List (Int × Value))) (k := 2) (.slice none 0 0) tMR87 rfl rfl (q := 11) rfl) (.nil)))))))) (.cons [(45, .slice none 0 0), (50, .slice a14 1 1)] rfl rfl (fun sL hL => ?_) (.nil))
 refine .nilSl 99 2 ?_
 refine app (k := 0) (news := [.int .u32 1, iV 3]) (cs' := [.int .u32 1, iV 3]) (nm := 1) tS97 rfl (by decide) rfl rfl rfl rfl (srcS (k := 1) rfl) (oneAll rfl) (by decide) (by decide) rfl rfl rfl (fun a15 c6 => ?_)
 refine .nil ?_
 refine .ja (M := [6, 3, 5, 4]) (C' := [0, 1, 2]) (pre := [(12, .slice a15 1 c6)]) [(5, vP pback), (9, vP ps), (10, vP pe)] [5, 9, 10] hL rfl rfl rfl rfl rfl sb rfl rfl (by kernel_rfl) ?_
 refine .ST [13] 13 (.w [] rfl (lB 0 11 tO87) (.w [] rfl (fa rfl tF96_2) (.w [(40, vP (pe.add 2))] rfl (lB 2 2 tO62) (.nil)))) (.cons [(39, .map (some bv)), (41, .int .u32 2), (51, .slice a15 1 c6), (51, .slice a15 1 c6), (39, .map (some bv)), (40, vP (pe.add 2)), (41, .int .u32 2), (42, .map (some bv)), (43, vP (pe.add 2)), (44, .int .u32 2), (45, .slice none 0 0), (46, .int .u32 1), (47, vP (pe.add 1)), (48, iV 3), (49, .agg #[.int .u32 1, iV 3]), (50, .slice a14 1 1), (51, .slice a15 1 c6)] rfl rfl (fun sL hL => ?_) (.nil))
 refine muI (enc := fun v : Value => v) (.slice a15 1 c6) tMR87 rfl rfl rfl (q := 12) rfl ?_
 refine .KA [OwnSl 99 2 a15 1 c6 [.int .u32 1, iV 3], OwnSl 99 2 a14 1 1 [.int .u32 1, iV 3], Box pe [iV 0, iV 3, .int .u32 2], Box pback2 [.int .u32 1, .int .u32 2, .int .u32 1, iV 3], LA .busy none, Box ps2 [.int .u32 1], Box pw [vP pv3], Box ps [.int .u32 1], Box pv4 [.slice none 0 0, .map (some bv3), iV 0], OwnMapI bv3 .u32 (fun v : Value => v) ([] : List (Int × Value)), OwnMapI bv2 .u32 (fun v : Value => v) ([(1, iV 1000000000)] : List (Int × Value)), Box pback [.map (some bv)], OwnMapI bv .u32 (fun v : Value => v) ([(2, .slice a15 1 c6)] : List (Int × Value)), MkA (D :: []), OwnSl 62 1 a8 2 c5 [.int .u32 1, .int .u32 2], Box pv [iV 0, iV 0]] ?_
 refine .nil ?_
 refine .jaN (M := [0, 2, 1]) (C' := []) (pre := []) [5, 9, 10] hL rfl rfl rfl rfl rfl (by kernel_rfl) ?_
 refine .LA [(39, .map (some bv)), (40, vP (pe.add 2)), (41, .int .u32 2), (42, .map (some bv)), (43, vP (pe.add 2)), (44, .int .u32 2), (45, .slice none 0 0), (46, .int .u32 1), (47, vP (pe.add 1)), (48, iV 3), (49, .agg #[.int .u32 1, iV 3]), (50, .slice a14 1 1), (51, .slice a15 1 c6)] (.nil) ?_
 refine .blkN ?_
 refine .rdN (k := 4) q2 rfl q38 rfl ?_
 refine .gv (nt rfl) rfl rfl rfl rfl rfl rfl ?_
 refine .V (pkT rfl rfl rfl) ?_
 refine .nil (.seqN ?_)
 refine .cond rfl (fun e => absurd (e.symm.trans rfl) (by decide)) (fun _ => ?_)
 refine .skip (.blkN (.seqN (.region (.V bi0 ?_))))
 refine .V mv0 ?_
 refine .nil ?_
 refine .more ?_
 refine .sub (s' := [(0, .func (.yield l) #[] #[]), (2, vP ps2), (9, .slice a7 1 c4), (10, iV 1), (11, iV 1)]) sb ?_
 refine .sel0 [0, 4, 5, 6, 7, 8, 9, 10, 11, 12, 13, 14, 15] (by decide) rfl ?_
 refine .KA [OwnSl 99 2 a15 1 c6 [.int .u32 1, iV 3], LA .ready none, Box ps2 [.int .u32 1], Box pw [vP pv3], Box ps [.int .u32 1], Box pv4 [.slice none 0 0, .map (some bv3), iV 0], OwnMapI bv3 .u32 (fun v : Value => v) ([] : List (Int × Value)), OwnMapI bv2 .u32 (fun v : Value => v) ([(1, iV 1000000000)] : List (Int × Value)), Box pback [.map (some bv)], OwnMapI bv .u32 (fun v : Value => v) ([(2, .slice a15 1 c6)] : List (Int × Value)), MkA (D :: []), OwnSl 62 1 a8 2 c5 [.int .u32 1, .int .u32 2], Box pv [iV 0, iV 0]] ?_
 refine .seq (.region (.V bi0 ?_))
 refine .nil (.seqN (.seq ?_))
 refine .cond rfl (fun e => absurd (e.symm.trans rfl) (by decide)) (fun _ => ?_)
 refine .exit (.seqX (.seqX (.blkX ?_)))
 refine .res0 (.inr rfl) rfl (range_done (k := 1) q2 rfl q37 ?_)
 refine .KA [OwnSl 99 2 a15 1 c6 [.int .u32 1, iV 3], tru, Box ps2 [.int .u32 1], Box pw [vP pv3], Box ps [.int .u32 1], Box pv4 [.slice none 0 0, .map (some bv3), iV 0], OwnMapI bv3 .u32 (fun v : Value => v) ([] : List (Int × Value)), OwnMapI bv2 .u32 (fun v : Value => v) ([(1, iV 1000000000)] : List (Int × Value)), Box pback [.map (some bv)], OwnMapI bv .u32 (fun v : Value => v) ([(2, .slice a15 1 c6)] : List (Int × Value)), MkA (D :: []), OwnSl 62 1 a8 2 c5 [.int .u32 1, .int .u32 2], Box pv [iV 0, iV 0]] ?_
 refine .blkN (.blkN (.seqN (.region (.V bi0 ?_))))
 refine .V mv0 ?_
 refine .nil ?_
 refine .more ?_
 refine .sub (s' := [(0, vP pv3), (5, vP pback), (6, .map (some bv2)), (7, vP pv4), (19, .slice a8 2 c5), (20, iV 2), (21, iV 1)]) sb ?_
 refine .sel0 [0, 5, 6, 7, 8, 9, 10, 11, 12] (by decide) rfl ?_
 refine .KA [OwnSl 99 2 a15 1 c6 [.int .u32 1, iV 3], Box pv4 [.slice none 0 0, .map (some bv3), iV 0], OwnMapI bv3 .u32 (fun v : Value => v) ([] : List (Int × Value)), OwnMapI bv2 .u32 (fun v : Value => v) ([(1, iV 1000000000)] : List (Int × Value)), Box pback [.map (some bv)], OwnMapI bv .u32 (fun v : Value => v) ([(2, .slice a15 1 c6)] : List (Int × Value)), MkA (D :: []), OwnSl 62 1 a8 2 c5 [.int .u32 1, .int .u32 2], Box pv [iV 0, iV 0]] ?_
 refine .seq (.region (.V bi0 ?_))
 refine .nil (.seqN (.seq ?_))
 refine .cond rfl (fun _ => ?_) (fun e => absurd (e.symm.trans rfl) (by decide))
 refine .skip (.seqN (.seq (.block (.seq (.region (.V (ixS rfl rfl tS57 (k := 7) rfl (And.intro (by decide) (by decide))) ?_))))))
 refine .V (ld1 (v := .int .u32 2) rfl tO62 (cellS (k := 7) rfl rfl)) ?_
 refine al tZ62 rfl (fun ps3 => ?_)
 refine st (p := ps3) (off := 0) (k := 0) (vs := [.int .u32 2]) rfl rfl rfl (fun w => (tO62 w).2) rfl rfl rfl rfl ?_
 refine .nil (.seqN (.seq (.region (.V mv0 ?_))))
 refine .V (lB 0 0 tO62) ?_
 refine muI (enc := fun v : Value => v) (iV 1000000000) tMR60 rfl rfl rfl (q := 4) rfl ?_
 refine .nil (.seqN (.seq (.seq (.region (.V mv0 ?_)))))
 refine .V (lB 0 0 tO62) ?_
 refine .inl Tryz.func46 rfl Tryz.ntmps46 Tryz.call46 rfl rfl rfl rfl (fun a16 q39 => ?_)
 refine .KA [Box ps3 [.int .u32 2], OwnSl 99 2 a15 1 c6 [.int .u32 1, iV 3], Box pv4 [.slice none 0 0, .map (some bv3), iV 0], OwnMapI bv3 .u32 (fun v : Value => v) ([] : List (Int × Value)), OwnMapI bv2 .u32 (fun v : Value => v) ([(1, iV 1000000000), (2, iV 1000000000)] : List (Int × Value)), Box pback [.map (some bv)], OwnMapI bv .u32 (fun v : Value => v) ([(2, .slice a15 1 c6)] : List (Int × Value)), MkA (D :: []), OwnSl 62 1 a8 2 c5 [.int .u32 1, .int .u32 2], Box pv [iV 0, iV 0]] ?_
 refine .seq (.region (.V ag0 ?_))
 refine .nil (.seqN (.seq ?_))
 refine .OA (s0 := [(0, vP pv3), (1, .int .u32 2)]) [0, 1, 2, 3, 4, 5, 6, 7, 8, 9, 10, 11] [(0, .int .u32 2), (1, vP pv3), (2, vP pv3), (3, vP (pv3.add 1)), (4, .int .u32 2), (5, .int .u32 2), (6, vP pv3), (7, vP pv3), (8, vP (pv3.add 1)), (9, .int .u32 2), (10, .bool true), (11, .bool true)] [0, 1] [] ?_
 refine .LA [(5, .int .u32 2), (6, vP pv3), (7, vP pv3), (8, vP (pv3.add 1)), (9, .int .u32 2), (10, .int .u32 2), (11, vP pv3), (12, vP pv3), (13, vP (pv3.add 1)), (14, .int .u32 2), (15, .bool true), (4, .bool true)] (.w [] rfl mv0 (.w [] rfl mv0 (.w [(6, vP pv3)] rfl (nck rfl) (.w [(7, vP pv3)] rfl (fa rfl tF105_1) (.w [(8, vP (pv3.add 1))] rfl (ld1 (v := .int .u32 2) rfl tO62 (cellH (CellsAt.mono (FH.le_refl _) q0 1 _ rfl))) (.w [(5, .int .u32 2), (9, .int .u32 2)] rfl bi0 (.w [] rfl mv0 (.w [(11, vP pv3)] rfl (nck rfl) (.w [(12, vP pv3)] rfl (fa rfl tF105_1) (.w [(13, vP (pv3.add 1))] rfl (ld1 (v := .int .u32 2) rfl tO62 (cellH (CellsAt.mono (FH.le_refl _) q0 1 _ rfl))) (.w [(10, .int .u32 2), (14, .int .u32 2)] rfl bi0 (.w [(15, .bool true), (5, .int .u32 2), (6, vP pv3), (7, vP pv3), (8, vP (pv3.add 1)), (9, .int .u32 2), (10, .int .u32 2), (11, vP pv3), (12, vP pv3), (13, vP (pv3.add 1)), (14, .int .u32 2), (15, .bool true)] rfl ag0 (.nil))))))))))))) ?_
 refine .seqN (.ret ?_)
 refine .res1 rfl (rvT rfl) (inl_back (v := .bool true) q39 rfl ?_)
 refine .nil (.seqN ?_)
 refine .cond rfl (fun _ => ?_) (fun e => absurd (e.symm.trans rfl) (by decide))
 refine .seq (.region (.V mv0 ?_))
 refine .V (lB 0 0 tO62) ?_
 refine muI (enc := fun v : Value => v) (iV 0) tMR60 rfl rfl rfl (q := 4) rfl ?_
 refine .nil (.seqN (.region (.V mv0 ?_)))
 refine .V (lB 0 0 tO62) ?_
 refine .inl Tryz.func47 rfl Tryz.ntmps47 Tryz.call47 rfl rfl rfl rfl (fun a17 q40 => ?_)
 refine .KA [Box ps3 [.int .u32 2], OwnSl 99 2 a15 1 c6 [.int .u32 1, iV 3], Box pv4 [.slice none 0 0, .map (some bv3), iV 0], OwnMapI bv3 .u32 (fun v : Value => v) ([] : List (Int × Value)), OwnMapI bv2 .u32 (fun v : Value => v) ([(1, iV 1000000000), (2, iV 0)] : List (Int × Value)), Box pback [.map (some bv)], OwnMapI bv .u32 (fun v : Value => v) ([(2, .slice a15 1 c6)] : List (Int × Value)), MkA (D :: []), OwnSl 62 1 a8 2 c5 [.int .u32 1, .int .u32 2], Box pv [iV 0, iV 0]] ?_
 refine .seq (.region (.V mv0 ?_))
 refine .V (nck rfl) ?_
 refine .V (fa rfl tF157_2) ?_
 refine .V (lB 2 2 tO3) ?_
 refine .V bi0 ?_
 refine .V (nck rfl) ?_
 refine .V (fa rfl tF157_2) ?_
 refine st (p := pv4) (off := 2) (k := 2) (vs := [iV 1]) rfl rfl rfl (fun w => (tO3 w).2) rfl rfl rfl rfl ?_
 refine .nil (.seqN (.seq (.seq (.region (.V mv0 ?_)))))
 refine .V (nck rfl) ?_
 refine .V (fa rfl tF157_1) ?_
 refine .V (lB 1 2 tO153) ?_
 refine .V mv0 ?_
 refine .V (lkI2 (enc := fun v : Value => v) (m := ([] : List (Int × Value))) (k := 2) (.pointer none) tMR153 rfl rfl (q := 3) rfl) ?_
 refine .V mv0 ?_
 refine .V (ext rfl rfl) ?_
 refine .V (ext rfl rfl) ?_
 refine .V ag0 ?_
 refine .V ag0 ?_
 refine .nil (.seqN (.seq (.region (.V mv0 ?_))))
 refine .nil (.seqN ?_)
 refine .cond rfl (fun e => absurd (e.symm.trans rfl) (by decide)) (fun _ => ?_)
 refine .skip (.seqN (.seq (.region (.V mv0 ?_))))
 refine .V mv0 ?_
 refine .V mv0 ?_
 refine .V (nck rfl) ?_
 refine .V (fa rfl tF157_2) ?_
 refine .V (lB 2 2 tO3) ?_
 refine .V (bld (cs := #[.int .u32 2, iV 0, iV 1, iV 0]) (pv := [(0, .int .u32 2), (1, iV 0), (2, iV 1)]) tB161 rfl rfl) ?_
 refine bx (vs := [.int .u32 2, iV 0, iV 1, iV 0]) rfl rfl rfl (fun pv5 => ?_)
 refine .V ag0 ?_
 refine .nil (.seqN (.seq (.region (.V mv0 ?_))))
 refine .V (nck rfl) ?_
 refine .V (fa rfl tF157_1) ?_
 refine .V (lB 1 3 tO153) ?_
 refine .V mv0 ?_
 refine .V mv0 ?_
 refine muI (enc := fun v : Value => v) (vP pv5) tMR153 rfl rfl rfl (q := 4) rfl ?_
 refine .nil (.seqN (.region (.V mv0 ?_)))
 refine .V (nck rfl) ?_
 refine .V (fa rfl tF157_0) ?_
 refine .V (mkI tC163 rfl) ?_
 refine .V mv0 ?_
 refine .V (mkI tC158 rfl) ?_
 refine .inl Tryz.func59 rfl Tryz.ntmps59 Tryz.call59 rfl rfl rfl rfl (fun a18 q41 => ?_)
 refine .KA [Box pv5 [.int .u32 2, iV 0, iV 1, iV 0], Box ps3 [.int .u32 2], OwnSl 99 2 a15 1 c6 [.int .u32 1, iV 3], Box pv4 [.slice none 0 0, .map (some bv3), iV 1], OwnMapI bv3 .u32 (fun v : Value => v) ([(2, vP pv5)] : List (Int × Value)), OwnMapI bv2 .u32 (fun v : Value => v) ([(1, iV 1000000000), (2, iV 0)] : List (Int × Value)), Box pback [.map (some bv)], OwnMapI bv .u32 (fun v : Value => v) ([(2, .slice a15 1 c6)] : List (Int × Value)), MkA (D :: []), OwnSl 62 1 a8 2 c5 [.int .u32 1, .int .u32 2], Box pv [iV 0, iV 0]] ?_
 refine .seq (.region (.V mv0 ?_))
 refine .V mv0 ?_
 refine .inlI Tryz.func164 rfl Tryz.ntmps164 Tryz.call164 tm163_Push rfl rfl rfl (fun a19 q42 => ?_)
 refine .KA [Box pv5 [.int .u32 2, iV 0, iV 1, iV 0], Box ps3 [.int .u32 2], OwnSl 99 2 a15 1 c6 [.int .u32 1, iV 3], Box pv4 [.slice none 0 0, .map (some bv3), iV 1], OwnMapI bv3 .u32 (fun v : Value => v) ([(2, vP pv5)] : List (Int × Value)), OwnMapI bv2 .u32 (fun v : Value => v) ([(1, iV 1000000000), (2, iV 0)] : List (Int × Value)), Box pback [.map (some bv)], OwnMapI bv .u32 (fun v : Value => v) ([(2, .slice a15 1 c6)] : List (Int × Value)), MkA (D :: []), OwnSl 62 1 a8 2 c5 [.int .u32 1, .int .u32 2], Box pv [iV 0, iV 0]] ?_
 refine .seq (.region (.V mv0 ?_))
 refine .V (tas tC158 rfl) ?_
 refine .V ag0 ?_
 refine .nil (.seqN (.seq (.region (.V mv0 ?_))))
 refine .V mv0 ?_
 refine .V (nck rfl) ?_
 refine .V (lB 0 3 tO155) ?_
 refine .V (ln rfl tS155.is) ?_
 refine .V (nck rfl) ?_
 refine .V (fa rfl tF161_3) ?_
 refine st (p := pv5) (off := 3) (k := 0) (vs := [iV 0]) rfl rfl rfl (fun w => (tO3 w).2) rfl rfl rfl rfl ?_
 refine .nil (.seqN (.region (.V mv0 ?_)))
 refine .V mv0 ?_
 refine .V (nck rfl) ?_
 refine .V (lB 0 3 tO155) ?_
 refine .V mv0 ?_
 refine bs2 (cs := #[vP pv5]) (pv := [(0, vP pv5)]) tS155 rfl rfl (by decide) (by decide) rfl rfl rfl (fun a20 q73 => ?_)
 refine .nilSl 158 1 ?_
 refine app (k := 0) (news := [vP pv5]) (cs' := [vP pv5]) (nm := 1) tS155 rfl (by decide) rfl rfl rfl rfl (srcS (k := 1) rfl) (oneAll rfl) (by decide) (by decide) rfl rfl rfl (fun a21 c7 => ?_)
 refine .V (nck rfl) ?_
 refine st (p := pv4) (off := 0) (k := 5) (vs := [.slice a21 1 c7]) rfl rfl rfl (fun w => (tO155 w).2) rfl rfl rfl rfl ?_
 refine .nil ?_
 refine .res0 (.inr rfl) rfl (inl_back (v := .tuple #[]) q42 rfl ?_)
 refine .nil (.seqN (.region (.V mv0 ?_)))
 refine .V mv0 ?_
 refine .inlV Tryz.func160 rfl Tryz.ntmps160 Tryz.call160 tm163_Len rfl (cellB (off := 0) (k := 5) rfl rfl) rfl rfl (fun a22 q43 => ?_)
 refine .sel0 [0, 2, 3, 4, 5, 6, 7, 8, 9, 10, 11, 12] (by decide) rfl ?_
 refine .KA [OwnSl 158 1 a21 1 c7 [vP pv5], Box pv5 [.int .u32 2, iV 0, iV 1, iV 0], Box ps3 [.int .u32 2], OwnSl 99 2 a15 1 c6 [.int .u32 1, iV 3], Box pv4 [.slice a21 1 c7, .map (some bv3), iV 1], OwnMapI bv3 .u32 (fun v : Value => v) ([(2, vP pv5)] : List (Int × Value)), OwnMapI bv2 .u32 (fun v : Value => v) ([(1, iV 1000000000), (2, iV 0)] : List (Int × Value)), Box pback [.map (some bv)], OwnMapI bv .u32 (fun v : Value => v) ([(2, .slice a15 1 c6)] : List (Int × Value)), MkA (D :: []), OwnSl 62 1 a8 2 c5 [.int .u32 1, .int .u32 2], Box pv [iV 0, iV 0]] ?_
 refine .seq (.region (.V ag0 ?_))
 refine .nil (.seqN (.seq (.region (.V mv0 ?_))))
 refine .V (ln rfl tS155.is) ?_
 refine .V ag0 ?_
 refine .nil (.seqN (.ret ?_))
 refine .res1 rfl (rvT rfl) (inl_back (v := iV 1) q43 rfl ?_)
 refine .V bi0 ?_
 refine .inl Tryz.func93 rfl Tryz.ntmps93 Tryz.call93 rfl rfl rfl rfl (fun a23 q44 => ?_)
 refine .KA [OwnSl 158 1 a21 1 c7 [vP pv5], Box pv5 [.int .u32 2, iV 0, iV 1, iV 0], Box ps3 [.int .u32 2], OwnSl 99 2 a15 1 c6 [.int .u32 1, iV 3], Box pv4 [.slice a21 1 c7, .map (some bv3), iV 1], OwnMapI bv3 .u32 (fun v : Value => v) ([(2, vP pv5)] : List (Int × Value)), OwnMapI bv2 .u32 (fun v : Value => v) ([(1, iV 1000000000), (2, iV 0)] : List (Int × Value)), Box pback [.map (some bv)], OwnMapI bv .u32 (fun v : Value => v) ([(2, .slice a15 1 c6)] : List (Int × Value)), MkA (D :: []), OwnSl 62 1 a8 2 c5 [.int .u32 1, .int .u32 2], Box pv [iV 0, iV 0]] ?_
 refine .block ?_
 refine .rounds 90 ?_
 refine .block (.seq (.region (.V mv0 ?_)))
 refine .V bi0 ?_
 refine .V (bq rfl rfl (by decide)) ?_
 refine .V ag0 ?_
 refine .nil (.seqN (.seq (.seq (.region (.V mv0 ?_)))))
 refine .V mv0 ?_
 refine .V bi0 ?_
 refine .V mv0 ?_
 refine .GT ?_
 refine .GT ?_
 refine .GT ?_
 refine .GT ?_
 refine .GT ?_
 refine .V (pkT rfl rfl rfl) ?_
 refine .nil (.seqN ?_)
 refine .cond rfl (fun _ => ?_) (fun e => absurd (e.symm.trans rfl) (by decide))
 refine .exit (.seqX ?_)
 refine .blkY rfl ?_
 refine .seqX (.blkX ?_)
 refine .res0 (.inr rfl) rfl (inl_back (v := .tuple #[]) q44 rfl ?_)
 refine .nil ?_
 refine .res0 (.inr rfl) rfl (inl_back (v := .tuple #[]) q41 rfl ?_)
 refine .nil ?_
 refine .res0 (.inr rfl) rfl (inl_back (v := .tuple #[]) q40 rfl ?_)
 refine .nil (.seqN (.seq (.region (.V mv0 ?_))))
 refine .V (lB 0 2 tO62) ?_
 refine .inl Tryz.func48 rfl Tryz.ntmps48 Tryz.call48 rfl rfl rfl rfl (fun a24 q45 => ?_)
 refine .KA [OwnSl 158 1 a21 1 c7 [vP pv5], Box pv5 [.int .u32 2, iV 0, iV 1, iV 0], Box ps3 [.int .u32 2], OwnSl 99 2 a15 1 c6 [.int .u32 1, iV 3], Box pv4 [.slice a21 1 c7, .map (some bv3), iV 1], OwnMapI bv3 .u32 (fun v : Value => v) ([(2, vP pv5)] : List (Int × Value)), OwnMapI bv2 .u32 (fun v : Value => v) ([(1, iV 1000000000), (2, iV 0)] : List (Int × Value)), Box pback [.map (some bv)], OwnMapI bv .u32 (fun v : Value => v) ([(2, .slice a15 1 c6)] : List (Int × Value)), MkA (D :: []), OwnSl 62 1 a8 2 c5 [.int .u32 1, .int .u32 2], Box pv [iV 0, iV 0]] ?_
 refine .seq (.region ?_)
 refine bx (vs := [vP pv3]) rfl rfl rfl (fun pw2 => ?_)
 refine bx (vs := [.int .u32 2]) rfl rfl rfl (fun ps4 => ?_)
 refine .V ag0 ?_
 refine .nil (.seqN (.seq (.region (.V (mkf (vf := []) (vc := [vP pw2, vP ps4]) rfl rfl) ?_))))
 refine .V ag0 ?_
 refine .nil (.seqN (.ret ?_))
 refine .res1 rfl (rvT rfl) (inl_back (v := .func (.func 80) #[] #[.pointer (some pw2), .pointer (some ps4)]) q45 rfl ?_)
 refine .nil (.seqN (.block ?_))
 refine .sub (s' := [(0, vP pv3), (5, vP pback), (6, .map (some bv2)), (7, vP pv4), (9, vP ps3), (19, .slice a8 2 c5), (20, iV 2), (21, iV 1), (37, .func (.func 80) #[] #[vP pw2, vP ps4])]) sb ?_
 refine .rangeF (k := 11) (caps := [vP pw2, vP ps4]) rfl rfl Tryz.func80 rfl Tryz.ntmps80 rfl Tryz.call80 (fun l2 D2 LA2 a25 q46 q47 => ?_)
 refine .KA [LA2 .ready none, Box ps4 [.int .u32 2], Box pw2 [vP pv3], OwnSl 158 1 a21 1 c7 [vP pv5], Box pv5 [.int .u32 2, iV 0, iV 1, iV 0], Box ps3 [.int .u32 2], OwnSl 99 2 a15 1 c6 [.int .u32 1, iV 3], Box pv4 [.slice a21 1 c7, .map (some bv3), iV 1], OwnMapI bv3 .u32 (fun v : Value => v) ([(2, vP pv5)] : List (Int × Value)), OwnMapI bv2 .u32 (fun v : Value => v) ([(1, iV 1000000000), (2, iV 0)] : List (Int × Value)), Box pback [.map (some bv)], OwnMapI bv .u32 (fun v : Value => v) ([(2, .slice a15 1 c6)] : List (Int × Value)), MkA (D2 :: D :: []), OwnSl 62 1 a8 2 c5 [.int .u32 1, .int .u32 2], Box pv [iV 0, iV 0]] ?_
 refine .seq (.region (.V (lB 0 2 tO56) ?_))
 refine .V (nck rfl) ?_
 refine .V (fa rfl tF105_2) ?_
 refine .V (ld1 (v := .slice a7 1 c4) rfl tO103 (cellH (CellsAt.mono (FH.le_refl _) q0 2 _ rfl))) ?_
 refine .V (ln rfl tS103.is) ?_
 refine .V mv0 ?_
 refine .nil (.seqN (.block ?_))
 refine .rounds 90 ?_
 refine .seq (.region (.V bi0 ?_))
 refine .nil (.seqN (.seq ?_))
 refine .cond rfl (fun _ => ?_) (fun e => absurd (e.symm.trans rfl) (by decide))
 refine .skip (.seqN (.seq (.block (.seq (.region (.V mv0 ?_))))))
 refine .V (ix rfl rfl tS103 (q1.ne (by decide) (inb_pos (show inb ([(⟨1, 2, 1, 3⟩ : Masks)] : List Masks) (0 : Int) from And.intro (by decide) (by decide)))) (show inb ([(⟨1, 2, 1, 3⟩ : Masks)] : List Masks) (0 : Int) from And.intro (by decide) (by decide))) ?_
 refine .V (ldA (cs := [.int .u32 1, .int .u32 2, .int .u32 1, iV 3]) rfl tA144 rfl (cellsH ((q1.mono (le2)).elemF (show inb ([(⟨1, 2, 1, 3⟩ : Masks)] : List Masks) (0 : Int) from And.intro (by decide) (by decide)) (by decide)))) ?_
 refine al tZ144 rfl (fun pback3 => ?_)
 refine .V ag0 ?_
 refine st (p := pback3) (off := 0) (k := 0) (vs := [.int .u32 1, .int .u32 2, .int .u32 1, iV 3]) rfl rfl rfl (fun w => (tA144 w).2) rfl rfl rfl rfl ?_
 refine .nil (.seqN (.seq (.region (.V (lB 0 2 tO62) ?_))))
 refine .V (fa rfl tF144_0) ?_
 refine .V (lB 0 0 tO62) ?_
 refine .V bi0 ?_
 refine .V (fa rfl tF144_0) ?_
 refine .V (lB 0 0 tO62) ?_
 refine .V bi0 ?_
 refine .V mv0 ?_
 refine .GT ?_
 refine .GT ?_
 refine .GT ?_
 refine .GT ?_
 refine .GT ?_
 refine .GT ?_
 refine .GT ?_
 refine .GT ?_
 refine .GT ?_
 refine .GT ?_
 refine .GT ?_
 refine .GT ?_
 refine .GT ?_
 refine .GT ?_
 refine .V (pkF rfl rfl rfl) ?_
 refine .nil (.seqN ?_)
 refine .cond rfl (fun e => absurd (e.symm.trans rfl) (by decide)) (fun _ => ?_)
 refine .skip (.blkN (.seqN (.region (.V bi0 ?_))))
 refine .V mv0 ?_
 refine .nil ?_
 refine .more ?_
 refine .sub (s' := [(0, .func (.yield l2) #[] #[]), (2, vP ps4), (9, .slice a7 1 c4), (10, iV 1), (11, iV 1)]) sb ?_
 refine .sel0 [1, 2, 3, 4, 5, 6, 7, 8, 9, 10, 11, 12, 13, 14, 15] (by decide) rfl ?_
 refine .KA [LA2 .ready none, Box ps4 [.int .u32 2], Box pw2 [vP pv3], OwnSl 158 1 a21 1 c7 [vP pv5], Box pv5 [.int .u32 2, iV 0, iV 1, iV 0], Box ps3 [.int .u32 2], OwnSl 99 2 a15 1 c6 [.int .u32 1, iV 3], Box pv4 [.slice a21 1 c7, .map (some bv3), iV 1], OwnMapI bv3 .u32 (fun v : Value => v) ([(2, vP pv5)] : List (Int × Value)), OwnMapI bv2 .u32 (fun v : Value => v) ([(1, iV 1000000000), (2, iV 0)] : List (Int × Value)), Box pback [.map (some bv)], OwnMapI bv .u32 (fun v : Value => v) ([(2, .slice a15 1 c6)] : List (Int × Value)), MkA (D2 :: D :: []), OwnSl 62 1 a8 2 c5 [.int .u32 1, .int .u32 2], Box pv [iV 0, iV 0]] ?_
 refine .seq (.region (.V bi0 ?_))
 refine .nil (.seqN (.seq ?_))
 refine .cond rfl (fun e => absurd (e.symm.trans rfl) (by decide)) (fun _ => ?_)
 refine .exit (.seqX (.seqX (.blkX ?_)))
 refine .res0 (.inr rfl) rfl (range_done (k := 0) q46 rfl q47 ?_)
 refine .KA [tru, Box ps4 [.int .u32 2], Box pw2 [vP pv3], OwnSl 158 1 a21 1 c7 [vP pv5], Box pv5 [.int .u32 2, iV 0, iV 1, iV 0], Box ps3 [.int .u32 2], OwnSl 99 2 a15 1 c6 [.int .u32 1, iV 3], Box pv4 [.slice a21 1 c7, .map (some bv3), iV 1], OwnMapI bv3 .u32 (fun v : Value => v) ([(2, vP pv5)] : List (Int × Value)), OwnMapI bv2 .u32 (fun v : Value => v) ([(1, iV 1000000000), (2, iV 0)] : List (Int × Value)), Box pback [.map (some bv)], OwnMapI bv .u32 (fun v : Value => v) ([(2, .slice a15 1 c6)] : List (Int × Value)), MkA (D2 :: D :: []), OwnSl 62 1 a8 2 c5 [.int .u32 1, .int .u32 2], Box pv [iV 0, iV 0]] ?_
 refine .blkN (.blkN (.seqN (.region (.V bi0 ?_))))
 refine .V mv0 ?_
 refine .nil ?_
 refine .more ?_
 refine .sub (s' := [(0, vP pv3), (5, vP pback), (6, .map (some bv2)), (7, vP pv4), (19, .slice a8 2 c5), (20, iV 2), (21, iV 2)]) sb ?_
 refine .sel0 [3, 4, 6, 7, 8, 9, 10, 11, 12, 13, 14] (by decide) rfl ?_
 refine .KA [OwnSl 158 1 a21 1 c7 [vP pv5], Box pv5 [.int .u32 2, iV 0, iV 1, iV 0], OwnSl 99 2 a15 1 c6 [.int .u32 1, iV 3], Box pv4 [.slice a21 1 c7, .map (some bv3), iV 1], OwnMapI bv3 .u32 (fun v : Value => v) ([(2, vP pv5)] : List (Int × Value)), OwnMapI bv2 .u32 (fun v : Value => v) ([(1, iV 1000000000), (2, iV 0)] : List (Int × Value)), Box pback [.map (some bv)], OwnMapI bv .u32 (fun v : Value => v) ([(2, .slice a15 1 c6)] : List (Int × Value)), MkA (D2 :: D :: []), OwnSl 62 1 a8 2 c5 [.int .u32 1, .int .u32 2], Box pv [iV 0, iV 0]] ?_
 refine .seq (.region (.V bi0 ?_))
 refine .nil (.seqN (.seq ?_))
 refine .cond rfl (fun e => absurd (e.symm.trans rfl) (by decide)) (fun _ => ?_)
 refine .exit (.seqX (.seqX (.blkX (.seqN (.seq (.block ?_))))))
 refine .rounds 90 ?_
 refine .seq (.seq (.region (.V mv0 ?_)))
 refine .inl Tryz.func49 rfl Tryz.ntmps49 Tryz.call49 rfl rfl rfl rfl (fun a26 q48 => ?_)
 refine .sel0 [0, 1, 2, 3, 4, 5, 6, 7, 8, 10] (by decide) rfl ?_
 refine .KA [OwnSl 158 1 a21 1 c7 [vP pv5], Box pv5 [.int .u32 2, iV 0, iV 1, iV 0], OwnSl 99 2 a15 1 c6 [.int .u32 1, iV 3], Box pv4 [.slice a21 1 c7, .map (some bv3), iV 1], OwnMapI bv3 .u32 (fun v : Value => v) ([(2, vP pv5)] : List (Int × Value)), OwnMapI bv2 .u32 (fun v : Value => v) ([(1, iV 1000000000), (2, iV 0)] : List (Int × Value)), Box pback [.map (some bv)], OwnMapI bv .u32 (fun v : Value => v) ([(2, .slice a15 1 c6)] : List (Int × Value)), MkA (D2 :: D :: []), Box pv [iV 0, iV 0]] ?_
 refine .seq (.region (.V ag0 ?_))
 refine .nil (.seqN (.seq (.region (.V mv0 ?_))))
 refine .V (nck rfl) ?_
 refine .V (fa rfl tF157_0) ?_
 refine .V (lB 0 3 tO155) ?_
 refine .V (ln rfl tS155.is) ?_
 refine .V ag0 ?_
 refine .nil (.seqN (.ret ?_))
 refine .res1 rfl (rvT rfl) (inl_back (v := iV 1) q48 rfl ?_)
 refine .V bi0 ?_
 refine .nil (.seqN ?_)
 refine .cond rfl (fun _ => ?_) (fun e => absurd (e.symm.trans rfl) (by decide))
 refine .skip (.seqN (.block (.seq (.region (.V mv0 ?_)))))
 refine .inl Tryz.func50 rfl Tryz.ntmps50 Tryz.call50 rfl rfl rfl rfl (fun a27 q49 => ?_)
 refine .KA [OwnSl 158 1 a21 1 c7 [vP pv5], Box pv5 [.int .u32 2, iV 0, iV 1, iV 0], OwnSl 99 2 a15 1 c6 [.int .u32 1, iV 3], Box pv4 [.slice a21 1 c7, .map (some bv3), iV 1], OwnMapI bv3 .u32 (fun v : Value => v) ([(2, vP pv5)] : List (Int × Value)), OwnMapI bv2 .u32 (fun v : Value => v) ([(1, iV 1000000000), (2, iV 0)] : List (Int × Value)), Box pback [.map (some bv)], OwnMapI bv .u32 (fun v : Value => v) ([(2, .slice a15 1 c6)] : List (Int × Value)), MkA (D2 :: D :: []), Box pv [iV 0, iV 0]] ?_
 refine .seq (.region (.V ag0 ?_))
 refine .V ag0 ?_
 refine .V ag0 ?_
 refine .nil (.seqN (.seq (.seq (.region (.V mv0 ?_)))))
 refine .V (nck rfl) ?_
 refine .V (fa rfl tF157_0) ?_
 refine .V (lB 0 3 tO155) ?_
 refine .V (ln rfl tS155.is) ?_
 refine .V bi0 ?_
 refine .nil (.seqN ?_)
 refine .cond rfl (fun e => absurd (e.symm.trans rfl) (by decide)) (fun _ => ?_)
 refine .skip (.seqN (.seq (.region (.V mv0 ?_))))
 refine .V (nck rfl) ?_
 refine .V (fa rfl tF157_0) ?_
 refine .V (mkI tC163 rfl) ?_
 refine .inl Tryz.func54 rfl Tryz.ntmps54 Tryz.call54 rfl rfl rfl rfl (fun a28 q50 => ?_)
 refine .KA [OwnSl 158 1 a21 1 c7 [vP pv5], Box pv5 [.int .u32 2, iV 0, iV 1, iV 0], OwnSl 99 2 a15 1 c6 [.int .u32 1, iV 3], Box pv4 [.slice a21 1 c7, .map (some bv3), iV 1], OwnMapI bv3 .u32 (fun v : Value => v) ([(2, vP pv5)] : List (Int × Value)), OwnMapI bv2 .u32 (fun v : Value => v) ([(1, iV 1000000000), (2, iV 0)] : List (Int × Value)), Box pback [.map (some bv)], OwnMapI bv .u32 (fun v : Value => v) ([(2, .slice a15 1 c6)] : List (Int × Value)), MkA (D2 :: D :: []), Box pv [iV 0, iV 0]] ?_
 refine .seq (.region (.V ag0 ?_))
 refine .nil (.seqN (.seq (.region (.V mv0 ?_))))
 refine .inlV Tryz.func160 rfl Tryz.ntmps160 Tryz.call160 tm163_Len rfl (cellB (off := 0) (k := 3) rfl rfl) rfl rfl (fun a29 q51 => ?_)
 refine .KA [OwnSl 158 1 a21 1 c7 [vP pv5], Box pv5 [.int .u32 2, iV 0, iV 1, iV 0], OwnSl 99 2 a15 1 c6 [.int .u32 1, iV 3], Box pv4 [.slice a21 1 c7, .map (some bv3), iV 1], OwnMapI bv3 .u32 (fun v : Value => v) ([(2, vP pv5)] : List (Int × Value)), OwnMapI bv2 .u32 (fun v : Value => v) ([(1, iV 1000000000), (2, iV 0)] : List (Int × Value)), Box pback [.map (some bv)], OwnMapI bv .u32 (fun v : Value => v) ([(2, .slice a15 1 c6)] : List (Int × Value)), MkA (D2 :: D :: []), Box pv [iV 0, iV 0]] ?_
 refine .seq (.region (.V ag0 ?_))
 refine .nil (.seqN (.seq (.region (.V mv0 ?_))))
 refine .V (ln rfl tS155.is) ?_
 refine .V ag0 ?_
 refine .nil (.seqN (.ret ?_))
 refine .res1 rfl (rvT rfl) (inl_back (v := iV 1) q51 rfl ?_)
 refine .V bi0 ?_
 refine .V ag0 ?_
 refine .nil (.seqN (.seq (.region (.V mv0 ?_))))
 refine .V mv0 ?_
 refine .inlV Tryz.func162 rfl Tryz.ntmps162 Tryz.call162 tm163_Swap rfl (cellB (off := 0) (k := 3) rfl rfl) rfl rfl (fun a30 q52 => ?_)
 refine .KA [OwnSl 158 1 a21 1 c7 [vP pv5], Box pv5 [.int .u32 2, iV 0, iV 1, iV 0], OwnSl 99 2 a15 1 c6 [.int .u32 1, iV 3], Box pv4 [.slice a21 1 c7, .map (some bv3), iV 1], OwnMapI bv3 .u32 (fun v : Value => v) ([(2, vP pv5)] : List (Int × Value)), OwnMapI bv2 .u32 (fun v : Value => v) ([(1, iV 1000000000), (2, iV 0)] : List (Int × Value)), Box pback [.map (some bv)], OwnMapI bv .u32 (fun v : Value => v) ([(2, .slice a15 1 c6)] : List (Int × Value)), MkA (D2 :: D :: []), Box pv [iV 0, iV 0]] ?_
 refine .seq ?_
 refine .OA (s0 := [(0, .slice a21 1 c7), (1, iV 0), (2, iV 0)]) [0, 1, 2, 3, 4, 5, 6, 7, 8, 9, 10, 11, 12] [(0, .slice a21 1 c7), (1, iV 0), (2, .slice a21 1 c7), (3, iV 0), (4, .slice a21 1 c7), (5, iV 0), (6, vP (ead a21 ((0 : Int).toNat * 1))), (7, vP pv5), (8, .slice a21 1 c7), (9, iV 0), (10, vP (ead a21 ((0 : Int).toNat * 1))), (11, vP pv5), (12, vP (ead a21 ((0 : Int).toNat * 1)))] [0, 1, 2] [] ?_
 refine .ST [13] 13 (.w [] rfl mv0 (.w [] rfl mv0 (.w [] rfl mv0 (.w [] rfl mv0 (.w [] rfl mv0 (.w [] rfl mv0 (.w [(10, .slice a21 1 c7), (11, iV 0)] rfl (ixS rfl rfl tS155 (k := 0) rfl (And.intro (by decide) (by decide))) (.w [(12, vP (ead a21 ((0 : Int).toNat * 1)))] rfl (ld1 (v := vP pv5) rfl tO158 (cellS (k := 0) rfl rfl)) (.w [] rfl mv0 (.w [] rfl mv0 (.w [(14, .slice a21 1 c7), (15, iV 0)] rfl (ixS rfl rfl tS155 (k := 0) rfl (And.intro (by decide) (by decide))) (.w [(16, vP (ead a21 ((0 : Int).toNat * 1)))] rfl (ld1 (v := vP pv5) rfl tO158 (cellS (k := 0) rfl rfl)) (.w [(6, .slice a21 1 c7), (7, iV 0), (6, .slice a21 1 c7), (7, iV 0), (10, .slice a21 1 c7), (11, iV 0), (12, vP (ead a21 ((0 : Int).toNat * 1))), (13, vP pv5), (17, vP pv5)] rfl (ixS rfl rfl tS155 (k := 0) rfl (And.intro (by decide) (by decide))) (.nil)))))))))))))) (.cons [(18, vP (ead a21 ((0 : Int).toNat * 1))), (13, vP pv5), (6, .slice a21 1 c7), (7, iV 0), (10, .slice a21 1 c7), (11, iV 0), (12, vP (ead a21 ((0 : Int).toNat * 1))), (13, vP pv5), (17, vP pv5)] rfl rfl (fun sL hL => ?_) (.nil))
 refine stS (k := 0) (cs' := [vP pv5]) rfl (fun _ => rfl) rfl rfl (fun w => (tO158 w).2) rfl rfl rfl (by decide) (Nat.le_of_ble_eq_true rfl) rfl ?_
 refine .nil ?_
 refine .jaN (M := [12, 7, 0, 1, 4, 5, 6, 11, 10, 8, 9]) (C' := [2, 3, 14]) (pre := [(14, vP (ead a21 ((0 : Int).toNat * 1)))]) [0, 1, 2] hL rfl rfl rfl rfl rfl (by kernel_rfl) ?_
 refine .ST [15] 15 (.w [] rfl mv0 (.w [] rfl mv0 (.w [(8, .slice a21 1 c7), (9, iV 0), (6, .slice a21 1 c7), (7, iV 0), (8, .slice a21 1 c7), (9, iV 0), (10, .slice a21 1 c7), (11, iV 0), (12, vP (ead a21 ((0 : Int).toNat * 1))), (13, vP pv5), (14, .slice a21 1 c7), (15, iV 0), (16, vP (ead a21 ((0 : Int).toNat * 1))), (17, vP pv5), (18, vP (ead a21 ((0 : Int).toNat * 1)))] rfl (ixS rfl rfl tS155 (k := 0) rfl (And.intro (by decide) (by decide))) (.nil)))) (.cons [(19, vP (ead a21 ((0 : Int).toNat * 1))), (17, vP pv5), (6, .slice a21 1 c7), (7, iV 0), (8, .slice a21 1 c7), (9, iV 0), (10, .slice a21 1 c7), (11, iV 0), (12, vP (ead a21 ((0 : Int).toNat * 1))), (13, vP pv5), (14, .slice a21 1 c7), (15, iV 0), (16, vP (ead a21 ((0 : Int).toNat * 1))), (17, vP pv5), (18, vP (ead a21 ((0 : Int).toNat * 1)))] rfl rfl (fun sL hL => ?_) (.nil))
 refine stS (k := 0) (cs' := [vP pv5]) rfl (fun _ => rfl) rfl rfl (fun w => (tO158 w).2) rfl rfl rfl (by decide) (Nat.le_of_ble_eq_true rfl) rfl ?_
 refine .nil ?_
 refine .jaN (M := [14, 2, 3]) (C' := []) (pre := []) [0, 1, 2] hL rfl rfl rfl rfl rfl (by kernel_rfl) ?_
 refine .LA [(6, .slice a21 1 c7), (7, iV 0), (8, .slice a21 1 c7), (9, iV 0), (10, .slice a21 1 c7), (11, iV 0), (12, vP (ead a21 ((0 : Int).toNat * 1))), (13, vP pv5), (14, .slice a21 1 c7), (15, iV 0), (16, vP (ead a21 ((0 : Int).toNat * 1))), (17, vP pv5), (18, vP (ead a21 ((0 : Int).toNat * 1))), (19, vP (ead a21 ((0 : Int).toNat * 1)))] (.nil) ?_
 refine .seqN ?_
 refine .OA (s0 := [(0, .slice a21 1 c7), (1, iV 0), (2, iV 0)]) [0, 1, 2, 3, 4, 5, 6, 7, 8, 9, 10, 11] [(0, .slice a21 1 c7), (1, iV 0), (2, vP (ead a21 ((0 : Int).toNat * 1))), (3, vP pv5), (4, .slice a21 1 c7), (5, iV 0), (6, vP (ead a21 ((0 : Int).toNat * 1))), (7, vP pv5), (8, iV 0), (9, iV 0), (10, vP pv5), (11, vP (pv5.add 3))] [0, 1, 2] [] ?_
 refine .ST [12] 12 (.w [] rfl mv0 (.w [] rfl mv0 (.w [(20, .slice a21 1 c7), (21, iV 0)] rfl (ixS rfl rfl tS155 (k := 0) rfl (And.intro (by decide) (by decide))) (.w [(22, vP (ead a21 ((0 : Int).toNat * 1)))] rfl (ld1 (v := vP pv5) rfl tO158 (cellS (k := 0) rfl rfl)) (.w [] rfl mv0 (.w [] rfl mv0 (.w [(24, .slice a21 1 c7), (25, iV 0)] rfl (ixS rfl rfl tS155 (k := 0) rfl (And.intro (by decide) (by decide))) (.w [(26, vP (ead a21 ((0 : Int).toNat * 1)))] rfl (ld1 (v := vP pv5) rfl tO158 (cellS (k := 0) rfl rfl)) (.w [] rfl mv0 (.w [] rfl mv0 (.w [(23, vP pv5), (20, .slice a21 1 c7), (21, iV 0), (22, vP (ead a21 ((0 : Int).toNat * 1))), (23, vP pv5), (27, vP pv5), (28, iV 0)] rfl (nck rfl) (.w [(30, vP pv5), (20, .slice a21 1 c7), (21, iV 0), (22, vP (ead a21 ((0 : Int).toNat * 1))), (23, vP pv5), (27, vP pv5), (28, iV 0)] rfl (fa rfl tF161_3) (.nil))))))))))))) (.cons [(31, vP (pv5.add 3)), (28, iV 0), (20, .slice a21 1 c7), (21, iV 0), (22, vP (ead a21 ((0 : Int).toNat * 1))), (23, vP pv5), (27, vP pv5), (28, iV 0)] rfl rfl (fun sL hL => ?_) (.nil))
 refine st (p := pv5) (off := 3) (k := 1) (vs := [iV 0]) rfl rfl rfl (fun w => (tO3 w).2) rfl rfl rfl rfl ?_
 refine .nil ?_
 refine .jaN (M := [11, 8, 0, 1, 2, 3, 7, 10, 6, 4, 5]) (C' := [9, 13, 14]) (pre := [(13, vP pv5), (14, vP (pv5.add 3))]) [0, 1, 2] hL rfl rfl rfl rfl rfl (by kernel_rfl) ?_
 refine .ST [15] 15 (.w [] rfl mv0 (.w [(27, vP pv5), (20, .slice a21 1 c7), (21, iV 0), (22, vP (ead a21 ((0 : Int).toNat * 1))), (23, vP pv5), (24, .slice a21 1 c7), (25, iV 0), (26, vP (ead a21 ((0 : Int).toNat * 1))), (27, vP pv5), (28, iV 0), (29, iV 0), (30, vP pv5), (31, vP (pv5.add 3))] rfl (nck rfl) (.w [(32, vP pv5), (20, .slice a21 1 c7), (21, iV 0), (22, vP (ead a21 ((0 : Int).toNat * 1))), (23, vP pv5), (24, .slice a21 1 c7), (25, iV 0), (26, vP (ead a21 ((0 : Int).toNat * 1))), (27, vP pv5), (28, iV 0), (29, iV 0), (30, vP pv5), (31, vP (pv5.add 3))] rfl (fa rfl tF161_3) (.nil)))) (.cons [(33, vP (pv5.add 3)), (29, iV 0), (20, .slice a21 1 c7), (21, iV 0), (22, vP (ead a21 ((0 : Int).toNat * 1))), (23, vP pv5), (24, .slice a21 1 c7), (25, iV 0), (26, vP (ead a21 ((0 : Int).toNat * 1))), (27, vP pv5), (28, iV 0), (29, iV 0), (30, vP pv5), (31, vP (pv5.add 3))] rfl rfl (fun sL hL => ?_) (.nil))
 refine st (p := pv5) (off := 3) (k := 1) (vs := [iV 0]) rfl rfl rfl (fun w => (tO3 w).2) rfl rfl rfl rfl ?_
 refine .nil ?_
 refine .jaN (M := [14, 9, 13]) (C' := []) (pre := []) [0, 1, 2] hL rfl rfl rfl rfl rfl (by kernel_rfl) ?_
 refine .LA [(20, .slice a21 1 c7), (21, iV 0), (22, vP (ead a21 ((0 : Int).toNat * 1))), (23, vP pv5), (24, .slice a21 1 c7), (25, iV 0), (26, vP (ead a21 ((0 : Int).toNat * 1))), (27, vP pv5), (28, iV 0), (29, iV 0), (30, vP pv5), (31, vP (pv5.add 3)), (32, vP pv5), (33, vP (pv5.add 3))] (.nil) ?_
 refine .res0 (.inr rfl) rfl (inl_back (v := .tuple #[]) q52 rfl ?_)
 refine .nil (.seqN (.seq (.region (.V mv0 ?_))))
 refine .V mv0 ?_
 refine .inl Tryz.func83 rfl Tryz.ntmps83 Tryz.call83 rfl rfl rfl rfl (fun a31 q53 => ?_)
 refine .KA [OwnSl 158 1 a21 1 c7 [vP pv5], Box pv5 [.int .u32 2, iV 0, iV 1, iV 0], OwnSl 99 2 a15 1 c6 [.int .u32 1, iV 3], Box pv4 [.slice a21 1 c7, .map (some bv3), iV 1], OwnMapI bv3 .u32 (fun v : Value => v) ([(2, vP pv5)] : List (Int × Value)), OwnMapI bv2 .u32 (fun v : Value => v) ([(1, iV 1000000000), (2, iV 0)] : List (Int × Value)), Box pback [.map (some bv)], OwnMapI bv .u32 (fun v : Value => v) ([(2, .slice a15 1 c6)] : List (Int × Value)), MkA (D2 :: D :: []), Box pv [iV 0, iV 0]] ?_
 refine .seq (.region (.V ag0 ?_))
 refine .nil (.seqN (.seq (.region (.V mv0 ?_))))
 refine .V ag0 ?_
 refine .nil (.seqN (.seq (.block ?_)))
 refine .rounds 90 ?_
 refine .block (.seq (.region (.V mv0 ?_)))
 refine .V bi0 ?_
 refine .V bi0 ?_
 refine .V ag0 ?_
 refine .nil (.seqN (.seq (.seq (.region (.V mv0 ?_)))))
 refine .V mv0 ?_
 refine .V bi0 ?_
 refine .V mv0 ?_
 refine .GT ?_
 refine .GT ?_
 refine .V (pkT rfl rfl rfl) ?_
 refine .nil (.seqN ?_)
 refine .cond rfl (fun _ => ?_) (fun e => absurd (e.symm.trans rfl) (by decide))
 refine .exit (.seqX ?_)
 refine .blkY rfl ?_
 refine .seqX (.blkX (.seqN (.seq (.region (.V mv0 ?_)))))
 refine .V mv0 ?_
 refine .V bi0 ?_
 refine .V ag0 ?_
 refine .nil (.seqN (.ret ?_))
 refine .res1 rfl (rvT rfl) (inl_back (v := .bool false) q53 rfl ?_)
 refine .nil (.seqN (.seq (.region (.V mv0 ?_))))
 refine .inlI Tryz.func163 rfl Tryz.ntmps163 Tryz.call163 tm163_Pop rfl rfl rfl (fun a32 q54 => ?_)
 refine .KA [OwnSl 158 1 a21 1 c7 [vP pv5], Box pv5 [.int .u32 2, iV 0, iV 1, iV 0], OwnSl 99 2 a15 1 c6 [.int .u32 1, iV 3], Box pv4 [.slice a21 1 c7, .map (some bv3), iV 1], OwnMapI bv3 .u32 (fun v : Value => v) ([(2, vP pv5)] : List (Int × Value)), OwnMapI bv2 .u32 (fun v : Value => v) ([(1, iV 1000000000), (2, iV 0)] : List (Int × Value)), Box pback [.map (some bv)], OwnMapI bv .u32 (fun v : Value => v) ([(2, .slice a15 1 c6)] : List (Int × Value)), MkA (D2 :: D :: []), Box pv [iV 0, iV 0]] ?_
 refine .seq (.region (.V ag0 ?_))
 refine .nil (.seqN (.seq (.region (.V mv0 ?_))))
 refine .V (nck rfl) ?_
 refine .V (lB 0 3 tO155) ?_
 refine .V ag0 ?_
 refine .nil (.seqN (.seq (.region (.V mv0 ?_))))
 refine .V mv0 ?_
 refine .V (ln rfl tS155.is) ?_
 refine .V bi0 ?_
 refine .V (ixS rfl rfl tS155 (k := 0) rfl (And.intro (by decide) (by decide))) ?_
 refine .V (ld1 (v := vP pv5) rfl tO158 (cellS (k := 0) rfl rfl)) ?_
 refine .V ag0 ?_
 refine .nil (.seqN (.seq ?_))
 refine .fact (fun w S => look_len S (k := 0) rfl) (fun q55 => ?_)
 refine .fact (fun w S => look_len S (k := 2) rfl) (fun q74 => ?_)
 refine .region (.V mv0 ?_)
 refine .V mv0 ?_
 refine .V mv0 ?_
 refine .V (ln rfl tS155.is) ?_
 refine .V bi0 ?_
 refine .V (slH tS155 rfl rfl (by decide) rfl (Nat.le_trans (show 0 ≤ 1 by decide) q55)) ?_
 refine .shrink (k := 0) (cs' := []) rfl (show 0 ≤ 1 by decide) rfl ?_
 refine .V (nck rfl) ?_
 refine st (p := pv4) (off := 0) (k := 3) (vs := [.slice a21 0 c7]) rfl rfl rfl (fun w => (tO155 w).2) rfl rfl rfl rfl ?_
 refine .nil (.seqN (.seq (.region (.V mv0 ?_))))
 refine .V (mkI tC158 rfl) ?_
 refine .V ag0 ?_
 refine .nil (.seqN (.ret ?_))
 refine .res1 rfl (rvT rfl) (inl_back (v := .iface 158 (.pointer (some pv5))) q54 rfl ?_)
 refine .V ag0 ?_
 refine .nil (.seqN (.ret ?_))
 refine .res1 rfl (rvT rfl) (inl_back (v := .iface 158 (.pointer (some pv5))) q50 rfl ?_)
 refine .V (tas tC158 rfl) ?_
 refine .V ag0 ?_
 refine .nil (.seqN (.seq ?_))
 refine .OA (s0 := [(0, vP pv4), (5, vP pv5)]) [0, 1, 2, 3, 4, 5, 6, 7] [(0, vP pv4), (1, vP pv4), (2, vP (pv4.add 1)), (3, .map (some bv3)), (4, vP pv5), (5, vP pv5), (6, vP (pv5.add 0)), (7, .int .u32 2)] [0, 5] [] ?_
 refine .ST [8] 8 (.w [] rfl mv0 (.w [(19, vP pv4)] rfl (nck rfl) (.w [(20, vP pv4)] rfl (fa rfl tF157_1) (.w [(21, vP (pv4.add 1))] rfl (lB 1 3 tO153) (.w [] rfl mv0 (.w [(23, vP pv5)] rfl (nck rfl) (.w [(24, vP pv5)] rfl (fa rfl tF161_0) (.w [(25, vP (pv5.add 0))] rfl (lB 0 1 tO62) (.nil))))))))) (.cons [(22, .map (some bv3)), (26, .int .u32 2)] rfl rfl (fun sL hL => ?_) (.nil))
 refine dlI tMR153 rfl rfl (q := 4) rfl rfl ?_
 refine .nil ?_
 refine .jaN (M := [3, 7, 2, 6, 1, 5, 0, 4]) (C' := []) (pre := []) [0, 5] hL rfl rfl rfl rfl rfl (by kernel_rfl) ?_
 refine .LA [(19, vP pv4), (20, vP pv4), (21, vP (pv4.add 1)), (22, .map (some bv3)), (23, vP pv5), (24, vP pv5), (25, vP (pv5.add 0)), (26, .int .u32 2)] (.nil) ?_
 refine .seqN (.seq ?_)
 refine .OA (s0 := [(5, vP pv5)]) [0, 1, 2, 3, 4, 5, 6, 7, 8, 9, 10] [(0, vP pv5), (1, vP pv5), (2, vP (pv5.add 0)), (3, .int .u32 2), (4, vP pv5), (5, vP pv5), (6, vP (pv5.add 1)), (7, iV 0), (8, .int .u32 2), (9, iV 0), (10, .bool true)] [5] [] ?_
 refine .LA [(27, vP pv5), (28, vP pv5), (29, vP (pv5.add 0)), (30, .int .u32 2), (31, vP pv5), (32, vP pv5), (33, vP (pv5.add 1)), (34, iV 0), (2, .int .u32 2), (3, iV 0), (4, .bool true)] (.w [] rfl mv0 (.w [(27, vP pv5)] rfl (nck rfl) (.w [(28, vP pv5)] rfl (fa rfl tF161_0) (.w [(29, vP (pv5.add 0))] rfl (lB 0 1 tO62) (.w [] rfl mv0 (.w [(31, vP pv5)] rfl (nck rfl) (.w [(32, vP pv5)] rfl (fa rfl tF161_1) (.w [(33, vP (pv5.add 1))] rfl (lB 1 1 tO3) (.w [(30, .int .u32 2), (27, vP pv5), (28, vP pv5), (29, vP (pv5.add 0)), (30, .int .u32 2)] rfl ag0 (.w [(34, iV 0), (2, .int .u32 2), (27, vP pv5), (28, vP pv5), (29, vP (pv5.add 0)), (30, .int .u32 2), (31, vP pv5), (32, vP pv5), (33, vP (pv5.add 1)), (34, iV 0), (2, .int .u32 2)] rfl ag0 (.w [(3, iV 0), (27, vP pv5), (28, vP pv5), (29, vP (pv5.add 0)), (30, .int .u32 2), (31, vP pv5), (32, vP pv5), (33, vP (pv5.add 1)), (34, iV 0), (2, .int .u32 2), (3, iV 0)] rfl ag0 (.nil)))))))))))) ?_
 refine .seqN (.ret ?_)
 refine .res3 rfl (rvT rfl) (rvT rfl) (rvT rfl) (inl_back (v := .tuple #[.int .u32 2, iV 0, .bool true]) q49 rfl ?_)
 refine .V mv0 ?_
 refine .V (ext rfl rfl) ?_
 refine .V (ext rfl rfl) ?_
 refine .V (ext rfl rfl) ?_
 refine .V ag0 ?_
 refine .V ag0 ?_
 refine .V ag0 ?_
 refine .nil (.seqN (.seq (.region (.V (lB 0 6 tO87) ?_))))
 refine .V mv0 ?_
 refine .V (lkI (enc := fun v : Value => v) (m := ([(2, .slice a15 1 c6)] : List (Int × Value))) (k := 2) (.slice none 0 0) tMR87 rfl rfl (q := 7) rfl) ?_
 refine .V (ln rfl tS97.is) ?_
 refine .V mv0 ?_
 refine .nil (.seqN (.block ?_))
 refine .rounds 90 ?_
 refine .seq (.region (.V bi0 ?_))
 refine .nil (.seqN (.seq ?_))
 refine .cond rfl (fun _ => ?_) (fun e => absurd (e.symm.trans rfl) (by decide))
 refine .skip (.seqN (.seq (.block (.seq (.region (.V (ixS rfl rfl tS97 (k := 2) rfl (And.intro (by decide) (by decide))) ?_))))))
 refine .V (ldA (cs := [.int .u32 1, iV 3]) rfl tA99 rfl (cellsO (k := 2) rfl (rawE rfl))) ?_
 refine al tZ99 rfl (fun pa => ?_)
 refine st (p := pa) (off := 0) (k := 0) (vs := [.int .u32 1, iV 3]) rfl rfl rfl (fun w => (tA99 w).2) rfl rfl rfl rfl ?_
 refine .nil (.seqN (.seq (.region (.V mv0 ?_))))
 refine .V (fa rfl tF99_1) ?_
 refine .V (lB 1 0 tO3) ?_
 refine .V bi0 ?_
 refine .V mv0 ?_
 refine .V (fa rfl tF99_0) ?_
 refine .V (lB 0 0 tO62) ?_
 refine .V (lkI (enc := fun v : Value => v) (m := ([(1, iV 1000000000), (2, iV 0)] : List (Int × Value))) (k := 1) (iV 0) tMR60 rfl rfl (q := 6) rfl) ?_
 refine .V bi0 ?_
 refine .nil (.seqN ?_)
 refine .cond rfl (fun _ => ?_) (fun e => absurd (e.symm.trans rfl) (by decide))
 refine .seq (.region (.V mv0 ?_))
 refine .V (fa rfl tF99_0) ?_
 refine .V (lB 0 0 tO62) ?_
 refine .V mv0 ?_
 refine .V (fa rfl tF99_1) ?_
 refine .V (lB 1 0 tO3) ?_
 refine .V bi0 ?_
 refine muI (enc := fun v : Value => v) (iV 3) tMR60 rfl rfl rfl (q := 6) rfl ?_
 refine .KA [Box pa [.int .u32 1, iV 3], OwnSl 158 1 a21 0 c7 [], Box pv5 [.int .u32 2, iV 0, iV 1, iV 0], OwnSl 99 2 a15 1 c6 [.int .u32 1, iV 3], Box pv4 [.slice a21 0 c7, .map (some bv3), iV 1], OwnMapI bv3 .u32 (fun v : Value => v) ([] : List (Int × Value)), OwnMapI bv2 .u32 (fun v : Value => v) ([(1, iV 3), (2, iV 0)] : List (Int × Value)), Box pback [.map (some bv)], OwnMapI bv .u32 (fun v : Value => v) ([(2, .slice a15 1 c6)] : List (Int × Value)), MkA (D2 :: D :: []), Box pv [iV 0, iV 0]] ?_
 refine .nil (.seqN (.region (.V mv0 ?_)))
 refine .V (fa rfl tF99_0) ?_
 refine .V (lB 0 0 tO62) ?_
 refine .V mv0 ?_
 refine .V (fa rfl tF99_1) ?_
 refine .V (lB 1 0 tO3) ?_
 refine .V bi0 ?_
 refine .inl Tryz.func47 rfl Tryz.ntmps47 Tryz.call47 rfl rfl rfl rfl (fun a33 q56 => ?_)
 refine .sel0 [1, 3, 4, 5, 6, 7, 8, 9, 10] (by decide) rfl ?_
 refine .KA [OwnSl 158 1 a21 0 c7 [], OwnSl 99 2 a15 1 c6 [.int .u32 1, iV 3], Box pv4 [.slice a21 0 c7, .map (some bv3), iV 1], OwnMapI bv3 .u32 (fun v : Value => v) ([] : List (Int × Value)), OwnMapI bv2 .u32 (fun v : Value => v) ([(1, iV 3), (2, iV 0)] : List (Int × Value)), Box pback [.map (some bv)], OwnMapI bv .u32 (fun v : Value => v) ([(2, .slice a15 1 c6)] : List (Int × Value)), MkA (D2 :: D :: []), Box pv [iV 0, iV 0]] ?_
 refine .seq (.region (.V mv0 ?_))
 refine .V (nck rfl) ?_
 refine .V (fa rfl tF157_2) ?_
 refine .V (lB 2 2 tO3) ?_
 refine .V bi0 ?_
 refine .V (nck rfl) ?_
 refine .V (fa rfl tF157_2) ?_
 refine st (p := pv4) (off := 2) (k := 2) (vs := [iV 2]) rfl rfl rfl (fun w => (tO3 w).2) rfl rfl rfl rfl ?_
 refine .nil (.seqN (.seq (.seq (.region (.V mv0 ?_)))))
 refine .V (nck rfl) ?_
 refine .V (fa rfl tF157_1) ?_
 refine .V (lB 1 2 tO153) ?_
 refine .V mv0 ?_
 refine .V (lkI2 (enc := fun v : Value => v) (m := ([] : List (Int × Value))) (k := 1) (.pointer none) tMR153 rfl rfl (q := 3) rfl) ?_
 refine .V mv0 ?_
 refine .V (ext rfl rfl) ?_
 refine .V (ext rfl rfl) ?_
 refine .V ag0 ?_
 refine .V ag0 ?_
 refine .nil (.seqN (.seq (.region (.V mv0 ?_))))
 refine .nil (.seqN ?_)
 refine .cond rfl (fun e => absurd (e.symm.trans rfl) (by decide)) (fun _ => ?_)
 refine .skip (.seqN (.seq (.region (.V mv0 ?_))))
 refine .V mv0 ?_
 refine .V mv0 ?_
 refine .V (nck rfl) ?_
 refine .V (fa rfl tF157_2) ?_
 refine .V (lB 2 2 tO3) ?_
 refine .V (bld (cs := #[.int .u32 1, iV 3, iV 2, iV 0]) (pv := [(0, .int .u32 1), (1, iV 3), (2, iV 2)]) tB161 rfl rfl) ?_
 refine bx (vs := [.int .u32 1, iV 3, iV 2, iV 0]) rfl rfl rfl (fun pv6 => ?_)
 refine .V ag0 ?_
 refine .nil (.seqN (.seq (.region (.V mv0 ?_))))
 refine .V (nck rfl) ?_
 refine .V (fa rfl tF157_1) ?_
 refine .V (lB 1 3 tO153) ?_
 refine .V mv0 ?_
 refine .V mv0 ?_
 refine muI (enc := fun v : Value => v) (vP pv6) tMR153 rfl rfl rfl (q := 4) rfl ?_
 refine .nil (.seqN (.region (.V mv0 ?_)))
 refine .V (nck rfl) ?_
 refine .V (fa rfl tF157_0) ?_
 refine .V (mkI tC163 rfl) ?_
 refine .V mv0 ?_
 refine .V (mkI tC158 rfl) ?_
 refine .inl Tryz.func59 rfl Tryz.ntmps59 Tryz.call59 rfl rfl rfl rfl (fun a34 q57 => ?_)
 refine .KA [Box pv6 [.int .u32 1, iV 3, iV 2, iV 0], OwnSl 158 1 a21 0 c7 [], OwnSl 99 2 a15 1 c6 [.int .u32 1, iV 3], Box pv4 [.slice a21 0 c7, .map (some bv3), iV 2], OwnMapI bv3 .u32 (fun v : Value => v) ([(1, vP pv6)] : List (Int × Value)), OwnMapI bv2 .u32 (fun v : Value => v) ([(1, iV 3), (2, iV 0)] : List (Int × Value)), Box pback [.map (some bv)], OwnMapI bv .u32 (fun v : Value => v) ([(2, .slice a15 1 c6)] : List (Int × Value)), MkA (D2 :: D :: []), Box pv [iV 0, iV 0]] ?_
 refine .seq (.region (.V mv0 ?_))
 refine .V mv0 ?_
 refine .inlI Tryz.func164 rfl Tryz.ntmps164 Tryz.call164 tm163_Push rfl rfl rfl (fun a35 q58 => ?_)
 refine .KA [Box pv6 [.int .u32 1, iV 3, iV 2, iV 0], OwnSl 158 1 a21 0 c7 [], OwnSl 99 2 a15 1 c6 [.int .u32 1, iV 3], Box pv4 [.slice a21 0 c7, .map (some bv3), iV 2], OwnMapI bv3 .u32 (fun v : Value => v) ([(1, vP pv6)] : List (Int × Value)), OwnMapI bv2 .u32 (fun v : Value => v) ([(1, iV 3), (2, iV 0)] : List (Int × Value)), Box pback [.map (some bv)], OwnMapI bv .u32 (fun v : Value => v) ([(2, .slice a15 1 c6)] : List (Int × Value)), MkA (D2 :: D :: []), Box pv [iV 0, iV 0]] ?_
 refine .seq (.region (.V mv0 ?_))
 refine .V (tas tC158 rfl) ?_
 refine .V ag0 ?_
 refine .nil (.seqN (.seq (.region (.V mv0 ?_))))
 refine .V mv0 ?_
 refine .V (nck rfl) ?_
 refine .V (lB 0 3 tO155) ?_
 refine .V (ln rfl tS155.is) ?_
 refine .V (nck rfl) ?_
 refine .V (fa rfl tF161_3) ?_
 refine st (p := pv6) (off := 3) (k := 0) (vs := [iV 0]) rfl rfl rfl (fun w => (tO3 w).2) rfl rfl rfl rfl ?_
 refine .nil (.seqN (.region (.V mv0 ?_)))
 refine .V mv0 ?_
 refine .V (nck rfl) ?_
 refine .V (lB 0 3 tO155) ?_
 refine .V mv0 ?_
 refine bs2 (cs := #[vP pv6]) (pv := [(0, vP pv6)]) tS155 rfl rfl (by decide) (by decide) rfl rfl rfl (fun a36 q75 => ?_)
 refine app (k := 2) (news := [vP pv6]) (cs' := [vP pv6]) (nm := 1) tS155 rfl (by decide) rfl rfl rfl rfl (srcS (k := 0) rfl) (oneAll rfl) (by decide) (by decide) rfl rfl rfl (fun a37 c8 => ?_)
 refine .V (nck rfl) ?_
 refine st (p := pv4) (off := 0) (k := 4) (vs := [.slice a37 1 c8]) rfl rfl rfl (fun w => (tO155 w).2) rfl rfl rfl rfl ?_
 refine .nil ?_
 refine .res0 (.inr rfl) rfl (inl_back (v := .tuple #[]) q58 rfl ?_)
 refine .nil (.seqN (.region (.V mv0 ?_)))
 refine .V mv0 ?_
 refine .inlV Tryz.func160 rfl Tryz.ntmps160 Tryz.call160 tm163_Len rfl (cellB (off := 0) (k := 4) rfl rfl) rfl rfl (fun a38 q59 => ?_)
 refine .sel0 [1, 2, 3, 4, 5, 6, 7, 8, 9, 10] (by decide) rfl ?_
 refine .KA [Box pv6 [.int .u32 1, iV 3, iV 2, iV 0], OwnSl 158 1 a37 1 c8 [vP pv6], OwnSl 99 2 a15 1 c6 [.int .u32 1, iV 3], Box pv4 [.slice a37 1 c8, .map (some bv3), iV 2], OwnMapI bv3 .u32 (fun v : Value => v) ([(1, vP pv6)] : List (Int × Value)), OwnMapI bv2 .u32 (fun v : Value => v) ([(1, iV 3), (2, iV 0)] : List (Int × Value)), Box pback [.map (some bv)], OwnMapI bv .u32 (fun v : Value => v) ([(2, .slice a15 1 c6)] : List (Int × Value)), MkA (D2 :: D :: []), Box pv [iV 0, iV 0]] ?_
 refine .seq (.region (.V ag0 ?_))
 refine .nil (.seqN (.seq (.region (.V mv0 ?_))))
 refine .V (ln rfl tS155.is) ?_
 refine .V ag0 ?_
 refine .nil (.seqN (.ret ?_))
 refine .res1 rfl (rvT rfl) (inl_back (v := iV 1) q59 rfl ?_)
 refine .V bi0 ?_
 refine .inl Tryz.func93 rfl Tryz.ntmps93 Tryz.call93 rfl rfl rfl rfl (fun a39 q60 => ?_)
 refine .KA [Box pv6 [.int .u32 1, iV 3, iV 2, iV 0], OwnSl 158 1 a37 1 c8 [vP pv6], OwnSl 99 2 a15 1 c6 [.int .u32 1, iV 3], Box pv4 [.slice a37 1 c8, .map (some bv3), iV 2], OwnMapI bv3 .u32 (fun v : Value => v) ([(1, vP pv6)] : List (Int × Value)), OwnMapI bv2 .u32 (fun v : Value => v) ([(1, iV 3), (2, iV 0)] : List (Int × Value)), Box pback [.map (some bv)], OwnMapI bv .u32 (fun v : Value => v) ([(2, .slice a15 1 c6)] : List (Int × Value)), MkA (D2 :: D :: []), Box pv [iV 0, iV 0]] ?_
 refine .block ?_
 refine .rounds 90 ?_
 refine .block (.seq (.region (.V mv0 ?_)))
 refine .V bi0 ?_
 refine .V (bq rfl rfl (by decide)) ?_
 refine .V ag0 ?_
 refine .nil (.seqN (.seq (.seq (.region (.V mv0 ?_)))))
 refine .V mv0 ?_
 refine .V bi0 ?_
 refine .V mv0 ?_
 refine .GT ?_
 refine .GT ?_
 refine .GT ?_
 refine .GT ?_
 refine .GT ?_
 refine .V (pkT rfl rfl rfl) ?_
 refine .nil (.seqN ?_)
 refine .cond rfl (fun _ => ?_) (fun e => absurd (e.symm.trans rfl) (by decide))
 refine .exit (.seqX ?_)
 refine .blkY rfl ?_
 refine .seqX (.blkX ?_)
 refine .res0 (.inr rfl) rfl (inl_back (v := .tuple #[]) q60 rfl ?_)
 refine .nil ?_
 refine .res0 (.inr rfl) rfl (inl_back (v := .tuple #[]) q57 rfl ?_)
 refine .nil ?_
 refine .res0 (.inr rfl) rfl (inl_back (v := .tuple #[]) q56 rfl ?_)
 refine .nil (.blkN (.seqN (.region (.V bi0 ?_))))
 refine .V mv0 ?_
 refine .nil ?_
 refine .more ?_
 refine .sub (s' := [(5, vP pback), (6, .map (some bv2)), (7, vP pv4), (12, iV 0), (64, .slice a15 1 c6), (65, iV 1), (66, iV 1)]) sb ?_
 refine .KA [Box pv6 [.int .u32 1, iV 3, iV 2, iV 0], OwnSl 158 1 a37 1 c8 [vP pv6], OwnSl 99 2 a15 1 c6 [.int .u32 1, iV 3], Box pv4 [.slice a37 1 c8, .map (some bv3), iV 2], OwnMapI bv3 .u32 (fun v : Value => v) ([(1, vP pv6)] : List (Int × Value)), OwnMapI bv2 .u32 (fun v : Value => v) ([(1, iV 3), (2, iV 0)] : List (Int × Value)), Box pback [.map (some bv)], OwnMapI bv .u32 (fun v : Value => v) ([(2, .slice a15 1 c6)] : List (Int × Value)), MkA (D2 :: D :: []), Box pv [iV 0, iV 0]] ?_
 refine .seq (.region (.V bi0 ?_))
 refine .nil (.seqN (.seq ?_))
 refine .cond rfl (fun e => absurd (e.symm.trans rfl) (by decide)) (fun _ => ?_)
 refine .exit (.seqX (.seqX (.blkX (.blkN ?_))))
 refine .more ?_
 refine .sub (s' := [(5, vP pback), (6, .map (some bv2)), (7, vP pv4)]) sb ?_
 refine .KA [Box pv6 [.int .u32 1, iV 3, iV 2, iV 0], OwnSl 158 1 a37 1 c8 [vP pv6], OwnSl 99 2 a15 1 c6 [.int .u32 1, iV 3], Box pv4 [.slice a37 1 c8, .map (some bv3), iV 2], OwnMapI bv3 .u32 (fun v : Value => v) ([(1, vP pv6)] : List (Int × Value)), OwnMapI bv2 .u32 (fun v : Value => v) ([(1, iV 3), (2, iV 0)] : List (Int × Value)), Box pback [.map (some bv)], OwnMapI bv .u32 (fun v : Value => v) ([(2, .slice a15 1 c6)] : List (Int × Value)), MkA (D2 :: D :: []), Box pv [iV 0, iV 0]] ?_
 refine .seq (.seq (.region (.V mv0 ?_)))
 refine .inl Tryz.func49 rfl Tryz.ntmps49 Tryz.call49 rfl rfl rfl rfl (fun a40 q61 => ?_)
 refine .KA [Box pv6 [.int .u32 1, iV 3, iV 2, iV 0], OwnSl 158 1 a37 1 c8 [vP pv6], OwnSl 99 2 a15 1 c6 [.int .u32 1, iV 3], Box pv4 [.slice a37 1 c8, .map (some bv3), iV 2], OwnMapI bv3 .u32 (fun v : Value => v) ([(1, vP pv6)] : List (Int × Value)), OwnMapI bv2 .u32 (fun v : Value => v) ([(1, iV 3), (2, iV 0)] : List (Int × Value)), Box pback [.map (some bv)], OwnMapI bv .u32 (fun v : Value => v) ([(2, .slice a15 1 c6)] : List (Int × Value)), MkA (D2 :: D :: []), Box pv [iV 0, iV 0]] ?_
 refine .seq (.region (.V ag0 ?_))
 refine .nil (.seqN (.seq (.region (.V mv0 ?_))))
 refine .V (nck rfl) ?_
 refine .V (fa rfl tF157_0) ?_
 refine .V (lB 0 3 tO155) ?_
 refine .V (ln rfl tS155.is) ?_
 refine .V ag0 ?_
 refine .nil (.seqN (.ret ?_))
 refine .res1 rfl (rvT rfl) (inl_back (v := iV 1) q61 rfl ?_)
 refine .V bi0 ?_
 refine .nil (.seqN ?_)
 refine .cond rfl (fun _ => ?_) (fun e => absurd (e.symm.trans rfl) (by decide))
 refine .skip (.seqN (.block (.seq (.region (.V mv0 ?_)))))
 refine .inl Tryz.func50 rfl Tryz.ntmps50 Tryz.call50 rfl rfl rfl rfl (fun a41 q62 => ?_)
 refine .KA [Box pv6 [.int .u32 1, iV 3, iV 2, iV 0], OwnSl 158 1 a37 1 c8 [vP pv6], OwnSl 99 2 a15 1 c6 [.int .u32 1, iV 3], Box pv4 [.slice a37 1 c8, .map (some bv3), iV 2], OwnMapI bv3 .u32 (fun v : Value => v) ([(1, vP pv6)] : List (Int × Value)), OwnMapI bv2 .u32 (fun v : Value => v) ([(1, iV 3), (2, iV 0)] : List (Int × Value)), Box pback [.map (some bv)], OwnMapI bv .u32 (fun v : Value => v) ([(2, .slice a15 1 c6)] : List (Int × Value)), MkA (D2 :: D :: []), Box pv [iV 0, iV 0]] ?_
 refine .seq (.region (.V ag0 ?_))
 refine .V ag0 ?_
 refine .V ag0 ?_
 refine .nil (.seqN (.seq (.seq (.region (.V mv0 ?_)))))
 refine .V (nck rfl) ?_
 refine .V (fa rfl tF157_0) ?_
 refine .V (lB 0 3 tO155) ?_
 refine .V (ln rfl tS155.is) ?_
 refine .V bi0 ?_
 refine .nil (.seqN ?_)
 refine .cond rfl (fun e => absurd (e.symm.trans rfl) (by decide)) (fun _ => ?_)
 refine .skip (.seqN (.seq (.region (.V mv0 ?_))))
 refine .V (nck rfl) ?_
 refine .V (fa rfl tF157_0) ?_
 refine .V (mkI tC163 rfl) ?_
 refine .inl Tryz.func54 rfl Tryz.ntmps54 Tryz.call54 rfl rfl rfl rfl (fun a42 q63 => ?_)
 refine .KA [Box pv6 [.int .u32 1, iV 3, iV 2, iV 0], OwnSl 158 1 a37 1 c8 [vP pv6], OwnSl 99 2 a15 1 c6 [.int .u32 1, iV 3], Box pv4 [.slice a37 1 c8, .map (some bv3), iV 2], OwnMapI bv3 .u32 (fun v : Value => v) ([(1, vP pv6)] : List (Int × Value)), OwnMapI bv2 .u32 (fun v : Value => v) ([(1, iV 3), (2, iV 0)] : List (Int × Value)), Box pback [.map (some bv)], OwnMapI bv .u32 (fun v : Value => v) ([(2, .slice a15 1 c6)] : List (Int × Value)), MkA (D2 :: D :: []), Box pv [iV 0, iV 0]] ?_
 refine .seq (.region (.V ag0 ?_))
 refine .nil (.seqN (.seq (.region (.V mv0 ?_))))
 refine .inlV Tryz.func160 rfl Tryz.ntmps160 Tryz.call160 tm163_Len rfl (cellB (off := 0) (k := 3) rfl rfl) rfl rfl (fun a43 q64 => ?_)
 refine .KA [Box pv6 [.int .u32 1, iV 3, iV 2, iV 0], OwnSl 158 1 a37 1 c8 [vP pv6], OwnSl 99 2 a15 1 c6 [.int .u32 1, iV 3], Box pv4 [.slice a37 1 c8, .map (some bv3), iV 2], OwnMapI bv3 .u32 (fun v : Value => v) ([(1, vP pv6)] : List (Int × Value)), OwnMapI bv2 .u32 (fun v : Value => v) ([(1, iV 3), (2, iV 0)] : List (Int × Value)), Box pback [.map (some bv)], OwnMapI bv .u32 (fun v : Value => v) ([(2, .slice a15 1 c6)] : List (Int × Value)), MkA (D2 :: D :: []), Box pv [iV 0, iV 0]] ?_
 refine .seq (.region (.V ag0 ?_))
 refine .nil (.seqN (.seq (.region (.V mv0 ?_))))
 refine .V (ln rfl tS155.is) ?_
 refine .V ag0 ?_
 refine .nil (.seqN (.ret ?_))
 refine .res1 rfl (rvT rfl) (inl_back (v := iV 1) q64 rfl ?_)
 refine .V bi0 ?_
 refine .V ag0 ?_
 refine .nil (.seqN (.seq (.region (.V mv0 ?_))))
 refine .V mv0 ?_
 refine .inlV Tryz.func162 rfl Tryz.ntmps162 Tryz.call162 tm163_Swap rfl (cellB (off := 0) (k := 3) rfl rfl) rfl rfl (fun a44 q65 => ?_)
 refine .KA [Box pv6 [.int .u32 1, iV 3, iV 2, iV 0], OwnSl 158 1 a37 1 c8 [vP pv6], OwnSl 99 2 a15 1 c6 [.int .u32 1, iV 3], Box pv4 [.slice a37 1 c8, .map (some bv3), iV 2], OwnMapI bv3 .u32 (fun v : Value => v) ([(1, vP pv6)] : List (Int × Value)), OwnMapI bv2 .u32 (fun v : Value => v) ([(1, iV 3), (2, iV 0)] : List (Int × Value)), Box pback [.map (some bv)], OwnMapI bv .u32 (fun v : Value => v) ([(2, .slice a15 1 c6)] : List (Int × Value)), MkA (D2 :: D :: []), Box pv [iV 0, iV 0]] ?_
 refine .seq ?_
 refine .OA (s0 := [(0, .slice a37 1 c8), (1, iV 0), (2, iV 0)]) [0, 1, 2, 3, 4, 5, 6, 7, 8, 9, 10, 11, 12] [(0, .slice a37 1 c8), (1, iV 0), (2, .slice a37 1 c8), (3, iV 0), (4, .slice a37 1 c8), (5, iV 0), (6, vP (ead a37 ((0 : Int).toNat * 1))), (7, vP pv6), (8, .slice a37 1 c8), (9, iV 0), (10, vP (ead a37 ((0 : Int).toNat * 1))), (11, vP pv6), (12, vP (ead a37 ((0 : Int).toNat * 1)))] [0, 1, 2] [] ?_
 refine .ST [13] 13 (.w [] rfl mv0 (.w [] rfl mv0 (.w [] rfl mv0 (.w [] rfl mv0 (.w [] rfl mv0 (.w [] rfl mv0 (.w [(10, .slice a37 1 c8), (11, iV 0)] rfl (ixS rfl rfl tS155 (k := 1) rfl (And.intro (by decide) (by decide))) (.w [(12, vP (ead a37 ((0 : Int).toNat * 1)))] rfl (ld1 (v := vP pv6) rfl tO158 (cellS (k := 1) rfl rfl)) (.w [] rfl mv0 (.w [] rfl mv0 (.w [(14, .slice a37 1 c8), (15, iV 0)] rfl (ixS rfl rfl tS155 (k := 1) rfl (And.intro (by decide) (by decide))) (.w [(16, vP (ead a37 ((0 : Int).toNat * 1)))] rfl (ld1 (v := vP pv6) rfl tO158 (cellS (k := 1) rfl rfl)) (.w [(6, .slice a37 1 c8), (7, iV 0), (6, .slice a37 1 c8), (7, iV 0), (10, .slice a37 1 c8), (11, iV 0), (12, vP (ead a37 ((0 : Int).toNat * 1))), (13, vP pv6), (17, vP pv6)] rfl (ixS rfl rfl tS155 (k := 1) rfl (And.intro (by decide) (by decide))) (.nil)))))))))))))) (.cons [(18, vP (ead a37 ((0 : Int).toNat * 1))), (13, vP pv6), (6, .slice a37 1 c8), (7, iV 0), (10, .slice a37 1 c8), (11, iV 0), (12, vP (ead a37 ((0 : Int).toNat * 1))), (13, vP pv6), (17, vP pv6)] rfl rfl (fun sL hL => ?_) (.nil))
 refine stS (k := 1) (cs' := [vP pv6]) rfl (fun _ => rfl) rfl rfl (fun w => (tO158 w).2) rfl rfl rfl (by decide) (Nat.le_of_ble_eq_true rfl) rfl ?_
 refine .nil ?_
 refine .jaN (M := [12, 7, 0, 1, 4, 5, 6, 11, 10, 8, 9]) (C' := [2, 3, 14]) (pre := [(14, vP (ead a37 ((0 : Int).toNat * 1)))]) [0, 1, 2] hL rfl rfl rfl rfl rfl (by kernel_rfl) ?_
 refine .ST [15] 15 (.w [] rfl mv0 (.w [] rfl mv0 (.w [(8, .slice a37 1 c8), (9, iV 0), (6, .slice a37 1 c8), (7, iV 0), (8, .slice a37 1 c8), (9, iV 0), (10, .slice a37 1 c8), (11, iV 0), (12, vP (ead a37 ((0 : Int).toNat * 1))), (13, vP pv6), (14, .slice a37 1 c8), (15, iV 0), (16, vP (ead a37 ((0 : Int).toNat * 1))), (17, vP pv6), (18, vP (ead a37 ((0 : Int).toNat * 1)))] rfl (ixS rfl rfl tS155 (k := 1) rfl (And.intro (by decide) (by decide))) (.nil)))) (.cons [(19, vP (ead a37 ((0 : Int).toNat * 1))), (17, vP pv6), (6, .slice a37 1 c8), (7, iV 0), (8, .slice a37 1 c8), (9, iV 0), (10, .slice a37 1 c8), (11, iV 0), (12, vP (ead a37 ((0 : Int).toNat * 1))), (13, vP pv6), (14, .slice a37 1 c8), (15, iV 0), (16, vP (ead a37 ((0 : Int).toNat * 1))), (17, vP pv6), (18, vP (ead a37 ((0 : Int).toNat * 1)))] rfl rfl (fun sL hL => ?_) (.nil))
 refine stS (k := 1) (cs' := [vP pv6]) rfl (fun _ => rfl) rfl rfl (fun w => (tO158 w).2) rfl rfl rfl (by decide) (Nat.le_of_ble_eq_true rfl) rfl ?_
 refine .nil ?_
 refine .jaN (M := [14, 2, 3]) (C' := []) (pre := []) [0, 1, 2] hL rfl rfl rfl rfl rfl (by kernel_rfl) ?_
 refine .LA [(6, .slice a37 1 c8), (7, iV 0), (8, .slice a37 1 c8), (9, iV 0), (10, .slice a37 1 c8), (11, iV 0), (12, vP (ead a37 ((0 : Int).toNat * 1))), (13, vP pv6), (14, .slice a37 1 c8), (15, iV 0), (16, vP (ead a37 ((0 : Int).toNat * 1))), (17, vP pv6), (18, vP (ead a37 ((0 : Int).toNat * 1))), (19, vP (ead a37 ((0 : Int).toNat * 1)))] (.nil) ?_
 refine .seqN ?_
 refine .OA (s0 := [(0, .slice a37 1 c8), (1, iV 0), (2, iV 0)]) [0, 1, 2, 3, 4, 5, 6, 7, 8, 9, 10, 11] [(0, .slice a37 1 c8), (1, iV 0), (2, vP (ead a37 ((0 : Int).toNat * 1))), (3, vP pv6), (4, .slice a37 1 c8), (5, iV 0), (6, vP (ead a37 ((0 : Int).toNat * 1))), (7, vP pv6), (8, iV 0), (9, iV 0), (10, vP pv6), (11, vP (pv6.add 3))] [0, 1, 2] [] ?_
 refine .ST [12] 12 (.w [] rfl mv0 (.w [] rfl mv0 (.w [(20, .slice a37 1 c8), (21, iV 0)] rfl (ixS rfl rfl tS155 (k := 1) rfl (And.intro (by decide) (by decide))) (.w [(22, vP (ead a37 ((0 : Int).toNat * 1)))] rfl (ld1 (v := vP pv6) rfl tO158 (cellS (k := 1) rfl rfl)) (.w [] rfl mv0 (.w [] rfl mv0 (.w [(24, .slice a37 1 c8), (25, iV 0)] rfl (ixS rfl rfl tS155 (k := 1) rfl (And.intro (by decide) (by decide))) (.w [(26, vP (ead a37 ((0 : Int).toNat * 1)))] rfl (ld1 (v := vP pv6) rfl tO158 (cellS (k := 1) rfl rfl)) (.w [] rfl mv0 (.w [] rfl mv0 (.w [(23, vP pv6), (20, .slice a37 1 c8), (21, iV 0), (22, vP (ead a37 ((0 : Int).toNat * 1))), (23, vP pv6), (27, vP pv6), (28, iV 0)] rfl (nck rfl) (.w [(30, vP pv6), (20, .slice a37 1 c8), (21, iV 0), (22, vP (ead a37 ((0 : Int).toNat * 1))), (23, vP pv6), (27, vP pv6), (28, iV 0)] rfl (fa rfl tF161_3) (.nil))))))))))))) (.cons [(31, vP (pv6.add 3)), (28, iV 0), (20, .slice a37 1 c8), (21, iV 0), (22, vP (ead a37 ((0 : Int).toNat * 1))), (23, vP pv6), (27, vP pv6), (28, iV 0)] rfl rfl (fun sL hL => ?_) (.nil))
 refine st (p := pv6) (off := 3) (k := 0) (vs := [iV 0]) rfl rfl rfl (fun w => (tO3 w).2) rfl rfl rfl rfl ?_
 refine .nil ?_
 refine .jaN (M := [11, 8, 0, 1, 2, 3, 7, 10, 6, 4, 5]) (C' := [9, 13, 14]) (pre := [(13, vP pv6), (14, vP (pv6.add 3))]) [0, 1, 2] hL rfl rfl rfl rfl rfl (by kernel_rfl) ?_
 refine .ST [15] 15 (.w [] rfl mv0 (.w [(27, vP pv6), (20, .slice a37 1 c8), (21, iV 0), (22, vP (ead a37 ((0 : Int).toNat * 1))), (23, vP pv6), (24, .slice a37 1 c8), (25, iV 0), (26, vP (ead a37 ((0 : Int).toNat * 1))), (27, vP pv6), (28, iV 0), (29, iV 0), (30, vP pv6), (31, vP (pv6.add 3))] rfl (nck rfl) (.w [(32, vP pv6), (20, .slice a37 1 c8), (21, iV 0), (22, vP (ead a37 ((0 : Int).toNat * 1))), (23, vP pv6), (24, .slice a37 1 c8), (25, iV 0), (26, vP (ead a37 ((0 : Int).toNat * 1))), (27, vP pv6), (28, iV 0), (29, iV 0), (30, vP pv6), (31, vP (pv6.add 3))] rfl (fa rfl tF161_3) (.nil)))) (.cons [(33, vP (pv6.add 3)), (29, iV 0), (20, .slice a37 1 c8), (21, iV 0), (22, vP (ead a37 ((0 : Int).toNat * 1))), (23, vP pv6), (24, .slice a37 1 c8), (25, iV 0), (26, vP (ead a37 ((0 : Int).toNat * 1))), (27, vP pv6), (28, iV 0), (29, iV 0), (30, vP pv6), (31, vP (pv6.add 3))] rfl rfl (fun sL hL => ?_) (.nil))
 refine st (p := pv6) (off := 3) (k := 0) (vs := [iV 0]) rfl rfl rfl (fun w => (tO3 w).2) rfl rfl rfl rfl ?_
 refine .nil ?_
 refine .jaN (M := [14, 9, 13]) (C' := []) (pre := []) [0, 1, 2] hL rfl rfl rfl rfl rfl (by kernel_rfl) ?_
 refine .LA [(20, .slice a37 1 c8), (21, iV 0), (22, vP (ead a37 ((0 : Int).toNat * 1))), (23, vP pv6), (24, .slice a37 1 c8), (25, iV 0), (26, vP (ead a37 ((0 : Int).toNat * 1))), (27, vP pv6), (28, iV 0), (29, iV 0), (30, vP pv6), (31, vP (pv6.add 3)), (32, vP pv6), (33, vP (pv6.add 3))] (.nil) ?_
 refine .res0 (.inr rfl) rfl (inl_back (v := .tuple #[]) q65 rfl ?_)
 refine .nil (.seqN (.seq (.region (.V mv0 ?_))))
 refine .V mv0 ?_
 refine .inl Tryz.func83 rfl Tryz.ntmps83 Tryz.call83 rfl rfl rfl rfl (fun a45 q66 => ?_)
 refine .KA [Box pv6 [.int .u32 1, iV 3, iV 2, iV 0], OwnSl 158 1 a37 1 c8 [vP pv6], OwnSl 99 2 a15 1 c6 [.int .u32 1, iV 3], Box pv4 [.slice a37 1 c8, .map (some bv3), iV 2], OwnMapI bv3 .u32 (fun v : Value => v) ([(1, vP pv6)] : List (Int × Value)), OwnMapI bv2 .u32 (fun v : Value => v) ([(1, iV 3), (2, iV 0)] : List (Int × Value)), Box pback [.map (some bv)], OwnMapI bv .u32 (fun v : Value => v) ([(2, .slice a15 1 c6)] : List (Int × Value)), MkA (D2 :: D :: []), Box pv [iV 0, iV 0]] ?_
 refine .seq (.region (.V ag0 ?_))
 refine .nil (.seqN (.seq (.region (.V mv0 ?_))))
 refine .V ag0 ?_
 refine .nil (.seqN (.seq (.block ?_)))
 refine .rounds 90 ?_
 refine .block (.seq (.region (.V mv0 ?_)))
 refine .V bi0 ?_
 refine .V bi0 ?_
 refine .V ag0 ?_
 refine .nil (.seqN (.seq (.seq (.region (.V mv0 ?_)))))
 refine .V mv0 ?_
 refine .V bi0 ?_
 refine .V mv0 ?_
 refine .GT ?_
 refine .GT ?_
 refine .V (pkT rfl rfl rfl) ?_
 refine .nil (.seqN ?_)
 refine .cond rfl (fun _ => ?_) (fun e => absurd (e.symm.trans rfl) (by decide))
 refine .exit (.seqX ?_)
 refine .blkY rfl ?_
 refine .seqX (.blkX (.seqN (.seq (.region (.V mv0 ?_)))))
 refine .V mv0 ?_
 refine .V bi0 ?_
 refine .V ag0 ?_
 refine .nil (.seqN (.ret ?_))
 refine .res1 rfl (rvT rfl) (inl_back (v := .bool false) q66 rfl ?_)
 refine .nil (.seqN (.seq (.region (.V mv0 ?_))))
 refine .inlI Tryz.func163 rfl Tryz.ntmps163 Tryz.call163 tm163_Pop rfl rfl rfl (fun a46 q67 => ?_)
 refine .KA [Box pv6 [.int .u32 1, iV 3, iV 2, iV 0], OwnSl 158 1 a37 1 c8 [vP pv6], OwnSl 99 2 a15 1 c6 [.int .u32 1, iV 3], Box pv4 [.slice a37 1 c8, .map (some bv3), iV 2], OwnMapI bv3 .u32 (fun v : Value => v) ([(1, vP pv6)] : List (Int × Value)), OwnMapI bv2 .u32 (fun v : Value => v) ([(1, iV 3), (2, iV 0)] : List (Int × Value)), Box pback [.map (some bv)], OwnMapI bv .u32 (fun v : Value => v) ([(2, .slice a15 1 c6)] : List (Int × Value)), MkA (D2 :: D :: []), Box pv [iV 0, iV 0]] ?_
 refine .seq (.region (.V ag0 ?_))
 refine .nil (.seqN (.seq (.region (.V mv0 ?_))))
 refine .V (nck rfl) ?_
 refine .V (lB 0 3 tO155) ?_
 refine .V ag0 ?_
 refine .nil (.seqN (.seq (.region (.V mv0 ?_))))
 refine .V mv0 ?_
 refine .V (ln rfl tS155.is) ?_
 refine .V bi0 ?_
 refine .V (ixS rfl rfl tS155 (k := 1) rfl (And.intro (by decide) (by decide))) ?_
 refine .V (ld1 (v := vP pv6) rfl tO158 (cellS (k := 1) rfl rfl)) ?_
 refine .V ag0 ?_
 refine .nil (.seqN (.seq ?_))
 refine .fact (fun w S => look_len S (k := 1) rfl) (fun q68 => ?_)
 refine .region (.V mv0 ?_)
 refine .V mv0 ?_
 refine .V mv0 ?_
 refine .V (ln rfl tS155.is) ?_
 refine .V bi0 ?_
 refine .V (slH tS155 rfl rfl (by decide) rfl (Nat.le_trans (show 0 ≤ 1 by decide) q68)) ?_
 refine .shrink (k := 1) (cs' := []) rfl (show 0 ≤ 1 by decide) rfl ?_
 refine .V (nck rfl) ?_
 refine st (p := pv4) (off := 0) (k := 3) (vs := [.slice a37 0 c8]) rfl rfl rfl (fun w => (tO155 w).2) rfl rfl rfl rfl ?_
 refine .nil (.seqN (.seq (.region (.V mv0 ?_))))
 refine .V (mkI tC158 rfl) ?_
 refine .V ag0 ?_
 refine .nil (.seqN (.ret ?_))
 refine .res1 rfl (rvT rfl) (inl_back (v := .iface 158 (.pointer (some pv6))) q67 rfl ?_)
 refine .V ag0 ?_
 refine .nil (.seqN (.ret ?_))
 refine .res1 rfl (rvT rfl) (inl_back (v := .iface 158 (.pointer (some pv6))) q63 rfl ?_)
 refine .V (tas tC158 rfl) ?_
 refine .V ag0 ?_
 refine .nil (.seqN (.seq ?_))
 refine .OA (s0 := [(0, vP pv4), (5, vP pv6)]) [0, 1, 2, 3, 4, 5, 6, 7] [(0, vP pv4), (1, vP pv4), (2, vP (pv4.add 1)), (3, .map (some bv3)), (4, vP pv6), (5, vP pv6), (6, vP (pv6.add 0)), (7, .int .u32 1)] [0, 5] [] ?_
 refine .ST [8] 8 (.w [] rfl mv0 (.w [(19, vP pv4)] rfl (nck rfl) (.w [(20, vP pv4)] rfl (fa rfl tF157_1) (.w [(21, vP (pv4.add 1))] rfl (lB 1 3 tO153) (.w [] rfl mv0 (.w [(23, vP pv6)] rfl (nck rfl) (.w [(24, vP pv6)] rfl (fa rfl tF161_0) (.w [(25, vP (pv6.add 0))] rfl (lB 0 0 tO62) (.nil))))))))) (.cons [(22, .map (some bv3)), (26, .int .u32 1)] rfl rfl (fun sL hL => ?_) (.nil))
 refine dlI tMR153 rfl rfl (q := 4) rfl rfl ?_
 refine .nil ?_
 refine .jaN (M := [3, 7, 2, 6, 1, 5, 0, 4]) (C' := []) (pre := []) [0, 5] hL rfl rfl rfl rfl rfl (by kernel_rfl) ?_
 refine .LA [(19, vP pv4), (20, vP pv4), (21, vP (pv4.add 1)), (22, .map (some bv3)), (23, vP pv6), (24, vP pv6), (25, vP (pv6.add 0)), (26, .int .u32 1)] (.nil) ?_
 refine .seqN (.seq ?_)
 refine .OA (s0 := [(5, vP pv6)]) [0, 1, 2, 3, 4, 5, 6, 7, 8, 9, 10] [(0, vP pv6), (1, vP pv6), (2, vP (pv6.add 0)), (3, .int .u32 1), (4, vP pv6), (5, vP pv6), (6, vP (pv6.add 1)), (7, iV 3), (8, .int .u32 1), (9, iV 3), (10, .bool true)] [5] [] ?_
 refine .LA [(27, vP pv6), (28, vP pv6), (29, vP (pv6.add 0)), (30, .int .u32 1), (31, vP pv6), (32, vP pv6), (33, vP (pv6.add 1)), (34, iV 3), (2, .int .u32 1), (3, iV 3), (4, .bool true)] (.w [] rfl mv0 (.w [(27, vP pv6)] rfl (nck rfl) (.w [(28, vP pv6)] rfl (fa rfl tF161_0) (.w [(29, vP (pv6.add 0))] rfl (lB 0 0 tO62) (.w [] rfl mv0 (.w [(31, vP pv6)] rfl (nck rfl) (.w [(32, vP pv6)] rfl (fa rfl tF161_1) (.w [(33, vP (pv6.add 1))] rfl (lB 1 0 tO3) (.w [(30, .int .u32 1), (27, vP pv6), (28, vP pv6), (29, vP (pv6.add 0)), (30, .int .u32 1)] rfl ag0 (.w [(34, iV 3), (2, .int .u32 1), (27, vP pv6), (28, vP pv6), (29, vP (pv6.add 0)), (30, .int .u32 1), (31, vP pv6), (32, vP pv6), (33, vP (pv6.add 1)), (34, iV 3), (2, .int .u32 1)] rfl ag0 (.w [(3, iV 3), (27, vP pv6), (28, vP pv6), (29, vP (pv6.add 0)), (30, .int .u32 1), (31, vP pv6), (32, vP pv6), (33, vP (pv6.add 1)), (34, iV 3), (2, .int .u32 1), (3, iV 3)] rfl ag0 (.nil)))))))))))) ?_
 refine .seqN (.ret ?_)
 refine .res3 rfl (rvT rfl) (rvT rfl) (rvT rfl) (inl_back (v := .tuple #[.int .u32 1, iV 3, .bool true]) q62 rfl ?_)
 refine .V mv0 ?_
 refine .V (ext rfl rfl) ?_
 refine .V (ext rfl rfl) ?_
 refine .V (ext rfl rfl) ?_
 refine .V ag0 ?_
 refine .V ag0 ?_
 refine .V ag0 ?_
 refine .nil (.seqN (.seq (.region (.V (lB 0 6 tO87) ?_))))
 refine .V mv0 ?_
 refine .V (lkI (enc := fun v : Value => v) (m := ([(2, .slice a15 1 c6)] : List (Int × Value))) (k := 1) (.slice none 0 0) tMR87 rfl rfl (q := 7) rfl) ?_
 refine .V (ln rfl tS97.is) ?_
 refine .V mv0 ?_
 refine .nil (.seqN (.block ?_))
 refine .rounds 90 ?_
 refine .seq (.region (.V bi0 ?_))
 refine .nil (.seqN (.seq ?_))
 refine .cond rfl (fun e => absurd (e.symm.trans rfl) (by decide)) (fun _ => ?_)
 refine .exit (.seqX (.seqX (.blkX (.blkN ?_))))
 refine .more ?_
 refine .sub (s' := [(5, vP pback), (6, .map (some bv2)), (7, vP pv4)]) sb ?_
 refine .sel0 [1, 2, 3, 4, 5, 6, 7, 8, 9] (by decide) rfl ?_
 refine .KA [OwnSl 158 1 a37 0 c8 [], OwnSl 99 2 a15 1 c6 [.int .u32 1, iV 3], Box pv4 [.slice a37 0 c8, .map (some bv3), iV 2], OwnMapI bv3 .u32 (fun v : Value => v) ([] : List (Int × Value)), OwnMapI bv2 .u32 (fun v : Value => v) ([(1, iV 3), (2, iV 0)] : List (Int × Value)), Box pback [.map (some bv)], OwnMapI bv .u32 (fun v : Value => v) ([(2, .slice a15 1 c6)] : List (Int × Value)), MkA (D2 :: D :: []), Box pv [iV 0, iV 0]] ?_
 refine .seq (.seq (.region (.V mv0 ?_)))
 refine .inl Tryz.func49 rfl Tryz.ntmps49 Tryz.call49 rfl rfl rfl rfl (fun a47 q69 => ?_)
 refine .KA [OwnSl 158 1 a37 0 c8 [], OwnSl 99 2 a15 1 c6 [.int .u32 1, iV 3], Box pv4 [.slice a37 0 c8, .map (some bv3), iV 2], OwnMapI bv3 .u32 (fun v : Value => v) ([] : List (Int × Value)), OwnMapI bv2 .u32 (fun v : Value => v) ([(1, iV 3), (2, iV 0)] : List (Int × Value)), Box pback [.map (some bv)], OwnMapI bv .u32 (fun v : Value => v) ([(2, .slice a15 1 c6)] : List (Int × Value)), MkA (D2 :: D :: []), Box pv [iV 0, iV 0]] ?_
 refine .seq (.region (.V ag0 ?_))
 refine .nil (.seqN (.seq (.region (.V mv0 ?_))))
 refine .V (nck rfl) ?_
 refine .V (fa rfl tF157_0) ?_
 refine .V (lB 0 2 tO155) ?_
 refine .V (ln rfl tS155.is) ?_
 refine .V ag0 ?_
 refine .nil (.seqN (.ret ?_))
 refine .res1 rfl (rvT rfl) (inl_back (v := iV 0) q69 rfl ?_)
 refine .V bi0 ?_
 refine .nil (.seqN ?_)
 refine .cond rfl (fun e => absurd (e.symm.trans rfl) (by decide)) (fun _ => ?_)
 refine .exit (.seqX (.seqX (.blkX (.seqN (.seq (.region (.V mv0 ?_)))))))
 refine .V ag0 ?_
 refine .nil (.seqN (.ret ?_))
 refine .resM (k := 7) rfl ?_
 refine .res1 rfl (rvT rfl) (inl_back (v := .map (some bv2)) q33 rfl ?_)
 refine .V mv0 ?_
 refine .inl Tryz.func22 rfl Tryz.ntmps22 Tryz.call22 rfl rfl rfl rfl (fun a48 q70 => ?_)
 refine .sel0 [4, 8] (by decide) rfl ?_
 refine .KA [OwnMapI bv2 .u32 (fun v : Value => v) ([(1, iV 3), (2, iV 0)] : List (Int × Value)), Box pv [iV 0, iV 0]] ?_
 refine .seq (.region (.V ag0 ?_))
 refine .nil (.seqN (.seq (.region (.V mv0 ?_))))
 refine .V (nck rfl) ?_
 refine .V (fa rfl tF105_0) ?_
 refine .V (ld1 (v := .int .u32 1) rfl tO62 (cellH (CellsAt.mono (FH.le_refl _) q0 0 _ rfl))) ?_
 refine .V ag0 ?_
 refine .nil (.seqN (.ret ?_))
 refine .res1 rfl (rvT rfl) (inl_back (v := .int .u32 1) q70 rfl ?_)
 refine .V (lkI (enc := fun v : Value => v) (m := ([(1, iV 3), (2, iV 0)] : List (Int × Value))) (k := 1) (iV 0) tMR60 rfl rfl (q := 0) rfl) ?_
 refine .V (bld (cs := #[iV 0, iV 0]) (pv := []) tB27 rfl rfl) ?_
 refine .V ag0 ?_
 refine st (p := pv) (off := 0) (k := 1) (vs := [iV 0, iV 0]) rfl rfl rfl (fun w => (tA27 w).2) rfl rfl rfl rfl ?_
 refine .nil (.seqN (.ret ?_))
 refine .res2 rfl (rvT rfl) (rvC rfl tA27 (k := 1) rfl rfl) (fun w' S => ⟨(3, (⟨0, 0⟩ : Fault)), hF, rfl, S.below⟩)
theorem c_optimalK {h : FH} {w : World} (hs : Sub h w) (t : Task) (at_ : Option Addr) (ct : Nat) (_q1 : RSl h at_ t.init) (_q2 : t.init.length ≤ ct) (at_2 : Option Addr) (ct2 : Nat) (_q3 : RSl h at_2 t.goal) (_q4 : t.goal.length ≤ ct2) (at_3 : Option Addr) (ct3 : Nat) (_q5 : RSl h at_3 t.ops) (_q6 : t.ops.length ≤ ct3) (hp : pre_optimalK t) : Calls Tryz.prog 7 #[.agg #[iV t.facts, .slice at_ t.init.length ct, .slice at_2 t.goal.length ct2, .slice at_3 t.ops.length ct3]] w fun e w' => e = .returned (.tuple #[iV (sp_optimalK t).1, .agg #[iV (sp_optimalK t).2.code, iV (sp_optimalK t).2.index]]) ∧ Below w.heap.size w w' :=
 (w_optimalK hs t at_ ct _q1 _q2 at_2 ct2 _q3 _q4 at_3 ct3 _q5 _q6 (fun r => r = sp_optimalK t) (ok_optimalK t hp)).mono fun _ _ ⟨_, hk, he, hb⟩ => ⟨by rw [he, hk], hb⟩
theorem w_kernWorks {h : FH} {w : World} (hs : Sub h w) (K : Bool → Prop) (hF : F_kernWorks  K) : Calls Tryz.prog 6 #[] w fun e w' => ∃ r : Bool, K r ∧ e = .returned (.bool r) ∧ Below w.heap.size w w' := by
 refine enter (args := []) Tryz.func6 rfl Tryz.ntmps6 rfl hs ?_
 refine .seq (.region (.V ag0 ?_))
 refine .nil (.seqN (.seq (.region ?_)))
 refine .inl Tryz.func18 rfl Tryz.ntmps18 Tryz.call18 rfl rfl rfl rfl (fun a q0 => ?_)
 refine .KA [] ?_
 refine .seq (.region ?_)
 refine al tZ25 rfl (fun pv => ?_)
 refine .nil (.seqN (.seq (.region ?_)))
 refine bs2 (cs := #[iV 0]) (pv := [(0, iV 0)]) tS22 rfl rfl (by decide) (by decide) rfl rfl rfl (fun a2 q46 => ?_)
 refine bs2 (cs := #[iV 1]) (pv := [(0, iV 1)]) tS22 rfl rfl (by decide) (by decide) rfl rfl rfl (fun a3 q47 => ?_)
 refine bs2 (cs := #[iV 0]) (pv := [(0, iV 0)]) tS22 rfl rfl (by decide) (by decide) rfl rfl rfl (fun a4 q48 => ?_)
 refine bs2 (cs := #[iV 1]) (pv := [(0, iV 1)]) tS22 rfl rfl (by decide) (by decide) rfl rfl rfl (fun a5 q49 => ?_)
 refine bs2 (cs := #[iV 0]) (pv := [(0, iV 0)]) tS22 rfl rfl (by decide) (by decide) rfl rfl rfl (fun a6 q50 => ?_)
 refine .V (bld (cs := #[.slice a4 1 1, .slice a5 1 1, .slice a6 1 1, iV 3]) (pv := [(0, .slice a4 1 1), (1, .slice a5 1 1), (2, .slice a6 1 1), (3, iV 3)]) tB52 rfl rfl) ?_
 refine bs2 (cs := #[.slice a4 1 1, .slice a5 1 1, .slice a6 1 1, iV 3]) (pv := [(0, .agg #[.slice a4 1 1, .slice a5 1 1, .slice a6 1 1, iV 3])]) tS23 rfl rfl (by decide) (by decide) rfl rfl rfl (fun a7 q51 => ?_)
 refine .V (bld (cs := #[iV 2, .slice a2 1 1, .slice a3 1 1, .slice a7 1 1]) (pv := [(0, iV 2), (1, .slice a2 1 1), (2, .slice a3 1 1), (3, .slice a7 1 1)]) tB25 rfl rfl) ?_
 refine st (p := pv) (off := 0) (k := 6) (vs := [iV 2, .slice a2 1 1, .slice a3 1 1, .slice a7 1 1]) rfl rfl rfl (fun w => (tA25 w).2) rfl rfl rfl rfl ?_
 refine .nil (.seqN (.ret ?_))
 refine .res1 rfl (rvC rfl tA25 (k := 6) rfl rfl) (inl_back (v := .agg #[iV 2, .slice a2 1 1, .slice a3 1 1, .slice a7 1 1]) q0 rfl ?_)
 refine .KA [OwnSl 52 4 a7 1 1 [.slice a4 1 1, .slice a5 1 1, .slice a6 1 1, iV 3], OwnSl 3 1 a6 1 1 [iV 0], OwnSl 3 1 a5 1 1 [iV 1], OwnSl 3 1 a4 1 1 [iV 0], OwnSl 3 1 a3 1 1 [iV 1], OwnSl 3 1 a2 1 1 [iV 0], Box pv [iV 2, .slice a2 1 1, .slice a3 1 1, .slice a7 1 1]] ?_
 refine .freezeL (k := 5) rfl (fun h1 le1 q1 q2 => ?_)
 have q3 : RSl h1 a2 ([0] : List Int) := (RSl.of (xs := ([0] : List Int)) q2)
 refine .freezeL (k := 4) rfl (fun h2 le2 q4 q5 => ?_)
 have q6 : RSl h2 a3 ([1] : List Int) := (RSl.of (xs := ([1] : List Int)) q5)
 refine .freezeL (k := 3) rfl (fun h3 le3 q7 q8 => ?_)
 have q9 : RSl h3 a4 ([0] : List Int) := (RSl.of (xs := ([0] : List Int)) q8)
 refine .freezeL (k := 2) rfl (fun h4 le4 q10 q11 => ?_)
 have q12 : RSl h4 a5 ([1] : List Int) := (RSl.of (xs := ([1] : List Int)) q11)
 refine .freezeL (k := 1) rfl (fun h5 le5 q13 q14 => ?_)
 have q15 : RSl h5 a6 ([0] : List Int) := (RSl.of (xs := ([0] : List Int)) q14)
 refine .freezeL (k := 0) rfl (fun h6 le6 q16 q17 => ?_)
 have q18 : RSl h6 a7 ([(⟨([0] : List Int), ([1] : List Int), ([0] : List Int), 3⟩ : Operator)] : List Operator) := (show RSl h6 a7 ([(⟨([0] : List Int), ([1] : List Int), ([0] : List Int), 3⟩ : Operator)] : List Operator) from ⟨_, RepL.mono (le6) (show RepL h5 ([(⟨([0] : List Int), ([1] : List Int), ([0] : List Int), 3⟩ : Operator)] : List Operator) [.slice a4 1 1, .slice a5 1 1, .slice a6 1 1, iV 3] from ⟨[.slice a4 1 1, .slice a5 1 1, .slice a6 1 1, iV 3], _, rfl, ⟨a4, 1, a5, 1, a6, 1, rfl, ⟨(show ([0] : List Int).length ≤ 1 from q7), (q9.mono (FH.le_trans (le4) (le5)))⟩, ⟨(show ([1] : List Int).length ≤ 1 from q10), (q12.mono (le5))⟩, ⟨(show ([0] : List Int).length ≤ 1 from q13), q15⟩⟩, rfl⟩), q17⟩)
 obtain ⟨q19, hF⟩ := hF
 obtain ⟨r2, q20⟩ : ∃ y_ : Int × Fault, y_ = sp_optimalK (⟨2, ([0] : List Int), ([1] : List Int), ([(⟨([0] : List Int), ([1] : List Int), ([0] : List Int), 3⟩ : Operator)] : List Operator)⟩ : Task) := ⟨_, rfl⟩
 replace hF := hF r2 q20
 have q21 : sp_optimalK (⟨2, ([0] : List Int), ([1] : List Int), ([(⟨([0] : List Int), ([1] : List Int), ([0] : List Int), 3⟩ : Operator)] : List Operator)⟩ : Task) = (3, (⟨0, 0⟩ : Fault)) := by decide +kernel
 refine .C (cl (v := .tuple #[iV 3, .agg #[iV 0, iV 0]]) Tryz.call7 rfl rfl (fun w S => (by have h_ := c_optimalK S.sub (⟨2, ([0] : List Int), ([1] : List Int), ([(⟨([0] : List Int), ([1] : List Int), ([0] : List Int), 3⟩ : Operator)] : List Operator)⟩ : Task) a2 1 (q3.mono (FH.le_trans (FH.le_trans (FH.le_trans (FH.le_trans (le2) (le3)) (le4)) (le5)) (le6))) (show ([0] : List Int).length ≤ 1 from q1) a3 1 (q6.mono (FH.le_trans (FH.le_trans (FH.le_trans (le3) (le4)) (le5)) (le6))) (show ([1] : List Int).length ≤ 1 from q4) a7 1 q18 (show ([(⟨([0] : List Int), ([1] : List Int), ([0] : List Int), 3⟩ : Operator)] : List Operator).length ≤ 1 from q16) q19; rw [q21] at h_; exact h_))) ?_
 refine .V mv0 ?_
 refine .V (ext rfl rfl) ?_
 refine .V (ext rfl rfl) ?_
 refine al tZ27 rfl (fun pf => ?_)
 refine .V ag0 ?_
 refine st (p := pf) (off := 0) (k := 0) (vs := [iV 0, iV 0]) rfl rfl rfl (fun w => (tA27 w).2) rfl rfl rfl rfl ?_
 refine .nil (.seqN (.seq (.region ?_)))
 refine .inl Tryz.func18 rfl Tryz.ntmps18 Tryz.call18 rfl rfl rfl rfl (fun a8 q22 => ?_)
 refine .sel0 [0] (by decide) rfl ?_
 refine .KA [Box pf [iV 0, iV 0]] ?_
 refine .seq (.region ?_)
 refine al tZ25 rfl (fun pv2 => ?_)
 refine .nil (.seqN (.seq (.region ?_)))
 refine bs2 (cs := #[iV 0]) (pv := [(0, iV 0)]) tS22 rfl rfl (by decide) (by decide) rfl rfl rfl (fun a9 q52 => ?_)
 refine bs2 (cs := #[iV 1]) (pv := [(0, iV 1)]) tS22 rfl rfl (by decide) (by decide) rfl rfl rfl (fun a10 q53 => ?_)
 refine bs2 (cs := #[iV 0]) (pv := [(0, iV 0)]) tS22 rfl rfl (by decide) (by decide) rfl rfl rfl (fun a11 q54 => ?_)
 refine bs2 (cs := #[iV 1]) (pv := [(0, iV 1)]) tS22 rfl rfl (by decide) (by decide) rfl rfl rfl (fun a12 q55 => ?_)
 refine bs2 (cs := #[iV 0]) (pv := [(0, iV 0)]) tS22 rfl rfl (by decide) (by decide) rfl rfl rfl (fun a13 q56 => ?_)
 refine .V (bld (cs := #[.slice a11 1 1, .slice a12 1 1, .slice a13 1 1, iV 3]) (pv := [(0, .slice a11 1 1), (1, .slice a12 1 1), (2, .slice a13 1 1), (3, iV 3)]) tB52 rfl rfl) ?_
 refine bs2 (cs := #[.slice a11 1 1, .slice a12 1 1, .slice a13 1 1, iV 3]) (pv := [(0, .agg #[.slice a11 1 1, .slice a12 1 1, .slice a13 1 1, iV 3])]) tS23 rfl rfl (by decide) (by decide) rfl rfl rfl (fun a14 q57 => ?_)
 refine .V (bld (cs := #[iV 2, .slice a9 1 1, .slice a10 1 1, .slice a14 1 1]) (pv := [(0, iV 2), (1, .slice a9 1 1), (2, .slice a10 1 1), (3, .slice a14 1 1)]) tB25 rfl rfl) ?_
 refine st (p := pv2) (off := 0) (k := 6) (vs := [iV 2, .slice a9 1 1, .slice a10 1 1, .slice a14 1 1]) rfl rfl rfl (fun w => (tA25 w).2) rfl rfl rfl rfl ?_
 refine .nil (.seqN (.ret ?_))
 refine .res1 rfl (rvC rfl tA25 (k := 6) rfl rfl) (inl_back (v := .agg #[iV 2, .slice a9 1 1, .slice a10 1 1, .slice a14 1 1]) q22 rfl ?_)
 refine .KA [OwnSl 52 4 a14 1 1 [.slice a11 1 1, .slice a12 1 1, .slice a13 1 1, iV 3], OwnSl 3 1 a13 1 1 [iV 0], OwnSl 3 1 a12 1 1 [iV 1], OwnSl 3 1 a11 1 1 [iV 0], OwnSl 3 1 a10 1 1 [iV 1], OwnSl 3 1 a9 1 1 [iV 0], Box pv2 [iV 2, .slice a9 1 1, .slice a10 1 1, .slice a14 1 1], Box pf [iV 0, iV 0]] ?_
 refine bs2 (cs := #[iV 0]) (pv := [(0, iV 0)]) tS22 rfl rfl (by decide) (by decide) rfl rfl rfl (fun a15 q58 => ?_)
 refine .freezeL (k := 6) rfl (fun h7 le7 q23 q24 => ?_)
 have q25 : RSl h7 a9 ([0] : List Int) := (RSl.of (xs := ([0] : List Int)) q24)
 refine .freezeL (k := 5) rfl (fun h8 le8 q26 q27 => ?_)
 have q28 : RSl h8 a10 ([1] : List Int) := (RSl.of (xs := ([1] : List Int)) q27)
 refine .freezeL (k := 4) rfl (fun h9 le9 q29 q30 => ?_)
 have q31 : RSl h9 a11 ([0] : List Int) := (RSl.of (xs := ([0] : List Int)) q30)
 refine .freezeL (k := 3) rfl (fun h10 le10 q32 q33 => ?_)
 have q34 : RSl h10 a12 ([1] : List Int) := (RSl.of (xs := ([1] : List Int)) q33)
 refine .freezeL (k := 2) rfl (fun h11 le11 q35 q36 => ?_)
 have q37 : RSl h11 a13 ([0] : List Int) := (RSl.of (xs := ([0] : List Int)) q36)
 refine .freezeL (k := 1) rfl (fun h12 le12 q38 q39 => ?_)
 have q40 : RSl h12 a14 ([(⟨([0] : List Int), ([1] : List Int), ([0] : List Int), 3⟩ : Operator)] : List Operator) := (show RSl h12 a14 ([(⟨([0] : List Int), ([1] : List Int), ([0] : List Int), 3⟩ : Operator)] : List Operator) from ⟨_, RepL.mono (le12) (show RepL h11 ([(⟨([0] : List Int), ([1] : List Int), ([0] : List Int), 3⟩ : Operator)] : List Operator) [.slice a11 1 1, .slice a12 1 1, .slice a13 1 1, iV 3] from ⟨[.slice a11 1 1, .slice a12 1 1, .slice a13 1 1, iV 3], _, rfl, ⟨a11, 1, a12, 1, a13, 1, rfl, ⟨(show ([0] : List Int).length ≤ 1 from q29), (q31.mono (FH.le_trans (le10) (le11)))⟩, ⟨(show ([1] : List Int).length ≤ 1 from q32), (q34.mono (le11))⟩, ⟨(show ([0] : List Int).length ≤ 1 from q35), q37⟩⟩, rfl⟩), q39⟩)
 refine .freezeL (k := 0) rfl (fun h13 le13 q41 q42 => ?_)
 have q43 : RSl h13 a15 ([0] : List Int) := (RSl.of (xs := ([0] : List Int)) q42)
 refine .KA [tru, tru, tru, tru, tru, tru, tru, Box pv2 [iV 2, .slice a9 1 1, .slice a10 1 1, .slice a14 1 1], Box pf [iV 0, iV 0]] ?_
 obtain ⟨r3, q44⟩ : ∃ y_ : Bool × Fault, y_ = sp_solves (⟨2, ([0] : List Int), ([1] : List Int), ([(⟨([0] : List Int), ([1] : List Int), ([0] : List Int), 3⟩ : Operator)] : List Operator)⟩ : Task) ([0] : List Int) := ⟨_, rfl⟩
 replace hF := hF r3 q44
 have q45 : sp_solves (⟨2, ([0] : List Int), ([1] : List Int), ([(⟨([0] : List Int), ([1] : List Int), ([0] : List Int), 3⟩ : Operator)] : List Operator)⟩ : Task) ([0] : List Int) = (true, (⟨0, 0⟩ : Fault)) := by decide +kernel
 refine .C (cl (v := .tuple #[.bool true, .agg #[iV 0, iV 0]]) Tryz.call19 rfl rfl (fun w S => (by have h_ := c_solves S.sub (⟨2, ([0] : List Int), ([1] : List Int), ([(⟨([0] : List Int), ([1] : List Int), ([0] : List Int), 3⟩ : Operator)] : List Operator)⟩ : Task) a9 1 (q25.mono (FH.le_trans (FH.le_trans (FH.le_trans (FH.le_trans (FH.le_trans (le8) (le9)) (le10)) (le11)) (le12)) (le13))) (show ([0] : List Int).length ≤ 1 from q23) a10 1 (q28.mono (FH.le_trans (FH.le_trans (FH.le_trans (FH.le_trans (le9) (le10)) (le11)) (le12)) (le13))) (show ([1] : List Int).length ≤ 1 from q26) a14 1 (q40.mono (le13)) (show ([(⟨([0] : List Int), ([1] : List Int), ([0] : List Int), 3⟩ : Operator)] : List Operator).length ≤ 1 from q38) ([0] : List Int) a15 1 q43 (show ([0] : List Int).length ≤ 1 from q41) ; rw [q45] at h_; exact h_))) ?_
 refine .V mv0 ?_
 refine .V (ext rfl rfl) ?_
 refine .V (ext rfl rfl) ?_
 refine al tZ27 rfl (fun pg => ?_)
 refine .V ag0 ?_
 refine st (p := pg) (off := 0) (k := 0) (vs := [iV 0, iV 0]) rfl rfl rfl (fun w => (tA27 w).2) rfl rfl rfl rfl ?_
 refine .nil (.seqN (.seq (.region (.V (fa rfl tF27_0) ?_))))
 refine .V (lB 0 9 tO3) ?_
 refine .V bi0 ?_
 refine .V mv0 ?_
 refine .gv (fa rfl tF27_0) rfl rfl rfl rfl rfl rfl ?_
 refine .gv (lB 0 0 tO3) rfl rfl rfl rfl rfl rfl ?_
 refine .gv bi0 rfl rfl rfl rfl rfl rfl ?_
 refine .V (pkT rfl rfl rfl) ?_
 refine .V mv0 ?_
 refine .gv mv0 rfl rfl rfl rfl rfl rfl ?_
 refine .gv bi0 rfl rfl rfl rfl rfl rfl ?_
 refine .V (pkT rfl rfl rfl) ?_
 refine .V mv0 ?_
 refine .gv mv0 rfl rfl rfl rfl rfl rfl ?_
 refine .V (pkT rfl rfl rfl) ?_
 refine .V ag0 ?_
 refine .nil (.seqN (.ret ?_))
 refine .res1 rfl (rvT rfl) (fun w' S => ⟨true, hF, rfl, S.below⟩)
theorem c_kernWorks {h : FH} {w : World} (hs : Sub h w) : Calls Tryz.prog 6 #[] w fun e w' => e = .returned (.bool (sp_kernWorks)) ∧ Below w.heap.size w w' :=
 (w_kernWorks hs  (fun r => r = sp_kernWorks) (ok_kernWorks )).mono fun _ _ ⟨_, hk, he, hb⟩ => ⟨by rw [he, hk], hb⟩
end Go.Proofs.YtimillpakjgnoaaGreat.Pl

