import Derived.Test.YtimillpakjgnoaaGreatM1
import Derived.Test.YtimillpakjgnoaaGreatM4
namespace Go.Proofs.YtimillpakjgnoaaGreat.Pl
open Go Go.RowKit
theorem w_index {h : FH} {w : World} (hs : Sub h w) (s_ : List Int) (as_ : Option Addr) (cs_ : Nat) (_q1 : RSl h as_ s_) (_q2 : s_.length ≤ cs_) (v : Int) (K : Int → Prop) (hF : F_index s_ v K) : Calls Tryz.prog 116 #[.slice as_ s_.length cs_, iV v] w fun e w' => ∃ r : Int, K r ∧ e = .returned (iV r) ∧ Below w.heap.size w w' := by
 refine enter (args := [vSl as_ s_ cs_, iV v]) Tryz.func116 rfl Tryz.ntmps116 rfl hs ?_
 refine .seq (.region (.V ag0 ?_))
 refine .nil (.seqN (.seq (.seq (.region (.V mv0 ?_)))))
 refine .V (ln rfl tS22.is) ?_
 refine .V mv0 ?_
 refine .nil (.seqN (.block ?_))
 obtain ⟨I1, μ1, q0, q4⟩ := hF
 refine .loop' (σ := Int) (fun z => I1 z) (fun z => μ1 z) (fun z => [(0, vSl as_ s_ cs_), (1, iV v), (7, iV ((s_.length : Nat) : Int)), (8, iV z)]) (fun _ => []) (fun _ => h) 0 q0 sb rfl (FH.le_refl _) ?_
 rintro t8 q0
 have hF := q4 t8 q0
 show J _ _ _ _ _ [(0, vSl as_ s_ cs_), (1, iV v), (7, iV ((s_.length : Nat) : Int)), (8, iV t8)] [] h
 refine .seq (.region (.V bi0 ?_))
 refine .nil (.seqN (.seq ?_))
 refine .cond rfl (fun q1 => ?_) (fun q1 => ?_)
 ·replace hF := hF.1 q1
  refine .skip (.seqN (.seq (.block (.seq (.region (.V mv0 ?_))))))
  refine .V ag0 ?_
  refine .nil (.seqN (.seq (.region (.V mv0 ?_))))
  refine .V mv0 ?_
  refine .V mv0 ?_
  obtain ⟨q2, hF⟩ := hF
  refine .V (ix rfl rfl tS22 (_q1.ne (by decide) (inb_pos q2)) q2) ?_
  refine .V (ld1 (v := iV (gt s_ t8)) rfl tO3 (cellH (_q1.elemF q2 (by decide) 0 _ rfl))) ?_
  refine .V bi0 ?_
  refine .nil (.seqN ?_)
  refine .cond rfl (fun q3 => ?_) (fun q3 => ?_)
  ·replace hF := hF.1 q3
   refine .seq (.region (.V mv0 ?_))
   refine .V ag0 ?_
   refine .nil (.seqN (.ret (.blkR (.seqR (.seqR (.blkR (.seqR ?_)))))))
   refine .res1 rfl (rvT rfl) (fun w' S => ⟨t8, hF, rfl, S.below⟩)
  replace hF := hF.2 q3
  refine .skip (.blkN (.seqN (.region (.V bi0 ?_))))
  refine .V mv0 ?_
  refine .nil ?_
  exact .RO (wr (t8 + 1)) hF.1 hF.2
 replace hF := hF.2 q1
 refine .exit (.seqX (.seqX (.blkX (.seqN (.seq (.region (.V ag0 ?_)))))))
 refine .nil (.seqN (.ret ?_))
 refine .res1 rfl (rvT rfl) (fun w' S => ⟨(-1), hF, rfl, S.below⟩)
theorem c_index {h : FH} {w : World} (hs : Sub h w) (s_ : List Int) (as_ : Option Addr) (cs_ : Nat) (_q1 : RSl h as_ s_) (_q2 : s_.length ≤ cs_) (v : Int) (hp : pre_index s_ v) : Calls Tryz.prog 116 #[.slice as_ s_.length cs_, iV v] w fun e w' => e = .returned (iV (sp_index s_ v)) ∧ Below w.heap.size w w' :=
 (w_index hs s_ as_ cs_ _q1 _q2 v (fun r => r = sp_index s_ v) (ok_index s_ v hp)).mono fun _ _ ⟨_, hk, he, hb⟩ => ⟨by rw [he, hk], hb⟩
theorem w_contains {h : FH} {w : World} (hs : Sub h w) (s_ : List Int) (as_ : Option Addr) (cs_ : Nat) (_q1 : RSl h as_ s_) (_q2 : s_.length ≤ cs_) (v : Int) (K : Bool → Prop) (hF : F_contains s_ v K) : Calls Tryz.prog 89 #[.slice as_ s_.length cs_, iV v] w fun e w' => ∃ r : Bool, K r ∧ e = .returned (.bool r) ∧ Below w.heap.size w w' := by
 refine enter (args := [vSl as_ s_ cs_, iV v]) Tryz.func89 rfl Tryz.ntmps89 rfl hs ?_
 refine .seq (.region (.V ag0 ?_))
 refine .nil (.seqN (.seq (.region (.V mv0 ?_))))
 refine .V mv0 ?_
 obtain ⟨q1, hF⟩ := hF
 obtain ⟨r2, q0⟩ : ∃ y_ : Int, y_ = sp_index s_ v := ⟨_, rfl⟩
 replace hF := hF r2 q0
 refine .C (cl (v := iV r2) Tryz.call116 rfl rfl (fun w S => (by rw [q0]; exact c_index S.sub s_ as_ cs_ _q1 _q2 v q1))) ?_
 refine .V bi0 ?_
 refine .V ag0 ?_
 refine .nil (.seqN (.ret ?_))
 refine .res1 rfl (rvT rfl) (fun w' S => ⟨decide (0 ≤ r2), hF, rfl, S.below⟩)
theorem c_contains {h : FH} {w : World} (hs : Sub h w) (s_ : List Int) (as_ : Option Addr) (cs_ : Nat) (_q1 : RSl h as_ s_) (_q2 : s_.length ≤ cs_) (v : Int) (hp : pre_index s_ v) : Calls Tryz.prog 89 #[.slice as_ s_.length cs_, iV v] w fun e w' => e = .returned (.bool (sp_contains s_ v)) ∧ Below w.heap.size w w' :=
 (w_contains hs s_ as_ cs_ _q1 _q2 v (fun r => r = sp_contains s_ v) (ok_contains s_ v hp)).mono fun _ _ ⟨_, hk, he, hb⟩ => ⟨by rw [he, hk], hb⟩
theorem w_reverse {h : FH} {w : World} (hs : Sub h w) (s_ : List Int) (as_ : Option Addr) (cs_ : Nat) {gX : FH} (ownX : OwnSl 3 1 as_ s_.length cs_ (flL s_) gX) (subX : Sub gX w) (disX : Disj h gX) (K : (List Int) → Prop) (hF : F_reverse s_ K) : Calls Tryz.prog 84 #[.slice as_ s_.length cs_] w fun e w' => ∃ r : List Int, K r ∧ e = .returned (.tuple #[]) ∧ SH (Kp.ex w h gX) h w' [OwnSl 3 1 as_ s_.length cs_ (flL r)] := by
 refine enterX (X := oL 3 1 as_ s_ cs_) (args := [vSl as_ s_ cs_]) Tryz.func84 rfl Tryz.ntmps84 rfl hs subX disX ownX ?_
 refine .seq (.region (.V mv0 ?_))
 refine .V (ln rfl tS22.is) ?_
 refine .V bi0 ?_
 refine .V ag0 ?_
 refine .V ag0 ?_
 refine .nil (.seqN (.block ?_))
 obtain ⟨I1, μ1, q3, q9⟩ := hF
 refine .loop' (σ := Int × Int × List Int) (fun z => I1 z.1 z.2.1 z.2.2 ∧ z.2.2.length = s_.length) (fun z => μ1 z.1 z.2.1 z.2.2) (fun z => [(0, vSl as_ s_ cs_), (2, iV z.1), (3, iV z.2.1)]) (fun z => [OwnSl 3 1 as_ s_.length cs_ (flL z.2.2)]) (fun _ => h) (0, wr (((s_.length : Nat) : Int) - 1), s_) ⟨q3, rfl⟩ sb rfl (FH.le_refl _) ?_
 rintro ⟨i, j, s_2⟩ ⟨q3, q1⟩
 have hF := q9 i j s_2 q3
 show J _ _ _ _ _ [(0, vSl as_ s_ cs_), (2, iV i), (3, iV j)] [OwnSl 3 1 as_ s_.length cs_ (flL s_2)] h
 refine .seq (.seq (.region (.V mv0 ?_)))
 refine .V mv0 ?_
 refine .V bi0 ?_
 refine .nil (.seqN ?_)
 refine .cond rfl (fun q4 => ?_) (fun q4 => ?_)
 ·replace hF := hF.1 q4
  refine .skip (.seqN (.seq (.block ?_)))
  obtain ⟨q8, q0, hF⟩ := hF
  refine .OA (s0 := [(0, vSl as_ s_ cs_), (2, iV i), (3, iV j)]) [0, 1, 2, 3, 4, 5, 6, 7, 8, 9, 10, 11, 12] [(0, vSl as_ s_ cs_), (1, iV i), (2, vSl as_ s_ cs_), (3, iV j), (4, vSl as_ s_ cs_), (5, iV j), (6, vP (ead as_ (j.toNat * 1))), (7, iV (gt s_2 j)), (8, vSl as_ s_ cs_), (9, iV i), (10, vP (ead as_ (i.toNat * 1))), (11, iV (gt s_2 i)), (12, vP (ead as_ (i.toNat * 1)))] [0, 2, 3] [] ?_
  refine .ST [13] 13 (.w [] rfl mv0 (.w [] rfl mv0 (.w [] rfl mv0 (.w [] rfl mv0 (.w [] rfl mv0 (.w [] rfl mv0 (.w [(18, vSl as_ s_ cs_), (19, iV j)] rfl (ixS rfl rfl tS22 (k := 0) rfl (inb_n q8 q1)) (.w [(20, vP (ead as_ (j.toNat * 1)))] rfl (ld1 (v := iV (gt s_2 j)) rfl tO3 (cellS (k := 0) rfl (flL_get q8 (j := 0) rfl))) (.w [] rfl mv0 (.w [] rfl mv0 (.w [(22, vSl as_ s_ cs_), (23, iV i)] rfl (ixS rfl rfl tS22 (k := 0) rfl (inb_n q0 q1)) (.w [(24, vP (ead as_ (i.toNat * 1)))] rfl (ld1 (v := iV (gt s_2 i)) rfl tO3 (cellS (k := 0) rfl (flL_get q0 (j := 0) rfl))) (.w [(14, vSl as_ s_ cs_), (15, iV i), (14, vSl as_ s_ cs_), (15, iV i), (18, vSl as_ s_ cs_), (19, iV j), (20, vP (ead as_ (j.toNat * 1))), (21, iV (gt s_2 j)), (25, iV (gt s_2 i))] rfl (ixS rfl rfl tS22 (k := 0) rfl (inb_n q0 q1)) (.nil)))))))))))))) (.cons [(26, vP (ead as_ (i.toNat * 1))), (21, iV (gt s_2 j)), (14, vSl as_ s_ cs_), (15, iV i), (18, vSl as_ s_ cs_), (19, iV j), (20, vP (ead as_ (j.toNat * 1))), (21, iV (gt s_2 j)), (25, iV (gt s_2 i))] rfl rfl (fun sL hL => ?_) (.nil))
  obtain ⟨d, q5⟩ : ∃ y_ : List Int, y_ = (s_2.set (i).toNat (gt s_2 j)) := ⟨_, rfl⟩
  replace hF := hF d q5
  refine stS (k := 0) (cs' := flL d) rfl (fun _ => rfl) rfl rfl (fun w => (tO3 w).2) rfl rfl rfl (by rw [← q1]; exact inb_pos q0) (fl_room q0) (by rw [q5]; exact flL_set q0 (gt s_2 j)) ?_
  have q6 : d.length = s_.length := by rw [q5]; exact List.length_set.trans q1
  refine .KA [OwnSl 3 1 as_ s_.length cs_ (flL d)] ?_
  refine .nil ?_
  obtain ⟨q2, hF⟩ := hF
  refine .jaN (M := [12, 7, 0, 1, 4, 5, 6, 11, 10, 8, 9]) (C' := [2, 3, 14]) (pre := [(14, vP (ead as_ (j.toNat * 1)))]) [0, 2, 3] hL rfl rfl rfl rfl rfl (by kernel_rfl) ?_
  refine .ST [15] 15 (.w [] rfl mv0 (.w [] rfl mv0 (.w [(16, vSl as_ s_ cs_), (17, iV j), (14, vSl as_ s_ cs_), (15, iV i), (16, vSl as_ s_ cs_), (17, iV j), (18, vSl as_ s_ cs_), (19, iV j), (20, vP (ead as_ (j.toNat * 1))), (21, iV (gt s_2 j)), (22, vSl as_ s_ cs_), (23, iV i), (24, vP (ead as_ (i.toNat * 1))), (25, iV (gt s_2 i)), (26, vP (ead as_ (i.toNat * 1)))] rfl (ixS rfl rfl tS22 (k := 0) rfl (inb_n q2 q6)) (.nil)))) (.cons [(27, vP (ead as_ (j.toNat * 1))), (25, iV (gt s_2 i)), (14, vSl as_ s_ cs_), (15, iV i), (16, vSl as_ s_ cs_), (17, iV j), (18, vSl as_ s_ cs_), (19, iV j), (20, vP (ead as_ (j.toNat * 1))), (21, iV (gt s_2 j)), (22, vSl as_ s_ cs_), (23, iV i), (24, vP (ead as_ (i.toNat * 1))), (25, iV (gt s_2 i)), (26, vP (ead as_ (i.toNat * 1)))] rfl rfl (fun sL hL => ?_) (.nil))
  obtain ⟨d2, q7⟩ : ∃ y_ : List Int, y_ = (d.set (j).toNat (gt s_2 i)) := ⟨_, rfl⟩
  replace hF := hF d2 q7
  refine stS (k := 0) (cs' := flL d2) rfl (fun _ => rfl) rfl rfl (fun w => (tO3 w).2) rfl rfl rfl (by rw [← q6]; exact inb_pos q2) (fl_room q2) (by rw [q7]; exact flL_set q2 (gt s_2 i)) ?_
  have q10 : d2.length = s_.length := by rw [q7]; exact List.length_set.trans q6
  refine .KA [OwnSl 3 1 as_ s_.length cs_ (flL d2)] ?_
  refine .nil ?_
  refine .jaN (M := [14, 2, 3]) (C' := []) (pre := []) [0, 2, 3] hL rfl rfl rfl rfl rfl (by kernel_rfl) ?_
  refine .LA [(14, vSl as_ s_ cs_), (15, iV i), (16, vSl as_ s_ cs_), (17, iV j), (18, vSl as_ s_ cs_), (19, iV j), (20, vP (ead as_ (j.toNat * 1))), (21, iV (gt s_2 j)), (22, vSl as_ s_ cs_), (23, iV i), (24, vP (ead as_ (i.toNat * 1))), (25, iV (gt s_2 i)), (26, vP (ead as_ (i.toNat * 1))), (27, vP (ead as_ (j.toNat * 1)))] (.nil) ?_
  refine .blkN (.seqN (.region (.V mv0 ?_)))
  refine .V bi0 ?_
  refine .V mv0 ?_
  refine .V bi0 ?_
  refine .V ag0 ?_
  refine .V ag0 ?_
  refine .nil ?_
  exact .RO (wr (i + 1), wr (j - 1), d2) ⟨hF.1, q10⟩ hF.2
 replace hF := hF.2 q4
 refine .exit (.seqX (.seqX (.blkX ?_)))
 refine .res0 (.inr rfl) rfl (fun w' S => ⟨s_2, hF, rfl, S.pick (k := 0) rfl⟩)
theorem c_reverse {h : FH} {w : World} (hs : Sub h w) (s_ : List Int) (as_ : Option Addr) (cs_ : Nat) {gX : FH} (ownX : OwnSl 3 1 as_ s_.length cs_ (flL s_) gX) (subX : Sub gX w) (disX : Disj h gX) (hp : pre_reverse s_) : Calls Tryz.prog 84 #[.slice as_ s_.length cs_] w fun e w' => e = .returned (.tuple #[]) ∧ SH (Kp.ex w h gX) h w' [OwnSl 3 1 as_ s_.length cs_ (flL (sp_reverse s_))] :=
 (w_reverse hs s_ as_ cs_ ownX subX disX (fun r => r = sp_reverse s_) (ok_reverse s_ hp)).mono fun _ _ ⟨r, hk, he, hS⟩ => ⟨he, by rw [← hk]; exact hS⟩
theorem w_shifted {h : FH} {w : World} (hs : Sub h w) (s_ : List Int) (as_ : Option Addr) (cs_ : Nat) (_q1 : RSl h as_ s_) (_q2 : s_.length ≤ cs_) (n_ : Int) (K : (List Int) → Prop) (hF : F_shifted s_ n_ K) : Calls Tryz.prog 17 #[.slice as_ s_.length cs_, iV n_] w fun e w' => ∃ (r : List Int) (z : Option Addr × Nat) (h1 : FH), K r ∧ e = .returned (.slice z.1 r.length z.2) ∧ FH.le h h1 ∧ (RSl h1 z.1 r ∧ r.length ≤ z.2) ∧ SH (Kp.all w h) h1 w' [] := by
 refine enter (args := [vSl as_ s_ cs_, iV n_]) Tryz.func17 rfl Tryz.ntmps17 rfl hs ?_
 refine .seq (.region (.V ag0 ?_))
 refine .nil (.seqN (.seq (.region (.V ag0 ?_))))
 refine .nil (.seqN (.seq (.seq (.region (.V mv0 ?_)))))
 refine .V (ln rfl tS22.is) ?_
 refine .V mv0 ?_
 refine .nil (.seqN (.block ?_))
 refine .nilSl 3 1 ?_
 refine .KA [oL 3 1 none ([] : List Int) 0] ?_
 obtain ⟨I1, μ1, q0, q5⟩ := hF
 refine .loop' (σ := Int × List Int × Option Addr × Nat) (fun z => I1 z.1 z.2.1) (fun z => μ1 z.1 z.2.1) (fun z => [(1, iV n_), (5, vSl z.2.2.1 z.2.1 z.2.2.2), (8, vSl as_ s_ cs_), (9, iV ((s_.length : Nat) : Int)), (10, iV z.1)]) (fun z => [oL 3 1 z.2.2.1 z.2.1 z.2.2.2]) (fun _ => h) (0, ([] : List Int), none, 0) q0 sb rfl (FH.le_refl _) ?_
 rintro ⟨t10, out, aout, cout⟩ q0
 have hF := q5 t10 out q0
 show J _ _ _ _ _ [(1, iV n_), (5, vSl aout out cout), (8, vSl as_ s_ cs_), (9, iV ((s_.length : Nat) : Int)), (10, iV t10)] [oL 3 1 aout out cout] h
 refine .seq (.region (.V bi0 ?_))
 refine .nil (.seqN (.seq ?_))
 refine .cond rfl (fun q1 => ?_) (fun q1 => ?_)
 ·replace hF := hF.1 q1
  refine .skip (.seqN (.seq (.block (.seq (.region ?_)))))
  obtain ⟨q2, hF⟩ := hF
  refine .V (ix rfl rfl tS22 (_q1.ne (by decide) (inb_pos q2)) q2) ?_
  refine .V (ld1 (v := iV (gt s_ t10)) rfl tO3 (cellH (_q1.elemF q2 (by decide) 0 _ rfl))) ?_
  refine .V ag0 ?_
  refine .nil (.seqN (.region (.V mv0 ?_)))
  refine .V mv0 ?_
  refine .V mv0 ?_
  refine .V bi0 ?_
  refine bs2 (cs := #[iV (wr ((gt s_ t10) + n_))]) (pv := [(0, iV (wr ((gt s_ t10) + n_)))]) tS22 rfl rfl (by decide) (by decide) rfl rfl rfl (fun a _ => ?_)
  refine .KA [oL 3 1 a ([wr ((gt s_ t10) + n_)] : List Int) 1, oL 3 1 aout out cout] ?_
  obtain ⟨q4, hF⟩ := hF
  have q3 : out.length + ([wr ((gt s_ t10) + n_)] : List Int).length = ((out ++ ([wr ((gt s_ t10) + n_)] : List Int))).length := len_app rfl rfl
  refine app (k := 1) (news := flL ([wr ((gt s_ t10) + n_)] : List Int)) (cs' := flL (out ++ ([wr ((gt s_ t10) + n_)] : List Int))) (nm := ((out ++ ([wr ((gt s_ t10) + n_)] : List Int))).length) tS22 rfl (by decide) rfl rfl rfl ((flL_len _).trans rfl) (srcS (k := 0) rfl) (flL_one _) (room_of q3 q4).1 (room_of q3 q4).2 q3 (flL_append _ _).symm rfl (fun a2 c => ?_)
  refine .KA [oL 3 1 a ([wr ((gt s_ t10) + n_)] : List Int) 1, oL 3 1 a2 (out ++ ([wr ((gt s_ t10) + n_)] : List Int)) c] ?_
  refine .V ag0 ?_
  refine .nil (.blkN (.seqN (.region (.V bi0 ?_))))
  refine .V mv0 ?_
  refine .nil ?_
  refine .sel0 [1] (by decide) rfl ?_
  exact .RO (wr (t10 + 1), (out ++ ([wr ((gt s_ t10) + n_)] : List Int)), a2, c) hF.1 hF.2
 replace hF := hF.2 q1
 refine .exit (.seqX (.seqX (.blkX (.seqN (.seq (.region (.V mv0 ?_)))))))
 refine .V ag0 ?_
 refine .nil (.seqN ?_)
 refine .freezeL (k := 0) rfl (fun h1 le1 q6 q7 => ?_)
 refine .KA [tru] ?_
 refine .ret ?_
 refine .res1 rfl (rvT rfl) (fun w' S => ⟨out, (aout, cout), h1, hF, rfl, (le1), ⟨(RSl.of q7), (q6)⟩, S.none⟩)
theorem c_shifted {h : FH} {w : World} (hs : Sub h w) (s_ : List Int) (as_ : Option Addr) (cs_ : Nat) (_q1 : RSl h as_ s_) (_q2 : s_.length ≤ cs_) (n_ : Int) (hp : pre_shifted s_ n_) : Calls Tryz.prog 17 #[.slice as_ s_.length cs_, iV n_] w fun e w' => ∃ (z : Option Addr × Nat) (h1 : FH), e = .returned (.slice z.1 (sp_shifted s_ n_).length z.2) ∧ FH.le h h1 ∧ (RSl h1 z.1 (sp_shifted s_ n_) ∧ (sp_shifted s_ n_).length ≤ z.2) ∧ SH (Kp.all w h) h1 w' [] :=
 (w_shifted hs s_ as_ cs_ _q1 _q2 n_ (fun r => r = sp_shifted s_ n_) (ok_shifted s_ n_ hp)).mono fun _ _ ⟨r, z, h1, hk, he, hl, hf, hS⟩ => by subst hk; exact ⟨z, h1, he, hl, hf, hS⟩
set_option maxHeartbeats 8000000 in
theorem w_product {h : FH} {w : World} (hs : Sub h w) (a : Task) (aa : Option Addr) (ca : Nat) (_q1 : RSl h aa a.init) (_q2 : a.init.length ≤ ca) (aa2 : Option Addr) (ca2 : Nat) (_q3 : RSl h aa2 a.goal) (_q4 : a.goal.length ≤ ca2) (aa3 : Option Addr) (ca3 : Nat) (_q5 : RSl h aa3 a.ops) (_q6 : a.ops.length ≤ ca3) (b : Task) (ab : Option Addr) (cb : Nat) (_q7 : RSl h ab b.init) (_q8 : b.init.length ≤ cb) (ab2 : Option Addr) (cb2 : Nat) (_q9 : RSl h ab2 b.goal) (_q10 : b.goal.length ≤ cb2) (ab3 : Option Addr) (cb3 : Nat) (_q11 : RSl h ab3 b.ops) (_q12 : b.ops.length ≤ cb3) (K : (Task × Fault) → Prop) (hF : F_product a b K) : Calls Tryz.prog 5 #[.agg #[iV a.facts, .slice aa a.init.length ca, .slice aa2 a.goal.length ca2, .slice aa3 a.ops.length ca3], .agg #[iV b.facts, .slice ab b.init.length cb, .slice ab2 b.goal.length cb2, .slice ab3 b.ops.length cb3]] w fun e w' => ∃ (r : Task × Fault) (z : Option Addr × Nat × Option Addr × Nat × Option Addr × Nat) (h1 : FH), K r ∧ e = .returned (.tuple #[.agg #[iV r.1.facts, .slice z.1 r.1.init.length z.2.1, .slice z.2.2.1 r.1.goal.length z.2.2.2.1, .slice z.2.2.2.2.1 r.1.ops.length z.2.2.2.2.2], .agg #[iV r.2.code, iV r.2.index]]) ∧ FH.le h h1 ∧ (RSl h1 z.1 r.1.init ∧ r.1.init.length ≤ z.2.1 ∧ RSl h1 z.2.2.1 r.1.goal ∧ r.1.goal.length ≤ z.2.2.2.1 ∧ RSl h1 z.2.2.2.2.1 r.1.ops ∧ r.1.ops.length ≤ z.2.2.2.2.2) ∧ SH (Kp.all w h) h1 w' [] := by
 refine enter (args := [.agg (tF a aa ca aa2 ca2 aa3 ca3).toArray, .agg (tF b ab cb ab2 cb2 ab3 cb3).toArray]) Tryz.func5 rfl Tryz.ntmps5 rfl hs ?_
 refine .seq (.region ?_)
 refine bx (vs := (tF a aa ca aa2 ca2 aa3 ca3)) rfl rfl rfl (fun pa => ?_)
 refine bx (vs := (tF b ab cb ab2 cb2 ab3 cb3)) rfl rfl rfl (fun pb => ?_)
 refine al tZ25 rfl (fun pv => ?_)
 refine al tZ27 rfl (fun pv2 => ?_)
 refine .nil (.seqN (.seq (.seq (.region (.V (ldA (cs := (tF a aa ca aa2 ca2 aa3 ca3)) rfl tA25 rfl (cellsB (off := 0) (k := 3) rfl (m := 4) rfl)) ?_)))))
 obtain ⟨r2, q29⟩ : ∃ y_ : Fault, y_ = sp_validate a := ⟨_, rfl⟩
 replace hF := hF r2 q29
 refine .C (cl (v := .agg #[iV r2.code, iV r2.index]) Tryz.call15 rfl rfl (fun w S => (by rw [q29]; exact c_validate S.sub a aa ca _q1 _q2 aa2 ca2 _q3 _q4 aa3 ca3 _q5 _q6 ))) ?_
 refine al tZ27 rfl (fun pf => ?_)
 refine st (p := pf) (off := 0) (k := 0) (vs := [iV r2.code, iV r2.index]) rfl rfl rfl (fun w => (tA27 w).2) rfl rfl rfl rfl ?_
 refine .nil (.seqN (.seq (.region (.V (ldA (cs := [iV r2.code, iV r2.index]) rfl tA27 rfl (cellsB (off := 0) (k := 0) rfl (m := 2) rfl)) ?_))))
 refine .V (bld (cs := #[iV 0, iV 0]) (pv := []) tB27 rfl rfl) ?_
 refine .V (ne2 tE27 rfl rfl) ?_
 refine .nil (.seqN ?_)
 refine .cond rfl (fun q3 => ?_) (fun q3 => ?_)
 ·replace hF := hF.1 q3
  refine .seq ?_
  refine .OA (s0 := [(4, vP pv), (5, vP pv2), (6, vP pf)]) [0, 1] [(0, .agg #[iV 0, .slice none 0 0, .slice none 0 0, .slice none 0 0]), (1, .agg #[iV r2.code, iV r2.index])] [4, 5, 6] [] ?_
  refine .ST [2] 2 (.w [] rfl (bld (cs := #[iV 0, .slice none 0 0, .slice none 0 0, .slice none 0 0]) (pv := []) tB25 rfl rfl) (.w [] rfl (ldA (cs := [iV r2.code, iV r2.index]) rfl tA27 rfl (cellsB (off := 0) (k := 0) rfl (m := 2) rfl)) (.nil))) (.cons [(17, .agg #[iV 0, .slice none 0 0, .slice none 0 0, .slice none 0 0]), (17, .agg #[iV 0, .slice none 0 0, .slice none 0 0, .slice none 0 0])] rfl rfl (fun sL hL => ?_) (.nil))
  refine st (p := pv) (off := 0) (k := 2) (vs := [iV 0, .slice none 0 0, .slice none 0 0, .slice none 0 0]) rfl rfl rfl (fun w => (tA25 w).2) rfl rfl rfl rfl ?_
  refine .nil ?_
  refine .jaN (M := [0]) (C' := [1]) (pre := []) [4, 5, 6] hL rfl rfl rfl rfl rfl (by kernel_rfl) ?_
  refine .ST [3] 3 (.w [] rfl (ldA (cs := [iV r2.code, iV r2.index]) rfl tA27 rfl (cellsB (off := 0) (k := 0) rfl (m := 2) rfl)) (.nil)) (.cons [(18, .agg #[iV r2.code, iV r2.index]), (17, .agg #[iV 0, .slice none 0 0, .slice none 0 0, .slice none 0 0]), (18, .agg #[iV r2.code, iV r2.index])] rfl rfl (fun sL hL => ?_) (.nil))
  refine st (p := pv2) (off := 0) (k := 1) (vs := [iV r2.code, iV r2.index]) rfl rfl rfl (fun w => (tA27 w).2) rfl rfl rfl rfl ?_
  refine .nil ?_
  refine .jaN (M := [1]) (C' := []) (pre := []) [4, 5, 6] hL rfl rfl rfl rfl rfl (by kernel_rfl) ?_
  refine .LA [(17, .agg #[iV 0, .slice none 0 0, .slice none 0 0, .slice none 0 0]), (18, .agg #[iV r2.code, iV r2.index])] (.nil) ?_
  refine .seqN (.ret (.seqR ?_))
  refine .res2 rfl (rvC rfl tA25 (k := 2) rfl rfl) (rvC rfl tA27 (k := 1) rfl rfl) (fun w' S => ⟨((⟨0, [], [], []⟩ : Task), r2), (none, 0, none, 0, none, 0), h, hF, rfl, (FH.le_refl _), ⟨RSl.nil_, (Nat.le_refl 0), RSl.nil_, (Nat.le_refl 0), RSl.nil_, (Nat.le_refl 0)⟩, S.none⟩)
 replace hF := hF.2 q3
 refine .skip (.seqN (.seq (.seq (.region (.V (ldA (cs := (tF b ab cb ab2 cb2 ab3 cb3)) rfl tA25 rfl (cellsB (off := 0) (k := 3) rfl (m := 4) rfl)) ?_)))))
 obtain ⟨r3, q30⟩ : ∃ y_ : Fault, y_ = sp_validate b := ⟨_, rfl⟩
 replace hF := hF r3 q30
 refine .C (cl (v := .agg #[iV r3.code, iV r3.index]) Tryz.call15 rfl rfl (fun w S => (by rw [q30]; exact c_validate S.sub b ab cb _q7 _q8 ab2 cb2 _q9 _q10 ab3 cb3 _q11 _q12 ))) ?_
 refine al tZ27 rfl (fun pf2 => ?_)
 refine st (p := pf2) (off := 0) (k := 0) (vs := [iV r3.code, iV r3.index]) rfl rfl rfl (fun w => (tA27 w).2) rfl rfl rfl rfl ?_
 refine .nil (.seqN (.seq (.region (.V (ldA (cs := [iV r3.code, iV r3.index]) rfl tA27 rfl (cellsB (off := 0) (k := 0) rfl (m := 2) rfl)) ?_))))
 refine .V (bld (cs := #[iV 0, iV 0]) (pv := []) tB27 rfl rfl) ?_
 refine .V (ne2 tE27 rfl rfl) ?_
 refine .nil (.seqN ?_)
 refine .cond rfl (fun q4 => ?_) (fun q4 => ?_)
 ·replace hF := hF.1 q4
  refine .seq ?_
  refine .OA (s0 := [(4, vP pv), (5, vP pv2), (7, vP pf2)]) [0, 1, 2, 3] [(0, .agg #[iV 0, .slice none 0 0, .slice none 0 0, .slice none 0 0]), (1, vP (pf2.add 0)), (2, iV r3.code), (3, .agg #[iV r3.code, iV (-9)])] [4, 5, 7] [] ?_
  refine .ST [4] 4 (.w [] rfl (bld (cs := #[iV 0, .slice none 0 0, .slice none 0 0, .slice none 0 0]) (pv := []) tB25 rfl rfl) (.w [] rfl (fa rfl tF27_0) (.w [(25, vP (pf2.add 0))] rfl (lB 0 0 tO3) (.w [(26, iV r3.code)] rfl (bld (cs := #[iV r3.code, iV (-9)]) (pv := [(0, iV r3.code), (1, iV (-9))]) tB27 rfl rfl) (.nil))))) (.cons [(24, .agg #[iV 0, .slice none 0 0, .slice none 0 0, .slice none 0 0]), (24, .agg #[iV 0, .slice none 0 0, .slice none 0 0, .slice none 0 0])] rfl rfl (fun sL hL => ?_) (.nil))
  refine st (p := pv) (off := 0) (k := 3) (vs := [iV 0, .slice none 0 0, .slice none 0 0, .slice none 0 0]) rfl rfl rfl (fun w => (tA25 w).2) rfl rfl rfl rfl ?_
  refine .nil ?_
  refine .jaN (M := [0]) (C' := [1, 2, 3]) (pre := []) [4, 5, 7] hL rfl rfl rfl rfl rfl (by kernel_rfl) ?_
  refine .ST [5] 5 (.w [] rfl (fa rfl tF27_0) (.w [(25, vP (pf2.add 0))] rfl (lB 0 0 tO3) (.w [(26, iV r3.code)] rfl (bld (cs := #[iV r3.code, iV (-9)]) (pv := [(0, iV r3.code), (1, iV (-9))]) tB27 rfl rfl) (.nil)))) (.cons [(27, .agg #[iV r3.code, iV (-9)]), (24, .agg #[iV 0, .slice none 0 0, .slice none 0 0, .slice none 0 0]), (25, vP (pf2.add 0)), (26, iV r3.code), (27, .agg #[iV r3.code, iV (-9)])] rfl rfl (fun sL hL => ?_) (.nil))
  refine st (p := pv2) (off := 0) (k := 2) (vs := [iV r3.code, iV (-9)]) rfl rfl rfl (fun w => (tA27 w).2) rfl rfl rfl rfl ?_
  refine .nil ?_
  refine .jaN (M := [3, 1, 2]) (C' := []) (pre := []) [4, 5, 7] hL rfl rfl rfl rfl rfl (by kernel_rfl) ?_
  refine .LA [(24, .agg #[iV 0, .slice none 0 0, .slice none 0 0, .slice none 0 0]), (25, vP (pf2.add 0)), (26, iV r3.code), (27, .agg #[iV r3.code, iV (-9)])] (.nil) ?_
  refine .seqN (.ret (.seqR ?_))
  refine .res2 rfl (rvC rfl tA25 (k := 3) rfl rfl) (rvC rfl tA27 (k := 2) rfl rfl) (fun w' S => ⟨((⟨0, [], [], []⟩ : Task), (⟨r3.code, (-9)⟩ : Fault)), (none, 0, none, 0, none, 0), h, hF, rfl, (FH.le_refl _), ⟨RSl.nil_, (Nat.le_refl 0), RSl.nil_, (Nat.le_refl 0), RSl.nil_, (Nat.le_refl 0)⟩, S.none⟩)
 replace hF := hF.2 q4
 refine .skip (.seqN (.seq (.region (.V (fa rfl tF25_0) ?_))))
 refine .V (lB 0 5 tO3) ?_
 refine .V ag0 ?_
 refine .nil (.seqN (.seq ?_))
 refine .share (σ := Bool) (fun z => F_product_J1 a b K z) (fun z => [(2, vP pa), (3, vP pb), (4, vP pv), (5, vP pv2), (8, iV a.facts), (44, .bool z)]) (fun _ => [Box pa (tF a aa ca aa2 ca2 aa3 ca3), Box pb (tF b ab cb ab2 cb2 ab3 cb3), Box pv [iV 0, .slice none 0 0, .slice none 0 0, .slice none 0 0], Box pv2 [iV 0, iV 0]]) (fun _ => h) ?_ (fun q31 => ?_)
 ·rintro t44 hF
  show J _ _ _ _ _ [(2, vP pa), (3, vP pb), (4, vP pv), (5, vP pv2), (8, iV a.facts), (44, .bool t44)] [Box pa (tF a aa ca aa2 ca2 aa3 ca3), Box pb (tF b ab cb ab2 cb2 ab3 cb3), Box pv [iV 0, .slice none 0 0, .slice none 0 0, .slice none 0 0], Box pv2 [iV 0, iV 0]] h
  refine .cond rfl (fun q5 => ?_) (fun q5 => ?_)
  ·replace hF := hF.1 q5
   refine .seq (.region (.V (bld (cs := #[iV 0, .slice none 0 0, .slice none 0 0, .slice none 0 0]) (pv := []) tB25 rfl rfl) ?_))
   refine .V (bld (cs := #[iV 10, iV (-8)]) (pv := [(0, iV 10), (1, iV (-8))]) tB27 rfl rfl) ?_
   refine st (p := pv) (off := 0) (k := 2) (vs := [iV 0, .slice none 0 0, .slice none 0 0, .slice none 0 0]) rfl rfl rfl (fun w => (tA25 w).2) rfl rfl rfl rfl ?_
   refine st (p := pv2) (off := 0) (k := 3) (vs := [iV 10, iV (-8)]) rfl rfl rfl (fun w => (tA27 w).2) rfl rfl rfl rfl ?_
   refine .nil (.seqN (.ret (.seqR ?_)))
   refine .res2 rfl (rvC rfl tA25 (k := 2) rfl rfl) (rvC rfl tA27 (k := 3) rfl rfl) (fun w' S => ⟨((⟨0, [], [], []⟩ : Task), (⟨10, (-8)⟩ : Fault)), (none, 0, none, 0, none, 0), h, hF, rfl, (FH.le_refl _), ⟨RSl.nil_, (Nat.le_refl 0), RSl.nil_, (Nat.le_refl 0), RSl.nil_, (Nat.le_refl 0)⟩, S.none⟩)
  replace hF := hF.2 q5
  refine .skip (.seqN (.seq (.region (.V (ldA (cs := (tF a aa ca aa2 ca2 aa3 ca3)) rfl tA25 rfl (cellsB (off := 0) (k := 0) rfl (m := 4) rfl)) ?_))))
  refine .inl Tryz.func16 rfl Tryz.ntmps16 Tryz.call16 rfl rfl rfl rfl (fun a2 q54 => ?_)
  refine .seq (.region ?_)
  refine bx (vs := (tF a aa ca aa2 ca2 aa3 ca3)) rfl rfl rfl (fun pt => ?_)
  refine al tZ25 rfl (fun pv3 => ?_)
  refine .nil (.seqN ?_)
  refine .share (σ := List Int × List Int × Addr × Option Addr × Nat × Option Addr × Nat) (fun z => F_product_J2 a b K z.1 z.2.1) (fun z => [(1, vP pt), (2, vP pv3), (3, vP z.2.2.1)]) (fun z => [Box pt (tF a aa ca aa2 ca2 aa3 ca3), Box pv3 [iV 0, .slice none 0 0, .slice none 0 0, .slice none 0 0], Box z.2.2.1 [iV a.facts, vSl z.2.2.2.1 z.1 z.2.2.2.2.1, vSl z.2.2.2.2.2.1 z.2.1 z.2.2.2.2.2.2, .slice none 0 0], Box pb (tF b ab cb ab2 cb2 ab3 cb3), Box pv [iV 0, .slice none 0 0, .slice none 0 0, .slice none 0 0], Box pv2 [iV 0, iV 0], oL 3 1 z.2.2.2.1 z.1 z.2.2.2.2.1, oL 3 1 z.2.2.2.2.2.1 z.2.1 z.2.2.2.2.2.2]) (fun _ => h) ?_ (fun q6 => ?_)
  ·rintro ⟨l, l2, p, al2, cl2, al3, cl3⟩ hF
   show J _ _ _ _ _ [(1, vP pt), (2, vP pv3), (3, vP p)] [Box pt (tF a aa ca aa2 ca2 aa3 ca3), Box pv3 [iV 0, .slice none 0 0, .slice none 0 0, .slice none 0 0], Box p [iV a.facts, vSl al2 l cl2, vSl al3 l2 cl3, .slice none 0 0], Box pb (tF b ab cb ab2 cb2 ab3 cb3), Box pv [iV 0, .slice none 0 0, .slice none 0 0, .slice none 0 0], Box pv2 [iV 0, iV 0], oL 3 1 al2 l cl2, oL 3 1 al3 l2 cl3] h
   refine .seq (.seq (.region (.V (fa rfl tF25_3) ?_)))
   refine .V (lB 3 0 tO23) ?_
   refine .V (ln rfl tS23.is) ?_
   refine .V mv0 ?_
   refine .nil (.seqN (.block ?_))
   refine .nilSl 52 4 ?_
   refine .KA [OwnSl 52 4 none (([] : List Operator).length) 0 [], Box pt (tF a aa ca aa2 ca2 aa3 ca3), Box pv3 [iV 0, .slice none 0 0, .slice none 0 0, .slice none 0 0], Box p [iV a.facts, vSl al2 l cl2, vSl al3 l2 cl3, .slice none 0 0], Box pb (tF b ab cb ab2 cb2 ab3 cb3), Box pv [iV 0, .slice none 0 0, .slice none 0 0, .slice none 0 0], Box pv2 [iV 0, iV 0], oL 3 1 al2 l cl2, oL 3 1 al3 l2 cl3] ?_
   refine .sel0 [2, 3, 4, 5, 6, 7, 8, 0] (by decide) rfl ?_
   obtain ⟨I1, μ1, q7, q55⟩ := hF
   refine .loop' (σ := Int × List Operator × Option Addr × Nat × List Value × FH) (fun z => I1 z.1 z.2.1 ∧ RepL z.2.2.2.2.2 z.2.1 z.2.2.2.2.1 ∧ FH.le h z.2.2.2.2.2) (fun z => μ1 z.1 z.2.1) (fun z => [(2, vP pv3), (3, vP p), (16, vSl aa3 a.ops ca3), (17, iV ((a.ops.length : Nat) : Int)), (18, iV z.1)]) (fun z => [Box pv3 [iV 0, .slice none 0 0, .slice none 0 0, .slice none 0 0], Box p [iV a.facts, vSl al2 l cl2, vSl al3 l2 cl3, vSl z.2.2.1 z.2.1 z.2.2.2.1], Box pb (tF b ab cb ab2 cb2 ab3 cb3), Box pv [iV 0, .slice none 0 0, .slice none 0 0, .slice none 0 0], Box pv2 [iV 0, iV 0], oL 3 1 al2 l cl2, oL 3 1 al3 l2 cl3, OwnSl 52 4 z.2.2.1 z.2.1.length z.2.2.2.1 z.2.2.2.2.1]) (fun z => z.2.2.2.2.2) (0, ([] : List Operator), none, 0, [], h) ⟨q7, (show RepL h ([] : List Operator) [] from rfl), (FH.le_refl _)⟩ sb rfl (FH.le_refl _) ?_
   rintro ⟨t18, l3, al4, cl4, csl, h43⟩ ⟨q7, q32, q1⟩
   have hF := q55 t18 l3 q7
   show J _ _ _ _ _ [(2, vP pv3), (3, vP p), (16, vSl aa3 a.ops ca3), (17, iV ((a.ops.length : Nat) : Int)), (18, iV t18)] [Box pv3 [iV 0, .slice none 0 0, .slice none 0 0, .slice none 0 0], Box p [iV a.facts, vSl al2 l cl2, vSl al3 l2 cl3, vSl al4 l3 cl4], Box pb (tF b ab cb ab2 cb2 ab3 cb3), Box pv [iV 0, .slice none 0 0, .slice none 0 0, .slice none 0 0], Box pv2 [iV 0, iV 0], oL 3 1 al2 l cl2, oL 3 1 al3 l2 cl3, OwnSl 52 4 al4 l3.length cl4 csl] h43
   refine .seq (.region (.V bi0 ?_))
   refine .nil (.seqN (.seq ?_))
   refine .cond rfl (fun q8 => ?_) (fun q8 => ?_)
   ·replace hF := hF.1 q8
    refine .skip (.seqN (.seq (.block (.seq (.region ?_)))))
    obtain ⟨q9, hF⟩ := hF
    refine .V (ix rfl rfl tS23 (_q5.ne (by decide) (inb_pos q9)) q9) ?_
    obtain ⟨_, ⟨a3, c, a4, c2, a5, c3, rfl, ⟨q56, q57⟩, ⟨q58, q59⟩, q60, q61⟩, q62⟩ := _q5.elem q9
    refine .V (ldA (cs := [.slice a3 ((gt a.ops t18).pre.length) c, .slice a4 ((gt a.ops t18).add.length) c2, .slice a5 ((gt a.ops t18).del.length) c3, iV ((gt a.ops t18).cost)]) rfl tA52 rfl (cellsH ((fun q => (q62 q).mono (q1)) (by decide)))) ?_
    refine al tZ52 rfl (fun po => ?_)
    refine st (p := po) (off := 0) (k := 0) (vs := [.slice a3 ((gt a.ops t18).pre.length) c, .slice a4 ((gt a.ops t18).add.length) c2, .slice a5 ((gt a.ops t18).del.length) c3, iV ((gt a.ops t18).cost)]) rfl rfl rfl (fun w => (tA52 w).2) rfl rfl rfl rfl ?_
    refine .nil (.seqN ?_)
    refine .OA (s0 := [(2, vP pv3), (3, vP p), (5, vP po), (16, vSl aa3 a.ops ca3), (17, iV ((a.ops.length : Nat) : Int)), (18, iV t18)]) [0, 1, 2, 3, 5, 6, 8, 9, 11, 12] [(0, vP (p.add 3)), (1, vSl al4 l3 cl4), (2, vP (po.add 0)), (3, .slice a3 ((gt a.ops t18).pre.length) c), (5, vP (po.add 1)), (6, .slice a4 ((gt a.ops t18).add.length) c2), (8, vP (po.add 2)), (9, .slice a5 ((gt a.ops t18).del.length) c3), (11, vP (po.add 3)), (12, iV ((gt a.ops t18).cost))] [2, 3, 5, 16, 17, 18] [] ?_
    refine .ST [4] 4 (.w [] rfl (fa rfl tF25_3) (.w [(22, vP (p.add 3))] rfl (lB 3 2 tO23) (.w [] rfl (fa rfl tF52_0) (.w [(24, vP (po.add 0))] rfl (lB 0 0 tO22) (.w [] rfl (fa rfl tF52_1) (.w [(27, vP (po.add 1))] rfl (lB 1 0 tO22) (.w [] rfl (fa rfl tF52_2) (.w [(30, vP (po.add 2))] rfl (lB 2 0 tO22) (.w [] rfl (fa rfl tF52_3) (.w [(33, vP (po.add 3))] rfl (lB 3 0 tO3) (.nil))))))))))) (.cons [(25, .slice a3 ((gt a.ops t18).pre.length) c)] rfl rfl (fun sL hL => ?_) (.nil))
    obtain ⟨q63, hF⟩ := hF
    obtain ⟨r4, q33⟩ : ∃ y_ : List Int, y_ = sp_clone ((gt a.ops t18).pre) := ⟨_, rfl⟩
    replace hF := hF r4 q33
    refine clO (α := Option Addr × Nat) (V := fun z => vSl z.1 r4 z.2) (Ψ := fun z => True) (B := fun z => [oL 3 1 z.1 r4 z.2]) Tryz.call26 rfl rfl (fun w S => (by rw [q33]; exact c_cloneO S.sub ((gt a.ops t18).pre) a3 c (q57.mono (q1)) q56 q63)) rfl (fun z _ => ?_)
    obtain ⟨a6, c4⟩ := z
    refine .nil ?_
    refine .ja (M := [3, 2]) (C' := [0, 1, 5, 6, 8, 9, 11, 12]) (pre := [(4, vSl a6 r4 c4)]) [(2, vP pv3), (3, vP p), (5, vP po), (16, vSl aa3 a.ops ca3), (17, iV ((a.ops.length : Nat) : Int)), (18, iV t18)] [2, 3, 5, 16, 17, 18] hL rfl rfl rfl rfl rfl sb rfl rfl (by kernel_rfl) ?_
    refine .ST [7] 7 (.w [] rfl (fa rfl tF25_3) (.w [(22, vP (p.add 3))] rfl (lB 3 3 tO23) (.w [] rfl (fa rfl tF52_1) (.w [(27, vP (po.add 1))] rfl (lB 1 1 tO22) (.w [] rfl (fa rfl tF52_2) (.w [(30, vP (po.add 2))] rfl (lB 2 1 tO22) (.w [] rfl (fa rfl tF52_3) (.w [(33, vP (po.add 3))] rfl (lB 3 1 tO3) (.nil))))))))) (.cons [(28, .slice a4 ((gt a.ops t18).add.length) c2), (26, vSl a6 r4 c4)] rfl rfl (fun sL hL => ?_) (.nil))
    obtain ⟨q64, hF⟩ := hF
    obtain ⟨r5, q34⟩ : ∃ y_ : List Int, y_ = sp_clone ((gt a.ops t18).add) := ⟨_, rfl⟩
    replace hF := hF r5 q34
    refine clO (α := Option Addr × Nat) (V := fun z => vSl z.1 r5 z.2) (Ψ := fun z => True) (B := fun z => [oL 3 1 z.1 r5 z.2]) Tryz.call26 rfl rfl (fun w S => (by rw [q34]; exact c_cloneO S.sub ((gt a.ops t18).add) a4 c2 (q59.mono (q1)) q58 q64)) rfl (fun z _ => ?_)
    obtain ⟨a7, c5⟩ := z
    refine .nil ?_
    refine .ja (M := [6, 5]) (C' := [0, 1, 8, 9, 11, 12]) (pre := [(7, vSl a7 r5 c5)]) [(2, vP pv3), (3, vP p), (5, vP po), (16, vSl aa3 a.ops ca3), (17, iV ((a.ops.length : Nat) : Int)), (18, iV t18)] [2, 3, 5, 16, 17, 18] hL rfl rfl rfl rfl rfl sb rfl rfl (by kernel_rfl) ?_
    refine .ST [10] 10 (.w [] rfl (fa rfl tF25_3) (.w [(22, vP (p.add 3))] rfl (lB 3 4 tO23) (.w [] rfl (fa rfl tF52_2) (.w [(30, vP (po.add 2))] rfl (lB 2 2 tO22) (.w [] rfl (fa rfl tF52_3) (.w [(33, vP (po.add 3))] rfl (lB 3 2 tO3) (.nil))))))) (.cons [(31, .slice a5 ((gt a.ops t18).del.length) c3), (29, vSl a7 r5 c5)] rfl rfl (fun sL hL => ?_) (.nil))
    obtain ⟨q65, hF⟩ := hF
    obtain ⟨r6, q35⟩ : ∃ y_ : List Int, y_ = sp_clone ((gt a.ops t18).del) := ⟨_, rfl⟩
    replace hF := hF r6 q35
    refine clO (α := Option Addr × Nat) (V := fun z => vSl z.1 r6 z.2) (Ψ := fun z => True) (B := fun z => [oL 3 1 z.1 r6 z.2]) Tryz.call26 rfl rfl (fun w S => (by rw [q35]; exact c_cloneO S.sub ((gt a.ops t18).del) a5 c3 (q61.mono (q1)) q60 q65)) rfl (fun z _ => ?_)
    obtain ⟨a8, c6⟩ := z
    refine .nil ?_
    refine .ja (M := [9, 8]) (C' := [0, 1, 11, 12, 13]) (pre := [(10, vSl a8 r6 c6), (13, .agg #[vSl a6 r4 c4, vSl a7 r5 c5, vSl a8 r6 c6, iV ((gt a.ops t18).cost)])]) [(2, vP pv3), (3, vP p), (5, vP po), (16, vSl aa3 a.ops ca3), (17, iV ((a.ops.length : Nat) : Int)), (18, iV t18)] [2, 3, 5, 16, 17, 18] hL rfl rfl rfl rfl rfl sb rfl rfl (by kernel_rfl) ?_
    refine .ST [14] 14 (.w [] rfl (fa rfl tF25_3) (.w [(22, vP (p.add 3))] rfl (lB 3 5 tO23) (.w [] rfl (fa rfl tF52_3) (.w [(33, vP (po.add 3))] rfl (lB 3 3 tO3) (.w [(26, vSl a6 r4 c4), (29, vSl a7 r5 c5), (32, vSl a8 r6 c6), (34, iV ((gt a.ops t18).cost))] rfl (bld (cs := #[vSl a6 r4 c4, vSl a7 r5 c5, vSl a8 r6 c6, iV ((gt a.ops t18).cost)]) (pv := [(0, vSl a6 r4 c4), (1, vSl a7 r5 c5), (2, vSl a8 r6 c6), (3, iV ((gt a.ops t18).cost))]) tB52 rfl rfl) (.nil)))))) (.cons [(35, .agg #[vSl a6 r4 c4, vSl a7 r5 c5, vSl a8 r6 c6, iV ((gt a.ops t18).cost)])] rfl rfl (fun sL hL => ?_) (.nil))
    refine .freezeL (k := 2) rfl (fun h60 le60 q10 q11 => ?_)
    refine .freezeL (k := 1) rfl (fun h61 le61 q12 q13 => ?_)
    refine .freezeL (k := 0) rfl (fun h62 le62 q14 q15 => ?_)
    refine bs2 (cs := #[vSl a6 r4 c4, vSl a7 r5 c5, vSl a8 r6 c6, iV ((gt a.ops t18).cost)]) (pv := [(0, .agg #[vSl a6 r4 c4, vSl a7 r5 c5, vSl a8 r6 c6, iV ((gt a.ops t18).cost)])]) tS23 rfl rfl (by decide) (by decide) rfl rfl rfl (fun a9 _ => ?_)
    refine .KA [OwnSl 52 4 a9 (([(⟨r4, r5, r6, (gt a.ops t18).cost⟩ : Operator)] : List Operator).length) 1 [vSl a6 r4 c4, vSl a7 r5 c5, vSl a8 r6 c6, iV ((gt a.ops t18).cost)], tru, tru, tru, Box po [.slice a3 ((gt a.ops t18).pre.length) c, .slice a4 ((gt a.ops t18).add.length) c2, .slice a5 ((gt a.ops t18).del.length) c3, iV ((gt a.ops t18).cost)], Box pv3 [iV 0, .slice none 0 0, .slice none 0 0, .slice none 0 0], Box p [iV a.facts, vSl al2 l cl2, vSl al3 l2 cl3, vSl al4 l3 cl4], Box pb (tF b ab cb ab2 cb2 ab3 cb3), Box pv [iV 0, .slice none 0 0, .slice none 0 0, .slice none 0 0], Box pv2 [iV 0, iV 0], oL 3 1 al2 l cl2, oL 3 1 al3 l2 cl3, OwnSl 52 4 al4 l3.length cl4 csl] ?_
    refine .nil ?_
    refine .ja (M := [13, 12, 11]) (C' := [0, 1]) (pre := [(14, vSl a9 ([(⟨r4, r5, r6, (gt a.ops t18).cost⟩ : Operator)] : List Operator) 1)]) [(2, vP pv3), (3, vP p), (5, vP po), (16, vSl aa3 a.ops ca3), (17, iV ((a.ops.length : Nat) : Int)), (18, iV t18)] [2, 3, 5, 16, 17, 18] hL rfl rfl rfl rfl rfl sb rfl rfl (by kernel_rfl) ?_
    refine .ST [15] 15 (.w [] rfl (fa rfl tF25_3) (.w [(22, vP (p.add 3))] rfl (lB 3 6 tO23) (.nil))) (.cons [(23, vSl al4 l3 cl4), (36, vSl a9 ([(⟨r4, r5, r6, (gt a.ops t18).cost⟩ : Operator)] : List Operator) 1), (32, vSl a8 r6 c6)] rfl rfl (fun sL hL => ?_) (.nil))
    obtain ⟨q36, hF⟩ := hF
    have q16 : l3.length + ([(⟨r4, r5, r6, (gt a.ops t18).cost⟩ : Operator)] : List Operator).length = ((l3 ++ ([(⟨r4, r5, r6, (gt a.ops t18).cost⟩ : Operator)] : List Operator))).length := len_app rfl rfl
    have q66 := RepL.append (RepL.mono (FH.le_trans (FH.le_trans (le60) (le61)) (le62)) q32) (show RepL h62 ([(⟨r4, r5, r6, (gt a.ops t18).cost⟩ : Operator)] : List Operator) [.slice a6 r4.length c4, .slice a7 r5.length c5, .slice a8 r6.length c6, iV ((gt a.ops t18).cost)] from ⟨[.slice a6 r4.length c4, .slice a7 r5.length c5, .slice a8 r6.length c6, iV ((gt a.ops t18).cost)], _, rfl, ⟨a6, c4, a7, c5, a8, c6, rfl, ⟨(q10), ((RSl.of q11).mono (FH.le_trans (le61) (le62)))⟩, ⟨(q12), ((RSl.of q13).mono (le62))⟩, ⟨(q14), (RSl.of q15)⟩⟩, rfl⟩)
    refine app (k := 12) (news := [vSl a6 r4 c4, vSl a7 r5 c5, vSl a8 r6 c6, iV ((gt a.ops t18).cost)]) (cs' := (csl ++ [vSl a6 r4 c4, vSl a7 r5 c5, vSl a8 r6 c6, iV ((gt a.ops t18).cost)])) (nm := ((l3 ++ ([(⟨r4, r5, r6, (gt a.ops t18).cost⟩ : Operator)] : List Operator))).length) tS23 rfl (by decide) rfl rfl rfl (RepL.len (show RepL h62 ([(⟨r4, r5, r6, (gt a.ops t18).cost⟩ : Operator)] : List Operator) [vSl a6 r4 c4, vSl a7 r5 c5, vSl a8 r6 c6, iV ((gt a.ops t18).cost)] from ⟨[vSl a6 r4 c4, vSl a7 r5 c5, vSl a8 r6 c6, iV ((gt a.ops t18).cost)], _, rfl, ⟨a6, c4, a7, c5, a8, c6, rfl, ⟨(q10), ((RSl.of q11).mono (FH.le_trans (le61) (le62)))⟩, ⟨(q12), ((RSl.of q13).mono (le62))⟩, ⟨(q14), (RSl.of q15)⟩⟩, rfl⟩)) (srcS (k := 0) rfl) (RepL.one (show RepL h62 ([(⟨r4, r5, r6, (gt a.ops t18).cost⟩ : Operator)] : List Operator) [vSl a6 r4 c4, vSl a7 r5 c5, vSl a8 r6 c6, iV ((gt a.ops t18).cost)] from ⟨[vSl a6 r4 c4, vSl a7 r5 c5, vSl a8 r6 c6, iV ((gt a.ops t18).cost)], _, rfl, ⟨a6, c4, a7, c5, a8, c6, rfl, ⟨(q10), ((RSl.of q11).mono (FH.le_trans (le61) (le62)))⟩, ⟨(q12), ((RSl.of q13).mono (le62))⟩, ⟨(q14), (RSl.of q15)⟩⟩, rfl⟩)) (room_of q16 q36).1 (room_of q16 q36).2 q16 rfl rfl (fun a10 c7 => ?_)
    refine .nil ?_
    refine .ja (M := [1, 0]) (C' := [16]) (pre := [(15, vSl a10 (l3 ++ ([(⟨r4, r5, r6, (gt a.ops t18).cost⟩ : Operator)] : List Operator)) c7), (16, vP (p.add 3))]) [(2, vP pv3), (3, vP p), (5, vP po), (16, vSl aa3 a.ops ca3), (17, iV ((a.ops.length : Nat) : Int)), (18, iV t18)] [2, 3, 5, 16, 17, 18] hL rfl rfl rfl rfl rfl sb rfl rfl (by kernel_rfl) ?_
    refine .ST [17] 17 (.w [(22, vP (p.add 3)), (23, vSl al4 l3 cl4), (24, vP (po.add 0)), (25, .slice a3 ((gt a.ops t18).pre.length) c), (26, vSl a6 r4 c4), (27, vP (po.add 1)), (28, .slice a4 ((gt a.ops t18).add.length) c2), (29, vSl a7 r5 c5), (30, vP (po.add 2)), (31, .slice a5 ((gt a.ops t18).del.length) c3), (32, vSl a8 r6 c6), (33, vP (po.add 3)), (34, iV ((gt a.ops t18).cost)), (35, .agg #[vSl a6 r4 c4, vSl a7 r5 c5, vSl a8 r6 c6, iV ((gt a.ops t18).cost)]), (36, vSl a9 ([(⟨r4, r5, r6, (gt a.ops t18).cost⟩ : Operator)] : List Operator) 1), (37, vSl a10 (l3 ++ ([(⟨r4, r5, r6, (gt a.ops t18).cost⟩ : Operator)] : List Operator)) c7)] rfl (fa rfl tF25_3) (.nil)) (.cons [(38, vP (p.add 3)), (37, vSl a10 (l3 ++ ([(⟨r4, r5, r6, (gt a.ops t18).cost⟩ : Operator)] : List Operator)) c7), (37, vSl a10 (l3 ++ ([(⟨r4, r5, r6, (gt a.ops t18).cost⟩ : Operator)] : List Operator)) c7), (22, vP (p.add 3)), (23, vSl al4 l3 cl4), (24, vP (po.add 0)), (25, .slice a3 ((gt a.ops t18).pre.length) c), (26, vSl a6 r4 c4), (27, vP (po.add 1)), (28, .slice a4 ((gt a.ops t18).add.length) c2), (29, vSl a7 r5 c5), (30, vP (po.add 2)), (31, .slice a5 ((gt a.ops t18).del.length) c3), (32, vSl a8 r6 c6), (33, vP (po.add 3)), (34, iV ((gt a.ops t18).cost)), (35, .agg #[vSl a6 r4 c4, vSl a7 r5 c5, vSl a8 r6 c6, iV ((gt a.ops t18).cost)]), (36, vSl a9 ([(⟨r4, r5, r6, (gt a.ops t18).cost⟩ : Operator)] : List Operator) 1), (37, vSl a10 (l3 ++ ([(⟨r4, r5, r6, (gt a.ops t18).cost⟩ : Operator)] : List Operator)) c7)] rfl rfl (fun sL hL => ?_) (.nil))
    refine st (p := p) (off := 3) (k := 6) (vs := [vSl a10 (l3 ++ ([(⟨r4, r5, r6, (gt a.ops t18).cost⟩ : Operator)] : List Operator)) c7]) rfl rfl rfl (fun w => (tO23 w).2) rfl rfl rfl rfl ?_
    refine .nil ?_
    refine .jaN (M := [16]) (C' := []) (pre := []) [2, 3, 5, 16, 17, 18] hL rfl rfl rfl rfl rfl (by kernel_rfl) ?_
    refine .LA [(22, vP (p.add 3)), (23, vSl al4 l3 cl4), (24, vP (po.add 0)), (25, .slice a3 ((gt a.ops t18).pre.length) c), (26, vSl a6 r4 c4), (27, vP (po.add 1)), (28, .slice a4 ((gt a.ops t18).add.length) c2), (29, vSl a7 r5 c5), (30, vP (po.add 2)), (31, .slice a5 ((gt a.ops t18).del.length) c3), (32, vSl a8 r6 c6), (33, vP (po.add 3)), (34, iV ((gt a.ops t18).cost)), (35, .agg #[vSl a6 r4 c4, vSl a7 r5 c5, vSl a8 r6 c6, iV ((gt a.ops t18).cost)]), (36, vSl a9 ([(⟨r4, r5, r6, (gt a.ops t18).cost⟩ : Operator)] : List Operator) 1), (37, vSl a10 (l3 ++ ([(⟨r4, r5, r6, (gt a.ops t18).cost⟩ : Operator)] : List Operator)) c7), (38, vP (p.add 3))] (.nil) ?_
    refine .blkN (.seqN (.region (.V bi0 ?_)))
    refine .V mv0 ?_
    refine .nil ?_
    refine .sel0 [5, 6, 7, 8, 9, 10, 11, 12] (by decide) rfl ?_
    exact .RO (wr (t18 + 1), (l3 ++ ([(⟨r4, r5, r6, (gt a.ops t18).cost⟩ : Operator)] : List Operator)), a10, c7, (csl ++ [vSl a6 r4 c4, vSl a7 r5 c5, vSl a8 r6 c6, iV ((gt a.ops t18).cost)]), h62) ⟨hF.1, q66, (FH.le_trans (FH.le_trans (FH.le_trans (q1) (le60)) (le61)) (le62))⟩ hF.2
   replace hF := hF.2 q8
   refine .exit (.seqX (.seqX (.blkX (.seqN (.seq (.region (.V (ldA (cs := [iV a.facts, vSl al2 l cl2, vSl al3 l2 cl3, vSl al4 l3 cl4]) rfl tA25 rfl (cellsB (off := 0) (k := 1) rfl (m := 4) rfl)) ?_)))))))
   refine st (p := pv3) (off := 0) (k := 0) (vs := [iV a.facts, vSl al2 l cl2, vSl al3 l2 cl3, vSl al4 l3 cl4]) rfl rfl rfl (fun w => (tA25 w).2) rfl rfl rfl rfl ?_
   refine .nil (.seqN (.ret ?_))
   refine .res1 rfl (rvC rfl tA25 (k := 0) rfl rfl) (inl_back (v := .agg #[iV a.facts, .slice al2 l.length cl2, .slice al3 l2.length cl3, .slice al4 l3.length cl4]) q54 rfl ?_)
   refine al tZ25 rfl (fun pout => ?_)
   refine st (p := pout) (off := 0) (k := 0) (vs := [iV a.facts, vSl al2 l cl2, vSl al3 l2 cl3, vSl al4 l3 cl4]) rfl rfl rfl (fun w => (tA25 w).2) rfl rfl rfl rfl ?_
   refine .nil (.seqN (.seq (.region (.V (fa rfl tF25_0) ?_))))
   refine .V (lB 0 0 tO3) ?_
   refine .V (fa rfl tF25_0) ?_
   refine .V (lB 0 3 tO3) ?_
   refine .V bi0 ?_
   refine .V (fa rfl tF25_0) ?_
   refine st (p := pout) (off := 0) (k := 0) (vs := [iV (wr (a.facts + b.facts))]) rfl rfl rfl (fun w => (tO3 w).2) rfl rfl rfl rfl ?_
   refine .nil (.seqN (.seq ?_))
   refine .OA (s0 := [(3, vP pb), (4, vP pv), (5, vP pv2), (8, iV a.facts), (9, vP pout)]) [0, 1, 2, 3, 4] [(0, vP (pout.add 1)), (1, vSl al2 l cl2), (2, vP (pb.add 1)), (3, vSl ab b.init cb), (4, iV a.facts)] [3, 4, 5, 8, 9] [] ?_
   refine .ST [5] 5 (.w [] rfl (fa rfl tF25_1) (.w [(55, vP (pout.add 1))] rfl (lB 1 0 tO22) (.w [] rfl (fa rfl tF25_1) (.w [(57, vP (pb.add 1))] rfl (lB 1 3 tO22) (.w [] rfl mv0 (.nil)))))) (.cons [(58, vSl ab b.init cb), (59, iV a.facts)] rfl rfl (fun sL hL => ?_) (.nil))
   obtain ⟨q67, hF⟩ := hF
   obtain ⟨r7, q37⟩ : ∃ y_ : List Int, y_ = sp_shifted b.init a.facts := ⟨_, rfl⟩
   replace hF := hF r7 q37
   refine clR (α := Option Addr × Nat) (Φ := fun h1 z => RSl h1 z.1 r7 ∧ r7.length ≤ z.2) (V := fun z => vSl z.1 r7 z.2) Tryz.call17 rfl rfl (fun w S => (by rw [q37]; exact c_shifted S.sub b.init ab cb (_q7.mono (q1)) _q8 a.facts q67)) rfl (fun z h64 le64 hz => ?_)
   obtain ⟨a11, c8⟩ := z
   obtain ⟨q38, q92⟩ := hz
   refine .nil ?_
   refine .ja (M := [3, 4, 2]) (C' := [0, 1]) (pre := [(5, vSl a11 r7 c8)]) [(3, vP pb), (4, vP pv), (5, vP pv2), (8, iV a.facts), (9, vP pout)] [3, 4, 5, 8, 9] hL rfl rfl rfl rfl rfl sb rfl rfl (by kernel_rfl) ?_
   refine .ST [6] 6 (.w [] rfl (fa rfl tF25_1) (.w [(55, vP (pout.add 1))] rfl (lB 1 0 tO22) (.nil))) (.cons [(56, vSl al2 l cl2), (60, vSl a11 r7 c8), (60, vSl a11 r7 c8)] rfl rfl (fun sL hL => ?_) (.nil))
   obtain ⟨q39, hF⟩ := hF
   have q17 : l.length + r7.length = ((l ++ r7)).length := len_app rfl rfl
   refine app (k := 6) (news := flL r7) (cs' := flL (l ++ r7)) (nm := ((l ++ r7)).length) tS22 rfl (by decide) rfl rfl rfl ((flL_len _).trans rfl) (srcH (fun q => q38.ne (by decide) q) (q38.raw)) (flL_one _) (room_of q17 q39).1 (room_of q17 q39).2 q17 (flL_append _ _).symm rfl (fun a12 c9 => ?_)
   refine .nil ?_
   refine .ja (M := [1, 0]) (C' := [7]) (pre := [(6, vSl a12 (l ++ r7) c9), (7, vP (pout.add 1))]) [(3, vP pb), (4, vP pv), (5, vP pv2), (8, iV a.facts), (9, vP pout)] [3, 4, 5, 8, 9] hL rfl rfl rfl rfl rfl sb rfl rfl (by kernel_rfl) ?_
   refine .ST [8] 8 (.w [(55, vP (pout.add 1)), (56, vSl al2 l cl2), (57, vP (pb.add 1)), (58, vSl ab b.init cb), (59, iV a.facts), (60, vSl a11 r7 c8), (61, vSl a12 (l ++ r7) c9)] rfl (fa rfl tF25_1) (.nil)) (.cons [(62, vP (pout.add 1)), (61, vSl a12 (l ++ r7) c9), (61, vSl a12 (l ++ r7) c9), (55, vP (pout.add 1)), (56, vSl al2 l cl2), (57, vP (pb.add 1)), (58, vSl ab b.init cb), (59, iV a.facts), (60, vSl a11 r7 c8), (61, vSl a12 (l ++ r7) c9)] rfl rfl (fun sL hL => ?_) (.nil))
   refine st (p := pout) (off := 1) (k := 0) (vs := [vSl a12 (l ++ r7) c9]) rfl rfl rfl (fun w => (tO22 w).2) rfl rfl rfl rfl ?_
   refine .nil ?_
   refine .jaN (M := [7]) (C' := []) (pre := []) [3, 4, 5, 8, 9] hL rfl rfl rfl rfl rfl (by kernel_rfl) ?_
   refine .LA [(55, vP (pout.add 1)), (56, vSl al2 l cl2), (57, vP (pb.add 1)), (58, vSl ab b.init cb), (59, iV a.facts), (60, vSl a11 r7 c8), (61, vSl a12 (l ++ r7) c9), (62, vP (pout.add 1))] (.nil) ?_
   refine .seqN (.seq ?_)
   refine .OA (s0 := [(3, vP pb), (4, vP pv), (5, vP pv2), (8, iV a.facts), (9, vP pout)]) [0, 1, 2, 3, 4] [(0, vP (pout.add 2)), (1, vSl al3 l2 cl3), (2, vP (pb.add 2)), (3, vSl ab2 b.goal cb2), (4, iV a.facts)] [3, 4, 5, 8, 9] [] ?_
   refine .ST [5] 5 (.w [] rfl (fa rfl tF25_2) (.w [(63, vP (pout.add 2))] rfl (lB 2 0 tO22) (.w [] rfl (fa rfl tF25_2) (.w [(65, vP (pb.add 2))] rfl (lB 2 3 tO22) (.w [] rfl mv0 (.nil)))))) (.cons [(66, vSl ab2 b.goal cb2), (67, iV a.facts)] rfl rfl (fun sL hL => ?_) (.nil))
   obtain ⟨q68, hF⟩ := hF
   obtain ⟨r8, q40⟩ : ∃ y_ : List Int, y_ = sp_shifted b.goal a.facts := ⟨_, rfl⟩
   replace hF := hF r8 q40
   refine clR (α := Option Addr × Nat) (Φ := fun h1 z => RSl h1 z.1 r8 ∧ r8.length ≤ z.2) (V := fun z => vSl z.1 r8 z.2) Tryz.call17 rfl rfl (fun w S => (by rw [q40]; exact c_shifted S.sub b.goal ab2 cb2 (_q9.mono (FH.le_trans (q1) (le64))) _q10 a.facts q68)) rfl (fun z h66 le66 hz => ?_)
   obtain ⟨a13, c10⟩ := z
   obtain ⟨q41, q93⟩ := hz
   refine .nil ?_
   refine .ja (M := [3, 4, 2]) (C' := [0, 1]) (pre := [(5, vSl a13 r8 c10)]) [(3, vP pb), (4, vP pv), (5, vP pv2), (8, iV a.facts), (9, vP pout)] [3, 4, 5, 8, 9] hL rfl rfl rfl rfl rfl sb rfl rfl (by kernel_rfl) ?_
   refine .ST [6] 6 (.w [] rfl (fa rfl tF25_2) (.w [(63, vP (pout.add 2))] rfl (lB 2 0 tO22) (.nil))) (.cons [(64, vSl al3 l2 cl3), (68, vSl a13 r8 c10), (68, vSl a13 r8 c10)] rfl rfl (fun sL hL => ?_) (.nil))
   obtain ⟨q42, hF⟩ := hF
   have q18 : l2.length + r8.length = ((l2 ++ r8)).length := len_app rfl rfl
   refine app (k := 7) (news := flL r8) (cs' := flL (l2 ++ r8)) (nm := ((l2 ++ r8)).length) tS22 rfl (by decide) rfl rfl rfl ((flL_len _).trans rfl) (srcH (fun q => q41.ne (by decide) q) (q41.raw)) (flL_one _) (room_of q18 q42).1 (room_of q18 q42).2 q18 (flL_append _ _).symm rfl (fun a14 c11 => ?_)
   refine .nil ?_
   refine .ja (M := [1, 0]) (C' := [7]) (pre := [(6, vSl a14 (l2 ++ r8) c11), (7, vP (pout.add 2))]) [(3, vP pb), (4, vP pv), (5, vP pv2), (8, iV a.facts), (9, vP pout)] [3, 4, 5, 8, 9] hL rfl rfl rfl rfl rfl sb rfl rfl (by kernel_rfl) ?_
   refine .ST [8] 8 (.w [(63, vP (pout.add 2)), (64, vSl al3 l2 cl3), (65, vP (pb.add 2)), (66, vSl ab2 b.goal cb2), (67, iV a.facts), (68, vSl a13 r8 c10), (69, vSl a14 (l2 ++ r8) c11)] rfl (fa rfl tF25_2) (.nil)) (.cons [(70, vP (pout.add 2)), (69, vSl a14 (l2 ++ r8) c11), (69, vSl a14 (l2 ++ r8) c11), (63, vP (pout.add 2)), (64, vSl al3 l2 cl3), (65, vP (pb.add 2)), (66, vSl ab2 b.goal cb2), (67, iV a.facts), (68, vSl a13 r8 c10), (69, vSl a14 (l2 ++ r8) c11)] rfl rfl (fun sL hL => ?_) (.nil))
   refine st (p := pout) (off := 2) (k := 0) (vs := [vSl a14 (l2 ++ r8) c11]) rfl rfl rfl (fun w => (tO22 w).2) rfl rfl rfl rfl ?_
   refine .KA [Box pout [iV (wr (a.facts + b.facts)), vSl a12 (l ++ r7) c9, vSl a14 (l2 ++ r8) c11, vSl al4 l3 cl4], Box pv3 [iV a.facts, vSl al2 l cl2, vSl al3 l2 cl3, vSl al4 l3 cl4], Box p [iV a.facts, vSl al2 l cl2, vSl al3 l2 cl3, vSl al4 l3 cl4], Box pb (tF b ab cb ab2 cb2 ab3 cb3), Box pv [iV 0, .slice none 0 0, .slice none 0 0, .slice none 0 0], Box pv2 [iV 0, iV 0], oL 3 1 a12 (l ++ r7) c9, oL 3 1 a14 (l2 ++ r8) c11, OwnSl 52 4 al4 l3.length cl4 csl] ?_
   refine .nil ?_
   refine .jaN (M := [7]) (C' := []) (pre := []) [3, 4, 5, 8, 9] hL rfl rfl rfl rfl rfl (by kernel_rfl) ?_
   refine .LA [(63, vP (pout.add 2)), (64, vSl al3 l2 cl3), (65, vP (pb.add 2)), (66, vSl ab2 b.goal cb2), (67, iV a.facts), (68, vSl a13 r8 c10), (69, vSl a14 (l2 ++ r8) c11), (70, vP (pout.add 2))] (.nil) ?_
   refine .seqN (.seq (.seq (.region (.V (fa rfl tF25_3) ?_))))
   refine .V (lB 3 3 tO23) ?_
   refine .V (ln rfl tS23.is) ?_
   refine .V mv0 ?_
   refine .nil (.seqN (.block ?_))
   refine .sel0 [4, 5, 0, 6, 7, 8] (by decide) rfl ?_
   obtain ⟨I2, μ2, q19, q69⟩ := hF
   refine .loop' (σ := Int × List Operator × Option Addr × Nat × List Value × FH) (fun z => I2 z.1 z.2.1 ∧ RepL z.2.2.2.2.2 z.2.1 z.2.2.2.2.1 ∧ FH.le h66 z.2.2.2.2.2) (fun z => μ2 z.1 z.2.1) (fun z => [(4, vP pv), (5, vP pv2), (8, iV a.facts), (9, vP pout), (72, vSl ab3 b.ops cb3), (73, iV ((b.ops.length : Nat) : Int)), (74, iV z.1)]) (fun z => [Box pv [iV 0, .slice none 0 0, .slice none 0 0, .slice none 0 0], Box pv2 [iV 0, iV 0], Box pout [iV (wr (a.facts + b.facts)), vSl a12 (l ++ r7) c9, vSl a14 (l2 ++ r8) c11, vSl z.2.2.1 z.2.1 z.2.2.2.1], oL 3 1 a12 (l ++ r7) c9, oL 3 1 a14 (l2 ++ r8) c11, OwnSl 52 4 z.2.2.1 z.2.1.length z.2.2.2.1 z.2.2.2.2.1]) (fun z => z.2.2.2.2.2) (0, l3, al4, cl4, csl, h66) ⟨q19, (RepL.mono (FH.le_trans (le64) (le66)) q32), (FH.le_refl _)⟩ sb rfl (FH.le_refl _) ?_
   rintro ⟨t74, l5, al6, cl6, csl3, h109⟩ ⟨q19, q43, q2⟩
   have hF := q69 t74 l5 q19
   show J _ _ _ _ _ [(4, vP pv), (5, vP pv2), (8, iV a.facts), (9, vP pout), (72, vSl ab3 b.ops cb3), (73, iV ((b.ops.length : Nat) : Int)), (74, iV t74)] [Box pv [iV 0, .slice none 0 0, .slice none 0 0, .slice none 0 0], Box pv2 [iV 0, iV 0], Box pout [iV (wr (a.facts + b.facts)), vSl a12 (l ++ r7) c9, vSl a14 (l2 ++ r8) c11, vSl al6 l5 cl6], oL 3 1 a12 (l ++ r7) c9, oL 3 1 a14 (l2 ++ r8) c11, OwnSl 52 4 al6 l5.length cl6 csl3] h109
   refine .seq (.region (.V bi0 ?_))
   refine .nil (.seqN (.seq ?_))
   refine .cond rfl (fun q20 => ?_) (fun q20 => ?_)
   ·replace hF := hF.1 q20
    refine .skip (.seqN (.seq (.block (.seq (.region ?_)))))
    obtain ⟨q21, hF⟩ := hF
    refine .V (ix rfl rfl tS23 (_q11.ne (by decide) (inb_pos q21)) q21) ?_
    obtain ⟨_, ⟨a15, c12, a16, c13, a17, c14, rfl, ⟨q70, q71⟩, ⟨q72, q73⟩, q74, q75⟩, q76⟩ := _q11.elem q21
    refine .V (ldA (cs := [.slice a15 ((gt b.ops t74).pre.length) c12, .slice a16 ((gt b.ops t74).add.length) c13, .slice a17 ((gt b.ops t74).del.length) c14, iV ((gt b.ops t74).cost)]) rfl tA52 rfl (cellsH ((fun q => (q76 q).mono (FH.le_trans (FH.le_trans (FH.le_trans (q1) (le64)) (le66)) (q2))) (by decide)))) ?_
    refine al tZ52 rfl (fun po2 => ?_)
    refine st (p := po2) (off := 0) (k := 0) (vs := [.slice a15 ((gt b.ops t74).pre.length) c12, .slice a16 ((gt b.ops t74).add.length) c13, .slice a17 ((gt b.ops t74).del.length) c14, iV ((gt b.ops t74).cost)]) rfl rfl rfl (fun w => (tA52 w).2) rfl rfl rfl rfl ?_
    refine .nil (.seqN ?_)
    refine .OA (s0 := [(4, vP pv), (5, vP pv2), (8, iV a.facts), (9, vP pout), (11, vP po2), (72, vSl ab3 b.ops cb3), (73, iV ((b.ops.length : Nat) : Int)), (74, iV t74)]) [0, 1, 2, 3, 4, 6, 7, 8, 10, 11, 12, 14, 15] [(0, vP (pout.add 3)), (1, vSl al6 l5 cl6), (2, vP (po2.add 0)), (3, .slice a15 ((gt b.ops t74).pre.length) c12), (4, iV a.facts), (6, vP (po2.add 1)), (7, .slice a16 ((gt b.ops t74).add.length) c13), (8, iV a.facts), (10, vP (po2.add 2)), (11, .slice a17 ((gt b.ops t74).del.length) c14), (12, iV a.facts), (14, vP (po2.add 3)), (15, iV ((gt b.ops t74).cost))] [4, 5, 8, 9, 11, 72, 73, 74] [] ?_
    refine .ST [5] 5 (.w [] rfl (fa rfl tF25_3) (.w [(78, vP (pout.add 3))] rfl (lB 3 3 tO23) (.w [] rfl (fa rfl tF52_0) (.w [(80, vP (po2.add 0))] rfl (lB 0 0 tO22) (.w [] rfl mv0 (.w [] rfl (fa rfl tF52_1) (.w [(84, vP (po2.add 1))] rfl (lB 1 0 tO22) (.w [] rfl mv0 (.w [] rfl (fa rfl tF52_2) (.w [(88, vP (po2.add 2))] rfl (lB 2 0 tO22) (.w [] rfl mv0 (.w [] rfl (fa rfl tF52_3) (.w [(92, vP (po2.add 3))] rfl (lB 3 0 tO3) (.nil)))))))))))))) (.cons [(81, .slice a15 ((gt b.ops t74).pre.length) c12), (82, iV a.facts)] rfl rfl (fun sL hL => ?_) (.nil))
    obtain ⟨q77, hF⟩ := hF
    obtain ⟨r9, q44⟩ : ∃ y_ : List Int, y_ = sp_shifted ((gt b.ops t74).pre) a.facts := ⟨_, rfl⟩
    replace hF := hF r9 q44
    refine clR (α := Option Addr × Nat) (Φ := fun h1 z => RSl h1 z.1 r9 ∧ r9.length ≤ z.2) (V := fun z => vSl z.1 r9 z.2) Tryz.call17 rfl rfl (fun w S => (by rw [q44]; exact c_shifted S.sub ((gt b.ops t74).pre) a15 c12 (q71.mono (FH.le_trans (FH.le_trans (FH.le_trans (q1) (le64)) (le66)) (q2))) q70 a.facts q77)) rfl (fun z h126 le126 hz => ?_)
    obtain ⟨a18, c15⟩ := z
    obtain ⟨q22, q23⟩ := hz
    refine .nil ?_
    refine .ja (M := [3, 4, 2]) (C' := [0, 1, 6, 7, 8, 10, 11, 12, 14, 15]) (pre := [(5, vSl a18 r9 c15)]) [(4, vP pv), (5, vP pv2), (8, iV a.facts), (9, vP pout), (11, vP po2), (72, vSl ab3 b.ops cb3), (73, iV ((b.ops.length : Nat) : Int)), (74, iV t74)] [4, 5, 8, 9, 11, 72, 73, 74] hL rfl rfl rfl rfl rfl sb rfl rfl (by kernel_rfl) ?_
    refine .ST [9] 9 (.w [] rfl (fa rfl tF25_3) (.w [(78, vP (pout.add 3))] rfl (lB 3 3 tO23) (.w [] rfl (fa rfl tF52_1) (.w [(84, vP (po2.add 1))] rfl (lB 1 0 tO22) (.w [] rfl mv0 (.w [] rfl (fa rfl tF52_2) (.w [(88, vP (po2.add 2))] rfl (lB 2 0 tO22) (.w [] rfl mv0 (.w [] rfl (fa rfl tF52_3) (.w [(92, vP (po2.add 3))] rfl (lB 3 0 tO3) (.nil))))))))))) (.cons [(85, .slice a16 ((gt b.ops t74).add.length) c13), (86, iV a.facts), (83, vSl a18 r9 c15)] rfl rfl (fun sL hL => ?_) (.nil))
    obtain ⟨q78, hF⟩ := hF
    obtain ⟨r10, q45⟩ : ∃ y_ : List Int, y_ = sp_shifted ((gt b.ops t74).add) a.facts := ⟨_, rfl⟩
    replace hF := hF r10 q45
    refine clR (α := Option Addr × Nat) (Φ := fun h1 z => RSl h1 z.1 r10 ∧ r10.length ≤ z.2) (V := fun z => vSl z.1 r10 z.2) Tryz.call17 rfl rfl (fun w S => (by rw [q45]; exact c_shifted S.sub ((gt b.ops t74).add) a16 c13 (q73.mono (FH.le_trans (FH.le_trans (FH.le_trans (FH.le_trans (q1) (le64)) (le66)) (q2)) (le126))) q72 a.facts q78)) rfl (fun z h127 le127 hz => ?_)
    obtain ⟨a19, c16⟩ := z
    obtain ⟨q24, q25⟩ := hz
    refine .nil ?_
    refine .ja (M := [7, 8, 6]) (C' := [0, 1, 10, 11, 12, 14, 15]) (pre := [(9, vSl a19 r10 c16)]) [(4, vP pv), (5, vP pv2), (8, iV a.facts), (9, vP pout), (11, vP po2), (72, vSl ab3 b.ops cb3), (73, iV ((b.ops.length : Nat) : Int)), (74, iV t74)] [4, 5, 8, 9, 11, 72, 73, 74] hL rfl rfl rfl rfl rfl sb rfl rfl (by kernel_rfl) ?_
    refine .ST [13] 13 (.w [] rfl (fa rfl tF25_3) (.w [(78, vP (pout.add 3))] rfl (lB 3 3 tO23) (.w [] rfl (fa rfl tF52_2) (.w [(88, vP (po2.add 2))] rfl (lB 2 0 tO22) (.w [] rfl mv0 (.w [] rfl (fa rfl tF52_3) (.w [(92, vP (po2.add 3))] rfl (lB 3 0 tO3) (.nil)))))))) (.cons [(89, .slice a17 ((gt b.ops t74).del.length) c14), (90, iV a.facts), (87, vSl a19 r10 c16)] rfl rfl (fun sL hL => ?_) (.nil))
    obtain ⟨q79, hF⟩ := hF
    obtain ⟨r11, q46⟩ : ∃ y_ : List Int, y_ = sp_shifted ((gt b.ops t74).del) a.facts := ⟨_, rfl⟩
    replace hF := hF r11 q46
    refine clR (α := Option Addr × Nat) (Φ := fun h1 z => RSl h1 z.1 r11 ∧ r11.length ≤ z.2) (V := fun z => vSl z.1 r11 z.2) Tryz.call17 rfl rfl (fun w S => (by rw [q46]; exact c_shifted S.sub ((gt b.ops t74).del) a17 c14 (q75.mono (FH.le_trans (FH.le_trans (FH.le_trans (FH.le_trans (FH.le_trans (q1) (le64)) (le66)) (q2)) (le126)) (le127))) q74 a.facts q79)) rfl (fun z h128 le128 hz => ?_)
    obtain ⟨a20, c17⟩ := z
    obtain ⟨q26, q27⟩ := hz
    refine .nil ?_
    refine .ja (M := [11, 12, 10]) (C' := [0, 1, 14, 15, 16]) (pre := [(13, vSl a20 r11 c17), (16, .agg #[vSl a18 r9 c15, vSl a19 r10 c16, vSl a20 r11 c17, iV ((gt b.ops t74).cost)])]) [(4, vP pv), (5, vP pv2), (8, iV a.facts), (9, vP pout), (11, vP po2), (72, vSl ab3 b.ops cb3), (73, iV ((b.ops.length : Nat) : Int)), (74, iV t74)] [4, 5, 8, 9, 11, 72, 73, 74] hL rfl rfl rfl rfl rfl sb rfl rfl (by kernel_rfl) ?_
    refine .ST [17] 17 (.w [] rfl (fa rfl tF25_3) (.w [(78, vP (pout.add 3))] rfl (lB 3 3 tO23) (.w [] rfl (fa rfl tF52_3) (.w [(92, vP (po2.add 3))] rfl (lB 3 0 tO3) (.w [(83, vSl a18 r9 c15), (87, vSl a19 r10 c16), (91, vSl a20 r11 c17), (93, iV ((gt b.ops t74).cost))] rfl (bld (cs := #[vSl a18 r9 c15, vSl a19 r10 c16, vSl a20 r11 c17, iV ((gt b.ops t74).cost)]) (pv := [(0, vSl a18 r9 c15), (1, vSl a19 r10 c16), (2, vSl a20 r11 c17), (3, iV ((gt b.ops t74).cost))]) tB52 rfl rfl) (.nil)))))) (.cons [(94, .agg #[vSl a18 r9 c15, vSl a19 r10 c16, vSl a20 r11 c17, iV ((gt b.ops t74).cost)])] rfl rfl (fun sL hL => ?_) (.nil))
    refine bs2 (cs := #[vSl a18 r9 c15, vSl a19 r10 c16, vSl a20 r11 c17, iV ((gt b.ops t74).cost)]) (pv := [(0, .agg #[vSl a18 r9 c15, vSl a19 r10 c16, vSl a20 r11 c17, iV ((gt b.ops t74).cost)])]) tS23 rfl rfl (by decide) (by decide) rfl rfl rfl (fun a21 _ => ?_)
    refine .nil ?_
    refine .ja (M := [16, 15, 14]) (C' := [0, 1]) (pre := [(17, vSl a21 ([(⟨r9, r10, r11, (gt b.ops t74).cost⟩ : Operator)] : List Operator) 1)]) [(4, vP pv), (5, vP pv2), (8, iV a.facts), (9, vP pout), (11, vP po2), (72, vSl ab3 b.ops cb3), (73, iV ((b.ops.length : Nat) : Int)), (74, iV t74)] [4, 5, 8, 9, 11, 72, 73, 74] hL rfl rfl rfl rfl rfl sb rfl rfl (by kernel_rfl) ?_
    refine .ST [18] 18 (.w [] rfl (fa rfl tF25_3) (.w [(78, vP (pout.add 3))] rfl (lB 3 4 tO23) (.nil))) (.cons [(79, vSl al6 l5 cl6), (95, vSl a21 ([(⟨r9, r10, r11, (gt b.ops t74).cost⟩ : Operator)] : List Operator) 1), (91, vSl a20 r11 c17)] rfl rfl (fun sL hL => ?_) (.nil))
    obtain ⟨q47, hF⟩ := hF
    have q28 : l5.length + ([(⟨r9, r10, r11, (gt b.ops t74).cost⟩ : Operator)] : List Operator).length = ((l5 ++ ([(⟨r9, r10, r11, (gt b.ops t74).cost⟩ : Operator)] : List Operator))).length := len_app rfl rfl
    have q80 := RepL.append (RepL.mono (FH.le_trans (FH.le_trans (le126) (le127)) (le128)) q43) (show RepL h128 ([(⟨r9, r10, r11, (gt b.ops t74).cost⟩ : Operator)] : List Operator) [.slice a18 r9.length c15, .slice a19 r10.length c16, .slice a20 r11.length c17, iV ((gt b.ops t74).cost)] from ⟨[.slice a18 r9.length c15, .slice a19 r10.length c16, .slice a20 r11.length c17, iV ((gt b.ops t74).cost)], _, rfl, ⟨a18, c15, a19, c16, a20, c17, rfl, ⟨q23, (q22.mono (FH.le_trans (le127) (le128)))⟩, ⟨q25, (q24.mono (le128))⟩, ⟨q27, q26⟩⟩, rfl⟩)
    refine app (k := 7) (news := [vSl a18 r9 c15, vSl a19 r10 c16, vSl a20 r11 c17, iV ((gt b.ops t74).cost)]) (cs' := (csl3 ++ [vSl a18 r9 c15, vSl a19 r10 c16, vSl a20 r11 c17, iV ((gt b.ops t74).cost)])) (nm := ((l5 ++ ([(⟨r9, r10, r11, (gt b.ops t74).cost⟩ : Operator)] : List Operator))).length) tS23 rfl (by decide) rfl rfl rfl (RepL.len (show RepL h128 ([(⟨r9, r10, r11, (gt b.ops t74).cost⟩ : Operator)] : List Operator) [vSl a18 r9 c15, vSl a19 r10 c16, vSl a20 r11 c17, iV ((gt b.ops t74).cost)] from ⟨[vSl a18 r9 c15, vSl a19 r10 c16, vSl a20 r11 c17, iV ((gt b.ops t74).cost)], _, rfl, ⟨a18, c15, a19, c16, a20, c17, rfl, ⟨q23, (q22.mono (FH.le_trans (le127) (le128)))⟩, ⟨q25, (q24.mono (le128))⟩, ⟨q27, q26⟩⟩, rfl⟩)) (srcS (k := 0) rfl) (RepL.one (show RepL h128 ([(⟨r9, r10, r11, (gt b.ops t74).cost⟩ : Operator)] : List Operator) [vSl a18 r9 c15, vSl a19 r10 c16, vSl a20 r11 c17, iV ((gt b.ops t74).cost)] from ⟨[vSl a18 r9 c15, vSl a19 r10 c16, vSl a20 r11 c17, iV ((gt b.ops t74).cost)], _, rfl, ⟨a18, c15, a19, c16, a20, c17, rfl, ⟨q23, (q22.mono (FH.le_trans (le127) (le128)))⟩, ⟨q25, (q24.mono (le128))⟩, ⟨q27, q26⟩⟩, rfl⟩)) (room_of q28 q47).1 (room_of q28 q47).2 q28 rfl rfl (fun a22 c18 => ?_)
    refine .nil ?_
    refine .ja (M := [1, 0]) (C' := [19]) (pre := [(18, vSl a22 (l5 ++ ([(⟨r9, r10, r11, (gt b.ops t74).cost⟩ : Operator)] : List Operator)) c18), (19, vP (pout.add 3))]) [(4, vP pv), (5, vP pv2), (8, iV a.facts), (9, vP pout), (11, vP po2), (72, vSl ab3 b.ops cb3), (73, iV ((b.ops.length : Nat) : Int)), (74, iV t74)] [4, 5, 8, 9, 11, 72, 73, 74] hL rfl rfl rfl rfl rfl sb rfl rfl (by kernel_rfl) ?_
    refine .ST [20] 20 (.w [(78, vP (pout.add 3)), (79, vSl al6 l5 cl6), (80, vP (po2.add 0)), (81, .slice a15 ((gt b.ops t74).pre.length) c12), (82, iV a.facts), (83, vSl a18 r9 c15), (84, vP (po2.add 1)), (85, .slice a16 ((gt b.ops t74).add.length) c13), (86, iV a.facts), (87, vSl a19 r10 c16), (88, vP (po2.add 2)), (89, .slice a17 ((gt b.ops t74).del.length) c14), (90, iV a.facts), (91, vSl a20 r11 c17), (92, vP (po2.add 3)), (93, iV ((gt b.ops t74).cost)), (94, .agg #[vSl a18 r9 c15, vSl a19 r10 c16, vSl a20 r11 c17, iV ((gt b.ops t74).cost)]), (95, vSl a21 ([(⟨r9, r10, r11, (gt b.ops t74).cost⟩ : Operator)] : List Operator) 1), (96, vSl a22 (l5 ++ ([(⟨r9, r10, r11, (gt b.ops t74).cost⟩ : Operator)] : List Operator)) c18)] rfl (fa rfl tF25_3) (.nil)) (.cons [(97, vP (pout.add 3)), (96, vSl a22 (l5 ++ ([(⟨r9, r10, r11, (gt b.ops t74).cost⟩ : Operator)] : List Operator)) c18), (96, vSl a22 (l5 ++ ([(⟨r9, r10, r11, (gt b.ops t74).cost⟩ : Operator)] : List Operator)) c18), (78, vP (pout.add 3)), (79, vSl al6 l5 cl6), (80, vP (po2.add 0)), (81, .slice a15 ((gt b.ops t74).pre.length) c12), (82, iV a.facts), (83, vSl a18 r9 c15), (84, vP (po2.add 1)), (85, .slice a16 ((gt b.ops t74).add.length) c13), (86, iV a.facts), (87, vSl a19 r10 c16), (88, vP (po2.add 2)), (89, .slice a17 ((gt b.ops t74).del.length) c14), (90, iV a.facts), (91, vSl a20 r11 c17), (92, vP (po2.add 3)), (93, iV ((gt b.ops t74).cost)), (94, .agg #[vSl a18 r9 c15, vSl a19 r10 c16, vSl a20 r11 c17, iV ((gt b.ops t74).cost)]), (95, vSl a21 ([(⟨r9, r10, r11, (gt b.ops t74).cost⟩ : Operator)] : List Operator) 1), (96, vSl a22 (l5 ++ ([(⟨r9, r10, r11, (gt b.ops t74).cost⟩ : Operator)] : List Operator)) c18)] rfl rfl (fun sL hL => ?_) (.nil))
    refine st (p := pout) (off := 3) (k := 4) (vs := [vSl a22 (l5 ++ ([(⟨r9, r10, r11, (gt b.ops t74).cost⟩ : Operator)] : List Operator)) c18]) rfl rfl rfl (fun w => (tO23 w).2) rfl rfl rfl rfl ?_
    refine .nil ?_
    refine .jaN (M := [19]) (C' := []) (pre := []) [4, 5, 8, 9, 11, 72, 73, 74] hL rfl rfl rfl rfl rfl (by kernel_rfl) ?_
    refine .LA [(78, vP (pout.add 3)), (79, vSl al6 l5 cl6), (80, vP (po2.add 0)), (81, .slice a15 ((gt b.ops t74).pre.length) c12), (82, iV a.facts), (83, vSl a18 r9 c15), (84, vP (po2.add 1)), (85, .slice a16 ((gt b.ops t74).add.length) c13), (86, iV a.facts), (87, vSl a19 r10 c16), (88, vP (po2.add 2)), (89, .slice a17 ((gt b.ops t74).del.length) c14), (90, iV a.facts), (91, vSl a20 r11 c17), (92, vP (po2.add 3)), (93, iV ((gt b.ops t74).cost)), (94, .agg #[vSl a18 r9 c15, vSl a19 r10 c16, vSl a20 r11 c17, iV ((gt b.ops t74).cost)]), (95, vSl a21 ([(⟨r9, r10, r11, (gt b.ops t74).cost⟩ : Operator)] : List Operator) 1), (96, vSl a22 (l5 ++ ([(⟨r9, r10, r11, (gt b.ops t74).cost⟩ : Operator)] : List Operator)) c18), (97, vP (pout.add 3))] (.nil) ?_
    refine .blkN (.seqN (.region (.V bi0 ?_)))
    refine .V mv0 ?_
    refine .nil ?_
    refine .sel0 [2, 3, 4, 5, 6, 7] (by decide) rfl ?_
    exact .RO (wr (t74 + 1), (l5 ++ ([(⟨r9, r10, r11, (gt b.ops t74).cost⟩ : Operator)] : List Operator)), a22, c18, (csl3 ++ [vSl a18 r9 c15, vSl a19 r10 c16, vSl a20 r11 c17, iV ((gt b.ops t74).cost)]), h128) ⟨hF.1, q80, (FH.le_trans (FH.le_trans (FH.le_trans (q2) (le126)) (le127)) (le128))⟩ hF.2
   replace hF := hF.2 q20
   refine .exit (.seqX (.seqX (.blkX (.seqN (.seq (.region (.V (ldA (cs := [iV (wr (a.facts + b.facts)), vSl a12 (l ++ r7) c9, vSl a14 (l2 ++ r8) c11, vSl al6 l5 cl6]) rfl tA25 rfl (cellsB (off := 0) (k := 2) rfl (m := 4) rfl)) ?_)))))))
   refine .V (bld (cs := #[iV 0, iV 0]) (pv := []) tB27 rfl rfl) ?_
   refine st (p := pv) (off := 0) (k := 0) (vs := [iV (wr (a.facts + b.facts)), vSl a12 (l ++ r7) c9, vSl a14 (l2 ++ r8) c11, vSl al6 l5 cl6]) rfl rfl rfl (fun w => (tA25 w).2) rfl rfl rfl rfl ?_
   refine st (p := pv2) (off := 0) (k := 1) (vs := [iV 0, iV 0]) rfl rfl rfl (fun w => (tA27 w).2) rfl rfl rfl rfl ?_
   refine .nil (.seqN ?_)
   refine .freezeL (k := 5) rfl (fun h129 le129 q81 q82 => ?_)
   refine .freezeL (k := 4) rfl (fun h130 le130 q83 q84 => ?_)
   refine .freezeL (k := 3) rfl (fun h131 le131 q85 q86 => ?_)
   refine .ret ?_
   refine .res2 rfl (rvC rfl tA25 (k := 0) rfl rfl) (rvC rfl tA27 (k := 1) rfl rfl) (fun w' S => ⟨((⟨wr (a.facts + b.facts), (l ++ r7), (l2 ++ r8), l5⟩ : Task), (⟨0, 0⟩ : Fault)), (a12, c9, a14, c11, al6, cl6), h131, hF, rfl, (FH.le_trans (FH.le_trans (FH.le_trans (FH.le_trans (FH.le_trans (FH.le_trans (q1) (le64)) (le66)) (q2)) (le129)) (le130)) (le131)), ⟨(RSl.of q86), (q85), ((RSl.of q84).mono (le131)), (q83), ((show RSl h129 al6 l5 from ⟨_, q43.mono (le129), q82⟩).mono (FH.le_trans (le130) (le131))), (q81)⟩, S.none⟩)
  refine .OA (s0 := [(1, vP pt), (2, vP pv3)]) [0, 1, 2, 3, 5, 6] [(0, vP (pt.add 0)), (1, iV a.facts), (2, vP (pt.add 1)), (3, vSl aa a.init ca), (5, vP (pt.add 2)), (6, vSl aa2 a.goal ca2)] [1, 2] [] ?_
  refine .ST [4, 9] 4 (.w [] rfl (fa rfl tF25_0) (.w [(6, vP (pt.add 0))] rfl (lB 0 1 tO3) (.w [] rfl (fa rfl tF25_1) (.w [(8, vP (pt.add 1))] rfl (lB 1 1 tO22) (.w [] rfl (fa rfl tF25_2) (.w [(11, vP (pt.add 2))] rfl (lB 2 1 tO22) (.nil))))))) (.cons [(9, vSl aa a.init ca)] rfl rfl (fun sL hL => ?_) (.cons [] rfl rfl (fun sL hL => ?_) (.nil)))
  ·obtain ⟨q87, hF⟩ := hF
   obtain ⟨r12, q48⟩ : ∃ y_ : List Int, y_ = sp_clone a.init := ⟨_, rfl⟩
   replace hF := hF r12 q48
   refine clO (α := Option Addr × Nat) (V := fun z => vSl z.1 r12 z.2) (Ψ := fun z => True) (B := fun z => [oL 3 1 z.1 r12 z.2]) Tryz.call26 rfl rfl (fun w S => (by rw [q48]; exact c_cloneO S.sub a.init aa ca _q1 _q2 q87)) rfl (fun z _ => ?_)
   obtain ⟨a23, c19⟩ := z
   refine .nil ?_
   refine .ja (M := [3, 2]) (C' := [0, 1, 5, 6]) (pre := [(4, vSl a23 r12 c19)]) [(1, vP pt), (2, vP pv3)] [1, 2] hL rfl rfl rfl rfl rfl sb rfl rfl (by kernel_rfl) ?_
   refine .ST [7, 9] 7 (.w [] rfl (fa rfl tF25_0) (.w [(6, vP (pt.add 0))] rfl (lB 0 2 tO3) (.w [] rfl (fa rfl tF25_2) (.w [(11, vP (pt.add 2))] rfl (lB 2 2 tO22) (.nil))))) (.cons [(12, vSl aa2 a.goal ca2), (10, vSl a23 r12 c19)] rfl rfl (fun sL hL => ?_) (.cons [] rfl rfl (fun sL hL => ?_) (.nil)))
   ·obtain ⟨q88, hF⟩ := hF
    obtain ⟨r13, q49⟩ : ∃ y_ : List Int, y_ = sp_clone a.goal := ⟨_, rfl⟩
    replace hF := hF r13 q49
    refine clO (α := Option Addr × Nat) (V := fun z => vSl z.1 r13 z.2) (Ψ := fun z => True) (B := fun z => [oL 3 1 z.1 r13 z.2]) Tryz.call26 rfl rfl (fun w S => (by rw [q49]; exact c_cloneO S.sub a.goal aa2 ca2 _q3 _q4 q88)) rfl (fun z _ => ?_)
    obtain ⟨a24, c20⟩ := z
    refine .nil ?_
    refine .ja (M := [6, 5]) (C' := [0, 1, 8]) (pre := [(7, vSl a24 r13 c20), (8, .agg #[iV a.facts, vSl a23 r12 c19, vSl a24 r13 c20, .slice none 0 0])]) [(1, vP pt), (2, vP pv3)] [1, 2] hL rfl rfl rfl rfl rfl sb rfl rfl (by kernel_rfl) ?_
    refine .ST [9] 9 (.w [] rfl (fa rfl tF25_0) (.w [(6, vP (pt.add 0))] rfl (lB 0 3 tO3) (.w [(7, iV a.facts), (10, vSl a23 r12 c19), (13, vSl a24 r13 c20)] rfl (bld (cs := #[iV a.facts, vSl a23 r12 c19, vSl a24 r13 c20, .slice none 0 0]) (pv := [(0, iV a.facts), (1, vSl a23 r12 c19), (2, vSl a24 r13 c20)]) tB25 rfl rfl) (.nil)))) (.cons [] rfl rfl (fun sL hL => ?_) (.nil))
    refine al tZ25 rfl (fun pout2 => ?_)
    refine .nil ?_
    refine .ja (M := []) (C' := [0, 1, 8]) (pre := [(9, vP pout2)]) [(1, vP pt), (2, vP pv3)] [1, 2] hL rfl rfl rfl rfl rfl sb rfl rfl (by kernel_rfl) ?_
    refine .ST [10] 10 (.w [] rfl (fa rfl tF25_0) (.w [(6, vP (pt.add 0))] rfl (lB 0 4 tO3) (.w [(7, iV a.facts), (10, vSl a23 r12 c19), (13, vSl a24 r13 c20)] rfl (bld (cs := #[iV a.facts, vSl a23 r12 c19, vSl a24 r13 c20, .slice none 0 0]) (pv := [(0, iV a.facts), (1, vSl a23 r12 c19), (2, vSl a24 r13 c20)]) tB25 rfl rfl) (.nil)))) (.cons [(3, vP pout2), (14, .agg #[iV a.facts, vSl a23 r12 c19, vSl a24 r13 c20, .slice none 0 0]), (13, vSl a24 r13 c20), (6, vP (pt.add 0)), (7, iV a.facts), (8, vP (pt.add 1)), (9, vSl aa a.init ca), (10, vSl a23 r12 c19), (11, vP (pt.add 2)), (12, vSl aa2 a.goal ca2), (13, vSl a24 r13 c20), (14, .agg #[iV a.facts, vSl a23 r12 c19, vSl a24 r13 c20, .slice none 0 0]), (3, vP pout2)] rfl rfl (fun sL hL => ?_) (.nil))
    refine st (p := pout2) (off := 0) (k := 0) (vs := [iV a.facts, vSl a23 r12 c19, vSl a24 r13 c20, .slice none 0 0]) rfl rfl rfl (fun w => (tA25 w).2) rfl rfl rfl rfl ?_
    refine .nil ?_
    refine .jaN (M := [8, 0, 1]) (C' := []) (pre := []) [1, 2] hL rfl rfl rfl rfl rfl (by kernel_rfl) ?_
    refine .LA [(6, vP (pt.add 0)), (7, iV a.facts), (8, vP (pt.add 1)), (9, vSl aa a.init ca), (10, vSl a23 r12 c19), (11, vP (pt.add 2)), (12, vSl aa2 a.goal ca2), (13, vSl a24 r13 c20), (14, .agg #[iV a.facts, vSl a23 r12 c19, vSl a24 r13 c20, .slice none 0 0]), (3, vP pout2)] (.nil) ?_
    refine .sel0 [4, 3, 0, 6, 7, 8, 2, 1] (by decide) rfl ?_
    exact .US q6 (r12, r13, pout2, a23, c19, a24, c20) hF
   ·refine al tZ25 rfl (fun pout2 => ?_)
    refine .nil ?_
    refine .ja (M := []) (C' := [0, 1, 5, 6]) (pre := [(9, vP pout2)]) [(1, vP pt), (2, vP pv3)] [1, 2] hL rfl rfl rfl rfl rfl sb rfl rfl (by kernel_rfl) ?_
    refine .ST [7] 7 (.w [] rfl (fa rfl tF25_0) (.w [(6, vP (pt.add 0))] rfl (lB 0 3 tO3) (.w [] rfl (fa rfl tF25_2) (.w [(11, vP (pt.add 2))] rfl (lB 2 3 tO22) (.nil))))) (.cons [(12, vSl aa2 a.goal ca2), (10, vSl a23 r12 c19)] rfl rfl (fun sL hL => ?_) (.nil))
    obtain ⟨q89, hF⟩ := hF
    obtain ⟨r13, q50⟩ : ∃ y_ : List Int, y_ = sp_clone a.goal := ⟨_, rfl⟩
    replace hF := hF r13 q50
    refine clO (α := Option Addr × Nat) (V := fun z => vSl z.1 r13 z.2) (Ψ := fun z => True) (B := fun z => [oL 3 1 z.1 r13 z.2]) Tryz.call26 rfl rfl (fun w S => (by rw [q50]; exact c_cloneO S.sub a.goal aa2 ca2 _q3 _q4 q89)) rfl (fun z _ => ?_)
    obtain ⟨a24, c20⟩ := z
    refine .nil ?_
    refine .ja (M := [6, 5]) (C' := [0, 1, 8]) (pre := [(7, vSl a24 r13 c20), (8, .agg #[iV a.facts, vSl a23 r12 c19, vSl a24 r13 c20, .slice none 0 0])]) [(1, vP pt), (2, vP pv3)] [1, 2] hL rfl rfl rfl rfl rfl sb rfl rfl (by kernel_rfl) ?_
    refine .ST [10] 10 (.w [] rfl (fa rfl tF25_0) (.w [(6, vP (pt.add 0))] rfl (lB 0 4 tO3) (.w [(7, iV a.facts), (10, vSl a23 r12 c19), (13, vSl a24 r13 c20)] rfl (bld (cs := #[iV a.facts, vSl a23 r12 c19, vSl a24 r13 c20, .slice none 0 0]) (pv := [(0, iV a.facts), (1, vSl a23 r12 c19), (2, vSl a24 r13 c20)]) tB25 rfl rfl) (.nil)))) (.cons [(3, vP pout2), (14, .agg #[iV a.facts, vSl a23 r12 c19, vSl a24 r13 c20, .slice none 0 0]), (13, vSl a24 r13 c20), (6, vP (pt.add 0)), (7, iV a.facts), (8, vP (pt.add 1)), (9, vSl aa a.init ca), (10, vSl a23 r12 c19), (11, vP (pt.add 2)), (12, vSl aa2 a.goal ca2), (13, vSl a24 r13 c20), (14, .agg #[iV a.facts, vSl a23 r12 c19, vSl a24 r13 c20, .slice none 0 0]), (3, vP pout2)] rfl rfl (fun sL hL => ?_) (.nil))
    refine st (p := pout2) (off := 0) (k := 1) (vs := [iV a.facts, vSl a23 r12 c19, vSl a24 r13 c20, .slice none 0 0]) rfl rfl rfl (fun w => (tA25 w).2) rfl rfl rfl rfl ?_
    refine .nil ?_
    refine .jaN (M := [8, 0, 1]) (C' := []) (pre := []) [1, 2] hL rfl rfl rfl rfl rfl (by kernel_rfl) ?_
    refine .LA [(6, vP (pt.add 0)), (7, iV a.facts), (8, vP (pt.add 1)), (9, vSl aa a.init ca), (10, vSl a23 r12 c19), (11, vP (pt.add 2)), (12, vSl aa2 a.goal ca2), (13, vSl a24 r13 c20), (14, .agg #[iV a.facts, vSl a23 r12 c19, vSl a24 r13 c20, .slice none 0 0]), (3, vP pout2)] (.nil) ?_
    refine .sel0 [4, 3, 1, 6, 7, 8, 2, 0] (by decide) rfl ?_
    exact .US q6 (r12, r13, pout2, a23, c19, a24, c20) hF
  ·refine al tZ25 rfl (fun pout2 => ?_)
   refine .nil ?_
   refine .ja (M := []) (C' := [0, 1, 2, 3, 5, 6]) (pre := [(9, vP pout2)]) [(1, vP pt), (2, vP pv3)] [1, 2] hL rfl rfl rfl rfl rfl sb rfl rfl (by kernel_rfl) ?_
   refine .ST [4] 4 (.w [] rfl (fa rfl tF25_0) (.w [(6, vP (pt.add 0))] rfl (lB 0 2 tO3) (.w [] rfl (fa rfl tF25_1) (.w [(8, vP (pt.add 1))] rfl (lB 1 2 tO22) (.w [] rfl (fa rfl tF25_2) (.w [(11, vP (pt.add 2))] rfl (lB 2 2 tO22) (.nil))))))) (.cons [(9, vSl aa a.init ca)] rfl rfl (fun sL hL => ?_) (.nil))
   obtain ⟨q90, hF⟩ := hF
   obtain ⟨r12, q51⟩ : ∃ y_ : List Int, y_ = sp_clone a.init := ⟨_, rfl⟩
   replace hF := hF r12 q51
   refine clO (α := Option Addr × Nat) (V := fun z => vSl z.1 r12 z.2) (Ψ := fun z => True) (B := fun z => [oL 3 1 z.1 r12 z.2]) Tryz.call26 rfl rfl (fun w S => (by rw [q51]; exact c_cloneO S.sub a.init aa ca _q1 _q2 q90)) rfl (fun z _ => ?_)
   obtain ⟨a23, c19⟩ := z
   refine .nil ?_
   refine .ja (M := [3, 2]) (C' := [0, 1, 5, 6]) (pre := [(4, vSl a23 r12 c19)]) [(1, vP pt), (2, vP pv3)] [1, 2] hL rfl rfl rfl rfl rfl sb rfl rfl (by kernel_rfl) ?_
   refine .ST [7] 7 (.w [] rfl (fa rfl tF25_0) (.w [(6, vP (pt.add 0))] rfl (lB 0 3 tO3) (.w [] rfl (fa rfl tF25_2) (.w [(11, vP (pt.add 2))] rfl (lB 2 3 tO22) (.nil))))) (.cons [(12, vSl aa2 a.goal ca2), (10, vSl a23 r12 c19)] rfl rfl (fun sL hL => ?_) (.nil))
   obtain ⟨q91, hF⟩ := hF
   obtain ⟨r13, q52⟩ : ∃ y_ : List Int, y_ = sp_clone a.goal := ⟨_, rfl⟩
   replace hF := hF r13 q52
   refine clO (α := Option Addr × Nat) (V := fun z => vSl z.1 r13 z.2) (Ψ := fun z => True) (B := fun z => [oL 3 1 z.1 r13 z.2]) Tryz.call26 rfl rfl (fun w S => (by rw [q52]; exact c_cloneO S.sub a.goal aa2 ca2 _q3 _q4 q91)) rfl (fun z _ => ?_)
   obtain ⟨a24, c20⟩ := z
   refine .nil ?_
   refine .ja (M := [6, 5]) (C' := [0, 1, 8]) (pre := [(7, vSl a24 r13 c20), (8, .agg #[iV a.facts, vSl a23 r12 c19, vSl a24 r13 c20, .slice none 0 0])]) [(1, vP pt), (2, vP pv3)] [1, 2] hL rfl rfl rfl rfl rfl sb rfl rfl (by kernel_rfl) ?_
   refine .ST [10] 10 (.w [] rfl (fa rfl tF25_0) (.w [(6, vP (pt.add 0))] rfl (lB 0 4 tO3) (.w [(7, iV a.facts), (10, vSl a23 r12 c19), (13, vSl a24 r13 c20)] rfl (bld (cs := #[iV a.facts, vSl a23 r12 c19, vSl a24 r13 c20, .slice none 0 0]) (pv := [(0, iV a.facts), (1, vSl a23 r12 c19), (2, vSl a24 r13 c20)]) tB25 rfl rfl) (.nil)))) (.cons [(3, vP pout2), (14, .agg #[iV a.facts, vSl a23 r12 c19, vSl a24 r13 c20, .slice none 0 0]), (13, vSl a24 r13 c20), (6, vP (pt.add 0)), (7, iV a.facts), (8, vP (pt.add 1)), (9, vSl aa a.init ca), (10, vSl a23 r12 c19), (11, vP (pt.add 2)), (12, vSl aa2 a.goal ca2), (13, vSl a24 r13 c20), (14, .agg #[iV a.facts, vSl a23 r12 c19, vSl a24 r13 c20, .slice none 0 0]), (3, vP pout2)] rfl rfl (fun sL hL => ?_) (.nil))
   refine st (p := pout2) (off := 0) (k := 2) (vs := [iV a.facts, vSl a23 r12 c19, vSl a24 r13 c20, .slice none 0 0]) rfl rfl rfl (fun w => (tA25 w).2) rfl rfl rfl rfl ?_
   refine .nil ?_
   refine .jaN (M := [8, 0, 1]) (C' := []) (pre := []) [1, 2] hL rfl rfl rfl rfl rfl (by kernel_rfl) ?_
   refine .LA [(6, vP (pt.add 0)), (7, iV a.facts), (8, vP (pt.add 1)), (9, vSl aa a.init ca), (10, vSl a23 r12 c19), (11, vP (pt.add 2)), (12, vSl aa2 a.goal ca2), (13, vSl a24 r13 c20), (14, .agg #[iV a.facts, vSl a23 r12 c19, vSl a24 r13 c20, .slice none 0 0]), (3, vP pout2)] (.nil) ?_
   refine .sel0 [4, 3, 2, 6, 7, 8, 1, 0] (by decide) rfl ?_
   exact .US q6 (r12, r13, pout2, a23, c19, a24, c20) hF
 refine .region (.V mv0 ?_)
 refine .V (fa rfl tF25_0) ?_
 refine .V (lB 0 4 tO3) ?_
 refine .V bi0 ?_
 refine .V bi0 ?_
 refine .V mv0 ?_
 rcases Bool.eq_false_or_eq_true (decide (24 < (wr (a.facts + b.facts)))) with q0 | q0
 ·replace hF := hF.1 q0
  refine .GS q0 ?_
  refine .GS q0 ?_
  refine .GS q0 ?_
  refine .GS q0 ?_
  refine .GS q0 ?_
  refine .GS q0 ?_
  refine .GS q0 ?_
  refine .GS q0 ?_
  refine .V (pkT rfl q0 rfl) ?_
  refine .nil ?_
  refine .sel0 [5, 4, 3, 2] (by decide) rfl ?_
  exact .US q31 true hF
 replace hF := hF.2 q0
 refine .GV (fa rfl tF25_3) q0 ?_
 refine .GV (lB 3 5 tO23) q0 ?_
 refine .GV (ln rfl tS23.is) q0 ?_
 refine .GV (fa rfl tF25_3) q0 ?_
 refine .GV (lB 3 4 tO23) q0 ?_
 refine .GV (ln rfl tS23.is) q0 ?_
 obtain ⟨x, q53⟩ : ∃ y_ : Int, y_ = (wr (((a.ops.length : Nat) : Int) + ((b.ops.length : Nat) : Int))) := ⟨_, rfl⟩
 replace hF := hF x q53
 refine .gv (v := iV x) (by rw [q53]; exact bi rfl rfl rfl) rfl rfl rfl q0 rfl rfl ?_
 refine .GV bi0 q0 ?_
 refine .V (pkF rfl q0 rfl) ?_
 refine .nil ?_
 refine .sel0 [5, 4, 3, 2] (by decide) rfl ?_
 exact .US q31 (decide (40 < x)) hF
theorem c_product {h : FH} {w : World} (hs : Sub h w) (a : Task) (aa : Option Addr) (ca : Nat) (_q1 : RSl h aa a.init) (_q2 : a.init.length ≤ ca) (aa2 : Option Addr) (ca2 : Nat) (_q3 : RSl h aa2 a.goal) (_q4 : a.goal.length ≤ ca2) (aa3 : Option Addr) (ca3 : Nat) (_q5 : RSl h aa3 a.ops) (_q6 : a.ops.length ≤ ca3) (b : Task) (ab : Option Addr) (cb : Nat) (_q7 : RSl h ab b.init) (_q8 : b.init.length ≤ cb) (ab2 : Option Addr) (cb2 : Nat) (_q9 : RSl h ab2 b.goal) (_q10 : b.goal.length ≤ cb2) (ab3 : Option Addr) (cb3 : Nat) (_q11 : RSl h ab3 b.ops) (_q12 : b.ops.length ≤ cb3) : Calls Tryz.prog 5 #[.agg #[iV a.facts, .slice aa a.init.length ca, .slice aa2 a.goal.length ca2, .slice aa3 a.ops.length ca3], .agg #[iV b.facts, .slice ab b.init.length cb, .slice ab2 b.goal.length cb2, .slice ab3 b.ops.length cb3]] w fun e w' => ∃ (z : Option Addr × Nat × Option Addr × Nat × Option Addr × Nat) (h1 : FH), e = .returned (.tuple #[.agg #[iV (sp_product a b).1.facts, .slice z.1 (sp_product a b).1.init.length z.2.1, .slice z.2.2.1 (sp_product a b).1.goal.length z.2.2.2.1, .slice z.2.2.2.2.1 (sp_product a b).1.ops.length z.2.2.2.2.2], .agg #[iV (sp_product a b).2.code, iV (sp_product a b).2.index]]) ∧ FH.le h h1 ∧ (RSl h1 z.1 (sp_product a b).1.init ∧ (sp_product a b).1.init.length ≤ z.2.1 ∧ RSl h1 z.2.2.1 (sp_product a b).1.goal ∧ (sp_product a b).1.goal.length ≤ z.2.2.2.1 ∧ RSl h1 z.2.2.2.2.1 (sp_product a b).1.ops ∧ (sp_product a b).1.ops.length ≤ z.2.2.2.2.2) ∧ SH (Kp.all w h) h1 w' [] :=
 (w_product hs a aa ca _q1 _q2 aa2 ca2 _q3 _q4 aa3 ca3 _q5 _q6 b ab cb _q7 _q8 ab2 cb2 _q9 _q10 ab3 cb3 _q11 _q12 (fun r => r = sp_product a b) (ok_product a b)).mono fun _ _ ⟨r, z, h1, hk, he, hl, hf, hS⟩ => by subst hk; exact ⟨z, h1, he, hl, hf, hS⟩
theorem w_freeOp {h : FH} {w : World} (hs : Sub h w) (x : Operator) (ax : Option Addr) (cx : Nat) (_q1 : RSl h ax x.pre) (_q2 : x.pre.length ≤ cx) (ax2 : Option Addr) (cx2 : Nat) (_q3 : RSl h ax2 x.add) (_q4 : x.add.length ≤ cx2) (ax3 : Option Addr) (cx3 : Nat) (_q5 : RSl h ax3 x.del) (_q6 : x.del.length ≤ cx3) (y : Operator) (ay : Option Addr) (cy : Nat) (_q7 : RSl h ay y.pre) (_q8 : y.pre.length ≤ cy) (ay2 : Option Addr) (cy2 : Nat) (_q9 : RSl h ay2 y.add) (_q10 : y.add.length ≤ cy2) (ay3 : Option Addr) (cy3 : Nat) (_q11 : RSl h ay3 y.del) (_q12 : y.del.length ≤ cy3) (K : Bool → Prop) (hF : F_freeOp x y K) : Calls Tryz.prog 117 #[.agg #[.slice ax x.pre.length cx, .slice ax2 x.add.length cx2, .slice ax3 x.del.length cx3, iV x.cost], .agg #[.slice ay y.pre.length cy, .slice ay2 y.add.length cy2, .slice ay3 y.del.length cy3, iV y.cost]] w fun e w' => ∃ r : Bool, K r ∧ e = .returned (.bool r) ∧ Below w.heap.size w w' := by
 refine enter (args := [.agg #[vSl ax x.pre cx, vSl ax2 x.add cx2, vSl ax3 x.del cx3, iV x.cost], .agg #[vSl ay y.pre cy, vSl ay2 y.add cy2, vSl ay3 y.del cy3, iV y.cost]]) Tryz.func117 rfl Tryz.ntmps117 rfl hs ?_
 refine .seq (.region ?_)
 refine bx (vs := [vSl ax x.pre cx, vSl ax2 x.add cx2, vSl ax3 x.del cx3, iV x.cost]) rfl rfl rfl (fun px => ?_)
 refine bx (vs := [vSl ay y.pre cy, vSl ay2 y.add cy2, vSl ay3 y.del cy3, iV y.cost]) rfl rfl rfl (fun py => ?_)
 refine .V ag0 ?_
 refine .nil (.seqN (.seq (.region (.V (fa rfl tF52_1) ?_))))
 refine .V (lB 1 1 tO22) ?_
 refine .V (fa rfl tF52_0) ?_
 refine .V (lB 0 0 tO22) ?_
 obtain ⟨q5, hF⟩ := hF
 obtain ⟨r2, q2⟩ : ∃ y_ : Bool, y_ = sp_meets x.add y.pre := ⟨_, rfl⟩
 replace hF := hF r2 q2
 refine .C (cl (v := .bool r2) Tryz.call73 rfl rfl (fun w S => (by rw [q2]; exact c_meets S.sub x.add ax2 cx2 _q3 _q4 y.pre ay cy _q7 _q8 q5))) ?_
 refine .V (nt rfl) ?_
 refine .V mv0 ?_
 rcases Bool.eq_false_or_eq_true (!r2) with q0 | q0
 ·replace hF := hF.1 q0
  refine .GV (fa rfl tF52_2) q0 ?_
  refine .GV (lB 2 1 tO22) q0 ?_
  refine .GV (fa rfl tF52_0) q0 ?_
  refine .GV (lB 0 0 tO22) q0 ?_
  obtain ⟨q6, hF⟩ := hF
  obtain ⟨r3, q3⟩ : ∃ y_ : Bool, y_ = sp_meets x.del y.pre := ⟨_, rfl⟩
  replace hF := hF r3 q3
  refine .gc (cl (v := .bool r3) Tryz.call73 rfl rfl (fun w S => (by rw [q3]; exact c_meets S.sub x.del ax3 cx3 _q5 _q6 y.pre ay cy _q7 _q8 q6))) rfl rfl rfl q0 rfl rfl ?_
  refine .GV (nt rfl) q0 ?_
  refine .V (pkT rfl q0 rfl) ?_
  refine .V mv0 ?_
  rcases Bool.eq_false_or_eq_true (!r3) with q1 | q1
  ·replace hF := hF.1 q1
   refine .GV (fa rfl tF52_1) q1 ?_
   refine .GV (lB 1 1 tO22) q1 ?_
   refine .GV (fa rfl tF52_2) q1 ?_
   refine .GV (lB 2 0 tO22) q1 ?_
   obtain ⟨q7, hF⟩ := hF
   obtain ⟨r4, q4⟩ : ∃ y_ : Bool, y_ = sp_meets x.add y.del := ⟨_, rfl⟩
   replace hF := hF r4 q4
   refine .gc (cl (v := .bool r4) Tryz.call73 rfl rfl (fun w S => (by rw [q4]; exact c_meets S.sub x.add ax2 cx2 _q3 _q4 y.del ay3 cy3 _q11 _q12 q7))) rfl rfl rfl q1 rfl rfl ?_
   refine .GV (nt rfl) q1 ?_
   refine .V (pkT rfl q1 rfl) ?_
   refine .V ag0 ?_
   refine .nil (.seqN (.ret ?_))
   refine .res1 rfl (rvT rfl) (fun w' S => ⟨!r4, hF, rfl, S.below⟩)
  replace hF := hF.2 q1
  refine .GS q1 ?_
  refine .GS q1 ?_
  refine .GS q1 ?_
  refine .GS q1 ?_
  refine .GS q1 ?_
  refine .GS q1 ?_
  refine .V (pkF rfl q1 rfl) ?_
  refine .V ag0 ?_
  refine .nil (.seqN (.ret ?_))
  refine .res1 rfl (rvT rfl) (fun w' S => ⟨false, hF, rfl, S.below⟩)
 replace hF := hF.2 q0
 refine .GS q0 ?_
 refine .GS q0 ?_
 refine .GS q0 ?_
 refine .GS q0 ?_
 refine .GS q0 ?_
 refine .GS q0 ?_
 refine .V (pkF rfl q0 rfl) ?_
 refine .V mv0 ?_
 refine .GT ?_
 refine .GT ?_
 refine .GT ?_
 refine .GT ?_
 refine .GT ?_
 refine .GT ?_
 refine .V (pkF rfl rfl rfl) ?_
 refine .V ag0 ?_
 refine .nil (.seqN (.ret ?_))
 refine .res1 rfl (rvT rfl) (fun w' S => ⟨false, hF, rfl, S.below⟩)
theorem c_freeOp {h : FH} {w : World} (hs : Sub h w) (x : Operator) (ax : Option Addr) (cx : Nat) (_q1 : RSl h ax x.pre) (_q2 : x.pre.length ≤ cx) (ax2 : Option Addr) (cx2 : Nat) (_q3 : RSl h ax2 x.add) (_q4 : x.add.length ≤ cx2) (ax3 : Option Addr) (cx3 : Nat) (_q5 : RSl h ax3 x.del) (_q6 : x.del.length ≤ cx3) (y : Operator) (ay : Option Addr) (cy : Nat) (_q7 : RSl h ay y.pre) (_q8 : y.pre.length ≤ cy) (ay2 : Option Addr) (cy2 : Nat) (_q9 : RSl h ay2 y.add) (_q10 : y.add.length ≤ cy2) (ay3 : Option Addr) (cy3 : Nat) (_q11 : RSl h ay3 y.del) (_q12 : y.del.length ≤ cy3) (hp : pre_freeOp x y) : Calls Tryz.prog 117 #[.agg #[.slice ax x.pre.length cx, .slice ax2 x.add.length cx2, .slice ax3 x.del.length cx3, iV x.cost], .agg #[.slice ay y.pre.length cy, .slice ay2 y.add.length cy2, .slice ay3 y.del.length cy3, iV y.cost]] w fun e w' => e = .returned (.bool (sp_freeOp x y)) ∧ Below w.heap.size w w' :=
 (w_freeOp hs x ax cx _q1 _q2 ax2 cx2 _q3 _q4 ax3 cx3 _q5 _q6 y ay cy _q7 _q8 ay2 cy2 _q9 _q10 ay3 cy3 _q11 _q12 (fun r => r = sp_freeOp x y) (ok_freeOp x y hp)).mono fun _ _ ⟨_, hk, he, hb⟩ => ⟨by rw [he, hk], hb⟩
theorem w_indep {h : FH} {w : World} (hs : Sub h w) (a : Operator) (aa : Option Addr) (ca : Nat) (_q1 : RSl h aa a.pre) (_q2 : a.pre.length ≤ ca) (aa2 : Option Addr) (ca2 : Nat) (_q3 : RSl h aa2 a.add) (_q4 : a.add.length ≤ ca2) (aa3 : Option Addr) (ca3 : Nat) (_q5 : RSl h aa3 a.del) (_q6 : a.del.length ≤ ca3) (b : Operator) (ab : Option Addr) (cb : Nat) (_q7 : RSl h ab b.pre) (_q8 : b.pre.length ≤ cb) (ab2 : Option Addr) (cb2 : Nat) (_q9 : RSl h ab2 b.add) (_q10 : b.add.length ≤ cb2) (ab3 : Option Addr) (cb3 : Nat) (_q11 : RSl h ab3 b.del) (_q12 : b.del.length ≤ cb3) (K : Bool → Prop) (hF : F_indep a b K) : Calls Tryz.prog 91 #[.agg #[.slice aa a.pre.length ca, .slice aa2 a.add.length ca2, .slice aa3 a.del.length ca3, iV a.cost], .agg #[.slice ab b.pre.length cb, .slice ab2 b.add.length cb2, .slice ab3 b.del.length cb3, iV b.cost]] w fun e w' => ∃ r : Bool, K r ∧ e = .returned (.bool r) ∧ Below w.heap.size w w' := by
 refine enter (args := [.agg #[vSl aa a.pre ca, vSl aa2 a.add ca2, vSl aa3 a.del ca3, iV a.cost], .agg #[vSl ab b.pre cb, vSl ab2 b.add cb2, vSl ab3 b.del cb3, iV b.cost]]) Tryz.func91 rfl Tryz.ntmps91 rfl hs ?_
 refine .seq (.region ?_)
 refine bx (vs := [vSl aa a.pre ca, vSl aa2 a.add ca2, vSl aa3 a.del ca3, iV a.cost]) rfl rfl rfl (fun pa => ?_)
 refine bx (vs := [vSl ab b.pre cb, vSl ab2 b.add cb2, vSl ab3 b.del cb3, iV b.cost]) rfl rfl rfl (fun pb => ?_)
 refine .V ag0 ?_
 refine .nil (.seqN (.seq (.region (.V ag0 ?_))))
 refine .nil (.seqN (.seq (.region (.V mv0 ?_))))
 refine .V (ldA (cs := [vSl aa a.pre ca, vSl aa2 a.add ca2, vSl aa3 a.del ca3, iV a.cost]) rfl tA52 rfl (cellsB (off := 0) (k := 1) rfl (m := 4) rfl)) ?_
 refine .V (ldA (cs := [vSl ab b.pre cb, vSl ab2 b.add cb2, vSl ab3 b.del cb3, iV b.cost]) rfl tA52 rfl (cellsB (off := 0) (k := 0) rfl (m := 4) rfl)) ?_
 obtain ⟨q3, hF⟩ := hF
 obtain ⟨r2, q1⟩ : ∃ y_ : Bool, y_ = sp_freeOp a b := ⟨_, rfl⟩
 replace hF := hF r2 q1
 refine .C (cl (v := .bool r2) Tryz.call117 rfl rfl (fun w S => (by rw [q1]; exact c_freeOp S.sub a aa ca _q1 _q2 aa2 ca2 _q3 _q4 aa3 ca3 _q5 _q6 b ab cb _q7 _q8 ab2 cb2 _q9 _q10 ab3 cb3 _q11 _q12 q3))) ?_
 refine .V mv0 ?_
 rcases Bool.eq_false_or_eq_true (r2) with q0 | q0
 ·replace hF := hF.1 q0
  refine .GV mv0 q0 ?_
  refine .GV (ldA (cs := [vSl ab b.pre cb, vSl ab2 b.add cb2, vSl ab3 b.del cb3, iV b.cost]) rfl tA52 rfl (cellsB (off := 0) (k := 0) rfl (m := 4) rfl)) q0 ?_
  refine .GV (ldA (cs := [vSl aa a.pre ca, vSl aa2 a.add ca2, vSl aa3 a.del ca3, iV a.cost]) rfl tA52 rfl (cellsB (off := 0) (k := 1) rfl (m := 4) rfl)) q0 ?_
  obtain ⟨q4, hF⟩ := hF
  obtain ⟨r3, q2⟩ : ∃ y_ : Bool, y_ = sp_freeOp b a := ⟨_, rfl⟩
  replace hF := hF r3 q2
  refine .gc (cl (v := .bool r3) Tryz.call117 rfl rfl (fun w S => (by rw [q2]; exact c_freeOp S.sub b ab cb _q7 _q8 ab2 cb2 _q9 _q10 ab3 cb3 _q11 _q12 a aa ca _q1 _q2 aa2 ca2 _q3 _q4 aa3 ca3 _q5 _q6 q4))) rfl rfl rfl q0 rfl rfl ?_
  refine .V (pkT rfl q0 rfl) ?_
  refine .V ag0 ?_
  refine .nil (.seqN (.ret ?_))
  refine .res1 rfl (rvT rfl) (fun w' S => ⟨r3, hF, rfl, S.below⟩)
 replace hF := hF.2 q0
 refine .GS q0 ?_
 refine .GS q0 ?_
 refine .GS q0 ?_
 refine .GS q0 ?_
 refine .V (pkF rfl q0 rfl) ?_
 refine .V ag0 ?_
 refine .nil (.seqN (.ret ?_))
 refine .res1 rfl (rvT rfl) (fun w' S => ⟨false, hF, rfl, S.below⟩)
theorem c_indep {h : FH} {w : World} (hs : Sub h w) (a : Operator) (aa : Option Addr) (ca : Nat) (_q1 : RSl h aa a.pre) (_q2 : a.pre.length ≤ ca) (aa2 : Option Addr) (ca2 : Nat) (_q3 : RSl h aa2 a.add) (_q4 : a.add.length ≤ ca2) (aa3 : Option Addr) (ca3 : Nat) (_q5 : RSl h aa3 a.del) (_q6 : a.del.length ≤ ca3) (b : Operator) (ab : Option Addr) (cb : Nat) (_q7 : RSl h ab b.pre) (_q8 : b.pre.length ≤ cb) (ab2 : Option Addr) (cb2 : Nat) (_q9 : RSl h ab2 b.add) (_q10 : b.add.length ≤ cb2) (ab3 : Option Addr) (cb3 : Nat) (_q11 : RSl h ab3 b.del) (_q12 : b.del.length ≤ cb3) (hp : pre_indep a b) : Calls Tryz.prog 91 #[.agg #[.slice aa a.pre.length ca, .slice aa2 a.add.length ca2, .slice aa3 a.del.length ca3, iV a.cost], .agg #[.slice ab b.pre.length cb, .slice ab2 b.add.length cb2, .slice ab3 b.del.length cb3, iV b.cost]] w fun e w' => e = .returned (.bool (sp_indep a b)) ∧ Below w.heap.size w w' :=
 (w_indep hs a aa ca _q1 _q2 aa2 ca2 _q3 _q4 aa3 ca3 _q5 _q6 b ab cb _q7 _q8 ab2 cb2 _q9 _q10 ab3 cb3 _q11 _q12 (fun r => r = sp_indep a b) (ok_indep a b hp)).mono fun _ _ ⟨_, hk, he, hb⟩ => ⟨by rw [he, hk], hb⟩
theorem w_missingF {h : FH} {w : World} (hs : Sub h w) (s_ : List Int) (as_ : Option Addr) (cs_ : Nat) (_q1 : RSl h as_ s_) (_q2 : s_.length ≤ cs_) (want : List Int) (awant : Option Addr) (cwant : Nat) (_q3 : RSl h awant want) (_q4 : want.length ≤ cwant) (K : Int → Prop) (hF : F_missingF s_ want K) : Calls Tryz.prog 85 #[.slice as_ s_.length cs_, .slice awant want.length cwant] w fun e w' => ∃ r : Int, K r ∧ e = .returned (iV r) ∧ Below w.heap.size w w' := by
 refine enter (args := [vSl as_ s_ cs_, vSl awant want cwant]) Tryz.func85 rfl Tryz.ntmps85 rfl hs ?_
 refine .seq (.region (.V ag0 ?_))
 refine .nil (.seqN (.seq (.seq (.region (.V mv0 ?_)))))
 refine .V (ln rfl tS22.is) ?_
 refine .V mv0 ?_
 refine .nil (.seqN (.block ?_))
 obtain ⟨I1, μ1, q0, q5⟩ := hF
 refine .loop' (σ := Int) (fun z => I1 z) (fun z => μ1 z) (fun z => [(0, vSl as_ s_ cs_), (9, vSl awant want cwant), (10, iV ((want.length : Nat) : Int)), (11, iV z)]) (fun _ => []) (fun _ => h) 0 q0 sb rfl (FH.le_refl _) ?_
 rintro t11 q0
 have hF := q5 t11 q0
 show J _ _ _ _ _ [(0, vSl as_ s_ cs_), (9, vSl awant want cwant), (10, iV ((want.length : Nat) : Int)), (11, iV t11)] [] h
 refine .seq (.region (.V bi0 ?_))
 refine .nil (.seqN (.seq ?_))
 refine .cond rfl (fun q1 => ?_) (fun q1 => ?_)
 ·replace hF := hF.1 q1
  refine .skip (.seqN (.seq (.block (.seq (.region ?_)))))
  obtain ⟨q2, hF⟩ := hF
  refine .V (ix rfl rfl tS22 (_q3.ne (by decide) (inb_pos q2)) q2) ?_
  refine .V (ld1 (v := iV (gt want t11)) rfl tO3 (cellH (_q3.elemF q2 (by decide) 0 _ rfl))) ?_
  refine .V ag0 ?_
  refine .nil (.seqN (.seq (.region (.V mv0 ?_))))
  refine .V mv0 ?_
  obtain ⟨q6, hF⟩ := hF
  obtain ⟨r2, q4⟩ : ∃ y_ : Int × Bool, y_ = sp_bsearch s_ (gt want t11) := ⟨_, rfl⟩
  replace hF := hF r2 q4
  refine .C (cl (v := .tuple #[iV r2.1, .bool r2.2]) Tryz.call105 rfl rfl (fun w S => (by rw [q4]; exact c_bsearch S.sub s_ as_ cs_ _q1 _q2 (gt want t11) q6))) ?_
  refine .V mv0 ?_
  refine .V (ext rfl rfl) ?_
  refine .V (ext rfl rfl) ?_
  refine .V ag0 ?_
  refine .V ag0 ?_
  refine .nil (.seqN (.seq (.region (.V mv0 ?_))))
  refine .V (nt rfl) ?_
  refine .nil (.seqN ?_)
  refine .cond rfl (fun q3 => ?_) (fun q3 => ?_)
  ·replace hF := hF.1 q3
   refine .seq (.region (.V mv0 ?_))
   refine .V ag0 ?_
   refine .nil (.seqN (.ret (.blkR (.seqR (.seqR (.blkR (.seqR ?_)))))))
   refine .res1 rfl (rvT rfl) (fun w' S => ⟨(gt want t11), hF, rfl, S.below⟩)
  replace hF := hF.2 q3
  refine .skip (.blkN (.seqN (.region (.V bi0 ?_))))
  refine .V mv0 ?_
  refine .nil ?_
  exact .RO (wr (t11 + 1)) hF.1 hF.2
 replace hF := hF.2 q1
 refine .exit (.seqX (.seqX (.blkX (.seqN (.seq (.region (.V ag0 ?_)))))))
 refine .nil (.seqN (.ret ?_))
 refine .res1 rfl (rvT rfl) (fun w' S => ⟨(-1), hF, rfl, S.below⟩)
theorem c_missingF {h : FH} {w : World} (hs : Sub h w) (s_ : List Int) (as_ : Option Addr) (cs_ : Nat) (_q1 : RSl h as_ s_) (_q2 : s_.length ≤ cs_) (want : List Int) (awant : Option Addr) (cwant : Nat) (_q3 : RSl h awant want) (_q4 : want.length ≤ cwant) (hp : pre_missingF s_ want) : Calls Tryz.prog 85 #[.slice as_ s_.length cs_, .slice awant want.length cwant] w fun e w' => e = .returned (iV (sp_missingF s_ want)) ∧ Below w.heap.size w w' :=
 (w_missingF hs s_ as_ cs_ _q1 _q2 want awant cwant _q3 _q4 (fun r => r = sp_missingF s_ want) (ok_missingF s_ want hp)).mono fun _ _ ⟨_, hk, he, hb⟩ => ⟨by rw [he, hk], hb⟩
theorem w_wordC {h : FH} {w : World} (hs : Sub h w) (s_ : List Int) (as_ : Option Addr) (cs_ : Nat) (_q1 : RSl h as_ s_) (_q2 : s_.length ≤ cs_) (K : Int → Prop) (hF : F_wordC s_ K) : Calls Tryz.prog 51 #[.slice as_ s_.length cs_] w fun e w' => ∃ r : Int, K r ∧ e = .returned (iV r) ∧ Below w.heap.size w w' := by
 refine enter (args := [vSl as_ s_ cs_]) Tryz.func51 rfl Tryz.ntmps51 rfl hs ?_
 refine .seq (.region (.V ag0 ?_))
 refine .nil (.seqN (.seq (.region (.V ag0 ?_))))
 refine .nil (.seqN (.seq (.seq (.region (.V mv0 ?_)))))
 refine .V (ln rfl tS22.is) ?_
 refine .V mv0 ?_
 refine .nil (.seqN (.block ?_))
 obtain ⟨I1, μ1, q0, q4⟩ := hF
 refine .loop' (σ := Int × Int) (fun z => I1 z.1 z.2) (fun z => μ1 z.1 z.2) (fun z => [(3, iV z.1), (6, vSl as_ s_ cs_), (7, iV ((s_.length : Nat) : Int)), (8, iV z.2)]) (fun _ => []) (fun _ => h) (0, 0) q0 sb rfl (FH.le_refl _) ?_
 rintro ⟨w_, t8⟩ q0
 have hF := q4 w_ t8 q0
 show J _ _ _ _ _ [(3, iV w_), (6, vSl as_ s_ cs_), (7, iV ((s_.length : Nat) : Int)), (8, iV t8)] [] h
 refine .seq (.region (.V bi0 ?_))
 refine .nil (.seqN (.seq ?_))
 refine .cond rfl (fun q1 => ?_) (fun q1 => ?_)
 ·replace hF := hF.1 q1
  refine .skip (.seqN (.seq (.block (.seq (.region ?_)))))
  obtain ⟨q2, hF⟩ := hF
  refine .V (ix rfl rfl tS22 (_q1.ne (by decide) (inb_pos q2)) q2) ?_
  refine .V (ld1 (v := iV (gt s_ t8)) rfl tO3 (cellH (_q1.elemF q2 (by decide) 0 _ rfl))) ?_
  refine .V ag0 ?_
  refine .nil (.seqN (.region (.V mv0 ?_)))
  refine .V mv0 ?_
  obtain ⟨q5, hF⟩ := hF
  obtain ⟨x, q3⟩ : ∃ y_ : Int, y_ = (wr (1 * 2 ^ (min (((gt s_ t8) : Int)).toNat (IntKind.bits .i64)))) := ⟨_, rfl⟩
  replace hF := hF x q3
  refine .v (v := iV x) (by rw [q3]; exact bsh rfl rfl q5 rfl) rfl rfl rfl ?_
  refine .V bi0 ?_
  refine .V ag0 ?_
  refine .nil (.blkN (.seqN (.region (.V bi0 ?_))))
  refine .V mv0 ?_
  refine .nil ?_
  exact .RO (bits .or .i64 w_ x, wr (t8 + 1)) hF.1 hF.2
 replace hF := hF.2 q1
 refine .exit (.seqX (.seqX (.blkX (.seqN (.seq (.region (.V mv0 ?_)))))))
 refine .V ag0 ?_
 refine .nil (.seqN (.ret ?_))
 refine .res1 rfl (rvT rfl) (fun w' S => ⟨w_, hF, rfl, S.below⟩)
theorem c_wordC {h : FH} {w : World} (hs : Sub h w) (s_ : List Int) (as_ : Option Addr) (cs_ : Nat) (_q1 : RSl h as_ s_) (_q2 : s_.length ≤ cs_) (hp : pre_wordC s_) : Calls Tryz.prog 51 #[.slice as_ s_.length cs_] w fun e w' => e = .returned (iV (sp_wordC s_)) ∧ Below w.heap.size w w' :=
 (w_wordC hs s_ as_ cs_ _q1 _q2 (fun r => r = sp_wordC s_) (ok_wordC s_ hp)).mono fun _ _ ⟨_, hk, he, hb⟩ => ⟨by rw [he, hk], hb⟩
theorem w_pathC {h : FH} {w : World} (hs : Sub h w) (nodes : List Node) (anodes : Option Addr) (cnodes : Nat) (_q1 : RSl h anodes nodes) (_q2 : nodes.length ≤ cnodes) (k : Int) (K : (List Int) → Prop) (hF : F_pathC nodes k K) : Calls Tryz.prog 56 #[.slice anodes nodes.length cnodes, iV k] w fun e w' => ∃ (r : List Int) (z : Option Addr × Nat) (h1 : FH), K r ∧ e = .returned (.slice z.1 r.length z.2) ∧ FH.le h h1 ∧ (RSl h1 z.1 r ∧ r.length ≤ z.2) ∧ SH (Kp.all w h) h1 w' [] := by
 refine enter (args := [vSl anodes nodes cnodes, iV k]) Tryz.func56 rfl Tryz.ntmps56 rfl hs ?_
 refine .seq (.region (.V ag0 ?_))
 refine .nil (.seqN (.seq (.region (.V ag0 ?_))))
 refine .nil (.seqN (.seq (.block ?_)))
 refine .nilSl 3 1 ?_
 refine .KA [oL 3 1 none ([] : List Int) 0] ?_
 obtain ⟨I1, μ1, q1, q8⟩ := hF
 refine .loop' (σ := Int × List Int × Option Addr × Nat) (fun z => I1 z.1 z.2.1) (fun z => μ1 z.1 z.2.1) (fun z => [(0, vSl anodes nodes cnodes), (1, iV z.1), (5, vSl z.2.2.1 z.2.1 z.2.2.2)]) (fun z => [oL 3 1 z.2.2.1 z.2.1 z.2.2.2]) (fun _ => h) (k, ([] : List Int), none, 0) q1 sb rfl (FH.le_refl _) ?_
 rintro ⟨k2, out, aout, cout⟩ q1
 have hF := q8 k2 out q1
 show J _ _ _ _ _ [(0, vSl anodes nodes cnodes), (1, iV k2), (5, vSl aout out cout)] [oL 3 1 aout out cout] h
 refine .seq (.seq (.region (.V mv0 ?_)))
 refine .V mv0 ?_
 obtain ⟨q0, hF⟩ := hF
 refine .V (ix rfl rfl tS113 (_q1.ne (by decide) (inb_pos q0)) q0) ?_
 refine .V (fa rfl tF112_2) ?_
 obtain ⟨_, ⟨a, c, rfl, q12, q13⟩, q2⟩ := _q1.elem q0
 refine .V (ld1 (v := iV ((gt nodes k2).parent)) rfl tO3 (cellH (q2 (by decide) 2 _ rfl))) ?_
 refine .V bi0 ?_
 refine .nil (.seqN ?_)
 refine .cond rfl (fun q3 => ?_) (fun q3 => ?_)
 ·replace hF := hF.1 q3
  refine .skip (.seqN (.seq (.block (.region (.V mv0 ?_)))))
  refine .V mv0 ?_
  refine .V mv0 ?_
  refine .V (ix rfl rfl tS113 (_q1.ne (by decide) (inb_pos q0)) q0) ?_
  refine .V (fa rfl tF112_3) ?_
  refine .V (ld1 (v := iV ((gt nodes k2).op)) rfl tO3 (cellH (q2 (by decide) 3 _ rfl))) ?_
  refine bs2 (cs := #[iV ((gt nodes k2).op)]) (pv := [(0, iV ((gt nodes k2).op))]) tS22 rfl rfl (by decide) (by decide) rfl rfl rfl (fun a2 _ => ?_)
  refine .KA [oL 3 1 a2 ([(gt nodes k2).op] : List Int) 1, oL 3 1 aout out cout] ?_
  obtain ⟨q6, hF⟩ := hF
  have q4 : out.length + ([(gt nodes k2).op] : List Int).length = ((out ++ ([(gt nodes k2).op] : List Int))).length := len_app rfl rfl
  refine app (k := 1) (news := flL ([(gt nodes k2).op] : List Int)) (cs' := flL (out ++ ([(gt nodes k2).op] : List Int))) (nm := ((out ++ ([(gt nodes k2).op] : List Int))).length) tS22 rfl (by decide) rfl rfl rfl ((flL_len _).trans rfl) (srcS (k := 0) rfl) (flL_one _) (room_of q4 q6).1 (room_of q4 q6).2 q4 (flL_append _ _).symm rfl (fun a3 c2 => ?_)
  refine .KA [oL 3 1 a2 ([(gt nodes k2).op] : List Int) 1, oL 3 1 a3 (out ++ ([(gt nodes k2).op] : List Int)) c2] ?_
  refine .V ag0 ?_
  refine .nil (.blkN (.seqN (.region (.V mv0 ?_))))
  refine .V mv0 ?_
  refine .V (ix rfl rfl tS113 (_q1.ne (by decide) (inb_pos q0)) q0) ?_
  refine .V (fa rfl tF112_2) ?_
  refine .V (ld1 (v := iV ((gt nodes k2).parent)) rfl tO3 (cellH (q2 (by decide) 2 _ rfl))) ?_
  refine .V ag0 ?_
  refine .nil ?_
  refine .sel0 [1] (by decide) rfl ?_
  exact .RO ((gt nodes k2).parent, (out ++ ([(gt nodes k2).op] : List Int)), a3, c2) hF.1 hF.2
 replace hF := hF.2 q3
 refine .exit (.seqX (.seqX (.blkX (.seqN (.seq (.region (.V mv0 ?_)))))))
 obtain ⟨q9, hF⟩ := hF
 obtain ⟨r2, q5⟩ : ∃ y_ : List Int, y_ = sp_reverse out := ⟨_, rfl⟩
 replace hF := hF r2 q5
 refine callX (k := 0) (v := .tuple #[]) (X' := OwnSl 3 1 aout out.length cout (flL r2)) rfl Tryz.call84 rfl rfl (fun w g hx sg hd hs' => ?_) rfl ?_
 ·rw [q5]; exact c_reverse hs' out aout cout hx sg hd q9
 have q7 : r2.length = out.length := by rw [q5]; exact (sp_reverse_len out).trans rfl
 refine .KA [OwnSl 3 1 aout out.length cout (flL r2)] ?_
 refine .nil (.seqN (.seq (.region (.V mv0 ?_))))
 refine .V ag0 ?_
 refine .nil (.seqN ?_)
 refine .freezeL (k := 0) rfl (fun h1 le1 q10 q11 => ?_)
 refine .KA [tru] ?_
 refine .ret ?_
 refine .res1 rfl (rvT rfl) (fun w' S => ⟨r2, (aout, cout), h1, hF, (by simp only [q7] <;> rfl), (le1), ⟨(RSl.of q11), (by rw [q7]; exact q10)⟩, S.none⟩)
theorem c_pathC {h : FH} {w : World} (hs : Sub h w) (nodes : List Node) (anodes : Option Addr) (cnodes : Nat) (_q1 : RSl h anodes nodes) (_q2 : nodes.length ≤ cnodes) (k : Int) (hp : pre_pathC nodes k) : Calls Tryz.prog 56 #[.slice anodes nodes.length cnodes, iV k] w fun e w' => ∃ (z : Option Addr × Nat) (h1 : FH), e = .returned (.slice z.1 (sp_pathC nodes k).length z.2) ∧ FH.le h h1 ∧ (RSl h1 z.1 (sp_pathC nodes k) ∧ (sp_pathC nodes k).length ≤ z.2) ∧ SH (Kp.all w h) h1 w' [] :=
 (w_pathC hs nodes anodes cnodes _q1 _q2 k (fun r => r = sp_pathC nodes k) (ok_pathC nodes k hp)).mono fun _ _ ⟨r, z, h1, hk, he, hl, hf, hS⟩ => by subst hk; exact ⟨z, h1, he, hl, hf, hS⟩
set_option maxHeartbeats 8000000 in
theorem w_qset {h : FH} {w : World} (hs : Sub h w) (m : List (Int × Int)) (p : Addr) {gX : FH} (ownX : QueX QEnt 158 .u32 (QInv m) p gX) (subX : Sub gX w) (disX : Disj h gX) (item : Int) (key : Int) (K : (List (Int × Int)) → Prop) (hF : F_qset m item key K) : Calls Tryz.prog 47 #[.pointer (some p), .int .u32 item, iV key] w fun e w' => ∃ r : List (Int × Int), K r ∧ e = .returned (.tuple #[]) ∧ SH (Kp.ex w h gX) h w' [QueX QEnt 158 .u32 (QInv r) p] := by
 refine enterX (X := QueX QEnt 158 .u32 (QInv m) p) (args := [vP p, .int .u32 item, iV key]) Tryz.func47 rfl Tryz.ntmps47 rfl hs subX disX ownX ?_
 refine .openQ (fun hp2 fo ar ahp chp b tm q119 => ?_)
 replace hF := hF hp2 fo ar tm q119
 refine .KA [Box p [vSl ahp hp2 chp, .map (some b), iV tm], oL 158 1 ahp hp2 chp, OwnMapI b .u32 (fun zE : Option Addr => .pointer zE) fo, Arn ar] ?_
 refine .seq (.region (.V mv0 ?_))
 refine .V (nck rfl) ?_
 refine .V (fa rfl tF157_2) ?_
 refine .V (lB 2 0 tO3) ?_
 refine .V bi0 ?_
 refine .V (nck rfl) ?_
 refine .V (fa rfl tF157_2) ?_
 refine st (p := p) (off := 2) (k := 0) (vs := [iV (wr (tm + 1))]) rfl rfl rfl (fun w => (tO3 w).2) rfl rfl rfl rfl ?_
 refine .nil (.seqN (.seq (.seq (.region (.V mv0 ?_)))))
 refine .V (nck rfl) ?_
 refine .V (fa rfl tF157_1) ?_
 refine .V (lB 1 0 tO153) ?_
 refine .V mv0 ?_
 refine .V (lkI2 (enc := (fun zE : Option Addr => .pointer zE)) (none : Option Addr) tMI153 rfl rfl (q := 2) rfl) ?_
 refine .V mv0 ?_
 refine .V (ext rfl rfl) ?_
 refine .V (ext rfl rfl) ?_
 refine .V ag0 ?_
 refine .V ag0 ?_
 refine .nil (.seqN (.seq (.region (.V mv0 ?_))))
 refine .nil (.seqN ?_)
 refine .cond rfl (fun q37 => ?_) (fun q37 => ?_)
 ·replace hF := hF.1 q37
  refine .seq (.region (.V mv0 ?_))
  refine .V mv0 ?_
  refine .V mv0 ?_
  refine .V mv0 ?_
  refine .V (nck rfl) ?_
  refine .V (fa rfl tF157_2) ?_
  refine .V (lB 2 0 tO3) ?_
  obtain ⟨q38, hF⟩ := hF
  refine .V (nck (inA.ev q38)) ?_
  refine .V (fa rfl tF161_1) ?_
  refine stR (p := pA ((getA fo item).getD (none : Option Addr))) (off := 1) (k := 3) (e := (arv ar ((getA fo item).getD (none : Option Addr)))) (e' := (⟨(arv ar ((getA fo item).getD (none : Option Addr))).item, key, (arv ar ((getA fo item).getD (none : Option Addr))).time, (arv ar ((getA fo item).getD (none : Option Addr))).at_⟩ : QEnt)) (xx := ((getA fo item).getD (none : Option Addr))) (vs := [iV key]) rfl rfl rfl (fun w => (tO3 w).2) rfl rfl rfl (inA.eq q38) (inA.at_ q38) (Nat.le_of_ble_eq_true rfl) rfl ?_
  obtain ⟨ar2, q75⟩ : ∃ y_ : Addr → Option QEnt, y_ = (setP ar ((getA fo item).getD (none : Option Addr)) (⟨(arv ar ((getA fo item).getD (none : Option Addr))).item, key, (arv ar ((getA fo item).getD (none : Option Addr))).time, (arv ar ((getA fo item).getD (none : Option Addr))).at_⟩ : QEnt)) := ⟨_, rfl⟩
  replace hF := hF ar2 q75
  refine .cast (A' := [Box p [vSl ahp hp2 chp, .map (some b), iV (wr (tm + 1))], oL 158 1 ahp hp2 chp, OwnMapI b .u32 (fun zE : Option Addr => .pointer zE) fo, Arn ar2]) (by rw [q75]; rfl) ?_
  obtain ⟨q39, hF⟩ := hF
  refine .V (nck (inA.ev q39)) ?_
  refine .V (fa rfl tF161_2) ?_
  refine stR (p := pA ((getA fo item).getD (none : Option Addr))) (off := 2) (k := 3) (e := (arv ar2 ((getA fo item).getD (none : Option Addr)))) (e' := (⟨(arv ar2 ((getA fo item).getD (none : Option Addr))).item, (arv ar2 ((getA fo item).getD (none : Option Addr))).key, wr (tm + 1), (arv ar2 ((getA fo item).getD (none : Option Addr))).at_⟩ : QEnt)) (xx := ((getA fo item).getD (none : Option Addr))) (vs := [iV (wr (tm + 1))]) rfl rfl rfl (fun w => (tO3 w).2) rfl rfl rfl (inA.eq q39) (inA.at_ q39) (Nat.le_of_ble_eq_true rfl) rfl ?_
  obtain ⟨ar3, q76⟩ : ∃ y_ : Addr → Option QEnt, y_ = (setP ar2 ((getA fo item).getD (none : Option Addr)) (⟨(arv ar2 ((getA fo item).getD (none : Option Addr))).item, (arv ar2 ((getA fo item).getD (none : Option Addr))).key, wr (tm + 1), (arv ar2 ((getA fo item).getD (none : Option Addr))).at_⟩ : QEnt)) := ⟨_, rfl⟩
  replace hF := hF ar3 q76
  refine .cast (A' := [Box p [vSl ahp hp2 chp, .map (some b), iV (wr (tm + 1))], oL 158 1 ahp hp2 chp, OwnMapI b .u32 (fun zE : Option Addr => .pointer zE) fo, Arn ar3]) (by rw [q76]; rfl) ?_
  refine .nil (.seqN (.seq ?_))
  obtain ⟨q77, hF⟩ := hF
  refine .OA (s0 := [(0, vP p), (6, .pointer ((getA fo item).getD (none : Option Addr)))]) [0, 1, 2, 3, 4, 5, 6, 7] [(0, vP p), (1, vP p), (2, vP (p.add 0)), (3, .iface 163 (vP (p.add 0))), (4, .pointer ((getA fo item).getD (none : Option Addr))), (5, vP (pA ((getA fo item).getD (none : Option Addr)))), (6, vP ((pA ((getA fo item).getD (none : Option Addr))).add 3)), (7, iV ((arv ar3 ((getA fo item).getD (none : Option Addr))).at_))] [0, 6] [] ?_
  refine .ST [8] 8 (.w [] rfl mv0 (.w [(37, vP p)] rfl (nck rfl) (.w [(38, vP p)] rfl (fa rfl tF157_0) (.w [(39, vP (p.add 0))] rfl (mkI tC163 rfl) (.w [] rfl mv0 (.w [(41, .pointer ((getA fo item).getD (none : Option Addr)))] rfl (nck (inA.ev q77)) (.w [(42, vP (pA ((getA fo item).getD (none : Option Addr))))] rfl (fa rfl tF161_3) (.w [(43, vP ((pA ((getA fo item).getD (none : Option Addr))).add 3))] rfl (ld1 (v := iV ((arv ar3 ((getA fo item).getD (none : Option Addr))).at_)) rfl tO3 (cellR (k := 3) (off := 3) rfl (inA.at_ q77) rfl)) (.nil))))))))) (.cons [(40, .iface 163 (vP (p.add 0))), (44, iV ((arv ar3 ((getA fo item).getD (none : Option Addr))).at_))] rfl rfl (fun sL hL => ?_) (.nil))
  refine .inl Tryz.func79 rfl Tryz.ntmps79 Tryz.call79 rfl rfl rfl rfl (fun a q40 => ?_)
  refine .seq (.region (.V mv0 ?_))
  refine .V mv0 ?_
  refine .V mv0 ?_
  refine .inlV Tryz.func160 rfl Tryz.ntmps160 Tryz.call160 tm163_Len rfl (cellB (off := 0) (k := 0) rfl rfl) rfl rfl (fun a2 q120 => ?_)
  refine .seq (.region (.V ag0 ?_))
  refine .nil (.seqN (.seq (.region (.V mv0 ?_))))
  refine .V (ln rfl tS155.is) ?_
  refine .V ag0 ?_
  refine .nil (.seqN (.ret ?_))
  refine .res1 rfl (rvT rfl) (inl_back (v := iV ((hp2.length : Nat) : Int)) q120 rfl ?_)
  refine .inl Tryz.func83 rfl Tryz.ntmps83 Tryz.call83 rfl rfl rfl rfl (fun a3 q121 => ?_)
  refine .seq (.region (.V ag0 ?_))
  refine .nil (.seqN (.seq (.region (.V mv0 ?_))))
  refine .V ag0 ?_
  refine .nil (.seqN ?_)
  refine .share (σ := Int × (Addr → Option QEnt) × List (Option Addr)) (fun z => F_qset_J1 item K fo ar3 z.2.1 z.1 z.2.2 ∧ z.2.2.length = hp2.length) (fun z => [(1, iV ((arv ar3 ((getA fo item).getD (none : Option Addr))).at_)), (7, iV z.1)]) (fun z => [Box p [vSl ahp hp2 chp, .map (some b), iV (wr (tm + 1))], Arn z.2.1, OwnSl 158 1 ahp hp2.length chp (flL z.2.2), OwnMapI b .u32 (fun zE : Option Addr => .pointer zE) fo]) (fun _ => h) ?_ (fun q41 => ?_)
  ·rintro ⟨i, ar4, l⟩ ⟨hF, q78⟩
   show J _ _ _ _ _ [(1, iV ((arv ar3 ((getA fo item).getD (none : Option Addr))).at_)), (7, iV i)] [Box p [vSl ahp hp2 chp, .map (some b), iV (wr (tm + 1))], Arn ar4, OwnSl 158 1 ahp hp2.length chp (flL l), OwnMapI b .u32 (fun zE : Option Addr => .pointer zE) fo] h
   refine .seq (.region (.V mv0 ?_))
   refine .V mv0 ?_
   obtain ⟨x, q79⟩ : ∃ y_ : Bool, y_ = (decide (((arv ar3 ((getA fo item).getD (none : Option Addr))).at_) < i)) := ⟨_, rfl⟩
   replace hF := hF x q79
   refine .v (v := .bool x) (by rw [q79]; exact bi rfl rfl rfl) rfl rfl rfl ?_
   refine .V ag0 ?_
   refine .nil (.seqN (.ret ?_))
   refine .res1 rfl (rvT rfl) (inl_back (v := .bool x) q121 rfl ?_)
   refine .V (nt rfl) ?_
   refine .nil (.seqN ?_)
   refine .cond rfl (fun q42 => ?_) (fun q42 => ?_)
   ·replace hF := hF.1 q42
    refine .region (.V mv0 ?_)
    refine .V mv0 ?_
    refine .inl Tryz.func93 rfl Tryz.ntmps93 Tryz.call93 rfl rfl rfl rfl (fun a4 q80 => ?_)
    refine .block ?_
    obtain ⟨I1, μ1, q43, q122⟩ := hF
    refine .loop' (σ := Int × (Addr → Option QEnt) × List (Option Addr)) (fun z => I1 z.1 z.2.1 z.2.2 ∧ z.2.2.length = hp2.length) (fun z => μ1 z.1 z.2.1 z.2.2) (fun z => [(0, .iface 163 (vP (p.add 0))), (1, iV z.1)]) (fun z => [Box p [vSl ahp hp2 chp, .map (some b), iV (wr (tm + 1))], Arn z.2.1, OwnSl 158 1 ahp hp2.length chp (flL z.2.2), OwnMapI b .u32 (fun zE : Option Addr => .pointer zE) fo]) (fun _ => h) ((arv ar3 ((getA fo item).getD (none : Option Addr))).at_, ar4, l) ⟨q43, q78⟩ sb rfl (FH.le_refl _) ?_
    rintro ⟨j, ar5, l2⟩ ⟨q43, q11⟩
    have hF := q122 j ar5 l2 q43
    show J _ _ _ _ _ [(0, .iface 163 (vP (p.add 0))), (1, iV j)] [Box p [vSl ahp hp2 chp, .map (some b), iV (wr (tm + 1))], Arn ar5, OwnSl 158 1 ahp hp2.length chp (flL l2), OwnMapI b .u32 (fun zE : Option Addr => .pointer zE) fo] h
    refine .block (.seq (.region (.V mv0 ?_)))
    refine .V bi0 ?_
    refine .V (bq rfl rfl (by decide)) ?_
    refine .V ag0 ?_
    refine .nil (.seqN (.seq (.seq (.region (.V mv0 ?_)))))
    refine .V mv0 ?_
    refine .V bi0 ?_
    refine .V mv0 ?_
    rcases Bool.eq_false_or_eq_true ((wr (Int.tdiv (wr (j - 1)) 2)) == j) with q9 | q9
    ·replace hF := hF.1 q9
     refine .GS q9 ?_
     refine .GS q9 ?_
     refine .GS q9 ?_
     refine .GS q9 ?_
     refine .GS q9 ?_
     refine .V (pkT rfl q9 rfl) ?_
     refine .nil (.seqN ?_)
     refine .cond rfl (fun _ => ?_) (fun e => absurd (e.symm.trans rfl) (by decide))
     refine .exit (.seqX ?_)
     refine .blkY rfl ?_
     refine .seqX (.blkX ?_)
     refine .res0 (.inr rfl) rfl (inl_back (v := .tuple #[]) q80 rfl ?_)
     refine .nil ?_
     refine .res0 (.inr rfl) rfl (inl_back (v := .tuple #[]) q40 rfl ?_)
     refine .nil ?_
     refine .ja (M := [3, 7, 2, 6, 1, 5, 0, 4]) (C' := []) (pre := [(8, .tuple #[])]) [(0, vP p), (6, .pointer ((getA fo item).getD (none : Option Addr)))] [0, 6] hL rfl rfl rfl rfl rfl sb rfl rfl (by kernel_rfl) ?_
     refine .LA [(37, vP p), (38, vP p), (39, vP (p.add 0)), (40, .iface 163 (vP (p.add 0))), (41, .pointer ((getA fo item).getD (none : Option Addr))), (42, vP (pA ((getA fo item).getD (none : Option Addr)))), (43, vP ((pA ((getA fo item).getD (none : Option Addr))).add 3)), (44, iV ((arv ar3 ((getA fo item).getD (none : Option Addr))).at_)), (45, .tuple #[])] (.nil) ?_
     refine .seqN (.ret (.seqR ?_))
     refine .sel0 [0, 2, 3, 1] (by decide) rfl ?_
     refine .cast (A' := [Box p [vSl ahp l2 chp, .map (some b), iV (wr (tm + 1))], oL 158 1 ahp l2 chp, OwnMapI b .u32 (fun zE : Option Addr => .pointer zE) fo, Arn ar5]) (congrArg (fun z_ : Nat => [Box p [.slice ahp z_ chp, .map (some b), iV (wr (tm + 1))], OwnSl 158 1 ahp z_ chp (flL l2), OwnMapI b .u32 (fun zE : Option Addr => .pointer zE) fo, Arn ar5]) (q11).symm) ?_
     obtain ⟨m2, q123, hF⟩ := hF
     refine .closeQ (hp := l2) (inv := QInv m2) q123 ?_
     refine .res0 (.inl rfl) rfl (fun w' S => ⟨m2, hF, rfl, S.pick (k := 0) rfl⟩)
    replace hF := hF.2 q9
    refine .GV mv0 q9 ?_
    refine .GV mv0 q9 ?_
    refine .GV mv0 q9 ?_
    refine .gR rfl rfl rfl q9 ?_
    refine .inlV Tryz.func161 rfl Tryz.ntmps161 Tryz.call161 tm163_Less rfl (cellB (off := 0) (k := 0) rfl rfl) rfl rfl (fun a5 q124 => ?_)
    refine .seq (.region (.V ag0 ?_))
    refine .nil (.seqN ?_)
    refine .share (σ := Bool) (fun z => F_qset_J2 K fo z j ar5 l2 I1 μ1) (fun z => [(6, .bool z)]) (fun _ => [Box p [vSl ahp hp2 chp, .map (some b), iV (wr (tm + 1))], Arn ar5, OwnSl 158 1 ahp hp2.length chp (flL l2), OwnMapI b .u32 (fun zE : Option Addr => .pointer zE) fo]) (fun _ => h) ?_ (fun q44 => ?_)
    ·rintro t6 hF
     show J _ _ _ _ _ [(6, .bool t6)] [Box p [vSl ahp hp2 chp, .map (some b), iV (wr (tm + 1))], Arn ar5, OwnSl 158 1 ahp hp2.length chp (flL l2), OwnMapI b .u32 (fun zE : Option Addr => .pointer zE) fo] h
     refine .ret ?_
     refine .res1 rfl (rvT rfl) (inl_back (v := .bool t6) q124 rfl ?_)
     refine .GV (nt rfl) q9 ?_
     refine .V (pkF rfl q9 rfl) ?_
     refine .nil (.seqN ?_)
     refine .cond rfl (fun q45 => ?_) (fun q45 => ?_)
     ·replace hF := hF.1 q45
      refine .exit (.seqX ?_)
      refine .blkY rfl ?_
      refine .seqX (.blkX ?_)
      refine .res0 (.inr rfl) rfl (inl_back (v := .tuple #[]) q80 rfl ?_)
      refine .nil ?_
      refine .res0 (.inr rfl) rfl (inl_back (v := .tuple #[]) q40 rfl ?_)
      refine .nil ?_
      refine .ja (M := [3, 7, 2, 6, 1, 5, 0, 4]) (C' := []) (pre := [(8, .tuple #[])]) [(0, vP p), (6, .pointer ((getA fo item).getD (none : Option Addr)))] [0, 6] hL rfl rfl rfl rfl rfl sb rfl rfl (by kernel_rfl) ?_
      refine .LA [(37, vP p), (38, vP p), (39, vP (p.add 0)), (40, .iface 163 (vP (p.add 0))), (41, .pointer ((getA fo item).getD (none : Option Addr))), (42, vP (pA ((getA fo item).getD (none : Option Addr)))), (43, vP ((pA ((getA fo item).getD (none : Option Addr))).add 3)), (44, iV ((arv ar3 ((getA fo item).getD (none : Option Addr))).at_)), (45, .tuple #[])] (.nil) ?_
      refine .seqN (.ret (.seqR ?_))
      refine .sel0 [0, 2, 3, 1] (by decide) rfl ?_
      refine .cast (A' := [Box p [vSl ahp l2 chp, .map (some b), iV (wr (tm + 1))], oL 158 1 ahp l2 chp, OwnMapI b .u32 (fun zE : Option Addr => .pointer zE) fo, Arn ar5]) (congrArg (fun z_ : Nat => [Box p [.slice ahp z_ chp, .map (some b), iV (wr (tm + 1))], OwnSl 158 1 ahp z_ chp (flL l2), OwnMapI b .u32 (fun zE : Option Addr => .pointer zE) fo, Arn ar5]) (q11).symm) ?_
      obtain ⟨m3, q125, hF⟩ := hF
      refine .closeQ (hp := l2) (inv := QInv m3) q125 ?_
      refine .res0 (.inl rfl) rfl (fun w' S => ⟨m3, hF, rfl, S.pick (k := 0) rfl⟩)
     replace hF := hF.2 q45
     refine .skip (.seqN (.seq (.region (.V mv0 ?_))))
     refine .V mv0 ?_
     refine .V mv0 ?_
     refine .inlV Tryz.func162 rfl Tryz.ntmps162 Tryz.call162 tm163_Swap rfl (cellB (off := 0) (k := 0) rfl rfl) rfl rfl (fun a6 q126 => ?_)
     refine .seq ?_
     obtain ⟨q81, q15, hF⟩ := hF
     refine .OA (s0 := [(0, vSl ahp hp2 chp), (1, iV (wr (Int.tdiv (wr (j - 1)) 2))), (2, iV j)]) [0, 1, 2, 3, 4, 5, 6, 7, 8, 9, 10, 11, 12] [(0, vSl ahp hp2 chp), (1, iV (wr (Int.tdiv (wr (j - 1)) 2))), (2, vSl ahp hp2 chp), (3, iV j), (4, vSl ahp hp2 chp), (5, iV j), (6, vP (ead ahp (j.toNat * 1))), (7, .pointer (gt l2 j)), (8, vSl ahp hp2 chp), (9, iV (wr (Int.tdiv (wr (j - 1)) 2))), (10, vP (ead ahp ((wr (Int.tdiv (wr (j - 1)) 2)).toNat * 1))), (11, .pointer (gt l2 (wr (Int.tdiv (wr (j - 1)) 2)))), (12, vP (ead ahp ((wr (Int.tdiv (wr (j - 1)) 2)).toNat * 1)))] [0, 1, 2] [] ?_
     refine .ST [13] 13 (.w [] rfl mv0 (.w [] rfl mv0 (.w [] rfl mv0 (.w [] rfl mv0 (.w [] rfl mv0 (.w [] rfl mv0 (.w [(10, vSl ahp hp2 chp), (11, iV j)] rfl (ixS rfl rfl tS155 (k := 2) rfl (inb_n q81 q11)) (.w [(12, vP (ead ahp (j.toNat * 1)))] rfl (ld1 (v := .pointer (gt l2 j)) rfl tO158 (cellS (k := 2) rfl (flL_get q81 (j := 0) rfl))) (.w [] rfl mv0 (.w [] rfl mv0 (.w [(14, vSl ahp hp2 chp), (15, iV (wr (Int.tdiv (wr (j - 1)) 2)))] rfl (ixS rfl rfl tS155 (k := 2) rfl (inb_n q15 q11)) (.w [(16, vP (ead ahp ((wr (Int.tdiv (wr (j - 1)) 2)).toNat * 1)))] rfl (ld1 (v := .pointer (gt l2 (wr (Int.tdiv (wr (j - 1)) 2)))) rfl tO158 (cellS (k := 2) rfl (flL_get q15 (j := 0) rfl))) (.w [(6, vSl ahp hp2 chp), (7, iV (wr (Int.tdiv (wr (j - 1)) 2))), (6, vSl ahp hp2 chp), (7, iV (wr (Int.tdiv (wr (j - 1)) 2))), (10, vSl ahp hp2 chp), (11, iV j), (12, vP (ead ahp (j.toNat * 1))), (13, .pointer (gt l2 j)), (17, .pointer (gt l2 (wr (Int.tdiv (wr (j - 1)) 2))))] rfl (ixS rfl rfl tS155 (k := 2) rfl (inb_n q15 q11)) (.nil)))))))))))))) (.cons [(18, vP (ead ahp ((wr (Int.tdiv (wr (j - 1)) 2)).toNat * 1))), (13, .pointer (gt l2 j)), (6, vSl ahp hp2 chp), (7, iV (wr (Int.tdiv (wr (j - 1)) 2))), (10, vSl ahp hp2 chp), (11, iV j), (12, vP (ead ahp (j.toNat * 1))), (13, .pointer (gt l2 j)), (17, .pointer (gt l2 (wr (Int.tdiv (wr (j - 1)) 2))))] rfl rfl (fun sL hL => ?_) (.nil))
     obtain ⟨d, q46⟩ : ∃ y_ : List (Option Addr), y_ = (l2.set (wr (Int.tdiv (wr (j - 1)) 2)).toNat (gt l2 j)) := ⟨_, rfl⟩
     replace hF := hF d q46
     refine stS (k := 2) (cs' := flL d) rfl (fun _ => rfl) rfl rfl (fun w => (tO158 w).2) rfl rfl rfl (by rw [← q11]; exact inb_pos q15) (fl_room q15) (by rw [q46]; exact flL_set q15 (gt l2 j)) ?_
     have q47 : d.length = hp2.length := by rw [q46]; exact List.length_set.trans q11
     refine .nil ?_
     obtain ⟨q34, hF⟩ := hF
     refine .jaN (M := [12, 7, 0, 1, 4, 5, 6, 11, 10, 8, 9]) (C' := [2, 3, 14]) (pre := [(14, vP (ead ahp (j.toNat * 1)))]) [0, 1, 2] hL rfl rfl rfl rfl rfl (by kernel_rfl) ?_
     refine .ST [15] 15 (.w [] rfl mv0 (.w [] rfl mv0 (.w [(8, vSl ahp hp2 chp), (9, iV j), (6, vSl ahp hp2 chp), (7, iV (wr (Int.tdiv (wr (j - 1)) 2))), (8, vSl ahp hp2 chp), (9, iV j), (10, vSl ahp hp2 chp), (11, iV j), (12, vP (ead ahp (j.toNat * 1))), (13, .pointer (gt l2 j)), (14, vSl ahp hp2 chp), (15, iV (wr (Int.tdiv (wr (j - 1)) 2))), (16, vP (ead ahp ((wr (Int.tdiv (wr (j - 1)) 2)).toNat * 1))), (17, .pointer (gt l2 (wr (Int.tdiv (wr (j - 1)) 2)))), (18, vP (ead ahp ((wr (Int.tdiv (wr (j - 1)) 2)).toNat * 1)))] rfl (ixS rfl rfl tS155 (k := 2) rfl (inb_n q34 q47)) (.nil)))) (.cons [(19, vP (ead ahp (j.toNat * 1))), (17, .pointer (gt l2 (wr (Int.tdiv (wr (j - 1)) 2)))), (6, vSl ahp hp2 chp), (7, iV (wr (Int.tdiv (wr (j - 1)) 2))), (8, vSl ahp hp2 chp), (9, iV j), (10, vSl ahp hp2 chp), (11, iV j), (12, vP (ead ahp (j.toNat * 1))), (13, .pointer (gt l2 j)), (14, vSl ahp hp2 chp), (15, iV (wr (Int.tdiv (wr (j - 1)) 2))), (16, vP (ead ahp ((wr (Int.tdiv (wr (j - 1)) 2)).toNat * 1))), (17, .pointer (gt l2 (wr (Int.tdiv (wr (j - 1)) 2)))), (18, vP (ead ahp ((wr (Int.tdiv (wr (j - 1)) 2)).toNat * 1)))] rfl rfl (fun sL hL => ?_) (.nil))
     obtain ⟨d2, q48⟩ : ∃ y_ : List (Option Addr), y_ = (d.set (j).toNat (gt l2 (wr (Int.tdiv (wr (j - 1)) 2)))) := ⟨_, rfl⟩
     replace hF := hF d2 q48
     refine stS (k := 2) (cs' := flL d2) rfl (fun _ => rfl) rfl rfl (fun w => (tO158 w).2) rfl rfl rfl (by rw [← q47]; exact inb_pos q34) (fl_room q34) (by rw [q48]; exact flL_set q34 (gt l2 (wr (Int.tdiv (wr (j - 1)) 2)))) ?_
     have q49 : d2.length = hp2.length := by rw [q48]; exact List.length_set.trans q47
     refine .nil ?_
     refine .jaN (M := [14, 2, 3]) (C' := []) (pre := []) [0, 1, 2] hL rfl rfl rfl rfl rfl (by kernel_rfl) ?_
     refine .LA [(6, vSl ahp hp2 chp), (7, iV (wr (Int.tdiv (wr (j - 1)) 2))), (8, vSl ahp hp2 chp), (9, iV j), (10, vSl ahp hp2 chp), (11, iV j), (12, vP (ead ahp (j.toNat * 1))), (13, .pointer (gt l2 j)), (14, vSl ahp hp2 chp), (15, iV (wr (Int.tdiv (wr (j - 1)) 2))), (16, vP (ead ahp ((wr (Int.tdiv (wr (j - 1)) 2)).toNat * 1))), (17, .pointer (gt l2 (wr (Int.tdiv (wr (j - 1)) 2)))), (18, vP (ead ahp ((wr (Int.tdiv (wr (j - 1)) 2)).toNat * 1))), (19, vP (ead ahp (j.toNat * 1)))] (.nil) ?_
     refine .seqN ?_
     obtain ⟨q82, q83, q50, hF⟩ := hF
     refine .OA (s0 := [(0, vSl ahp hp2 chp), (1, iV (wr (Int.tdiv (wr (j - 1)) 2))), (2, iV j)]) [0, 1, 2, 3, 4, 5, 6, 7, 8, 9, 10, 11] [(0, vSl ahp hp2 chp), (1, iV (wr (Int.tdiv (wr (j - 1)) 2))), (2, vP (ead ahp ((wr (Int.tdiv (wr (j - 1)) 2)).toNat * 1))), (3, .pointer (gt d2 (wr (Int.tdiv (wr (j - 1)) 2)))), (4, vSl ahp hp2 chp), (5, iV j), (6, vP (ead ahp (j.toNat * 1))), (7, .pointer (gt d2 j)), (8, iV (wr (Int.tdiv (wr (j - 1)) 2))), (9, iV j), (10, vP (pA (gt d2 (wr (Int.tdiv (wr (j - 1)) 2))))), (11, vP ((pA (gt d2 (wr (Int.tdiv (wr (j - 1)) 2)))).add 3))] [0, 1, 2] [] ?_
     refine .ST [12] 12 (.w [] rfl mv0 (.w [] rfl mv0 (.w [(20, vSl ahp hp2 chp), (21, iV (wr (Int.tdiv (wr (j - 1)) 2)))] rfl (ixS rfl rfl tS155 (k := 2) rfl (inb_n q82 q49)) (.w [(22, vP (ead ahp ((wr (Int.tdiv (wr (j - 1)) 2)).toNat * 1)))] rfl (ld1 (v := .pointer (gt d2 (wr (Int.tdiv (wr (j - 1)) 2)))) rfl tO158 (cellS (k := 2) rfl (flL_get q82 (j := 0) rfl))) (.w [] rfl mv0 (.w [] rfl mv0 (.w [(24, vSl ahp hp2 chp), (25, iV j)] rfl (ixS rfl rfl tS155 (k := 2) rfl (inb_n q83 q49)) (.w [(26, vP (ead ahp (j.toNat * 1)))] rfl (ld1 (v := .pointer (gt d2 j)) rfl tO158 (cellS (k := 2) rfl (flL_get q83 (j := 0) rfl))) (.w [] rfl mv0 (.w [] rfl mv0 (.w [(23, .pointer (gt d2 (wr (Int.tdiv (wr (j - 1)) 2)))), (20, vSl ahp hp2 chp), (21, iV (wr (Int.tdiv (wr (j - 1)) 2))), (22, vP (ead ahp ((wr (Int.tdiv (wr (j - 1)) 2)).toNat * 1))), (23, .pointer (gt d2 (wr (Int.tdiv (wr (j - 1)) 2)))), (27, .pointer (gt d2 j)), (28, iV (wr (Int.tdiv (wr (j - 1)) 2)))] rfl (nck (inA.ev q50)) (.w [(30, vP (pA (gt d2 (wr (Int.tdiv (wr (j - 1)) 2))))), (20, vSl ahp hp2 chp), (21, iV (wr (Int.tdiv (wr (j - 1)) 2))), (22, vP (ead ahp ((wr (Int.tdiv (wr (j - 1)) 2)).toNat * 1))), (23, .pointer (gt d2 (wr (Int.tdiv (wr (j - 1)) 2)))), (27, .pointer (gt d2 j)), (28, iV (wr (Int.tdiv (wr (j - 1)) 2)))] rfl (fa rfl tF161_3) (.nil))))))))))))) (.cons [(31, vP ((pA (gt d2 (wr (Int.tdiv (wr (j - 1)) 2)))).add 3)), (28, iV (wr (Int.tdiv (wr (j - 1)) 2))), (20, vSl ahp hp2 chp), (21, iV (wr (Int.tdiv (wr (j - 1)) 2))), (22, vP (ead ahp ((wr (Int.tdiv (wr (j - 1)) 2)).toNat * 1))), (23, .pointer (gt d2 (wr (Int.tdiv (wr (j - 1)) 2)))), (27, .pointer (gt d2 j)), (28, iV (wr (Int.tdiv (wr (j - 1)) 2)))] rfl rfl (fun sL hL => ?_) (.nil))
     refine stR (p := pA (gt d2 (wr (Int.tdiv (wr (j - 1)) 2)))) (off := 3) (k := 1) (e := (arv ar5 (gt d2 (wr (Int.tdiv (wr (j - 1)) 2))))) (e' := (⟨(arv ar5 (gt d2 (wr (Int.tdiv (wr (j - 1)) 2)))).item, (arv ar5 (gt d2 (wr (Int.tdiv (wr (j - 1)) 2)))).key, (arv ar5 (gt d2 (wr (Int.tdiv (wr (j - 1)) 2)))).time, wr (Int.tdiv (wr (j - 1)) 2)⟩ : QEnt)) (xx := (gt d2 (wr (Int.tdiv (wr (j - 1)) 2)))) (vs := [iV (wr (Int.tdiv (wr (j - 1)) 2))]) rfl rfl rfl (fun w => (tO3 w).2) rfl rfl rfl (inA.eq q50) (inA.at_ q50) (Nat.le_of_ble_eq_true rfl) rfl ?_
     obtain ⟨ar7, q84⟩ : ∃ y_ : Addr → Option QEnt, y_ = (setP ar5 (gt d2 (wr (Int.tdiv (wr (j - 1)) 2))) (⟨(arv ar5 (gt d2 (wr (Int.tdiv (wr (j - 1)) 2)))).item, (arv ar5 (gt d2 (wr (Int.tdiv (wr (j - 1)) 2)))).key, (arv ar5 (gt d2 (wr (Int.tdiv (wr (j - 1)) 2)))).time, wr (Int.tdiv (wr (j - 1)) 2)⟩ : QEnt)) := ⟨_, rfl⟩
     replace hF := hF ar7 q84
     refine .cast (A' := [Box p [vSl ahp hp2 chp, .map (some b), iV (wr (tm + 1))], Arn ar7, OwnSl 158 1 ahp hp2.length chp (flL d2), OwnMapI b .u32 (fun zE : Option Addr => .pointer zE) fo]) (by rw [q84]; rfl) ?_
     refine .nil ?_
     obtain ⟨q51, hF⟩ := hF
     refine .jaN (M := [11, 8, 0, 1, 2, 3, 7, 10, 6, 4, 5]) (C' := [9, 13, 14]) (pre := [(13, vP (pA (gt d2 j))), (14, vP ((pA (gt d2 j)).add 3))]) [0, 1, 2] hL rfl rfl rfl rfl rfl (by kernel_rfl) ?_
     refine .ST [15] 15 (.w [] rfl mv0 (.w [(27, .pointer (gt d2 j)), (20, vSl ahp hp2 chp), (21, iV (wr (Int.tdiv (wr (j - 1)) 2))), (22, vP (ead ahp ((wr (Int.tdiv (wr (j - 1)) 2)).toNat * 1))), (23, .pointer (gt d2 (wr (Int.tdiv (wr (j - 1)) 2)))), (24, vSl ahp hp2 chp), (25, iV j), (26, vP (ead ahp (j.toNat * 1))), (27, .pointer (gt d2 j)), (28, iV (wr (Int.tdiv (wr (j - 1)) 2))), (29, iV j), (30, vP (pA (gt d2 (wr (Int.tdiv (wr (j - 1)) 2))))), (31, vP ((pA (gt d2 (wr (Int.tdiv (wr (j - 1)) 2)))).add 3))] rfl (nck (inA.ev q51)) (.w [(32, vP (pA (gt d2 j))), (20, vSl ahp hp2 chp), (21, iV (wr (Int.tdiv (wr (j - 1)) 2))), (22, vP (ead ahp ((wr (Int.tdiv (wr (j - 1)) 2)).toNat * 1))), (23, .pointer (gt d2 (wr (Int.tdiv (wr (j - 1)) 2)))), (24, vSl ahp hp2 chp), (25, iV j), (26, vP (ead ahp (j.toNat * 1))), (27, .pointer (gt d2 j)), (28, iV (wr (Int.tdiv (wr (j - 1)) 2))), (29, iV j), (30, vP (pA (gt d2 (wr (Int.tdiv (wr (j - 1)) 2))))), (31, vP ((pA (gt d2 (wr (Int.tdiv (wr (j - 1)) 2)))).add 3))] rfl (fa rfl tF161_3) (.nil)))) (.cons [(33, vP ((pA (gt d2 j)).add 3)), (29, iV j), (20, vSl ahp hp2 chp), (21, iV (wr (Int.tdiv (wr (j - 1)) 2))), (22, vP (ead ahp ((wr (Int.tdiv (wr (j - 1)) 2)).toNat * 1))), (23, .pointer (gt d2 (wr (Int.tdiv (wr (j - 1)) 2)))), (24, vSl ahp hp2 chp), (25, iV j), (26, vP (ead ahp (j.toNat * 1))), (27, .pointer (gt d2 j)), (28, iV (wr (Int.tdiv (wr (j - 1)) 2))), (29, iV j), (30, vP (pA (gt d2 (wr (Int.tdiv (wr (j - 1)) 2))))), (31, vP ((pA (gt d2 (wr (Int.tdiv (wr (j - 1)) 2)))).add 3))] rfl rfl (fun sL hL => ?_) (.nil))
     refine stR (p := pA (gt d2 j)) (off := 3) (k := 1) (e := (arv ar7 (gt d2 j))) (e' := (⟨(arv ar7 (gt d2 j)).item, (arv ar7 (gt d2 j)).key, (arv ar7 (gt d2 j)).time, j⟩ : QEnt)) (xx := (gt d2 j)) (vs := [iV j]) rfl rfl rfl (fun w => (tO3 w).2) rfl rfl rfl (inA.eq q51) (inA.at_ q51) (Nat.le_of_ble_eq_true rfl) rfl ?_
     obtain ⟨ar8, q85⟩ : ∃ y_ : Addr → Option QEnt, y_ = (setP ar7 (gt d2 j) (⟨(arv ar7 (gt d2 j)).item, (arv ar7 (gt d2 j)).key, (arv ar7 (gt d2 j)).time, j⟩ : QEnt)) := ⟨_, rfl⟩
     replace hF := hF ar8 q85
     refine .cast (A' := [Box p [vSl ahp hp2 chp, .map (some b), iV (wr (tm + 1))], Arn ar8, OwnSl 158 1 ahp hp2.length chp (flL d2), OwnMapI b .u32 (fun zE : Option Addr => .pointer zE) fo]) (by rw [q85]; rfl) ?_
     refine .nil ?_
     refine .jaN (M := [14, 9, 13]) (C' := []) (pre := []) [0, 1, 2] hL rfl rfl rfl rfl rfl (by kernel_rfl) ?_
     refine .LA [(20, vSl ahp hp2 chp), (21, iV (wr (Int.tdiv (wr (j - 1)) 2))), (22, vP (ead ahp ((wr (Int.tdiv (wr (j - 1)) 2)).toNat * 1))), (23, .pointer (gt d2 (wr (Int.tdiv (wr (j - 1)) 2)))), (24, vSl ahp hp2 chp), (25, iV j), (26, vP (ead ahp (j.toNat * 1))), (27, .pointer (gt d2 j)), (28, iV (wr (Int.tdiv (wr (j - 1)) 2))), (29, iV j), (30, vP (pA (gt d2 (wr (Int.tdiv (wr (j - 1)) 2))))), (31, vP ((pA (gt d2 (wr (Int.tdiv (wr (j - 1)) 2)))).add 3)), (32, vP (pA (gt d2 j))), (33, vP ((pA (gt d2 j)).add 3))] (.nil) ?_
     refine .res0 (.inr rfl) rfl (inl_back (v := .tuple #[]) q126 rfl ?_)
     refine .nil (.seqN (.region (.V mv0 ?_)))
     refine .V ag0 ?_
     refine .nil (.blkN ?_)
     exact .RO (wr (Int.tdiv (wr (j - 1)) 2), ar8, d2) ⟨hF.1, q49⟩ hF.2
    refine .open_ (by kernel_rfl) (by kernel_rfl) ?_
    refine .V mv0 ?_
    refine .V mv0 ?_
    obtain ⟨q16, hF⟩ := hF
    refine .V (ixS rfl rfl tS155 (k := 2) rfl (inb_n q16 q11)) ?_
    refine .V (ld1 (v := .pointer (gt l2 j)) rfl tO158 (cellS (k := 2) rfl (flL_get q16 (j := 0) rfl))) ?_
    obtain ⟨q17, hF⟩ := hF
    refine .V (nck (inA.ev q17)) ?_
    refine .V (fa rfl tF161_1) ?_
    refine .V (ld1 (v := iV ((arv ar5 (gt l2 j)).key)) rfl tO3 (cellR (k := 1) (off := 1) rfl (inA.at_ q17) rfl)) ?_
    refine .V mv0 ?_
    refine .V mv0 ?_
    obtain ⟨q18, hF⟩ := hF
    refine .V (ixS rfl rfl tS155 (k := 2) rfl (inb_n q18 q11)) ?_
    refine .V (ld1 (v := .pointer (gt l2 (wr (Int.tdiv (wr (j - 1)) 2)))) rfl tO158 (cellS (k := 2) rfl (flL_get q18 (j := 0) rfl))) ?_
    obtain ⟨q19, hF⟩ := hF
    refine .V (nck (inA.ev q19)) ?_
    refine .V (fa rfl tF161_1) ?_
    refine .V (ld1 (v := iV ((arv ar5 (gt l2 (wr (Int.tdiv (wr (j - 1)) 2)))).key)) rfl tO3 (cellR (k := 1) (off := 1) rfl (inA.at_ q19) rfl)) ?_
    obtain ⟨x2, q86⟩ : ∃ y_ : Bool, y_ = (decide (((arv ar5 (gt l2 j)).key) < ((arv ar5 (gt l2 (wr (Int.tdiv (wr (j - 1)) 2)))).key))) := ⟨_, rfl⟩
    replace hF := hF x2 q86
    refine .v (v := .bool x2) (by rw [q86]; exact bi rfl rfl rfl) rfl rfl rfl ?_
    refine .V mv0 ?_
    rcases Bool.eq_false_or_eq_true (x2) with q0 | q0
    ·replace hF := hF.1 q0
     refine .GS q0 ?_
     refine .GS q0 ?_
     refine .GS q0 ?_
     refine .GS q0 ?_
     refine .GS q0 ?_
     refine .GS q0 ?_
     refine .GS q0 ?_
     refine .GS q0 ?_
     refine .GS q0 ?_
     refine .GS q0 ?_
     refine .GS q0 ?_
     refine .GS q0 ?_
     refine .GS q0 ?_
     refine .GS q0 ?_
     refine .GS q0 ?_
     refine .GS q0 ?_
     refine .GU ?_
     refine .GU ?_
     refine .GU ?_
     refine .GU ?_
     refine .GU ?_
     refine .GU ?_
     refine .GU ?_
     refine .GU ?_
     refine .GU ?_
     refine .GU ?_
     refine .GU ?_
     refine .GU ?_
     refine .GU ?_
     refine .GU ?_
     refine .GU ?_
     refine .GS q0 ?_
     refine .V (pkT rfl q0 rfl) ?_
     refine .V ag0 ?_
     refine .fin ?_
     exact .US q44 true hF
    replace hF := hF.2 q0
    refine .GV mv0 q0 ?_
    refine .GV mv0 q0 ?_
    refine .GV (ixS rfl rfl tS155 (k := 2) rfl (inb_n q16 q11)) q0 ?_
    refine .GV (ld1 (v := .pointer (gt l2 j)) rfl tO158 (cellS (k := 2) rfl (flL_get q16 (j := 0) rfl))) q0 ?_
    refine .GV (nck (inA.ev q17)) q0 ?_
    refine .GV (fa rfl tF161_1) q0 ?_
    refine .GV (ld1 (v := iV ((arv ar5 (gt l2 j)).key)) rfl tO3 (cellR (k := 1) (off := 1) rfl (inA.at_ q17) rfl)) q0 ?_
    refine .GV mv0 q0 ?_
    refine .GV mv0 q0 ?_
    refine .GV (ixS rfl rfl tS155 (k := 2) rfl (inb_n q18 q11)) q0 ?_
    refine .GV (ld1 (v := .pointer (gt l2 (wr (Int.tdiv (wr (j - 1)) 2)))) rfl tO158 (cellS (k := 2) rfl (flL_get q18 (j := 0) rfl))) q0 ?_
    refine .GV (nck (inA.ev q19)) q0 ?_
    refine .GV (fa rfl tF161_1) q0 ?_
    refine .GV (ld1 (v := iV ((arv ar5 (gt l2 (wr (Int.tdiv (wr (j - 1)) 2)))).key)) rfl tO3 (cellR (k := 1) (off := 1) rfl (inA.at_ q19) rfl)) q0 ?_
    obtain ⟨x3, q87⟩ : ∃ y_ : Bool, y_ = (((arv ar5 (gt l2 j)).key) == ((arv ar5 (gt l2 (wr (Int.tdiv (wr (j - 1)) 2)))).key)) := ⟨_, rfl⟩
    replace hF := hF x3 q87
    refine .gv (v := .bool x3) (by rw [q87]; exact bi rfl rfl rfl) rfl rfl rfl q0 rfl rfl ?_
    refine .GV mv0 q0 ?_
    rcases Bool.eq_false_or_eq_true (x3) with q4 | q4
    ·replace hF := hF.1 q4
     refine .GV mv0 q4 ?_
     refine .GV mv0 q4 ?_
     refine .GV (ixS rfl rfl tS155 (k := 2) rfl (inb_n q16 q11)) q4 ?_
     refine .GV (ld1 (v := .pointer (gt l2 j)) rfl tO158 (cellS (k := 2) rfl (flL_get q16 (j := 0) rfl))) q4 ?_
     refine .GV (nck (inA.ev q17)) q4 ?_
     refine .GV (fa rfl tF161_2) q4 ?_
     refine .GV (ld1 (v := iV ((arv ar5 (gt l2 j)).time)) rfl tO3 (cellR (k := 1) (off := 2) rfl (inA.at_ q17) rfl)) q4 ?_
     refine .GV mv0 q4 ?_
     refine .GV mv0 q4 ?_
     refine .GV (ixS rfl rfl tS155 (k := 2) rfl (inb_n q18 q11)) q4 ?_
     refine .GV (ld1 (v := .pointer (gt l2 (wr (Int.tdiv (wr (j - 1)) 2)))) rfl tO158 (cellS (k := 2) rfl (flL_get q18 (j := 0) rfl))) q4 ?_
     refine .GV (nck (inA.ev q19)) q4 ?_
     refine .GV (fa rfl tF161_2) q4 ?_
     refine .GV (ld1 (v := iV ((arv ar5 (gt l2 (wr (Int.tdiv (wr (j - 1)) 2)))).time)) rfl tO3 (cellR (k := 1) (off := 2) rfl (inA.at_ q19) rfl)) q4 ?_
     obtain ⟨x4, q88⟩ : ∃ y_ : Bool, y_ = (decide (((arv ar5 (gt l2 j)).time) < ((arv ar5 (gt l2 (wr (Int.tdiv (wr (j - 1)) 2)))).time))) := ⟨_, rfl⟩
     replace hF := hF x4 q88
     refine .gv (v := .bool x4) (by rw [q88]; exact bi rfl rfl rfl) rfl rfl rfl q4 rfl rfl ?_
     refine .GV (pkT rfl q4 rfl) q0 ?_
     refine .V (pkF rfl q0 rfl) ?_
     refine .V ag0 ?_
     refine .fin ?_
     exact .US q44 x4 hF
    replace hF := hF.2 q4
    refine .GS q4 ?_
    refine .GS q4 ?_
    refine .GS q4 ?_
    refine .GS q4 ?_
    refine .GS q4 ?_
    refine .GS q4 ?_
    refine .GS q4 ?_
    refine .GS q4 ?_
    refine .GS q4 ?_
    refine .GS q4 ?_
    refine .GS q4 ?_
    refine .GS q4 ?_
    refine .GS q4 ?_
    refine .GS q4 ?_
    refine .GS q4 ?_
    refine .GV (pkF rfl q4 rfl) q0 ?_
    refine .V (pkF rfl q0 rfl) ?_
    refine .V ag0 ?_
    refine .fin ?_
    exact .US q44 false hF
   replace hF := hF.2 q42
   refine .skip ?_
   refine .res0 (.inr rfl) rfl (inl_back (v := .tuple #[]) q40 rfl ?_)
   refine .nil ?_
   refine .ja (M := [3, 7, 2, 6, 1, 5, 0, 4]) (C' := []) (pre := [(8, .tuple #[])]) [(0, vP p), (6, .pointer ((getA fo item).getD (none : Option Addr)))] [0, 6] hL rfl rfl rfl rfl rfl sb rfl rfl (by kernel_rfl) ?_
   refine .LA [(37, vP p), (38, vP p), (39, vP (p.add 0)), (40, .iface 163 (vP (p.add 0))), (41, .pointer ((getA fo item).getD (none : Option Addr))), (42, vP (pA ((getA fo item).getD (none : Option Addr)))), (43, vP ((pA ((getA fo item).getD (none : Option Addr))).add 3)), (44, iV ((arv ar3 ((getA fo item).getD (none : Option Addr))).at_)), (45, .tuple #[])] (.nil) ?_
   refine .seqN (.ret (.seqR ?_))
   refine .sel0 [0, 2, 3, 1] (by decide) rfl ?_
   refine .cast (A' := [Box p [vSl ahp l chp, .map (some b), iV (wr (tm + 1))], oL 158 1 ahp l chp, OwnMapI b .u32 (fun zE : Option Addr => .pointer zE) fo, Arn ar4]) (congrArg (fun z_ : Nat => [Box p [.slice ahp z_ chp, .map (some b), iV (wr (tm + 1))], OwnSl 158 1 ahp z_ chp (flL l), OwnMapI b .u32 (fun zE : Option Addr => .pointer zE) fo, Arn ar4]) (q78).symm) ?_
   obtain ⟨m4, q127, hF⟩ := hF
   refine .closeQ (hp := l) (inv := QInv m4) q127 ?_
   refine .res0 (.inl rfl) rfl (fun w' S => ⟨m4, hF, rfl, S.pick (k := 0) rfl⟩)
  refine .block ?_
  refine .sel0 [0, 3, 1, 2] (by decide) rfl ?_
  obtain ⟨I2, μ2, q52, q128⟩ := hF
  refine .loop' (σ := Int × (Addr → Option QEnt) × List (Option Addr)) (fun z => I2 z.1 z.2.1 z.2.2 ∧ z.2.2.length = hp2.length) (fun z => μ2 z.1 z.2.1 z.2.2) (fun z => [(0, .iface 163 (vP (p.add 0))), (1, iV ((arv ar3 ((getA fo item).getD (none : Option Addr))).at_)), (2, iV ((hp2.length : Nat) : Int)), (7, iV z.1)]) (fun z => [Box p [vSl ahp hp2 chp, .map (some b), iV (wr (tm + 1))], Arn z.2.1, OwnSl 158 1 ahp hp2.length chp (flL z.2.2), OwnMapI b .u32 (fun zE : Option Addr => .pointer zE) fo]) (fun _ => h) ((arv ar3 ((getA fo item).getD (none : Option Addr))).at_, ar3, hp2) ⟨q52, rfl⟩ sb rfl (FH.le_refl _) ?_
  rintro ⟨i2, ar9, l4⟩ ⟨q52, q8⟩
  have hF := q128 i2 ar9 l4 q52
  show J _ _ _ _ _ [(0, .iface 163 (vP (p.add 0))), (1, iV ((arv ar3 ((getA fo item).getD (none : Option Addr))).at_)), (2, iV ((hp2.length : Nat) : Int)), (7, iV i2)] [Box p [vSl ahp hp2 chp, .map (some b), iV (wr (tm + 1))], Arn ar9, OwnSl 158 1 ahp hp2.length chp (flL l4), OwnMapI b .u32 (fun zE : Option Addr => .pointer zE) fo] h
  refine .block (.seq (.region (.V mv0 ?_)))
  refine .V bi0 ?_
  refine .V bi0 ?_
  refine .V ag0 ?_
  refine .nil (.seqN (.seq (.seq (.region (.V mv0 ?_)))))
  refine .V mv0 ?_
  obtain ⟨x5, q89⟩ : ∃ y_ : Bool, y_ = (decide (((hp2.length : Nat) : Int) ≤ (wr ((wr (2 * i2)) + 1)))) := ⟨_, rfl⟩
  replace hF := hF x5 q89
  refine .v (v := .bool x5) (by rw [q89]; exact bi rfl rfl rfl) rfl rfl rfl ?_
  refine .V mv0 ?_
  rcases Bool.eq_false_or_eq_true (x5) with q14 | q14
  ·replace hF := hF.1 q14
   refine .GS q14 ?_
   refine .GS q14 ?_
   refine .V (pkT rfl q14 rfl) ?_
   refine .nil (.seqN ?_)
   refine .cond rfl (fun _ => ?_) (fun e => absurd (e.symm.trans rfl) (by decide))
   refine .exit (.seqX ?_)
   refine .blkY rfl ?_
   refine .seqX (.blkX ?_)
   exact .US q41 (i2, ar9, l4) ⟨hF, q8⟩
  replace hF := hF.2 q14
  refine .GV mv0 q14 ?_
  obtain ⟨x6, q90⟩ : ∃ y_ : Bool, y_ = (decide ((wr ((wr (2 * i2)) + 1)) < 0)) := ⟨_, rfl⟩
  replace hF := hF x6 q90
  refine .gv (v := .bool x6) (by rw [q90]; exact bi rfl rfl rfl) rfl rfl rfl q14 rfl rfl ?_
  refine .V (pkF rfl q14 rfl) ?_
  refine .nil (.seqN ?_)
  refine .cond rfl (fun q53 => ?_) (fun q53 => ?_)
  ·replace hF := hF.1 q53
   refine .exit (.seqX ?_)
   refine .blkY rfl ?_
   refine .seqX (.blkX ?_)
   exact .US q41 (i2, ar9, l4) ⟨hF, q8⟩
  replace hF := hF.2 q53
  refine .skip (.seqN (.seq (.region (.V mv0 ?_))))
  refine .V ag0 ?_
  refine .nil (.seqN (.seq (.seq (.region (.V mv0 ?_)))))
  obtain ⟨x7, q91⟩ : ∃ y_ : Int, y_ = (wr ((wr ((wr (2 * i2)) + 1)) + 1)) := ⟨_, rfl⟩
  replace hF := hF x7 q91
  refine .v (v := iV x7) (by rw [q91]; exact bi rfl rfl rfl) rfl rfl rfl ?_
  refine .V ag0 ?_
  refine .nil (.seqN ?_)
  refine .share (σ := Bool) (fun z => F_qset_J3 item K fo ar3 z x7 i2 ar9 l4 I2 μ2) (fun z => [(0, .iface 163 (vP (p.add 0))), (1, iV ((arv ar3 ((getA fo item).getD (none : Option Addr))).at_)), (2, iV ((hp2.length : Nat) : Int)), (7, iV i2), (9, iV (wr ((wr (2 * i2)) + 1))), (10, iV x7), (33, .bool z)]) (fun _ => [Box p [vSl ahp hp2 chp, .map (some b), iV (wr (tm + 1))], Arn ar9, OwnSl 158 1 ahp hp2.length chp (flL l4), OwnMapI b .u32 (fun zE : Option Addr => .pointer zE) fo]) (fun _ => h) ?_ (fun q92 => ?_)
  ·rintro t33 hF
   show J _ _ _ _ _ [(0, .iface 163 (vP (p.add 0))), (1, iV ((arv ar3 ((getA fo item).getD (none : Option Addr))).at_)), (2, iV ((hp2.length : Nat) : Int)), (7, iV i2), (9, iV (wr ((wr (2 * i2)) + 1))), (10, iV x7), (33, .bool t33)] [Box p [vSl ahp hp2 chp, .map (some b), iV (wr (tm + 1))], Arn ar9, OwnSl 158 1 ahp hp2.length chp (flL l4), OwnMapI b .u32 (fun zE : Option Addr => .pointer zE) fo] h
   refine .shareT (σ := Int) (fun z => F_qset_J4 item K fo ar3 i2 z ar9 l4 I2 μ2) (fun z => [(0, .iface 163 (vP (p.add 0))), (1, iV ((arv ar3 ((getA fo item).getD (none : Option Addr))).at_)), (2, iV ((hp2.length : Nat) : Int)), (7, iV i2), (9, iV z)]) (fun _ => [Box p [vSl ahp hp2 chp, .map (some b), iV (wr (tm + 1))], Arn ar9, OwnSl 158 1 ahp hp2.length chp (flL l4), OwnMapI b .u32 (fun zE : Option Addr => .pointer zE) fo]) (fun _ => h) ?_ (fun q93 => ?_)
   ·rintro j3 hF
    show J _ _ _ _ _ [(0, .iface 163 (vP (p.add 0))), (1, iV ((arv ar3 ((getA fo item).getD (none : Option Addr))).at_)), (2, iV ((hp2.length : Nat) : Int)), (7, iV i2), (9, iV j3)] [Box p [vSl ahp hp2 chp, .map (some b), iV (wr (tm + 1))], Arn ar9, OwnSl 158 1 ahp hp2.length chp (flL l4), OwnMapI b .u32 (fun zE : Option Addr => .pointer zE) fo] h
    refine .seq (.seq (.region (.V mv0 ?_)))
    refine .V mv0 ?_
    refine .V mv0 ?_
    refine .inlV Tryz.func161 rfl Tryz.ntmps161 Tryz.call161 tm163_Less rfl (cellB (off := 0) (k := 0) rfl rfl) rfl rfl (fun a7 q129 => ?_)
    refine .seq (.region (.V ag0 ?_))
    refine .nil (.seqN ?_)
    refine .share (σ := Bool) (fun z => F_qset_J5 item K fo ar3 z i2 j3 ar9 l4 I2 μ2) (fun z => [(6, .bool z)]) (fun _ => [Box p [vSl ahp hp2 chp, .map (some b), iV (wr (tm + 1))], Arn ar9, OwnSl 158 1 ahp hp2.length chp (flL l4), OwnMapI b .u32 (fun zE : Option Addr => .pointer zE) fo]) (fun _ => h) ?_ (fun q54 => ?_)
    ·rintro t62 hF
     show J _ _ _ _ _ [(6, .bool t62)] [Box p [vSl ahp hp2 chp, .map (some b), iV (wr (tm + 1))], Arn ar9, OwnSl 158 1 ahp hp2.length chp (flL l4), OwnMapI b .u32 (fun zE : Option Addr => .pointer zE) fo] h
     refine .ret ?_
     refine .res1 rfl (rvT rfl) (inl_back (v := .bool t62) q129 rfl ?_)
     refine .V (nt rfl) ?_
     refine .nil (.seqN ?_)
     refine .cond rfl (fun q55 => ?_) (fun q55 => ?_)
     ·replace hF := hF.1 q55
      refine .exit (.seqX ?_)
      refine .blkY rfl ?_
      refine .seqX (.blkX ?_)
      exact .US q41 (i2, ar9, l4) ⟨hF, q8⟩
     replace hF := hF.2 q55
     refine .skip (.seqN (.seq (.region (.V mv0 ?_))))
     refine .V mv0 ?_
     refine .V mv0 ?_
     refine .inlV Tryz.func162 rfl Tryz.ntmps162 Tryz.call162 tm163_Swap rfl (cellB (off := 0) (k := 0) rfl rfl) rfl rfl (fun a8 q130 => ?_)
     refine .seq ?_
     obtain ⟨q94, q20, hF⟩ := hF
     refine .OA (s0 := [(0, vSl ahp hp2 chp), (1, iV i2), (2, iV j3)]) [0, 1, 2, 3, 4, 5, 6, 7, 8, 9, 10, 11, 12] [(0, vSl ahp hp2 chp), (1, iV i2), (2, vSl ahp hp2 chp), (3, iV j3), (4, vSl ahp hp2 chp), (5, iV j3), (6, vP (ead ahp (j3.toNat * 1))), (7, .pointer (gt l4 j3)), (8, vSl ahp hp2 chp), (9, iV i2), (10, vP (ead ahp (i2.toNat * 1))), (11, .pointer (gt l4 i2)), (12, vP (ead ahp (i2.toNat * 1)))] [0, 1, 2] [] ?_
     refine .ST [13] 13 (.w [] rfl mv0 (.w [] rfl mv0 (.w [] rfl mv0 (.w [] rfl mv0 (.w [] rfl mv0 (.w [] rfl mv0 (.w [(10, vSl ahp hp2 chp), (11, iV j3)] rfl (ixS rfl rfl tS155 (k := 2) rfl (inb_n q94 q8)) (.w [(12, vP (ead ahp (j3.toNat * 1)))] rfl (ld1 (v := .pointer (gt l4 j3)) rfl tO158 (cellS (k := 2) rfl (flL_get q94 (j := 0) rfl))) (.w [] rfl mv0 (.w [] rfl mv0 (.w [(14, vSl ahp hp2 chp), (15, iV i2)] rfl (ixS rfl rfl tS155 (k := 2) rfl (inb_n q20 q8)) (.w [(16, vP (ead ahp (i2.toNat * 1)))] rfl (ld1 (v := .pointer (gt l4 i2)) rfl tO158 (cellS (k := 2) rfl (flL_get q20 (j := 0) rfl))) (.w [(6, vSl ahp hp2 chp), (7, iV i2), (6, vSl ahp hp2 chp), (7, iV i2), (10, vSl ahp hp2 chp), (11, iV j3), (12, vP (ead ahp (j3.toNat * 1))), (13, .pointer (gt l4 j3)), (17, .pointer (gt l4 i2))] rfl (ixS rfl rfl tS155 (k := 2) rfl (inb_n q20 q8)) (.nil)))))))))))))) (.cons [(18, vP (ead ahp (i2.toNat * 1))), (13, .pointer (gt l4 j3)), (6, vSl ahp hp2 chp), (7, iV i2), (10, vSl ahp hp2 chp), (11, iV j3), (12, vP (ead ahp (j3.toNat * 1))), (13, .pointer (gt l4 j3)), (17, .pointer (gt l4 i2))] rfl rfl (fun sL hL => ?_) (.nil))
     obtain ⟨d3, q56⟩ : ∃ y_ : List (Option Addr), y_ = (l4.set (i2).toNat (gt l4 j3)) := ⟨_, rfl⟩
     replace hF := hF d3 q56
     refine stS (k := 2) (cs' := flL d3) rfl (fun _ => rfl) rfl rfl (fun w => (tO158 w).2) rfl rfl rfl (by rw [← q8]; exact inb_pos q20) (fl_room q20) (by rw [q56]; exact flL_set q20 (gt l4 j3)) ?_
     have q57 : d3.length = hp2.length := by rw [q56]; exact List.length_set.trans q8
     refine .nil ?_
     obtain ⟨q35, hF⟩ := hF
     refine .jaN (M := [12, 7, 0, 1, 4, 5, 6, 11, 10, 8, 9]) (C' := [2, 3, 14]) (pre := [(14, vP (ead ahp (j3.toNat * 1)))]) [0, 1, 2] hL rfl rfl rfl rfl rfl (by kernel_rfl) ?_
     refine .ST [15] 15 (.w [] rfl mv0 (.w [] rfl mv0 (.w [(8, vSl ahp hp2 chp), (9, iV j3), (6, vSl ahp hp2 chp), (7, iV i2), (8, vSl ahp hp2 chp), (9, iV j3), (10, vSl ahp hp2 chp), (11, iV j3), (12, vP (ead ahp (j3.toNat * 1))), (13, .pointer (gt l4 j3)), (14, vSl ahp hp2 chp), (15, iV i2), (16, vP (ead ahp (i2.toNat * 1))), (17, .pointer (gt l4 i2)), (18, vP (ead ahp (i2.toNat * 1)))] rfl (ixS rfl rfl tS155 (k := 2) rfl (inb_n q35 q57)) (.nil)))) (.cons [(19, vP (ead ahp (j3.toNat * 1))), (17, .pointer (gt l4 i2)), (6, vSl ahp hp2 chp), (7, iV i2), (8, vSl ahp hp2 chp), (9, iV j3), (10, vSl ahp hp2 chp), (11, iV j3), (12, vP (ead ahp (j3.toNat * 1))), (13, .pointer (gt l4 j3)), (14, vSl ahp hp2 chp), (15, iV i2), (16, vP (ead ahp (i2.toNat * 1))), (17, .pointer (gt l4 i2)), (18, vP (ead ahp (i2.toNat * 1)))] rfl rfl (fun sL hL => ?_) (.nil))
     obtain ⟨d4, q58⟩ : ∃ y_ : List (Option Addr), y_ = (d3.set (j3).toNat (gt l4 i2)) := ⟨_, rfl⟩
     replace hF := hF d4 q58
     refine stS (k := 2) (cs' := flL d4) rfl (fun _ => rfl) rfl rfl (fun w => (tO158 w).2) rfl rfl rfl (by rw [← q57]; exact inb_pos q35) (fl_room q35) (by rw [q58]; exact flL_set q35 (gt l4 i2)) ?_
     have q59 : d4.length = hp2.length := by rw [q58]; exact List.length_set.trans q57
     refine .nil ?_
     refine .jaN (M := [14, 2, 3]) (C' := []) (pre := []) [0, 1, 2] hL rfl rfl rfl rfl rfl (by kernel_rfl) ?_
     refine .LA [(6, vSl ahp hp2 chp), (7, iV i2), (8, vSl ahp hp2 chp), (9, iV j3), (10, vSl ahp hp2 chp), (11, iV j3), (12, vP (ead ahp (j3.toNat * 1))), (13, .pointer (gt l4 j3)), (14, vSl ahp hp2 chp), (15, iV i2), (16, vP (ead ahp (i2.toNat * 1))), (17, .pointer (gt l4 i2)), (18, vP (ead ahp (i2.toNat * 1))), (19, vP (ead ahp (j3.toNat * 1)))] (.nil) ?_
     refine .seqN ?_
     obtain ⟨q95, q96, q60, hF⟩ := hF
     refine .OA (s0 := [(0, vSl ahp hp2 chp), (1, iV i2), (2, iV j3)]) [0, 1, 2, 3, 4, 5, 6, 7, 8, 9, 10, 11] [(0, vSl ahp hp2 chp), (1, iV i2), (2, vP (ead ahp (i2.toNat * 1))), (3, .pointer (gt d4 i2)), (4, vSl ahp hp2 chp), (5, iV j3), (6, vP (ead ahp (j3.toNat * 1))), (7, .pointer (gt d4 j3)), (8, iV i2), (9, iV j3), (10, vP (pA (gt d4 i2))), (11, vP ((pA (gt d4 i2)).add 3))] [0, 1, 2] [] ?_
     refine .ST [12] 12 (.w [] rfl mv0 (.w [] rfl mv0 (.w [(20, vSl ahp hp2 chp), (21, iV i2)] rfl (ixS rfl rfl tS155 (k := 2) rfl (inb_n q95 q59)) (.w [(22, vP (ead ahp (i2.toNat * 1)))] rfl (ld1 (v := .pointer (gt d4 i2)) rfl tO158 (cellS (k := 2) rfl (flL_get q95 (j := 0) rfl))) (.w [] rfl mv0 (.w [] rfl mv0 (.w [(24, vSl ahp hp2 chp), (25, iV j3)] rfl (ixS rfl rfl tS155 (k := 2) rfl (inb_n q96 q59)) (.w [(26, vP (ead ahp (j3.toNat * 1)))] rfl (ld1 (v := .pointer (gt d4 j3)) rfl tO158 (cellS (k := 2) rfl (flL_get q96 (j := 0) rfl))) (.w [] rfl mv0 (.w [] rfl mv0 (.w [(23, .pointer (gt d4 i2)), (20, vSl ahp hp2 chp), (21, iV i2), (22, vP (ead ahp (i2.toNat * 1))), (23, .pointer (gt d4 i2)), (27, .pointer (gt d4 j3)), (28, iV i2)] rfl (nck (inA.ev q60)) (.w [(30, vP (pA (gt d4 i2))), (20, vSl ahp hp2 chp), (21, iV i2), (22, vP (ead ahp (i2.toNat * 1))), (23, .pointer (gt d4 i2)), (27, .pointer (gt d4 j3)), (28, iV i2)] rfl (fa rfl tF161_3) (.nil))))))))))))) (.cons [(31, vP ((pA (gt d4 i2)).add 3)), (28, iV i2), (20, vSl ahp hp2 chp), (21, iV i2), (22, vP (ead ahp (i2.toNat * 1))), (23, .pointer (gt d4 i2)), (27, .pointer (gt d4 j3)), (28, iV i2)] rfl rfl (fun sL hL => ?_) (.nil))
     refine stR (p := pA (gt d4 i2)) (off := 3) (k := 1) (e := (arv ar9 (gt d4 i2))) (e' := (⟨(arv ar9 (gt d4 i2)).item, (arv ar9 (gt d4 i2)).key, (arv ar9 (gt d4 i2)).time, i2⟩ : QEnt)) (xx := (gt d4 i2)) (vs := [iV i2]) rfl rfl rfl (fun w => (tO3 w).2) rfl rfl rfl (inA.eq q60) (inA.at_ q60) (Nat.le_of_ble_eq_true rfl) rfl ?_
     obtain ⟨ar11, q97⟩ : ∃ y_ : Addr → Option QEnt, y_ = (setP ar9 (gt d4 i2) (⟨(arv ar9 (gt d4 i2)).item, (arv ar9 (gt d4 i2)).key, (arv ar9 (gt d4 i2)).time, i2⟩ : QEnt)) := ⟨_, rfl⟩
     replace hF := hF ar11 q97
     refine .cast (A' := [Box p [vSl ahp hp2 chp, .map (some b), iV (wr (tm + 1))], Arn ar11, OwnSl 158 1 ahp hp2.length chp (flL d4), OwnMapI b .u32 (fun zE : Option Addr => .pointer zE) fo]) (by rw [q97]; rfl) ?_
     refine .nil ?_
     obtain ⟨q61, hF⟩ := hF
     refine .jaN (M := [11, 8, 0, 1, 2, 3, 7, 10, 6, 4, 5]) (C' := [9, 13, 14]) (pre := [(13, vP (pA (gt d4 j3))), (14, vP ((pA (gt d4 j3)).add 3))]) [0, 1, 2] hL rfl rfl rfl rfl rfl (by kernel_rfl) ?_
     refine .ST [15] 15 (.w [] rfl mv0 (.w [(27, .pointer (gt d4 j3)), (20, vSl ahp hp2 chp), (21, iV i2), (22, vP (ead ahp (i2.toNat * 1))), (23, .pointer (gt d4 i2)), (24, vSl ahp hp2 chp), (25, iV j3), (26, vP (ead ahp (j3.toNat * 1))), (27, .pointer (gt d4 j3)), (28, iV i2), (29, iV j3), (30, vP (pA (gt d4 i2))), (31, vP ((pA (gt d4 i2)).add 3))] rfl (nck (inA.ev q61)) (.w [(32, vP (pA (gt d4 j3))), (20, vSl ahp hp2 chp), (21, iV i2), (22, vP (ead ahp (i2.toNat * 1))), (23, .pointer (gt d4 i2)), (24, vSl ahp hp2 chp), (25, iV j3), (26, vP (ead ahp (j3.toNat * 1))), (27, .pointer (gt d4 j3)), (28, iV i2), (29, iV j3), (30, vP (pA (gt d4 i2))), (31, vP ((pA (gt d4 i2)).add 3))] rfl (fa rfl tF161_3) (.nil)))) (.cons [(33, vP ((pA (gt d4 j3)).add 3)), (29, iV j3), (20, vSl ahp hp2 chp), (21, iV i2), (22, vP (ead ahp (i2.toNat * 1))), (23, .pointer (gt d4 i2)), (24, vSl ahp hp2 chp), (25, iV j3), (26, vP (ead ahp (j3.toNat * 1))), (27, .pointer (gt d4 j3)), (28, iV i2), (29, iV j3), (30, vP (pA (gt d4 i2))), (31, vP ((pA (gt d4 i2)).add 3))] rfl rfl (fun sL hL => ?_) (.nil))
     refine stR (p := pA (gt d4 j3)) (off := 3) (k := 1) (e := (arv ar11 (gt d4 j3))) (e' := (⟨(arv ar11 (gt d4 j3)).item, (arv ar11 (gt d4 j3)).key, (arv ar11 (gt d4 j3)).time, j3⟩ : QEnt)) (xx := (gt d4 j3)) (vs := [iV j3]) rfl rfl rfl (fun w => (tO3 w).2) rfl rfl rfl (inA.eq q61) (inA.at_ q61) (Nat.le_of_ble_eq_true rfl) rfl ?_
     obtain ⟨ar12, q98⟩ : ∃ y_ : Addr → Option QEnt, y_ = (setP ar11 (gt d4 j3) (⟨(arv ar11 (gt d4 j3)).item, (arv ar11 (gt d4 j3)).key, (arv ar11 (gt d4 j3)).time, j3⟩ : QEnt)) := ⟨_, rfl⟩
     replace hF := hF ar12 q98
     refine .cast (A' := [Box p [vSl ahp hp2 chp, .map (some b), iV (wr (tm + 1))], Arn ar12, OwnSl 158 1 ahp hp2.length chp (flL d4), OwnMapI b .u32 (fun zE : Option Addr => .pointer zE) fo]) (by rw [q98]; rfl) ?_
     refine .nil ?_
     refine .jaN (M := [14, 9, 13]) (C' := []) (pre := []) [0, 1, 2] hL rfl rfl rfl rfl rfl (by kernel_rfl) ?_
     refine .LA [(20, vSl ahp hp2 chp), (21, iV i2), (22, vP (ead ahp (i2.toNat * 1))), (23, .pointer (gt d4 i2)), (24, vSl ahp hp2 chp), (25, iV j3), (26, vP (ead ahp (j3.toNat * 1))), (27, .pointer (gt d4 j3)), (28, iV i2), (29, iV j3), (30, vP (pA (gt d4 i2))), (31, vP ((pA (gt d4 i2)).add 3)), (32, vP (pA (gt d4 j3))), (33, vP ((pA (gt d4 j3)).add 3))] (.nil) ?_
     refine .res0 (.inr rfl) rfl (inl_back (v := .tuple #[]) q130 rfl ?_)
     refine .nil (.seqN (.region (.V mv0 ?_)))
     refine .V ag0 ?_
     refine .nil (.blkN ?_)
     exact .RO (j3, ar12, d4) ⟨hF.1, q59⟩ hF.2
    refine .open_ (by kernel_rfl) (by kernel_rfl) ?_
    refine .V mv0 ?_
    refine .V mv0 ?_
    obtain ⟨q21, hF⟩ := hF
    refine .V (ixS rfl rfl tS155 (k := 2) rfl (inb_n q21 q8)) ?_
    refine .V (ld1 (v := .pointer (gt l4 j3)) rfl tO158 (cellS (k := 2) rfl (flL_get q21 (j := 0) rfl))) ?_
    obtain ⟨q22, hF⟩ := hF
    refine .V (nck (inA.ev q22)) ?_
    refine .V (fa rfl tF161_1) ?_
    refine .V (ld1 (v := iV ((arv ar9 (gt l4 j3)).key)) rfl tO3 (cellR (k := 1) (off := 1) rfl (inA.at_ q22) rfl)) ?_
    refine .V mv0 ?_
    refine .V mv0 ?_
    obtain ⟨q23, hF⟩ := hF
    refine .V (ixS rfl rfl tS155 (k := 2) rfl (inb_n q23 q8)) ?_
    refine .V (ld1 (v := .pointer (gt l4 i2)) rfl tO158 (cellS (k := 2) rfl (flL_get q23 (j := 0) rfl))) ?_
    obtain ⟨q24, hF⟩ := hF
    refine .V (nck (inA.ev q24)) ?_
    refine .V (fa rfl tF161_1) ?_
    refine .V (ld1 (v := iV ((arv ar9 (gt l4 i2)).key)) rfl tO3 (cellR (k := 1) (off := 1) rfl (inA.at_ q24) rfl)) ?_
    refine .V bi0 ?_
    refine .V mv0 ?_
    rcases Bool.eq_false_or_eq_true (decide (((arv ar9 (gt l4 j3)).key) < ((arv ar9 (gt l4 i2)).key))) with q1 | q1
    ·replace hF := hF.1 q1
     refine .GS q1 ?_
     refine .GS q1 ?_
     refine .GS q1 ?_
     refine .GS q1 ?_
     refine .GS q1 ?_
     refine .GS q1 ?_
     refine .GS q1 ?_
     refine .GS q1 ?_
     refine .GS q1 ?_
     refine .GS q1 ?_
     refine .GS q1 ?_
     refine .GS q1 ?_
     refine .GS q1 ?_
     refine .GS q1 ?_
     refine .GS q1 ?_
     refine .GS q1 ?_
     refine .GU ?_
     refine .GU ?_
     refine .GU ?_
     refine .GU ?_
     refine .GU ?_
     refine .GU ?_
     refine .GU ?_
     refine .GU ?_
     refine .GU ?_
     refine .GU ?_
     refine .GU ?_
     refine .GU ?_
     refine .GU ?_
     refine .GU ?_
     refine .GU ?_
     refine .GS q1 ?_
     refine .V (pkT rfl q1 rfl) ?_
     refine .V ag0 ?_
     refine .fin ?_
     exact .US q54 true hF
    replace hF := hF.2 q1
    refine .GV mv0 q1 ?_
    refine .GV mv0 q1 ?_
    refine .GV (ixS rfl rfl tS155 (k := 2) rfl (inb_n q21 q8)) q1 ?_
    refine .GV (ld1 (v := .pointer (gt l4 j3)) rfl tO158 (cellS (k := 2) rfl (flL_get q21 (j := 0) rfl))) q1 ?_
    refine .GV (nck (inA.ev q22)) q1 ?_
    refine .GV (fa rfl tF161_1) q1 ?_
    refine .GV (ld1 (v := iV ((arv ar9 (gt l4 j3)).key)) rfl tO3 (cellR (k := 1) (off := 1) rfl (inA.at_ q22) rfl)) q1 ?_
    refine .GV mv0 q1 ?_
    refine .GV mv0 q1 ?_
    refine .GV (ixS rfl rfl tS155 (k := 2) rfl (inb_n q23 q8)) q1 ?_
    refine .GV (ld1 (v := .pointer (gt l4 i2)) rfl tO158 (cellS (k := 2) rfl (flL_get q23 (j := 0) rfl))) q1 ?_
    refine .GV (nck (inA.ev q24)) q1 ?_
    refine .GV (fa rfl tF161_1) q1 ?_
    refine .GV (ld1 (v := iV ((arv ar9 (gt l4 i2)).key)) rfl tO3 (cellR (k := 1) (off := 1) rfl (inA.at_ q24) rfl)) q1 ?_
    refine .GV bi0 q1 ?_
    refine .GV mv0 q1 ?_
    rcases Bool.eq_false_or_eq_true (((arv ar9 (gt l4 j3)).key) == ((arv ar9 (gt l4 i2)).key)) with q5 | q5
    ·replace hF := hF.1 q5
     refine .GV mv0 q5 ?_
     refine .GV mv0 q5 ?_
     refine .GV (ixS rfl rfl tS155 (k := 2) rfl (inb_n q21 q8)) q5 ?_
     refine .GV (ld1 (v := .pointer (gt l4 j3)) rfl tO158 (cellS (k := 2) rfl (flL_get q21 (j := 0) rfl))) q5 ?_
     refine .GV (nck (inA.ev q22)) q5 ?_
     refine .GV (fa rfl tF161_2) q5 ?_
     refine .GV (ld1 (v := iV ((arv ar9 (gt l4 j3)).time)) rfl tO3 (cellR (k := 1) (off := 2) rfl (inA.at_ q22) rfl)) q5 ?_
     refine .GV mv0 q5 ?_
     refine .GV mv0 q5 ?_
     refine .GV (ixS rfl rfl tS155 (k := 2) rfl (inb_n q23 q8)) q5 ?_
     refine .GV (ld1 (v := .pointer (gt l4 i2)) rfl tO158 (cellS (k := 2) rfl (flL_get q23 (j := 0) rfl))) q5 ?_
     refine .GV (nck (inA.ev q24)) q5 ?_
     refine .GV (fa rfl tF161_2) q5 ?_
     refine .GV (ld1 (v := iV ((arv ar9 (gt l4 i2)).time)) rfl tO3 (cellR (k := 1) (off := 2) rfl (inA.at_ q24) rfl)) q5 ?_
     obtain ⟨x8, q99⟩ : ∃ y_ : Bool, y_ = (decide (((arv ar9 (gt l4 j3)).time) < ((arv ar9 (gt l4 i2)).time))) := ⟨_, rfl⟩
     replace hF := hF x8 q99
     refine .gv (v := .bool x8) (by rw [q99]; exact bi rfl rfl rfl) rfl rfl rfl q5 rfl rfl ?_
     refine .GV (pkT rfl q5 rfl) q1 ?_
     refine .V (pkF rfl q1 rfl) ?_
     refine .V ag0 ?_
     refine .fin ?_
     exact .US q54 x8 hF
    replace hF := hF.2 q5
    refine .GS q5 ?_
    refine .GS q5 ?_
    refine .GS q5 ?_
    refine .GS q5 ?_
    refine .GS q5 ?_
    refine .GS q5 ?_
    refine .GS q5 ?_
    refine .GS q5 ?_
    refine .GS q5 ?_
    refine .GS q5 ?_
    refine .GS q5 ?_
    refine .GS q5 ?_
    refine .GS q5 ?_
    refine .GS q5 ?_
    refine .GS q5 ?_
    refine .GV (pkF rfl q5 rfl) q1 ?_
    refine .V (pkF rfl q1 rfl) ?_
    refine .V ag0 ?_
    refine .fin ?_
    exact .US q54 false hF
   refine .cond rfl (fun q62 => ?_) (fun q62 => ?_)
   ·replace hF := hF.1 q62
    refine .region (.V mv0 ?_)
    refine .V ag0 ?_
    refine .nil ?_
    exact .US q93 x7 hF
   replace hF := hF.2 q62
   refine .skip ?_
   exact .US q93 (wr ((wr (2 * i2)) + 1)) hF
  refine .region (.V mv0 ?_)
  refine .V mv0 ?_
  refine .V bi0 ?_
  refine .V mv0 ?_
  rcases Bool.eq_false_or_eq_true (decide (x7 < ((hp2.length : Nat) : Int))) with q12 | q12
  ·replace hF := hF.1 q12
   refine .GV mv0 q12 ?_
   refine .GV mv0 q12 ?_
   refine .GV mv0 q12 ?_
   refine .gR rfl rfl rfl q12 ?_
   refine .inlV Tryz.func161 rfl Tryz.ntmps161 Tryz.call161 tm163_Less rfl (cellB (off := 0) (k := 0) rfl rfl) rfl rfl (fun a9 q131 => ?_)
   refine .seq (.region (.V ag0 ?_))
   refine .nil (.seqN ?_)
   refine .share (σ := Bool) (fun z => F_qset_J6 item K fo ar3 x7 i2 ar9 z l4 I2 μ2) (fun z => [(6, .bool z)]) (fun _ => [Box p [vSl ahp hp2 chp, .map (some b), iV (wr (tm + 1))], Arn ar9, OwnSl 158 1 ahp hp2.length chp (flL l4), OwnMapI b .u32 (fun zE : Option Addr => .pointer zE) fo]) (fun _ => h) ?_ (fun q63 => ?_)
   ·rintro t63 hF
    show J _ _ _ _ _ [(6, .bool t63)] [Box p [vSl ahp hp2 chp, .map (some b), iV (wr (tm + 1))], Arn ar9, OwnSl 158 1 ahp hp2.length chp (flL l4), OwnMapI b .u32 (fun zE : Option Addr => .pointer zE) fo] h
    refine .ret ?_
    refine .res1 rfl (rvT rfl) (inl_back (v := .bool t63) q131 rfl ?_)
    refine .V (pkT rfl q12 rfl) ?_
    refine .nil ?_
    exact .US q92 t63 hF
   refine .open_ (by kernel_rfl) (by kernel_rfl) ?_
   refine .V mv0 ?_
   refine .V mv0 ?_
   obtain ⟨q25, hF⟩ := hF
   refine .V (ixS rfl rfl tS155 (k := 2) rfl (inb_n q25 q8)) ?_
   refine .V (ld1 (v := .pointer (gt l4 x7)) rfl tO158 (cellS (k := 2) rfl (flL_get q25 (j := 0) rfl))) ?_
   obtain ⟨q26, hF⟩ := hF
   refine .V (nck (inA.ev q26)) ?_
   refine .V (fa rfl tF161_1) ?_
   refine .V (ld1 (v := iV ((arv ar9 (gt l4 x7)).key)) rfl tO3 (cellR (k := 1) (off := 1) rfl (inA.at_ q26) rfl)) ?_
   refine .V mv0 ?_
   refine .V mv0 ?_
   obtain ⟨q27, hF⟩ := hF
   refine .V (ixS rfl rfl tS155 (k := 2) rfl (inb_n q27 q8)) ?_
   refine .V (ld1 (v := .pointer (gt l4 (wr ((wr (2 * i2)) + 1)))) rfl tO158 (cellS (k := 2) rfl (flL_get q27 (j := 0) rfl))) ?_
   obtain ⟨q28, hF⟩ := hF
   refine .V (nck (inA.ev q28)) ?_
   refine .V (fa rfl tF161_1) ?_
   refine .V (ld1 (v := iV ((arv ar9 (gt l4 (wr ((wr (2 * i2)) + 1)))).key)) rfl tO3 (cellR (k := 1) (off := 1) rfl (inA.at_ q28) rfl)) ?_
   obtain ⟨x9, q100⟩ : ∃ y_ : Bool, y_ = (decide (((arv ar9 (gt l4 x7)).key) < ((arv ar9 (gt l4 (wr ((wr (2 * i2)) + 1)))).key))) := ⟨_, rfl⟩
   replace hF := hF x9 q100
   refine .v (v := .bool x9) (by rw [q100]; exact bi rfl rfl rfl) rfl rfl rfl ?_
   refine .V mv0 ?_
   rcases Bool.eq_false_or_eq_true (x9) with q2 | q2
   ·replace hF := hF.1 q2
    refine .GS q2 ?_
    refine .GS q2 ?_
    refine .GS q2 ?_
    refine .GS q2 ?_
    refine .GS q2 ?_
    refine .GS q2 ?_
    refine .GS q2 ?_
    refine .GS q2 ?_
    refine .GS q2 ?_
    refine .GS q2 ?_
    refine .GS q2 ?_
    refine .GS q2 ?_
    refine .GS q2 ?_
    refine .GS q2 ?_
    refine .GS q2 ?_
    refine .GS q2 ?_
    refine .GU ?_
    refine .GU ?_
    refine .GU ?_
    refine .GU ?_
    refine .GU ?_
    refine .GU ?_
    refine .GU ?_
    refine .GU ?_
    refine .GU ?_
    refine .GU ?_
    refine .GU ?_
    refine .GU ?_
    refine .GU ?_
    refine .GU ?_
    refine .GU ?_
    refine .GS q2 ?_
    refine .V (pkT rfl q2 rfl) ?_
    refine .V ag0 ?_
    refine .fin ?_
    exact .US q63 true hF
   replace hF := hF.2 q2
   refine .GV mv0 q2 ?_
   refine .GV mv0 q2 ?_
   refine .GV (ixS rfl rfl tS155 (k := 2) rfl (inb_n q25 q8)) q2 ?_
   refine .GV (ld1 (v := .pointer (gt l4 x7)) rfl tO158 (cellS (k := 2) rfl (flL_get q25 (j := 0) rfl))) q2 ?_
   refine .GV (nck (inA.ev q26)) q2 ?_
   refine .GV (fa rfl tF161_1) q2 ?_
   refine .GV (ld1 (v := iV ((arv ar9 (gt l4 x7)).key)) rfl tO3 (cellR (k := 1) (off := 1) rfl (inA.at_ q26) rfl)) q2 ?_
   refine .GV mv0 q2 ?_
   refine .GV mv0 q2 ?_
   refine .GV (ixS rfl rfl tS155 (k := 2) rfl (inb_n q27 q8)) q2 ?_
   refine .GV (ld1 (v := .pointer (gt l4 (wr ((wr (2 * i2)) + 1)))) rfl tO158 (cellS (k := 2) rfl (flL_get q27 (j := 0) rfl))) q2 ?_
   refine .GV (nck (inA.ev q28)) q2 ?_
   refine .GV (fa rfl tF161_1) q2 ?_
   refine .GV (ld1 (v := iV ((arv ar9 (gt l4 (wr ((wr (2 * i2)) + 1)))).key)) rfl tO3 (cellR (k := 1) (off := 1) rfl (inA.at_ q28) rfl)) q2 ?_
   obtain ⟨x10, q101⟩ : ∃ y_ : Bool, y_ = (((arv ar9 (gt l4 x7)).key) == ((arv ar9 (gt l4 (wr ((wr (2 * i2)) + 1)))).key)) := ⟨_, rfl⟩
   replace hF := hF x10 q101
   refine .gv (v := .bool x10) (by rw [q101]; exact bi rfl rfl rfl) rfl rfl rfl q2 rfl rfl ?_
   refine .GV mv0 q2 ?_
   rcases Bool.eq_false_or_eq_true (x10) with q6 | q6
   ·replace hF := hF.1 q6
    refine .GV mv0 q6 ?_
    refine .GV mv0 q6 ?_
    refine .GV (ixS rfl rfl tS155 (k := 2) rfl (inb_n q25 q8)) q6 ?_
    refine .GV (ld1 (v := .pointer (gt l4 x7)) rfl tO158 (cellS (k := 2) rfl (flL_get q25 (j := 0) rfl))) q6 ?_
    refine .GV (nck (inA.ev q26)) q6 ?_
    refine .GV (fa rfl tF161_2) q6 ?_
    refine .GV (ld1 (v := iV ((arv ar9 (gt l4 x7)).time)) rfl tO3 (cellR (k := 1) (off := 2) rfl (inA.at_ q26) rfl)) q6 ?_
    refine .GV mv0 q6 ?_
    refine .GV mv0 q6 ?_
    refine .GV (ixS rfl rfl tS155 (k := 2) rfl (inb_n q27 q8)) q6 ?_
    refine .GV (ld1 (v := .pointer (gt l4 (wr ((wr (2 * i2)) + 1)))) rfl tO158 (cellS (k := 2) rfl (flL_get q27 (j := 0) rfl))) q6 ?_
    refine .GV (nck (inA.ev q28)) q6 ?_
    refine .GV (fa rfl tF161_2) q6 ?_
    refine .GV (ld1 (v := iV ((arv ar9 (gt l4 (wr ((wr (2 * i2)) + 1)))).time)) rfl tO3 (cellR (k := 1) (off := 2) rfl (inA.at_ q28) rfl)) q6 ?_
    obtain ⟨x11, q102⟩ : ∃ y_ : Bool, y_ = (decide (((arv ar9 (gt l4 x7)).time) < ((arv ar9 (gt l4 (wr ((wr (2 * i2)) + 1)))).time))) := ⟨_, rfl⟩
    replace hF := hF x11 q102
    refine .gv (v := .bool x11) (by rw [q102]; exact bi rfl rfl rfl) rfl rfl rfl q6 rfl rfl ?_
    refine .GV (pkT rfl q6 rfl) q2 ?_
    refine .V (pkF rfl q2 rfl) ?_
    refine .V ag0 ?_
    refine .fin ?_
    exact .US q63 x11 hF
   replace hF := hF.2 q6
   refine .GS q6 ?_
   refine .GS q6 ?_
   refine .GS q6 ?_
   refine .GS q6 ?_
   refine .GS q6 ?_
   refine .GS q6 ?_
   refine .GS q6 ?_
   refine .GS q6 ?_
   refine .GS q6 ?_
   refine .GS q6 ?_
   refine .GS q6 ?_
   refine .GS q6 ?_
   refine .GS q6 ?_
   refine .GS q6 ?_
   refine .GS q6 ?_
   refine .GV (pkF rfl q6 rfl) q2 ?_
   refine .V (pkF rfl q2 rfl) ?_
   refine .V ag0 ?_
   refine .fin ?_
   exact .US q63 false hF
  replace hF := hF.2 q12
  refine .GS q12 ?_
  refine .GS q12 ?_
  refine .GS q12 ?_
  refine .GS q12 ?_
  refine .V (pkF rfl q12 rfl) ?_
  refine .nil ?_
  exact .US q92 false hF
 replace hF := hF.2 q37
 refine .skip (.seqN (.seq (.region (.V mv0 ?_))))
 refine .V mv0 ?_
 refine .V mv0 ?_
 refine .V (nck rfl) ?_
 refine .V (fa rfl tF157_2) ?_
 refine .V (lB 2 0 tO3) ?_
 refine .V (bld (cs := #[.int .u32 item, iV key, iV (wr (tm + 1)), iV 0]) (pv := [(0, .int .u32 item), (1, iV key), (2, iV (wr (tm + 1)))]) tB161 rfl rfl) ?_
 refine bx (vs := [.int .u32 item, iV key, iV (wr (tm + 1)), iV 0]) rfl rfl rfl (fun pv => ?_)
 refine .putR (⟨item, key, wr (tm + 1), 0⟩ : QEnt) (i := 0) (k := 4) rfl rfl rfl rfl (fun q132 => ?_)
 replace hF := hF pv q132
 obtain ⟨ar13, q103⟩ : ∃ y_ : Addr → Option QEnt, y_ = (setP ar (some pv) (⟨item, key, wr (tm + 1), 0⟩ : QEnt)) := ⟨_, rfl⟩
 replace hF := hF ar13 q103
 refine .cast (A' := [tru, Box p [vSl ahp hp2 chp, .map (some b), iV (wr (tm + 1))], oL 158 1 ahp hp2 chp, OwnMapI b .u32 (fun zE : Option Addr => .pointer zE) fo, Arn ar13]) (by rw [q103]; rfl) ?_
 refine .V ag0 ?_
 refine .nil (.seqN (.seq (.region (.V mv0 ?_))))
 refine .V (nck rfl) ?_
 refine .V (fa rfl tF157_1) ?_
 refine .V (lB 1 1 tO153) ?_
 refine .V mv0 ?_
 refine .V mv0 ?_
 refine muI (enc := (fun zE : Option Addr => .pointer zE)) (some pv) tMI153 rfl rfl rfl (q := 3) rfl ?_
 obtain ⟨m5, q104⟩ : ∃ y_ : List (Int × Option Addr), y_ = (setA fo item (some pv)) := ⟨_, rfl⟩
 replace hF := hF m5 q104
 refine .cast (A' := [tru, Box p [vSl ahp hp2 chp, .map (some b), iV (wr (tm + 1))], oL 158 1 ahp hp2 chp, OwnMapI b .u32 (fun zE : Option Addr => .pointer zE) m5, Arn ar13]) (by rw [q104]; rfl) ?_
 refine .nil (.seqN (.region (.V mv0 ?_)))
 refine .V (nck rfl) ?_
 refine .V (fa rfl tF157_0) ?_
 refine .V (mkI tC163 rfl) ?_
 refine .V mv0 ?_
 refine .V (mkI tC158 rfl) ?_
 refine .inl Tryz.func59 rfl Tryz.ntmps59 Tryz.call59 rfl rfl rfl rfl (fun a10 q105 => ?_)
 refine .seq (.region (.V mv0 ?_))
 refine .V mv0 ?_
 refine .inlI Tryz.func164 rfl Tryz.ntmps164 Tryz.call164 tm163_Push rfl rfl rfl (fun a11 q133 => ?_)
 refine .seq (.region (.V mv0 ?_))
 refine .V (tas tC158 rfl) ?_
 refine .V ag0 ?_
 refine .nil (.seqN (.seq (.region (.V mv0 ?_))))
 refine .V mv0 ?_
 refine .V (nck rfl) ?_
 refine .V (lB 0 1 tO155) ?_
 refine .V (ln rfl tS155.is) ?_
 obtain ⟨q64, hF⟩ := hF
 refine .V (nck (inA.ev q64)) ?_
 refine .V (fa rfl tF161_3) ?_
 refine stR (p := pA (some pv)) (off := 3) (k := 4) (e := (arv ar13 (some pv))) (e' := (⟨(arv ar13 (some pv)).item, (arv ar13 (some pv)).key, (arv ar13 (some pv)).time, ((hp2.length : Nat) : Int)⟩ : QEnt)) (xx := (some pv)) (vs := [iV ((hp2.length : Nat) : Int)]) rfl rfl rfl (fun w => (tO3 w).2) rfl rfl rfl (inA.eq q64) (inA.at_ q64) (Nat.le_of_ble_eq_true rfl) rfl ?_
 obtain ⟨ar14, q106⟩ : ∃ y_ : Addr → Option QEnt, y_ = (setP ar13 (some pv) (⟨(arv ar13 (some pv)).item, (arv ar13 (some pv)).key, (arv ar13 (some pv)).time, ((hp2.length : Nat) : Int)⟩ : QEnt)) := ⟨_, rfl⟩
 replace hF := hF ar14 q106
 refine .cast (A' := [tru, Box p [vSl ahp hp2 chp, .map (some b), iV (wr (tm + 1))], oL 158 1 ahp hp2 chp, OwnMapI b .u32 (fun zE : Option Addr => .pointer zE) m5, Arn ar14]) (by rw [q106]; rfl) ?_
 refine .nil (.seqN (.region (.V mv0 ?_)))
 refine .V mv0 ?_
 refine .V (nck rfl) ?_
 refine .V (lB 0 1 tO155) ?_
 refine .V mv0 ?_
 refine bs2 (cs := #[vP pv]) (pv := [(0, vP pv)]) tS155 rfl rfl (by decide) (by decide) rfl rfl rfl (fun a12 _ => ?_)
 obtain ⟨q107, hF⟩ := hF
 have q65 : hp2.length + ([(some pv)] : List (Option Addr)).length = ((hp2 ++ ([(some pv)] : List (Option Addr)))).length := len_app rfl rfl
 refine app (k := 3) (news := flL ([(some pv)] : List (Option Addr))) (cs' := flL (hp2 ++ ([(some pv)] : List (Option Addr)))) (nm := ((hp2 ++ ([(some pv)] : List (Option Addr)))).length) tS155 rfl (by decide) rfl rfl rfl ((flL_len _).trans rfl) (srcS (k := 0) rfl) (flL_one _) (room_of q65 q107).1 (room_of q65 q107).2 q65 (flL_append _ _).symm rfl (fun a13 c => ?_)
 refine .V (nck rfl) ?_
 refine st (p := p) (off := 0) (k := 2) (vs := [vSl a13 (hp2 ++ ([(some pv)] : List (Option Addr))) c]) rfl rfl rfl (fun w => (tO155 w).2) rfl rfl rfl rfl ?_
 refine .nil ?_
 refine .res0 (.inr rfl) rfl (inl_back (v := .tuple #[]) q133 rfl ?_)
 refine .nil (.seqN (.region (.V mv0 ?_)))
 refine .V mv0 ?_
 refine .inlV Tryz.func160 rfl Tryz.ntmps160 Tryz.call160 tm163_Len rfl (cellB (off := 0) (k := 2) rfl rfl) rfl rfl (fun a14 q134 => ?_)
 refine .seq (.region (.V ag0 ?_))
 refine .nil (.seqN (.seq (.region (.V mv0 ?_))))
 obtain ⟨x12, q108⟩ : ∃ y_ : Int, y_ = (((hp2 ++ ([(some pv)] : List (Option Addr))).length : Nat) : Int) := ⟨_, rfl⟩
 replace hF := hF x12 q108
 refine .v (v := iV x12) (by rw [q108]; exact ln rfl tS155.is) rfl rfl rfl ?_
 refine .V ag0 ?_
 refine .nil (.seqN (.ret ?_))
 refine .res1 rfl (rvT rfl) (inl_back (v := iV x12) q134 rfl ?_)
 refine .V bi0 ?_
 refine .inl Tryz.func93 rfl Tryz.ntmps93 Tryz.call93 rfl rfl rfl rfl (fun a15 q109 => ?_)
 refine .block ?_
 refine .sel0 [2, 5, 3, 4] (by decide) rfl ?_
 obtain ⟨I3, μ3, q66, q135⟩ := hF
 refine .loop' (σ := Int × (Addr → Option QEnt) × List (Option Addr)) (fun z => I3 z.1 z.2.1 z.2.2 ∧ z.2.2.length = (hp2 ++ ([(some pv)] : List (Option Addr))).length) (fun z => μ3 z.1 z.2.1 z.2.2) (fun z => [(0, .iface 163 (vP (p.add 0))), (1, iV z.1)]) (fun z => [Box p [vSl a13 (hp2 ++ ([(some pv)] : List (Option Addr))) c, .map (some b), iV (wr (tm + 1))], Arn z.2.1, OwnSl 158 1 a13 ((hp2 ++ ([(some pv)] : List (Option Addr))).length) c (flL z.2.2), OwnMapI b .u32 (fun zE : Option Addr => .pointer zE) m5]) (fun _ => h) (wr (x12 - 1), ar14, (hp2 ++ ([(some pv)] : List (Option Addr)))) ⟨q66, rfl⟩ sb rfl (FH.le_refl _) ?_
 rintro ⟨j4, ar15, l6⟩ ⟨q66, q13⟩
 have hF := q135 j4 ar15 l6 q66
 show J _ _ _ _ _ [(0, .iface 163 (vP (p.add 0))), (1, iV j4)] [Box p [vSl a13 (hp2 ++ ([(some pv)] : List (Option Addr))) c, .map (some b), iV (wr (tm + 1))], Arn ar15, OwnSl 158 1 a13 ((hp2 ++ ([(some pv)] : List (Option Addr))).length) c (flL l6), OwnMapI b .u32 (fun zE : Option Addr => .pointer zE) m5] h
 refine .block (.seq (.region (.V mv0 ?_)))
 refine .V bi0 ?_
 refine .V (bq rfl rfl (by decide)) ?_
 refine .V ag0 ?_
 refine .nil (.seqN (.seq (.seq (.region (.V mv0 ?_)))))
 refine .V mv0 ?_
 obtain ⟨x13, q110⟩ : ∃ y_ : Bool, y_ = ((wr (Int.tdiv (wr (j4 - 1)) 2)) == j4) := ⟨_, rfl⟩
 replace hF := hF x13 q110
 refine .v (v := .bool x13) (by rw [q110]; exact bi rfl rfl rfl) rfl rfl rfl ?_
 refine .V mv0 ?_
 rcases Bool.eq_false_or_eq_true (x13) with q10 | q10
 ·replace hF := hF.1 q10
  refine .GS q10 ?_
  refine .GS q10 ?_
  refine .GS q10 ?_
  refine .GS q10 ?_
  refine .GS q10 ?_
  refine .V (pkT rfl q10 rfl) ?_
  refine .nil (.seqN ?_)
  refine .cond rfl (fun _ => ?_) (fun e => absurd (e.symm.trans rfl) (by decide))
  refine .exit (.seqX ?_)
  refine .blkY rfl ?_
  refine .seqX (.blkX ?_)
  refine .res0 (.inr rfl) rfl (inl_back (v := .tuple #[]) q109 rfl ?_)
  refine .nil ?_
  refine .res0 (.inr rfl) rfl (inl_back (v := .tuple #[]) q105 rfl ?_)
  refine .nil ?_
  refine .sel0 [0, 2, 3, 1] (by decide) rfl ?_
  refine .cast (A' := [Box p [vSl a13 l6 c, .map (some b), iV (wr (tm + 1))], oL 158 1 a13 l6 c, OwnMapI b .u32 (fun zE : Option Addr => .pointer zE) m5, Arn ar15]) (congrArg (fun z_ : Nat => [Box p [.slice a13 z_ c, .map (some b), iV (wr (tm + 1))], OwnSl 158 1 a13 z_ c (flL l6), OwnMapI b .u32 (fun zE : Option Addr => .pointer zE) m5, Arn ar15]) (q13).symm) ?_
  obtain ⟨m6, q136, hF⟩ := hF
  refine .closeQ (hp := l6) (inv := QInv m6) q136 ?_
  refine .res0 (.inr rfl) rfl (fun w' S => ⟨m6, hF, rfl, S.pick (k := 0) rfl⟩)
 replace hF := hF.2 q10
 refine .GV mv0 q10 ?_
 refine .GV mv0 q10 ?_
 refine .GV mv0 q10 ?_
 refine .gR rfl rfl rfl q10 ?_
 refine .inlV Tryz.func161 rfl Tryz.ntmps161 Tryz.call161 tm163_Less rfl (cellB (off := 0) (k := 0) rfl rfl) rfl rfl (fun a16 q137 => ?_)
 refine .seq (.region (.V ag0 ?_))
 refine .nil (.seqN ?_)
 refine .share (σ := Bool) (fun z => F_qset_J7 K m5 z ar15 j4 l6 I3 μ3) (fun z => [(6, .bool z)]) (fun _ => [Arn ar15, Box p [vSl a13 (hp2 ++ ([(some pv)] : List (Option Addr))) c, .map (some b), iV (wr (tm + 1))], OwnSl 158 1 a13 ((hp2 ++ ([(some pv)] : List (Option Addr))).length) c (flL l6), OwnMapI b .u32 (fun zE : Option Addr => .pointer zE) m5]) (fun _ => h) ?_ (fun q67 => ?_)
 ·rintro t64 hF
  show J _ _ _ _ _ [(6, .bool t64)] [Arn ar15, Box p [vSl a13 (hp2 ++ ([(some pv)] : List (Option Addr))) c, .map (some b), iV (wr (tm + 1))], OwnSl 158 1 a13 ((hp2 ++ ([(some pv)] : List (Option Addr))).length) c (flL l6), OwnMapI b .u32 (fun zE : Option Addr => .pointer zE) m5] h
  refine .ret ?_
  refine .res1 rfl (rvT rfl) (inl_back (v := .bool t64) q137 rfl ?_)
  refine .GV (nt rfl) q10 ?_
  refine .V (pkF rfl q10 rfl) ?_
  refine .nil (.seqN ?_)
  refine .cond rfl (fun q68 => ?_) (fun q68 => ?_)
  ·replace hF := hF.1 q68
   refine .exit (.seqX ?_)
   refine .blkY rfl ?_
   refine .seqX (.blkX ?_)
   refine .res0 (.inr rfl) rfl (inl_back (v := .tuple #[]) q109 rfl ?_)
   refine .nil ?_
   refine .res0 (.inr rfl) rfl (inl_back (v := .tuple #[]) q105 rfl ?_)
   refine .nil ?_
   refine .sel0 [1, 2, 3, 0] (by decide) rfl ?_
   refine .cast (A' := [Box p [vSl a13 l6 c, .map (some b), iV (wr (tm + 1))], oL 158 1 a13 l6 c, OwnMapI b .u32 (fun zE : Option Addr => .pointer zE) m5, Arn ar15]) (congrArg (fun z_ : Nat => [Box p [.slice a13 z_ c, .map (some b), iV (wr (tm + 1))], OwnSl 158 1 a13 z_ c (flL l6), OwnMapI b .u32 (fun zE : Option Addr => .pointer zE) m5, Arn ar15]) (q13).symm) ?_
   obtain ⟨m7, q138, hF⟩ := hF
   refine .closeQ (hp := l6) (inv := QInv m7) q138 ?_
   refine .res0 (.inr rfl) rfl (fun w' S => ⟨m7, hF, rfl, S.pick (k := 0) rfl⟩)
  replace hF := hF.2 q68
  refine .skip (.seqN (.seq (.region (.V mv0 ?_))))
  refine .V mv0 ?_
  refine .V mv0 ?_
  refine .inlV Tryz.func162 rfl Tryz.ntmps162 Tryz.call162 tm163_Swap rfl (cellB (off := 0) (k := 1) rfl rfl) rfl rfl (fun a17 q139 => ?_)
  refine .seq ?_
  obtain ⟨q111, q29, hF⟩ := hF
  refine .OA (s0 := [(0, vSl a13 (hp2 ++ ([(some pv)] : List (Option Addr))) c), (1, iV (wr (Int.tdiv (wr (j4 - 1)) 2))), (2, iV j4)]) [0, 1, 2, 3, 4, 5, 6, 7, 8, 9, 10, 11, 12] [(0, vSl a13 (hp2 ++ ([(some pv)] : List (Option Addr))) c), (1, iV (wr (Int.tdiv (wr (j4 - 1)) 2))), (2, vSl a13 (hp2 ++ ([(some pv)] : List (Option Addr))) c), (3, iV j4), (4, vSl a13 (hp2 ++ ([(some pv)] : List (Option Addr))) c), (5, iV j4), (6, vP (ead a13 (j4.toNat * 1))), (7, .pointer (gt l6 j4)), (8, vSl a13 (hp2 ++ ([(some pv)] : List (Option Addr))) c), (9, iV (wr (Int.tdiv (wr (j4 - 1)) 2))), (10, vP (ead a13 ((wr (Int.tdiv (wr (j4 - 1)) 2)).toNat * 1))), (11, .pointer (gt l6 (wr (Int.tdiv (wr (j4 - 1)) 2)))), (12, vP (ead a13 ((wr (Int.tdiv (wr (j4 - 1)) 2)).toNat * 1)))] [0, 1, 2] [] ?_
  refine .ST [13] 13 (.w [] rfl mv0 (.w [] rfl mv0 (.w [] rfl mv0 (.w [] rfl mv0 (.w [] rfl mv0 (.w [] rfl mv0 (.w [(10, vSl a13 (hp2 ++ ([(some pv)] : List (Option Addr))) c), (11, iV j4)] rfl (ixS rfl rfl tS155 (k := 2) rfl (inb_n q111 q13)) (.w [(12, vP (ead a13 (j4.toNat * 1)))] rfl (ld1 (v := .pointer (gt l6 j4)) rfl tO158 (cellS (k := 2) rfl (flL_get q111 (j := 0) rfl))) (.w [] rfl mv0 (.w [] rfl mv0 (.w [(14, vSl a13 (hp2 ++ ([(some pv)] : List (Option Addr))) c), (15, iV (wr (Int.tdiv (wr (j4 - 1)) 2)))] rfl (ixS rfl rfl tS155 (k := 2) rfl (inb_n q29 q13)) (.w [(16, vP (ead a13 ((wr (Int.tdiv (wr (j4 - 1)) 2)).toNat * 1)))] rfl (ld1 (v := .pointer (gt l6 (wr (Int.tdiv (wr (j4 - 1)) 2)))) rfl tO158 (cellS (k := 2) rfl (flL_get q29 (j := 0) rfl))) (.w [(6, vSl a13 (hp2 ++ ([(some pv)] : List (Option Addr))) c), (7, iV (wr (Int.tdiv (wr (j4 - 1)) 2))), (6, vSl a13 (hp2 ++ ([(some pv)] : List (Option Addr))) c), (7, iV (wr (Int.tdiv (wr (j4 - 1)) 2))), (10, vSl a13 (hp2 ++ ([(some pv)] : List (Option Addr))) c), (11, iV j4), (12, vP (ead a13 (j4.toNat * 1))), (13, .pointer (gt l6 j4)), (17, .pointer (gt l6 (wr (Int.tdiv (wr (j4 - 1)) 2))))] rfl (ixS rfl rfl tS155 (k := 2) rfl (inb_n q29 q13)) (.nil)))))))))))))) (.cons [(18, vP (ead a13 ((wr (Int.tdiv (wr (j4 - 1)) 2)).toNat * 1))), (13, .pointer (gt l6 j4)), (6, vSl a13 (hp2 ++ ([(some pv)] : List (Option Addr))) c), (7, iV (wr (Int.tdiv (wr (j4 - 1)) 2))), (10, vSl a13 (hp2 ++ ([(some pv)] : List (Option Addr))) c), (11, iV j4), (12, vP (ead a13 (j4.toNat * 1))), (13, .pointer (gt l6 j4)), (17, .pointer (gt l6 (wr (Int.tdiv (wr (j4 - 1)) 2))))] rfl rfl (fun sL hL => ?_) (.nil))
  obtain ⟨d5, q69⟩ : ∃ y_ : List (Option Addr), y_ = (l6.set (wr (Int.tdiv (wr (j4 - 1)) 2)).toNat (gt l6 j4)) := ⟨_, rfl⟩
  replace hF := hF d5 q69
  refine stS (k := 2) (cs' := flL d5) rfl (fun _ => rfl) rfl rfl (fun w => (tO158 w).2) rfl rfl rfl (by rw [← q13]; exact inb_pos q29) (fl_room q29) (by rw [q69]; exact flL_set q29 (gt l6 j4)) ?_
  have q70 : d5.length = (hp2 ++ ([(some pv)] : List (Option Addr))).length := by rw [q69]; exact List.length_set.trans q13
  refine .nil ?_
  obtain ⟨q36, hF⟩ := hF
  refine .jaN (M := [12, 7, 0, 1, 4, 5, 6, 11, 10, 8, 9]) (C' := [2, 3, 14]) (pre := [(14, vP (ead a13 (j4.toNat * 1)))]) [0, 1, 2] hL rfl rfl rfl rfl rfl (by kernel_rfl) ?_
  refine .ST [15] 15 (.w [] rfl mv0 (.w [] rfl mv0 (.w [(8, vSl a13 (hp2 ++ ([(some pv)] : List (Option Addr))) c), (9, iV j4), (6, vSl a13 (hp2 ++ ([(some pv)] : List (Option Addr))) c), (7, iV (wr (Int.tdiv (wr (j4 - 1)) 2))), (8, vSl a13 (hp2 ++ ([(some pv)] : List (Option Addr))) c), (9, iV j4), (10, vSl a13 (hp2 ++ ([(some pv)] : List (Option Addr))) c), (11, iV j4), (12, vP (ead a13 (j4.toNat * 1))), (13, .pointer (gt l6 j4)), (14, vSl a13 (hp2 ++ ([(some pv)] : List (Option Addr))) c), (15, iV (wr (Int.tdiv (wr (j4 - 1)) 2))), (16, vP (ead a13 ((wr (Int.tdiv (wr (j4 - 1)) 2)).toNat * 1))), (17, .pointer (gt l6 (wr (Int.tdiv (wr (j4 - 1)) 2)))), (18, vP (ead a13 ((wr (Int.tdiv (wr (j4 - 1)) 2)).toNat * 1)))] rfl (ixS rfl rfl tS155 (k := 2) rfl (inb_n q36 q70)) (.nil)))) (.cons [(19, vP (ead a13 (j4.toNat * 1))), (17, .pointer (gt l6 (wr (Int.tdiv (wr (j4 - 1)) 2)))), (6, vSl a13 (hp2 ++ ([(some pv)] : List (Option Addr))) c), (7, iV (wr (Int.tdiv (wr (j4 - 1)) 2))), (8, vSl a13 (hp2 ++ ([(some pv)] : List (Option Addr))) c), (9, iV j4), (10, vSl a13 (hp2 ++ ([(some pv)] : List (Option Addr))) c), (11, iV j4), (12, vP (ead a13 (j4.toNat * 1))), (13, .pointer (gt l6 j4)), (14, vSl a13 (hp2 ++ ([(some pv)] : List (Option Addr))) c), (15, iV (wr (Int.tdiv (wr (j4 - 1)) 2))), (16, vP (ead a13 ((wr (Int.tdiv (wr (j4 - 1)) 2)).toNat * 1))), (17, .pointer (gt l6 (wr (Int.tdiv (wr (j4 - 1)) 2)))), (18, vP (ead a13 ((wr (Int.tdiv (wr (j4 - 1)) 2)).toNat * 1)))] rfl rfl (fun sL hL => ?_) (.nil))
  obtain ⟨d6, q71⟩ : ∃ y_ : List (Option Addr), y_ = (d5.set (j4).toNat (gt l6 (wr (Int.tdiv (wr (j4 - 1)) 2)))) := ⟨_, rfl⟩
  replace hF := hF d6 q71
  refine stS (k := 2) (cs' := flL d6) rfl (fun _ => rfl) rfl rfl (fun w => (tO158 w).2) rfl rfl rfl (by rw [← q70]; exact inb_pos q36) (fl_room q36) (by rw [q71]; exact flL_set q36 (gt l6 (wr (Int.tdiv (wr (j4 - 1)) 2)))) ?_
  have q72 : d6.length = (hp2 ++ ([(some pv)] : List (Option Addr))).length := by rw [q71]; exact List.length_set.trans q70
  refine .nil ?_
  refine .jaN (M := [14, 2, 3]) (C' := []) (pre := []) [0, 1, 2] hL rfl rfl rfl rfl rfl (by kernel_rfl) ?_
  refine .LA [(6, vSl a13 (hp2 ++ ([(some pv)] : List (Option Addr))) c), (7, iV (wr (Int.tdiv (wr (j4 - 1)) 2))), (8, vSl a13 (hp2 ++ ([(some pv)] : List (Option Addr))) c), (9, iV j4), (10, vSl a13 (hp2 ++ ([(some pv)] : List (Option Addr))) c), (11, iV j4), (12, vP (ead a13 (j4.toNat * 1))), (13, .pointer (gt l6 j4)), (14, vSl a13 (hp2 ++ ([(some pv)] : List (Option Addr))) c), (15, iV (wr (Int.tdiv (wr (j4 - 1)) 2))), (16, vP (ead a13 ((wr (Int.tdiv (wr (j4 - 1)) 2)).toNat * 1))), (17, .pointer (gt l6 (wr (Int.tdiv (wr (j4 - 1)) 2)))), (18, vP (ead a13 ((wr (Int.tdiv (wr (j4 - 1)) 2)).toNat * 1))), (19, vP (ead a13 (j4.toNat * 1)))] (.nil) ?_
  refine .seqN ?_
  obtain ⟨q112, q113, q73, hF⟩ := hF
  refine .OA (s0 := [(0, vSl a13 (hp2 ++ ([(some pv)] : List (Option Addr))) c), (1, iV (wr (Int.tdiv (wr (j4 - 1)) 2))), (2, iV j4)]) [0, 1, 2, 3, 4, 5, 6, 7, 8, 9, 10, 11] [(0, vSl a13 (hp2 ++ ([(some pv)] : List (Option Addr))) c), (1, iV (wr (Int.tdiv (wr (j4 - 1)) 2))), (2, vP (ead a13 ((wr (Int.tdiv (wr (j4 - 1)) 2)).toNat * 1))), (3, .pointer (gt d6 (wr (Int.tdiv (wr (j4 - 1)) 2)))), (4, vSl a13 (hp2 ++ ([(some pv)] : List (Option Addr))) c), (5, iV j4), (6, vP (ead a13 (j4.toNat * 1))), (7, .pointer (gt d6 j4)), (8, iV (wr (Int.tdiv (wr (j4 - 1)) 2))), (9, iV j4), (10, vP (pA (gt d6 (wr (Int.tdiv (wr (j4 - 1)) 2))))), (11, vP ((pA (gt d6 (wr (Int.tdiv (wr (j4 - 1)) 2)))).add 3))] [0, 1, 2] [] ?_
  refine .ST [12] 12 (.w [] rfl mv0 (.w [] rfl mv0 (.w [(20, vSl a13 (hp2 ++ ([(some pv)] : List (Option Addr))) c), (21, iV (wr (Int.tdiv (wr (j4 - 1)) 2)))] rfl (ixS rfl rfl tS155 (k := 2) rfl (inb_n q112 q72)) (.w [(22, vP (ead a13 ((wr (Int.tdiv (wr (j4 - 1)) 2)).toNat * 1)))] rfl (ld1 (v := .pointer (gt d6 (wr (Int.tdiv (wr (j4 - 1)) 2)))) rfl tO158 (cellS (k := 2) rfl (flL_get q112 (j := 0) rfl))) (.w [] rfl mv0 (.w [] rfl mv0 (.w [(24, vSl a13 (hp2 ++ ([(some pv)] : List (Option Addr))) c), (25, iV j4)] rfl (ixS rfl rfl tS155 (k := 2) rfl (inb_n q113 q72)) (.w [(26, vP (ead a13 (j4.toNat * 1)))] rfl (ld1 (v := .pointer (gt d6 j4)) rfl tO158 (cellS (k := 2) rfl (flL_get q113 (j := 0) rfl))) (.w [] rfl mv0 (.w [] rfl mv0 (.w [(23, .pointer (gt d6 (wr (Int.tdiv (wr (j4 - 1)) 2)))), (20, vSl a13 (hp2 ++ ([(some pv)] : List (Option Addr))) c), (21, iV (wr (Int.tdiv (wr (j4 - 1)) 2))), (22, vP (ead a13 ((wr (Int.tdiv (wr (j4 - 1)) 2)).toNat * 1))), (23, .pointer (gt d6 (wr (Int.tdiv (wr (j4 - 1)) 2)))), (27, .pointer (gt d6 j4)), (28, iV (wr (Int.tdiv (wr (j4 - 1)) 2)))] rfl (nck (inA.ev q73)) (.w [(30, vP (pA (gt d6 (wr (Int.tdiv (wr (j4 - 1)) 2))))), (20, vSl a13 (hp2 ++ ([(some pv)] : List (Option Addr))) c), (21, iV (wr (Int.tdiv (wr (j4 - 1)) 2))), (22, vP (ead a13 ((wr (Int.tdiv (wr (j4 - 1)) 2)).toNat * 1))), (23, .pointer (gt d6 (wr (Int.tdiv (wr (j4 - 1)) 2)))), (27, .pointer (gt d6 j4)), (28, iV (wr (Int.tdiv (wr (j4 - 1)) 2)))] rfl (fa rfl tF161_3) (.nil))))))))))))) (.cons [(31, vP ((pA (gt d6 (wr (Int.tdiv (wr (j4 - 1)) 2)))).add 3)), (28, iV (wr (Int.tdiv (wr (j4 - 1)) 2))), (20, vSl a13 (hp2 ++ ([(some pv)] : List (Option Addr))) c), (21, iV (wr (Int.tdiv (wr (j4 - 1)) 2))), (22, vP (ead a13 ((wr (Int.tdiv (wr (j4 - 1)) 2)).toNat * 1))), (23, .pointer (gt d6 (wr (Int.tdiv (wr (j4 - 1)) 2)))), (27, .pointer (gt d6 j4)), (28, iV (wr (Int.tdiv (wr (j4 - 1)) 2)))] rfl rfl (fun sL hL => ?_) (.nil))
  refine stR (p := pA (gt d6 (wr (Int.tdiv (wr (j4 - 1)) 2)))) (off := 3) (k := 0) (e := (arv ar15 (gt d6 (wr (Int.tdiv (wr (j4 - 1)) 2))))) (e' := (⟨(arv ar15 (gt d6 (wr (Int.tdiv (wr (j4 - 1)) 2)))).item, (arv ar15 (gt d6 (wr (Int.tdiv (wr (j4 - 1)) 2)))).key, (arv ar15 (gt d6 (wr (Int.tdiv (wr (j4 - 1)) 2)))).time, wr (Int.tdiv (wr (j4 - 1)) 2)⟩ : QEnt)) (xx := (gt d6 (wr (Int.tdiv (wr (j4 - 1)) 2)))) (vs := [iV (wr (Int.tdiv (wr (j4 - 1)) 2))]) rfl rfl rfl (fun w => (tO3 w).2) rfl rfl rfl (inA.eq q73) (inA.at_ q73) (Nat.le_of_ble_eq_true rfl) rfl ?_
  obtain ⟨ar17, q114⟩ : ∃ y_ : Addr → Option QEnt, y_ = (setP ar15 (gt d6 (wr (Int.tdiv (wr (j4 - 1)) 2))) (⟨(arv ar15 (gt d6 (wr (Int.tdiv (wr (j4 - 1)) 2)))).item, (arv ar15 (gt d6 (wr (Int.tdiv (wr (j4 - 1)) 2)))).key, (arv ar15 (gt d6 (wr (Int.tdiv (wr (j4 - 1)) 2)))).time, wr (Int.tdiv (wr (j4 - 1)) 2)⟩ : QEnt)) := ⟨_, rfl⟩
  replace hF := hF ar17 q114
  refine .cast (A' := [Arn ar17, Box p [vSl a13 (hp2 ++ ([(some pv)] : List (Option Addr))) c, .map (some b), iV (wr (tm + 1))], OwnSl 158 1 a13 ((hp2 ++ ([(some pv)] : List (Option Addr))).length) c (flL d6), OwnMapI b .u32 (fun zE : Option Addr => .pointer zE) m5]) (by rw [q114]; rfl) ?_
  refine .nil ?_
  obtain ⟨q74, hF⟩ := hF
  refine .jaN (M := [11, 8, 0, 1, 2, 3, 7, 10, 6, 4, 5]) (C' := [9, 13, 14]) (pre := [(13, vP (pA (gt d6 j4))), (14, vP ((pA (gt d6 j4)).add 3))]) [0, 1, 2] hL rfl rfl rfl rfl rfl (by kernel_rfl) ?_
  refine .ST [15] 15 (.w [] rfl mv0 (.w [(27, .pointer (gt d6 j4)), (20, vSl a13 (hp2 ++ ([(some pv)] : List (Option Addr))) c), (21, iV (wr (Int.tdiv (wr (j4 - 1)) 2))), (22, vP (ead a13 ((wr (Int.tdiv (wr (j4 - 1)) 2)).toNat * 1))), (23, .pointer (gt d6 (wr (Int.tdiv (wr (j4 - 1)) 2)))), (24, vSl a13 (hp2 ++ ([(some pv)] : List (Option Addr))) c), (25, iV j4), (26, vP (ead a13 (j4.toNat * 1))), (27, .pointer (gt d6 j4)), (28, iV (wr (Int.tdiv (wr (j4 - 1)) 2))), (29, iV j4), (30, vP (pA (gt d6 (wr (Int.tdiv (wr (j4 - 1)) 2))))), (31, vP ((pA (gt d6 (wr (Int.tdiv (wr (j4 - 1)) 2)))).add 3))] rfl (nck (inA.ev q74)) (.w [(32, vP (pA (gt d6 j4))), (20, vSl a13 (hp2 ++ ([(some pv)] : List (Option Addr))) c), (21, iV (wr (Int.tdiv (wr (j4 - 1)) 2))), (22, vP (ead a13 ((wr (Int.tdiv (wr (j4 - 1)) 2)).toNat * 1))), (23, .pointer (gt d6 (wr (Int.tdiv (wr (j4 - 1)) 2)))), (24, vSl a13 (hp2 ++ ([(some pv)] : List (Option Addr))) c), (25, iV j4), (26, vP (ead a13 (j4.toNat * 1))), (27, .pointer (gt d6 j4)), (28, iV (wr (Int.tdiv (wr (j4 - 1)) 2))), (29, iV j4), (30, vP (pA (gt d6 (wr (Int.tdiv (wr (j4 - 1)) 2))))), (31, vP ((pA (gt d6 (wr (Int.tdiv (wr (j4 - 1)) 2)))).add 3))] rfl (fa rfl tF161_3) (.nil)))) (.cons [(33, vP ((pA (gt d6 j4)).add 3)), (29, iV j4), (20, vSl a13 (hp2 ++ ([(some pv)] : List (Option Addr))) c), (21, iV (wr (Int.tdiv (wr (j4 - 1)) 2))), (22, vP (ead a13 ((wr (Int.tdiv (wr (j4 - 1)) 2)).toNat * 1))), (23, .pointer (gt d6 (wr (Int.tdiv (wr (j4 - 1)) 2)))), (24, vSl a13 (hp2 ++ ([(some pv)] : List (Option Addr))) c), (25, iV j4), (26, vP (ead a13 (j4.toNat * 1))), (27, .pointer (gt d6 j4)), (28, iV (wr (Int.tdiv (wr (j4 - 1)) 2))), (29, iV j4), (30, vP (pA (gt d6 (wr (Int.tdiv (wr (j4 - 1)) 2))))), (31, vP ((pA (gt d6 (wr (Int.tdiv (wr (j4 - 1)) 2)))).add 3))] rfl rfl (fun sL hL => ?_) (.nil))
  refine stR (p := pA (gt d6 j4)) (off := 3) (k := 0) (e := (arv ar17 (gt d6 j4))) (e' := (⟨(arv ar17 (gt d6 j4)).item, (arv ar17 (gt d6 j4)).key, (arv ar17 (gt d6 j4)).time, j4⟩ : QEnt)) (xx := (gt d6 j4)) (vs := [iV j4]) rfl rfl rfl (fun w => (tO3 w).2) rfl rfl rfl (inA.eq q74) (inA.at_ q74) (Nat.le_of_ble_eq_true rfl) rfl ?_
  obtain ⟨ar18, q115⟩ : ∃ y_ : Addr → Option QEnt, y_ = (setP ar17 (gt d6 j4) (⟨(arv ar17 (gt d6 j4)).item, (arv ar17 (gt d6 j4)).key, (arv ar17 (gt d6 j4)).time, j4⟩ : QEnt)) := ⟨_, rfl⟩
  replace hF := hF ar18 q115
  refine .cast (A' := [Arn ar18, Box p [vSl a13 (hp2 ++ ([(some pv)] : List (Option Addr))) c, .map (some b), iV (wr (tm + 1))], OwnSl 158 1 a13 ((hp2 ++ ([(some pv)] : List (Option Addr))).length) c (flL d6), OwnMapI b .u32 (fun zE : Option Addr => .pointer zE) m5]) (by rw [q115]; rfl) ?_
  refine .nil ?_
  refine .jaN (M := [14, 9, 13]) (C' := []) (pre := []) [0, 1, 2] hL rfl rfl rfl rfl rfl (by kernel_rfl) ?_
  refine .LA [(20, vSl a13 (hp2 ++ ([(some pv)] : List (Option Addr))) c), (21, iV (wr (Int.tdiv (wr (j4 - 1)) 2))), (22, vP (ead a13 ((wr (Int.tdiv (wr (j4 - 1)) 2)).toNat * 1))), (23, .pointer (gt d6 (wr (Int.tdiv (wr (j4 - 1)) 2)))), (24, vSl a13 (hp2 ++ ([(some pv)] : List (Option Addr))) c), (25, iV j4), (26, vP (ead a13 (j4.toNat * 1))), (27, .pointer (gt d6 j4)), (28, iV (wr (Int.tdiv (wr (j4 - 1)) 2))), (29, iV j4), (30, vP (pA (gt d6 (wr (Int.tdiv (wr (j4 - 1)) 2))))), (31, vP ((pA (gt d6 (wr (Int.tdiv (wr (j4 - 1)) 2)))).add 3)), (32, vP (pA (gt d6 j4))), (33, vP ((pA (gt d6 j4)).add 3))] (.nil) ?_
  refine .res0 (.inr rfl) rfl (inl_back (v := .tuple #[]) q139 rfl ?_)
  refine .nil (.seqN (.region (.V mv0 ?_)))
  refine .V ag0 ?_
  refine .nil (.blkN ?_)
  refine .sel0 [1, 0, 2, 3] (by decide) rfl ?_
  exact .RO (wr (Int.tdiv (wr (j4 - 1)) 2), ar18, d6) ⟨hF.1, q72⟩ hF.2
 refine .open_ (by kernel_rfl) (by kernel_rfl) ?_
 refine .V mv0 ?_
 refine .V mv0 ?_
 obtain ⟨q30, hF⟩ := hF
 refine .V (ixS rfl rfl tS155 (k := 2) rfl (inb_n q30 q13)) ?_
 refine .V (ld1 (v := .pointer (gt l6 j4)) rfl tO158 (cellS (k := 2) rfl (flL_get q30 (j := 0) rfl))) ?_
 obtain ⟨q31, hF⟩ := hF
 refine .V (nck (inA.ev q31)) ?_
 refine .V (fa rfl tF161_1) ?_
 refine .V (ld1 (v := iV ((arv ar15 (gt l6 j4)).key)) rfl tO3 (cellR (k := 1) (off := 1) rfl (inA.at_ q31) rfl)) ?_
 refine .V mv0 ?_
 refine .V mv0 ?_
 obtain ⟨q32, hF⟩ := hF
 refine .V (ixS rfl rfl tS155 (k := 2) rfl (inb_n q32 q13)) ?_
 refine .V (ld1 (v := .pointer (gt l6 (wr (Int.tdiv (wr (j4 - 1)) 2)))) rfl tO158 (cellS (k := 2) rfl (flL_get q32 (j := 0) rfl))) ?_
 obtain ⟨q33, hF⟩ := hF
 refine .V (nck (inA.ev q33)) ?_
 refine .V (fa rfl tF161_1) ?_
 refine .V (ld1 (v := iV ((arv ar15 (gt l6 (wr (Int.tdiv (wr (j4 - 1)) 2)))).key)) rfl tO3 (cellR (k := 1) (off := 1) rfl (inA.at_ q33) rfl)) ?_
 obtain ⟨x14, q116⟩ : ∃ y_ : Bool, y_ = (decide (((arv ar15 (gt l6 j4)).key) < ((arv ar15 (gt l6 (wr (Int.tdiv (wr (j4 - 1)) 2)))).key))) := ⟨_, rfl⟩
 replace hF := hF x14 q116
 refine .v (v := .bool x14) (by rw [q116]; exact bi rfl rfl rfl) rfl rfl rfl ?_
 refine .V mv0 ?_
 rcases Bool.eq_false_or_eq_true (x14) with q3 | q3
 ·replace hF := hF.1 q3
  refine .GS q3 ?_
  refine .GS q3 ?_
  refine .GS q3 ?_
  refine .GS q3 ?_
  refine .GS q3 ?_
  refine .GS q3 ?_
  refine .GS q3 ?_
  refine .GS q3 ?_
  refine .GS q3 ?_
  refine .GS q3 ?_
  refine .GS q3 ?_
  refine .GS q3 ?_
  refine .GS q3 ?_
  refine .GS q3 ?_
  refine .GS q3 ?_
  refine .GS q3 ?_
  refine .GU ?_
  refine .GU ?_
  refine .GU ?_
  refine .GU ?_
  refine .GU ?_
  refine .GU ?_
  refine .GU ?_
  refine .GU ?_
  refine .GU ?_
  refine .GU ?_
  refine .GU ?_
  refine .GU ?_
  refine .GU ?_
  refine .GU ?_
  refine .GU ?_
  refine .GS q3 ?_
  refine .V (pkT rfl q3 rfl) ?_
  refine .V ag0 ?_
  refine .fin ?_
  refine .sel0 [1, 0, 2, 3] (by decide) rfl ?_
  exact .US q67 true hF
 replace hF := hF.2 q3
 refine .GV mv0 q3 ?_
 refine .GV mv0 q3 ?_
 refine .GV (ixS rfl rfl tS155 (k := 2) rfl (inb_n q30 q13)) q3 ?_
 refine .GV (ld1 (v := .pointer (gt l6 j4)) rfl tO158 (cellS (k := 2) rfl (flL_get q30 (j := 0) rfl))) q3 ?_
 refine .GV (nck (inA.ev q31)) q3 ?_
 refine .GV (fa rfl tF161_1) q3 ?_
 refine .GV (ld1 (v := iV ((arv ar15 (gt l6 j4)).key)) rfl tO3 (cellR (k := 1) (off := 1) rfl (inA.at_ q31) rfl)) q3 ?_
 refine .GV mv0 q3 ?_
 refine .GV mv0 q3 ?_
 refine .GV (ixS rfl rfl tS155 (k := 2) rfl (inb_n q32 q13)) q3 ?_
 refine .GV (ld1 (v := .pointer (gt l6 (wr (Int.tdiv (wr (j4 - 1)) 2)))) rfl tO158 (cellS (k := 2) rfl (flL_get q32 (j := 0) rfl))) q3 ?_
 refine .GV (nck (inA.ev q33)) q3 ?_
 refine .GV (fa rfl tF161_1) q3 ?_
 refine .GV (ld1 (v := iV ((arv ar15 (gt l6 (wr (Int.tdiv (wr (j4 - 1)) 2)))).key)) rfl tO3 (cellR (k := 1) (off := 1) rfl (inA.at_ q33) rfl)) q3 ?_
 obtain ⟨x15, q117⟩ : ∃ y_ : Bool, y_ = (((arv ar15 (gt l6 j4)).key) == ((arv ar15 (gt l6 (wr (Int.tdiv (wr (j4 - 1)) 2)))).key)) := ⟨_, rfl⟩
 replace hF := hF x15 q117
 refine .gv (v := .bool x15) (by rw [q117]; exact bi rfl rfl rfl) rfl rfl rfl q3 rfl rfl ?_
 refine .GV mv0 q3 ?_
 rcases Bool.eq_false_or_eq_true (x15) with q7 | q7
 ·replace hF := hF.1 q7
  refine .GV mv0 q7 ?_
  refine .GV mv0 q7 ?_
  refine .GV (ixS rfl rfl tS155 (k := 2) rfl (inb_n q30 q13)) q7 ?_
  refine .GV (ld1 (v := .pointer (gt l6 j4)) rfl tO158 (cellS (k := 2) rfl (flL_get q30 (j := 0) rfl))) q7 ?_
  refine .GV (nck (inA.ev q31)) q7 ?_
  refine .GV (fa rfl tF161_2) q7 ?_
  refine .GV (ld1 (v := iV ((arv ar15 (gt l6 j4)).time)) rfl tO3 (cellR (k := 1) (off := 2) rfl (inA.at_ q31) rfl)) q7 ?_
  refine .GV mv0 q7 ?_
  refine .GV mv0 q7 ?_
  refine .GV (ixS rfl rfl tS155 (k := 2) rfl (inb_n q32 q13)) q7 ?_
  refine .GV (ld1 (v := .pointer (gt l6 (wr (Int.tdiv (wr (j4 - 1)) 2)))) rfl tO158 (cellS (k := 2) rfl (flL_get q32 (j := 0) rfl))) q7 ?_
  refine .GV (nck (inA.ev q33)) q7 ?_
  refine .GV (fa rfl tF161_2) q7 ?_
  refine .GV (ld1 (v := iV ((arv ar15 (gt l6 (wr (Int.tdiv (wr (j4 - 1)) 2)))).time)) rfl tO3 (cellR (k := 1) (off := 2) rfl (inA.at_ q33) rfl)) q7 ?_
  obtain ⟨x16, q118⟩ : ∃ y_ : Bool, y_ = (decide (((arv ar15 (gt l6 j4)).time) < ((arv ar15 (gt l6 (wr (Int.tdiv (wr (j4 - 1)) 2)))).time))) := ⟨_, rfl⟩
  replace hF := hF x16 q118
  refine .gv (v := .bool x16) (by rw [q118]; exact bi rfl rfl rfl) rfl rfl rfl q7 rfl rfl ?_
  refine .GV (pkT rfl q7 rfl) q3 ?_
  refine .V (pkF rfl q3 rfl) ?_
  refine .V ag0 ?_
  refine .fin ?_
  refine .sel0 [1, 0, 2, 3] (by decide) rfl ?_
  exact .US q67 x16 hF
 replace hF := hF.2 q7
 refine .GS q7 ?_
 refine .GS q7 ?_
 refine .GS q7 ?_
 refine .GS q7 ?_
 refine .GS q7 ?_
 refine .GS q7 ?_
 refine .GS q7 ?_
 refine .GS q7 ?_
 refine .GS q7 ?_
 refine .GS q7 ?_
 refine .GS q7 ?_
 refine .GS q7 ?_
 refine .GS q7 ?_
 refine .GS q7 ?_
 refine .GS q7 ?_
 refine .GV (pkF rfl q7 rfl) q3 ?_
 refine .V (pkF rfl q3 rfl) ?_
 refine .V ag0 ?_
 refine .fin ?_
 refine .sel0 [1, 0, 2, 3] (by decide) rfl ?_
 exact .US q67 false hF
theorem c_qset {h : FH} {w : World} (hs : Sub h w) (m : List (Int × Int)) (p : Addr) {gX : FH} (ownX : QueX QEnt 158 .u32 (QInv m) p gX) (subX : Sub gX w) (disX : Disj h gX) (item : Int) (key : Int) (hp : pre_qset m item key) : Calls Tryz.prog 47 #[.pointer (some p), .int .u32 item, iV key] w fun e w' => ∃ r : List (Int × Int), po_qset m item key r ∧ e = .returned (.tuple #[]) ∧ SH (Kp.ex w h gX) h w' [QueX QEnt 158 .u32 (QInv r) p] :=
 w_qset hs m p ownX subX disX item key (fun r => po_qset m item key r) (ok_qset m item key hp)
end Go.Proofs.YtimillpakjgnoaaGreat.Pl

