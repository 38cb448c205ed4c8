/- The walks: from what each function asks to what it does; printed from the code. No condition. -/
import Derived.Test.YtihbfbofbdkmbaaW3
namespace Go.Proofs.Ytihbfbofbdkmbaa.Pl
open Go Go.RowKit
theorem w_clone {h : FH} {w : World} (hs : Sub h w) (s_ : List Int) (as_ : Option Addr) (cs_ : Nat) (_q1 : RSl h as_ s_) (_q2 : s_.length ≤ cs_) (K : (List Int) → Prop) (hF : F_clone s_ K) : Calls Try.prog 70 #[.slice as_ s_.length cs_] w fun e w' => ∃ (r : List Int) (z : Option Addr × Nat) (h1 : FH), K r ∧ e = .returned (.slice z.1 r.length z.2) ∧ FH.le h h1 ∧ (RSl h1 z.1 r ∧ r.length ≤ z.2) ∧ SH (Kp.all w h) h1 w' [] := by
  refine enter (args := [.slice as_ s_.length cs_]) Try.func70 rfl Try.ntmps70 rfl hs ?_
  refine .seq ?_
  refine .region ?_
  refine .v (asg rfl) rfl rfl rfl ?_
  refine .nil ?_
  refine .seqN ?_
  refine .seq ?_
  refine .seq ?_
  refine .region ?_
  refine .v (mv rfl) rfl rfl rfl ?_
  refine .v (eqnil tS22.is rfl rfl) rfl rfl rfl ?_
  refine .nil ?_
  refine .seqN ?_
  refine .cond rfl (fun q4 => ?_) (fun _ => ?_)
  · replace hF := hF.1 (RSl.nil_of _q1 (by decide) q4)
    refine .seq ?_
    refine .region ?_
    refine .v (asg rfl) rfl rfl rfl ?_
    refine .nil ?_
    refine .seqN ?_
    refine .ret ?_
    refine .seqR ?_
    refine .res1 rfl (rvT rfl) (fun w' S => ⟨([] : List Int), (none, 0), h, hF, rfl, (FH.le_refl _), ⟨RSl.nil_, (Nat.le_refl 0)⟩, S.none⟩)
  replace hF := hF.2
  refine .skip ?_
  refine .seqN ?_
  refine .seq ?_
  refine .region ?_
  refine bs2 (cs := #[]) (pv := []) tS22 rfl rfl (by decide) (by decide) rfl rfl rfl (fun a _ => ?_)
  refine .cast (A' := [OwnSl 3 1 a (([] : List Int).length) 0 (flL ([] : List Int))]) rfl ?_
  refine .v (mv rfl) rfl rfl rfl ?_
  obtain ⟨q6, hF⟩ := hF
  have q7 : ([] : List Int).length + s_.length = ((([] : List Int) ++ s_)).length := len_app rfl rfl
  refine app (k := 0) (news := flL s_) (cs' := flL (([] : List Int) ++ s_)) (nm := ((([] : List Int) ++ s_)).length) tS22 rfl (by decide) rfl rfl rfl (by rw [flL_len]; rfl) (srcH (fun q => _q1.ne (by decide) q) (_q1.raw)) (flL_one _) (room_of q7 q6).1 (room_of q7 q6).2 q7 (flL_append _ _).symm rfl (fun a2 c => ?_)
  refine .cast (A' := [OwnSl 3 1 a2 ((([] : List Int) ++ s_).length) c (flL (([] : List Int) ++ s_))]) rfl ?_
  refine .v (asg rfl) rfl rfl rfl ?_
  refine .nil ?_
  refine .seqN ?_
  refine .freezeL (k := 0) rfl (fun h1 le1 q9 q8 => ?_)
  refine .cast (A' := [tru]) rfl ?_
  refine .ret ?_
  refine .res1 rfl (rvT rfl) (fun w' S => ⟨(([] : List Int) ++ s_), (a2, c), h1, hF, rfl, (le1), ⟨(RSl.of q8), (q9)⟩, S.none⟩)

theorem c_clone {h : FH} {w : World} (hs : Sub h w) (s_ : List Int) (as_ : Option Addr) (cs_ : Nat) (_q1 : RSl h as_ s_) (_q2 : s_.length ≤ cs_) (hp : pre_clone s_) : Calls Try.prog 70 #[.slice as_ s_.length cs_] w fun e w' => ∃ (z : Option Addr × Nat) (h1 : FH), e = .returned (.slice z.1 (sp_clone s_).length z.2) ∧ FH.le h h1 ∧ (RSl h1 z.1 (sp_clone s_) ∧ (sp_clone s_).length ≤ z.2) ∧ SH (Kp.all w h) h1 w' [] :=
  (w_clone hs s_ as_ cs_ _q1 _q2 (fun r => r = sp_clone s_) (ok_clone s_ hp)).mono fun _ _ ⟨r, z, h1, hk, he, hl, hf, hS⟩ => by subst hk; exact ⟨z, h1, he, hl, hf, hS⟩

theorem w_update {h : FH} {w : World} (hs : Sub h w) (s_ : List Int) (as_ : Option Addr) (cs_ : Nat) (_q1 : RSl h as_ s_) (_q2 : s_.length ≤ cs_) (add : List Int) (aadd : Option Addr) (cadd : Nat) (_q3 : RSl h aadd add) (_q4 : add.length ≤ cadd) (del : List Int) (adel : Option Addr) (cdel : Nat) (_q5 : RSl h adel del) (_q6 : del.length ≤ cdel) (K : (List Int) → Prop) (hF : F_update s_ add del K) : Calls Try.prog 62 #[.slice as_ s_.length cs_, .slice aadd add.length cadd, .slice adel del.length cdel] w fun e w' => ∃ (r : List Int) (z : Option Addr × Nat) (h1 : FH), K r ∧ e = .returned (.slice z.1 r.length z.2) ∧ FH.le h h1 ∧ (RSl h1 z.1 r ∧ r.length ≤ z.2) ∧ SH (Kp.all w h) h1 w' [] := by
  refine enter (args := [.slice as_ s_.length cs_, .slice aadd add.length cadd, .slice adel del.length cdel]) Try.func62 rfl Try.ntmps62 rfl hs ?_
  refine .seq ?_
  refine .region ?_
  refine .v (asg rfl) rfl rfl rfl ?_
  refine .nil ?_
  refine .seqN ?_
  refine .seq ?_
  refine .region ?_
  refine .v (asg rfl) rfl rfl rfl ?_
  refine .nil ?_
  refine .seqN ?_
  refine .seq ?_
  refine .seq ?_
  refine .region ?_
  refine .v (mv rfl) rfl rfl rfl ?_
  refine .v (ln rfl tS22.is) rfl rfl rfl ?_
  refine .v (mv rfl) rfl rfl rfl ?_
  refine .nil ?_
  refine .seqN ?_
  refine .block ?_
  refine .nilSl 3 1 ?_
  refine .cast (A' := [OwnSl 3 1 none (([] : List Int).length) 0 (flL ([] : List Int))]) rfl ?_
  obtain ⟨I1, μ1, q99, q100⟩ := hF
  refine .loop' (σ := Int × List Int × Option Addr × Nat) (fun z => I1 z.1 z.2.1) (fun z => μ1 z.1 z.2.1) (fun z => [(1, .slice aadd add.length cadd), (2, .slice adel del.length cdel), (7, .slice z.2.2.1 z.2.1.length z.2.2.2), (12, .slice as_ s_.length cs_), (13, .int .i64 ((s_.length : Nat) : Int)), (14, .int .i64 z.1)]) (fun z => [OwnSl 3 1 z.2.2.1 z.2.1.length z.2.2.2 (flL z.2.1)]) (fun _ => h) (0, ([] : List Int), none, 0) q99 (.cons rfl (.cons rfl (.cons rfl (.cons rfl (.cons rfl (.cons rfl (.nil))))))) rfl (FH.le_refl _) ?_
  rintro ⟨t14, out, aout, cout⟩ q99
  have hF := q100 t14 out q99
  show J _ _ _ _ _ [(1, .slice aadd add.length cadd), (2, .slice adel del.length cdel), (7, .slice aout out.length cout), (12, .slice as_ s_.length cs_), (13, .int .i64 ((s_.length : Nat) : Int)), (14, .int .i64 t14)] [OwnSl 3 1 aout out.length cout (flL out)] h
  refine .seq ?_
  refine .region ?_
  refine .v (bi rfl rfl rfl) rfl rfl rfl ?_
  refine .nil ?_
  refine .seqN ?_
  refine .seq ?_
  refine .cond rfl (fun q103 => ?_) (fun q103 => ?_)
  · replace hF := hF.1 q103
    refine .skip ?_
    refine .seqN ?_
    refine .share (σ := List Int × Option Addr × Nat) (fun z => F_update_J1 out t14 I1 μ1 z.1) (fun z => [(1, .slice aadd add.length cadd), (2, .slice adel del.length cdel), (7, .slice z.2.1 z.1.length z.2.2), (12, .slice as_ s_.length cs_), (13, .int .i64 ((s_.length : Nat) : Int)), (14, .int .i64 t14)]) (fun z => [OwnSl 3 1 z.2.1 z.1.length z.2.2 (flL z.1)]) (fun _ => h) ?_ (fun q111 => ?_)
    · rintro ⟨out3, aout3, cout3⟩ hF
      show J _ _ _ _ _ [(1, .slice aadd add.length cadd), (2, .slice adel del.length cdel), (7, .slice aout3 out3.length cout3), (12, .slice as_ s_.length cs_), (13, .int .i64 ((s_.length : Nat) : Int)), (14, .int .i64 t14)] [OwnSl 3 1 aout3 out3.length cout3 (flL out3)] h
      refine .region ?_
      refine .v (bi rfl rfl rfl) rfl rfl rfl ?_
      refine .v (mv rfl) rfl rfl rfl ?_
      refine .nil ?_
      exact .round (IntKind.i64.wrap (t14 + 1), out3, aout3, cout3) hF.1 hF.2 (.cons rfl (.cons rfl (.cons rfl (.cons rfl (.cons rfl (.cons rfl (.nil))))))) rfl (FH.le_refl _)
    refine .block ?_
    refine .seq ?_
    refine .region ?_
    obtain ⟨q112, hF⟩ := hF
    refine .v (ix rfl rfl tS22 (_q1.ne (by decide) (inb_pos q112)) q112) rfl rfl rfl ?_
    refine .v (ld1 (v := .int .i64 (gt s_ t14)) rfl tO3 (cellH (_q1.elemF q112 (by decide) 0 _ rfl))) rfl rfl rfl ?_
    refine .v (asg rfl) rfl rfl rfl ?_
    refine .nil ?_
    refine .seqN ?_
    refine .seq ?_
    refine .region ?_
    refine .v (mv rfl) rfl rfl rfl ?_
    refine .v (mv rfl) rfl rfl rfl ?_
    obtain ⟨q113, hF⟩ := hF
    obtain ⟨r2, q114⟩ : ∃ y_ : Int × Bool, y_ = sp_bsearch del (gt s_ t14) := ⟨_, rfl⟩
    replace hF := hF r2 q114
    refine .c (cl (v := .tuple #[.int .i64 r2.1, .bool r2.2]) Try.call90 rfl rfl (fun w S => (by rw [q114]; exact c_bsearch S.sub del adel cdel _q5 _q6 (gt s_ t14) q113))) rfl rfl rfl ?_
    refine .v (mv rfl) rfl rfl rfl ?_
    refine .v (ext rfl rfl) rfl rfl rfl ?_
    refine .v (ext rfl rfl) rfl rfl rfl ?_
    refine .v (asg rfl) rfl rfl rfl ?_
    refine .v (asg rfl) rfl rfl rfl ?_
    refine .nil ?_
    refine .seqN ?_
    refine .seq ?_
    refine .region ?_
    refine .v (mv rfl) rfl rfl rfl ?_
    refine .v (nt rfl) rfl rfl rfl ?_
    refine .nil ?_
    refine .seqN ?_
    refine .cond rfl (fun q115 => ?_) (fun q115 => ?_)
    · replace hF := hF.1 q115
      refine .region ?_
      refine .v (mv rfl) rfl rfl rfl ?_
      refine .v (mv rfl) rfl rfl rfl ?_
      refine bs2 (cs := #[.int .i64 (gt s_ t14)]) (pv := [(0, .int .i64 (gt s_ t14))]) tS22 rfl rfl (by decide) (by decide) rfl rfl rfl (fun a _ => ?_)
      refine .cast (A' := [OwnSl 3 1 a (([(gt s_ t14)] : List Int).length) 1 (flL ([(gt s_ t14)] : List Int)), OwnSl 3 1 aout out.length cout (flL out)]) rfl ?_
      obtain ⟨q117, hF⟩ := hF
      have q118 : out.length + ([(gt s_ t14)] : List Int).length = ((out ++ ([(gt s_ t14)] : List Int))).length := len_app rfl rfl
      refine app (k := 1) (news := flL ([(gt s_ t14)] : List Int)) (cs' := flL (out ++ ([(gt s_ t14)] : List Int))) (nm := ((out ++ ([(gt s_ t14)] : List Int))).length) tS22 rfl (by decide) rfl rfl rfl (by rw [flL_len]; rfl) (srcS (k := 0) rfl) (flL_one _) (room_of q118 q117).1 (room_of q118 q117).2 q118 (flL_append _ _).symm rfl (fun a2 c => ?_)
      refine .cast (A' := [OwnSl 3 1 a (([(gt s_ t14)] : List Int).length) 1 (flL ([(gt s_ t14)] : List Int)), OwnSl 3 1 a2 ((out ++ ([(gt s_ t14)] : List Int)).length) c (flL (out ++ ([(gt s_ t14)] : List Int)))]) rfl ?_
      refine .v (asg rfl) rfl rfl rfl ?_
      refine .nil ?_
      refine .blkN ?_
      refine .sel0 [1] (by decide) rfl ?_
      exact .use q111 ((out ++ ([(gt s_ t14)] : List Int)), a2, c) hF (.cons rfl (.cons rfl (.cons rfl (.cons rfl (.cons rfl (.cons rfl (.nil))))))) rfl (FH.le_refl _)
    replace hF := hF.2 q115
    refine .skip ?_
    refine .blkN ?_
    exact .use q111 (out, aout, cout) hF (.cons rfl (.cons rfl (.cons rfl (.cons rfl (.cons rfl (.cons rfl (.nil))))))) rfl (FH.le_refl _)
  replace hF := hF.2 q103
  refine .exit ?_
  refine .seqX ?_
  refine .seqX ?_
  refine .blkX ?_
  refine .seqN ?_
  refine .seq ?_
  refine .region ?_
  refine .v (mv rfl) rfl rfl rfl ?_
  refine .v (mv rfl) rfl rfl rfl ?_
  obtain ⟨q119, hF⟩ := hF
  have q120 : out.length + add.length = ((out ++ add)).length := len_app rfl rfl
  refine app (k := 0) (news := flL add) (cs' := flL (out ++ add)) (nm := ((out ++ add)).length) tS22 rfl (by decide) rfl rfl rfl (by rw [flL_len]; rfl) (srcH (fun q => _q3.ne (by decide) q) (_q3.raw)) (flL_one _) (room_of q120 q119).1 (room_of q120 q119).2 q120 (flL_append _ _).symm rfl (fun a3 c2 => ?_)
  refine .cast (A' := [OwnSl 3 1 a3 ((out ++ add).length) c2 (flL (out ++ add))]) rfl ?_
  refine .v (asg rfl) rfl rfl rfl ?_
  refine .nil ?_
  refine .seqN ?_
  refine .seq ?_
  refine .region ?_
  refine .v (mv rfl) rfl rfl rfl ?_
  obtain ⟨q121, hF⟩ := hF
  obtain ⟨r3, q122⟩ : ∃ y_ : List Int, y_ = sp_sort (out ++ add) := ⟨_, rfl⟩
  replace hF := hF r3 q122
  refine callX (k := 0) (v := .tuple #[]) (X' := OwnSl 3 1 a3 ((out ++ add).length) c2 (flL r3)) rfl Try.call91 rfl rfl (fun w g hx sg hd hs' => ?_) rfl ?_
  · rw [q122]; exact c_sort hs' (out ++ add) a3 c2 hx sg hd q121
  have q123 : r3.length = (out ++ add).length := by rw [q122]; exact (sort_len (out ++ add)).trans rfl
  refine .cast (A' := [OwnSl 3 1 a3 ((out ++ add).length) c2 (flL r3)]) rfl ?_
  refine .nil ?_
  refine .seqN ?_
  refine .seq ?_
  refine .region ?_
  refine .v (mv rfl) rfl rfl rfl ?_
  obtain ⟨q124, hF⟩ := hF
  obtain ⟨r4, q125⟩ : ∃ y_ : List Int, y_ = sp_compact r3 := ⟨_, rfl⟩
  replace hF := hF r4 q125
  refine callX (k := 0) (v := .slice a3 r4.length c2) (X' := OwnSl 3 1 a3 (r4.length) c2 (flL r4)) rfl Try.call92 rfl rfl (fun w g hx sg hd hs' => ?_) rfl ?_
  · rw [q125]; have hc_ := c_compact hs' r3 a3 c2 (own_n (q123).symm hx) sg hd q124; rw [q123] at hc_; exact hc_
  refine .cast (A' := [OwnSl 3 1 a3 r4.length c2 (flL r4)]) rfl ?_
  refine .v (asg rfl) rfl rfl rfl ?_
  refine .nil ?_
  refine .seqN ?_
  refine .freezeL (k := 0) rfl (fun h1 le1 q127 q126 => ?_)
  refine .cast (A' := [tru]) rfl ?_
  refine .ret ?_
  refine .res1 rfl (rvT rfl) (fun w' S => ⟨r4, (a3, c2), h1, hF, rfl, (le1), ⟨(RSl.of q126), (q127)⟩, S.none⟩)

theorem c_update {h : FH} {w : World} (hs : Sub h w) (s_ : List Int) (as_ : Option Addr) (cs_ : Nat) (_q1 : RSl h as_ s_) (_q2 : s_.length ≤ cs_) (add : List Int) (aadd : Option Addr) (cadd : Nat) (_q3 : RSl h aadd add) (_q4 : add.length ≤ cadd) (del : List Int) (adel : Option Addr) (cdel : Nat) (_q5 : RSl h adel del) (_q6 : del.length ≤ cdel) (hp : pre_update s_ add del) : Calls Try.prog 62 #[.slice as_ s_.length cs_, .slice aadd add.length cadd, .slice adel del.length cdel] w fun e w' => ∃ (z : Option Addr × Nat) (h1 : FH), e = .returned (.slice z.1 (sp_update s_ add del).length z.2) ∧ FH.le h h1 ∧ (RSl h1 z.1 (sp_update s_ add del) ∧ (sp_update s_ add del).length ≤ z.2) ∧ SH (Kp.all w h) h1 w' [] :=
  (w_update hs s_ as_ cs_ _q1 _q2 add aadd cadd _q3 _q4 del adel cdel _q5 _q6 (fun r => r = sp_update s_ add del) (ok_update s_ add del hp)).mono fun _ _ ⟨r, z, h1, hk, he, hl, hf, hS⟩ => by subst hk; exact ⟨z, h1, he, hl, hf, hS⟩

set_option maxHeartbeats 8000000 in
theorem w_contains2 {h : FH} {w : World} (hs : Sub h w) (s_ : List Int) (as_ : Option Addr) (cs_ : Nat) (_q1 : RSl h as_ s_) (_q2 : s_.length ≤ cs_) (part : List Int) (apart : Option Addr) (cpart : Nat) (_q3 : RSl h apart part) (_q4 : part.length ≤ cpart) (K : Bool → Prop) (hF : F_contains2 s_ part K) : Calls Try.prog 61 #[.slice as_ s_.length cs_, .slice apart part.length cpart] w fun e w' => ∃ r : Bool, K r ∧ e = .returned (.bool r) ∧ Below w.heap.size w w' := by
  refine enter (args := [.slice as_ s_.length cs_, .slice apart part.length cpart]) Try.func61 rfl Try.ntmps61 rfl hs ?_
  refine .seq ?_
  refine .region ?_
  refine .v (asg rfl) rfl rfl rfl ?_
  refine .nil ?_
  refine .seqN ?_
  refine .seq ?_
  refine .region ?_
  refine .v (asg rfl) rfl rfl rfl ?_
  refine .nil ?_
  refine .seqN ?_
  refine .seq ?_
  refine .seq ?_
  refine .region ?_
  refine .v (mv rfl) rfl rfl rfl ?_
  refine .v (ln rfl tS22.is) rfl rfl rfl ?_
  refine .v (mv rfl) rfl rfl rfl ?_
  refine .nil ?_
  refine .seqN ?_
  refine .block ?_
  obtain ⟨I1, μ1, q1162, q1163⟩ := hF
  refine .loop' (σ := Int × Int) (fun z => I1 z.1 z.2) (fun z => μ1 z.1 z.2) (fun z => [(0, .slice as_ s_.length cs_), (5, .int .i64 z.1), (8, .slice apart part.length cpart), (9, .int .i64 ((part.length : Nat) : Int)), (10, .int .i64 z.2)]) (fun _ => []) (fun _ => h) (0, 0) q1162 (.cons rfl (.cons rfl (.cons rfl (.cons rfl (.cons rfl (.nil)))))) rfl (FH.le_refl _) ?_
  rintro ⟨i, t10⟩ q1162
  have hF := q1163 i t10 q1162
  show J _ _ _ _ _ [(0, .slice as_ s_.length cs_), (5, .int .i64 i), (8, .slice apart part.length cpart), (9, .int .i64 ((part.length : Nat) : Int)), (10, .int .i64 t10)] [] h
  refine .seq ?_
  refine .region ?_
  refine .v (bi rfl rfl rfl) rfl rfl rfl ?_
  refine .nil ?_
  refine .seqN ?_
  refine .seq ?_
  refine .cond rfl (fun q1166 => ?_) (fun q1166 => ?_)
  · replace hF := hF.1 q1166
    refine .skip ?_
    refine .seqN ?_
    refine .seq ?_
    refine .block ?_
    refine .seq ?_
    refine .region ?_
    obtain ⟨q1319, hF⟩ := hF
    refine .v (ix rfl rfl tS22 (_q3.ne (by decide) (inb_pos q1319)) q1319) rfl rfl rfl ?_
    refine .v (ld1 (v := .int .i64 (gt part t10)) rfl tO3 (cellH (_q3.elemF q1319 (by decide) 0 _ rfl))) rfl rfl rfl ?_
    refine .v (asg rfl) rfl rfl rfl ?_
    refine .nil ?_
    refine .seqN ?_
    refine .seq ?_
    refine .block ?_
    obtain ⟨I2, μ2, q1380, q1381⟩ := hF
    refine .loop' (σ := Int) (fun z => I2 z) (fun z => μ2 z) (fun z => [(0, .slice as_ s_.length cs_), (5, .int .i64 z), (7, .int .i64 (gt part t10)), (8, .slice apart part.length cpart), (9, .int .i64 ((part.length : Nat) : Int)), (10, .int .i64 t10)]) (fun _ => []) (fun _ => h) i q1380 (.cons rfl (.cons rfl (.cons rfl (.cons rfl (.cons rfl (.cons rfl (.nil))))))) rfl (FH.le_refl _) ?_
    rintro i3 q1380
    have hF := q1381 i3 q1380
    show J _ _ _ _ _ [(0, .slice as_ s_.length cs_), (5, .int .i64 i3), (7, .int .i64 (gt part t10)), (8, .slice apart part.length cpart), (9, .int .i64 ((part.length : Nat) : Int)), (10, .int .i64 t10)] [] h
    refine .seq ?_
    refine .share (σ := Bool) (fun z => F_contains2_J1 s_ part K z i I2 μ2 t10 i3 I1 μ1) (fun z => [(0, .slice as_ s_.length cs_), (5, .int .i64 i3), (7, .int .i64 (gt part t10)), (8, .slice apart part.length cpart), (9, .int .i64 ((part.length : Nat) : Int)), (10, .int .i64 t10), (25, .bool z)]) (fun _ => []) (fun _ => h) ?_ (fun q1384 => ?_)
    · rintro t25 hF
      show J _ _ _ _ _ [(0, .slice as_ s_.length cs_), (5, .int .i64 i3), (7, .int .i64 (gt part t10)), (8, .slice apart part.length cpart), (9, .int .i64 ((part.length : Nat) : Int)), (10, .int .i64 t10), (25, .bool t25)] [] h
      refine .cond rfl (fun q1386 => ?_) (fun q1386 => ?_)
      · replace hF := hF.1 q1386
        refine .skip ?_
        refine .seqN ?_
        refine .block ?_
        refine .region ?_
        refine .v (mv rfl) rfl rfl rfl ?_
        refine .v (bi rfl rfl rfl) rfl rfl rfl ?_
        refine .v (asg rfl) rfl rfl rfl ?_
        refine .nil ?_
        refine .blkN ?_
        exact .round (IntKind.i64.wrap (i3 + 1)) hF.1 hF.2 (.cons rfl (.cons rfl (.cons rfl (.cons rfl (.cons rfl (.cons rfl (.nil))))))) rfl (FH.le_refl _)
      replace hF := hF.2 q1386
      refine .exit ?_
      refine .seqX ?_
      refine .seqX ?_
      refine .blkX ?_
      refine .seqN ?_
      refine .share (σ := Bool) (fun z => F_contains2_J2 K i z t10 i3 I1 μ1) (fun z => [(0, .slice as_ s_.length cs_), (5, .int .i64 i3), (8, .slice apart part.length cpart), (9, .int .i64 ((part.length : Nat) : Int)), (10, .int .i64 t10), (39, .bool z)]) (fun _ => []) (fun _ => h) ?_ (fun q1389 => ?_)
      · rintro t39 hF
        show J _ _ _ _ _ [(0, .slice as_ s_.length cs_), (5, .int .i64 i3), (8, .slice apart part.length cpart), (9, .int .i64 ((part.length : Nat) : Int)), (10, .int .i64 t10), (39, .bool t39)] [] h
        refine .cond rfl (fun q1390 => ?_) (fun q1390 => ?_)
        · replace hF := hF.1 q1390
          refine .seq ?_
          refine .region ?_
          refine .v (asg rfl) rfl rfl rfl ?_
          refine .nil ?_
          refine .seqN ?_
          refine .ret ?_
          refine .blkR ?_
          refine .seqR ?_
          refine .seqR ?_
          refine .blkR ?_
          refine .seqR ?_
          refine .res1 rfl (rvT rfl) (fun w' S => ⟨false, hF, rfl, S.below⟩)
        replace hF := hF.2 q1390
        refine .skip ?_
        refine .blkN ?_
        refine .seqN ?_
        refine .region ?_
        refine .v (bi rfl rfl rfl) rfl rfl rfl ?_
        refine .v (mv rfl) rfl rfl rfl ?_
        refine .nil ?_
        exact .round (i3, IntKind.i64.wrap (t10 + 1)) hF.1 hF.2 (.cons rfl (.cons rfl (.cons rfl (.cons rfl (.cons rfl (.nil)))))) rfl (FH.le_refl _)
      refine .region ?_
      refine .v (mv rfl) rfl rfl rfl ?_
      refine .v (mv rfl) rfl rfl rfl ?_
      refine .v (ln rfl tS22.is) rfl rfl rfl ?_
      refine .v (bi rfl rfl rfl) rfl rfl rfl ?_
      refine .v (mv rfl) rfl rfl rfl ?_
      rcases Bool.eq_false_or_eq_true (i3 == ((s_.length : Nat) : Int)) with q1391 | q1391
      · replace hF := hF.1 q1391
        refine .gS rfl rfl rfl q1391 rfl rfl ?_
        refine .gS rfl rfl rfl q1391 rfl rfl ?_
        refine .gS rfl rfl rfl q1391 rfl rfl ?_
        refine .gS rfl rfl rfl q1391 rfl rfl ?_
        refine .gS rfl rfl rfl q1391 rfl rfl ?_
        refine .gS rfl rfl rfl q1391 rfl rfl ?_
        refine .v (pkT rfl q1391 rfl) rfl rfl rfl ?_
        refine .nil ?_
        exact .use q1389 true hF (.cons rfl (.cons rfl (.cons rfl (.cons rfl (.cons rfl (.cons rfl (.nil))))))) rfl (FH.le_refl _)
      replace hF := hF.2 q1391
      refine .gv (mv rfl) rfl rfl rfl q1391 rfl rfl ?_
      refine .gv (mv rfl) rfl rfl rfl q1391 rfl rfl ?_
      obtain ⟨q1392, hF⟩ := hF
      refine .gv (ix rfl rfl tS22 (_q1.ne (by decide) (inb_pos q1392)) q1392) rfl rfl rfl q1391 rfl rfl ?_
      refine .gv (ld1 (v := .int .i64 (gt s_ i3)) rfl tO3 (cellH (_q1.elemF q1392 (by decide) 0 _ rfl))) rfl rfl rfl q1391 rfl rfl ?_
      refine .gv (mv rfl) rfl rfl rfl q1391 rfl rfl ?_
      refine .gv (bi rfl rfl rfl) rfl rfl rfl q1391 rfl rfl ?_
      refine .v (pkF rfl q1391 rfl) rfl rfl rfl ?_
      refine .nil ?_
      exact .use q1389 ((gt s_ i3) != (gt part t10)) hF (.cons rfl (.cons rfl (.cons rfl (.cons rfl (.cons rfl (.cons rfl (.nil))))))) rfl (FH.le_refl _)
    refine .region ?_
    refine .v (mv rfl) rfl rfl rfl ?_
    refine .v (mv rfl) rfl rfl rfl ?_
    refine .v (ln rfl tS22.is) rfl rfl rfl ?_
    refine .v (bi rfl rfl rfl) rfl rfl rfl ?_
    refine .v (mv rfl) rfl rfl rfl ?_
    rcases Bool.eq_false_or_eq_true (decide (i3 < ((s_.length : Nat) : Int))) with q1393 | q1393
    · replace hF := hF.1 q1393
      refine .gv (mv rfl) rfl rfl rfl q1393 rfl rfl ?_
      refine .gv (mv rfl) rfl rfl rfl q1393 rfl rfl ?_
      obtain ⟨q1394, hF⟩ := hF
      refine .gv (ix rfl rfl tS22 (_q1.ne (by decide) (inb_pos q1394)) q1394) rfl rfl rfl q1393 rfl rfl ?_
      refine .gv (ld1 (v := .int .i64 (gt s_ i3)) rfl tO3 (cellH (_q1.elemF q1394 (by decide) 0 _ rfl))) rfl rfl rfl q1393 rfl rfl ?_
      refine .gv (mv rfl) rfl rfl rfl q1393 rfl rfl ?_
      refine .gv (bi rfl rfl rfl) rfl rfl rfl q1393 rfl rfl ?_
      refine .v (pkT rfl q1393 rfl) rfl rfl rfl ?_
      refine .nil ?_
      exact .use q1384 (decide ((gt s_ i3) < (gt part t10))) hF (.cons rfl (.cons rfl (.cons rfl (.cons rfl (.cons rfl (.cons rfl (.cons rfl (.nil)))))))) rfl (FH.le_refl _)
    replace hF := hF.2 q1393
    refine .gS rfl rfl rfl q1393 rfl rfl ?_
    refine .gS rfl rfl rfl q1393 rfl rfl ?_
    refine .gS rfl rfl rfl q1393 rfl rfl ?_
    refine .gS rfl rfl rfl q1393 rfl rfl ?_
    refine .gS rfl rfl rfl q1393 rfl rfl ?_
    refine .gS rfl rfl rfl q1393 rfl rfl ?_
    refine .v (pkF rfl q1393 rfl) rfl rfl rfl ?_
    refine .nil ?_
    exact .use q1384 false hF (.cons rfl (.cons rfl (.cons rfl (.cons rfl (.cons rfl (.cons rfl (.cons rfl (.nil)))))))) rfl (FH.le_refl _)
  replace hF := hF.2 q1166
  refine .exit ?_
  refine .seqX ?_
  refine .seqX ?_
  refine .blkX ?_
  refine .seqN ?_
  refine .seq ?_
  refine .region ?_
  refine .v (asg rfl) rfl rfl rfl ?_
  refine .nil ?_
  refine .seqN ?_
  refine .ret ?_
  refine .res1 rfl (rvT rfl) (fun w' S => ⟨true, hF, rfl, S.below⟩)

theorem c_contains2 {h : FH} {w : World} (hs : Sub h w) (s_ : List Int) (as_ : Option Addr) (cs_ : Nat) (_q1 : RSl h as_ s_) (_q2 : s_.length ≤ cs_) (part : List Int) (apart : Option Addr) (cpart : Nat) (_q3 : RSl h apart part) (_q4 : part.length ≤ cpart) (hp : pre_contains2 s_ part) : Calls Try.prog 61 #[.slice as_ s_.length cs_, .slice apart part.length cpart] w fun e w' => e = .returned (.bool (sp_contains2 s_ part)) ∧ Below w.heap.size w w' :=
  (w_contains2 hs s_ as_ cs_ _q1 _q2 part apart cpart _q3 _q4 (fun r => r = sp_contains2 s_ part) (ok_contains2 s_ part hp)).mono fun _ _ ⟨_, hk, he, hb⟩ => ⟨by rw [he, hk], hb⟩

theorem w_can {h : FH} {w : World} (hs : Sub h w) (t : Task) (at_ : Option Addr) (ct : Nat) (_q1 : RSl h at_ t.init) (_q2 : t.init.length ≤ ct) (at_2 : Option Addr) (ct2 : Nat) (_q3 : RSl h at_2 t.goal) (_q4 : t.goal.length ≤ ct2) (at_3 : Option Addr) (ct3 : Nat) (_q5 : RSl h at_3 t.ops) (_q6 : t.ops.length ≤ ct3) (s_ : List Int) (as_ : Option Addr) (cs_ : Nat) (_q7 : RSl h as_ s_) (_q8 : s_.length ≤ cs_) (op : Int) (K : Bool → Prop) (hF : F_can t s_ op K) : Calls Try.prog 94 #[.agg #[.int .i64 t.facts, .slice at_ t.init.length ct, .slice at_2 t.goal.length ct2, .slice at_3 t.ops.length ct3], .slice as_ s_.length cs_, .int .i64 op] w fun e w' => ∃ r : Bool, K r ∧ e = .returned (.bool r) ∧ Below w.heap.size w w' := by
  refine enter (args := [.agg #[.int .i64 t.facts, .slice at_ t.init.length ct, .slice at_2 t.goal.length ct2, .slice at_3 t.ops.length ct3], .slice as_ s_.length cs_, .int .i64 op]) Try.func94 rfl Try.ntmps94 rfl hs ?_
  refine .seq ?_
  refine .region ?_
  refine bx (vs := [.int .i64 t.facts, .slice at_ t.init.length ct, .slice at_2 t.goal.length ct2, .slice at_3 t.ops.length ct3]) rfl rfl rfl (fun pt => ?_)
  refine .v (asg rfl) rfl rfl rfl ?_
  refine .nil ?_
  refine .seqN ?_
  refine .seq ?_
  refine .region ?_
  refine .v (mv rfl) rfl rfl rfl ?_
  refine .v (fa rfl tF25_3) rfl rfl rfl ?_
  refine .v (ld1 rfl tO23 (cellB (off := 3) (k := 0) rfl rfl)) rfl rfl rfl ?_
  refine .v (mv rfl) rfl rfl rfl ?_
  obtain ⟨q9, hF⟩ := hF
  refine .v (ix rfl rfl tS23 (_q5.ne (by decide) (inb_pos q9)) q9) rfl rfl rfl ?_
  refine .v (fa rfl tF89_0) rfl rfl rfl ?_
  obtain ⟨_, ⟨a, c, a2, c2, a3, c3, rfl, ⟨q10, q11⟩, ⟨q12, q13⟩, q14, q15⟩, q16⟩ := _q5.elem q9
  refine .v (ld1 (v := .slice a ((gt t.ops op).pre.length) c) rfl tO22 (cellH (q16 (by decide) 0 _ rfl))) rfl rfl rfl ?_
  obtain ⟨q17, hF⟩ := hF
  obtain ⟨r2, q18⟩ : ∃ y_ : Bool, y_ = sp_contains2 s_ ((gt t.ops op).pre) := ⟨_, rfl⟩
  replace hF := hF r2 q18
  refine .c (cl (v := .bool r2) Try.call61 rfl rfl (fun w S => (by rw [q18]; exact c_contains2 S.sub s_ as_ cs_ _q7 _q8 ((gt t.ops op).pre) a c q11 q10 q17))) rfl rfl rfl ?_
  refine .v (asg rfl) rfl rfl rfl ?_
  refine .nil ?_
  refine .seqN ?_
  refine .ret ?_
  refine .res1 rfl (rvT rfl) (fun w' S => ⟨r2, hF, rfl, S.below⟩)

theorem c_can {h : FH} {w : World} (hs : Sub h w) (t : Task) (at_ : Option Addr) (ct : Nat) (_q1 : RSl h at_ t.init) (_q2 : t.init.length ≤ ct) (at_2 : Option Addr) (ct2 : Nat) (_q3 : RSl h at_2 t.goal) (_q4 : t.goal.length ≤ ct2) (at_3 : Option Addr) (ct3 : Nat) (_q5 : RSl h at_3 t.ops) (_q6 : t.ops.length ≤ ct3) (s_ : List Int) (as_ : Option Addr) (cs_ : Nat) (_q7 : RSl h as_ s_) (_q8 : s_.length ≤ cs_) (op : Int) (hp : pre_can t s_ op) : Calls Try.prog 94 #[.agg #[.int .i64 t.facts, .slice at_ t.init.length ct, .slice at_2 t.goal.length ct2, .slice at_3 t.ops.length ct3], .slice as_ s_.length cs_, .int .i64 op] w fun e w' => e = .returned (.bool (sp_applies t s_ op)) ∧ Below w.heap.size w w' :=
  (w_can hs t at_ ct _q1 _q2 at_2 ct2 _q3 _q4 at_3 ct3 _q5 _q6 s_ as_ cs_ _q7 _q8 op (fun r => r = sp_applies t s_ op) (ok_can t s_ op hp)).mono fun _ _ ⟨_, hk, he, hb⟩ => ⟨by rw [he, hk], hb⟩

theorem w_next {h : FH} {w : World} (hs : Sub h w) (t : Task) (at_ : Option Addr) (ct : Nat) (_q1 : RSl h at_ t.init) (_q2 : t.init.length ≤ ct) (at_2 : Option Addr) (ct2 : Nat) (_q3 : RSl h at_2 t.goal) (_q4 : t.goal.length ≤ ct2) (at_3 : Option Addr) (ct3 : Nat) (_q5 : RSl h at_3 t.ops) (_q6 : t.ops.length ≤ ct3) (s_ : List Int) (as_ : Option Addr) (cs_ : Nat) (_q7 : RSl h as_ s_) (_q8 : s_.length ≤ cs_) (op : Int) (K : (List Int) → Prop) (hF : F_next t s_ op K) : Calls Try.prog 95 #[.agg #[.int .i64 t.facts, .slice at_ t.init.length ct, .slice at_2 t.goal.length ct2, .slice at_3 t.ops.length ct3], .slice as_ s_.length cs_, .int .i64 op] w fun e w' => ∃ (r : List Int) (z : Option Addr × Nat) (h1 : FH), K r ∧ e = .returned (.slice z.1 r.length z.2) ∧ FH.le h h1 ∧ (RSl h1 z.1 r ∧ r.length ≤ z.2) ∧ SH (Kp.all w h) h1 w' [] := by
  refine enter (args := [.agg #[.int .i64 t.facts, .slice at_ t.init.length ct, .slice at_2 t.goal.length ct2, .slice at_3 t.ops.length ct3], .slice as_ s_.length cs_, .int .i64 op]) Try.func95 rfl Try.ntmps95 rfl hs ?_
  refine .seq ?_
  refine .region ?_
  refine bx (vs := [.int .i64 t.facts, .slice at_ t.init.length ct, .slice at_2 t.goal.length ct2, .slice at_3 t.ops.length ct3]) rfl rfl rfl (fun pt => ?_)
  refine .v (asg rfl) rfl rfl rfl ?_
  refine .nil ?_
  refine .seqN ?_
  refine .seq ?_
  refine .region ?_
  refine .v (fa rfl tF25_3) rfl rfl rfl ?_
  refine .v (ld1 rfl tO23 (cellB (off := 3) (k := 0) rfl rfl)) rfl rfl rfl ?_
  refine .v (mv rfl) rfl rfl rfl ?_
  obtain ⟨q9, hF⟩ := hF
  refine .v (ix rfl rfl tS23 (_q5.ne (by decide) (inb_pos q9)) q9) rfl rfl rfl ?_
  obtain ⟨_, ⟨a, c, a2, c2, a3, c3, rfl, ⟨q10, q11⟩, ⟨q12, q13⟩, q14, q15⟩, q16⟩ := _q5.elem q9
  refine .v (ldA (cs := [.slice a ((gt t.ops op).pre.length) c, .slice a2 ((gt t.ops op).add.length) c2, .slice a3 ((gt t.ops op).del.length) c3, .int .i64 ((gt t.ops op).cost)]) rfl tA89 rfl (cellsH (q16 (by decide)))) rfl rfl rfl ?_
  refine al tZ89 rfl (fun po => ?_)
  refine st (p := po) (off := 0) (k := 0) (vs := [.slice a ((gt t.ops op).pre.length) c, .slice a2 ((gt t.ops op).add.length) c2, .slice a3 ((gt t.ops op).del.length) c3, .int .i64 ((gt t.ops op).cost)]) rfl rfl rfl (fun w => (tA89 w).2) rfl rfl rfl rfl ?_
  refine .cast (A' := [Box po [.slice a ((gt t.ops op).pre.length) c, .slice a2 ((gt t.ops op).add.length) c2, .slice a3 ((gt t.ops op).del.length) c3, .int .i64 ((gt t.ops op).cost)], Box pt [.int .i64 t.facts, .slice at_ t.init.length ct, .slice at_2 t.goal.length ct2, .slice at_3 t.ops.length ct3]]) rfl ?_
  refine .nil ?_
  refine .seqN ?_
  refine .seq ?_
  refine .region ?_
  refine .v (mv rfl) rfl rfl rfl ?_
  refine .v (fa rfl tF89_1) rfl rfl rfl ?_
  refine .v (ld1 rfl tO22 (cellB (off := 1) (k := 0) rfl rfl)) rfl rfl rfl ?_
  refine .v (fa rfl tF89_2) rfl rfl rfl ?_
  refine .v (ld1 rfl tO22 (cellB (off := 2) (k := 0) rfl rfl)) rfl rfl rfl ?_
  obtain ⟨q17, hF⟩ := hF
  obtain ⟨r2, q18⟩ : ∃ y_ : List Int, y_ = sp_update s_ ((gt t.ops op).add) ((gt t.ops op).del) := ⟨_, rfl⟩
  replace hF := hF r2 q18
  refine clR (α := Option Addr × Nat) (Φ := fun h1 z => RSl h1 z.1 r2 ∧ r2.length ≤ z.2) (V := fun z => .slice z.1 r2.length z.2) Try.call62 rfl rfl (fun w S => (by rw [q18]; exact c_update S.sub s_ as_ cs_ _q7 _q8 ((gt t.ops op).add) a2 c2 q13 q12 ((gt t.ops op).del) a3 c3 q15 q14 q17)) rfl (fun z h1 le1 hz => ?_)
  obtain ⟨a4, c4⟩ := z
  obtain ⟨q19, q20⟩ := hz
  refine .v (asg rfl) rfl rfl rfl ?_
  refine .nil ?_
  refine .seqN ?_
  refine .ret ?_
  refine .res1 rfl (rvT rfl) (fun w' S => ⟨r2, (a4, c4), h1, hF, rfl, (le1), ⟨q19, q20⟩, S.none⟩)

theorem c_next {h : FH} {w : World} (hs : Sub h w) (t : Task) (at_ : Option Addr) (ct : Nat) (_q1 : RSl h at_ t.init) (_q2 : t.init.length ≤ ct) (at_2 : Option Addr) (ct2 : Nat) (_q3 : RSl h at_2 t.goal) (_q4 : t.goal.length ≤ ct2) (at_3 : Option Addr) (ct3 : Nat) (_q5 : RSl h at_3 t.ops) (_q6 : t.ops.length ≤ ct3) (s_ : List Int) (as_ : Option Addr) (cs_ : Nat) (_q7 : RSl h as_ s_) (_q8 : s_.length ≤ cs_) (op : Int) (hp : pre_next t s_ op) : Calls Try.prog 95 #[.agg #[.int .i64 t.facts, .slice at_ t.init.length ct, .slice at_2 t.goal.length ct2, .slice at_3 t.ops.length ct3], .slice as_ s_.length cs_, .int .i64 op] w fun e w' => ∃ (z : Option Addr × Nat) (h1 : FH), e = .returned (.slice z.1 (sp_after t s_ op).length z.2) ∧ FH.le h h1 ∧ (RSl h1 z.1 (sp_after t s_ op) ∧ (sp_after t s_ op).length ≤ z.2) ∧ SH (Kp.all w h) h1 w' [] :=
  (w_next hs t at_ ct _q1 _q2 at_2 ct2 _q3 _q4 at_3 ct3 _q5 _q6 s_ as_ cs_ _q7 _q8 op (fun r => r = sp_after t s_ op) (ok_next t s_ op hp)).mono fun _ _ ⟨r, z, h1, hk, he, hl, hf, hS⟩ => by subst hk; exact ⟨z, h1, he, hl, hf, hS⟩

theorem w_srun {h : FH} {w : World} (hs : Sub h w) (t : Task) (at_ : Option Addr) (ct : Nat) (_q1 : RSl h at_ t.init) (_q2 : t.init.length ≤ ct) (at_2 : Option Addr) (ct2 : Nat) (_q3 : RSl h at_2 t.goal) (_q4 : t.goal.length ≤ ct2) (at_3 : Option Addr) (ct3 : Nat) (_q5 : RSl h at_3 t.ops) (_q6 : t.ops.length ≤ ct3) (s_ : List Int) (as_ : Option Addr) (cs_ : Nat) (_q7 : RSl h as_ s_) (_q8 : s_.length ≤ cs_) (plan : List Int) (aplan : Option Addr) (cplan : Nat) (_q9 : RSl h aplan plan) (_q10 : plan.length ≤ cplan) (K : (List (List Int)) → Prop) (hF : F_srun t s_ plan K) : Calls Try.prog 83 #[.agg #[.int .i64 t.facts, .slice at_ t.init.length ct, .slice at_2 t.goal.length ct2, .slice at_3 t.ops.length ct3], .slice as_ s_.length cs_, .slice aplan plan.length cplan] w fun e w' => ∃ (r : List (List Int)) (z : Option Addr × Nat) (h1 : FH), K r ∧ e = .returned (.slice z.1 r.length z.2) ∧ FH.le h h1 ∧ (RSl h1 z.1 r ∧ r.length ≤ z.2) ∧ SH (Kp.all w h) h1 w' [] := by
  refine enter (args := [.agg #[.int .i64 t.facts, .slice at_ t.init.length ct, .slice at_2 t.goal.length ct2, .slice at_3 t.ops.length ct3], .slice as_ s_.length cs_, .slice aplan plan.length cplan]) Try.func83 rfl Try.ntmps83 rfl hs ?_
  refine .seq ?_
  refine .region ?_
  refine bx (vs := [.int .i64 t.facts, .slice at_ t.init.length ct, .slice at_2 t.goal.length ct2, .slice at_3 t.ops.length ct3]) rfl rfl rfl (fun pt => ?_)
  refine .v (asg rfl) rfl rfl rfl ?_
  refine .nil ?_
  refine .seqN ?_
  refine .seq ?_
  refine .region ?_
  refine .v (mv rfl) rfl rfl rfl ?_
  obtain ⟨q11, hF⟩ := hF
  obtain ⟨r2, q12⟩ : ∃ y_ : List Int, y_ = sp_clone s_ := ⟨_, rfl⟩
  replace hF := hF r2 q12
  refine clR (α := Option Addr × Nat) (Φ := fun h1 z => RSl h1 z.1 r2 ∧ r2.length ≤ z.2) (V := fun z => .slice z.1 r2.length z.2) Try.call70 rfl rfl (fun w S => (by rw [q12]; exact c_clone S.sub s_ as_ cs_ _q7 _q8 q11)) rfl (fun z h1 le1 hz => ?_)
  obtain ⟨a, c⟩ := z
  obtain ⟨q13, q14⟩ := hz
  refine bs2 (cs := #[.slice a r2.length c]) (pv := [(0, .slice a r2.length c)]) tS36 rfl rfl (by decide) (by decide) rfl rfl rfl (fun a2 _ => ?_)
  refine .cast (A' := [OwnSl 22 1 a2 (([r2] : List (List Int)).length) 1 [.slice a r2.length c], Box pt [.int .i64 t.facts, .slice at_ t.init.length ct, .slice at_2 t.goal.length ct2, .slice at_3 t.ops.length ct3]]) rfl ?_
  refine .v (asg rfl) rfl rfl rfl ?_
  refine .nil ?_
  refine .seqN ?_
  refine .seq ?_
  refine .seq ?_
  refine .region ?_
  refine .v (mv rfl) rfl rfl rfl ?_
  refine .v (ln rfl tS22.is) rfl rfl rfl ?_
  refine .v (mv rfl) rfl rfl rfl ?_
  refine .nil ?_
  refine .seqN ?_
  refine .block ?_
  refine .sel0 [1, 0] (by decide) rfl ?_
  obtain ⟨I1, μ1, q260, q261⟩ := hF
  refine .loop' (σ := List Int × Int × List (List Int) × Option Addr × Nat × Option Addr × Nat × List Value × FH) (fun z => I1 z.1 z.2.1 z.2.2.1 ∧ RSl z.2.2.2.2.2.2.2.2 z.2.2.2.1 z.1 ∧ z.1.length ≤ z.2.2.2.2.1 ∧ RepL z.2.2.2.2.2.2.2.2 z.2.2.1 z.2.2.2.2.2.2.2.1 ∧ FH.le h1 z.2.2.2.2.2.2.2.2) (fun z => μ1 z.1 z.2.1 z.2.2.1) (fun z => [(1, .slice z.2.2.2.1 z.1.length z.2.2.2.2.1), (3, .pointer (some pt)), (7, .slice z.2.2.2.2.2.1 z.2.2.1.length z.2.2.2.2.2.2.1), (13, .slice aplan plan.length cplan), (14, .int .i64 ((plan.length : Nat) : Int)), (15, .int .i64 z.2.1)]) (fun z => [Box pt [.int .i64 t.facts, .slice at_ t.init.length ct, .slice at_2 t.goal.length ct2, .slice at_3 t.ops.length ct3], OwnSl 22 1 z.2.2.2.2.2.1 z.2.2.1.length z.2.2.2.2.2.2.1 z.2.2.2.2.2.2.2.1]) (fun z => z.2.2.2.2.2.2.2.2) (s_, 0, ([r2] : List (List Int)), as_, cs_, a2, 1, [.slice a r2.length c], h1) ⟨q260, (_q7.mono (le1)), _q8, (show RepL h1 ([r2] : List (List Int)) [.slice a r2.length c] from ⟨[.slice a r2.length c], _, rfl, ⟨a, c, rfl, q14, q13⟩, rfl⟩), (FH.le_refl _)⟩ (.cons rfl (.cons rfl (.cons rfl (.cons rfl (.cons rfl (.cons rfl (.nil))))))) rfl (FH.le_refl _) ?_
  rintro ⟨s_2, t15, out, as2, cs, aout, cout, csout, h20⟩ ⟨q260, q210, q211, q212, q213⟩
  have hF := q261 s_2 t15 out q260
  show J _ _ _ _ _ [(1, .slice as2 s_2.length cs), (3, .pointer (some pt)), (7, .slice aout out.length cout), (13, .slice aplan plan.length cplan), (14, .int .i64 ((plan.length : Nat) : Int)), (15, .int .i64 t15)] [Box pt [.int .i64 t.facts, .slice at_ t.init.length ct, .slice at_2 t.goal.length ct2, .slice at_3 t.ops.length ct3], OwnSl 22 1 aout out.length cout csout] h20
  refine .seq ?_
  refine .region ?_
  refine .v (bi rfl rfl rfl) rfl rfl rfl ?_
  refine .nil ?_
  refine .seqN ?_
  refine .seq ?_
  refine .cond rfl (fun q264 => ?_) (fun q264 => ?_)
  · replace hF := hF.1 q264
    refine .skip ?_
    refine .seqN ?_
    refine .seq ?_
    refine .block ?_
    refine .seq ?_
    refine .region ?_
    obtain ⟨q291, hF⟩ := hF
    refine .v (ix rfl rfl tS22 (_q9.ne (by decide) (inb_pos q291)) q291) rfl rfl rfl ?_
    refine .v (ld1 (v := .int .i64 (gt plan t15)) rfl tO3 (cellH ((_q9.mono (FH.le_trans (le1) (q213))).elemF q291 (by decide) 0 _ rfl))) rfl rfl rfl ?_
    refine .v (asg rfl) rfl rfl rfl ?_
    refine .nil ?_
    refine .seqN ?_
    refine .seq ?_
    refine .seq ?_
    refine .region ?_
    refine .v (ldA (cs := [.int .i64 t.facts, .slice at_ t.init.length ct, .slice at_2 t.goal.length ct2, .slice at_3 t.ops.length ct3]) rfl tA25 rfl (cellsB (off := 0) (k := 0) rfl (m := 4) rfl)) rfl rfl rfl ?_
    refine .v (mv rfl) rfl rfl rfl ?_
    refine .v (mv rfl) rfl rfl rfl ?_
    obtain ⟨q292, hF⟩ := hF
    obtain ⟨r3, q293⟩ : ∃ y_ : Bool, y_ = sp_applies t s_2 (gt plan t15) := ⟨_, rfl⟩
    replace hF := hF r3 q293
    refine .c (cl (v := .bool r3) Try.call94 rfl rfl (fun w S => (by rw [q293]; exact c_can S.sub t at_ ct (_q1.mono (FH.le_trans (le1) (q213))) _q2 at_2 ct2 (_q3.mono (FH.le_trans (le1) (q213))) _q4 at_3 ct3 (_q5.mono (FH.le_trans (le1) (q213))) _q6 s_2 as2 cs q210 q211 (gt plan t15) q292))) rfl rfl rfl ?_
    refine .v (nt rfl) rfl rfl rfl ?_
    refine .nil ?_
    refine .seqN ?_
    refine .cond rfl (fun q295 => ?_) (fun q295 => ?_)
    · replace hF := hF.1 q295
      refine .exit ?_
      refine .seqX ?_
      refine .blkY rfl ?_
      refine .seqX ?_
      refine .seqX ?_
      refine .blkX ?_
      refine .seqN ?_
      refine .seq ?_
      refine .region ?_
      refine .v (mv rfl) rfl rfl rfl ?_
      refine .v (asg rfl) rfl rfl rfl ?_
      refine .nil ?_
      refine .seqN ?_
      refine .freezeL (k := 1) rfl (fun h27 le27 q297 q296 => ?_)
      refine .cast (A' := [Box pt [.int .i64 t.facts, .slice at_ t.init.length ct, .slice at_2 t.goal.length ct2, .slice at_3 t.ops.length ct3], tru]) rfl ?_
      refine .ret ?_
      refine .res1 rfl (rvT rfl) (fun w' S => ⟨out, (aout, cout), h27, hF, rfl, (FH.le_trans (FH.le_trans (le1) (q213)) (le27)), ⟨(⟨_, q212.mono (le27), q296⟩ : RSl h27 aout out), (q297)⟩, S.none⟩)
    replace hF := hF.2 q295
    refine .skip ?_
    refine .seqN ?_
    refine .seq ?_
    refine .region ?_
    refine .v (ldA (cs := [.int .i64 t.facts, .slice at_ t.init.length ct, .slice at_2 t.goal.length ct2, .slice at_3 t.ops.length ct3]) rfl tA25 rfl (cellsB (off := 0) (k := 0) rfl (m := 4) rfl)) rfl rfl rfl ?_
    refine .v (mv rfl) rfl rfl rfl ?_
    refine .v (mv rfl) rfl rfl rfl ?_
    obtain ⟨q298, hF⟩ := hF
    obtain ⟨r4, q299⟩ : ∃ y_ : List Int, y_ = sp_after t s_2 (gt plan t15) := ⟨_, rfl⟩
    replace hF := hF r4 q299
    refine clR (α := Option Addr × Nat) (Φ := fun h1 z => RSl h1 z.1 r4 ∧ r4.length ≤ z.2) (V := fun z => .slice z.1 r4.length z.2) Try.call95 rfl rfl (fun w S => (by rw [q299]; exact c_next S.sub t at_ ct (_q1.mono (FH.le_trans (le1) (q213))) _q2 at_2 ct2 (_q3.mono (FH.le_trans (le1) (q213))) _q4 at_3 ct3 (_q5.mono (FH.le_trans (le1) (q213))) _q6 s_2 as2 cs q210 q211 (gt plan t15) q298)) rfl (fun z h28 le28 hz => ?_)
    obtain ⟨a3, c2⟩ := z
    obtain ⟨q300, q301⟩ := hz
    refine .v (asg rfl) rfl rfl rfl ?_
    refine .nil ?_
    refine .seqN ?_
    refine .region ?_
    refine .v (mv rfl) rfl rfl rfl ?_
    refine .v (mv rfl) rfl rfl rfl ?_
    refine bs2 (cs := #[.slice a3 r4.length c2]) (pv := [(0, .slice a3 r4.length c2)]) tS36 rfl rfl (by decide) (by decide) rfl rfl rfl (fun a4 _ => ?_)
    refine .cast (A' := [OwnSl 22 1 a4 (([r4] : List (List Int)).length) 1 [.slice a3 r4.length c2], Box pt [.int .i64 t.facts, .slice at_ t.init.length ct, .slice at_2 t.goal.length ct2, .slice at_3 t.ops.length ct3], OwnSl 22 1 aout out.length cout csout]) rfl ?_
    obtain ⟨q303, hF⟩ := hF
    have q304 : out.length + ([r4] : List (List Int)).length = ((out ++ ([r4] : List (List Int)))).length := len_app rfl rfl
    have q305 := RepL.append (RepL.mono (le28) q212) (show RepL h28 ([r4] : List (List Int)) [.slice a3 r4.length c2] from ⟨[.slice a3 r4.length c2], _, rfl, ⟨a3, c2, rfl, q301, q300⟩, rfl⟩)
    refine app (k := 2) (news := [.slice a3 r4.length c2]) (cs' := (csout ++ [.slice a3 r4.length c2])) (nm := ((out ++ ([r4] : List (List Int)))).length) tS36 rfl (by decide) rfl rfl rfl (RepL.len (show RepL h28 ([r4] : List (List Int)) [.slice a3 r4.length c2] from ⟨[.slice a3 r4.length c2], _, rfl, ⟨a3, c2, rfl, q301, q300⟩, rfl⟩)) (srcS (k := 0) rfl) (RepL.one (show RepL h28 ([r4] : List (List Int)) [.slice a3 r4.length c2] from ⟨[.slice a3 r4.length c2], _, rfl, ⟨a3, c2, rfl, q301, q300⟩, rfl⟩)) (room_of q304 q303).1 (room_of q304 q303).2 q304 rfl rfl (fun a5 c3 => ?_)
    refine .cast (A' := [OwnSl 22 1 a4 (([r4] : List (List Int)).length) 1 [.slice a3 r4.length c2], Box pt [.int .i64 t.facts, .slice at_ t.init.length ct, .slice at_2 t.goal.length ct2, .slice at_3 t.ops.length ct3], OwnSl 22 1 a5 ((out ++ ([r4] : List (List Int))).length) c3 (csout ++ [.slice a3 r4.length c2])]) rfl ?_
    refine .v (asg rfl) rfl rfl rfl ?_
    refine .nil ?_
    refine .blkN ?_
    refine .seqN ?_
    refine .region ?_
    refine .v (bi rfl rfl rfl) rfl rfl rfl ?_
    refine .v (mv rfl) rfl rfl rfl ?_
    refine .nil ?_
    refine .sel0 [1, 2] (by decide) rfl ?_
    exact .round (r4, IntKind.i64.wrap (t15 + 1), (out ++ ([r4] : List (List Int))), a3, c2, a5, c3, (csout ++ [.slice a3 r4.length c2]), h28) ⟨hF.1, q300, q301, q305, (FH.le_trans (q213) (le28))⟩ hF.2 (.cons rfl (.cons rfl (.cons rfl (.cons rfl (.cons rfl (.cons rfl (.nil))))))) rfl (FH.le_refl _)
  replace hF := hF.2 q264
  refine .exit ?_
  refine .seqX ?_
  refine .seqX ?_
  refine .blkX ?_
  refine .seqN ?_
  refine .seq ?_
  refine .region ?_
  refine .v (mv rfl) rfl rfl rfl ?_
  refine .v (asg rfl) rfl rfl rfl ?_
  refine .nil ?_
  refine .seqN ?_
  refine .freezeL (k := 1) rfl (fun h29 le29 q307 q306 => ?_)
  refine .cast (A' := [Box pt [.int .i64 t.facts, .slice at_ t.init.length ct, .slice at_2 t.goal.length ct2, .slice at_3 t.ops.length ct3], tru]) rfl ?_
  refine .ret ?_
  refine .res1 rfl (rvT rfl) (fun w' S => ⟨out, (aout, cout), h29, hF, rfl, (FH.le_trans (FH.le_trans (le1) (q213)) (le29)), ⟨(⟨_, q212.mono (le29), q306⟩ : RSl h29 aout out), (q307)⟩, S.none⟩)

theorem c_srun {h : FH} {w : World} (hs : Sub h w) (t : Task) (at_ : Option Addr) (ct : Nat) (_q1 : RSl h at_ t.init) (_q2 : t.init.length ≤ ct) (at_2 : Option Addr) (ct2 : Nat) (_q3 : RSl h at_2 t.goal) (_q4 : t.goal.length ≤ ct2) (at_3 : Option Addr) (ct3 : Nat) (_q5 : RSl h at_3 t.ops) (_q6 : t.ops.length ≤ ct3) (s_ : List Int) (as_ : Option Addr) (cs_ : Nat) (_q7 : RSl h as_ s_) (_q8 : s_.length ≤ cs_) (plan : List Int) (aplan : Option Addr) (cplan : Nat) (_q9 : RSl h aplan plan) (_q10 : plan.length ≤ cplan) (hp : pre_srun t s_ plan) : Calls Try.prog 83 #[.agg #[.int .i64 t.facts, .slice at_ t.init.length ct, .slice at_2 t.goal.length ct2, .slice at_3 t.ops.length ct3], .slice as_ s_.length cs_, .slice aplan plan.length cplan] w fun e w' => ∃ (z : Option Addr × Nat) (h1 : FH), e = .returned (.slice z.1 (sp_srun t s_ plan).length z.2) ∧ FH.le h h1 ∧ (RSl h1 z.1 (sp_srun t s_ plan) ∧ (sp_srun t s_ plan).length ≤ z.2) ∧ SH (Kp.all w h) h1 w' [] :=
  (w_srun hs t at_ ct _q1 _q2 at_2 ct2 _q3 _q4 at_3 ct3 _q5 _q6 s_ as_ cs_ _q7 _q8 plan aplan cplan _q9 _q10 (fun r => r = sp_srun t s_ plan) (ok_srun t s_ plan hp)).mono fun _ _ ⟨r, z, h1, hk, he, hl, hf, hS⟩ => by subst hk; exact ⟨z, h1, he, hl, hf, hS⟩

theorem w_works {h : FH} {w : World} (hs : Sub h w) (t : Task) (at_ : Option Addr) (ct : Nat) (_q1 : RSl h at_ t.init) (_q2 : t.init.length ≤ ct) (at_2 : Option Addr) (ct2 : Nat) (_q3 : RSl h at_2 t.goal) (_q4 : t.goal.length ≤ ct2) (at_3 : Option Addr) (ct3 : Nat) (_q5 : RSl h at_3 t.ops) (_q6 : t.ops.length ≤ ct3) (s_ : List Int) (as_ : Option Addr) (cs_ : Nat) (_q7 : RSl h as_ s_) (_q8 : s_.length ≤ cs_) (plan : List Int) (aplan : Option Addr) (cplan : Nat) (_q9 : RSl h aplan plan) (_q10 : plan.length ≤ cplan) (K : Bool → Prop) (hF : F_works t s_ plan K) : Calls Try.prog 53 #[.agg #[.int .i64 t.facts, .slice at_ t.init.length ct, .slice at_2 t.goal.length ct2, .slice at_3 t.ops.length ct3], .slice as_ s_.length cs_, .slice aplan plan.length cplan] w fun e w' => ∃ r : Bool, K r ∧ e = .returned (.bool r) ∧ Below w.heap.size w w' := by
  refine enter (args := [.agg #[.int .i64 t.facts, .slice at_ t.init.length ct, .slice at_2 t.goal.length ct2, .slice at_3 t.ops.length ct3], .slice as_ s_.length cs_, .slice aplan plan.length cplan]) Try.func53 rfl Try.ntmps53 rfl hs ?_
  refine .seq ?_
  refine .region ?_
  refine bx (vs := [.int .i64 t.facts, .slice at_ t.init.length ct, .slice at_2 t.goal.length ct2, .slice at_3 t.ops.length ct3]) rfl rfl rfl (fun pt => ?_)
  refine .v (asg rfl) rfl rfl rfl ?_
  refine .nil ?_
  refine .seqN ?_
  refine .seq ?_
  refine .region ?_
  refine .v (ldA (cs := [.int .i64 t.facts, .slice at_ t.init.length ct, .slice at_2 t.goal.length ct2, .slice at_3 t.ops.length ct3]) rfl tA25 rfl (cellsB (off := 0) (k := 0) rfl (m := 4) rfl)) rfl rfl rfl ?_
  refine .v (mv rfl) rfl rfl rfl ?_
  refine .v (mv rfl) rfl rfl rfl ?_
  obtain ⟨q11, hF⟩ := hF
  obtain ⟨r2, q12⟩ : ∃ y_ : List (List Int), y_ = sp_srun t s_ plan := ⟨_, rfl⟩
  replace hF := hF r2 q12
  refine clR (α := Option Addr × Nat) (Φ := fun h1 z => RSl h1 z.1 r2 ∧ r2.length ≤ z.2) (V := fun z => .slice z.1 r2.length z.2) Try.call83 rfl rfl (fun w S => (by rw [q12]; exact c_srun S.sub t at_ ct _q1 _q2 at_2 ct2 _q3 _q4 at_3 ct3 _q5 _q6 s_ as_ cs_ _q7 _q8 plan aplan cplan _q9 _q10 q11)) rfl (fun z h1 le1 hz => ?_)
  obtain ⟨a, c⟩ := z
  obtain ⟨q13, q14⟩ := hz
  refine .v (asg rfl) rfl rfl rfl ?_
  refine .nil ?_
  refine .seqN ?_
  refine .seq ?_
  refine .open_ (by kernel_rfl) (by kernel_rfl) ?_
  refine .v (mv rfl) rfl rfl rfl ?_
  refine .v (ln rfl tS36.is) rfl rfl rfl ?_
  refine .v (mv rfl) rfl rfl rfl ?_
  refine .v (ln rfl tS22.is) rfl rfl rfl ?_
  refine .v (bi rfl rfl rfl) rfl rfl rfl ?_
  obtain ⟨x, q23⟩ : ∃ y_ : Bool, y_ = (((r2.length : Nat) : Int) == (IntKind.i64.wrap (((plan.length : Nat) : Int) + 1))) := ⟨_, rfl⟩
  replace hF := hF x q23
  refine .v (v := .bool x) (by rw [q23]; exact bi rfl rfl rfl) rfl rfl rfl ?_
  refine .v (mv rfl) rfl rfl rfl ?_
  rcases Bool.eq_false_or_eq_true (x) with q24 | q24
  · replace hF := hF.1 q24
    refine .gv (mv rfl) rfl rfl rfl q24 rfl rfl ?_
    refine .gv (mv rfl) rfl rfl rfl q24 rfl rfl ?_
    refine .gv (ln rfl tS22.is) rfl rfl rfl q24 rfl rfl ?_
    obtain ⟨q25, hF⟩ := hF
    refine .gv (ix rfl rfl tS36 (q13.ne (by decide) (inb_pos q25)) q25) rfl rfl rfl q24 rfl rfl ?_
    obtain ⟨_, ⟨a2, c2, rfl, q26, q27⟩, q28⟩ := q13.elem q25
    refine .gv (ld1 (v := .slice a2 ((gt r2 ((plan.length : Nat) : Int)).length) c2) rfl tO22 (cellH (q28 (by decide) 0 _ rfl))) rfl rfl rfl q24 rfl rfl ?_
    refine .gv (fa rfl tF25_2) rfl rfl rfl q24 rfl rfl ?_
    refine .gv (ld1 rfl tO22 (cellB (off := 2) (k := 0) rfl rfl)) rfl rfl rfl q24 rfl rfl ?_
    obtain ⟨q29, hF⟩ := hF
    obtain ⟨r3, q30⟩ : ∃ y_ : Bool, y_ = sp_contains2 (gt r2 ((plan.length : Nat) : Int)) t.goal := ⟨_, rfl⟩
    replace hF := hF r3 q30
    refine .gc (cl (v := .bool r3) Try.call61 rfl rfl (fun w S => (by rw [q30]; exact c_contains2 S.sub (gt r2 ((plan.length : Nat) : Int)) a2 c2 q27 q26 t.goal at_2 ct2 (_q3.mono (le1)) _q4 q29))) rfl rfl rfl q24 rfl rfl ?_
    refine .v (pkT rfl q24 rfl) rfl rfl rfl ?_
    refine .v (asg rfl) rfl rfl rfl ?_
    refine .fin ?_
    refine .seqN ?_
    refine .ret ?_
    refine .res1 rfl (rvT rfl) (fun w' S => ⟨r3, hF, rfl, S.below⟩)
  replace hF := hF.2 q24
  refine .gS rfl rfl rfl q24 rfl rfl ?_
  refine .gS rfl rfl rfl q24 rfl rfl ?_
  refine .gS rfl rfl rfl q24 rfl rfl ?_
  refine .gS rfl rfl rfl q24 rfl rfl ?_
  refine .gS rfl rfl rfl q24 rfl rfl ?_
  refine .gS rfl rfl rfl q24 rfl rfl ?_
  refine .gS rfl rfl rfl q24 rfl rfl ?_
  refine .gS rfl rfl rfl q24 rfl rfl ?_
  refine .v (pkF rfl q24 rfl) rfl rfl rfl ?_
  refine .v (asg rfl) rfl rfl rfl ?_
  refine .fin ?_
  refine .seqN ?_
  refine .ret ?_
  refine .res1 rfl (rvT rfl) (fun w' S => ⟨false, hF, rfl, S.below⟩)

theorem c_works {h : FH} {w : World} (hs : Sub h w) (t : Task) (at_ : Option Addr) (ct : Nat) (_q1 : RSl h at_ t.init) (_q2 : t.init.length ≤ ct) (at_2 : Option Addr) (ct2 : Nat) (_q3 : RSl h at_2 t.goal) (_q4 : t.goal.length ≤ ct2) (at_3 : Option Addr) (ct3 : Nat) (_q5 : RSl h at_3 t.ops) (_q6 : t.ops.length ≤ ct3) (s_ : List Int) (as_ : Option Addr) (cs_ : Nat) (_q7 : RSl h as_ s_) (_q8 : s_.length ≤ cs_) (plan : List Int) (aplan : Option Addr) (cplan : Nat) (_q9 : RSl h aplan plan) (_q10 : plan.length ≤ cplan) (hp : pre_works t s_ plan) : Calls Try.prog 53 #[.agg #[.int .i64 t.facts, .slice at_ t.init.length ct, .slice at_2 t.goal.length ct2, .slice at_3 t.ops.length ct3], .slice as_ s_.length cs_, .slice aplan plan.length cplan] w fun e w' => e = .returned (.bool (sp_rworks t s_ plan)) ∧ Below w.heap.size w w' :=
  (w_works hs t at_ ct _q1 _q2 at_2 ct2 _q3 _q4 at_3 ct3 _q5 _q6 s_ as_ cs_ _q7 _q8 plan aplan cplan _q9 _q10 (fun r => r = sp_rworks t s_ plan) (ok_works t s_ plan hp)).mono fun _ _ ⟨_, hk, he, hb⟩ => ⟨by rw [he, hk], hb⟩

theorem w_solves {h : FH} {w : World} (hs : Sub h w) (t : Task) (at_ : Option Addr) (ct : Nat) (_q1 : RSl h at_ t.init) (_q2 : t.init.length ≤ ct) (at_2 : Option Addr) (ct2 : Nat) (_q3 : RSl h at_2 t.goal) (_q4 : t.goal.length ≤ ct2) (at_3 : Option Addr) (ct3 : Nat) (_q5 : RSl h at_3 t.ops) (_q6 : t.ops.length ≤ ct3) (plan : List Int) (aplan : Option Addr) (cplan : Nat) (_q7 : RSl h aplan plan) (_q8 : plan.length ≤ cplan) (K : (Bool × Fault) → Prop) (hF : F_solves t plan K) : Calls Try.prog 31 #[.agg #[.int .i64 t.facts, .slice at_ t.init.length ct, .slice at_2 t.goal.length ct2, .slice at_3 t.ops.length ct3], .slice aplan plan.length cplan] w fun e w' => ∃ r : Bool × Fault, K r ∧ e = .returned (.tuple #[.bool r.1, .agg #[.int .i64 r.2.code, .int .i64 r.2.index]]) ∧ Below w.heap.size w w' := by
  refine enter (args := [.agg #[.int .i64 t.facts, .slice at_ t.init.length ct, .slice at_2 t.goal.length ct2, .slice at_3 t.ops.length ct3], .slice aplan plan.length cplan]) Try.func31 rfl Try.ntmps31 rfl hs ?_
  refine .seq ?_
  refine .region ?_
  refine bx (vs := [.int .i64 t.facts, .slice at_ t.init.length ct, .slice at_2 t.goal.length ct2, .slice at_3 t.ops.length ct3]) rfl rfl rfl (fun pt => ?_)
  refine .v (asg rfl) rfl rfl rfl ?_
  refine al tZ28 rfl (fun pv => ?_)
  refine .nil ?_
  refine .seqN ?_
  refine .seq ?_
  refine .seq ?_
  refine .region ?_
  refine .v (ldA (cs := [.int .i64 t.facts, .slice at_ t.init.length ct, .slice at_2 t.goal.length ct2, .slice at_3 t.ops.length ct3]) rfl tA25 rfl (cellsB (off := 0) (k := 1) rfl (m := 4) rfl)) rfl rfl rfl ?_
  refine .v (mv rfl) rfl rfl rfl ?_
  obtain ⟨r2, q9⟩ : ∃ y_ : Fault, y_ = sp_planFault t plan := ⟨_, rfl⟩
  replace hF := hF r2 q9
  refine .c (cl (v := .agg #[.int .i64 r2.code, .int .i64 r2.index]) Try.call49 rfl rfl (fun w S => (by rw [q9]; exact c_planFault S.sub t at_ ct _q1 _q2 at_2 ct2 _q3 _q4 at_3 ct3 _q5 _q6 plan aplan cplan _q7 _q8 ))) rfl rfl rfl ?_
  refine al tZ28 rfl (fun pf => ?_)
  refine st (p := pf) (off := 0) (k := 0) (vs := [.int .i64 r2.code, .int .i64 r2.index]) rfl rfl rfl (fun w => (tA28 w).2) rfl rfl rfl rfl ?_
  refine .cast (A' := [Box pf [.int .i64 r2.code, .int .i64 r2.index], Box pv [.int .i64 0, .int .i64 0], Box pt [.int .i64 t.facts, .slice at_ t.init.length ct, .slice at_2 t.goal.length ct2, .slice at_3 t.ops.length ct3]]) rfl ?_
  refine .nil ?_
  refine .seqN ?_
  refine .seq ?_
  refine .region ?_
  refine .v (ldA (cs := [.int .i64 r2.code, .int .i64 r2.index]) rfl tA28 rfl (cellsB (off := 0) (k := 0) rfl (m := 2) rfl)) rfl rfl rfl ?_
  refine .v (bld (cs := #[.int .i64 0, .int .i64 0]) (pv := []) tB28 rfl rfl) rfl rfl rfl ?_
  refine .v (ne2 tE28 rfl rfl) rfl rfl rfl ?_
  refine .nil ?_
  refine .seqN ?_
  refine .cond rfl (fun q11 => ?_) (fun q11 => ?_)
  · replace hF := hF.1 q11
    refine .seq ?_
    refine .openL (by kernel_rfl) rfl (by kernel_rfl) (by kernel_rfl) ?_
    refine .v (ldA (cs := [.int .i64 r2.code, .int .i64 r2.index]) rfl tA28 rfl (cellsB (off := 0) (k := 0) rfl (m := 2) rfl)) rfl rfl rfl ?_
    refine .v (asg rfl) rfl rfl rfl ?_
    refine .tail ?_
    refine st (p := pv) (off := 0) (k := 1) (vs := [.int .i64 r2.code, .int .i64 r2.index]) rfl rfl rfl (fun w => (tA28 w).2) rfl rfl rfl rfl ?_
    refine .cast (A' := [Box pf [.int .i64 r2.code, .int .i64 r2.index], Box pv [.int .i64 r2.code, .int .i64 r2.index], Box pt [.int .i64 t.facts, .slice at_ t.init.length ct, .slice at_2 t.goal.length ct2, .slice at_3 t.ops.length ct3]]) rfl ?_
    refine .nil ?_
    refine .seqN ?_
    refine .ret ?_
    refine .seqR ?_
    refine .res2 rfl (rvT rfl) (rvC rfl tA28 (k := 1) rfl rfl) (fun w' S => ⟨(false, r2), hF, rfl, S.below⟩)
  replace hF := hF.2 q11
  refine .skip ?_
  refine .seqN ?_
  refine .seq ?_
  refine .region ?_
  refine .v (ldA (cs := [.int .i64 t.facts, .slice at_ t.init.length ct, .slice at_2 t.goal.length ct2, .slice at_3 t.ops.length ct3]) rfl tA25 rfl (cellsB (off := 0) (k := 2) rfl (m := 4) rfl)) rfl rfl rfl ?_
  refine .v (fa rfl tF25_1) rfl rfl rfl ?_
  refine .v (ld1 rfl tO22 (cellB (off := 1) (k := 2) rfl rfl)) rfl rfl rfl ?_
  refine .v (mv rfl) rfl rfl rfl ?_
  obtain ⟨q12, hF⟩ := hF
  obtain ⟨r3, q13⟩ : ∃ y_ : Bool, y_ = sp_rworks t t.init plan := ⟨_, rfl⟩
  replace hF := hF r3 q13
  refine .c (cl (v := .bool r3) Try.call53 rfl rfl (fun w S => (by rw [q13]; exact c_works S.sub t at_ ct _q1 _q2 at_2 ct2 _q3 _q4 at_3 ct3 _q5 _q6 t.init at_ ct _q1 _q2 plan aplan cplan _q7 _q8 q12))) rfl rfl rfl ?_
  refine .v (bld (cs := #[.int .i64 0, .int .i64 0]) (pv := []) tB28 rfl rfl) rfl rfl rfl ?_
  refine .v (asg rfl) rfl rfl rfl ?_
  refine st (p := pv) (off := 0) (k := 1) (vs := [.int .i64 0, .int .i64 0]) rfl rfl rfl (fun w => (tA28 w).2) rfl rfl rfl rfl ?_
  refine .cast (A' := [Box pf [.int .i64 r2.code, .int .i64 r2.index], Box pv [.int .i64 0, .int .i64 0], Box pt [.int .i64 t.facts, .slice at_ t.init.length ct, .slice at_2 t.goal.length ct2, .slice at_3 t.ops.length ct3]]) rfl ?_
  refine .nil ?_
  refine .seqN ?_
  refine .ret ?_
  refine .res2 rfl (rvT rfl) (rvC rfl tA28 (k := 1) rfl rfl) (fun w' S => ⟨(r3, (⟨0, 0⟩ : Fault)), hF, rfl, S.below⟩)

theorem c_solves {h : FH} {w : World} (hs : Sub h w) (t : Task) (at_ : Option Addr) (ct : Nat) (_q1 : RSl h at_ t.init) (_q2 : t.init.length ≤ ct) (at_2 : Option Addr) (ct2 : Nat) (_q3 : RSl h at_2 t.goal) (_q4 : t.goal.length ≤ ct2) (at_3 : Option Addr) (ct3 : Nat) (_q5 : RSl h at_3 t.ops) (_q6 : t.ops.length ≤ ct3) (plan : List Int) (aplan : Option Addr) (cplan : Nat) (_q7 : RSl h aplan plan) (_q8 : plan.length ≤ cplan) : Calls Try.prog 31 #[.agg #[.int .i64 t.facts, .slice at_ t.init.length ct, .slice at_2 t.goal.length ct2, .slice at_3 t.ops.length ct3], .slice aplan plan.length cplan] w fun e w' => e = .returned (.tuple #[.bool (sp_solves t plan).1, .agg #[.int .i64 (sp_solves t plan).2.code, .int .i64 (sp_solves t plan).2.index]]) ∧ Below w.heap.size w w' :=
  (w_solves hs t at_ ct _q1 _q2 at_2 ct2 _q3 _q4 at_3 ct3 _q5 _q6 plan aplan cplan _q7 _q8 (fun r => r = sp_solves t plan) (ok_solves t plan)).mono fun _ _ ⟨_, hk, he, hb⟩ => ⟨by rw [he, hk], hb⟩

set_option maxHeartbeats 8000000 in
theorem w_interfere {h : FH} {w : World} (hs : Sub h w) (t : Task) (at_ : Option Addr) (ct : Nat) (_q1 : RSl h at_ t.init) (_q2 : t.init.length ≤ ct) (at_2 : Option Addr) (ct2 : Nat) (_q3 : RSl h at_2 t.goal) (_q4 : t.goal.length ≤ ct2) (at_3 : Option Addr) (ct3 : Nat) (_q5 : RSl h at_3 t.ops) (_q6 : t.ops.length ≤ ct3) (a : Int) (b : Int) (K : Bool → Prop) (hF : F_interfere t a b K) : Calls Try.prog 54 #[.agg #[.int .i64 t.facts, .slice at_ t.init.length ct, .slice at_2 t.goal.length ct2, .slice at_3 t.ops.length ct3], .int .i64 a, .int .i64 b] w fun e w' => ∃ r : Bool, K r ∧ e = .returned (.bool r) ∧ Below w.heap.size w w' := by
  refine enter (args := [.agg #[.int .i64 t.facts, .slice at_ t.init.length ct, .slice at_2 t.goal.length ct2, .slice at_3 t.ops.length ct3], .int .i64 a, .int .i64 b]) Try.func54 rfl Try.ntmps54 rfl hs ?_
  refine .seq ?_
  refine .region ?_
  refine bx (vs := [.int .i64 t.facts, .slice at_ t.init.length ct, .slice at_2 t.goal.length ct2, .slice at_3 t.ops.length ct3]) rfl rfl rfl (fun pt => ?_)
  refine .v (asg rfl) rfl rfl rfl ?_
  refine .nil ?_
  refine .seqN ?_
  refine .share (σ := Addr × Option Addr × Nat × Option Addr × Nat × Option Addr × Nat × Addr × Option Addr × Nat × Option Addr × Nat × Option Addr × Nat) (fun z => F_interfere_J1 t a b K ∧ RSl h z.2.1 ((gt t.ops a).pre) ∧ ((gt t.ops a).pre).length ≤ z.2.2.1 ∧ RSl h z.2.2.2.1 ((gt t.ops a).add) ∧ ((gt t.ops a).add).length ≤ z.2.2.2.2.1 ∧ RSl h z.2.2.2.2.2.1 ((gt t.ops a).del) ∧ ((gt t.ops a).del).length ≤ z.2.2.2.2.2.2.1 ∧ RSl h z.2.2.2.2.2.2.2.2.1 ((gt t.ops b).pre) ∧ ((gt t.ops b).pre).length ≤ z.2.2.2.2.2.2.2.2.2.1 ∧ RSl h z.2.2.2.2.2.2.2.2.2.2.1 ((gt t.ops b).add) ∧ ((gt t.ops b).add).length ≤ z.2.2.2.2.2.2.2.2.2.2.2.1 ∧ RSl h z.2.2.2.2.2.2.2.2.2.2.2.2.1 ((gt t.ops b).del) ∧ ((gt t.ops b).del).length ≤ z.2.2.2.2.2.2.2.2.2.2.2.2.2) (fun z => [(7, .pointer (some z.1)), (8, .pointer (some z.2.2.2.2.2.2.2.1))]) (fun z => [Box z.1 [.slice z.2.1 (((gt t.ops a).pre).length) z.2.2.1, .slice z.2.2.2.1 (((gt t.ops a).add).length) z.2.2.2.2.1, .slice z.2.2.2.2.2.1 (((gt t.ops a).del).length) z.2.2.2.2.2.2.1, .int .i64 ((gt t.ops a).cost)], Box z.2.2.2.2.2.2.2.1 [.slice z.2.2.2.2.2.2.2.2.1 (((gt t.ops b).pre).length) z.2.2.2.2.2.2.2.2.2.1, .slice z.2.2.2.2.2.2.2.2.2.2.1 (((gt t.ops b).add).length) z.2.2.2.2.2.2.2.2.2.2.2.1, .slice z.2.2.2.2.2.2.2.2.2.2.2.2.1 (((gt t.ops b).del).length) z.2.2.2.2.2.2.2.2.2.2.2.2.2, .int .i64 ((gt t.ops b).cost)]]) (fun _ => h) ?_ (fun q35 => ?_)
  · rintro ⟨p, ax, cx, ax2, cx2, ax3, cx3, p2, ax4, cx4, ax5, cx5, ax6, cx6⟩ ⟨hF, q23, q24, q25, q26, q27, q28, q29, q30, q31, q32, q33, q34⟩
    show J _ _ _ _ _ [(7, .pointer (some p)), (8, .pointer (some p2))] [Box p [.slice ax (((gt t.ops a).pre).length) cx, .slice ax2 (((gt t.ops a).add).length) cx2, .slice ax3 (((gt t.ops a).del).length) cx3, .int .i64 ((gt t.ops a).cost)], Box p2 [.slice ax4 (((gt t.ops b).pre).length) cx4, .slice ax5 (((gt t.ops b).add).length) cx5, .slice ax6 (((gt t.ops b).del).length) cx6, .int .i64 ((gt t.ops b).cost)]] h
    refine .seq ?_
    refine .region ?_
    refine .v (fa rfl tF89_1) rfl rfl rfl ?_
    refine .v (ld1 rfl tO22 (cellB (off := 1) (k := 0) rfl rfl)) rfl rfl rfl ?_
    refine .v (fa rfl tF89_0) rfl rfl rfl ?_
    refine .v (ld1 rfl tO22 (cellB (off := 0) (k := 1) rfl rfl)) rfl rfl rfl ?_
    obtain ⟨q53, hF⟩ := hF
    obtain ⟨r2, q54⟩ : ∃ y_ : Bool, y_ = sp_meets ((gt t.ops a).add) ((gt t.ops b).pre) := ⟨_, rfl⟩
    replace hF := hF r2 q54
    refine .c (cl (v := .bool r2) Try.call73 rfl rfl (fun w S => (by rw [q54]; exact c_meets S.sub ((gt t.ops a).add) ax2 cx2 q25 q26 ((gt t.ops b).pre) ax4 cx4 q29 q30 q53))) rfl rfl rfl ?_
    refine .v (mv rfl) rfl rfl rfl ?_
    rcases Bool.eq_false_or_eq_true (r2) with q55 | q55
    · replace hF := hF.1 q55
      refine .gS rfl rfl rfl q55 rfl rfl ?_
      refine .gS rfl rfl rfl q55 rfl rfl ?_
      refine .gS rfl rfl rfl q55 rfl rfl ?_
      refine .gS rfl rfl rfl q55 rfl rfl ?_
      refine .gS rfl rfl rfl q55 rfl rfl ?_
      refine .v (pkT rfl q55 rfl) rfl rfl rfl ?_
      refine .v (mv rfl) rfl rfl rfl ?_
      refine .gS rfl rfl rfl rfl rfl rfl ?_
      refine .gS rfl rfl rfl rfl rfl rfl ?_
      refine .gS rfl rfl rfl rfl rfl rfl ?_
      refine .gS rfl rfl rfl rfl rfl rfl ?_
      refine .gS rfl rfl rfl rfl rfl rfl ?_
      refine .v (pkT rfl rfl rfl) rfl rfl rfl ?_
      refine .v (mv rfl) rfl rfl rfl ?_
      refine .gS rfl rfl rfl rfl rfl rfl ?_
      refine .gS rfl rfl rfl rfl rfl rfl ?_
      refine .gS rfl rfl rfl rfl rfl rfl ?_
      refine .gS rfl rfl rfl rfl rfl rfl ?_
      refine .gS rfl rfl rfl rfl rfl rfl ?_
      refine .v (pkT rfl rfl rfl) rfl rfl rfl ?_
      refine .v (mv rfl) rfl rfl rfl ?_
      refine .gS rfl rfl rfl rfl rfl rfl ?_
      refine .gS rfl rfl rfl rfl rfl rfl ?_
      refine .gS rfl rfl rfl rfl rfl rfl ?_
      refine .gS rfl rfl rfl rfl rfl rfl ?_
      refine .gS rfl rfl rfl rfl rfl rfl ?_
      refine .v (pkT rfl rfl rfl) rfl rfl rfl ?_
      refine .v (mv rfl) rfl rfl rfl ?_
      refine .gS rfl rfl rfl rfl rfl rfl ?_
      refine .gS rfl rfl rfl rfl rfl rfl ?_
      refine .gS rfl rfl rfl rfl rfl rfl ?_
      refine .gS rfl rfl rfl rfl rfl rfl ?_
      refine .gS rfl rfl rfl rfl rfl rfl ?_
      refine .v (pkT rfl rfl rfl) rfl rfl rfl ?_
      refine .v (asg rfl) rfl rfl rfl ?_
      refine .nil ?_
      refine .seqN ?_
      refine .ret ?_
      refine .res1 rfl (rvT rfl) (fun w' S => ⟨true, hF, rfl, S.below⟩)
    replace hF := hF.2 q55
    refine .gv (fa rfl tF89_2) rfl rfl rfl q55 rfl rfl ?_
    refine .gv (ld1 rfl tO22 (cellB (off := 2) (k := 0) rfl rfl)) rfl rfl rfl q55 rfl rfl ?_
    refine .gv (fa rfl tF89_0) rfl rfl rfl q55 rfl rfl ?_
    refine .gv (ld1 rfl tO22 (cellB (off := 0) (k := 1) rfl rfl)) rfl rfl rfl q55 rfl rfl ?_
    obtain ⟨q56, hF⟩ := hF
    obtain ⟨r3, q57⟩ : ∃ y_ : Bool, y_ = sp_meets ((gt t.ops a).del) ((gt t.ops b).pre) := ⟨_, rfl⟩
    replace hF := hF r3 q57
    refine .gc (cl (v := .bool r3) Try.call73 rfl rfl (fun w S => (by rw [q57]; exact c_meets S.sub ((gt t.ops a).del) ax3 cx3 q27 q28 ((gt t.ops b).pre) ax4 cx4 q29 q30 q56))) rfl rfl rfl q55 rfl rfl ?_
    refine .v (pkF rfl q55 rfl) rfl rfl rfl ?_
    refine .v (mv rfl) rfl rfl rfl ?_
    rcases Bool.eq_false_or_eq_true (r3) with q58 | q58
    · replace hF := hF.1 q58
      refine .gS rfl rfl rfl q58 rfl rfl ?_
      refine .gS rfl rfl rfl q58 rfl rfl ?_
      refine .gS rfl rfl rfl q58 rfl rfl ?_
      refine .gS rfl rfl rfl q58 rfl rfl ?_
      refine .gS rfl rfl rfl q58 rfl rfl ?_
      refine .v (pkT rfl q58 rfl) rfl rfl rfl ?_
      refine .v (mv rfl) rfl rfl rfl ?_
      refine .gS rfl rfl rfl rfl rfl rfl ?_
      refine .gS rfl rfl rfl rfl rfl rfl ?_
      refine .gS rfl rfl rfl rfl rfl rfl ?_
      refine .gS rfl rfl rfl rfl rfl rfl ?_
      refine .gS rfl rfl rfl rfl rfl rfl ?_
      refine .v (pkT rfl rfl rfl) rfl rfl rfl ?_
      refine .v (mv rfl) rfl rfl rfl ?_
      refine .gS rfl rfl rfl rfl rfl rfl ?_
      refine .gS rfl rfl rfl rfl rfl rfl ?_
      refine .gS rfl rfl rfl rfl rfl rfl ?_
      refine .gS rfl rfl rfl rfl rfl rfl ?_
      refine .gS rfl rfl rfl rfl rfl rfl ?_
      refine .v (pkT rfl rfl rfl) rfl rfl rfl ?_
      refine .v (mv rfl) rfl rfl rfl ?_
      refine .gS rfl rfl rfl rfl rfl rfl ?_
      refine .gS rfl rfl rfl rfl rfl rfl ?_
      refine .gS rfl rfl rfl rfl rfl rfl ?_
      refine .gS rfl rfl rfl rfl rfl rfl ?_
      refine .gS rfl rfl rfl rfl rfl rfl ?_
      refine .v (pkT rfl rfl rfl) rfl rfl rfl ?_
      refine .v (asg rfl) rfl rfl rfl ?_
      refine .nil ?_
      refine .seqN ?_
      refine .ret ?_
      refine .res1 rfl (rvT rfl) (fun w' S => ⟨true, hF, rfl, S.below⟩)
    replace hF := hF.2 q58
    refine .gv (fa rfl tF89_1) rfl rfl rfl q58 rfl rfl ?_
    refine .gv (ld1 rfl tO22 (cellB (off := 1) (k := 1) rfl rfl)) rfl rfl rfl q58 rfl rfl ?_
    refine .gv (fa rfl tF89_0) rfl rfl rfl q58 rfl rfl ?_
    refine .gv (ld1 rfl tO22 (cellB (off := 0) (k := 0) rfl rfl)) rfl rfl rfl q58 rfl rfl ?_
    obtain ⟨q59, hF⟩ := hF
    obtain ⟨r4, q60⟩ : ∃ y_ : Bool, y_ = sp_meets ((gt t.ops b).add) ((gt t.ops a).pre) := ⟨_, rfl⟩
    replace hF := hF r4 q60
    refine .gc (cl (v := .bool r4) Try.call73 rfl rfl (fun w S => (by rw [q60]; exact c_meets S.sub ((gt t.ops b).add) ax5 cx5 q31 q32 ((gt t.ops a).pre) ax cx q23 q24 q59))) rfl rfl rfl q58 rfl rfl ?_
    refine .v (pkF rfl q58 rfl) rfl rfl rfl ?_
    refine .v (mv rfl) rfl rfl rfl ?_
    rcases Bool.eq_false_or_eq_true (r4) with q61 | q61
    · replace hF := hF.1 q61
      refine .gS rfl rfl rfl q61 rfl rfl ?_
      refine .gS rfl rfl rfl q61 rfl rfl ?_
      refine .gS rfl rfl rfl q61 rfl rfl ?_
      refine .gS rfl rfl rfl q61 rfl rfl ?_
      refine .gS rfl rfl rfl q61 rfl rfl ?_
      refine .v (pkT rfl q61 rfl) rfl rfl rfl ?_
      refine .v (mv rfl) rfl rfl rfl ?_
      refine .gS rfl rfl rfl rfl rfl rfl ?_
      refine .gS rfl rfl rfl rfl rfl rfl ?_
      refine .gS rfl rfl rfl rfl rfl rfl ?_
      refine .gS rfl rfl rfl rfl rfl rfl ?_
      refine .gS rfl rfl rfl rfl rfl rfl ?_
      refine .v (pkT rfl rfl rfl) rfl rfl rfl ?_
      refine .v (mv rfl) rfl rfl rfl ?_
      refine .gS rfl rfl rfl rfl rfl rfl ?_
      refine .gS rfl rfl rfl rfl rfl rfl ?_
      refine .gS rfl rfl rfl rfl rfl rfl ?_
      refine .gS rfl rfl rfl rfl rfl rfl ?_
      refine .gS rfl rfl rfl rfl rfl rfl ?_
      refine .v (pkT rfl rfl rfl) rfl rfl rfl ?_
      refine .v (asg rfl) rfl rfl rfl ?_
      refine .nil ?_
      refine .seqN ?_
      refine .ret ?_
      refine .res1 rfl (rvT rfl) (fun w' S => ⟨true, hF, rfl, S.below⟩)
    replace hF := hF.2 q61
    refine .gv (fa rfl tF89_2) rfl rfl rfl q61 rfl rfl ?_
    refine .gv (ld1 rfl tO22 (cellB (off := 2) (k := 1) rfl rfl)) rfl rfl rfl q61 rfl rfl ?_
    refine .gv (fa rfl tF89_0) rfl rfl rfl q61 rfl rfl ?_
    refine .gv (ld1 rfl tO22 (cellB (off := 0) (k := 0) rfl rfl)) rfl rfl rfl q61 rfl rfl ?_
    obtain ⟨q62, hF⟩ := hF
    obtain ⟨r5, q63⟩ : ∃ y_ : Bool, y_ = sp_meets ((gt t.ops b).del) ((gt t.ops a).pre) := ⟨_, rfl⟩
    replace hF := hF r5 q63
    refine .gc (cl (v := .bool r5) Try.call73 rfl rfl (fun w S => (by rw [q63]; exact c_meets S.sub ((gt t.ops b).del) ax6 cx6 q33 q34 ((gt t.ops a).pre) ax cx q23 q24 q62))) rfl rfl rfl q61 rfl rfl ?_
    refine .v (pkF rfl q61 rfl) rfl rfl rfl ?_
    refine .v (mv rfl) rfl rfl rfl ?_
    rcases Bool.eq_false_or_eq_true (r5) with q64 | q64
    · replace hF := hF.1 q64
      refine .gS rfl rfl rfl q64 rfl rfl ?_
      refine .gS rfl rfl rfl q64 rfl rfl ?_
      refine .gS rfl rfl rfl q64 rfl rfl ?_
      refine .gS rfl rfl rfl q64 rfl rfl ?_
      refine .gS rfl rfl rfl q64 rfl rfl ?_
      refine .v (pkT rfl q64 rfl) rfl rfl rfl ?_
      refine .v (mv rfl) rfl rfl rfl ?_
      refine .gS rfl rfl rfl rfl rfl rfl ?_
      refine .gS rfl rfl rfl rfl rfl rfl ?_
      refine .gS rfl rfl rfl rfl rfl rfl ?_
      refine .gS rfl rfl rfl rfl rfl rfl ?_
      refine .gS rfl rfl rfl rfl rfl rfl ?_
      refine .v (pkT rfl rfl rfl) rfl rfl rfl ?_
      refine .v (asg rfl) rfl rfl rfl ?_
      refine .nil ?_
      refine .seqN ?_
      refine .ret ?_
      refine .res1 rfl (rvT rfl) (fun w' S => ⟨true, hF, rfl, S.below⟩)
    replace hF := hF.2 q64
    refine .gv (fa rfl tF89_1) rfl rfl rfl q64 rfl rfl ?_
    refine .gv (ld1 rfl tO22 (cellB (off := 1) (k := 0) rfl rfl)) rfl rfl rfl q64 rfl rfl ?_
    refine .gv (fa rfl tF89_2) rfl rfl rfl q64 rfl rfl ?_
    refine .gv (ld1 rfl tO22 (cellB (off := 2) (k := 1) rfl rfl)) rfl rfl rfl q64 rfl rfl ?_
    obtain ⟨q65, hF⟩ := hF
    obtain ⟨r6, q66⟩ : ∃ y_ : Bool, y_ = sp_meets ((gt t.ops a).add) ((gt t.ops b).del) := ⟨_, rfl⟩
    replace hF := hF r6 q66
    refine .gc (cl (v := .bool r6) Try.call73 rfl rfl (fun w S => (by rw [q66]; exact c_meets S.sub ((gt t.ops a).add) ax2 cx2 q25 q26 ((gt t.ops b).del) ax6 cx6 q33 q34 q65))) rfl rfl rfl q64 rfl rfl ?_
    refine .v (pkF rfl q64 rfl) rfl rfl rfl ?_
    refine .v (mv rfl) rfl rfl rfl ?_
    rcases Bool.eq_false_or_eq_true (r6) with q67 | q67
    · replace hF := hF.1 q67
      refine .gS rfl rfl rfl q67 rfl rfl ?_
      refine .gS rfl rfl rfl q67 rfl rfl ?_
      refine .gS rfl rfl rfl q67 rfl rfl ?_
      refine .gS rfl rfl rfl q67 rfl rfl ?_
      refine .gS rfl rfl rfl q67 rfl rfl ?_
      refine .v (pkT rfl q67 rfl) rfl rfl rfl ?_
      refine .v (asg rfl) rfl rfl rfl ?_
      refine .nil ?_
      refine .seqN ?_
      refine .ret ?_
      refine .res1 rfl (rvT rfl) (fun w' S => ⟨true, hF, rfl, S.below⟩)
    replace hF := hF.2 q67
    refine .gv (fa rfl tF89_2) rfl rfl rfl q67 rfl rfl ?_
    refine .gv (ld1 rfl tO22 (cellB (off := 2) (k := 0) rfl rfl)) rfl rfl rfl q67 rfl rfl ?_
    refine .gv (fa rfl tF89_1) rfl rfl rfl q67 rfl rfl ?_
    refine .gv (ld1 rfl tO22 (cellB (off := 1) (k := 1) rfl rfl)) rfl rfl rfl q67 rfl rfl ?_
    obtain ⟨q68, hF⟩ := hF
    obtain ⟨r7, q69⟩ : ∃ y_ : Bool, y_ = sp_meets ((gt t.ops a).del) ((gt t.ops b).add) := ⟨_, rfl⟩
    replace hF := hF r7 q69
    refine .gc (cl (v := .bool r7) Try.call73 rfl rfl (fun w S => (by rw [q69]; exact c_meets S.sub ((gt t.ops a).del) ax3 cx3 q27 q28 ((gt t.ops b).add) ax5 cx5 q31 q32 q68))) rfl rfl rfl q67 rfl rfl ?_
    refine .v (pkF rfl q67 rfl) rfl rfl rfl ?_
    refine .v (asg rfl) rfl rfl rfl ?_
    refine .nil ?_
    refine .seqN ?_
    refine .ret ?_
    refine .res1 rfl (rvT rfl) (fun w' S => ⟨r7, hF, rfl, S.below⟩)
  obtain ⟨q70, hF⟩ := hF
  obtain ⟨_, ⟨a2, c, a3, c2, a4, c3, rfl, ⟨q71, q72⟩, ⟨q73, q74⟩, q75, q76⟩, q77⟩ := _q5.elem q70
  obtain ⟨q78, hF⟩ := hF
  obtain ⟨_, ⟨a5, c4, a6, c5, a7, c6, rfl, ⟨q79, q80⟩, ⟨q81, q82⟩, q83, q84⟩, q85⟩ := _q5.elem q78
  refine .openA (s0 := [(1, .int .i64 a), (2, .int .i64 b), (3, .pointer (some pt))]) [0, 1, 2, 3, 4, 5, 6, 7, 8, 9] [(0, .pointer (some (pt.add 3))), (1, .slice at_3 t.ops.length ct3), (2, .int .i64 a), (3, .pointer (some (ead at_3 (a.toNat * 4)))), (4, .agg #[.slice a2 ((gt t.ops a).pre.length) c, .slice a3 ((gt t.ops a).add.length) c2, .slice a4 ((gt t.ops a).del.length) c3, .int .i64 ((gt t.ops a).cost)]), (5, .pointer (some (pt.add 3))), (6, .slice at_3 t.ops.length ct3), (7, .int .i64 b), (8, .pointer (some (ead at_3 (b.toNat * 4)))), (9, .agg #[.slice a5 ((gt t.ops b).pre.length) c4, .slice a6 ((gt t.ops b).add.length) c5, .slice a7 ((gt t.ops b).del.length) c6, .int .i64 ((gt t.ops b).cost)])] (by kernel_rfl) (.cons rfl (.cons rfl (.cons rfl (.nil)))) [1, 2, 3] [] rfl (by kernel_rfl) ?_
  refine .step [10, 11] 10 rfl (by kernel_rfl) (by kernel_rfl) (.v [] rfl rfl rfl rfl rfl rfl (fun _ => fa rfl tF25_3) (.v [(9, .pointer (some (pt.add 3)))] rfl rfl rfl rfl rfl rfl (fun _ => ld1 rfl tO23 (cellB (off := 3) (k := 0) rfl rfl)) (.v [] rfl rfl rfl rfl rfl rfl (fun _ => mv rfl) (.v [(10, .slice at_3 t.ops.length ct3), (11, .int .i64 a)] rfl rfl rfl rfl rfl rfl (fun _ => ix rfl rfl tS23 (_q5.ne (by decide) (inb_pos q70)) q70) (.v [(12, .pointer (some (ead at_3 (a.toNat * 4))))] rfl rfl rfl rfl rfl rfl (fun _ => ldA (cs := [.slice a2 ((gt t.ops a).pre.length) c, .slice a3 ((gt t.ops a).add.length) c2, .slice a4 ((gt t.ops a).del.length) c3, .int .i64 ((gt t.ops a).cost)]) rfl tA89 rfl (cellsH (q77 (by decide)))) (.v [] rfl rfl rfl rfl rfl rfl (fun _ => fa rfl tF25_3) (.v [(14, .pointer (some (pt.add 3)))] rfl rfl rfl rfl rfl rfl (fun _ => ld1 rfl tO23 (cellB (off := 3) (k := 0) rfl rfl)) (.v [] rfl rfl rfl rfl rfl rfl (fun _ => mv rfl) (.v [(15, .slice at_3 t.ops.length ct3), (16, .int .i64 b)] rfl rfl rfl rfl rfl rfl (fun _ => ix rfl rfl tS23 (_q5.ne (by decide) (inb_pos q78)) q78) (.v [(17, .pointer (some (ead at_3 (b.toNat * 4))))] rfl rfl rfl rfl rfl rfl (fun _ => ldA (cs := [.slice a5 ((gt t.ops b).pre.length) c4, .slice a6 ((gt t.ops b).add.length) c5, .slice a7 ((gt t.ops b).del.length) c6, .int .i64 ((gt t.ops b).cost)]) rfl tA89 rfl (cellsH (q85 (by decide)))) (.nil))))))))))) (.cons [] rfl rfl (fun sL hL => ?_) (.cons [] rfl rfl (fun sL hL => ?_) (.nil)))
  · refine al tZ89 rfl (fun px => ?_)
    refine .nil ?_
    refine .ja (M := []) (C' := [0, 1, 2, 3, 4, 5, 6, 7, 8, 9]) (pre := [(10, .pointer (some px))]) [(1, .int .i64 a), (2, .int .i64 b), (3, .pointer (some pt))] [1, 2, 3] hL rfl rfl rfl rfl rfl (.cons rfl (.cons rfl (.cons rfl (.nil)))) rfl rfl (by kernel_rfl) ?_
    refine .step [11] 11 rfl (by kernel_rfl) (by kernel_rfl) (.v [] rfl rfl rfl rfl rfl rfl (fun _ => fa rfl tF25_3) (.v [(9, .pointer (some (pt.add 3)))] rfl rfl rfl rfl rfl rfl (fun _ => ld1 rfl tO23 (cellB (off := 3) (k := 1) rfl rfl)) (.v [] rfl rfl rfl rfl rfl rfl (fun _ => mv rfl) (.v [(10, .slice at_3 t.ops.length ct3), (11, .int .i64 a)] rfl rfl rfl rfl rfl rfl (fun _ => ix rfl rfl tS23 (_q5.ne (by decide) (inb_pos q70)) q70) (.v [(12, .pointer (some (ead at_3 (a.toNat * 4))))] rfl rfl rfl rfl rfl rfl (fun _ => ldA (cs := [.slice a2 ((gt t.ops a).pre.length) c, .slice a3 ((gt t.ops a).add.length) c2, .slice a4 ((gt t.ops a).del.length) c3, .int .i64 ((gt t.ops a).cost)]) rfl tA89 rfl (cellsH (q77 (by decide)))) (.v [] rfl rfl rfl rfl rfl rfl (fun _ => fa rfl tF25_3) (.v [(14, .pointer (some (pt.add 3)))] rfl rfl rfl rfl rfl rfl (fun _ => ld1 rfl tO23 (cellB (off := 3) (k := 1) rfl rfl)) (.v [] rfl rfl rfl rfl rfl rfl (fun _ => mv rfl) (.v [(15, .slice at_3 t.ops.length ct3), (16, .int .i64 b)] rfl rfl rfl rfl rfl rfl (fun _ => ix rfl rfl tS23 (_q5.ne (by decide) (inb_pos q78)) q78) (.v [(17, .pointer (some (ead at_3 (b.toNat * 4))))] rfl rfl rfl rfl rfl rfl (fun _ => ldA (cs := [.slice a5 ((gt t.ops b).pre.length) c4, .slice a6 ((gt t.ops b).add.length) c5, .slice a7 ((gt t.ops b).del.length) c6, .int .i64 ((gt t.ops b).cost)]) rfl tA89 rfl (cellsH (q85 (by decide)))) (.nil))))))))))) (.cons [] rfl rfl (fun sL hL => ?_) (.nil))
    refine al tZ89 rfl (fun py => ?_)
    refine .nil ?_
    refine .ja (M := []) (C' := [0, 1, 2, 3, 4, 5, 6, 7, 8, 9]) (pre := [(11, .pointer (some py))]) [(1, .int .i64 a), (2, .int .i64 b), (3, .pointer (some pt))] [1, 2, 3] hL rfl rfl rfl rfl rfl (.cons rfl (.cons rfl (.cons rfl (.nil)))) rfl rfl (by kernel_rfl) ?_
    refine .step [12] 12 rfl (by kernel_rfl) (by kernel_rfl) (.v [] rfl rfl rfl rfl rfl rfl (fun _ => fa rfl tF25_3) (.v [(9, .pointer (some (pt.add 3)))] rfl rfl rfl rfl rfl rfl (fun _ => ld1 rfl tO23 (cellB (off := 3) (k := 2) rfl rfl)) (.v [] rfl rfl rfl rfl rfl rfl (fun _ => mv rfl) (.v [(10, .slice at_3 t.ops.length ct3), (11, .int .i64 a)] rfl rfl rfl rfl rfl rfl (fun _ => ix rfl rfl tS23 (_q5.ne (by decide) (inb_pos q70)) q70) (.v [(12, .pointer (some (ead at_3 (a.toNat * 4))))] rfl rfl rfl rfl rfl rfl (fun _ => ldA (cs := [.slice a2 ((gt t.ops a).pre.length) c, .slice a3 ((gt t.ops a).add.length) c2, .slice a4 ((gt t.ops a).del.length) c3, .int .i64 ((gt t.ops a).cost)]) rfl tA89 rfl (cellsH (q77 (by decide)))) (.v [] rfl rfl rfl rfl rfl rfl (fun _ => fa rfl tF25_3) (.v [(14, .pointer (some (pt.add 3)))] rfl rfl rfl rfl rfl rfl (fun _ => ld1 rfl tO23 (cellB (off := 3) (k := 2) rfl rfl)) (.v [] rfl rfl rfl rfl rfl rfl (fun _ => mv rfl) (.v [(15, .slice at_3 t.ops.length ct3), (16, .int .i64 b)] rfl rfl rfl rfl rfl rfl (fun _ => ix rfl rfl tS23 (_q5.ne (by decide) (inb_pos q78)) q78) (.v [(17, .pointer (some (ead at_3 (b.toNat * 4))))] rfl rfl rfl rfl rfl rfl (fun _ => ldA (cs := [.slice a5 ((gt t.ops b).pre.length) c4, .slice a6 ((gt t.ops b).add.length) c5, .slice a7 ((gt t.ops b).del.length) c6, .int .i64 ((gt t.ops b).cost)]) rfl tA89 rfl (cellsH (q85 (by decide)))) (.nil))))))))))) (.cons [(7, .pointer (some px)), (13, .agg #[.slice a2 ((gt t.ops a).pre.length) c, .slice a3 ((gt t.ops a).add.length) c2, .slice a4 ((gt t.ops a).del.length) c3, .int .i64 ((gt t.ops a).cost)]), (9, .pointer (some (pt.add 3))), (10, .slice at_3 t.ops.length ct3), (11, .int .i64 a), (12, .pointer (some (ead at_3 (a.toNat * 4)))), (13, .agg #[.slice a2 ((gt t.ops a).pre.length) c, .slice a3 ((gt t.ops a).add.length) c2, .slice a4 ((gt t.ops a).del.length) c3, .int .i64 ((gt t.ops a).cost)]), (7, .pointer (some px)), (8, .pointer (some py))] rfl rfl (fun sL hL => ?_) (.nil))
    refine st (p := px) (off := 0) (k := 1) (vs := [.slice a2 ((gt t.ops a).pre.length) c, .slice a3 ((gt t.ops a).add.length) c2, .slice a4 ((gt t.ops a).del.length) c3, .int .i64 ((gt t.ops a).cost)]) rfl rfl rfl (fun w => (tA89 w).2) rfl rfl rfl rfl ?_
    refine .cast (A' := [Box py [.slice none 0 0, .slice none 0 0, .slice none 0 0, .int .i64 0], Box px [.slice a2 ((gt t.ops a).pre.length) c, .slice a3 ((gt t.ops a).add.length) c2, .slice a4 ((gt t.ops a).del.length) c3, .int .i64 ((gt t.ops a).cost)], Box pt [.int .i64 t.facts, .slice at_ t.init.length ct, .slice at_2 t.goal.length ct2, .slice at_3 t.ops.length ct3]]) rfl ?_
    refine .nil ?_
    refine .jaN (M := [4, 0, 1, 2, 3]) (C' := [5, 6, 7, 8, 9]) (pre := []) [1, 2, 3] hL rfl rfl rfl rfl rfl (by kernel_rfl) ?_
    refine .step [13] 13 rfl (by kernel_rfl) (by kernel_rfl) (.v [] rfl rfl rfl rfl rfl rfl (fun _ => fa rfl tF25_3) (.v [(14, .pointer (some (pt.add 3)))] rfl rfl rfl rfl rfl rfl (fun _ => ld1 rfl tO23 (cellB (off := 3) (k := 2) rfl rfl)) (.v [] rfl rfl rfl rfl rfl rfl (fun _ => mv rfl) (.v [(15, .slice at_3 t.ops.length ct3), (16, .int .i64 b)] rfl rfl rfl rfl rfl rfl (fun _ => ix rfl rfl tS23 (_q5.ne (by decide) (inb_pos q78)) q78) (.v [(17, .pointer (some (ead at_3 (b.toNat * 4))))] rfl rfl rfl rfl rfl rfl (fun _ => ldA (cs := [.slice a5 ((gt t.ops b).pre.length) c4, .slice a6 ((gt t.ops b).add.length) c5, .slice a7 ((gt t.ops b).del.length) c6, .int .i64 ((gt t.ops b).cost)]) rfl tA89 rfl (cellsH (q85 (by decide)))) (.nil)))))) (.cons [(8, .pointer (some py)), (18, .agg #[.slice a5 ((gt t.ops b).pre.length) c4, .slice a6 ((gt t.ops b).add.length) c5, .slice a7 ((gt t.ops b).del.length) c6, .int .i64 ((gt t.ops b).cost)]), (9, .pointer (some (pt.add 3))), (10, .slice at_3 t.ops.length ct3), (11, .int .i64 a), (12, .pointer (some (ead at_3 (a.toNat * 4)))), (13, .agg #[.slice a2 ((gt t.ops a).pre.length) c, .slice a3 ((gt t.ops a).add.length) c2, .slice a4 ((gt t.ops a).del.length) c3, .int .i64 ((gt t.ops a).cost)]), (14, .pointer (some (pt.add 3))), (15, .slice at_3 t.ops.length ct3), (16, .int .i64 b), (17, .pointer (some (ead at_3 (b.toNat * 4)))), (18, .agg #[.slice a5 ((gt t.ops b).pre.length) c4, .slice a6 ((gt t.ops b).add.length) c5, .slice a7 ((gt t.ops b).del.length) c6, .int .i64 ((gt t.ops b).cost)]), (7, .pointer (some px)), (8, .pointer (some py))] rfl rfl (fun sL hL => ?_) (.nil))
    refine st (p := py) (off := 0) (k := 0) (vs := [.slice a5 ((gt t.ops b).pre.length) c4, .slice a6 ((gt t.ops b).add.length) c5, .slice a7 ((gt t.ops b).del.length) c6, .int .i64 ((gt t.ops b).cost)]) rfl rfl rfl (fun w => (tA89 w).2) rfl rfl rfl rfl ?_
    refine .cast (A' := [Box py [.slice a5 ((gt t.ops b).pre.length) c4, .slice a6 ((gt t.ops b).add.length) c5, .slice a7 ((gt t.ops b).del.length) c6, .int .i64 ((gt t.ops b).cost)], Box px [.slice a2 ((gt t.ops a).pre.length) c, .slice a3 ((gt t.ops a).add.length) c2, .slice a4 ((gt t.ops a).del.length) c3, .int .i64 ((gt t.ops a).cost)], Box pt [.int .i64 t.facts, .slice at_ t.init.length ct, .slice at_2 t.goal.length ct2, .slice at_3 t.ops.length ct3]]) rfl ?_
    refine .nil ?_
    refine .jaN (M := [9, 5, 6, 7, 8]) (C' := []) (pre := []) [1, 2, 3] hL rfl rfl rfl rfl rfl (by kernel_rfl) ?_
    refine .last [(9, .pointer (some (pt.add 3))), (10, .slice at_3 t.ops.length ct3), (11, .int .i64 a), (12, .pointer (some (ead at_3 (a.toNat * 4)))), (13, .agg #[.slice a2 ((gt t.ops a).pre.length) c, .slice a3 ((gt t.ops a).add.length) c2, .slice a4 ((gt t.ops a).del.length) c3, .int .i64 ((gt t.ops a).cost)]), (14, .pointer (some (pt.add 3))), (15, .slice at_3 t.ops.length ct3), (16, .int .i64 b), (17, .pointer (some (ead at_3 (b.toNat * 4)))), (18, .agg #[.slice a5 ((gt t.ops b).pre.length) c4, .slice a6 ((gt t.ops b).add.length) c5, .slice a7 ((gt t.ops b).del.length) c6, .int .i64 ((gt t.ops b).cost)]), (7, .pointer (some px)), (8, .pointer (some py))] rfl (by kernel_rfl) (.nil) rfl ?_
    refine .sel0 [1, 0] (by decide) rfl ?_
    exact .use q35 (px, a2, c, a3, c2, a4, c3, py, a5, c4, a6, c5, a7, c6) ⟨hF, q72, q71, q74, q73, q76, q75, q80, q79, q82, q81, q84, q83⟩ (.cons rfl (.cons rfl (.nil))) rfl (FH.le_refl _)
  · refine al tZ89 rfl (fun py => ?_)
    refine .nil ?_
    refine .ja (M := []) (C' := [0, 1, 2, 3, 4, 5, 6, 7, 8, 9]) (pre := [(11, .pointer (some py))]) [(1, .int .i64 a), (2, .int .i64 b), (3, .pointer (some pt))] [1, 2, 3] hL rfl rfl rfl rfl rfl (.cons rfl (.cons rfl (.cons rfl (.nil)))) rfl rfl (by kernel_rfl) ?_
    refine .step [10] 10 rfl (by kernel_rfl) (by kernel_rfl) (.v [] rfl rfl rfl rfl rfl rfl (fun _ => fa rfl tF25_3) (.v [(9, .pointer (some (pt.add 3)))] rfl rfl rfl rfl rfl rfl (fun _ => ld1 rfl tO23 (cellB (off := 3) (k := 1) rfl rfl)) (.v [] rfl rfl rfl rfl rfl rfl (fun _ => mv rfl) (.v [(10, .slice at_3 t.ops.length ct3), (11, .int .i64 a)] rfl rfl rfl rfl rfl rfl (fun _ => ix rfl rfl tS23 (_q5.ne (by decide) (inb_pos q70)) q70) (.v [(12, .pointer (some (ead at_3 (a.toNat * 4))))] rfl rfl rfl rfl rfl rfl (fun _ => ldA (cs := [.slice a2 ((gt t.ops a).pre.length) c, .slice a3 ((gt t.ops a).add.length) c2, .slice a4 ((gt t.ops a).del.length) c3, .int .i64 ((gt t.ops a).cost)]) rfl tA89 rfl (cellsH (q77 (by decide)))) (.v [] rfl rfl rfl rfl rfl rfl (fun _ => fa rfl tF25_3) (.v [(14, .pointer (some (pt.add 3)))] rfl rfl rfl rfl rfl rfl (fun _ => ld1 rfl tO23 (cellB (off := 3) (k := 1) rfl rfl)) (.v [] rfl rfl rfl rfl rfl rfl (fun _ => mv rfl) (.v [(15, .slice at_3 t.ops.length ct3), (16, .int .i64 b)] rfl rfl rfl rfl rfl rfl (fun _ => ix rfl rfl tS23 (_q5.ne (by decide) (inb_pos q78)) q78) (.v [(17, .pointer (some (ead at_3 (b.toNat * 4))))] rfl rfl rfl rfl rfl rfl (fun _ => ldA (cs := [.slice a5 ((gt t.ops b).pre.length) c4, .slice a6 ((gt t.ops b).add.length) c5, .slice a7 ((gt t.ops b).del.length) c6, .int .i64 ((gt t.ops b).cost)]) rfl tA89 rfl (cellsH (q85 (by decide)))) (.nil))))))))))) (.cons [] rfl rfl (fun sL hL => ?_) (.nil))
    refine al tZ89 rfl (fun px => ?_)
    refine .nil ?_
    refine .ja (M := []) (C' := [0, 1, 2, 3, 4, 5, 6, 7, 8, 9]) (pre := [(10, .pointer (some px))]) [(1, .int .i64 a), (2, .int .i64 b), (3, .pointer (some pt))] [1, 2, 3] hL rfl rfl rfl rfl rfl (.cons rfl (.cons rfl (.cons rfl (.nil)))) rfl rfl (by kernel_rfl) ?_
    refine .step [12] 12 rfl (by kernel_rfl) (by kernel_rfl) (.v [] rfl rfl rfl rfl rfl rfl (fun _ => fa rfl tF25_3) (.v [(9, .pointer (some (pt.add 3)))] rfl rfl rfl rfl rfl rfl (fun _ => ld1 rfl tO23 (cellB (off := 3) (k := 2) rfl rfl)) (.v [] rfl rfl rfl rfl rfl rfl (fun _ => mv rfl) (.v [(10, .slice at_3 t.ops.length ct3), (11, .int .i64 a)] rfl rfl rfl rfl rfl rfl (fun _ => ix rfl rfl tS23 (_q5.ne (by decide) (inb_pos q70)) q70) (.v [(12, .pointer (some (ead at_3 (a.toNat * 4))))] rfl rfl rfl rfl rfl rfl (fun _ => ldA (cs := [.slice a2 ((gt t.ops a).pre.length) c, .slice a3 ((gt t.ops a).add.length) c2, .slice a4 ((gt t.ops a).del.length) c3, .int .i64 ((gt t.ops a).cost)]) rfl tA89 rfl (cellsH (q77 (by decide)))) (.v [] rfl rfl rfl rfl rfl rfl (fun _ => fa rfl tF25_3) (.v [(14, .pointer (some (pt.add 3)))] rfl rfl rfl rfl rfl rfl (fun _ => ld1 rfl tO23 (cellB (off := 3) (k := 2) rfl rfl)) (.v [] rfl rfl rfl rfl rfl rfl (fun _ => mv rfl) (.v [(15, .slice at_3 t.ops.length ct3), (16, .int .i64 b)] rfl rfl rfl rfl rfl rfl (fun _ => ix rfl rfl tS23 (_q5.ne (by decide) (inb_pos q78)) q78) (.v [(17, .pointer (some (ead at_3 (b.toNat * 4))))] rfl rfl rfl rfl rfl rfl (fun _ => ldA (cs := [.slice a5 ((gt t.ops b).pre.length) c4, .slice a6 ((gt t.ops b).add.length) c5, .slice a7 ((gt t.ops b).del.length) c6, .int .i64 ((gt t.ops b).cost)]) rfl tA89 rfl (cellsH (q85 (by decide)))) (.nil))))))))))) (.cons [(7, .pointer (some px)), (13, .agg #[.slice a2 ((gt t.ops a).pre.length) c, .slice a3 ((gt t.ops a).add.length) c2, .slice a4 ((gt t.ops a).del.length) c3, .int .i64 ((gt t.ops a).cost)]), (9, .pointer (some (pt.add 3))), (10, .slice at_3 t.ops.length ct3), (11, .int .i64 a), (12, .pointer (some (ead at_3 (a.toNat * 4)))), (13, .agg #[.slice a2 ((gt t.ops a).pre.length) c, .slice a3 ((gt t.ops a).add.length) c2, .slice a4 ((gt t.ops a).del.length) c3, .int .i64 ((gt t.ops a).cost)]), (7, .pointer (some px)), (8, .pointer (some py))] rfl rfl (fun sL hL => ?_) (.nil))
    refine st (p := px) (off := 0) (k := 0) (vs := [.slice a2 ((gt t.ops a).pre.length) c, .slice a3 ((gt t.ops a).add.length) c2, .slice a4 ((gt t.ops a).del.length) c3, .int .i64 ((gt t.ops a).cost)]) rfl rfl rfl (fun w => (tA89 w).2) rfl rfl rfl rfl ?_
    refine .cast (A' := [Box px [.slice a2 ((gt t.ops a).pre.length) c, .slice a3 ((gt t.ops a).add.length) c2, .slice a4 ((gt t.ops a).del.length) c3, .int .i64 ((gt t.ops a).cost)], Box py [.slice none 0 0, .slice none 0 0, .slice none 0 0, .int .i64 0], Box pt [.int .i64 t.facts, .slice at_ t.init.length ct, .slice at_2 t.goal.length ct2, .slice at_3 t.ops.length ct3]]) rfl ?_
    refine .nil ?_
    refine .jaN (M := [4, 0, 1, 2, 3]) (C' := [5, 6, 7, 8, 9]) (pre := []) [1, 2, 3] hL rfl rfl rfl rfl rfl (by kernel_rfl) ?_
    refine .step [13] 13 rfl (by kernel_rfl) (by kernel_rfl) (.v [] rfl rfl rfl rfl rfl rfl (fun _ => fa rfl tF25_3) (.v [(14, .pointer (some (pt.add 3)))] rfl rfl rfl rfl rfl rfl (fun _ => ld1 rfl tO23 (cellB (off := 3) (k := 2) rfl rfl)) (.v [] rfl rfl rfl rfl rfl rfl (fun _ => mv rfl) (.v [(15, .slice at_3 t.ops.length ct3), (16, .int .i64 b)] rfl rfl rfl rfl rfl rfl (fun _ => ix rfl rfl tS23 (_q5.ne (by decide) (inb_pos q78)) q78) (.v [(17, .pointer (some (ead at_3 (b.toNat * 4))))] rfl rfl rfl rfl rfl rfl (fun _ => ldA (cs := [.slice a5 ((gt t.ops b).pre.length) c4, .slice a6 ((gt t.ops b).add.length) c5, .slice a7 ((gt t.ops b).del.length) c6, .int .i64 ((gt t.ops b).cost)]) rfl tA89 rfl (cellsH (q85 (by decide)))) (.nil)))))) (.cons [(8, .pointer (some py)), (18, .agg #[.slice a5 ((gt t.ops b).pre.length) c4, .slice a6 ((gt t.ops b).add.length) c5, .slice a7 ((gt t.ops b).del.length) c6, .int .i64 ((gt t.ops b).cost)]), (9, .pointer (some (pt.add 3))), (10, .slice at_3 t.ops.length ct3), (11, .int .i64 a), (12, .pointer (some (ead at_3 (a.toNat * 4)))), (13, .agg #[.slice a2 ((gt t.ops a).pre.length) c, .slice a3 ((gt t.ops a).add.length) c2, .slice a4 ((gt t.ops a).del.length) c3, .int .i64 ((gt t.ops a).cost)]), (14, .pointer (some (pt.add 3))), (15, .slice at_3 t.ops.length ct3), (16, .int .i64 b), (17, .pointer (some (ead at_3 (b.toNat * 4)))), (18, .agg #[.slice a5 ((gt t.ops b).pre.length) c4, .slice a6 ((gt t.ops b).add.length) c5, .slice a7 ((gt t.ops b).del.length) c6, .int .i64 ((gt t.ops b).cost)]), (7, .pointer (some px)), (8, .pointer (some py))] rfl rfl (fun sL hL => ?_) (.nil))
    refine st (p := py) (off := 0) (k := 1) (vs := [.slice a5 ((gt t.ops b).pre.length) c4, .slice a6 ((gt t.ops b).add.length) c5, .slice a7 ((gt t.ops b).del.length) c6, .int .i64 ((gt t.ops b).cost)]) rfl rfl rfl (fun w => (tA89 w).2) rfl rfl rfl rfl ?_
    refine .cast (A' := [Box px [.slice a2 ((gt t.ops a).pre.length) c, .slice a3 ((gt t.ops a).add.length) c2, .slice a4 ((gt t.ops a).del.length) c3, .int .i64 ((gt t.ops a).cost)], Box py [.slice a5 ((gt t.ops b).pre.length) c4, .slice a6 ((gt t.ops b).add.length) c5, .slice a7 ((gt t.ops b).del.length) c6, .int .i64 ((gt t.ops b).cost)], Box pt [.int .i64 t.facts, .slice at_ t.init.length ct, .slice at_2 t.goal.length ct2, .slice at_3 t.ops.length ct3]]) rfl ?_
    refine .nil ?_
    refine .jaN (M := [9, 5, 6, 7, 8]) (C' := []) (pre := []) [1, 2, 3] hL rfl rfl rfl rfl rfl (by kernel_rfl) ?_
    refine .last [(9, .pointer (some (pt.add 3))), (10, .slice at_3 t.ops.length ct3), (11, .int .i64 a), (12, .pointer (some (ead at_3 (a.toNat * 4)))), (13, .agg #[.slice a2 ((gt t.ops a).pre.length) c, .slice a3 ((gt t.ops a).add.length) c2, .slice a4 ((gt t.ops a).del.length) c3, .int .i64 ((gt t.ops a).cost)]), (14, .pointer (some (pt.add 3))), (15, .slice at_3 t.ops.length ct3), (16, .int .i64 b), (17, .pointer (some (ead at_3 (b.toNat * 4)))), (18, .agg #[.slice a5 ((gt t.ops b).pre.length) c4, .slice a6 ((gt t.ops b).add.length) c5, .slice a7 ((gt t.ops b).del.length) c6, .int .i64 ((gt t.ops b).cost)]), (7, .pointer (some px)), (8, .pointer (some py))] rfl (by kernel_rfl) (.nil) rfl ?_
    refine .sel0 [0, 1] (by decide) rfl ?_
    exact .use q35 (px, a2, c, a3, c2, a4, c3, py, a5, c4, a6, c5, a7, c6) ⟨hF, q72, q71, q74, q73, q76, q75, q80, q79, q82, q81, q84, q83⟩ (.cons rfl (.cons rfl (.nil))) rfl (FH.le_refl _)

theorem c_interfere {h : FH} {w : World} (hs : Sub h w) (t : Task) (at_ : Option Addr) (ct : Nat) (_q1 : RSl h at_ t.init) (_q2 : t.init.length ≤ ct) (at_2 : Option Addr) (ct2 : Nat) (_q3 : RSl h at_2 t.goal) (_q4 : t.goal.length ≤ ct2) (at_3 : Option Addr) (ct3 : Nat) (_q5 : RSl h at_3 t.ops) (_q6 : t.ops.length ≤ ct3) (a : Int) (b : Int) (hp : pre_interfere t a b) : Calls Try.prog 54 #[.agg #[.int .i64 t.facts, .slice at_ t.init.length ct, .slice at_2 t.goal.length ct2, .slice at_3 t.ops.length ct3], .int .i64 a, .int .i64 b] w fun e w' => e = .returned (.bool (sp_interfere t a b)) ∧ Below w.heap.size w w' :=
  (w_interfere hs t at_ ct _q1 _q2 at_2 ct2 _q3 _q4 at_3 ct3 _q5 _q6 a b (fun r => r = sp_interfere t a b) (ok_interfere t a b hp)).mono fun _ _ ⟨_, hk, he, hb⟩ => ⟨by rw [he, hk], hb⟩

set_option maxHeartbeats 8000000 in
theorem w_deorder {h : FH} {w : World} (hs : Sub h w) (t : Task) (at_ : Option Addr) (ct : Nat) (_q1 : RSl h at_ t.init) (_q2 : t.init.length ≤ ct) (at_2 : Option Addr) (ct2 : Nat) (_q3 : RSl h at_2 t.goal) (_q4 : t.goal.length ≤ ct2) (at_3 : Option Addr) (ct3 : Nat) (_q5 : RSl h at_3 t.ops) (_q6 : t.ops.length ≤ ct3) (plan : List Int) (aplan : Option Addr) (cplan : Nat) (_q7 : RSl h aplan plan) (_q8 : plan.length ≤ cplan) (K : ((List (Int × Int)) × Fault) → Prop) (hF : F_deorder t plan K) : Calls Try.prog 25 #[.agg #[.int .i64 t.facts, .slice at_ t.init.length ct, .slice at_2 t.goal.length ct2, .slice at_3 t.ops.length ct3], .slice aplan plan.length cplan] w fun e w' => ∃ (r : (List (Int × Int)) × Fault) (z : Option Addr × Nat) (h1 : FH), K r ∧ e = .returned (.tuple #[.slice z.1 r.1.length z.2, .agg #[.int .i64 r.2.code, .int .i64 r.2.index]]) ∧ FH.le h h1 ∧ (RSl h1 z.1 r.1 ∧ r.1.length ≤ z.2) ∧ SH (Kp.all w h) h1 w' [] := by
  refine enter (args := [.agg #[.int .i64 t.facts, .slice at_ t.init.length ct, .slice at_2 t.goal.length ct2, .slice at_3 t.ops.length ct3], .slice aplan plan.length cplan]) Try.func25 rfl Try.ntmps25 rfl hs ?_
  refine .seq ?_
  refine .region ?_
  refine bx (vs := [.int .i64 t.facts, .slice at_ t.init.length ct, .slice at_2 t.goal.length ct2, .slice at_3 t.ops.length ct3]) rfl rfl rfl (fun pt => ?_)
  refine .v (asg rfl) rfl rfl rfl ?_
  refine al tZ28 rfl (fun pv => ?_)
  refine .nil ?_
  refine .seqN ?_
  refine .seq ?_
  refine .seq ?_
  refine .region ?_
  refine .v (ldA (cs := [.int .i64 t.facts, .slice at_ t.init.length ct, .slice at_2 t.goal.length ct2, .slice at_3 t.ops.length ct3]) rfl tA25 rfl (cellsB (off := 0) (k := 1) rfl (m := 4) rfl)) rfl rfl rfl ?_
  refine .v (mv rfl) rfl rfl rfl ?_
  obtain ⟨r2, q9⟩ : ∃ y_ : Fault, y_ = sp_planFault t plan := ⟨_, rfl⟩
  replace hF := hF r2 q9
  refine .c (cl (v := .agg #[.int .i64 r2.code, .int .i64 r2.index]) Try.call49 rfl rfl (fun w S => (by rw [q9]; exact c_planFault S.sub t at_ ct _q1 _q2 at_2 ct2 _q3 _q4 at_3 ct3 _q5 _q6 plan aplan cplan _q7 _q8 ))) rfl rfl rfl ?_
  refine al tZ28 rfl (fun pf => ?_)
  refine st (p := pf) (off := 0) (k := 0) (vs := [.int .i64 r2.code, .int .i64 r2.index]) rfl rfl rfl (fun w => (tA28 w).2) rfl rfl rfl rfl ?_
  refine .cast (A' := [Box pf [.int .i64 r2.code, .int .i64 r2.index], Box pv [.int .i64 0, .int .i64 0], Box pt [.int .i64 t.facts, .slice at_ t.init.length ct, .slice at_2 t.goal.length ct2, .slice at_3 t.ops.length ct3]]) rfl ?_
  refine .nil ?_
  refine .seqN ?_
  refine .seq ?_
  refine .region ?_
  refine .v (ldA (cs := [.int .i64 r2.code, .int .i64 r2.index]) rfl tA28 rfl (cellsB (off := 0) (k := 0) rfl (m := 2) rfl)) rfl rfl rfl ?_
  refine .v (bld (cs := #[.int .i64 0, .int .i64 0]) (pv := []) tB28 rfl rfl) rfl rfl rfl ?_
  refine .v (ne2 tE28 rfl rfl) rfl rfl rfl ?_
  refine .nil ?_
  refine .seqN ?_
  refine .cond rfl (fun q11 => ?_) (fun q11 => ?_)
  · replace hF := hF.1 q11
    refine .seq ?_
    refine .openL (by kernel_rfl) rfl (by kernel_rfl) (by kernel_rfl) ?_
    refine .v (ldA (cs := [.int .i64 r2.code, .int .i64 r2.index]) rfl tA28 rfl (cellsB (off := 0) (k := 0) rfl (m := 2) rfl)) rfl rfl rfl ?_
    refine .v (asg rfl) rfl rfl rfl ?_
    refine .tail ?_
    refine st (p := pv) (off := 0) (k := 1) (vs := [.int .i64 r2.code, .int .i64 r2.index]) rfl rfl rfl (fun w => (tA28 w).2) rfl rfl rfl rfl ?_
    refine .cast (A' := [Box pf [.int .i64 r2.code, .int .i64 r2.index], Box pv [.int .i64 r2.code, .int .i64 r2.index], Box pt [.int .i64 t.facts, .slice at_ t.init.length ct, .slice at_2 t.goal.length ct2, .slice at_3 t.ops.length ct3]]) rfl ?_
    refine .nil ?_
    refine .seqN ?_
    refine .ret ?_
    refine .seqR ?_
    refine .res2 rfl (rvT rfl) (rvC rfl tA28 (k := 1) rfl rfl) (fun w' S => ⟨(([] : List (Int × Int)), r2), (none, 0), h, hF, rfl, (FH.le_refl _), ⟨RSl.nil_, (Nat.le_refl 0)⟩, S.none⟩)
  replace hF := hF.2 q11
  refine .skip ?_
  refine .seqN ?_
  refine .seq ?_
  refine .seq ?_
  refine .region ?_
  refine .v (mv rfl) rfl rfl rfl ?_
  refine .v (ln rfl tS22.is) rfl rfl rfl ?_
  refine .v (bi rfl rfl rfl) rfl rfl rfl ?_
  refine .nil ?_
  refine .seqN ?_
  refine .cond rfl (fun q13 => ?_) (fun q13 => ?_)
  · replace hF := hF.1 q13
    refine .seq ?_
    refine .region ?_
    refine .v (bld (cs := #[.int .i64 2, .int .i64 (-5)]) (pv := [(0, .int .i64 2), (1, .int .i64 (-5))]) tB28 rfl rfl) rfl rfl rfl ?_
    refine .v (asg rfl) rfl rfl rfl ?_
    refine st (p := pv) (off := 0) (k := 1) (vs := [.int .i64 2, .int .i64 (-5)]) rfl rfl rfl (fun w => (tA28 w).2) rfl rfl rfl rfl ?_
    refine .cast (A' := [Box pf [.int .i64 r2.code, .int .i64 r2.index], Box pv [.int .i64 2, .int .i64 (-5)], Box pt [.int .i64 t.facts, .slice at_ t.init.length ct, .slice at_2 t.goal.length ct2, .slice at_3 t.ops.length ct3]]) rfl ?_
    refine .nil ?_
    refine .seqN ?_
    refine .ret ?_
    refine .seqR ?_
    refine .res2 rfl (rvT rfl) (rvC rfl tA28 (k := 1) rfl rfl) (fun w' S => ⟨(([] : List (Int × Int)), (⟨2, (-5)⟩ : Fault)), (none, 0), h, hF, rfl, (FH.le_refl _), ⟨RSl.nil_, (Nat.le_refl 0)⟩, S.none⟩)
  replace hF := hF.2 q13
  refine .skip ?_
  refine .seqN ?_
  refine .seq ?_
  refine .seq ?_
  refine .region ?_
  refine .v (ldA (cs := [.int .i64 t.facts, .slice at_ t.init.length ct, .slice at_2 t.goal.length ct2, .slice at_3 t.ops.length ct3]) rfl tA25 rfl (cellsB (off := 0) (k := 2) rfl (m := 4) rfl)) rfl rfl rfl ?_
  refine .v (fa rfl tF25_1) rfl rfl rfl ?_
  refine .v (ld1 rfl tO22 (cellB (off := 1) (k := 2) rfl rfl)) rfl rfl rfl ?_
  refine .v (mv rfl) rfl rfl rfl ?_
  obtain ⟨q14, hF⟩ := hF
  obtain ⟨r3, q15⟩ : ∃ y_ : Bool, y_ = sp_rworks t t.init plan := ⟨_, rfl⟩
  replace hF := hF r3 q15
  refine .c (cl (v := .bool r3) Try.call53 rfl rfl (fun w S => (by rw [q15]; exact c_works S.sub t at_ ct _q1 _q2 at_2 ct2 _q3 _q4 at_3 ct3 _q5 _q6 t.init at_ ct _q1 _q2 plan aplan cplan _q7 _q8 q14))) rfl rfl rfl ?_
  refine .v (nt rfl) rfl rfl rfl ?_
  refine .nil ?_
  refine .seqN ?_
  refine .cond rfl (fun q17 => ?_) (fun q17 => ?_)
  · replace hF := hF.1 q17
    refine .seq ?_
    refine .region ?_
    refine .v (bld (cs := #[.int .i64 11, .int .i64 (-8)]) (pv := [(0, .int .i64 11), (1, .int .i64 (-8))]) tB28 rfl rfl) rfl rfl rfl ?_
    refine .v (asg rfl) rfl rfl rfl ?_
    refine st (p := pv) (off := 0) (k := 1) (vs := [.int .i64 11, .int .i64 (-8)]) rfl rfl rfl (fun w => (tA28 w).2) rfl rfl rfl rfl ?_
    refine .cast (A' := [Box pf [.int .i64 r2.code, .int .i64 r2.index], Box pv [.int .i64 11, .int .i64 (-8)], Box pt [.int .i64 t.facts, .slice at_ t.init.length ct, .slice at_2 t.goal.length ct2, .slice at_3 t.ops.length ct3]]) rfl ?_
    refine .nil ?_
    refine .seqN ?_
    refine .ret ?_
    refine .seqR ?_
    refine .res2 rfl (rvT rfl) (rvC rfl tA28 (k := 1) rfl rfl) (fun w' S => ⟨(([] : List (Int × Int)), (⟨11, (-8)⟩ : Fault)), (none, 0), h, hF, rfl, (FH.le_refl _), ⟨RSl.nil_, (Nat.le_refl 0)⟩, S.none⟩)
  replace hF := hF.2 q17
  refine .skip ?_
  refine .seqN ?_
  refine .seq ?_
  refine .region ?_
  refine .v (asg rfl) rfl rfl rfl ?_
  refine .nil ?_
  refine .seqN ?_
  refine .seq ?_
  refine .seq ?_
  refine .region ?_
  refine .v (mv rfl) rfl rfl rfl ?_
  refine .v (ln rfl tS22.is) rfl rfl rfl ?_
  refine .v (mv rfl) rfl rfl rfl ?_
  refine .nil ?_
  refine .seqN ?_
  refine .block ?_
  refine .nilSl 43 2 ?_
  refine .cast (A' := [OwnSl 43 2 none (([] : List (Int × Int)).length) 0 (flL ([] : List (Int × Int))), Box pf [.int .i64 r2.code, .int .i64 r2.index], Box pv [.int .i64 0, .int .i64 0], Box pt [.int .i64 t.facts, .slice at_ t.init.length ct, .slice at_2 t.goal.length ct2, .slice at_3 t.ops.length ct3]]) rfl ?_
  refine .sel0 [3, 2, 0] (by decide) rfl ?_
  obtain ⟨I1, μ1, q935, q936⟩ := hF
  refine .loop' (σ := Int × List (Int × Int) × Option Addr × Nat) (fun z => I1 z.1 z.2.1) (fun z => μ1 z.1 z.2.1) (fun z => [(1, .slice aplan plan.length cplan), (2, .pointer (some pt)), (5, .pointer (some pv)), (7, .slice z.2.2.1 z.2.1.length z.2.2.2), (29, .int .i64 ((plan.length : Nat) : Int)), (30, .int .i64 z.1)]) (fun z => [Box pt [.int .i64 t.facts, .slice at_ t.init.length ct, .slice at_2 t.goal.length ct2, .slice at_3 t.ops.length ct3], Box pv [.int .i64 0, .int .i64 0], OwnSl 43 2 z.2.2.1 z.2.1.length z.2.2.2 (flL z.2.1)]) (fun _ => h) (0, ([] : List (Int × Int)), none, 0) q935 (.cons rfl (.cons rfl (.cons rfl (.cons rfl (.cons rfl (.cons rfl (.nil))))))) rfl (FH.le_refl _) ?_
  rintro ⟨t30, out, aout, cout⟩ q935
  have hF := q936 t30 out q935
  show J _ _ _ _ _ [(1, .slice aplan plan.length cplan), (2, .pointer (some pt)), (5, .pointer (some pv)), (7, .slice aout out.length cout), (29, .int .i64 ((plan.length : Nat) : Int)), (30, .int .i64 t30)] [Box pt [.int .i64 t.facts, .slice at_ t.init.length ct, .slice at_2 t.goal.length ct2, .slice at_3 t.ops.length ct3], Box pv [.int .i64 0, .int .i64 0], OwnSl 43 2 aout out.length cout (flL out)] h
  refine .seq ?_
  refine .region ?_
  refine .v (bi rfl rfl rfl) rfl rfl rfl ?_
  refine .nil ?_
  refine .seqN ?_
  refine .seq ?_
  refine .cond rfl (fun q939 => ?_) (fun q939 => ?_)
  · replace hF := hF.1 q939
    refine .skip ?_
    refine .seqN ?_
    refine .seq ?_
    refine .block ?_
    refine .seq ?_
    refine .region ?_
    refine .v (mv rfl) rfl rfl rfl ?_
    refine .v (asg rfl) rfl rfl rfl ?_
    refine .nil ?_
    refine .seqN ?_
    refine .seq ?_
    refine .region ?_
    refine .v (mv rfl) rfl rfl rfl ?_
    refine .v (bi rfl rfl rfl) rfl rfl rfl ?_
    refine .v (asg rfl) rfl rfl rfl ?_
    refine .nil ?_
    refine .seqN ?_
    refine .block ?_
    obtain ⟨I2, μ2, q1099, q1100⟩ := hF
    refine .loop' (σ := Int × List (Int × Int) × Option Addr × Nat) (fun z => I2 z.1 z.2.1) (fun z => μ2 z.1 z.2.1) (fun z => [(1, .slice aplan plan.length cplan), (2, .pointer (some pt)), (5, .pointer (some pv)), (7, .slice z.2.2.1 z.2.1.length z.2.2.2), (8, .int .i64 t30), (9, .int .i64 z.1), (29, .int .i64 ((plan.length : Nat) : Int)), (30, .int .i64 t30)]) (fun z => [Box pt [.int .i64 t.facts, .slice at_ t.init.length ct, .slice at_2 t.goal.length ct2, .slice at_3 t.ops.length ct3], Box pv [.int .i64 0, .int .i64 0], OwnSl 43 2 z.2.2.1 z.2.1.length z.2.2.2 (flL z.2.1)]) (fun _ => h) (IntKind.i64.wrap (t30 + 1), out, aout, cout) q1099 (.cons rfl (.cons rfl (.cons rfl (.cons rfl (.cons rfl (.cons rfl (.cons rfl (.cons rfl (.nil))))))))) rfl (FH.le_refl _) ?_
    rintro ⟨j, out3, aout3, cout3⟩ q1099
    have hF := q1100 j out3 q1099
    show J _ _ _ _ _ [(1, .slice aplan plan.length cplan), (2, .pointer (some pt)), (5, .pointer (some pv)), (7, .slice aout3 out3.length cout3), (8, .int .i64 t30), (9, .int .i64 j), (29, .int .i64 ((plan.length : Nat) : Int)), (30, .int .i64 t30)] [Box pt [.int .i64 t.facts, .slice at_ t.init.length ct, .slice at_2 t.goal.length ct2, .slice at_3 t.ops.length ct3], Box pv [.int .i64 0, .int .i64 0], OwnSl 43 2 aout3 out3.length cout3 (flL out3)] h
    refine .seq ?_
    refine .seq ?_
    refine .region ?_
    refine .v (mv rfl) rfl rfl rfl ?_
    refine .v (mv rfl) rfl rfl rfl ?_
    refine .v (ln rfl tS22.is) rfl rfl rfl ?_
    refine .v (bi rfl rfl rfl) rfl rfl rfl ?_
    refine .nil ?_
    refine .seqN ?_
    refine .cond rfl (fun q1102 => ?_) (fun q1102 => ?_)
    · replace hF := hF.1 q1102
      refine .skip ?_
      refine .seqN ?_
      refine .share (σ := List (Int × Int) × Option Addr × Nat) (fun z => F_deorder_J1 j I2 μ2 out3 z.1) (fun z => [(1, .slice aplan plan.length cplan), (2, .pointer (some pt)), (5, .pointer (some pv)), (7, .slice z.2.1 z.1.length z.2.2), (8, .int .i64 t30), (9, .int .i64 j), (29, .int .i64 ((plan.length : Nat) : Int)), (30, .int .i64 t30)]) (fun z => [Box pt [.int .i64 t.facts, .slice at_ t.init.length ct, .slice at_2 t.goal.length ct2, .slice at_3 t.ops.length ct3], Box pv [.int .i64 0, .int .i64 0], OwnSl 43 2 z.2.1 z.1.length z.2.2 (flL z.1)]) (fun _ => h) ?_ (fun q1111 => ?_)
      · rintro ⟨out5, aout5, cout5⟩ hF
        show J _ _ _ _ _ [(1, .slice aplan plan.length cplan), (2, .pointer (some pt)), (5, .pointer (some pv)), (7, .slice aout5 out5.length cout5), (8, .int .i64 t30), (9, .int .i64 j), (29, .int .i64 ((plan.length : Nat) : Int)), (30, .int .i64 t30)] [Box pt [.int .i64 t.facts, .slice at_ t.init.length ct, .slice at_2 t.goal.length ct2, .slice at_3 t.ops.length ct3], Box pv [.int .i64 0, .int .i64 0], OwnSl 43 2 aout5 out5.length cout5 (flL out5)] h
        refine .region ?_
        refine .v (mv rfl) rfl rfl rfl ?_
        refine .v (bi rfl rfl rfl) rfl rfl rfl ?_
        refine .v (asg rfl) rfl rfl rfl ?_
        refine .nil ?_
        exact .round (IntKind.i64.wrap (j + 1), out5, aout5, cout5) hF.1 hF.2 (.cons rfl (.cons rfl (.cons rfl (.cons rfl (.cons rfl (.cons rfl (.cons rfl (.cons rfl (.nil))))))))) rfl (FH.le_refl _)
      refine .block ?_
      refine .seq ?_
      refine .open_ (by kernel_rfl) (by kernel_rfl) ?_
      refine .v (ldA (cs := [.int .i64 t.facts, .slice at_ t.init.length ct, .slice at_2 t.goal.length ct2, .slice at_3 t.ops.length ct3]) rfl tA25 rfl (cellsB (off := 0) (k := 0) rfl (m := 4) rfl)) rfl rfl rfl ?_
      refine .v (mv rfl) rfl rfl rfl ?_
      refine .v (mv rfl) rfl rfl rfl ?_
      obtain ⟨q1112, hF⟩ := hF
      refine .v (ix rfl rfl tS22 (_q7.ne (by decide) (inb_pos q1112)) q1112) rfl rfl rfl ?_
      refine .v (ld1 (v := .int .i64 (gt plan t30)) rfl tO3 (cellH (_q7.elemF q1112 (by decide) 0 _ rfl))) rfl rfl rfl ?_
      refine .v (mv rfl) rfl rfl rfl ?_
      refine .v (mv rfl) rfl rfl rfl ?_
      obtain ⟨q1113, hF⟩ := hF
      refine .v (ix rfl rfl tS22 (_q7.ne (by decide) (inb_pos q1113)) q1113) rfl rfl rfl ?_
      refine .v (ld1 (v := .int .i64 (gt plan j)) rfl tO3 (cellH (_q7.elemF q1113 (by decide) 0 _ rfl))) rfl rfl rfl ?_
      obtain ⟨q1114, hF⟩ := hF
      obtain ⟨r4, q1115⟩ : ∃ y_ : Bool, y_ = sp_interfere t (gt plan t30) (gt plan j) := ⟨_, rfl⟩
      replace hF := hF r4 q1115
      refine .c (cl (v := .bool r4) Try.call54 rfl rfl (fun w S => (by rw [q1115]; exact c_interfere S.sub t at_ ct _q1 _q2 at_2 ct2 _q3 _q4 at_3 ct3 _q5 _q6 (gt plan t30) (gt plan j) q1114))) rfl rfl rfl ?_
      refine .fin ?_
      refine .seqN ?_
      refine .cond rfl (fun q1116 => ?_) (fun q1116 => ?_)
      · replace hF := hF.1 q1116
        refine .region ?_
        refine .v (mv rfl) rfl rfl rfl ?_
        refine .v (mv rfl) rfl rfl rfl ?_
        refine .v (mv rfl) rfl rfl rfl ?_
        refine .v (bldA (cs := #[.int .i64 t30, .int .i64 j]) (pv := [(0, .int .i64 t30), (1, .int .i64 j)]) tB43 rfl rfl) rfl rfl rfl ?_
        refine bs2 (cs := #[.int .i64 t30, .int .i64 j]) (pv := [(0, .agg #[.int .i64 t30, .int .i64 j])]) tS26 rfl rfl (by decide) (by decide) rfl rfl rfl (fun a _ => ?_)
        refine .cast (A' := [OwnSl 43 2 a (([(⟨t30, j⟩ : Int × Int)] : List (Int × Int)).length) 1 (flL ([(⟨t30, j⟩ : Int × Int)] : List (Int × Int))), Box pt [.int .i64 t.facts, .slice at_ t.init.length ct, .slice at_2 t.goal.length ct2, .slice at_3 t.ops.length ct3], Box pv [.int .i64 0, .int .i64 0], OwnSl 43 2 aout3 out3.length cout3 (flL out3)]) rfl ?_
        obtain ⟨q1118, hF⟩ := hF
        have q1119 : out3.length + ([(⟨t30, j⟩ : Int × Int)] : List (Int × Int)).length = ((out3 ++ ([(⟨t30, j⟩ : Int × Int)] : List (Int × Int)))).length := len_app rfl rfl
        refine app (k := 3) (news := flL ([(⟨t30, j⟩ : Int × Int)] : List (Int × Int))) (cs' := flL (out3 ++ ([(⟨t30, j⟩ : Int × Int)] : List (Int × Int)))) (nm := ((out3 ++ ([(⟨t30, j⟩ : Int × Int)] : List (Int × Int)))).length) tS26 rfl (by decide) rfl rfl rfl (by rw [flL_len]; rfl) (srcS (k := 0) rfl) (flL_one _) (room_of q1119 q1118).1 (room_of q1119 q1118).2 q1119 (flL_append _ _).symm rfl (fun a2 c => ?_)
        refine .cast (A' := [OwnSl 43 2 a (([(⟨t30, j⟩ : Int × Int)] : List (Int × Int)).length) 1 (flL ([(⟨t30, j⟩ : Int × Int)] : List (Int × Int))), Box pt [.int .i64 t.facts, .slice at_ t.init.length ct, .slice at_2 t.goal.length ct2, .slice at_3 t.ops.length ct3], Box pv [.int .i64 0, .int .i64 0], OwnSl 43 2 a2 ((out3 ++ ([(⟨t30, j⟩ : Int × Int)] : List (Int × Int))).length) c (flL (out3 ++ ([(⟨t30, j⟩ : Int × Int)] : List (Int × Int))))]) rfl ?_
        refine .v (asg rfl) rfl rfl rfl ?_
        refine .nil ?_
        refine .blkN ?_
        refine .sel0 [1, 2, 3] (by decide) rfl ?_
        exact .use q1111 ((out3 ++ ([(⟨t30, j⟩ : Int × Int)] : List (Int × Int))), a2, c) hF (.cons rfl (.cons rfl (.cons rfl (.cons rfl (.cons rfl (.cons rfl (.cons rfl (.cons rfl (.nil))))))))) rfl (FH.le_refl _)
      replace hF := hF.2 q1116
      refine .skip ?_
      refine .blkN ?_
      exact .use q1111 (out3, aout3, cout3) hF (.cons rfl (.cons rfl (.cons rfl (.cons rfl (.cons rfl (.cons rfl (.cons rfl (.cons rfl (.nil))))))))) rfl (FH.le_refl _)
    replace hF := hF.2 q1102
    refine .exit ?_
    refine .seqX ?_
    refine .seqX ?_
    refine .blkX ?_
    refine .blkN ?_
    refine .seqN ?_
    refine .region ?_
    refine .v (bi rfl rfl rfl) rfl rfl rfl ?_
    refine .v (mv rfl) rfl rfl rfl ?_
    refine .nil ?_
    exact .round (IntKind.i64.wrap (t30 + 1), out3, aout3, cout3) hF.1 hF.2 (.cons rfl (.cons rfl (.cons rfl (.cons rfl (.cons rfl (.cons rfl (.nil))))))) rfl (FH.le_refl _)
  replace hF := hF.2 q939
  refine .exit ?_
  refine .seqX ?_
  refine .seqX ?_
  refine .blkX ?_
  refine .seqN ?_
  refine .seq ?_
  refine .region ?_
  refine .v (mv rfl) rfl rfl rfl ?_
  refine .v (bld (cs := #[.int .i64 0, .int .i64 0]) (pv := []) tB28 rfl rfl) rfl rfl rfl ?_
  refine .v (asg rfl) rfl rfl rfl ?_
  refine st (p := pv) (off := 0) (k := 1) (vs := [.int .i64 0, .int .i64 0]) rfl rfl rfl (fun w => (tA28 w).2) rfl rfl rfl rfl ?_
  refine .cast (A' := [Box pt [.int .i64 t.facts, .slice at_ t.init.length ct, .slice at_2 t.goal.length ct2, .slice at_3 t.ops.length ct3], Box pv [.int .i64 0, .int .i64 0], OwnSl 43 2 aout out.length cout (flL out)]) rfl ?_
  refine .nil ?_
  refine .seqN ?_
  refine .freezeL (k := 2) rfl (fun h1 le1 q1121 q1120 => ?_)
  refine .cast (A' := [Box pt [.int .i64 t.facts, .slice at_ t.init.length ct, .slice at_2 t.goal.length ct2, .slice at_3 t.ops.length ct3], Box pv [.int .i64 0, .int .i64 0], tru]) rfl ?_
  refine .ret ?_
  refine .res2 rfl (rvT rfl) (rvC rfl tA28 (k := 1) rfl rfl) (fun w' S => ⟨(out, (⟨0, 0⟩ : Fault)), (aout, cout), h1, hF, rfl, (le1), ⟨(RSl.of q1120), (q1121)⟩, S.none⟩)

theorem c_deorder {h : FH} {w : World} (hs : Sub h w) (t : Task) (at_ : Option Addr) (ct : Nat) (_q1 : RSl h at_ t.init) (_q2 : t.init.length ≤ ct) (at_2 : Option Addr) (ct2 : Nat) (_q3 : RSl h at_2 t.goal) (_q4 : t.goal.length ≤ ct2) (at_3 : Option Addr) (ct3 : Nat) (_q5 : RSl h at_3 t.ops) (_q6 : t.ops.length ≤ ct3) (plan : List Int) (aplan : Option Addr) (cplan : Nat) (_q7 : RSl h aplan plan) (_q8 : plan.length ≤ cplan) : Calls Try.prog 25 #[.agg #[.int .i64 t.facts, .slice at_ t.init.length ct, .slice at_2 t.goal.length ct2, .slice at_3 t.ops.length ct3], .slice aplan plan.length cplan] w fun e w' => ∃ (z : Option Addr × Nat) (h1 : FH), e = .returned (.tuple #[.slice z.1 (sp_deorder t plan).1.length z.2, .agg #[.int .i64 (sp_deorder t plan).2.code, .int .i64 (sp_deorder t plan).2.index]]) ∧ FH.le h h1 ∧ (RSl h1 z.1 (sp_deorder t plan).1 ∧ (sp_deorder t plan).1.length ≤ z.2) ∧ SH (Kp.all w h) h1 w' [] :=
  (w_deorder hs t at_ ct _q1 _q2 at_2 ct2 _q3 _q4 at_3 ct3 _q5 _q6 plan aplan cplan _q7 _q8 (fun r => r = sp_deorder t plan) (ok_deorder t plan)).mono fun _ _ ⟨r, z, h1, hk, he, hl, hf, hS⟩ => by subst hk; exact ⟨z, h1, he, hl, hf, hS⟩

set_option maxHeartbeats 8000000 in
theorem w_interfering {h : FH} {w : World} (hs : Sub h w) (t : Task) (at_ : Option Addr) (ct : Nat) (_q1 : RSl h at_ t.init) (_q2 : t.init.length ≤ ct) (at_2 : Option Addr) (ct2 : Nat) (_q3 : RSl h at_2 t.goal) (_q4 : t.goal.length ≤ ct2) (at_3 : Option Addr) (ct3 : Nat) (_q5 : RSl h at_3 t.ops) (_q6 : t.ops.length ≤ ct3) (a : Int) (b : Int) (K : Bool → Prop) (hF : F_interfering t a b K) : Calls Try.prog 58 #[.agg #[.int .i64 t.facts, .slice at_ t.init.length ct, .slice at_2 t.goal.length ct2, .slice at_3 t.ops.length ct3], .int .i64 a, .int .i64 b] w fun e w' => ∃ r : Bool, K r ∧ e = .returned (.bool r) ∧ Below w.heap.size w w' := by
  refine enter (args := [.agg #[.int .i64 t.facts, .slice at_ t.init.length ct, .slice at_2 t.goal.length ct2, .slice at_3 t.ops.length ct3], .int .i64 a, .int .i64 b]) Try.func58 rfl Try.ntmps58 rfl hs ?_
  refine .seq ?_
  refine .region ?_
  refine bx (vs := [.int .i64 t.facts, .slice at_ t.init.length ct, .slice at_2 t.goal.length ct2, .slice at_3 t.ops.length ct3]) rfl rfl rfl (fun pt => ?_)
  refine .v (asg rfl) rfl rfl rfl ?_
  refine .nil ?_
  refine .seqN ?_
  refine .seq ?_
  refine .region ?_
  refine .v (fa rfl tF25_3) rfl rfl rfl ?_
  refine .v (ld1 rfl tO23 (cellB (off := 3) (k := 0) rfl rfl)) rfl rfl rfl ?_
  refine .v (mv rfl) rfl rfl rfl ?_
  obtain ⟨q7, hF⟩ := hF
  refine .v (ix rfl rfl tS23 (_q5.ne (by decide) (inb_pos q7)) q7) rfl rfl rfl ?_
  obtain ⟨_, ⟨a2, c, a3, c2, a4, c3, rfl, ⟨q8, q9⟩, ⟨q10, q11⟩, q12, q13⟩, q14⟩ := _q5.elem q7
  refine .v (ldA (cs := [.slice a2 ((gt t.ops a).pre.length) c, .slice a3 ((gt t.ops a).add.length) c2, .slice a4 ((gt t.ops a).del.length) c3, .int .i64 ((gt t.ops a).cost)]) rfl tA89 rfl (cellsH (q14 (by decide)))) rfl rfl rfl ?_
  refine al tZ89 rfl (fun px => ?_)
  refine st (p := px) (off := 0) (k := 0) (vs := [.slice a2 ((gt t.ops a).pre.length) c, .slice a3 ((gt t.ops a).add.length) c2, .slice a4 ((gt t.ops a).del.length) c3, .int .i64 ((gt t.ops a).cost)]) rfl rfl rfl (fun w => (tA89 w).2) rfl rfl rfl rfl ?_
  refine .cast (A' := [Box px [.slice a2 ((gt t.ops a).pre.length) c, .slice a3 ((gt t.ops a).add.length) c2, .slice a4 ((gt t.ops a).del.length) c3, .int .i64 ((gt t.ops a).cost)], Box pt [.int .i64 t.facts, .slice at_ t.init.length ct, .slice at_2 t.goal.length ct2, .slice at_3 t.ops.length ct3]]) rfl ?_
  refine .nil ?_
  refine .seqN ?_
  refine .seq ?_
  refine .region ?_
  refine .v (fa rfl tF25_3) rfl rfl rfl ?_
  refine .v (ld1 rfl tO23 (cellB (off := 3) (k := 1) rfl rfl)) rfl rfl rfl ?_
  refine .v (mv rfl) rfl rfl rfl ?_
  obtain ⟨q15, hF⟩ := hF
  refine .v (ix rfl rfl tS23 (_q5.ne (by decide) (inb_pos q15)) q15) rfl rfl rfl ?_
  obtain ⟨_, ⟨a5, c4, a6, c5, a7, c6, rfl, ⟨q16, q17⟩, ⟨q18, q19⟩, q20, q21⟩, q22⟩ := _q5.elem q15
  refine .v (ldA (cs := [.slice a5 ((gt t.ops b).pre.length) c4, .slice a6 ((gt t.ops b).add.length) c5, .slice a7 ((gt t.ops b).del.length) c6, .int .i64 ((gt t.ops b).cost)]) rfl tA89 rfl (cellsH (q22 (by decide)))) rfl rfl rfl ?_
  refine al tZ89 rfl (fun py => ?_)
  refine st (p := py) (off := 0) (k := 0) (vs := [.slice a5 ((gt t.ops b).pre.length) c4, .slice a6 ((gt t.ops b).add.length) c5, .slice a7 ((gt t.ops b).del.length) c6, .int .i64 ((gt t.ops b).cost)]) rfl rfl rfl (fun w => (tA89 w).2) rfl rfl rfl rfl ?_
  refine .cast (A' := [Box py [.slice a5 ((gt t.ops b).pre.length) c4, .slice a6 ((gt t.ops b).add.length) c5, .slice a7 ((gt t.ops b).del.length) c6, .int .i64 ((gt t.ops b).cost)], Box px [.slice a2 ((gt t.ops a).pre.length) c, .slice a3 ((gt t.ops a).add.length) c2, .slice a4 ((gt t.ops a).del.length) c3, .int .i64 ((gt t.ops a).cost)], Box pt [.int .i64 t.facts, .slice at_ t.init.length ct, .slice at_2 t.goal.length ct2, .slice at_3 t.ops.length ct3]]) rfl ?_
  refine .nil ?_
  refine .seqN ?_
  refine .seq ?_
  refine .region ?_
  refine .v (fa rfl tF89_1) rfl rfl rfl ?_
  refine .v (ld1 rfl tO22 (cellB (off := 1) (k := 1) rfl rfl)) rfl rfl rfl ?_
  refine .v (fa rfl tF89_0) rfl rfl rfl ?_
  refine .v (ld1 rfl tO22 (cellB (off := 0) (k := 0) rfl rfl)) rfl rfl rfl ?_
  obtain ⟨q40, hF⟩ := hF
  obtain ⟨r2, q41⟩ : ∃ y_ : Bool, y_ = sp_disjoint ((gt t.ops a).add) ((gt t.ops b).pre) := ⟨_, rfl⟩
  replace hF := hF r2 q41
  refine .c (cl (v := .bool r2) Try.call66 rfl rfl (fun w S => (by rw [q41]; exact c_disjoint S.sub ((gt t.ops a).add) a3 c2 q11 q10 ((gt t.ops b).pre) a5 c4 q17 q16 q40))) rfl rfl rfl ?_
  refine .v (nt rfl) rfl rfl rfl ?_
  refine .v (mv rfl) rfl rfl rfl ?_
  rcases Bool.eq_false_or_eq_true (!r2) with q42 | q42
  · replace hF := hF.1 q42
    refine .gS rfl rfl rfl q42 rfl rfl ?_
    refine .gS rfl rfl rfl q42 rfl rfl ?_
    refine .gS rfl rfl rfl q42 rfl rfl ?_
    refine .gS rfl rfl rfl q42 rfl rfl ?_
    refine .gS rfl rfl rfl q42 rfl rfl ?_
    refine .gS rfl rfl rfl q42 rfl rfl ?_
    refine .v (pkT rfl q42 rfl) rfl rfl rfl ?_
    refine .v (mv rfl) rfl rfl rfl ?_
    refine .gS rfl rfl rfl rfl rfl rfl ?_
    refine .gS rfl rfl rfl rfl rfl rfl ?_
    refine .gS rfl rfl rfl rfl rfl rfl ?_
    refine .gS rfl rfl rfl rfl rfl rfl ?_
    refine .gS rfl rfl rfl rfl rfl rfl ?_
    refine .gS rfl rfl rfl rfl rfl rfl ?_
    refine .v (pkT rfl rfl rfl) rfl rfl rfl ?_
    refine .v (mv rfl) rfl rfl rfl ?_
    refine .gS rfl rfl rfl rfl rfl rfl ?_
    refine .gS rfl rfl rfl rfl rfl rfl ?_
    refine .gS rfl rfl rfl rfl rfl rfl ?_
    refine .gS rfl rfl rfl rfl rfl rfl ?_
    refine .gS rfl rfl rfl rfl rfl rfl ?_
    refine .gS rfl rfl rfl rfl rfl rfl ?_
    refine .v (pkT rfl rfl rfl) rfl rfl rfl ?_
    refine .v (mv rfl) rfl rfl rfl ?_
    refine .gS rfl rfl rfl rfl rfl rfl ?_
    refine .gS rfl rfl rfl rfl rfl rfl ?_
    refine .gS rfl rfl rfl rfl rfl rfl ?_
    refine .gS rfl rfl rfl rfl rfl rfl ?_
    refine .gS rfl rfl rfl rfl rfl rfl ?_
    refine .gS rfl rfl rfl rfl rfl rfl ?_
    refine .v (pkT rfl rfl rfl) rfl rfl rfl ?_
    refine .v (mv rfl) rfl rfl rfl ?_
    refine .gS rfl rfl rfl rfl rfl rfl ?_
    refine .gS rfl rfl rfl rfl rfl rfl ?_
    refine .gS rfl rfl rfl rfl rfl rfl ?_
    refine .gS rfl rfl rfl rfl rfl rfl ?_
    refine .gS rfl rfl rfl rfl rfl rfl ?_
    refine .gS rfl rfl rfl rfl rfl rfl ?_
    refine .v (pkT rfl rfl rfl) rfl rfl rfl ?_
    refine .v (asg rfl) rfl rfl rfl ?_
    refine .nil ?_
    refine .seqN ?_
    refine .ret ?_
    refine .res1 rfl (rvT rfl) (fun w' S => ⟨true, hF, rfl, S.below⟩)
  replace hF := hF.2 q42
  refine .gv (fa rfl tF89_2) rfl rfl rfl q42 rfl rfl ?_
  refine .gv (ld1 rfl tO22 (cellB (off := 2) (k := 1) rfl rfl)) rfl rfl rfl q42 rfl rfl ?_
  refine .gv (fa rfl tF89_0) rfl rfl rfl q42 rfl rfl ?_
  refine .gv (ld1 rfl tO22 (cellB (off := 0) (k := 0) rfl rfl)) rfl rfl rfl q42 rfl rfl ?_
  obtain ⟨q43, hF⟩ := hF
  obtain ⟨r3, q44⟩ : ∃ y_ : Bool, y_ = sp_disjoint ((gt t.ops a).del) ((gt t.ops b).pre) := ⟨_, rfl⟩
  replace hF := hF r3 q44
  refine .gc (cl (v := .bool r3) Try.call66 rfl rfl (fun w S => (by rw [q44]; exact c_disjoint S.sub ((gt t.ops a).del) a4 c3 q13 q12 ((gt t.ops b).pre) a5 c4 q17 q16 q43))) rfl rfl rfl q42 rfl rfl ?_
  refine .gv (nt rfl) rfl rfl rfl q42 rfl rfl ?_
  refine .v (pkF rfl q42 rfl) rfl rfl rfl ?_
  refine .v (mv rfl) rfl rfl rfl ?_
  rcases Bool.eq_false_or_eq_true (!r3) with q45 | q45
  · replace hF := hF.1 q45
    refine .gS rfl rfl rfl q45 rfl rfl ?_
    refine .gS rfl rfl rfl q45 rfl rfl ?_
    refine .gS rfl rfl rfl q45 rfl rfl ?_
    refine .gS rfl rfl rfl q45 rfl rfl ?_
    refine .gS rfl rfl rfl q45 rfl rfl ?_
    refine .gS rfl rfl rfl q45 rfl rfl ?_
    refine .v (pkT rfl q45 rfl) rfl rfl rfl ?_
    refine .v (mv rfl) rfl rfl rfl ?_
    refine .gS rfl rfl rfl rfl rfl rfl ?_
    refine .gS rfl rfl rfl rfl rfl rfl ?_
    refine .gS rfl rfl rfl rfl rfl rfl ?_
    refine .gS rfl rfl rfl rfl rfl rfl ?_
    refine .gS rfl rfl rfl rfl rfl rfl ?_
    refine .gS rfl rfl rfl rfl rfl rfl ?_
    refine .v (pkT rfl rfl rfl) rfl rfl rfl ?_
    refine .v (mv rfl) rfl rfl rfl ?_
    refine .gS rfl rfl rfl rfl rfl rfl ?_
    refine .gS rfl rfl rfl rfl rfl rfl ?_
    refine .gS rfl rfl rfl rfl rfl rfl ?_
    refine .gS rfl rfl rfl rfl rfl rfl ?_
    refine .gS rfl rfl rfl rfl rfl rfl ?_
    refine .gS rfl rfl rfl rfl rfl rfl ?_
    refine .v (pkT rfl rfl rfl) rfl rfl rfl ?_
    refine .v (mv rfl) rfl rfl rfl ?_
    refine .gS rfl rfl rfl rfl rfl rfl ?_
    refine .gS rfl rfl rfl rfl rfl rfl ?_
    refine .gS rfl rfl rfl rfl rfl rfl ?_
    refine .gS rfl rfl rfl rfl rfl rfl ?_
    refine .gS rfl rfl rfl rfl rfl rfl ?_
    refine .gS rfl rfl rfl rfl rfl rfl ?_
    refine .v (pkT rfl rfl rfl) rfl rfl rfl ?_
    refine .v (asg rfl) rfl rfl rfl ?_
    refine .nil ?_
    refine .seqN ?_
    refine .ret ?_
    refine .res1 rfl (rvT rfl) (fun w' S => ⟨true, hF, rfl, S.below⟩)
  replace hF := hF.2 q45
  refine .gv (fa rfl tF89_1) rfl rfl rfl q45 rfl rfl ?_
  refine .gv (ld1 rfl tO22 (cellB (off := 1) (k := 0) rfl rfl)) rfl rfl rfl q45 rfl rfl ?_
  refine .gv (fa rfl tF89_0) rfl rfl rfl q45 rfl rfl ?_
  refine .gv (ld1 rfl tO22 (cellB (off := 0) (k := 1) rfl rfl)) rfl rfl rfl q45 rfl rfl ?_
  obtain ⟨q46, hF⟩ := hF
  obtain ⟨r4, q47⟩ : ∃ y_ : Bool, y_ = sp_disjoint ((gt t.ops b).add) ((gt t.ops a).pre) := ⟨_, rfl⟩
  replace hF := hF r4 q47
  refine .gc (cl (v := .bool r4) Try.call66 rfl rfl (fun w S => (by rw [q47]; exact c_disjoint S.sub ((gt t.ops b).add) a6 c5 q19 q18 ((gt t.ops a).pre) a2 c q9 q8 q46))) rfl rfl rfl q45 rfl rfl ?_
  refine .gv (nt rfl) rfl rfl rfl q45 rfl rfl ?_
  refine .v (pkF rfl q45 rfl) rfl rfl rfl ?_
  refine .v (mv rfl) rfl rfl rfl ?_
  rcases Bool.eq_false_or_eq_true (!r4) with q48 | q48
  · replace hF := hF.1 q48
    refine .gS rfl rfl rfl q48 rfl rfl ?_
    refine .gS rfl rfl rfl q48 rfl rfl ?_
    refine .gS rfl rfl rfl q48 rfl rfl ?_
    refine .gS rfl rfl rfl q48 rfl rfl ?_
    refine .gS rfl rfl rfl q48 rfl rfl ?_
    refine .gS rfl rfl rfl q48 rfl rfl ?_
    refine .v (pkT rfl q48 rfl) rfl rfl rfl ?_
    refine .v (mv rfl) rfl rfl rfl ?_
    refine .gS rfl rfl rfl rfl rfl rfl ?_
    refine .gS rfl rfl rfl rfl rfl rfl ?_
    refine .gS rfl rfl rfl rfl rfl rfl ?_
    refine .gS rfl rfl rfl rfl rfl rfl ?_
    refine .gS rfl rfl rfl rfl rfl rfl ?_
    refine .gS rfl rfl rfl rfl rfl rfl ?_
    refine .v (pkT rfl rfl rfl) rfl rfl rfl ?_
    refine .v (mv rfl) rfl rfl rfl ?_
    refine .gS rfl rfl rfl rfl rfl rfl ?_
    refine .gS rfl rfl rfl rfl rfl rfl ?_
    refine .gS rfl rfl rfl rfl rfl rfl ?_
    refine .gS rfl rfl rfl rfl rfl rfl ?_
    refine .gS rfl rfl rfl rfl rfl rfl ?_
    refine .gS rfl rfl rfl rfl rfl rfl ?_
    refine .v (pkT rfl rfl rfl) rfl rfl rfl ?_
    refine .v (asg rfl) rfl rfl rfl ?_
    refine .nil ?_
    refine .seqN ?_
    refine .ret ?_
    refine .res1 rfl (rvT rfl) (fun w' S => ⟨true, hF, rfl, S.below⟩)
  replace hF := hF.2 q48
  refine .gv (fa rfl tF89_2) rfl rfl rfl q48 rfl rfl ?_
  refine .gv (ld1 rfl tO22 (cellB (off := 2) (k := 0) rfl rfl)) rfl rfl rfl q48 rfl rfl ?_
  refine .gv (fa rfl tF89_0) rfl rfl rfl q48 rfl rfl ?_
  refine .gv (ld1 rfl tO22 (cellB (off := 0) (k := 1) rfl rfl)) rfl rfl rfl q48 rfl rfl ?_
  obtain ⟨q49, hF⟩ := hF
  obtain ⟨r5, q50⟩ : ∃ y_ : Bool, y_ = sp_disjoint ((gt t.ops b).del) ((gt t.ops a).pre) := ⟨_, rfl⟩
  replace hF := hF r5 q50
  refine .gc (cl (v := .bool r5) Try.call66 rfl rfl (fun w S => (by rw [q50]; exact c_disjoint S.sub ((gt t.ops b).del) a7 c6 q21 q20 ((gt t.ops a).pre) a2 c q9 q8 q49))) rfl rfl rfl q48 rfl rfl ?_
  refine .gv (nt rfl) rfl rfl rfl q48 rfl rfl ?_
  refine .v (pkF rfl q48 rfl) rfl rfl rfl ?_
  refine .v (mv rfl) rfl rfl rfl ?_
  rcases Bool.eq_false_or_eq_true (!r5) with q51 | q51
  · replace hF := hF.1 q51
    refine .gS rfl rfl rfl q51 rfl rfl ?_
    refine .gS rfl rfl rfl q51 rfl rfl ?_
    refine .gS rfl rfl rfl q51 rfl rfl ?_
    refine .gS rfl rfl rfl q51 rfl rfl ?_
    refine .gS rfl rfl rfl q51 rfl rfl ?_
    refine .gS rfl rfl rfl q51 rfl rfl ?_
    refine .v (pkT rfl q51 rfl) rfl rfl rfl ?_
    refine .v (mv rfl) rfl rfl rfl ?_
    refine .gS rfl rfl rfl rfl rfl rfl ?_
    refine .gS rfl rfl rfl rfl rfl rfl ?_
    refine .gS rfl rfl rfl rfl rfl rfl ?_
    refine .gS rfl rfl rfl rfl rfl rfl ?_
    refine .gS rfl rfl rfl rfl rfl rfl ?_
    refine .gS rfl rfl rfl rfl rfl rfl ?_
    refine .v (pkT rfl rfl rfl) rfl rfl rfl ?_
    refine .v (asg rfl) rfl rfl rfl ?_
    refine .nil ?_
    refine .seqN ?_
    refine .ret ?_
    refine .res1 rfl (rvT rfl) (fun w' S => ⟨true, hF, rfl, S.below⟩)
  replace hF := hF.2 q51
  refine .gv (fa rfl tF89_1) rfl rfl rfl q51 rfl rfl ?_
  refine .gv (ld1 rfl tO22 (cellB (off := 1) (k := 1) rfl rfl)) rfl rfl rfl q51 rfl rfl ?_
  refine .gv (fa rfl tF89_2) rfl rfl rfl q51 rfl rfl ?_
  refine .gv (ld1 rfl tO22 (cellB (off := 2) (k := 0) rfl rfl)) rfl rfl rfl q51 rfl rfl ?_
  obtain ⟨q52, hF⟩ := hF
  obtain ⟨r6, q53⟩ : ∃ y_ : Bool, y_ = sp_disjoint ((gt t.ops a).add) ((gt t.ops b).del) := ⟨_, rfl⟩
  replace hF := hF r6 q53
  refine .gc (cl (v := .bool r6) Try.call66 rfl rfl (fun w S => (by rw [q53]; exact c_disjoint S.sub ((gt t.ops a).add) a3 c2 q11 q10 ((gt t.ops b).del) a7 c6 q21 q20 q52))) rfl rfl rfl q51 rfl rfl ?_
  refine .gv (nt rfl) rfl rfl rfl q51 rfl rfl ?_
  refine .v (pkF rfl q51 rfl) rfl rfl rfl ?_
  refine .v (mv rfl) rfl rfl rfl ?_
  rcases Bool.eq_false_or_eq_true (!r6) with q54 | q54
  · replace hF := hF.1 q54
    refine .gS rfl rfl rfl q54 rfl rfl ?_
    refine .gS rfl rfl rfl q54 rfl rfl ?_
    refine .gS rfl rfl rfl q54 rfl rfl ?_
    refine .gS rfl rfl rfl q54 rfl rfl ?_
    refine .gS rfl rfl rfl q54 rfl rfl ?_
    refine .gS rfl rfl rfl q54 rfl rfl ?_
    refine .v (pkT rfl q54 rfl) rfl rfl rfl ?_
    refine .v (asg rfl) rfl rfl rfl ?_
    refine .nil ?_
    refine .seqN ?_
    refine .ret ?_
    refine .res1 rfl (rvT rfl) (fun w' S => ⟨true, hF, rfl, S.below⟩)
  replace hF := hF.2 q54
  refine .gv (fa rfl tF89_2) rfl rfl rfl q54 rfl rfl ?_
  refine .gv (ld1 rfl tO22 (cellB (off := 2) (k := 1) rfl rfl)) rfl rfl rfl q54 rfl rfl ?_
  refine .gv (fa rfl tF89_1) rfl rfl rfl q54 rfl rfl ?_
  refine .gv (ld1 rfl tO22 (cellB (off := 1) (k := 0) rfl rfl)) rfl rfl rfl q54 rfl rfl ?_
  obtain ⟨q55, hF⟩ := hF
  obtain ⟨r7, q56⟩ : ∃ y_ : Bool, y_ = sp_disjoint ((gt t.ops a).del) ((gt t.ops b).add) := ⟨_, rfl⟩
  replace hF := hF r7 q56
  refine .gc (cl (v := .bool r7) Try.call66 rfl rfl (fun w S => (by rw [q56]; exact c_disjoint S.sub ((gt t.ops a).del) a4 c3 q13 q12 ((gt t.ops b).add) a6 c5 q19 q18 q55))) rfl rfl rfl q54 rfl rfl ?_
  refine .gv (nt rfl) rfl rfl rfl q54 rfl rfl ?_
  refine .v (pkF rfl q54 rfl) rfl rfl rfl ?_
  refine .v (asg rfl) rfl rfl rfl ?_
  refine .nil ?_
  refine .seqN ?_
  refine .ret ?_
  refine .res1 rfl (rvT rfl) (fun w' S => ⟨!r7, hF, rfl, S.below⟩)

theorem c_interfering {h : FH} {w : World} (hs : Sub h w) (t : Task) (at_ : Option Addr) (ct : Nat) (_q1 : RSl h at_ t.init) (_q2 : t.init.length ≤ ct) (at_2 : Option Addr) (ct2 : Nat) (_q3 : RSl h at_2 t.goal) (_q4 : t.goal.length ≤ ct2) (at_3 : Option Addr) (ct3 : Nat) (_q5 : RSl h at_3 t.ops) (_q6 : t.ops.length ≤ ct3) (a : Int) (b : Int) (hp : pre_interfere t a b) : Calls Try.prog 58 #[.agg #[.int .i64 t.facts, .slice at_ t.init.length ct, .slice at_2 t.goal.length ct2, .slice at_3 t.ops.length ct3], .int .i64 a, .int .i64 b] w fun e w' => e = .returned (.bool (sp_interfere t a b)) ∧ Below w.heap.size w w' :=
  (w_interfering hs t at_ ct _q1 _q2 at_2 ct2 _q3 _q4 at_3 ct3 _q5 _q6 a b (fun r => r = sp_interfere t a b) (ok_interfering t a b hp)).mono fun _ _ ⟨_, hk, he, hb⟩ => ⟨by rw [he, hk], hb⟩

theorem w_pairsOf {h : FH} {w : World} (hs : Sub h w) (t : Task) (at_ : Option Addr) (ct : Nat) (_q1 : RSl h at_ t.init) (_q2 : t.init.length ≤ ct) (at_2 : Option Addr) (ct2 : Nat) (_q3 : RSl h at_2 t.goal) (_q4 : t.goal.length ≤ ct2) (at_3 : Option Addr) (ct3 : Nat) (_q5 : RSl h at_3 t.ops) (_q6 : t.ops.length ≤ ct3) (plan : List Int) (aplan : Option Addr) (cplan : Nat) (_q7 : RSl h aplan plan) (_q8 : plan.length ≤ cplan) (K : (List (Int × Int)) → Prop) (hF : F_pairsOf t plan K) : Calls Try.prog 30 #[.agg #[.int .i64 t.facts, .slice at_ t.init.length ct, .slice at_2 t.goal.length ct2, .slice at_3 t.ops.length ct3], .slice aplan plan.length cplan] w fun e w' => ∃ (r : (List (Int × Int))) (z : Option Addr × Nat) (h1 : FH), K r ∧ e = .returned (.slice z.1 r.length z.2) ∧ FH.le h h1 ∧ (RSl h1 z.1 r ∧ r.length ≤ z.2) ∧ SH (Kp.all w h) h1 w' [] := by
  refine enter (args := [.agg #[.int .i64 t.facts, .slice at_ t.init.length ct, .slice at_2 t.goal.length ct2, .slice at_3 t.ops.length ct3], .slice aplan plan.length cplan]) Try.func30 rfl Try.ntmps30 rfl hs ?_
  refine .seq ?_
  refine .region ?_
  refine bx (vs := [.int .i64 t.facts, .slice at_ t.init.length ct, .slice at_2 t.goal.length ct2, .slice at_3 t.ops.length ct3]) rfl rfl rfl (fun pt => ?_)
  refine .v (asg rfl) rfl rfl rfl ?_
  refine .nil ?_
  refine .seqN ?_
  refine .seq ?_
  refine .region ?_
  refine .v (asg rfl) rfl rfl rfl ?_
  refine .nil ?_
  refine .seqN ?_
  refine .seq ?_
  refine .seq ?_
  refine .region ?_
  refine .v (asg rfl) rfl rfl rfl ?_
  refine .nil ?_
  refine .seqN ?_
  refine .block ?_
  refine .nilSl 43 2 ?_
  refine .cast (A' := [OwnSl 43 2 none (([] : List (Int × Int)).length) 0 (flL ([] : List (Int × Int))), Box pt [.int .i64 t.facts, .slice at_ t.init.length ct, .slice at_2 t.goal.length ct2, .slice at_3 t.ops.length ct3]]) rfl ?_
  refine .sel0 [1, 0] (by decide) rfl ?_
  obtain ⟨I1, μ1, q921, q922⟩ := hF
  refine .loop' (σ := Int × List (Int × Int) × Option Addr × Nat) (fun z => I1 z.1 z.2.1) (fun z => μ1 z.1 z.2.1) (fun z => [(1, .slice aplan plan.length cplan), (2, .pointer (some pt)), (5, .slice z.2.2.1 z.2.1.length z.2.2.2), (6, .int .i64 z.1)]) (fun z => [Box pt [.int .i64 t.facts, .slice at_ t.init.length ct, .slice at_2 t.goal.length ct2, .slice at_3 t.ops.length ct3], OwnSl 43 2 z.2.2.1 z.2.1.length z.2.2.2 (flL z.2.1)]) (fun _ => h) (0, ([] : List (Int × Int)), none, 0) q921 (.cons rfl (.cons rfl (.cons rfl (.cons rfl (.nil))))) rfl (FH.le_refl _) ?_
  rintro ⟨i, out, aout, cout⟩ q921
  have hF := q922 i out q921
  show J _ _ _ _ _ [(1, .slice aplan plan.length cplan), (2, .pointer (some pt)), (5, .slice aout out.length cout), (6, .int .i64 i)] [Box pt [.int .i64 t.facts, .slice at_ t.init.length ct, .slice at_2 t.goal.length ct2, .slice at_3 t.ops.length ct3], OwnSl 43 2 aout out.length cout (flL out)] h
  refine .seq ?_
  refine .seq ?_
  refine .region ?_
  refine .v (mv rfl) rfl rfl rfl ?_
  refine .v (mv rfl) rfl rfl rfl ?_
  refine .v (ln rfl tS22.is) rfl rfl rfl ?_
  refine .v (bi rfl rfl rfl) rfl rfl rfl ?_
  refine .nil ?_
  refine .seqN ?_
  refine .cond rfl (fun q924 => ?_) (fun q924 => ?_)
  · replace hF := hF.1 q924
    refine .skip ?_
    refine .seqN ?_
    refine .seq ?_
    refine .block ?_
    refine .seq ?_
    refine .region ?_
    refine .v (mv rfl) rfl rfl rfl ?_
    refine .v (bi rfl rfl rfl) rfl rfl rfl ?_
    refine .v (asg rfl) rfl rfl rfl ?_
    refine .nil ?_
    refine .seqN ?_
    refine .block ?_
    obtain ⟨I2, μ2, q1084, q1085⟩ := hF
    refine .loop' (σ := Int × List (Int × Int) × Option Addr × Nat) (fun z => I2 z.1 z.2.1) (fun z => μ2 z.1 z.2.1) (fun z => [(1, .slice aplan plan.length cplan), (2, .pointer (some pt)), (5, .slice z.2.2.1 z.2.1.length z.2.2.2), (6, .int .i64 i), (7, .int .i64 z.1)]) (fun z => [Box pt [.int .i64 t.facts, .slice at_ t.init.length ct, .slice at_2 t.goal.length ct2, .slice at_3 t.ops.length ct3], OwnSl 43 2 z.2.2.1 z.2.1.length z.2.2.2 (flL z.2.1)]) (fun _ => h) (IntKind.i64.wrap (i + 1), out, aout, cout) q1084 (.cons rfl (.cons rfl (.cons rfl (.cons rfl (.cons rfl (.nil)))))) rfl (FH.le_refl _) ?_
    rintro ⟨j, out3, aout3, cout3⟩ q1084
    have hF := q1085 j out3 q1084
    show J _ _ _ _ _ [(1, .slice aplan plan.length cplan), (2, .pointer (some pt)), (5, .slice aout3 out3.length cout3), (6, .int .i64 i), (7, .int .i64 j)] [Box pt [.int .i64 t.facts, .slice at_ t.init.length ct, .slice at_2 t.goal.length ct2, .slice at_3 t.ops.length ct3], OwnSl 43 2 aout3 out3.length cout3 (flL out3)] h
    refine .seq ?_
    refine .seq ?_
    refine .region ?_
    refine .v (mv rfl) rfl rfl rfl ?_
    refine .v (mv rfl) rfl rfl rfl ?_
    refine .v (ln rfl tS22.is) rfl rfl rfl ?_
    refine .v (bi rfl rfl rfl) rfl rfl rfl ?_
    refine .nil ?_
    refine .seqN ?_
    refine .cond rfl (fun q1087 => ?_) (fun q1087 => ?_)
    · replace hF := hF.1 q1087
      refine .skip ?_
      refine .seqN ?_
      refine .share (σ := List (Int × Int) × Option Addr × Nat) (fun z => F_pairsOf_J1 j I2 μ2 out3 z.1) (fun z => [(1, .slice aplan plan.length cplan), (2, .pointer (some pt)), (5, .slice z.2.1 z.1.length z.2.2), (6, .int .i64 i), (7, .int .i64 j)]) (fun z => [Box pt [.int .i64 t.facts, .slice at_ t.init.length ct, .slice at_2 t.goal.length ct2, .slice at_3 t.ops.length ct3], OwnSl 43 2 z.2.1 z.1.length z.2.2 (flL z.1)]) (fun _ => h) ?_ (fun q1096 => ?_)
      · rintro ⟨out5, aout5, cout5⟩ hF
        show J _ _ _ _ _ [(1, .slice aplan plan.length cplan), (2, .pointer (some pt)), (5, .slice aout5 out5.length cout5), (6, .int .i64 i), (7, .int .i64 j)] [Box pt [.int .i64 t.facts, .slice at_ t.init.length ct, .slice at_2 t.goal.length ct2, .slice at_3 t.ops.length ct3], OwnSl 43 2 aout5 out5.length cout5 (flL out5)] h
        refine .region ?_
        refine .v (mv rfl) rfl rfl rfl ?_
        refine .v (bi rfl rfl rfl) rfl rfl rfl ?_
        refine .v (asg rfl) rfl rfl rfl ?_
        refine .nil ?_
        exact .round (IntKind.i64.wrap (j + 1), out5, aout5, cout5) hF.1 hF.2 (.cons rfl (.cons rfl (.cons rfl (.cons rfl (.cons rfl (.nil)))))) rfl (FH.le_refl _)
      refine .block ?_
      refine .seq ?_
      refine .open_ (by kernel_rfl) (by kernel_rfl) ?_
      refine .v (ldA (cs := [.int .i64 t.facts, .slice at_ t.init.length ct, .slice at_2 t.goal.length ct2, .slice at_3 t.ops.length ct3]) rfl tA25 rfl (cellsB (off := 0) (k := 0) rfl (m := 4) rfl)) rfl rfl rfl ?_
      refine .v (mv rfl) rfl rfl rfl ?_
      refine .v (mv rfl) rfl rfl rfl ?_
      obtain ⟨q1097, hF⟩ := hF
      refine .v (ix rfl rfl tS22 (_q7.ne (by decide) (inb_pos q1097)) q1097) rfl rfl rfl ?_
      refine .v (ld1 (v := .int .i64 (gt plan i)) rfl tO3 (cellH (_q7.elemF q1097 (by decide) 0 _ rfl))) rfl rfl rfl ?_
      refine .v (mv rfl) rfl rfl rfl ?_
      refine .v (mv rfl) rfl rfl rfl ?_
      obtain ⟨q1098, hF⟩ := hF
      refine .v (ix rfl rfl tS22 (_q7.ne (by decide) (inb_pos q1098)) q1098) rfl rfl rfl ?_
      refine .v (ld1 (v := .int .i64 (gt plan j)) rfl tO3 (cellH (_q7.elemF q1098 (by decide) 0 _ rfl))) rfl rfl rfl ?_
      obtain ⟨q1099, hF⟩ := hF
      obtain ⟨r2, q1100⟩ : ∃ y_ : Bool, y_ = sp_interfere t (gt plan i) (gt plan j) := ⟨_, rfl⟩
      replace hF := hF r2 q1100
      refine .c (cl (v := .bool r2) Try.call58 rfl rfl (fun w S => (by rw [q1100]; exact c_interfering S.sub t at_ ct _q1 _q2 at_2 ct2 _q3 _q4 at_3 ct3 _q5 _q6 (gt plan i) (gt plan j) q1099))) rfl rfl rfl ?_
      refine .fin ?_
      refine .seqN ?_
      refine .cond rfl (fun q1101 => ?_) (fun q1101 => ?_)
      · replace hF := hF.1 q1101
        refine .region ?_
        refine .v (mv rfl) rfl rfl rfl ?_
        refine .v (mv rfl) rfl rfl rfl ?_
        refine .v (mv rfl) rfl rfl rfl ?_
        refine .v (bldA (cs := #[.int .i64 i, .int .i64 j]) (pv := [(0, .int .i64 i), (1, .int .i64 j)]) tB43 rfl rfl) rfl rfl rfl ?_
        refine bs2 (cs := #[.int .i64 i, .int .i64 j]) (pv := [(0, .agg #[.int .i64 i, .int .i64 j])]) tS26 rfl rfl (by decide) (by decide) rfl rfl rfl (fun a _ => ?_)
        refine .cast (A' := [OwnSl 43 2 a (([(⟨i, j⟩ : Int × Int)] : List (Int × Int)).length) 1 (flL ([(⟨i, j⟩ : Int × Int)] : List (Int × Int))), Box pt [.int .i64 t.facts, .slice at_ t.init.length ct, .slice at_2 t.goal.length ct2, .slice at_3 t.ops.length ct3], OwnSl 43 2 aout3 out3.length cout3 (flL out3)]) rfl ?_
        obtain ⟨q1103, hF⟩ := hF
        have q1104 : out3.length + ([(⟨i, j⟩ : Int × Int)] : List (Int × Int)).length = ((out3 ++ ([(⟨i, j⟩ : Int × Int)] : List (Int × Int)))).length := len_app rfl rfl
        refine app (k := 2) (news := flL ([(⟨i, j⟩ : Int × Int)] : List (Int × Int))) (cs' := flL (out3 ++ ([(⟨i, j⟩ : Int × Int)] : List (Int × Int)))) (nm := ((out3 ++ ([(⟨i, j⟩ : Int × Int)] : List (Int × Int)))).length) tS26 rfl (by decide) rfl rfl rfl (by rw [flL_len]; rfl) (srcS (k := 0) rfl) (flL_one _) (room_of q1104 q1103).1 (room_of q1104 q1103).2 q1104 (flL_append _ _).symm rfl (fun a2 c => ?_)
        refine .cast (A' := [OwnSl 43 2 a (([(⟨i, j⟩ : Int × Int)] : List (Int × Int)).length) 1 (flL ([(⟨i, j⟩ : Int × Int)] : List (Int × Int))), Box pt [.int .i64 t.facts, .slice at_ t.init.length ct, .slice at_2 t.goal.length ct2, .slice at_3 t.ops.length ct3], OwnSl 43 2 a2 ((out3 ++ ([(⟨i, j⟩ : Int × Int)] : List (Int × Int))).length) c (flL (out3 ++ ([(⟨i, j⟩ : Int × Int)] : List (Int × Int))))]) rfl ?_
        refine .v (asg rfl) rfl rfl rfl ?_
        refine .nil ?_
        refine .blkN ?_
        refine .sel0 [1, 2] (by decide) rfl ?_
        exact .use q1096 ((out3 ++ ([(⟨i, j⟩ : Int × Int)] : List (Int × Int))), a2, c) hF (.cons rfl (.cons rfl (.cons rfl (.cons rfl (.cons rfl (.nil)))))) rfl (FH.le_refl _)
      replace hF := hF.2 q1101
      refine .skip ?_
      refine .blkN ?_
      exact .use q1096 (out3, aout3, cout3) hF (.cons rfl (.cons rfl (.cons rfl (.cons rfl (.cons rfl (.nil)))))) rfl (FH.le_refl _)
    replace hF := hF.2 q1087
    refine .exit ?_
    refine .seqX ?_
    refine .seqX ?_
    refine .blkX ?_
    refine .blkN ?_
    refine .seqN ?_
    refine .region ?_
    refine .v (mv rfl) rfl rfl rfl ?_
    refine .v (bi rfl rfl rfl) rfl rfl rfl ?_
    refine .v (asg rfl) rfl rfl rfl ?_
    refine .nil ?_
    exact .round (IntKind.i64.wrap (i + 1), out3, aout3, cout3) hF.1 hF.2 (.cons rfl (.cons rfl (.cons rfl (.cons rfl (.nil))))) rfl (FH.le_refl _)
  replace hF := hF.2 q924
  refine .exit ?_
  refine .seqX ?_
  refine .seqX ?_
  refine .blkX ?_
  refine .seqN ?_
  refine .seq ?_
  refine .region ?_
  refine .v (mv rfl) rfl rfl rfl ?_
  refine .v (asg rfl) rfl rfl rfl ?_
  refine .nil ?_
  refine .seqN ?_
  refine .freezeL (k := 1) rfl (fun h1 le1 q1106 q1105 => ?_)
  refine .cast (A' := [Box pt [.int .i64 t.facts, .slice at_ t.init.length ct, .slice at_2 t.goal.length ct2, .slice at_3 t.ops.length ct3], tru]) rfl ?_
  refine .ret ?_
  refine .res1 rfl (rvT rfl) (fun w' S => ⟨out, (aout, cout), h1, hF, rfl, (le1), ⟨(RSl.of q1105), (q1106)⟩, S.none⟩)

theorem c_pairsOf {h : FH} {w : World} (hs : Sub h w) (t : Task) (at_ : Option Addr) (ct : Nat) (_q1 : RSl h at_ t.init) (_q2 : t.init.length ≤ ct) (at_2 : Option Addr) (ct2 : Nat) (_q3 : RSl h at_2 t.goal) (_q4 : t.goal.length ≤ ct2) (at_3 : Option Addr) (ct3 : Nat) (_q5 : RSl h at_3 t.ops) (_q6 : t.ops.length ≤ ct3) (plan : List Int) (aplan : Option Addr) (cplan : Nat) (_q7 : RSl h aplan plan) (_q8 : plan.length ≤ cplan) (hp : pre_pairsOf t plan) : Calls Try.prog 30 #[.agg #[.int .i64 t.facts, .slice at_ t.init.length ct, .slice at_2 t.goal.length ct2, .slice at_3 t.ops.length ct3], .slice aplan plan.length cplan] w fun e w' => ∃ (z : Option Addr × Nat) (h1 : FH), e = .returned (.slice z.1 (sp_pairsOf t plan).length z.2) ∧ FH.le h h1 ∧ (RSl h1 z.1 (sp_pairsOf t plan) ∧ (sp_pairsOf t plan).length ≤ z.2) ∧ SH (Kp.all w h) h1 w' [] :=
  (w_pairsOf hs t at_ ct _q1 _q2 at_2 ct2 _q3 _q4 at_3 ct3 _q5 _q6 plan aplan cplan _q7 _q8 (fun r => r = sp_pairsOf t plan) (ok_pairsOf t plan hp)).mono fun _ _ ⟨r, z, h1, hk, he, hl, hf, hS⟩ => by subst hk; exact ⟨z, h1, he, hl, hf, hS⟩

theorem w_twoInts {h : FH} {w : World} (hs : Sub h w) (a : List (Int × Int)) (aa : Option Addr) (ca : Nat) (_q1 : RSl h aa a) (_q2 : a.length ≤ ca) (b : List (Int × Int)) (ab : Option Addr) (cb : Nat) (_q3 : RSl h ab b) (_q4 : b.length ≤ cb) (K : Bool → Prop) (hF : F_twoInts a b K) : Calls Try.prog 29 #[.slice aa a.length ca, .slice ab b.length cb] w fun e w' => ∃ r : Bool, K r ∧ e = .returned (.bool r) ∧ Below w.heap.size w w' := by
  refine enter (args := [.slice aa a.length ca, .slice ab b.length cb]) Try.func29 rfl Try.ntmps29 rfl hs ?_
  refine .seq ?_
  refine .region ?_
  refine .v (asg rfl) rfl rfl rfl ?_
  refine .nil ?_
  refine .seqN ?_
  refine .seq ?_
  refine .seq ?_
  refine .region ?_
  refine .v (mv rfl) rfl rfl rfl ?_
  refine .v (ln rfl tS26.is) rfl rfl rfl ?_
  refine .v (mv rfl) rfl rfl rfl ?_
  refine .v (ln rfl tS26.is) rfl rfl rfl ?_
  refine .v (bi rfl rfl rfl) rfl rfl rfl ?_
  refine .nil ?_
  refine .seqN ?_
  refine .cond rfl (fun q6 => ?_) (fun q6 => ?_)
  · replace hF := hF.1 q6
    refine .seq ?_
    refine .region ?_
    refine .v (asg rfl) rfl rfl rfl ?_
    refine .nil ?_
    refine .seqN ?_
    refine .ret ?_
    refine .seqR ?_
    refine .res1 rfl (rvT rfl) (fun w' S => ⟨false, hF, rfl, S.below⟩)
  replace hF := hF.2 q6
  refine .skip ?_
  refine .seqN ?_
  refine .seq ?_
  refine .seq ?_
  refine .region ?_
  refine .v (asg rfl) rfl rfl rfl ?_
  refine .nil ?_
  refine .seqN ?_
  refine .block ?_
  obtain ⟨I1, μ1, q79, q80⟩ := hF
  refine .loop' (σ := Int) (fun z => I1 z) (fun z => μ1 z) (fun z => [(0, .slice aa a.length ca), (1, .slice ab b.length cb), (5, .int .i64 z)]) (fun _ => []) (fun _ => h) 0 q79 (.cons rfl (.cons rfl (.cons rfl (.nil)))) rfl (FH.le_refl _) ?_
  rintro i q79
  have hF := q80 i q79
  show J _ _ _ _ _ [(0, .slice aa a.length ca), (1, .slice ab b.length cb), (5, .int .i64 i)] [] h
  refine .seq ?_
  refine .seq ?_
  refine .region ?_
  refine .v (mv rfl) rfl rfl rfl ?_
  refine .v (mv rfl) rfl rfl rfl ?_
  refine .v (ln rfl tS26.is) rfl rfl rfl ?_
  refine .v (bi rfl rfl rfl) rfl rfl rfl ?_
  refine .nil ?_
  refine .seqN ?_
  refine .cond rfl (fun q82 => ?_) (fun q82 => ?_)
  · replace hF := hF.1 q82
    refine .skip ?_
    refine .seqN ?_
    refine .seq ?_
    refine .block ?_
    refine .seq ?_
    refine .open_ (by kernel_rfl) (by kernel_rfl) ?_
    refine .v (mv rfl) rfl rfl rfl ?_
    refine .v (mv rfl) rfl rfl rfl ?_
    obtain ⟨q91, hF⟩ := hF
    refine .v (ix rfl rfl tS26 (_q1.ne (by decide) (inb_pos q91)) q91) rfl rfl rfl ?_
    refine .v (ldA (cs := [.int .i64 ((gt a i).1), .int .i64 ((gt a i).2)]) rfl tA43 rfl (cellsH (_q1.elemF q91 (by decide)))) rfl rfl rfl ?_
    refine .v (mv rfl) rfl rfl rfl ?_
    refine .v (mv rfl) rfl rfl rfl ?_
    obtain ⟨q92, hF⟩ := hF
    refine .v (ix rfl rfl tS26 (_q3.ne (by decide) (inb_pos q92)) q92) rfl rfl rfl ?_
    refine .v (ldA (cs := [.int .i64 ((gt b i).1), .int .i64 ((gt b i).2)]) rfl tA43 rfl (cellsH (_q3.elemF q92 (by decide)))) rfl rfl rfl ?_
    obtain ⟨x, q93⟩ : ∃ y_ : Bool, y_ = (!((((gt a i).1) == ((gt b i).1)) && (((gt a i).2) == ((gt b i).2)))) := ⟨_, rfl⟩
    replace hF := hF x q93
    refine .v (v := .bool x) (by rw [q93]; exact ne2 tE43 rfl rfl) rfl rfl rfl ?_
    refine .fin ?_
    refine .seqN ?_
    refine .cond rfl (fun q94 => ?_) (fun q94 => ?_)
    · replace hF := hF.1 q94
      refine .seq ?_
      refine .region ?_
      refine .v (asg rfl) rfl rfl rfl ?_
      refine .nil ?_
      refine .seqN ?_
      refine .ret ?_
      refine .blkR ?_
      refine .seqR ?_
      refine .seqR ?_
      refine .blkR ?_
      refine .seqR ?_
      refine .res1 rfl (rvT rfl) (fun w' S => ⟨false, hF, rfl, S.below⟩)
    replace hF := hF.2 q94
    refine .skip ?_
    refine .blkN ?_
    refine .seqN ?_
    refine .region ?_
    refine .v (mv rfl) rfl rfl rfl ?_
    refine .v (bi rfl rfl rfl) rfl rfl rfl ?_
    refine .v (asg rfl) rfl rfl rfl ?_
    refine .nil ?_
    exact .round (IntKind.i64.wrap (i + 1)) hF.1 hF.2 (.cons rfl (.cons rfl (.cons rfl (.nil)))) rfl (FH.le_refl _)
  replace hF := hF.2 q82
  refine .exit ?_
  refine .seqX ?_
  refine .seqX ?_
  refine .blkX ?_
  refine .seqN ?_
  refine .seq ?_
  refine .region ?_
  refine .v (asg rfl) rfl rfl rfl ?_
  refine .nil ?_
  refine .seqN ?_
  refine .ret ?_
  refine .res1 rfl (rvT rfl) (fun w' S => ⟨true, hF, rfl, S.below⟩)

theorem c_twoInts {h : FH} {w : World} (hs : Sub h w) (a : List (Int × Int)) (aa : Option Addr) (ca : Nat) (_q1 : RSl h aa a) (_q2 : a.length ≤ ca) (b : List (Int × Int)) (ab : Option Addr) (cb : Nat) (_q3 : RSl h ab b) (_q4 : b.length ≤ cb) (hp : pre_twoInts a b) : Calls Try.prog 29 #[.slice aa a.length ca, .slice ab b.length cb] w fun e w' => e = .returned (.bool (sp_twoInts a b)) ∧ Below w.heap.size w w' :=
  (w_twoInts hs a aa ca _q1 _q2 b ab cb _q3 _q4 (fun r => r = sp_twoInts a b) (ok_twoInts a b hp)).mono fun _ _ ⟨_, hk, he, hb⟩ => ⟨by rw [he, hk], hb⟩

end Go.Proofs.Ytihbfbofbdkmbaa.Pl
