import Derived.Test.YtimillpakjgnoaaGreatM1
import Derived.Test.YtimillpakjgnoaaGreatM4
namespace Go.Proofs.YtimillpakjgnoaaGreat.Pl
open Go Go.RowKit
theorem w_relMax {h : FH} {w : World} (hs : Sub h w) (t : Task) (at_ : Option Addr) (ct : Nat) (_q1 : RSl h at_ t.init) (_q2 : t.init.length ≤ ct) (at_2 : Option Addr) (ct2 : Nat) (_q3 : RSl h at_2 t.goal) (_q4 : t.goal.length ≤ ct2) (at_3 : Option Addr) (ct3 : Nat) (_q5 : RSl h at_3 t.ops) (_q6 : t.ops.length ≤ ct3) (s_ : List Int) (as_ : Option Addr) (cs_ : Nat) (_q7 : RSl h as_ s_) (_q8 : s_.length ≤ cs_) (K : (List Int × Int × Fault) → Prop) (hF : F_relMax t s_ K) : Calls Tryz.prog 11 #[.agg #[iV t.facts, .slice at_ t.init.length ct, .slice at_2 t.goal.length ct2, .slice at_3 t.ops.length ct3], .slice as_ s_.length cs_] w fun e w' => ∃ (r : List Int × Int × Fault) (z : Option Addr × Nat) (h1 : FH), K r ∧ e = .returned (.tuple #[.slice z.1 r.1.length z.2, iV r.2.1, .agg #[iV r.2.2.code, iV r.2.2.index]]) ∧ FH.le h h1 ∧ (RSl h1 z.1 r.1 ∧ r.1.length ≤ z.2) ∧ SH (Kp.all w h) h1 w' [] := by
 refine enter (args := [.agg (tF t at_ ct at_2 ct2 at_3 ct3).toArray, vSl as_ s_ cs_]) Tryz.func11 rfl Tryz.ntmps11 rfl hs ?_
 refine .seq (.region ?_)
 refine bx (vs := (tF t at_ ct at_2 ct2 at_3 ct3)) rfl rfl rfl (fun pt => ?_)
 refine .V ag0 ?_
 refine .V ag0 ?_
 refine al tZ27 rfl (fun pv => ?_)
 refine .nil (.seqN (.seq (.region (.V (ldA (cs := (tF t at_ ct at_2 ct2 at_3 ct3)) rfl tA25 rfl (cellsB (off := 0) (k := 1) rfl (m := 4) rfl)) ?_))))
 refine .V mv0 ?_
 refine .inl Tryz.func30 rfl Tryz.ntmps30 Tryz.call30 rfl rfl rfl rfl (fun a q9 => ?_)
 refine .seq (.region ?_)
 refine bx (vs := (tF t at_ ct at_2 ct2 at_3 ct3)) rfl rfl rfl (fun pt2 => ?_)
 refine .V ag0 ?_
 refine .V ag0 ?_
 refine al tZ27 rfl (fun pv2 => ?_)
 refine .nil (.seqN (.seq (.seq (.region (.V (ldA (cs := (tF t at_ ct at_2 ct2 at_3 ct3)) rfl tA25 rfl (cellsB (off := 0) (k := 1) rfl (m := 4) rfl)) ?_)))))
 refine .V mv0 ?_
 obtain ⟨r2, q10⟩ : ∃ y_ : Fault, y_ = sp_stateFault t s_ := ⟨_, rfl⟩
 replace hF := hF r2 q10
 refine .C (cl (v := .agg #[iV r2.code, iV r2.index]) Tryz.call25 rfl rfl (fun w S => (by rw [q10]; exact c_stateFault S.sub t at_ ct _q1 _q2 at_2 ct2 _q3 _q4 at_3 ct3 _q5 _q6 s_ as_ cs_ _q7 _q8 ))) ?_
 refine al tZ27 rfl (fun pf => ?_)
 refine st (p := pf) (off := 0) (k := 0) (vs := [iV r2.code, iV r2.index]) rfl rfl rfl (fun w => (tA27 w).2) rfl rfl rfl rfl ?_
 refine .KA [Box pf [iV r2.code, iV r2.index], Box pv2 [iV 0, iV 0], Box pt2 (tF t at_ ct at_2 ct2 at_3 ct3), Box pv [iV 0, iV 0], Box pt (tF t at_ ct at_2 ct2 at_3 ct3)] ?_
 refine .nil (.seqN (.seq (.region (.V (ldA (cs := [iV r2.code, iV r2.index]) rfl tA27 rfl (cellsB (off := 0) (k := 0) rfl (m := 2) rfl)) ?_))))
 refine .V (bld (cs := #[iV 0, iV 0]) (pv := []) tB27 rfl rfl) ?_
 refine .V (ne2 tE27 rfl rfl) ?_
 refine .nil (.seqN ?_)
 refine .cond rfl (fun q12 => ?_) (fun q12 => ?_)
 ·replace hF := hF.1 q12
  refine .seq ?_
  refine .openA (s0 := [(8, .pointer (some pv2)), (9, .pointer (some pf))]) [0, 1, 2] [(0, .agg #[iV r2.code, iV r2.index]), (1, .slice none 0 0), (2, iV 0)] (by kernel_rfl) sb [8, 9] [] rfl (by kernel_rfl) ?_
  refine .step [3] 3 rfl (by kernel_rfl) (by kernel_rfl) (.v [] rfl rfl rfl rfl rfl rfl (fun _ => ldA (cs := [iV r2.code, iV r2.index]) rfl tA27 rfl (cellsB (off := 0) (k := 0) rfl (m := 2) rfl)) (.v [] rfl rfl rfl rfl rfl rfl (fun _ => asg rfl) (.v [(6, .slice none 0 0), (6, .slice none 0 0)] rfl rfl rfl rfl rfl rfl (fun _ => asg rfl) (.nil)))) (.cons [(17, .agg #[iV r2.code, iV r2.index]), (7, iV 0), (17, .agg #[iV r2.code, iV r2.index]), (6, .slice none 0 0), (7, iV 0)] rfl rfl (fun sL hL => ?_) (.nil))
  refine st (p := pv2) (off := 0) (k := 1) (vs := [iV r2.code, iV r2.index]) rfl rfl rfl (fun w => (tA27 w).2) rfl rfl rfl rfl ?_
  refine .KA [Box pf [iV r2.code, iV r2.index], Box pv2 [iV r2.code, iV r2.index], Box pt2 (tF t at_ ct at_2 ct2 at_3 ct3), Box pv [iV 0, iV 0], Box pt (tF t at_ ct at_2 ct2 at_3 ct3)] ?_
  refine .nil ?_
  refine .jaN (M := [0, 2, 1]) (C' := []) (pre := []) [8, 9] hL rfl rfl rfl rfl rfl (by kernel_rfl) ?_
  refine .last [(17, .agg #[iV r2.code, iV r2.index]), (6, .slice none 0 0), (7, iV 0)] rfl (by kernel_rfl) (.nil) rfl ?_
  refine .seqN (.ret (.seqR ?_))
  refine .res3 rfl (rvT rfl) (rvT rfl) (rvC rfl tA27 (k := 1) rfl rfl) (inl_back (v := .tuple #[.slice none 0 0, iV 0, .agg #[iV r2.code, iV r2.index]]) q9 rfl ?_)
  refine .KA [Box pf [iV r2.code, iV r2.index], Box pv2 [iV r2.code, iV r2.index], Box pt2 (tF t at_ ct at_2 ct2 at_3 ct3), Box pv [iV 0, iV 0], Box pt (tF t at_ ct at_2 ct2 at_3 ct3)] ?_
  refine .V (ext rfl rfl) ?_
  refine .V (ext rfl rfl) ?_
  refine .V (ext rfl rfl) ?_
  refine .V ag0 ?_
  refine .V ag0 ?_
  refine st (p := pv) (off := 0) (k := 3) (vs := [iV r2.code, iV r2.index]) rfl rfl rfl (fun w => (tA27 w).2) rfl rfl rfl rfl ?_
  refine .KA [Box pf [iV r2.code, iV r2.index], Box pv2 [iV r2.code, iV r2.index], Box pt2 (tF t at_ ct at_2 ct2 at_3 ct3), Box pv [iV r2.code, iV r2.index], Box pt (tF t at_ ct at_2 ct2 at_3 ct3)] ?_
  refine .nil (.seqN (.ret ?_))
  refine .res3 rfl (rvT rfl) (rvT rfl) (rvC rfl tA27 (k := 3) rfl rfl) (fun w' S => ⟨(([] : List Int), 0, r2), (none, 0), h, hF, rfl, (FH.le_refl _), ⟨RSl.nil_, (Nat.le_refl 0)⟩, S.none⟩)
 replace hF := hF.2 q12
 refine .skip (.seqN (.seq ?_))
 refine .openA (s0 := [(1, vSl as_ s_ cs_), (2, .func (.func 31) #[] #[]), (3, .pointer (some pt2)), (8, .pointer (some pv2))]) [0, 1, 2, 4] [(0, .agg (tF t at_ ct at_2 ct2 at_3 ct3).toArray), (1, vSl as_ s_ cs_), (2, .agg (tF t at_ ct at_2 ct2 at_3 ct3).toArray), (4, .func (.func 31) #[] #[])] (by kernel_rfl) sb [1, 2, 3, 8] [] rfl (by kernel_rfl) ?_
 refine .step [3] 3 rfl (by kernel_rfl) (by kernel_rfl) (.v [] rfl rfl rfl rfl rfl rfl (fun _ => ldA (cs := (tF t at_ ct at_2 ct2 at_3 ct3)) rfl tA25 rfl (cellsB (off := 0) (k := 2) rfl (m := 4) rfl)) (.v [] rfl rfl rfl rfl rfl rfl (fun _ => mv rfl) (.v [] rfl rfl rfl rfl rfl rfl (fun _ => ldA (cs := (tF t at_ ct at_2 ct2 at_3 ct3)) rfl tA25 rfl (cellsB (off := 0) (k := 2) rfl (m := 4) rfl)) (.v [] rfl rfl rfl rfl rfl rfl (fun _ => mv rfl) (.nil))))) (.cons [(20, .agg (tF t at_ ct at_2 ct2 at_3 ct3).toArray)] rfl rfl (fun sL hL => ?_) (.nil))
 obtain ⟨q17, hF⟩ := hF
 obtain ⟨r3, q18⟩ : ∃ y_ : List Int, y_ = sp_costsR t := ⟨_, rfl⟩
 replace hF := hF r3 q18
 refine clO (α := Option Addr × Nat) (V := fun z => vSl z.1 r3 z.2) (Ψ := fun z => True) (B := fun z => [oL 3 1 z.1 r3 z.2]) Tryz.call65 rfl rfl (fun w S => (by rw [q18]; exact c_costsR S.sub t at_ ct _q1 _q2 at_2 ct2 _q3 _q4 at_3 ct3 _q5 _q6 q17)) rfl (fun z _ => ?_)
 obtain ⟨a2, c⟩ := z
 refine .KA [oL 3 1 a2 r3 c, Box pf [iV r2.code, iV r2.index], Box pv2 [iV 0, iV 0], Box pt2 (tF t at_ ct at_2 ct2 at_3 ct3), Box pv [iV 0, iV 0], Box pt (tF t at_ ct at_2 ct2 at_3 ct3)] ?_
 refine .nil ?_
 refine .ja (M := [2]) (C' := [0, 1, 4]) (pre := [(3, vSl a2 r3 c)]) [(1, vSl as_ s_ cs_), (2, .func (.func 31) #[] #[]), (3, .pointer (some pt2)), (8, .pointer (some pv2))] [1, 2, 3, 8] hL rfl rfl rfl rfl rfl sb rfl rfl (by kernel_rfl) ?_
 refine .step [5] 5 rfl (by kernel_rfl) (by kernel_rfl) (.v [] rfl rfl rfl rfl rfl rfl (fun _ => ldA (cs := (tF t at_ ct at_2 ct2 at_3 ct3)) rfl tA25 rfl (cellsB (off := 0) (k := 3) rfl (m := 4) rfl)) (.v [] rfl rfl rfl rfl rfl rfl (fun _ => mv rfl) (.v [] rfl rfl rfl rfl rfl rfl (fun _ => mv rfl) (.nil)))) (.cons [(18, .agg (tF t at_ ct at_2 ct2 at_3 ct3).toArray), (19, vSl as_ s_ cs_), (21, vSl a2 r3 c), (22, .func (.func 31) #[] #[]), (21, vSl a2 r3 c)] rfl rfl (fun sL hL => ?_) (.nil))
 obtain ⟨q19, hF⟩ := hF
 obtain ⟨r4, q20⟩ : ∃ y_ : List Int, y_ = sp_valuesG t s_ r3 := ⟨_, rfl⟩
 replace hF := hF r4 q20
 refine clO (α := Option Addr × Nat) (V := fun z => vSl z.1 r4 z.2) (Ψ := fun z => True) (B := fun z => [oL 3 1 z.1 r4 z.2]) Tryz.call64 rfl rfl (fun w S => (by rw [q20]; obtain ⟨h_, hl_, hs_, hne_, hr_⟩ := look S (k := 0) rfl; exact (c_valuesG hs_ t at_ ct (RSl.mono hl_ _q1) _q2 at_2 ct2 (RSl.mono hl_ _q3) _q4 at_3 ct3 (RSl.mono hl_ _q5) _q6 s_ as_ cs_ (RSl.mono hl_ _q7) _q8 r3 a2 c (RSl.of hr_) (look_len S (k := 0) rfl) q19).mono fun _ _ ⟨z, h0, h1, e1, e2, e3, e4⟩ => ⟨z, h0, h1, e1, e2, FH.le_trans hl_ e3, e4⟩)) rfl (fun z _ => ?_)
 obtain ⟨a3, c2⟩ := z
 refine .KA [oL 3 1 a3 r4 c2, oL 3 1 a2 r3 c, Box pf [iV r2.code, iV r2.index], Box pv2 [iV 0, iV 0], Box pt2 (tF t at_ ct at_2 ct2 at_3 ct3), Box pv [iV 0, iV 0], Box pt (tF t at_ ct at_2 ct2 at_3 ct3)] ?_
 refine .nil ?_
 refine .ja (M := [0, 1, 4]) (C' := [6]) (pre := [(5, vSl a3 r4 c2), (6, vSl a3 r4 c2)]) [(1, vSl as_ s_ cs_), (2, .func (.func 31) #[] #[]), (3, .pointer (some pt2)), (8, .pointer (some pv2))] [1, 2, 3, 8] hL rfl rfl rfl rfl rfl sb rfl rfl (by kernel_rfl) ?_
 refine .last [(18, .agg (tF t at_ ct at_2 ct2 at_3 ct3).toArray), (19, vSl as_ s_ cs_), (20, .agg (tF t at_ ct at_2 ct2 at_3 ct3).toArray), (21, vSl a2 r3 c), (22, .func (.func 31) #[] #[]), (23, vSl a3 r4 c2), (10, vSl a3 r4 c2)] rfl (by kernel_rfl) (.v [(23, vSl a3 r4 c2), (23, vSl a3 r4 c2), (18, .agg (tF t at_ ct at_2 ct2 at_3 ct3).toArray), (19, vSl as_ s_ cs_), (20, .agg (tF t at_ ct at_2 ct2 at_3 ct3).toArray), (21, vSl a2 r3 c), (22, .func (.func 31) #[] #[]), (23, vSl a3 r4 c2)] rfl rfl rfl rfl rfl rfl (fun _ => asg rfl) (.nil)) rfl ?_
 refine .seqN (.seq (.region (.V mv0 ?_)))
 refine .V mv0 ?_
 refine .V mv0 ?_
 refine .V (fa rfl tF25_2) ?_
 refine .V (ld1 rfl tO22 (cellB (off := 2) (k := 4) rfl rfl)) ?_
 obtain ⟨q21, hF⟩ := hF
 obtain ⟨r5, q22⟩ : ∃ y_ : Int, y_ = sp_greatest r4 t.goal := ⟨_, rfl⟩
 replace hF := hF r5 q22
 refine .C (cl (v := iV r5) Tryz.call31 rfl rfl (fun w S => (by rw [q22]; obtain ⟨h_, hl_, hs_, hne_, hr_⟩ := look S (k := 0) rfl; exact c_greatest hs_ r4 a3 c2 (RSl.of hr_) (look_len S (k := 0) rfl) t.goal at_2 ct2 (RSl.mono hl_ _q3) _q4 q21))) ?_
 refine .V (bld (cs := #[iV 0, iV 0]) (pv := []) tB27 rfl rfl) ?_
 refine .V ag0 ?_
 refine .V ag0 ?_
 refine st (p := pv2) (off := 0) (k := 3) (vs := [iV 0, iV 0]) rfl rfl rfl (fun w => (tA27 w).2) rfl rfl rfl rfl ?_
 refine .KA [oL 3 1 a3 r4 c2, oL 3 1 a2 r3 c, Box pf [iV r2.code, iV r2.index], Box pv2 [iV 0, iV 0], Box pt2 (tF t at_ ct at_2 ct2 at_3 ct3), Box pv [iV 0, iV 0], Box pt (tF t at_ ct at_2 ct2 at_3 ct3)] ?_
 refine .nil (.seqN (.ret ?_))
 refine .res3 rfl (rvT rfl) (rvT rfl) (rvC rfl tA27 (k := 3) rfl rfl) (inl_back (v := .tuple #[.slice a3 r4.length c2, iV r5, .agg #[iV 0, iV 0]]) q9 rfl ?_)
 refine .KA [oL 3 1 a3 r4 c2, oL 3 1 a2 r3 c, Box pf [iV r2.code, iV r2.index], Box pv2 [iV 0, iV 0], Box pt2 (tF t at_ ct at_2 ct2 at_3 ct3), Box pv [iV 0, iV 0], Box pt (tF t at_ ct at_2 ct2 at_3 ct3)] ?_
 refine .V (ext rfl rfl) ?_
 refine .V (ext rfl rfl) ?_
 refine .V (ext rfl rfl) ?_
 refine .V ag0 ?_
 refine .V ag0 ?_
 refine st (p := pv) (off := 0) (k := 5) (vs := [iV 0, iV 0]) rfl rfl rfl (fun w => (tA27 w).2) rfl rfl rfl rfl ?_
 refine .KA [oL 3 1 a3 r4 c2, oL 3 1 a2 r3 c, Box pf [iV r2.code, iV r2.index], Box pv2 [iV 0, iV 0], Box pt2 (tF t at_ ct at_2 ct2 at_3 ct3), Box pv [iV 0, iV 0], Box pt (tF t at_ ct at_2 ct2 at_3 ct3)] ?_
 refine .nil (.seqN ?_)
 refine .freezeL (k := 0) rfl (fun h1 le1 q24 q23 => ?_)
 refine .KA [tru, oL 3 1 a2 r3 c, Box pf [iV r2.code, iV r2.index], Box pv2 [iV 0, iV 0], Box pt2 (tF t at_ ct at_2 ct2 at_3 ct3), Box pv [iV 0, iV 0], Box pt (tF t at_ ct at_2 ct2 at_3 ct3)] ?_
 refine .ret ?_
 refine .res3 rfl (rvT rfl) (rvT rfl) (rvC rfl tA27 (k := 5) rfl rfl) (fun w' S => ⟨(r4, r5, (⟨0, 0⟩ : Fault)), (a3, c2), h1, hF, rfl, (le1), ⟨(RSl.of q23), (q24)⟩, S.none⟩)
theorem c_relMax {h : FH} {w : World} (hs : Sub h w) (t : Task) (at_ : Option Addr) (ct : Nat) (_q1 : RSl h at_ t.init) (_q2 : t.init.length ≤ ct) (at_2 : Option Addr) (ct2 : Nat) (_q3 : RSl h at_2 t.goal) (_q4 : t.goal.length ≤ ct2) (at_3 : Option Addr) (ct3 : Nat) (_q5 : RSl h at_3 t.ops) (_q6 : t.ops.length ≤ ct3) (s_ : List Int) (as_ : Option Addr) (cs_ : Nat) (_q7 : RSl h as_ s_) (_q8 : s_.length ≤ cs_) : Calls Tryz.prog 11 #[.agg #[iV t.facts, .slice at_ t.init.length ct, .slice at_2 t.goal.length ct2, .slice at_3 t.ops.length ct3], .slice as_ s_.length cs_] w fun e w' => ∃ (z : Option Addr × Nat) (h1 : FH), e = .returned (.tuple #[.slice z.1 (sp_relMax t s_).1.length z.2, iV (sp_relMax t s_).2.1, .agg #[iV (sp_relMax t s_).2.2.code, iV (sp_relMax t s_).2.2.index]]) ∧ FH.le h h1 ∧ (RSl h1 z.1 (sp_relMax t s_).1 ∧ (sp_relMax t s_).1.length ≤ z.2) ∧ SH (Kp.all w h) h1 w' [] :=
 (w_relMax hs t at_ ct _q1 _q2 at_2 ct2 _q3 _q4 at_3 ct3 _q5 _q6 s_ as_ cs_ _q7 _q8 (fun r => r = sp_relMax t s_) (ok_relMax t s_)).mono fun _ _ ⟨r, z, h1, hk, he, hl, hf, hS⟩ => by subst hk; exact ⟨z, h1, he, hl, hf, hS⟩
theorem w_relAdd {h : FH} {w : World} (hs : Sub h w) (t : Task) (at_ : Option Addr) (ct : Nat) (_q1 : RSl h at_ t.init) (_q2 : t.init.length ≤ ct) (at_2 : Option Addr) (ct2 : Nat) (_q3 : RSl h at_2 t.goal) (_q4 : t.goal.length ≤ ct2) (at_3 : Option Addr) (ct3 : Nat) (_q5 : RSl h at_3 t.ops) (_q6 : t.ops.length ≤ ct3) (s_ : List Int) (as_ : Option Addr) (cs_ : Nat) (_q7 : RSl h as_ s_) (_q8 : s_.length ≤ cs_) (K : (List Int × Int × Fault) → Prop) (hF : F_relAdd t s_ K) : Calls Tryz.prog 12 #[.agg #[iV t.facts, .slice at_ t.init.length ct, .slice at_2 t.goal.length ct2, .slice at_3 t.ops.length ct3], .slice as_ s_.length cs_] w fun e w' => ∃ (r : List Int × Int × Fault) (z : Option Addr × Nat) (h1 : FH), K r ∧ e = .returned (.tuple #[.slice z.1 r.1.length z.2, iV r.2.1, .agg #[iV r.2.2.code, iV r.2.2.index]]) ∧ FH.le h h1 ∧ (RSl h1 z.1 r.1 ∧ r.1.length ≤ z.2) ∧ SH (Kp.all w h) h1 w' [] := by
 refine enter (args := [.agg (tF t at_ ct at_2 ct2 at_3 ct3).toArray, vSl as_ s_ cs_]) Tryz.func12 rfl Tryz.ntmps12 rfl hs ?_
 refine .seq (.region ?_)
 refine bx (vs := (tF t at_ ct at_2 ct2 at_3 ct3)) rfl rfl rfl (fun pt => ?_)
 refine .V ag0 ?_
 refine .V ag0 ?_
 refine al tZ27 rfl (fun pv => ?_)
 refine .nil (.seqN (.seq (.region (.V (ldA (cs := (tF t at_ ct at_2 ct2 at_3 ct3)) rfl tA25 rfl (cellsB (off := 0) (k := 1) rfl (m := 4) rfl)) ?_))))
 refine .V mv0 ?_
 refine .inl Tryz.func30 rfl Tryz.ntmps30 Tryz.call30 rfl rfl rfl rfl (fun a q9 => ?_)
 refine .seq (.region ?_)
 refine bx (vs := (tF t at_ ct at_2 ct2 at_3 ct3)) rfl rfl rfl (fun pt2 => ?_)
 refine .V ag0 ?_
 refine .V ag0 ?_
 refine al tZ27 rfl (fun pv2 => ?_)
 refine .nil (.seqN (.seq (.seq (.region (.V (ldA (cs := (tF t at_ ct at_2 ct2 at_3 ct3)) rfl tA25 rfl (cellsB (off := 0) (k := 1) rfl (m := 4) rfl)) ?_)))))
 refine .V mv0 ?_
 obtain ⟨r2, q10⟩ : ∃ y_ : Fault, y_ = sp_stateFault t s_ := ⟨_, rfl⟩
 replace hF := hF r2 q10
 refine .C (cl (v := .agg #[iV r2.code, iV r2.index]) Tryz.call25 rfl rfl (fun w S => (by rw [q10]; exact c_stateFault S.sub t at_ ct _q1 _q2 at_2 ct2 _q3 _q4 at_3 ct3 _q5 _q6 s_ as_ cs_ _q7 _q8 ))) ?_
 refine al tZ27 rfl (fun pf => ?_)
 refine st (p := pf) (off := 0) (k := 0) (vs := [iV r2.code, iV r2.index]) rfl rfl rfl (fun w => (tA27 w).2) rfl rfl rfl rfl ?_
 refine .KA [Box pf [iV r2.code, iV r2.index], Box pv2 [iV 0, iV 0], Box pt2 (tF t at_ ct at_2 ct2 at_3 ct3), Box pv [iV 0, iV 0], Box pt (tF t at_ ct at_2 ct2 at_3 ct3)] ?_
 refine .nil (.seqN (.seq (.region (.V (ldA (cs := [iV r2.code, iV r2.index]) rfl tA27 rfl (cellsB (off := 0) (k := 0) rfl (m := 2) rfl)) ?_))))
 refine .V (bld (cs := #[iV 0, iV 0]) (pv := []) tB27 rfl rfl) ?_
 refine .V (ne2 tE27 rfl rfl) ?_
 refine .nil (.seqN ?_)
 refine .cond rfl (fun q12 => ?_) (fun q12 => ?_)
 ·replace hF := hF.1 q12
  refine .seq ?_
  refine .openA (s0 := [(8, .pointer (some pv2)), (9, .pointer (some pf))]) [0, 1, 2] [(0, .agg #[iV r2.code, iV r2.index]), (1, .slice none 0 0), (2, iV 0)] (by kernel_rfl) sb [8, 9] [] rfl (by kernel_rfl) ?_
  refine .step [3] 3 rfl (by kernel_rfl) (by kernel_rfl) (.v [] rfl rfl rfl rfl rfl rfl (fun _ => ldA (cs := [iV r2.code, iV r2.index]) rfl tA27 rfl (cellsB (off := 0) (k := 0) rfl (m := 2) rfl)) (.v [] rfl rfl rfl rfl rfl rfl (fun _ => asg rfl) (.v [(6, .slice none 0 0), (6, .slice none 0 0)] rfl rfl rfl rfl rfl rfl (fun _ => asg rfl) (.nil)))) (.cons [(17, .agg #[iV r2.code, iV r2.index]), (7, iV 0), (17, .agg #[iV r2.code, iV r2.index]), (6, .slice none 0 0), (7, iV 0)] rfl rfl (fun sL hL => ?_) (.nil))
  refine st (p := pv2) (off := 0) (k := 1) (vs := [iV r2.code, iV r2.index]) rfl rfl rfl (fun w => (tA27 w).2) rfl rfl rfl rfl ?_
  refine .KA [Box pf [iV r2.code, iV r2.index], Box pv2 [iV r2.code, iV r2.index], Box pt2 (tF t at_ ct at_2 ct2 at_3 ct3), Box pv [iV 0, iV 0], Box pt (tF t at_ ct at_2 ct2 at_3 ct3)] ?_
  refine .nil ?_
  refine .jaN (M := [0, 2, 1]) (C' := []) (pre := []) [8, 9] hL rfl rfl rfl rfl rfl (by kernel_rfl) ?_
  refine .last [(17, .agg #[iV r2.code, iV r2.index]), (6, .slice none 0 0), (7, iV 0)] rfl (by kernel_rfl) (.nil) rfl ?_
  refine .seqN (.ret (.seqR ?_))
  refine .res3 rfl (rvT rfl) (rvT rfl) (rvC rfl tA27 (k := 1) rfl rfl) (inl_back (v := .tuple #[.slice none 0 0, iV 0, .agg #[iV r2.code, iV r2.index]]) q9 rfl ?_)
  refine .KA [Box pf [iV r2.code, iV r2.index], Box pv2 [iV r2.code, iV r2.index], Box pt2 (tF t at_ ct at_2 ct2 at_3 ct3), Box pv [iV 0, iV 0], Box pt (tF t at_ ct at_2 ct2 at_3 ct3)] ?_
  refine .V (ext rfl rfl) ?_
  refine .V (ext rfl rfl) ?_
  refine .V (ext rfl rfl) ?_
  refine .V ag0 ?_
  refine .V ag0 ?_
  refine st (p := pv) (off := 0) (k := 3) (vs := [iV r2.code, iV r2.index]) rfl rfl rfl (fun w => (tA27 w).2) rfl rfl rfl rfl ?_
  refine .KA [Box pf [iV r2.code, iV r2.index], Box pv2 [iV r2.code, iV r2.index], Box pt2 (tF t at_ ct at_2 ct2 at_3 ct3), Box pv [iV r2.code, iV r2.index], Box pt (tF t at_ ct at_2 ct2 at_3 ct3)] ?_
  refine .nil (.seqN (.ret ?_))
  refine .res3 rfl (rvT rfl) (rvT rfl) (rvC rfl tA27 (k := 3) rfl rfl) (fun w' S => ⟨(([] : List Int), 0, r2), (none, 0), h, hF, rfl, (FH.le_refl _), ⟨RSl.nil_, (Nat.le_refl 0)⟩, S.none⟩)
 replace hF := hF.2 q12
 refine .skip (.seqN (.seq ?_))
 refine .openA (s0 := [(1, vSl as_ s_ cs_), (2, .func (.func 32) #[] #[]), (3, .pointer (some pt2)), (8, .pointer (some pv2))]) [0, 1, 2, 4] [(0, .agg (tF t at_ ct at_2 ct2 at_3 ct3).toArray), (1, vSl as_ s_ cs_), (2, .agg (tF t at_ ct at_2 ct2 at_3 ct3).toArray), (4, .func (.func 32) #[] #[])] (by kernel_rfl) sb [1, 2, 3, 8] [] rfl (by kernel_rfl) ?_
 refine .step [3] 3 rfl (by kernel_rfl) (by kernel_rfl) (.v [] rfl rfl rfl rfl rfl rfl (fun _ => ldA (cs := (tF t at_ ct at_2 ct2 at_3 ct3)) rfl tA25 rfl (cellsB (off := 0) (k := 2) rfl (m := 4) rfl)) (.v [] rfl rfl rfl rfl rfl rfl (fun _ => mv rfl) (.v [] rfl rfl rfl rfl rfl rfl (fun _ => ldA (cs := (tF t at_ ct at_2 ct2 at_3 ct3)) rfl tA25 rfl (cellsB (off := 0) (k := 2) rfl (m := 4) rfl)) (.v [] rfl rfl rfl rfl rfl rfl (fun _ => mv rfl) (.nil))))) (.cons [(20, .agg (tF t at_ ct at_2 ct2 at_3 ct3).toArray)] rfl rfl (fun sL hL => ?_) (.nil))
 obtain ⟨q17, hF⟩ := hF
 obtain ⟨r3, q18⟩ : ∃ y_ : List Int, y_ = sp_costsR t := ⟨_, rfl⟩
 replace hF := hF r3 q18
 refine clO (α := Option Addr × Nat) (V := fun z => vSl z.1 r3 z.2) (Ψ := fun z => True) (B := fun z => [oL 3 1 z.1 r3 z.2]) Tryz.call65 rfl rfl (fun w S => (by rw [q18]; exact c_costsR S.sub t at_ ct _q1 _q2 at_2 ct2 _q3 _q4 at_3 ct3 _q5 _q6 q17)) rfl (fun z _ => ?_)
 obtain ⟨a2, c⟩ := z
 refine .KA [oL 3 1 a2 r3 c, Box pf [iV r2.code, iV r2.index], Box pv2 [iV 0, iV 0], Box pt2 (tF t at_ ct at_2 ct2 at_3 ct3), Box pv [iV 0, iV 0], Box pt (tF t at_ ct at_2 ct2 at_3 ct3)] ?_
 refine .nil ?_
 refine .ja (M := [2]) (C' := [0, 1, 4]) (pre := [(3, vSl a2 r3 c)]) [(1, vSl as_ s_ cs_), (2, .func (.func 32) #[] #[]), (3, .pointer (some pt2)), (8, .pointer (some pv2))] [1, 2, 3, 8] hL rfl rfl rfl rfl rfl sb rfl rfl (by kernel_rfl) ?_
 refine .step [5] 5 rfl (by kernel_rfl) (by kernel_rfl) (.v [] rfl rfl rfl rfl rfl rfl (fun _ => ldA (cs := (tF t at_ ct at_2 ct2 at_3 ct3)) rfl tA25 rfl (cellsB (off := 0) (k := 3) rfl (m := 4) rfl)) (.v [] rfl rfl rfl rfl rfl rfl (fun _ => mv rfl) (.v [] rfl rfl rfl rfl rfl rfl (fun _ => mv rfl) (.nil)))) (.cons [(18, .agg (tF t at_ ct at_2 ct2 at_3 ct3).toArray), (19, vSl as_ s_ cs_), (21, vSl a2 r3 c), (22, .func (.func 32) #[] #[]), (21, vSl a2 r3 c)] rfl rfl (fun sL hL => ?_) (.nil))
 obtain ⟨q19, hF⟩ := hF
 obtain ⟨r4, q20⟩ : ∃ y_ : List Int, y_ = sp_valuesS t s_ r3 := ⟨_, rfl⟩
 replace hF := hF r4 q20
 refine clO (α := Option Addr × Nat) (V := fun z => vSl z.1 r4 z.2) (Ψ := fun z => True) (B := fun z => [oL 3 1 z.1 r4 z.2]) Tryz.call64 rfl rfl (fun w S => (by rw [q20]; obtain ⟨h_, hl_, hs_, hne_, hr_⟩ := look S (k := 0) rfl; exact (c_valuesS hs_ t at_ ct (RSl.mono hl_ _q1) _q2 at_2 ct2 (RSl.mono hl_ _q3) _q4 at_3 ct3 (RSl.mono hl_ _q5) _q6 s_ as_ cs_ (RSl.mono hl_ _q7) _q8 r3 a2 c (RSl.of hr_) (look_len S (k := 0) rfl) q19).mono fun _ _ ⟨z, h0, h1, e1, e2, e3, e4⟩ => ⟨z, h0, h1, e1, e2, FH.le_trans hl_ e3, e4⟩)) rfl (fun z _ => ?_)
 obtain ⟨a3, c2⟩ := z
 refine .KA [oL 3 1 a3 r4 c2, oL 3 1 a2 r3 c, Box pf [iV r2.code, iV r2.index], Box pv2 [iV 0, iV 0], Box pt2 (tF t at_ ct at_2 ct2 at_3 ct3), Box pv [iV 0, iV 0], Box pt (tF t at_ ct at_2 ct2 at_3 ct3)] ?_
 refine .nil ?_
 refine .ja (M := [0, 1, 4]) (C' := [6]) (pre := [(5, vSl a3 r4 c2), (6, vSl a3 r4 c2)]) [(1, vSl as_ s_ cs_), (2, .func (.func 32) #[] #[]), (3, .pointer (some pt2)), (8, .pointer (some pv2))] [1, 2, 3, 8] hL rfl rfl rfl rfl rfl sb rfl rfl (by kernel_rfl) ?_
 refine .last [(18, .agg (tF t at_ ct at_2 ct2 at_3 ct3).toArray), (19, vSl as_ s_ cs_), (20, .agg (tF t at_ ct at_2 ct2 at_3 ct3).toArray), (21, vSl a2 r3 c), (22, .func (.func 32) #[] #[]), (23, vSl a3 r4 c2), (10, vSl a3 r4 c2)] rfl (by kernel_rfl) (.v [(23, vSl a3 r4 c2), (23, vSl a3 r4 c2), (18, .agg (tF t at_ ct at_2 ct2 at_3 ct3).toArray), (19, vSl as_ s_ cs_), (20, .agg (tF t at_ ct at_2 ct2 at_3 ct3).toArray), (21, vSl a2 r3 c), (22, .func (.func 32) #[] #[]), (23, vSl a3 r4 c2)] rfl rfl rfl rfl rfl rfl (fun _ => asg rfl) (.nil)) rfl ?_
 refine .seqN (.seq (.region (.V mv0 ?_)))
 refine .V mv0 ?_
 refine .V mv0 ?_
 refine .V (fa rfl tF25_2) ?_
 refine .V (ld1 rfl tO22 (cellB (off := 2) (k := 4) rfl rfl)) ?_
 obtain ⟨q21, hF⟩ := hF
 obtain ⟨r5, q22⟩ : ∃ y_ : Int, y_ = sp_sumR r4 t.goal := ⟨_, rfl⟩
 replace hF := hF r5 q22
 refine .C (cl (v := iV r5) Tryz.call32 rfl rfl (fun w S => (by rw [q22]; obtain ⟨h_, hl_, hs_, hne_, hr_⟩ := look S (k := 0) rfl; exact c_sumR hs_ r4 a3 c2 (RSl.of hr_) (look_len S (k := 0) rfl) t.goal at_2 ct2 (RSl.mono hl_ _q3) _q4 q21))) ?_
 refine .V (bld (cs := #[iV 0, iV 0]) (pv := []) tB27 rfl rfl) ?_
 refine .V ag0 ?_
 refine .V ag0 ?_
 refine st (p := pv2) (off := 0) (k := 3) (vs := [iV 0, iV 0]) rfl rfl rfl (fun w => (tA27 w).2) rfl rfl rfl rfl ?_
 refine .KA [oL 3 1 a3 r4 c2, oL 3 1 a2 r3 c, Box pf [iV r2.code, iV r2.index], Box pv2 [iV 0, iV 0], Box pt2 (tF t at_ ct at_2 ct2 at_3 ct3), Box pv [iV 0, iV 0], Box pt (tF t at_ ct at_2 ct2 at_3 ct3)] ?_
 refine .nil (.seqN (.ret ?_))
 refine .res3 rfl (rvT rfl) (rvT rfl) (rvC rfl tA27 (k := 3) rfl rfl) (inl_back (v := .tuple #[.slice a3 r4.length c2, iV r5, .agg #[iV 0, iV 0]]) q9 rfl ?_)
 refine .KA [oL 3 1 a3 r4 c2, oL 3 1 a2 r3 c, Box pf [iV r2.code, iV r2.index], Box pv2 [iV 0, iV 0], Box pt2 (tF t at_ ct at_2 ct2 at_3 ct3), Box pv [iV 0, iV 0], Box pt (tF t at_ ct at_2 ct2 at_3 ct3)] ?_
 refine .V (ext rfl rfl) ?_
 refine .V (ext rfl rfl) ?_
 refine .V (ext rfl rfl) ?_
 refine .V ag0 ?_
 refine .V ag0 ?_
 refine st (p := pv) (off := 0) (k := 5) (vs := [iV 0, iV 0]) rfl rfl rfl (fun w => (tA27 w).2) rfl rfl rfl rfl ?_
 refine .KA [oL 3 1 a3 r4 c2, oL 3 1 a2 r3 c, Box pf [iV r2.code, iV r2.index], Box pv2 [iV 0, iV 0], Box pt2 (tF t at_ ct at_2 ct2 at_3 ct3), Box pv [iV 0, iV 0], Box pt (tF t at_ ct at_2 ct2 at_3 ct3)] ?_
 refine .nil (.seqN ?_)
 refine .freezeL (k := 0) rfl (fun h1 le1 q24 q23 => ?_)
 refine .KA [tru, oL 3 1 a2 r3 c, Box pf [iV r2.code, iV r2.index], Box pv2 [iV 0, iV 0], Box pt2 (tF t at_ ct at_2 ct2 at_3 ct3), Box pv [iV 0, iV 0], Box pt (tF t at_ ct at_2 ct2 at_3 ct3)] ?_
 refine .ret ?_
 refine .res3 rfl (rvT rfl) (rvT rfl) (rvC rfl tA27 (k := 5) rfl rfl) (fun w' S => ⟨(r4, r5, (⟨0, 0⟩ : Fault)), (a3, c2), h1, hF, rfl, (le1), ⟨(RSl.of q23), (q24)⟩, S.none⟩)
theorem c_relAdd {h : FH} {w : World} (hs : Sub h w) (t : Task) (at_ : Option Addr) (ct : Nat) (_q1 : RSl h at_ t.init) (_q2 : t.init.length ≤ ct) (at_2 : Option Addr) (ct2 : Nat) (_q3 : RSl h at_2 t.goal) (_q4 : t.goal.length ≤ ct2) (at_3 : Option Addr) (ct3 : Nat) (_q5 : RSl h at_3 t.ops) (_q6 : t.ops.length ≤ ct3) (s_ : List Int) (as_ : Option Addr) (cs_ : Nat) (_q7 : RSl h as_ s_) (_q8 : s_.length ≤ cs_) : Calls Tryz.prog 12 #[.agg #[iV t.facts, .slice at_ t.init.length ct, .slice at_2 t.goal.length ct2, .slice at_3 t.ops.length ct3], .slice as_ s_.length cs_] w fun e w' => ∃ (z : Option Addr × Nat) (h1 : FH), e = .returned (.tuple #[.slice z.1 (sp_relAdd t s_).1.length z.2, iV (sp_relAdd t s_).2.1, .agg #[iV (sp_relAdd t s_).2.2.code, iV (sp_relAdd t s_).2.2.index]]) ∧ FH.le h h1 ∧ (RSl h1 z.1 (sp_relAdd t s_).1 ∧ (sp_relAdd t s_).1.length ≤ z.2) ∧ SH (Kp.all w h) h1 w' [] :=
 (w_relAdd hs t at_ ct _q1 _q2 at_2 ct2 _q3 _q4 at_3 ct3 _q5 _q6 s_ as_ cs_ _q7 _q8 (fun r => r = sp_relAdd t s_) (ok_relAdd t s_)).mono fun _ _ ⟨r, z, h1, hk, he, hl, hf, hS⟩ => by subst hk; exact ⟨z, h1, he, hl, hf, hS⟩
theorem w_has {h : FH} {w : World} (hs : Sub h w) (l : List Int) (al2 : Option Addr) (cl2 : Nat) (_q1 : RSl h al2 l) (_q2 : l.length ≤ cl2) (n_ : Int) (K : Bool → Prop) (hF : F_has l n_ K) : Calls Tryz.prog 71 #[.slice al2 l.length cl2, iV n_] w fun e w' => ∃ r : Bool, K r ∧ e = .returned (.bool r) ∧ Below w.heap.size w w' := by
 refine enter (args := [vSl al2 l cl2, iV n_]) Tryz.func71 rfl Tryz.ntmps71 rfl hs ?_
 refine .seq (.region (.V ag0 ?_))
 refine .nil (.seqN (.seq (.seq (.region (.V ag0 ?_)))))
 refine .nil (.seqN (.block ?_))
 obtain ⟨I1, μ1, q45, q46⟩ := hF
 refine .loop' (σ := Int) (fun z => I1 z) (fun z => μ1 z) (fun z => [(0, vSl al2 l cl2), (1, iV n_), (5, iV z)]) (fun _ => []) (fun _ => h) 0 q45 sb rfl (FH.le_refl _) ?_
 rintro i q45
 have hF := q46 i q45
 show J _ _ _ _ _ [(0, vSl al2 l cl2), (1, iV n_), (5, iV i)] [] h
 refine .seq (.seq (.region (.V mv0 ?_)))
 refine .V mv0 ?_
 refine .V (ln rfl tS22.is) ?_
 refine .V bi0 ?_
 refine .nil (.seqN ?_)
 refine .cond rfl (fun q48 => ?_) (fun q48 => ?_)
 ·replace hF := hF.1 q48
  refine .skip (.seqN (.seq (.block (.seq (.region (.V mv0 ?_))))))
  refine .V mv0 ?_
  obtain ⟨q53, hF⟩ := hF
  refine .V (ix rfl rfl tS22 (_q1.ne (by decide) (inb_pos q53)) q53) ?_
  refine .V (ld1 (v := iV (gt l i)) rfl tO3 (cellH (_q1.elemF q53 (by decide) 0 _ rfl))) ?_
  refine .V mv0 ?_
  refine .V bi0 ?_
  refine .nil (.seqN ?_)
  refine .cond rfl (fun q54 => ?_) (fun q54 => ?_)
  ·replace hF := hF.1 q54
   refine .seq (.region (.V ag0 ?_))
   refine .nil (.seqN (.ret (.blkR (.seqR (.seqR (.blkR (.seqR ?_)))))))
   refine .res1 rfl (rvT rfl) (fun w' S => ⟨true, hF, rfl, S.below⟩)
  replace hF := hF.2 q54
  refine .skip (.blkN (.seqN (.region (.V mv0 ?_))))
  refine .V bi0 ?_
  refine .V ag0 ?_
  refine .nil ?_
  exact .RO (wr (i + 1)) hF.1 hF.2
 replace hF := hF.2 q48
 refine .exit (.seqX (.seqX (.blkX (.seqN (.seq (.region (.V ag0 ?_)))))))
 refine .nil (.seqN (.ret ?_))
 refine .res1 rfl (rvT rfl) (fun w' S => ⟨false, hF, rfl, S.below⟩)
theorem c_has {h : FH} {w : World} (hs : Sub h w) (l : List Int) (al2 : Option Addr) (cl2 : Nat) (_q1 : RSl h al2 l) (_q2 : l.length ≤ cl2) (n_ : Int) (hp : pre_has l n_) : Calls Tryz.prog 71 #[.slice al2 l.length cl2, iV n_] w fun e w' => e = .returned (.bool (sp_has l n_)) ∧ Below w.heap.size w w' :=
 (w_has hs l al2 cl2 _q1 _q2 n_ (fun r => r = sp_has l n_) (ok_has l n_ hp)).mono fun _ _ ⟨_, hk, he, hb⟩ => ⟨by rw [he, hk], hb⟩
theorem w_subset {h : FH} {w : World} (hs : Sub h w) (part : List Int) (apart : Option Addr) (cpart : Nat) (_q1 : RSl h apart part) (_q2 : part.length ≤ cpart) (l : List Int) (al2 : Option Addr) (cl2 : Nat) (_q3 : RSl h al2 l) (_q4 : l.length ≤ cl2) (K : Bool → Prop) (hF : F_subset part l K) : Calls Tryz.prog 72 #[.slice apart part.length cpart, .slice al2 l.length cl2] w fun e w' => ∃ r : Bool, K r ∧ e = .returned (.bool r) ∧ Below w.heap.size w w' := by
 refine enter (args := [vSl apart part cpart, vSl al2 l cl2]) Tryz.func72 rfl Tryz.ntmps72 rfl hs ?_
 refine .seq (.region (.V ag0 ?_))
 refine .nil (.seqN (.seq (.seq (.region (.V ag0 ?_)))))
 refine .nil (.seqN (.block ?_))
 obtain ⟨I1, μ1, q77, q78⟩ := hF
 refine .loop' (σ := Int) (fun z => I1 z) (fun z => μ1 z) (fun z => [(0, vSl apart part cpart), (1, vSl al2 l cl2), (5, iV z)]) (fun _ => []) (fun _ => h) 0 q77 sb rfl (FH.le_refl _) ?_
 rintro i q77
 have hF := q78 i q77
 show J _ _ _ _ _ [(0, vSl apart part cpart), (1, vSl al2 l cl2), (5, iV i)] [] h
 refine .seq (.seq (.region (.V mv0 ?_)))
 refine .V mv0 ?_
 refine .V (ln rfl tS22.is) ?_
 refine .V bi0 ?_
 refine .nil (.seqN ?_)
 refine .cond rfl (fun q80 => ?_) (fun q80 => ?_)
 ·replace hF := hF.1 q80
  refine .skip (.seqN (.seq (.block (.seq (.region (.V mv0 ?_))))))
  refine .V mv0 ?_
  refine .V mv0 ?_
  obtain ⟨q89, hF⟩ := hF
  refine .V (ix rfl rfl tS22 (_q1.ne (by decide) (inb_pos q89)) q89) ?_
  refine .V (ld1 (v := iV (gt part i)) rfl tO3 (cellH (_q1.elemF q89 (by decide) 0 _ rfl))) ?_
  obtain ⟨q90, hF⟩ := hF
  obtain ⟨r2, q91⟩ : ∃ y_ : Bool, y_ = sp_has l (gt part i) := ⟨_, rfl⟩
  replace hF := hF r2 q91
  refine .C (cl (v := .bool r2) Tryz.call71 rfl rfl (fun w S => (by rw [q91]; exact c_has S.sub l al2 cl2 _q3 _q4 (gt part i) q90))) ?_
  refine .V (nt rfl) ?_
  refine .nil (.seqN ?_)
  refine .cond rfl (fun q92 => ?_) (fun q92 => ?_)
  ·replace hF := hF.1 q92
   refine .seq (.region (.V ag0 ?_))
   refine .nil (.seqN (.ret (.blkR (.seqR (.seqR (.blkR (.seqR ?_)))))))
   refine .res1 rfl (rvT rfl) (fun w' S => ⟨false, hF, rfl, S.below⟩)
  replace hF := hF.2 q92
  refine .skip (.blkN (.seqN (.region (.V mv0 ?_))))
  refine .V bi0 ?_
  refine .V ag0 ?_
  refine .nil ?_
  exact .RO (wr (i + 1)) hF.1 hF.2
 replace hF := hF.2 q80
 refine .exit (.seqX (.seqX (.blkX (.seqN (.seq (.region (.V ag0 ?_)))))))
 refine .nil (.seqN (.ret ?_))
 refine .res1 rfl (rvT rfl) (fun w' S => ⟨true, hF, rfl, S.below⟩)
theorem c_subset {h : FH} {w : World} (hs : Sub h w) (part : List Int) (apart : Option Addr) (cpart : Nat) (_q1 : RSl h apart part) (_q2 : part.length ≤ cpart) (l : List Int) (al2 : Option Addr) (cl2 : Nat) (_q3 : RSl h al2 l) (_q4 : l.length ≤ cl2) (hp : pre_subset part l) : Calls Tryz.prog 72 #[.slice apart part.length cpart, .slice al2 l.length cl2] w fun e w' => e = .returned (.bool (sp_subset part l)) ∧ Below w.heap.size w w' :=
 (w_subset hs part apart cpart _q1 _q2 l al2 cl2 _q3 _q4 (fun r => r = sp_subset part l) (ok_subset part l hp)).mono fun _ _ ⟨_, hk, he, hb⟩ => ⟨by rw [he, hk], hb⟩
theorem w_applies {h : FH} {w : World} (hs : Sub h w) (t : Task) (at_ : Option Addr) (ct : Nat) (_q1 : RSl h at_ t.init) (_q2 : t.init.length ≤ ct) (at_2 : Option Addr) (ct2 : Nat) (_q3 : RSl h at_2 t.goal) (_q4 : t.goal.length ≤ ct2) (at_3 : Option Addr) (ct3 : Nat) (_q5 : RSl h at_3 t.ops) (_q6 : t.ops.length ≤ ct3) (s_ : List Int) (as_ : Option Addr) (cs_ : Nat) (_q7 : RSl h as_ s_) (_q8 : s_.length ≤ cs_) (op : Int) (K : Bool → Prop) (hF : F_applies t s_ op K) : Calls Tryz.prog 69 #[.agg #[iV t.facts, .slice at_ t.init.length ct, .slice at_2 t.goal.length ct2, .slice at_3 t.ops.length ct3], .slice as_ s_.length cs_, iV op] w fun e w' => ∃ r : Bool, K r ∧ e = .returned (.bool r) ∧ Below w.heap.size w w' := by
 refine enter (args := [.agg (tF t at_ ct at_2 ct2 at_3 ct3).toArray, vSl as_ s_ cs_, iV op]) Tryz.func69 rfl Tryz.ntmps69 rfl hs ?_
 refine .seq (.region ?_)
 refine bx (vs := (tF t at_ ct at_2 ct2 at_3 ct3)) rfl rfl rfl (fun pt => ?_)
 refine .V ag0 ?_
 refine .nil (.seqN (.seq (.region (.V (fa rfl tF25_3) ?_))))
 refine .V (ld1 rfl tO23 (cellB (off := 3) (k := 0) rfl rfl)) ?_
 refine .V mv0 ?_
 obtain ⟨q9, hF⟩ := hF
 refine .V (ix rfl rfl tS23 (_q5.ne (by decide) (inb_pos q9)) q9) ?_
 refine .V (fa rfl tF52_0) ?_
 obtain ⟨_, ⟨a, c, a2, c2, a3, c3, rfl, ⟨q10, q11⟩, ⟨q12, q13⟩, q14, q15⟩, q16⟩ := _q5.elem q9
 refine .V (ld1 (v := .slice a ((gt t.ops op).pre.length) c) rfl tO22 (cellH (q16 (by decide) 0 _ rfl))) ?_
 refine .V mv0 ?_
 obtain ⟨q17, hF⟩ := hF
 obtain ⟨r2, q18⟩ : ∃ y_ : Bool, y_ = sp_subset ((gt t.ops op).pre) s_ := ⟨_, rfl⟩
 replace hF := hF r2 q18
 refine .C (cl (v := .bool r2) Tryz.call72 rfl rfl (fun w S => (by rw [q18]; exact c_subset S.sub ((gt t.ops op).pre) a c q11 q10 s_ as_ cs_ _q7 _q8 q17))) ?_
 refine .V ag0 ?_
 refine .nil (.seqN (.ret ?_))
 refine .res1 rfl (rvT rfl) (fun w' S => ⟨r2, hF, rfl, S.below⟩)
theorem c_applies {h : FH} {w : World} (hs : Sub h w) (t : Task) (at_ : Option Addr) (ct : Nat) (_q1 : RSl h at_ t.init) (_q2 : t.init.length ≤ ct) (at_2 : Option Addr) (ct2 : Nat) (_q3 : RSl h at_2 t.goal) (_q4 : t.goal.length ≤ ct2) (at_3 : Option Addr) (ct3 : Nat) (_q5 : RSl h at_3 t.ops) (_q6 : t.ops.length ≤ ct3) (s_ : List Int) (as_ : Option Addr) (cs_ : Nat) (_q7 : RSl h as_ s_) (_q8 : s_.length ≤ cs_) (op : Int) (hp : pre_applies t s_ op) : Calls Tryz.prog 69 #[.agg #[iV t.facts, .slice at_ t.init.length ct, .slice at_2 t.goal.length ct2, .slice at_3 t.ops.length ct3], .slice as_ s_.length cs_, iV op] w fun e w' => e = .returned (.bool (sp_applies t s_ op)) ∧ Below w.heap.size w w' :=
 (w_applies hs t at_ ct _q1 _q2 at_2 ct2 _q3 _q4 at_3 ct3 _q5 _q6 s_ as_ cs_ _q7 _q8 op (fun r => r = sp_applies t s_ op) (ok_applies t s_ op hp)).mono fun _ _ ⟨_, hk, he, hb⟩ => ⟨by rw [he, hk], hb⟩
set_option maxHeartbeats 8000000 in
theorem w_after {h : FH} {w : World} (hs : Sub h w) (t : Task) (at_ : Option Addr) (ct : Nat) (_q1 : RSl h at_ t.init) (_q2 : t.init.length ≤ ct) (at_2 : Option Addr) (ct2 : Nat) (_q3 : RSl h at_2 t.goal) (_q4 : t.goal.length ≤ ct2) (at_3 : Option Addr) (ct3 : Nat) (_q5 : RSl h at_3 t.ops) (_q6 : t.ops.length ≤ ct3) (s_ : List Int) (as_ : Option Addr) (cs_ : Nat) (_q7 : RSl h as_ s_) (_q8 : s_.length ≤ cs_) (op : Int) (K : (List Int) → Prop) (hF : F_after t s_ op K) : Calls Tryz.prog 70 #[.agg #[iV t.facts, .slice at_ t.init.length ct, .slice at_2 t.goal.length ct2, .slice at_3 t.ops.length ct3], .slice as_ s_.length cs_, iV op] w fun e w' => ∃ (r : List Int) (z : Option Addr × Nat) (h1 : FH), K r ∧ e = .returned (.slice z.1 r.length z.2) ∧ FH.le h h1 ∧ (RSl h1 z.1 r ∧ r.length ≤ z.2) ∧ SH (Kp.all w h) h1 w' [] := by
 refine enter (args := [.agg (tF t at_ ct at_2 ct2 at_3 ct3).toArray, vSl as_ s_ cs_, iV op]) Tryz.func70 rfl Tryz.ntmps70 rfl hs ?_
 refine .seq (.region ?_)
 refine bx (vs := (tF t at_ ct at_2 ct2 at_3 ct3)) rfl rfl rfl (fun pt => ?_)
 refine .V ag0 ?_
 refine .nil (.seqN (.seq (.region (.V ag0 ?_))))
 refine .nil (.seqN (.seq (.seq (.region (.V ag0 ?_)))))
 refine .nil (.seqN (.block ?_))
 refine .nilSl 3 1 ?_
 refine .KA [oL 3 1 none ([] : List Int) 0, Box pt (tF t at_ ct at_2 ct2 at_3 ct3)] ?_
 refine .sel0 [1, 0] (by decide) rfl ?_
 obtain ⟨I1, μ1, q396, q397⟩ := hF
 refine .loop' (σ := Int × List Int × Option Addr × Nat) (fun z => I1 z.1 z.2.1) (fun z => μ1 z.1 z.2.1) (fun z => [(1, vSl as_ s_ cs_), (2, iV op), (3, .pointer (some pt)), (7, vSl z.2.2.1 z.2.1 z.2.2.2), (8, iV z.1)]) (fun z => [Box pt (tF t at_ ct at_2 ct2 at_3 ct3), oL 3 1 z.2.2.1 z.2.1 z.2.2.2]) (fun _ => h) (0, ([] : List Int), none, 0) q396 sb rfl (FH.le_refl _) ?_
 rintro ⟨p, out, aout, cout⟩ q396
 have hF := q397 p out q396
 show J _ _ _ _ _ [(1, vSl as_ s_ cs_), (2, iV op), (3, .pointer (some pt)), (7, vSl aout out cout), (8, iV p)] [Box pt (tF t at_ ct at_2 ct2 at_3 ct3), oL 3 1 aout out cout] h
 refine .seq (.seq (.region (.V mv0 ?_)))
 refine .V (fa rfl tF25_0) ?_
 refine .V (ld1 rfl tO3 (cellB (off := 0) (k := 0) rfl rfl)) ?_
 refine .V bi0 ?_
 refine .nil (.seqN ?_)
 refine .cond rfl (fun q399 => ?_) (fun q399 => ?_)
 ·replace hF := hF.1 q399
  refine .skip (.seqN ?_)
  refine .share (σ := List Int × Option Addr × Nat) (fun z => F_after_J1 out p I1 μ1 z.1) (fun z => [(1, vSl as_ s_ cs_), (2, iV op), (3, .pointer (some pt)), (7, vSl z.2.1 z.1 z.2.2), (8, iV p)]) (fun z => [Box pt (tF t at_ ct at_2 ct2 at_3 ct3), oL 3 1 z.2.1 z.1 z.2.2]) (fun _ => h) ?_ (fun q437 => ?_)
  ·rintro ⟨out3, aout3, cout3⟩ hF
   show J _ _ _ _ _ [(1, vSl as_ s_ cs_), (2, iV op), (3, .pointer (some pt)), (7, vSl aout3 out3 cout3), (8, iV p)] [Box pt (tF t at_ ct at_2 ct2 at_3 ct3), oL 3 1 aout3 out3 cout3] h
   refine .region (.V mv0 ?_)
   refine .V bi0 ?_
   refine .V ag0 ?_
   refine .nil ?_
   exact .RO (wr (p + 1), out3, aout3, cout3) hF.1 hF.2
  refine .block ?_
  refine .share (σ := Bool) (fun z => F_after_J2 z out p I1 μ1) (fun z => [(1, vSl as_ s_ cs_), (2, iV op), (3, .pointer (some pt)), (7, vSl aout out cout), (8, iV p), (38, .bool z)]) (fun _ => [Box pt (tF t at_ ct at_2 ct2 at_3 ct3), oL 3 1 aout out cout]) (fun _ => h) ?_ (fun q454 => ?_)
  ·rintro t38 hF
   show J _ _ _ _ _ [(1, vSl as_ s_ cs_), (2, iV op), (3, .pointer (some pt)), (7, vSl aout out cout), (8, iV p), (38, .bool t38)] [Box pt (tF t at_ ct at_2 ct2 at_3 ct3), oL 3 1 aout out cout] h
   refine .cond rfl (fun q455 => ?_) (fun q455 => ?_)
   ·replace hF := hF.1 q455
    refine .region (.V mv0 ?_)
    refine .V mv0 ?_
    refine bs2 (cs := #[iV p]) (pv := [(0, iV p)]) tS22 rfl rfl (by decide) (by decide) rfl rfl rfl (fun a _ => ?_)
    refine .KA [oL 3 1 a ([p] : List Int) 1, Box pt (tF t at_ ct at_2 ct2 at_3 ct3), oL 3 1 aout out cout] ?_
    obtain ⟨q457, hF⟩ := hF
    have q458 : out.length + ([p] : List Int).length = ((out ++ ([p] : List Int))).length := len_app rfl rfl
    refine app (k := 2) (news := flL ([p] : List Int)) (cs' := flL (out ++ ([p] : List Int))) (nm := ((out ++ ([p] : List Int))).length) tS22 rfl (by decide) rfl rfl rfl ((flL_len _).trans rfl) (srcS (k := 0) rfl) (flL_one _) (room_of q458 q457).1 (room_of q458 q457).2 q458 (flL_append _ _).symm rfl (fun a2 c => ?_)
    refine .KA [oL 3 1 a ([p] : List Int) 1, Box pt (tF t at_ ct at_2 ct2 at_3 ct3), oL 3 1 a2 (out ++ ([p] : List Int)) c] ?_
    refine .V ag0 ?_
    refine .nil (.blkN ?_)
    refine .sel0 [1, 2] (by decide) rfl ?_
    exact .US q437 ((out ++ ([p] : List Int)), a2, c) hF
   replace hF := hF.2 q455
   refine .skip (.blkN ?_)
   exact .US q437 (out, aout, cout) hF
  refine .region (.V (fa rfl tF25_3) ?_)
  refine .V (ld1 rfl tO23 (cellB (off := 3) (k := 0) rfl rfl)) ?_
  refine .V mv0 ?_
  obtain ⟨q459, hF⟩ := hF
  refine .V (ix rfl rfl tS23 (_q5.ne (by decide) (inb_pos q459)) q459) ?_
  refine .V (fa rfl tF52_1) ?_
  obtain ⟨_, ⟨a3, c2, a4, c3, a5, c4, rfl, ⟨q460, q461⟩, ⟨q462, q463⟩, q464, q465⟩, q466⟩ := _q5.elem q459
  refine .V (ld1 (v := .slice a4 ((gt t.ops op).add.length) c3) rfl tO22 (cellH (q466 (by decide) 1 _ rfl))) ?_
  refine .V mv0 ?_
  obtain ⟨q467, hF⟩ := hF
  obtain ⟨r2, q468⟩ : ∃ y_ : Bool, y_ = sp_has ((gt t.ops op).add) p := ⟨_, rfl⟩
  replace hF := hF r2 q468
  refine .C (cl (v := .bool r2) Tryz.call71 rfl rfl (fun w S => (by rw [q468]; exact c_has S.sub ((gt t.ops op).add) a4 c3 q463 q462 p q467))) ?_
  refine .V mv0 ?_
  rcases Bool.eq_false_or_eq_true (r2) with q469 | q469
  ·replace hF := hF.1 q469
   refine .GS q469 ?_
   refine .GS q469 ?_
   refine .GS q469 ?_
   refine .GS q469 ?_
   refine .GU ?_
   refine .GU ?_
   refine .GU ?_
   refine .GU ?_
   refine .GU ?_
   refine .GU ?_
   refine .GU ?_
   refine .GU ?_
   refine .GU ?_
   refine .GS q469 ?_
   refine .V (pkT rfl q469 rfl) ?_
   refine .nil ?_
   exact .US q454 true hF
  replace hF := hF.2 q469
  refine .GV mv0 q469 ?_
  refine .GV mv0 q469 ?_
  obtain ⟨q470, hF⟩ := hF
  obtain ⟨r3, q471⟩ : ∃ y_ : Bool, y_ = sp_has s_ p := ⟨_, rfl⟩
  replace hF := hF r3 q471
  refine .gc (cl (v := .bool r3) Tryz.call71 rfl rfl (fun w S => (by rw [q471]; exact c_has S.sub s_ as_ cs_ _q7 _q8 p q470))) rfl rfl rfl q469 rfl rfl ?_
  refine .GV mv0 q469 ?_
  rcases Bool.eq_false_or_eq_true (r3) with q472 | q472
  ·replace hF := hF.1 q472
   refine .GV (fa rfl tF25_3) q472 ?_
   refine .GV (ld1 rfl tO23 (cellB (off := 3) (k := 0) rfl rfl)) q472 ?_
   refine .GV mv0 q472 ?_
   refine .GV (ix rfl rfl tS23 (_q5.ne (by decide) (inb_pos q459)) q459) q472 ?_
   refine .GV (fa rfl tF52_2) q472 ?_
   refine .GV (ld1 (v := .slice a5 ((gt t.ops op).del.length) c4) rfl tO22 (cellH (q466 (by decide) 2 _ rfl))) q472 ?_
   refine .GV mv0 q472 ?_
   obtain ⟨q473, hF⟩ := hF
   obtain ⟨r4, q474⟩ : ∃ y_ : Bool, y_ = sp_has ((gt t.ops op).del) p := ⟨_, rfl⟩
   replace hF := hF r4 q474
   refine .gc (cl (v := .bool r4) Tryz.call71 rfl rfl (fun w S => (by rw [q474]; exact c_has S.sub ((gt t.ops op).del) a5 c4 q465 q464 p q473))) rfl rfl rfl q472 rfl rfl ?_
   refine .GV (nt rfl) q472 ?_
   refine .GV (pkT rfl q472 rfl) q469 ?_
   refine .V (pkF rfl q469 rfl) ?_
   refine .nil ?_
   exact .US q454 (!r4) hF
  replace hF := hF.2 q472
  refine .GS q472 ?_
  refine .GS q472 ?_
  refine .GS q472 ?_
  refine .GS q472 ?_
  refine .GS q472 ?_
  refine .GS q472 ?_
  refine .GS q472 ?_
  refine .GS q472 ?_
  refine .GS q472 ?_
  refine .GV (pkF rfl q472 rfl) q469 ?_
  refine .V (pkF rfl q469 rfl) ?_
  refine .nil ?_
  exact .US q454 false hF
 replace hF := hF.2 q399
 refine .exit (.seqX (.seqX (.blkX (.seqN (.seq (.region (.V mv0 ?_)))))))
 refine .V ag0 ?_
 refine .nil (.seqN ?_)
 refine .freezeL (k := 1) rfl (fun h1 le1 q476 q475 => ?_)
 refine .KA [Box pt (tF t at_ ct at_2 ct2 at_3 ct3), tru] ?_
 refine .ret ?_
 refine .res1 rfl (rvT rfl) (fun w' S => ⟨out, (aout, cout), h1, hF, rfl, (le1), ⟨(RSl.of q475), (q476)⟩, S.none⟩)
theorem c_after {h : FH} {w : World} (hs : Sub h w) (t : Task) (at_ : Option Addr) (ct : Nat) (_q1 : RSl h at_ t.init) (_q2 : t.init.length ≤ ct) (at_2 : Option Addr) (ct2 : Nat) (_q3 : RSl h at_2 t.goal) (_q4 : t.goal.length ≤ ct2) (at_3 : Option Addr) (ct3 : Nat) (_q5 : RSl h at_3 t.ops) (_q6 : t.ops.length ≤ ct3) (s_ : List Int) (as_ : Option Addr) (cs_ : Nat) (_q7 : RSl h as_ s_) (_q8 : s_.length ≤ cs_) (op : Int) (hp : pre_after t s_ op) : Calls Tryz.prog 70 #[.agg #[iV t.facts, .slice at_ t.init.length ct, .slice at_2 t.goal.length ct2, .slice at_3 t.ops.length ct3], .slice as_ s_.length cs_, iV op] w fun e w' => ∃ (z : Option Addr × Nat) (h1 : FH), e = .returned (.slice z.1 (sp_after t s_ op).length z.2) ∧ FH.le h h1 ∧ (RSl h1 z.1 (sp_after t s_ op) ∧ (sp_after t s_ op).length ≤ z.2) ∧ SH (Kp.all w h) h1 w' [] :=
 (w_after hs t at_ ct _q1 _q2 at_2 ct2 _q3 _q4 at_3 ct3 _q5 _q6 s_ as_ cs_ _q7 _q8 op (fun r => r = sp_after t s_ op) (ok_after t s_ op hp)).mono fun _ _ ⟨r, z, h1, hk, he, hl, hf, hS⟩ => by subst hk; exact ⟨z, h1, he, hl, hf, hS⟩
theorem w_hardest {h : FH} {w : World} (hs : Sub h w) (x : SearchT) (ax : Option Addr) (cx : Nat) (_q1 : RSl h ax x.t.init) (_q2 : x.t.init.length ≤ cx) (ax2 : Option Addr) (cx2 : Nat) (_q3 : RSl h ax2 x.t.goal) (_q4 : x.t.goal.length ≤ cx2) (ax3 : Option Addr) (cx3 : Nat) (_q5 : RSl h ax3 x.t.ops) (_q6 : x.t.ops.length ≤ cx3) (ax4 : Option Addr) (cx4 : Nat) (_q7 : RSl h ax4 x.s) (_q8 : x.s.length ≤ cx4) (ax5 : Option Addr) (cx5 : Nat) (_q9 : RSl h ax5 x.costs) (_q10 : x.costs.length ≤ cx5) (ax6 : Option Addr) (cx6 : Nat) (_q11 : RSl h ax6 x.value) (_q12 : x.value.length ≤ cx6) (px : Addr) (_q13 : CellsAt h px [iV x.t.facts, .slice ax x.t.init.length cx, .slice ax2 x.t.goal.length cx2, .slice ax3 x.t.ops.length cx3, .slice ax4 x.s.length cx4, .slice ax5 x.costs.length cx5, .slice ax6 x.value.length cx6]) (facts : List Int) (afacts : Option Addr) (cfacts : Nat) (_q14 : RSl h afacts facts) (_q15 : facts.length ≤ cfacts) (K : Int → Prop) (hF : F_hardest x facts K) : Calls Tryz.prog 102 #[.pointer (some px), .slice afacts facts.length cfacts] w fun e w' => ∃ r : Int, K r ∧ e = .returned (iV r) ∧ Below w.heap.size w w' := by
 refine enter (args := [.pointer (some px), vSl afacts facts cfacts]) Tryz.func102 rfl Tryz.ntmps102 rfl hs ?_
 refine .seq (.region (.V ag0 ?_))
 refine .nil (.seqN (.seq (.region (.V mv0 ?_))))
 refine .V (nck rfl) ?_
 refine .V (fa rfl tF135_0) ?_
 refine .V (faa (p := px) (o1 := 0) rfl tF25_0 rfl) ?_
 refine .V (ld1 (v := iV x.t.facts) rfl tO3 (cellH (CellsAt.mono (FH.le_refl _) _q13 0 _ rfl))) ?_
 refine .V ag0 ?_
 refine .nil (.seqN (.seq (.seq (.region (.V mv0 ?_)))))
 refine .V (ln rfl tS22.is) ?_
 refine .V mv0 ?_
 refine .nil (.seqN (.block ?_))
 obtain ⟨I1, μ1, q136, q137⟩ := hF
 refine .loop' (σ := Int × Int) (fun z => I1 z.1 z.2) (fun z => μ1 z.1 z.2) (fun z => [(0, .pointer (some px)), (5, iV z.1), (13, vSl afacts facts cfacts), (14, iV ((facts.length : Nat) : Int)), (15, iV z.2)]) (fun _ => []) (fun _ => h) (x.t.facts, 0) q136 sb rfl (FH.le_refl _) ?_
 rintro ⟨best, t15⟩ q136
 have hF := q137 best t15 q136
 show J _ _ _ _ _ [(0, .pointer (some px)), (5, iV best), (13, vSl afacts facts cfacts), (14, iV ((facts.length : Nat) : Int)), (15, iV t15)] [] h
 refine .seq (.region (.V bi0 ?_))
 refine .nil (.seqN (.seq ?_))
 refine .cond rfl (fun q140 => ?_) (fun q140 => ?_)
 ·replace hF := hF.1 q140
  refine .skip (.seqN ?_)
  refine .share (σ := Int) (fun z => F_hardest_J1 best t15 I1 μ1 z) (fun z => [(0, .pointer (some px)), (5, iV z), (13, vSl afacts facts cfacts), (14, iV ((facts.length : Nat) : Int)), (15, iV t15)]) (fun _ => []) (fun _ => h) ?_ (fun q150 => ?_)
  ·rintro best3 hF
   show J _ _ _ _ _ [(0, .pointer (some px)), (5, iV best3), (13, vSl afacts facts cfacts), (14, iV ((facts.length : Nat) : Int)), (15, iV t15)] [] h
   refine .region (.V bi0 ?_)
   refine .V mv0 ?_
   refine .nil ?_
   exact .RO (best3, wr (t15 + 1)) hF.1 hF.2
  refine .block (.seq (.region ?_))
  obtain ⟨q151, hF⟩ := hF
  refine .V (ix rfl rfl tS22 (_q14.ne (by decide) (inb_pos q151)) q151) ?_
  refine .V (ld1 (v := iV (gt facts t15)) rfl tO3 (cellH (_q14.elemF q151 (by decide) 0 _ rfl))) ?_
  refine .V ag0 ?_
  refine .nil (.seqN ?_)
  refine .share (σ := Bool) (fun z => F_hardest_J2 facts z best t15 I1 μ1) (fun z => [(0, .pointer (some px)), (5, iV best), (7, iV (gt facts t15)), (13, vSl afacts facts cfacts), (14, iV ((facts.length : Nat) : Int)), (15, iV t15), (42, .bool z)]) (fun _ => []) (fun _ => h) ?_ (fun q155 => ?_)
  ·rintro t42 hF
   show J _ _ _ _ _ [(0, .pointer (some px)), (5, iV best), (7, iV (gt facts t15)), (13, vSl afacts facts cfacts), (14, iV ((facts.length : Nat) : Int)), (15, iV t15), (42, .bool t42)] [] h
   refine .cond rfl (fun q156 => ?_) (fun q156 => ?_)
   ·replace hF := hF.1 q156
    refine .region (.V mv0 ?_)
    refine .V ag0 ?_
    refine .nil (.blkN ?_)
    exact .US q150 (gt facts t15) hF
   replace hF := hF.2 q156
   refine .skip (.blkN ?_)
   exact .US q150 best hF
  refine .open_ (by kernel_rfl) (by kernel_rfl) ?_
  refine .V mv0 ?_
  refine .V mv0 ?_
  refine .V (nck rfl) ?_
  refine .V (fa rfl tF135_0) ?_
  refine .V (faa (p := px) (o1 := 0) rfl tF25_0 rfl) ?_
  refine .V (ld1 (v := iV x.t.facts) rfl tO3 (cellH (CellsAt.mono (FH.le_refl _) _q13 0 _ rfl))) ?_
  refine .V bi0 ?_
  refine .V mv0 ?_
  rcases Bool.eq_false_or_eq_true (best == x.t.facts) with q157 | q157
  ·replace hF := hF.1 q157
   refine .GS q157 ?_
   refine .GS q157 ?_
   refine .GS q157 ?_
   refine .GS q157 ?_
   refine .GS q157 ?_
   refine .GS q157 ?_
   refine .GS q157 ?_
   refine .GS q157 ?_
   refine .GS q157 ?_
   refine .GS q157 ?_
   refine .GS q157 ?_
   refine .GS q157 ?_
   refine .GS q157 ?_
   refine .GS q157 ?_
   refine .GS q157 ?_
   refine .V (pkT rfl q157 rfl) ?_
   refine .fin ?_
   exact .US q155 true hF
  replace hF := hF.2 q157
  refine .GV mv0 q157 ?_
  refine .GV (nck rfl) q157 ?_
  refine .GV (fa rfl tF135_3) q157 ?_
  refine .GV (ld1 (v := vSl ax6 x.value cx6) rfl tO22 (cellH (CellsAt.mono (FH.le_refl _) _q13 6 _ rfl))) q157 ?_
  refine .GV mv0 q157 ?_
  obtain ⟨q158, hF⟩ := hF
  refine .GV (ix rfl rfl tS22 (_q11.ne (by decide) (inb_pos q158)) q158) q157 ?_
  refine .GV (ld1 (v := iV (gt x.value (gt facts t15))) rfl tO3 (cellH (_q11.elemF q158 (by decide) 0 _ rfl))) q157 ?_
  refine .GV mv0 q157 ?_
  refine .GV (nck rfl) q157 ?_
  refine .GV (fa rfl tF135_3) q157 ?_
  refine .GV (ld1 (v := vSl ax6 x.value cx6) rfl tO22 (cellH (CellsAt.mono (FH.le_refl _) _q13 6 _ rfl))) q157 ?_
  refine .GV mv0 q157 ?_
  obtain ⟨q159, hF⟩ := hF
  refine .GV (ix rfl rfl tS22 (_q11.ne (by decide) (inb_pos q159)) q159) q157 ?_
  refine .GV (ld1 (v := iV (gt x.value best)) rfl tO3 (cellH (_q11.elemF q159 (by decide) 0 _ rfl))) q157 ?_
  refine .GV bi0 q157 ?_
  refine .V (pkF rfl q157 rfl) ?_
  refine .fin ?_
  exact .US q155 (decide ((gt x.value best) < (gt x.value (gt facts t15)))) hF
 replace hF := hF.2 q140
 refine .exit (.seqX (.seqX (.blkX (.seqN (.seq (.region (.V mv0 ?_)))))))
 refine .V ag0 ?_
 refine .nil (.seqN (.ret ?_))
 refine .res1 rfl (rvT rfl) (fun w' S => ⟨best, hF, rfl, S.below⟩)
theorem c_hardest {h : FH} {w : World} (hs : Sub h w) (x : SearchT) (ax : Option Addr) (cx : Nat) (_q1 : RSl h ax x.t.init) (_q2 : x.t.init.length ≤ cx) (ax2 : Option Addr) (cx2 : Nat) (_q3 : RSl h ax2 x.t.goal) (_q4 : x.t.goal.length ≤ cx2) (ax3 : Option Addr) (cx3 : Nat) (_q5 : RSl h ax3 x.t.ops) (_q6 : x.t.ops.length ≤ cx3) (ax4 : Option Addr) (cx4 : Nat) (_q7 : RSl h ax4 x.s) (_q8 : x.s.length ≤ cx4) (ax5 : Option Addr) (cx5 : Nat) (_q9 : RSl h ax5 x.costs) (_q10 : x.costs.length ≤ cx5) (ax6 : Option Addr) (cx6 : Nat) (_q11 : RSl h ax6 x.value) (_q12 : x.value.length ≤ cx6) (px : Addr) (_q13 : CellsAt h px [iV x.t.facts, .slice ax x.t.init.length cx, .slice ax2 x.t.goal.length cx2, .slice ax3 x.t.ops.length cx3, .slice ax4 x.s.length cx4, .slice ax5 x.costs.length cx5, .slice ax6 x.value.length cx6]) (facts : List Int) (afacts : Option Addr) (cfacts : Nat) (_q14 : RSl h afacts facts) (_q15 : facts.length ≤ cfacts) (hp : pre_hardest x facts) : Calls Tryz.prog 102 #[.pointer (some px), .slice afacts facts.length cfacts] w fun e w' => e = .returned (iV (sp_hardest x facts)) ∧ Below w.heap.size w w' :=
 (w_hardest hs x ax cx _q1 _q2 ax2 cx2 _q3 _q4 ax3 cx3 _q5 _q6 ax4 cx4 _q7 _q8 ax5 cx5 _q9 _q10 ax6 cx6 _q11 _q12 px _q13 facts afacts cfacts _q14 _q15 (fun r => r = sp_hardest x facts) (ok_hardest x facts hp)).mono fun _ _ ⟨_, hk, he, hb⟩ => ⟨by rw [he, hk], hb⟩
set_option maxHeartbeats 8000000 in
theorem w_zone {h : FH} {w : World} (hs : Sub h w) (x : SearchT) (ax : Option Addr) (cx : Nat) (_q1 : RSl h ax x.t.init) (_q2 : x.t.init.length ≤ cx) (ax2 : Option Addr) (cx2 : Nat) (_q3 : RSl h ax2 x.t.goal) (_q4 : x.t.goal.length ≤ cx2) (ax3 : Option Addr) (cx3 : Nat) (_q5 : RSl h ax3 x.t.ops) (_q6 : x.t.ops.length ≤ cx3) (ax4 : Option Addr) (cx4 : Nat) (_q7 : RSl h ax4 x.s) (_q8 : x.s.length ≤ cx4) (ax5 : Option Addr) (cx5 : Nat) (_q9 : RSl h ax5 x.costs) (_q10 : x.costs.length ≤ cx5) (ax6 : Option Addr) (cx6 : Nat) (_q11 : RSl h ax6 x.value) (_q12 : x.value.length ≤ cx6) (px : Addr) (_q13 : CellsAt h px [iV x.t.facts, .slice ax x.t.init.length cx, .slice ax2 x.t.goal.length cx2, .slice ax3 x.t.ops.length cx3, .slice ax4 x.s.length cx4, .slice ax5 x.costs.length cx5, .slice ax6 x.value.length cx6]) (K : (List Bool) → Prop) (hF : F_zone x K) : Calls Tryz.prog 100 #[.pointer (some px)] w fun e w' => ∃ (r : List Bool) (z : Option Addr × Nat) (h1 : FH), K r ∧ e = .returned (.slice z.1 r.length z.2) ∧ FH.le h h1 ∧ True ∧ SH (Kp.all w h) h1 w' [OwnSl 4 1 z.1 r.length z.2 (flL r)] := by
 refine enter (args := [.pointer (some px)]) Tryz.func100 rfl Tryz.ntmps100 rfl hs ?_
 refine .seq (.region (.V ag0 ?_))
 refine .nil (.seqN (.seq (.region (.V mv0 ?_))))
 refine .V (nck rfl) ?_
 refine .V (fa rfl tF135_0) ?_
 refine .V (faa (p := px) (o1 := 0) rfl tF25_0 rfl) ?_
 refine .V (ld1 (v := iV x.t.facts) rfl tO3 (cellH (CellsAt.mono (FH.le_refl _) _q13 0 _ rfl))) ?_
 refine .V bi0 ?_
 obtain ⟨q14, hF⟩ := hF
 refine mk (m := (wr (x.t.facts + 1)).toNat) (cs' := flL (List.replicate (wr (x.t.facts + 1)).toNat (false : Bool))) tS171 rfl rfl (Int.toNat_of_nonneg q14.1).symm q14.2.1 q14.2.2 (flL_rep1 rfl _) rfl (fun a c => ?_)
 have q15 : (List.replicate (wr (x.t.facts + 1)).toNat (false : Bool)).length = (wr (x.t.facts + 1)).toNat := List.length_replicate
 refine .KA [OwnSl 4 1 a ((wr (x.t.facts + 1)).toNat) c (flL (List.replicate (wr (x.t.facts + 1)).toNat (false : Bool)))] ?_
 refine .V ag0 ?_
 refine .nil (.seqN (.seq (.region (.V mv0 ?_))))
 refine .V mv0 ?_
 refine .V mv0 ?_
 refine .V (nck rfl) ?_
 refine .V (fa rfl tF135_0) ?_
 refine .V (faa (p := px) (o1 := 0) rfl tF25_2 rfl) ?_
 refine .V (ld1 (v := vSl ax2 x.t.goal cx2) rfl tO22 (cellH (CellsAt.mono (FH.le_refl _) _q13 2 _ rfl))) ?_
 obtain ⟨q16, hF⟩ := hF
 obtain ⟨r2, q17⟩ : ∃ y_ : Int, y_ = sp_hardest x x.t.goal := ⟨_, rfl⟩
 replace hF := hF r2 q17
 refine .C (cl (v := iV r2) Tryz.call102 rfl rfl (fun w S => (by rw [q17]; exact c_hardest S.sub x ax cx _q1 _q2 ax2 cx2 _q3 _q4 ax3 cx3 _q5 _q6 ax4 cx4 _q7 _q8 ax5 cx5 _q9 _q10 ax6 cx6 _q11 _q12 px (CellsAt.mono (FH.le_refl _) _q13) x.t.goal ax2 cx2 _q3 _q4 q16))) ?_
 obtain ⟨q18, hF⟩ := hF
 refine .V (ixS rfl rfl tS171 (k := 0) rfl (inb_n q18 q15)) ?_
 obtain ⟨d, q19⟩ : ∃ y_ : List Bool, y_ = ((List.replicate (wr (x.t.facts + 1)).toNat (false : Bool)).set (r2).toNat true) := ⟨_, rfl⟩
 replace hF := hF d q19
 refine stS (k := 0) (cs' := flL d) rfl (fun _ => rfl) rfl rfl (fun w => (tO4 w).2) rfl rfl rfl (by rw [← q15]; exact inb_pos q18) (fl_room q18) (by rw [q19]; exact flL_set q18 true) ?_
 have q20 : d.length = (wr (x.t.facts + 1)).toNat := by rw [q19]; exact List.length_set.trans q15
 refine .KA [OwnSl 4 1 a ((wr (x.t.facts + 1)).toNat) c (flL d)] ?_
 refine .nil (.seqN (.seq (.seq (.region (.V ag0 ?_)))))
 refine .nil (.seqN (.block ?_))
 obtain ⟨I1, μ1, q2422, q2423⟩ := hF
 refine .loop' (σ := Bool × List Bool) (fun z => I1 z.1 z.2 ∧ z.2.length = (wr (x.t.facts + 1)).toNat) (fun z => μ1 z.1 z.2) (fun z => [(0, .pointer (some px)), (3, .slice a ((wr (x.t.facts + 1)).toNat) c), (4, .bool z.1)]) (fun z => [OwnSl 4 1 a ((wr (x.t.facts + 1)).toNat) c (flL z.2)]) (fun _ => h) (true, d) ⟨q2422, q20⟩ sb rfl (FH.le_refl _) ?_
 rintro ⟨changed, in_⟩ ⟨q2422, q1941⟩
 have hF := q2423 changed in_ q2422
 show J _ _ _ _ _ [(0, .pointer (some px)), (3, .slice a ((wr (x.t.facts + 1)).toNat) c), (4, .bool changed)] [OwnSl 4 1 a ((wr (x.t.facts + 1)).toNat) c (flL in_)] h
 refine .seq (.seq (.region (.V mv0 ?_)))
 refine .nil (.seqN ?_)
 refine .cond rfl (fun q2425 => ?_) (fun q2425 => ?_)
 ·replace hF := hF.1 q2425
  refine .skip (.seqN (.block (.seq (.region (.V ag0 ?_)))))
  refine .nil (.seqN (.seq (.region (.V mv0 ?_))))
  refine .V (nck rfl) ?_
  refine .V (fa rfl tF135_0) ?_
  refine .V (faa (p := px) (o1 := 0) rfl tF25_3 rfl) ?_
  refine .V (ld1 (v := vSl ax3 x.t.ops cx3) rfl tO23 (cellH (CellsAt.mono (FH.le_refl _) _q13 3 _ rfl))) ?_
  refine .V (ln rfl tS23.is) ?_
  refine .V mv0 ?_
  refine .nil (.seqN (.block ?_))
  obtain ⟨I2, μ2, q2744, q2745⟩ := hF
  refine .loop' (σ := Bool × Int × List Bool) (fun z => I2 z.1 z.2.1 z.2.2 ∧ z.2.2.length = (wr (x.t.facts + 1)).toNat) (fun z => μ2 z.1 z.2.1 z.2.2) (fun z => [(0, .pointer (some px)), (3, .slice a ((wr (x.t.facts + 1)).toNat) c), (4, .bool z.1), (31, vSl ax3 x.t.ops cx3), (32, iV ((x.t.ops.length : Nat) : Int)), (33, iV z.2.1)]) (fun z => [OwnSl 4 1 a ((wr (x.t.facts + 1)).toNat) c (flL z.2.2)]) (fun _ => h) (false, 0, in_) ⟨q2744, q1941⟩ sb rfl (FH.le_refl _) ?_
  rintro ⟨changed3, t33, in_3⟩ ⟨q2744, q2585⟩
  have hF := q2745 changed3 t33 in_3 q2744
  show J _ _ _ _ _ [(0, .pointer (some px)), (3, .slice a ((wr (x.t.facts + 1)).toNat) c), (4, .bool changed3), (31, vSl ax3 x.t.ops cx3), (32, iV ((x.t.ops.length : Nat) : Int)), (33, iV t33)] [OwnSl 4 1 a ((wr (x.t.facts + 1)).toNat) c (flL in_3)] h
  refine .seq (.region (.V bi0 ?_))
  refine .nil (.seqN (.seq ?_))
  refine .cond rfl (fun q2748 => ?_) (fun q2748 => ?_)
  ·replace hF := hF.1 q2748
   refine .skip (.seqN ?_)
   refine .share (σ := Bool × List Bool) (fun z => F_zone_J1 changed3 in_3 t33 z.1 z.2 I2 μ2 ∧ z.2.length = (wr (x.t.facts + 1)).toNat) (fun z => [(0, .pointer (some px)), (3, .slice a ((wr (x.t.facts + 1)).toNat) c), (4, .bool z.1), (31, vSl ax3 x.t.ops cx3), (32, iV ((x.t.ops.length : Nat) : Int)), (33, iV t33)]) (fun z => [OwnSl 4 1 a ((wr (x.t.facts + 1)).toNat) c (flL z.2)]) (fun _ => h) ?_ (fun q2826 => ?_)
   ·rintro ⟨changed5, in_5⟩ ⟨hF, q2825⟩
    show J _ _ _ _ _ [(0, .pointer (some px)), (3, .slice a ((wr (x.t.facts + 1)).toNat) c), (4, .bool changed5), (31, vSl ax3 x.t.ops cx3), (32, iV ((x.t.ops.length : Nat) : Int)), (33, iV t33)] [OwnSl 4 1 a ((wr (x.t.facts + 1)).toNat) c (flL in_5)] h
    refine .region (.V bi0 ?_)
    refine .V mv0 ?_
    refine .nil ?_
    exact .RO (changed5, wr (t33 + 1), in_5) ⟨hF.1, q2825⟩ hF.2
   refine .block (.seq (.region (.V mv0 ?_)))
   obtain ⟨q2827, hF⟩ := hF
   refine .V (ix rfl rfl tS23 (_q5.ne (by decide) (inb_pos q2827)) q2827) ?_
   obtain ⟨_, ⟨a2, c2, a3, c3, a4, c4, rfl, ⟨q2828, q2829⟩, ⟨q2830, q2831⟩, q2832, q2833⟩, q2834⟩ := _q5.elem q2827
   refine .V (ldA (cs := [.slice a2 ((gt x.t.ops t33).pre.length) c2, .slice a3 ((gt x.t.ops t33).add.length) c3, .slice a4 ((gt x.t.ops t33).del.length) c4, iV ((gt x.t.ops t33).cost)]) rfl tA52 rfl (cellsH (q2834 (by decide)))) ?_
   refine al tZ52 rfl (fun po => ?_)
   refine .V ag0 ?_
   refine st (p := po) (off := 0) (k := 0) (vs := [.slice a2 ((gt x.t.ops t33).pre.length) c2, .slice a3 ((gt x.t.ops t33).add.length) c3, .slice a4 ((gt x.t.ops t33).del.length) c4, iV ((gt x.t.ops t33).cost)]) rfl rfl rfl (fun w => (tA52 w).2) rfl rfl rfl rfl ?_
   refine .KA [Box po [.slice a2 ((gt x.t.ops t33).pre.length) c2, .slice a3 ((gt x.t.ops t33).add.length) c3, .slice a4 ((gt x.t.ops t33).del.length) c4, iV ((gt x.t.ops t33).cost)], OwnSl 4 1 a ((wr (x.t.facts + 1)).toNat) c (flL in_3)] ?_
   refine .nil (.seqN (.seq (.region (.V mv0 ?_))))
   refine .V (fa rfl tF52_0) ?_
   refine .V (ld1 rfl tO22 (cellB (off := 0) (k := 0) rfl rfl)) ?_
   obtain ⟨q2835, hF⟩ := hF
   obtain ⟨r3, q2836⟩ : ∃ y_ : Int, y_ = sp_hardest x ((gt x.t.ops t33).pre) := ⟨_, rfl⟩
   replace hF := hF r3 q2836
   refine .C (cl (v := iV r3) Tryz.call102 rfl rfl (fun w S => (by rw [q2836]; exact c_hardest S.sub x ax cx _q1 _q2 ax2 cx2 _q3 _q4 ax3 cx3 _q5 _q6 ax4 cx4 _q7 _q8 ax5 cx5 _q9 _q10 ax6 cx6 _q11 _q12 px (CellsAt.mono (FH.le_refl _) _q13) ((gt x.t.ops t33).pre) a2 c2 q2829 q2828 q2835))) ?_
   refine .V ag0 ?_
   refine .nil (.seqN (.seq ?_))
   refine .share (σ := Bool) (fun z => F_zone_J2 x r3 z changed3 in_3 t33 I2 μ2) (fun z => [(0, .pointer (some px)), (3, .slice a ((wr (x.t.facts + 1)).toNat) c), (4, .bool changed3), (6, .pointer (some po)), (7, iV r3), (31, vSl ax3 x.t.ops cx3), (32, iV ((x.t.ops.length : Nat) : Int)), (33, iV t33), (55, .bool z)]) (fun _ => [OwnSl 4 1 a ((wr (x.t.facts + 1)).toNat) c (flL in_3), Box po [.slice a2 ((gt x.t.ops t33).pre.length) c2, .slice a3 ((gt x.t.ops t33).add.length) c3, .slice a4 ((gt x.t.ops t33).del.length) c4, iV ((gt x.t.ops t33).cost)]]) (fun _ => h) ?_ (fun q2840 => ?_)
   ·rintro t55 hF
    show J _ _ _ _ _ [(0, .pointer (some px)), (3, .slice a ((wr (x.t.facts + 1)).toNat) c), (4, .bool changed3), (6, .pointer (some po)), (7, iV r3), (31, vSl ax3 x.t.ops cx3), (32, iV ((x.t.ops.length : Nat) : Int)), (33, iV t33), (55, .bool t55)] [OwnSl 4 1 a ((wr (x.t.facts + 1)).toNat) c (flL in_3), Box po [.slice a2 ((gt x.t.ops t33).pre.length) c2, .slice a3 ((gt x.t.ops t33).add.length) c3, .slice a4 ((gt x.t.ops t33).del.length) c4, iV ((gt x.t.ops t33).cost)]] h
    refine .cond rfl (fun q2842 => ?_) (fun q2842 => ?_)
    ·replace hF := hF.1 q2842
     refine .exit (.seqX (.blkX ?_))
     refine .sel0 [0] (by decide) rfl ?_
     exact .US q2826 (changed3, in_3) ⟨hF, q2585⟩
    replace hF := hF.2 q2842
    refine .skip (.seqN (.seq (.region (.V (fa rfl tF52_1) ?_))))
    refine .V (ld1 rfl tO22 (cellB (off := 1) (k := 1) rfl rfl)) ?_
    refine .V (ln rfl tS22.is) ?_
    refine .V mv0 ?_
    refine .nil (.seqN (.block ?_))
    refine .sel0 [0] (by decide) rfl ?_
    obtain ⟨I3, μ3, q2881, q2882⟩ := hF
    refine .loop' (σ := Bool × Int × List Bool) (fun z => I3 z.1 z.2.1 z.2.2 ∧ z.2.2.length = (wr (x.t.facts + 1)).toNat) (fun z => μ3 z.1 z.2.1 z.2.2) (fun z => [(0, .pointer (some px)), (3, .slice a ((wr (x.t.facts + 1)).toNat) c), (4, .bool z.1), (7, iV r3), (31, vSl ax3 x.t.ops cx3), (32, iV ((x.t.ops.length : Nat) : Int)), (33, iV t33), (57, .slice a3 ((gt x.t.ops t33).add.length) c3), (58, iV (((gt x.t.ops t33).add.length : Nat) : Int)), (59, iV z.2.1)]) (fun z => [OwnSl 4 1 a ((wr (x.t.facts + 1)).toNat) c (flL z.2.2)]) (fun _ => h) (changed3, 0, in_3) ⟨q2881, q2585⟩ sb rfl (FH.le_refl _) ?_
    rintro ⟨changed6, t59, in_6⟩ ⟨q2881, q2862⟩
    have hF := q2882 changed6 t59 in_6 q2881
    show J _ _ _ _ _ [(0, .pointer (some px)), (3, .slice a ((wr (x.t.facts + 1)).toNat) c), (4, .bool changed6), (7, iV r3), (31, vSl ax3 x.t.ops cx3), (32, iV ((x.t.ops.length : Nat) : Int)), (33, iV t33), (57, .slice a3 ((gt x.t.ops t33).add.length) c3), (58, iV (((gt x.t.ops t33).add.length : Nat) : Int)), (59, iV t59)] [OwnSl 4 1 a ((wr (x.t.facts + 1)).toNat) c (flL in_6)] h
    refine .seq (.region (.V bi0 ?_))
    refine .nil (.seqN (.seq ?_))
    refine .cond rfl (fun q2885 => ?_) (fun q2885 => ?_)
    ·replace hF := hF.1 q2885
     refine .skip (.seqN ?_)
     refine .share (σ := Bool × List Bool) (fun z => F_zone_J3 t59 I3 μ3 changed6 in_6 z.1 z.2 ∧ z.2.length = (wr (x.t.facts + 1)).toNat) (fun z => [(0, .pointer (some px)), (3, .slice a ((wr (x.t.facts + 1)).toNat) c), (4, .bool z.1), (7, iV r3), (31, vSl ax3 x.t.ops cx3), (32, iV ((x.t.ops.length : Nat) : Int)), (33, iV t33), (57, .slice a3 ((gt x.t.ops t33).add.length) c3), (58, iV (((gt x.t.ops t33).add.length : Nat) : Int)), (59, iV t59)]) (fun z => [OwnSl 4 1 a ((wr (x.t.facts + 1)).toNat) c (flL z.2)]) (fun _ => h) ?_ (fun q2893 => ?_)
     ·rintro ⟨changed8, in_8⟩ ⟨hF, q2892⟩
      show J _ _ _ _ _ [(0, .pointer (some px)), (3, .slice a ((wr (x.t.facts + 1)).toNat) c), (4, .bool changed8), (7, iV r3), (31, vSl ax3 x.t.ops cx3), (32, iV ((x.t.ops.length : Nat) : Int)), (33, iV t33), (57, .slice a3 ((gt x.t.ops t33).add.length) c3), (58, iV (((gt x.t.ops t33).add.length : Nat) : Int)), (59, iV t59)] [OwnSl 4 1 a ((wr (x.t.facts + 1)).toNat) c (flL in_8)] h
      refine .region (.V bi0 ?_)
      refine .V mv0 ?_
      refine .nil ?_
      exact .RO (changed8, wr (t59 + 1), in_8) ⟨hF.1, q2892⟩ hF.2
     refine .block (.seq (.region ?_))
     obtain ⟨q2894, hF⟩ := hF
     refine .V (ix rfl rfl tS22 (q2831.ne (by decide) (inb_pos q2894)) q2894) ?_
     refine .V (ld1 (v := iV (gt ((gt x.t.ops t33).add) t59)) rfl tO3 (cellH (q2831.elemF q2894 (by decide) 0 _ rfl))) ?_
     refine .V ag0 ?_
     refine .nil (.seqN (.seq (.region (.V mv0 ?_))))
     refine .V mv0 ?_
     obtain ⟨q2895, hF⟩ := hF
     refine .V (ixS rfl rfl tS171 (k := 0) rfl (inb_n q2895 q2862)) ?_
     refine .V (ld1 (v := .bool (gt in_6 (gt ((gt x.t.ops t33).add) t59))) rfl tO4 (cellS (k := 0) rfl (flL_get q2895 (j := 0) rfl))) ?_
     refine .nil (.seqN ?_)
     refine .cond rfl (fun q2896 => ?_) (fun q2896 => ?_)
     ·replace hF := hF.1 q2896
      refine .region (.V mv0 ?_)
      refine .V mv0 ?_
      obtain ⟨q2897, hF⟩ := hF
      refine .V (ixS rfl rfl tS171 (k := 0) rfl (inb_n q2897 q2862)) ?_
      obtain ⟨d2, q2898⟩ : ∃ y_ : List Bool, y_ = (in_6.set (r3).toNat true) := ⟨_, rfl⟩
      replace hF := hF d2 q2898
      refine stS (k := 0) (cs' := flL d2) rfl (fun _ => rfl) rfl rfl (fun w => (tO4 w).2) rfl rfl rfl (by rw [← q2862]; exact inb_pos q2897) (fl_room q2897) (by rw [q2898]; exact flL_set q2897 true) ?_
      have q2899 : d2.length = (wr (x.t.facts + 1)).toNat := by rw [q2898]; exact List.length_set.trans q2862
      refine .KA [OwnSl 4 1 a ((wr (x.t.facts + 1)).toNat) c (flL d2)] ?_
      refine .V ag0 ?_
      refine .nil (.blkN ?_)
      exact .US q2893 (true, d2) ⟨hF, q2899⟩
     replace hF := hF.2 q2896
     refine .skip (.blkN ?_)
     exact .US q2893 (changed6, in_6) ⟨hF, q2862⟩
    replace hF := hF.2 q2885
    refine .exit (.seqX (.seqX (.blkX (.blkN ?_))))
    exact .US q2826 (changed6, in_6) ⟨hF, q2862⟩
   refine .region (.V mv0 ?_)
   refine .V (nck rfl) ?_
   refine .V (fa rfl tF135_2) ?_
   refine .V (ld1 (v := vSl ax5 x.costs cx5) rfl tO22 (cellH (CellsAt.mono (FH.le_refl _) _q13 5 _ rfl))) ?_
   refine .V mv0 ?_
   obtain ⟨q2900, hF⟩ := hF
   refine .V (ix rfl rfl tS22 (_q9.ne (by decide) (inb_pos q2900)) q2900) ?_
   refine .V (ld1 (v := iV (gt x.costs t33)) rfl tO3 (cellH (_q9.elemF q2900 (by decide) 0 _ rfl))) ?_
   refine .V bi0 ?_
   refine .V mv0 ?_
   rcases Bool.eq_false_or_eq_true (decide (0 < (gt x.costs t33))) with q2901 | q2901
   ·replace hF := hF.1 q2901
    refine .GS q2901 ?_
    refine .GS q2901 ?_
    refine .GS q2901 ?_
    refine .GS q2901 ?_
    refine .V (pkT rfl q2901 rfl) ?_
    refine .nil ?_
    refine .sel0 [1, 0] (by decide) rfl ?_
    exact .US q2840 true hF
   replace hF := hF.2 q2901
   refine .GV mv0 q2901 ?_
   refine .GV mv0 q2901 ?_
   obtain ⟨q2902, hF⟩ := hF
   refine .GV (ixS rfl rfl tS171 (k := 1) rfl (inb_n q2902 q2585)) q2901 ?_
   refine .GV (ld1 (v := .bool (gt in_3 r3)) rfl tO4 (cellS (k := 1) rfl (flL_get q2902 (j := 0) rfl))) q2901 ?_
   refine .V (pkF rfl q2901 rfl) ?_
   refine .nil ?_
   refine .sel0 [1, 0] (by decide) rfl ?_
   exact .US q2840 (gt in_3 r3) hF
  replace hF := hF.2 q2748
  refine .exit (.seqX (.seqX (.blkX (.blkN ?_))))
  exact .RO (changed3, in_3) ⟨hF.1, q2585⟩ hF.2
 replace hF := hF.2 q2425
 refine .exit (.seqX (.seqX (.blkX (.seqN (.seq (.region (.V mv0 ?_)))))))
 refine .V ag0 ?_
 refine .nil (.seqN (.ret ?_))
 refine .res1 rfl (rvT rfl) (fun w' S => ⟨in_, (a, c), h, hF, (by rw [q1941]), (FH.le_refl _), trivial, (by rw [q1941]; exact S.pick (k := 0) rfl)⟩)
theorem c_zone {h : FH} {w : World} (hs : Sub h w) (x : SearchT) (ax : Option Addr) (cx : Nat) (_q1 : RSl h ax x.t.init) (_q2 : x.t.init.length ≤ cx) (ax2 : Option Addr) (cx2 : Nat) (_q3 : RSl h ax2 x.t.goal) (_q4 : x.t.goal.length ≤ cx2) (ax3 : Option Addr) (cx3 : Nat) (_q5 : RSl h ax3 x.t.ops) (_q6 : x.t.ops.length ≤ cx3) (ax4 : Option Addr) (cx4 : Nat) (_q7 : RSl h ax4 x.s) (_q8 : x.s.length ≤ cx4) (ax5 : Option Addr) (cx5 : Nat) (_q9 : RSl h ax5 x.costs) (_q10 : x.costs.length ≤ cx5) (ax6 : Option Addr) (cx6 : Nat) (_q11 : RSl h ax6 x.value) (_q12 : x.value.length ≤ cx6) (px : Addr) (_q13 : CellsAt h px [iV x.t.facts, .slice ax x.t.init.length cx, .slice ax2 x.t.goal.length cx2, .slice ax3 x.t.ops.length cx3, .slice ax4 x.s.length cx4, .slice ax5 x.costs.length cx5, .slice ax6 x.value.length cx6]) (hp : pre_zone x) : Calls Tryz.prog 100 #[.pointer (some px)] w fun e w' => ∃ (z : Option Addr × Nat) (h0 h1 : FH), e = .returned (.slice z.1 (sp_zone x).length z.2) ∧ (True) ∧ FH.le h h1 ∧ SH (Kp.all w h0) h1 w' [OwnSl 4 1 z.1 (sp_zone x).length z.2 (flL (sp_zone x))] :=
 (w_zone hs x ax cx _q1 _q2 ax2 cx2 _q3 _q4 ax3 cx3 _q5 _q6 ax4 cx4 _q7 _q8 ax5 cx5 _q9 _q10 ax6 cx6 _q11 _q12 px _q13 (fun r => r = sp_zone x) (ok_zone x hp)).mono fun _ _ ⟨r, z, h1, hk, he, hl, hψ, hS⟩ => by subst hk; exact ⟨z, h, h1, he, hψ, hl, hS⟩
set_option maxHeartbeats 8000000 in
theorem w_beforeZ {h : FH} {w : World} (hs : Sub h w) (x : SearchT) (ax : Option Addr) (cx : Nat) (_q1 : RSl h ax x.t.init) (_q2 : x.t.init.length ≤ cx) (ax2 : Option Addr) (cx2 : Nat) (_q3 : RSl h ax2 x.t.goal) (_q4 : x.t.goal.length ≤ cx2) (ax3 : Option Addr) (cx3 : Nat) (_q5 : RSl h ax3 x.t.ops) (_q6 : x.t.ops.length ≤ cx3) (ax4 : Option Addr) (cx4 : Nat) (_q7 : RSl h ax4 x.s) (_q8 : x.s.length ≤ cx4) (ax5 : Option Addr) (cx5 : Nat) (_q9 : RSl h ax5 x.costs) (_q10 : x.costs.length ≤ cx5) (ax6 : Option Addr) (cx6 : Nat) (_q11 : RSl h ax6 x.value) (_q12 : x.value.length ≤ cx6) (px : Addr) (_q13 : CellsAt h px [iV x.t.facts, .slice ax x.t.init.length cx, .slice ax2 x.t.goal.length cx2, .slice ax3 x.t.ops.length cx3, .slice ax4 x.s.length cx4, .slice ax5 x.costs.length cx5, .slice ax6 x.value.length cx6]) (zone : List Bool) (azone : Option Addr) (czone : Nat) (_q14 : RSl h azone zone) (_q15 : zone.length ≤ czone) (K : (List Bool) → Prop) (hF : F_beforeZ x zone K) : Calls Tryz.prog 101 #[.pointer (some px), .slice azone zone.length czone] w fun e w' => ∃ (r : List Bool) (z : Option Addr × Nat) (h1 : FH), K r ∧ e = .returned (.slice z.1 r.length z.2) ∧ FH.le h h1 ∧ True ∧ SH (Kp.all w h) h1 w' [OwnSl 4 1 z.1 r.length z.2 (flL r)] := by
 refine enter (args := [.pointer (some px), vSl azone zone czone]) Tryz.func101 rfl Tryz.ntmps101 rfl hs ?_
 refine .seq (.region (.V ag0 ?_))
 refine .nil (.seqN (.seq (.region (.V mv0 ?_))))
 refine .V (nck rfl) ?_
 refine .V (fa rfl tF135_0) ?_
 refine .V (faa (p := px) (o1 := 0) rfl tF25_0 rfl) ?_
 refine .V (ld1 (v := iV x.t.facts) rfl tO3 (cellH (CellsAt.mono (FH.le_refl _) _q13 0 _ rfl))) ?_
 refine .V bi0 ?_
 obtain ⟨q16, hF⟩ := hF
 refine mk (m := (wr (x.t.facts + 1)).toNat) (cs' := flL (List.replicate (wr (x.t.facts + 1)).toNat (false : Bool))) tS171 rfl rfl (Int.toNat_of_nonneg q16.1).symm q16.2.1 q16.2.2 (flL_rep1 rfl _) rfl (fun a c => ?_)
 have q17 : (List.replicate (wr (x.t.facts + 1)).toNat (false : Bool)).length = (wr (x.t.facts + 1)).toNat := List.length_replicate
 refine .KA [OwnSl 4 1 a ((wr (x.t.facts + 1)).toNat) c (flL (List.replicate (wr (x.t.facts + 1)).toNat (false : Bool)))] ?_
 refine .V ag0 ?_
 refine .nil (.seqN (.seq (.region (.V mv0 ?_))))
 refine .V mv0 ?_
 refine .V (nck rfl) ?_
 refine .V (fa rfl tF135_0) ?_
 refine .V (faa (p := px) (o1 := 0) rfl tF25_0 rfl) ?_
 refine .V (ld1 (v := iV x.t.facts) rfl tO3 (cellH (CellsAt.mono (FH.le_refl _) _q13 0 _ rfl))) ?_
 obtain ⟨q18, hF⟩ := hF
 refine .V (ixS rfl rfl tS171 (k := 0) rfl (inb_n q18 q17)) ?_
 obtain ⟨d, q19⟩ : ∃ y_ : List Bool, y_ = ((List.replicate (wr (x.t.facts + 1)).toNat (false : Bool)).set (x.t.facts).toNat true) := ⟨_, rfl⟩
 replace hF := hF d q19
 refine stS (k := 0) (cs' := flL d) rfl (fun _ => rfl) rfl rfl (fun w => (tO4 w).2) rfl rfl rfl (by rw [← q17]; exact inb_pos q18) (fl_room q18) (by rw [q19]; exact flL_set q18 true) ?_
 have q20 : d.length = (wr (x.t.facts + 1)).toNat := by rw [q19]; exact List.length_set.trans q17
 refine .KA [OwnSl 4 1 a ((wr (x.t.facts + 1)).toNat) c (flL d)] ?_
 refine .nil (.seqN (.seq (.seq (.region (.V mv0 ?_)))))
 refine .V (nck rfl) ?_
 refine .V (fa rfl tF135_1) ?_
 refine .V (ld1 (v := vSl ax4 x.s cx4) rfl tO22 (cellH (CellsAt.mono (FH.le_refl _) _q13 4 _ rfl))) ?_
 refine .V (ln rfl tS22.is) ?_
 refine .V mv0 ?_
 refine .nil (.seqN (.block ?_))
 obtain ⟨I1, μ1, q106, q107⟩ := hF
 refine .loop' (σ := Int × List Bool) (fun z => I1 z.1 z.2 ∧ z.2.length = (wr (x.t.facts + 1)).toNat) (fun z => μ1 z.1 z.2) (fun z => [(0, .pointer (some px)), (1, vSl azone zone czone), (5, .slice a ((wr (x.t.facts + 1)).toNat) c), (30, vSl ax4 x.s cx4), (31, iV ((x.s.length : Nat) : Int)), (32, iV z.1)]) (fun z => [OwnSl 4 1 a ((wr (x.t.facts + 1)).toNat) c (flL z.2)]) (fun _ => h) (0, d) ⟨q106, q20⟩ sb rfl (FH.le_refl _) ?_
 rintro ⟨t32, in_⟩ ⟨q106, q89⟩
 have hF := q107 t32 in_ q106
 show J _ _ _ _ _ [(0, .pointer (some px)), (1, vSl azone zone czone), (5, .slice a ((wr (x.t.facts + 1)).toNat) c), (30, vSl ax4 x.s cx4), (31, iV ((x.s.length : Nat) : Int)), (32, iV t32)] [OwnSl 4 1 a ((wr (x.t.facts + 1)).toNat) c (flL in_)] h
 refine .seq (.region (.V bi0 ?_))
 refine .nil (.seqN (.seq ?_))
 refine .cond rfl (fun q110 => ?_) (fun q110 => ?_)
 ·replace hF := hF.1 q110
  refine .skip (.seqN (.seq (.block (.seq (.region ?_)))))
  obtain ⟨q119, hF⟩ := hF
  refine .V (ix rfl rfl tS22 (_q7.ne (by decide) (inb_pos q119)) q119) ?_
  refine .V (ld1 (v := iV (gt x.s t32)) rfl tO3 (cellH (_q7.elemF q119 (by decide) 0 _ rfl))) ?_
  refine .V ag0 ?_
  refine .nil (.seqN (.region (.V mv0 ?_)))
  refine .V mv0 ?_
  obtain ⟨q120, hF⟩ := hF
  refine .V (ixS rfl rfl tS171 (k := 0) rfl (inb_n q120 q89)) ?_
  obtain ⟨d2, q121⟩ : ∃ y_ : List Bool, y_ = (in_.set ((gt x.s t32)).toNat true) := ⟨_, rfl⟩
  replace hF := hF d2 q121
  refine stS (k := 0) (cs' := flL d2) rfl (fun _ => rfl) rfl rfl (fun w => (tO4 w).2) rfl rfl rfl (by rw [← q89]; exact inb_pos q120) (fl_room q120) (by rw [q121]; exact flL_set q120 true) ?_
  have q122 : d2.length = (wr (x.t.facts + 1)).toNat := by rw [q121]; exact List.length_set.trans q89
  refine .KA [OwnSl 4 1 a ((wr (x.t.facts + 1)).toNat) c (flL d2)] ?_
  refine .nil (.blkN (.seqN (.region (.V bi0 ?_))))
  refine .V mv0 ?_
  refine .nil ?_
  exact .RO (wr (t32 + 1), d2) ⟨hF.1, q122⟩ hF.2
 replace hF := hF.2 q110
 refine .exit (.seqX (.seqX (.blkX (.seqN (.seq (.seq (.region (.V ag0 ?_))))))))
 refine .nil (.seqN (.block ?_))
 obtain ⟨I2, μ2, q3424, q3425⟩ := hF
 refine .loop' (σ := Bool × List Bool) (fun z => I2 z.1 z.2 ∧ z.2.length = (wr (x.t.facts + 1)).toNat) (fun z => μ2 z.1 z.2) (fun z => [(0, .pointer (some px)), (1, vSl azone zone czone), (5, .slice a ((wr (x.t.facts + 1)).toNat) c), (8, .bool z.1)]) (fun z => [OwnSl 4 1 a ((wr (x.t.facts + 1)).toNat) c (flL z.2)]) (fun _ => h) (true, in_) ⟨q3424, q89⟩ sb rfl (FH.le_refl _) ?_
 rintro ⟨changed, in_3⟩ ⟨q3424, q2763⟩
 have hF := q3425 changed in_3 q3424
 show J _ _ _ _ _ [(0, .pointer (some px)), (1, vSl azone zone czone), (5, .slice a ((wr (x.t.facts + 1)).toNat) c), (8, .bool changed)] [OwnSl 4 1 a ((wr (x.t.facts + 1)).toNat) c (flL in_3)] h
 refine .seq (.seq (.region (.V mv0 ?_)))
 refine .nil (.seqN ?_)
 refine .cond rfl (fun q3427 => ?_) (fun q3427 => ?_)
 ·replace hF := hF.1 q3427
  refine .skip (.seqN (.block (.seq (.region (.V ag0 ?_)))))
  refine .nil (.seqN (.seq (.region (.V mv0 ?_))))
  refine .V (nck rfl) ?_
  refine .V (fa rfl tF135_0) ?_
  refine .V (faa (p := px) (o1 := 0) rfl tF25_3 rfl) ?_
  refine .V (ld1 (v := vSl ax3 x.t.ops cx3) rfl tO23 (cellH (CellsAt.mono (FH.le_refl _) _q13 3 _ rfl))) ?_
  refine .V (ln rfl tS23.is) ?_
  refine .V mv0 ?_
  refine .nil (.seqN (.block ?_))
  obtain ⟨I3, μ3, q3866, q3867⟩ := hF
  refine .loop' (σ := Bool × Int × List Bool) (fun z => I3 z.1 z.2.1 z.2.2 ∧ z.2.2.length = (wr (x.t.facts + 1)).toNat) (fun z => μ3 z.1 z.2.1 z.2.2) (fun z => [(0, .pointer (some px)), (1, vSl azone zone czone), (5, .slice a ((wr (x.t.facts + 1)).toNat) c), (8, .bool z.1), (45, vSl ax3 x.t.ops cx3), (46, iV ((x.t.ops.length : Nat) : Int)), (47, iV z.2.1)]) (fun z => [OwnSl 4 1 a ((wr (x.t.facts + 1)).toNat) c (flL z.2.2)]) (fun _ => h) (false, 0, in_3) ⟨q3866, q2763⟩ sb rfl (FH.le_refl _) ?_
  rintro ⟨changed3, t47, in_5⟩ ⟨q3866, q3647⟩
  have hF := q3867 changed3 t47 in_5 q3866
  show J _ _ _ _ _ [(0, .pointer (some px)), (1, vSl azone zone czone), (5, .slice a ((wr (x.t.facts + 1)).toNat) c), (8, .bool changed3), (45, vSl ax3 x.t.ops cx3), (46, iV ((x.t.ops.length : Nat) : Int)), (47, iV t47)] [OwnSl 4 1 a ((wr (x.t.facts + 1)).toNat) c (flL in_5)] h
  refine .seq (.region (.V bi0 ?_))
  refine .nil (.seqN (.seq ?_))
  refine .cond rfl (fun q3870 => ?_) (fun q3870 => ?_)
  ·replace hF := hF.1 q3870
   refine .skip (.seqN ?_)
   refine .share (σ := Bool × List Bool) (fun z => F_beforeZ_J1 changed3 in_5 t47 z.1 z.2 I3 μ3 ∧ z.2.length = (wr (x.t.facts + 1)).toNat) (fun z => [(0, .pointer (some px)), (1, vSl azone zone czone), (5, .slice a ((wr (x.t.facts + 1)).toNat) c), (8, .bool z.1), (45, vSl ax3 x.t.ops cx3), (46, iV ((x.t.ops.length : Nat) : Int)), (47, iV t47)]) (fun z => [OwnSl 4 1 a ((wr (x.t.facts + 1)).toNat) c (flL z.2)]) (fun _ => h) ?_ (fun q3978 => ?_)
   ·rintro ⟨changed5, in_7⟩ ⟨hF, q3977⟩
    show J _ _ _ _ _ [(0, .pointer (some px)), (1, vSl azone zone czone), (5, .slice a ((wr (x.t.facts + 1)).toNat) c), (8, .bool changed5), (45, vSl ax3 x.t.ops cx3), (46, iV ((x.t.ops.length : Nat) : Int)), (47, iV t47)] [OwnSl 4 1 a ((wr (x.t.facts + 1)).toNat) c (flL in_7)] h
    refine .region (.V bi0 ?_)
    refine .V mv0 ?_
    refine .nil ?_
    exact .RO (changed5, wr (t47 + 1), in_7) ⟨hF.1, q3977⟩ hF.2
   refine .block (.seq (.region ?_))
   obtain ⟨q3979, hF⟩ := hF
   refine .V (ix rfl rfl tS23 (_q5.ne (by decide) (inb_pos q3979)) q3979) ?_
   obtain ⟨_, ⟨a2, c2, a3, c3, a4, c4, rfl, ⟨q3980, q3981⟩, ⟨q3982, q3983⟩, q3984, q3985⟩, q3986⟩ := _q5.elem q3979
   refine .V (ldA (cs := [.slice a2 ((gt x.t.ops t47).pre.length) c2, .slice a3 ((gt x.t.ops t47).add.length) c3, .slice a4 ((gt x.t.ops t47).del.length) c4, iV ((gt x.t.ops t47).cost)]) rfl tA52 rfl (cellsH (q3986 (by decide)))) ?_
   refine al tZ52 rfl (fun po => ?_)
   refine st (p := po) (off := 0) (k := 0) (vs := [.slice a2 ((gt x.t.ops t47).pre.length) c2, .slice a3 ((gt x.t.ops t47).add.length) c3, .slice a4 ((gt x.t.ops t47).del.length) c4, iV ((gt x.t.ops t47).cost)]) rfl rfl rfl (fun w => (tA52 w).2) rfl rfl rfl rfl ?_
   refine .KA [Box po [.slice a2 ((gt x.t.ops t47).pre.length) c2, .slice a3 ((gt x.t.ops t47).add.length) c3, .slice a4 ((gt x.t.ops t47).del.length) c4, iV ((gt x.t.ops t47).cost)], OwnSl 4 1 a ((wr (x.t.facts + 1)).toNat) c (flL in_5)] ?_
   refine .nil (.seqN (.seq (.seq (.region (.V mv0 ?_)))))
   refine .V mv0 ?_
   refine .V (fa rfl tF52_0) ?_
   refine .V (ld1 rfl tO22 (cellB (off := 0) (k := 0) rfl rfl)) ?_
   obtain ⟨q3987, hF⟩ := hF
   obtain ⟨r2, q3988⟩ : ∃ y_ : Int, y_ = sp_hardest x ((gt x.t.ops t47).pre) := ⟨_, rfl⟩
   replace hF := hF r2 q3988
   refine .C (cl (v := iV r2) Tryz.call102 rfl rfl (fun w S => (by rw [q3988]; exact c_hardest S.sub x ax cx _q1 _q2 ax2 cx2 _q3 _q4 ax3 cx3 _q5 _q6 ax4 cx4 _q7 _q8 ax5 cx5 _q9 _q10 ax6 cx6 _q11 _q12 px (CellsAt.mono (FH.le_refl _) _q13) ((gt x.t.ops t47).pre) a2 c2 q3981 q3980 q3987))) ?_
   obtain ⟨q3989, hF⟩ := hF
   refine .V (ixS rfl rfl tS171 (k := 1) rfl (inb_n q3989 q3647)) ?_
   refine .V (ld1 (v := .bool (gt in_5 r2)) rfl tO4 (cellS (k := 1) rfl (flL_get q3989 (j := 0) rfl))) ?_
   refine .V (nt rfl) ?_
   refine .nil (.seqN ?_)
   refine .cond rfl (fun q3991 => ?_) (fun q3991 => ?_)
   ·replace hF := hF.1 q3991
    refine .exit (.seqX (.blkX ?_))
    refine .sel0 [1] (by decide) rfl ?_
    exact .US q3978 (changed3, in_5) ⟨hF, q3647⟩
   replace hF := hF.2 q3991
   refine .skip (.seqN (.seq (.region (.V (fa rfl tF52_1) ?_))))
   refine .V (ld1 rfl tO22 (cellB (off := 1) (k := 0) rfl rfl)) ?_
   refine .V (ln rfl tS22.is) ?_
   refine .V mv0 ?_
   refine .nil (.seqN (.block ?_))
   refine .sel0 [1] (by decide) rfl ?_
   obtain ⟨I4, μ4, q4054, q4055⟩ := hF
   refine .loop' (σ := Bool × Int × List Bool) (fun z => I4 z.1 z.2.1 z.2.2 ∧ z.2.2.length = (wr (x.t.facts + 1)).toNat) (fun z => μ4 z.1 z.2.1 z.2.2) (fun z => [(0, .pointer (some px)), (1, vSl azone zone czone), (5, .slice a ((wr (x.t.facts + 1)).toNat) c), (8, .bool z.1), (45, vSl ax3 x.t.ops cx3), (46, iV ((x.t.ops.length : Nat) : Int)), (47, iV t47), (60, .slice a3 ((gt x.t.ops t47).add.length) c3), (61, iV (((gt x.t.ops t47).add.length : Nat) : Int)), (62, iV z.2.1)]) (fun z => [OwnSl 4 1 a ((wr (x.t.facts + 1)).toNat) c (flL z.2.2)]) (fun _ => h) (changed3, 0, in_5) ⟨q4054, q3647⟩ sb rfl (FH.le_refl _) ?_
   rintro ⟨changed6, t62, in_8⟩ ⟨q4054, q4023⟩
   have hF := q4055 changed6 t62 in_8 q4054
   show J _ _ _ _ _ [(0, .pointer (some px)), (1, vSl azone zone czone), (5, .slice a ((wr (x.t.facts + 1)).toNat) c), (8, .bool changed6), (45, vSl ax3 x.t.ops cx3), (46, iV ((x.t.ops.length : Nat) : Int)), (47, iV t47), (60, .slice a3 ((gt x.t.ops t47).add.length) c3), (61, iV (((gt x.t.ops t47).add.length : Nat) : Int)), (62, iV t62)] [OwnSl 4 1 a ((wr (x.t.facts + 1)).toNat) c (flL in_8)] h
   refine .seq (.region (.V bi0 ?_))
   refine .nil (.seqN (.seq ?_))
   refine .cond rfl (fun q4058 => ?_) (fun q4058 => ?_)
   ·replace hF := hF.1 q4058
    refine .skip (.seqN ?_)
    refine .share (σ := Bool × List Bool) (fun z => F_beforeZ_J2 t62 I4 μ4 changed6 in_8 z.1 z.2 ∧ z.2.length = (wr (x.t.facts + 1)).toNat) (fun z => [(0, .pointer (some px)), (1, vSl azone zone czone), (5, .slice a ((wr (x.t.facts + 1)).toNat) c), (8, .bool z.1), (45, vSl ax3 x.t.ops cx3), (46, iV ((x.t.ops.length : Nat) : Int)), (47, iV t47), (60, .slice a3 ((gt x.t.ops t47).add.length) c3), (61, iV (((gt x.t.ops t47).add.length : Nat) : Int)), (62, iV t62)]) (fun z => [OwnSl 4 1 a ((wr (x.t.facts + 1)).toNat) c (flL z.2)]) (fun _ => h) ?_ (fun q4072 => ?_)
    ·rintro ⟨changed8, in_10⟩ ⟨hF, q4071⟩
     show J _ _ _ _ _ [(0, .pointer (some px)), (1, vSl azone zone czone), (5, .slice a ((wr (x.t.facts + 1)).toNat) c), (8, .bool changed8), (45, vSl ax3 x.t.ops cx3), (46, iV ((x.t.ops.length : Nat) : Int)), (47, iV t47), (60, .slice a3 ((gt x.t.ops t47).add.length) c3), (61, iV (((gt x.t.ops t47).add.length : Nat) : Int)), (62, iV t62)] [OwnSl 4 1 a ((wr (x.t.facts + 1)).toNat) c (flL in_10)] h
     refine .region (.V bi0 ?_)
     refine .V mv0 ?_
     refine .nil ?_
     exact .RO (changed8, wr (t62 + 1), in_10) ⟨hF.1, q4071⟩ hF.2
    refine .block (.seq (.region ?_))
    obtain ⟨q4073, hF⟩ := hF
    refine .V (ix rfl rfl tS22 (q3983.ne (by decide) (inb_pos q4073)) q4073) ?_
    refine .V (ld1 (v := iV (gt ((gt x.t.ops t47).add) t62)) rfl tO3 (cellH (q3983.elemF q4073 (by decide) 0 _ rfl))) ?_
    refine .V ag0 ?_
    refine .nil (.seqN ?_)
    refine .share (σ := Bool) (fun z => F_beforeZ_J3 x z t62 I4 μ4 t47 changed6 in_8) (fun z => [(0, .pointer (some px)), (1, vSl azone zone czone), (5, .slice a ((wr (x.t.facts + 1)).toNat) c), (8, .bool changed6), (12, iV (gt ((gt x.t.ops t47).add) t62)), (45, vSl ax3 x.t.ops cx3), (46, iV ((x.t.ops.length : Nat) : Int)), (47, iV t47), (60, .slice a3 ((gt x.t.ops t47).add.length) c3), (61, iV (((gt x.t.ops t47).add.length : Nat) : Int)), (62, iV t62), (77, .bool z)]) (fun _ => [OwnSl 4 1 a ((wr (x.t.facts + 1)).toNat) c (flL in_8)]) (fun _ => h) ?_ (fun q4077 => ?_)
    ·rintro t77 hF
     show J _ _ _ _ _ [(0, .pointer (some px)), (1, vSl azone zone czone), (5, .slice a ((wr (x.t.facts + 1)).toNat) c), (8, .bool changed6), (12, iV (gt ((gt x.t.ops t47).add) t62)), (45, vSl ax3 x.t.ops cx3), (46, iV ((x.t.ops.length : Nat) : Int)), (47, iV t47), (60, .slice a3 ((gt x.t.ops t47).add.length) c3), (61, iV (((gt x.t.ops t47).add.length : Nat) : Int)), (62, iV t62), (77, .bool t77)] [OwnSl 4 1 a ((wr (x.t.facts + 1)).toNat) c (flL in_8)] h
     refine .cond rfl (fun q4078 => ?_) (fun q4078 => ?_)
     ·replace hF := hF.1 q4078
      refine .region (.V mv0 ?_)
      refine .V mv0 ?_
      obtain ⟨q4079, hF⟩ := hF
      refine .V (ixS rfl rfl tS171 (k := 0) rfl (inb_n q4079 q4023)) ?_
      obtain ⟨d3, q4080⟩ : ∃ y_ : List Bool, y_ = (in_8.set ((gt ((gt x.t.ops t47).add) t62)).toNat true) := ⟨_, rfl⟩
      replace hF := hF d3 q4080
      refine stS (k := 0) (cs' := flL d3) rfl (fun _ => rfl) rfl rfl (fun w => (tO4 w).2) rfl rfl rfl (by rw [← q4023]; exact inb_pos q4079) (fl_room q4079) (by rw [q4080]; exact flL_set q4079 true) ?_
      have q4081 : d3.length = (wr (x.t.facts + 1)).toNat := by rw [q4080]; exact List.length_set.trans q4023
      refine .KA [OwnSl 4 1 a ((wr (x.t.facts + 1)).toNat) c (flL d3)] ?_
      refine .V ag0 ?_
      refine .nil (.blkN ?_)
      exact .US q4072 (true, d3) ⟨hF, q4081⟩
     replace hF := hF.2 q4078
     refine .skip (.blkN ?_)
     exact .US q4072 (changed6, in_8) ⟨hF, q4023⟩
    refine .region (.V mv0 ?_)
    refine .V mv0 ?_
    obtain ⟨q4082, hF⟩ := hF
    refine .V (ixS rfl rfl tS171 (k := 0) rfl (inb_n q4082 q4023)) ?_
    refine .V (ld1 (v := .bool (gt in_8 (gt ((gt x.t.ops t47).add) t62))) rfl tO4 (cellS (k := 0) rfl (flL_get q4082 (j := 0) rfl))) ?_
    refine .V (nt rfl) ?_
    refine .V mv0 ?_
    rcases Bool.eq_false_or_eq_true (!(gt in_8 (gt ((gt x.t.ops t47).add) t62))) with q4083 | q4083
    ·replace hF := hF.1 q4083
     refine .GV mv0 q4083 ?_
     refine .GV mv0 q4083 ?_
     obtain ⟨q4084, hF⟩ := hF
     refine .GV (ix rfl rfl tS171 (_q14.ne (by decide) (inb_pos q4084)) q4084) q4083 ?_
     refine .GV (ld1 (v := .bool (gt zone (gt ((gt x.t.ops t47).add) t62))) rfl tO4 (cellH (_q14.elemF q4084 (by decide) 0 _ rfl))) q4083 ?_
     refine .GV (nt rfl) q4083 ?_
     refine .V (pkT rfl q4083 rfl) ?_
     refine .nil ?_
     exact .US q4077 (!(gt zone (gt ((gt x.t.ops t47).add) t62))) hF
    replace hF := hF.2 q4083
    refine .GS q4083 ?_
    refine .GS q4083 ?_
    refine .GS q4083 ?_
    refine .GS q4083 ?_
    refine .GS q4083 ?_
    refine .V (pkF rfl q4083 rfl) ?_
    refine .nil ?_
    exact .US q4077 false hF
   replace hF := hF.2 q4058
   refine .exit (.seqX (.seqX (.blkX (.blkN ?_))))
   exact .US q3978 (changed6, in_8) ⟨hF, q4023⟩
  replace hF := hF.2 q3870
  refine .exit (.seqX (.seqX (.blkX (.blkN ?_))))
  exact .RO (changed3, in_5) ⟨hF.1, q3647⟩ hF.2
 replace hF := hF.2 q3427
 refine .exit (.seqX (.seqX (.blkX (.seqN (.seq (.region (.V mv0 ?_)))))))
 refine .V ag0 ?_
 refine .nil (.seqN (.ret ?_))
 refine .res1 rfl (rvT rfl) (fun w' S => ⟨in_3, (a, c), h, hF, (by rw [q2763]), (FH.le_refl _), trivial, (by rw [q2763]; exact S.pick (k := 0) rfl)⟩)
theorem c_beforeZ {h : FH} {w : World} (hs : Sub h w) (x : SearchT) (ax : Option Addr) (cx : Nat) (_q1 : RSl h ax x.t.init) (_q2 : x.t.init.length ≤ cx) (ax2 : Option Addr) (cx2 : Nat) (_q3 : RSl h ax2 x.t.goal) (_q4 : x.t.goal.length ≤ cx2) (ax3 : Option Addr) (cx3 : Nat) (_q5 : RSl h ax3 x.t.ops) (_q6 : x.t.ops.length ≤ cx3) (ax4 : Option Addr) (cx4 : Nat) (_q7 : RSl h ax4 x.s) (_q8 : x.s.length ≤ cx4) (ax5 : Option Addr) (cx5 : Nat) (_q9 : RSl h ax5 x.costs) (_q10 : x.costs.length ≤ cx5) (ax6 : Option Addr) (cx6 : Nat) (_q11 : RSl h ax6 x.value) (_q12 : x.value.length ≤ cx6) (px : Addr) (_q13 : CellsAt h px [iV x.t.facts, .slice ax x.t.init.length cx, .slice ax2 x.t.goal.length cx2, .slice ax3 x.t.ops.length cx3, .slice ax4 x.s.length cx4, .slice ax5 x.costs.length cx5, .slice ax6 x.value.length cx6]) (zone : List Bool) (azone : Option Addr) (czone : Nat) (_q14 : RSl h azone zone) (_q15 : zone.length ≤ czone) (hp : pre_beforeZ x zone) : Calls Tryz.prog 101 #[.pointer (some px), .slice azone zone.length czone] w fun e w' => ∃ (z : Option Addr × Nat) (h0 h1 : FH), e = .returned (.slice z.1 (sp_beforeZ x zone).length z.2) ∧ (True) ∧ FH.le h h1 ∧ SH (Kp.all w h0) h1 w' [OwnSl 4 1 z.1 (sp_beforeZ x zone).length z.2 (flL (sp_beforeZ x zone))] :=
 (w_beforeZ hs x ax cx _q1 _q2 ax2 cx2 _q3 _q4 ax3 cx3 _q5 _q6 ax4 cx4 _q7 _q8 ax5 cx5 _q9 _q10 ax6 cx6 _q11 _q12 px _q13 zone azone czone _q14 _q15 (fun r => r = sp_beforeZ x zone) (ok_beforeZ x zone hp)).mono fun _ _ ⟨r, z, h1, hk, he, hl, hψ, hS⟩ => by subst hk; exact ⟨z, h, h1, he, hψ, hl, hS⟩
set_option maxHeartbeats 8000000 in
theorem w_cuts {h : FH} {w : World} (hs : Sub h w) (t : Task) (at_ : Option Addr) (ct : Nat) (_q1 : RSl h at_ t.init) (_q2 : t.init.length ≤ ct) (at_2 : Option Addr) (ct2 : Nat) (_q3 : RSl h at_2 t.goal) (_q4 : t.goal.length ≤ ct2) (at_3 : Option Addr) (ct3 : Nat) (_q5 : RSl h at_3 t.ops) (_q6 : t.ops.length ≤ ct3) (s_ : List Int) (as_ : Option Addr) (cs_ : Nat) (_q7 : RSl h as_ s_) (_q8 : s_.length ≤ cs_) (K : (List Cut × Int × Fault) → Prop) (hF : F_cuts t s_ K) : Calls Tryz.prog 13 #[.agg #[iV t.facts, .slice at_ t.init.length ct, .slice at_2 t.goal.length ct2, .slice at_3 t.ops.length ct3], .slice as_ s_.length cs_] w fun e w' => ∃ (r : List Cut × Int × Fault) (z : Option Addr × Nat) (h1 : FH), K r ∧ e = .returned (.tuple #[.slice z.1 r.1.length z.2, iV r.2.1, .agg #[iV r.2.2.code, iV r.2.2.index]]) ∧ FH.le h h1 ∧ (RSl h1 z.1 r.1 ∧ r.1.length ≤ z.2) ∧ SH (Kp.all w h) h1 w' [] := by
 refine enter (args := [.agg #[iV t.facts, .slice at_ t.init.length ct, .slice at_2 t.goal.length ct2, .slice at_3 t.ops.length ct3], .slice as_ s_.length cs_]) Tryz.func13 rfl Tryz.ntmps13 rfl hs ?_
 refine .seq (.region ?_)
 refine bx (vs := [iV t.facts, .slice at_ t.init.length ct, .slice at_2 t.goal.length ct2, .slice at_3 t.ops.length ct3]) rfl rfl rfl (fun pt => ?_)
 refine .V ag0 ?_
 refine .V ag0 ?_
 refine al tZ27 rfl (fun pv => ?_)
 refine .nil (.seqN (.seq (.seq (.region (.V (ldA (cs := [iV t.facts, .slice at_ t.init.length ct, .slice at_2 t.goal.length ct2, .slice at_3 t.ops.length ct3]) rfl tA25 rfl (cellsB (off := 0) (k := 1) rfl (m := 4) rfl)) ?_)))))
 refine .V mv0 ?_
 obtain ⟨r2, q9⟩ : ∃ y_ : Fault, y_ = sp_stateFault t s_ := ⟨_, rfl⟩
 replace hF := hF r2 q9
 refine .C (cl (v := .agg #[iV r2.code, iV r2.index]) Tryz.call25 rfl rfl (fun w S => (by rw [q9]; exact c_stateFault S.sub t at_ ct _q1 _q2 at_2 ct2 _q3 _q4 at_3 ct3 _q5 _q6 s_ as_ cs_ _q7 _q8 ))) ?_
 refine al tZ27 rfl (fun pf => ?_)
 refine st (p := pf) (off := 0) (k := 0) (vs := [iV r2.code, iV r2.index]) rfl rfl rfl (fun w => (tA27 w).2) rfl rfl rfl rfl ?_
 refine .KA [Box pf [iV r2.code, iV r2.index], Box pv [iV 0, iV 0], Box pt [iV t.facts, .slice at_ t.init.length ct, .slice at_2 t.goal.length ct2, .slice at_3 t.ops.length ct3]] ?_
 refine .nil (.seqN (.seq (.region (.V (ldA (cs := [iV r2.code, iV r2.index]) rfl tA27 rfl (cellsB (off := 0) (k := 0) rfl (m := 2) rfl)) ?_))))
 refine .V (bld (cs := #[iV 0, iV 0]) (pv := []) tB27 rfl rfl) ?_
 refine .V (ne2 tE27 rfl rfl) ?_
 refine .nil (.seqN ?_)
 refine .cond rfl (fun q11 => ?_) (fun q11 => ?_)
 ·replace hF := hF.1 q11
  refine .seq ?_
  refine .openL (by kernel_rfl) rfl (by kernel_rfl) (by kernel_rfl) ?_
  refine .V (ldA (cs := [iV r2.code, iV r2.index]) rfl tA27 rfl (cellsB (off := 0) (k := 0) rfl (m := 2) rfl)) ?_
  refine .V ag0 ?_
  refine .V ag0 ?_
  refine .tail ?_
  refine st (p := pv) (off := 0) (k := 1) (vs := [iV r2.code, iV r2.index]) rfl rfl rfl (fun w => (tA27 w).2) rfl rfl rfl rfl ?_
  refine .KA [Box pf [iV r2.code, iV r2.index], Box pv [iV r2.code, iV r2.index], Box pt [iV t.facts, .slice at_ t.init.length ct, .slice at_2 t.goal.length ct2, .slice at_3 t.ops.length ct3]] ?_
  refine .nil (.seqN (.ret (.seqR ?_)))
  refine .res3 rfl (rvT rfl) (rvT rfl) (rvC rfl tA27 (k := 1) rfl rfl) (fun w' S => ⟨(([] : List Cut), 0, r2), (none, 0), h, hF, rfl, (FH.le_refl _), ⟨RSl.nil_, (Nat.le_refl 0)⟩, S.none⟩)
 replace hF := hF.2 q11
 refine .skip (.seqN (.seq (.region (.V (ldA (cs := [iV t.facts, .slice at_ t.init.length ct, .slice at_2 t.goal.length ct2, .slice at_3 t.ops.length ct3]) rfl tA25 rfl (cellsB (off := 0) (k := 2) rfl (m := 4) rfl)) ?_))))
 refine .V mv0 ?_
 refine .inl Tryz.func33 rfl Tryz.ntmps33 Tryz.call33 rfl rfl rfl rfl (fun a q12 => ?_)
 refine .seq (.region ?_)
 refine bx (vs := [iV t.facts, .slice at_ t.init.length ct, .slice at_2 t.goal.length ct2, .slice at_3 t.ops.length ct3]) rfl rfl rfl (fun pt2 => ?_)
 refine .V ag0 ?_
 refine .V ag0 ?_
 refine .nil (.seqN (.seq ?_))
 refine .openA (s0 := [(1, .slice as_ s_.length cs_), (2, .pointer (some pt2))]) [0, 1, 2] [(0, .agg #[iV t.facts, .slice at_ t.init.length ct, .slice at_2 t.goal.length ct2, .slice at_3 t.ops.length ct3]), (1, .slice as_ s_.length cs_), (2, .agg #[iV t.facts, .slice at_ t.init.length ct, .slice at_2 t.goal.length ct2, .slice at_3 t.ops.length ct3])] (by kernel_rfl) sb [1, 2] [] rfl (by kernel_rfl) ?_
 refine .step [3] 3 rfl (by kernel_rfl) (by kernel_rfl) (.v [] rfl rfl rfl rfl rfl rfl (fun _ => ldA (cs := [iV t.facts, .slice at_ t.init.length ct, .slice at_2 t.goal.length ct2, .slice at_3 t.ops.length ct3]) rfl tA25 rfl (cellsB (off := 0) (k := 0) rfl (m := 4) rfl)) (.v [] rfl rfl rfl rfl rfl rfl (fun _ => mv rfl) (.v [] rfl rfl rfl rfl rfl rfl (fun _ => ldA (cs := [iV t.facts, .slice at_ t.init.length ct, .slice at_2 t.goal.length ct2, .slice at_3 t.ops.length ct3]) rfl tA25 rfl (cellsB (off := 0) (k := 0) rfl (m := 4) rfl)) (.nil)))) (.cons [(14, .agg #[iV t.facts, .slice at_ t.init.length ct, .slice at_2 t.goal.length ct2, .slice at_3 t.ops.length ct3])] rfl rfl (fun sL hL => ?_) (.nil))
 obtain ⟨q15, hF⟩ := hF
 obtain ⟨r3, q16⟩ : ∃ y_ : List Int, y_ = sp_costsR t := ⟨_, rfl⟩
 replace hF := hF r3 q16
 refine clO (α := Option Addr × Nat) (V := fun z => .slice z.1 r3.length z.2) (Ψ := fun z => True) (B := fun z => [OwnSl 3 1 z.1 r3.length z.2 (flL r3)]) Tryz.call65 rfl rfl (fun w S => (by rw [q16]; exact c_costsR S.sub t at_ ct _q1 _q2 at_2 ct2 _q3 _q4 at_3 ct3 _q5 _q6 q15)) rfl (fun z _ => ?_)
 obtain ⟨a2, c⟩ := z
 refine .KA [OwnSl 3 1 a2 r3.length c (flL r3), Box pt2 [iV t.facts, .slice at_ t.init.length ct, .slice at_2 t.goal.length ct2, .slice at_3 t.ops.length ct3], Box pf [iV r2.code, iV r2.index], Box pv [iV 0, iV 0], Box pt [iV t.facts, .slice at_ t.init.length ct, .slice at_2 t.goal.length ct2, .slice at_3 t.ops.length ct3]] ?_
 refine .nil ?_
 refine .ja (M := [2]) (C' := [0, 1, 4]) (pre := [(3, .slice a2 r3.length c), (4, .agg #[iV t.facts, .slice at_ t.init.length ct, .slice at_2 t.goal.length ct2, .slice at_3 t.ops.length ct3, .slice as_ s_.length cs_, .slice a2 r3.length c, .slice none 0 0])]) [(1, .slice as_ s_.length cs_), (2, .pointer (some pt2))] [1, 2] hL rfl rfl rfl rfl rfl sb rfl rfl (by kernel_rfl) ?_
 refine .step [5] 5 rfl (by kernel_rfl) (by kernel_rfl) (.v [] rfl rfl rfl rfl rfl rfl (fun _ => ldA (cs := [iV t.facts, .slice at_ t.init.length ct, .slice at_2 t.goal.length ct2, .slice at_3 t.ops.length ct3]) rfl tA25 rfl (cellsB (off := 0) (k := 1) rfl (m := 4) rfl)) (.v [] rfl rfl rfl rfl rfl rfl (fun _ => mv rfl) (.v [(12, .agg #[iV t.facts, .slice at_ t.init.length ct, .slice at_2 t.goal.length ct2, .slice at_3 t.ops.length ct3]), (13, .slice as_ s_.length cs_), (15, .slice a2 r3.length c)] rfl rfl rfl rfl rfl rfl (fun _ => bld (cs := #[iV t.facts, .slice at_ t.init.length ct, .slice at_2 t.goal.length ct2, .slice at_3 t.ops.length ct3, .slice as_ s_.length cs_, .slice a2 r3.length c, .slice none 0 0]) (pv := [(0, .agg #[iV t.facts, .slice at_ t.init.length ct, .slice at_2 t.goal.length ct2, .slice at_3 t.ops.length ct3]), (1, .slice as_ s_.length cs_), (2, .slice a2 r3.length c)]) tB135 rfl rfl) (.nil)))) (.cons [(16, .agg #[iV t.facts, .slice at_ t.init.length ct, .slice at_2 t.goal.length ct2, .slice at_3 t.ops.length ct3, .slice as_ s_.length cs_, .slice a2 r3.length c, .slice none 0 0])] rfl rfl (fun sL hL => ?_) (.nil))
 refine bx (vs := [iV t.facts, .slice at_ t.init.length ct, .slice at_2 t.goal.length ct2, .slice at_3 t.ops.length ct3, .slice as_ s_.length cs_, .slice a2 r3.length c, .slice none 0 0]) rfl rfl rfl (fun pv2 => ?_)
 refine .nil ?_
 refine .ja (M := [4, 0, 1]) (C' := [6]) (pre := [(5, .pointer (some pv2)), (6, .pointer (some pv2))]) [(1, .slice as_ s_.length cs_), (2, .pointer (some pt2))] [1, 2] hL rfl rfl rfl rfl rfl sb rfl rfl (by kernel_rfl) ?_
 refine .last [(12, .agg #[iV t.facts, .slice at_ t.init.length ct, .slice at_2 t.goal.length ct2, .slice at_3 t.ops.length ct3]), (13, .slice as_ s_.length cs_), (14, .agg #[iV t.facts, .slice at_ t.init.length ct, .slice at_2 t.goal.length ct2, .slice at_3 t.ops.length ct3]), (15, .slice a2 r3.length c), (16, .agg #[iV t.facts, .slice at_ t.init.length ct, .slice at_2 t.goal.length ct2, .slice at_3 t.ops.length ct3, .slice as_ s_.length cs_, .slice a2 r3.length c, .slice none 0 0]), (17, .pointer (some pv2)), (6, .pointer (some pv2))] rfl (by kernel_rfl) (.v [(17, .pointer (some pv2)), (15, .slice a2 r3.length c), (12, .agg #[iV t.facts, .slice at_ t.init.length ct, .slice at_2 t.goal.length ct2, .slice at_3 t.ops.length ct3]), (13, .slice as_ s_.length cs_), (14, .agg #[iV t.facts, .slice at_ t.init.length ct, .slice at_2 t.goal.length ct2, .slice at_3 t.ops.length ct3]), (15, .slice a2 r3.length c), (16, .agg #[iV t.facts, .slice at_ t.init.length ct, .slice at_2 t.goal.length ct2, .slice at_3 t.ops.length ct3, .slice as_ s_.length cs_, .slice a2 r3.length c, .slice none 0 0]), (17, .pointer (some pv2))] rfl rfl rfl rfl rfl rfl (fun _ => asg rfl) (.nil)) rfl ?_
 refine .seqN (.seq (.region (.V ag0 ?_)))
 refine .nil (.seqN (.seq (.region (.V ag0 ?_))))
 refine .nil (.seqN (.block ?_))
 refine .nilSl 3 1 ?_
 refine .KA [OwnSl 3 1 none (([] : List Int).length) 0 (flL ([] : List Int)), Box pv2 [iV t.facts, .slice at_ t.init.length ct, .slice at_2 t.goal.length ct2, .slice at_3 t.ops.length ct3, .slice as_ s_.length cs_, .slice a2 r3.length c, .slice none 0 0], OwnSl 3 1 a2 r3.length c (flL r3), Box pt2 [iV t.facts, .slice at_ t.init.length ct, .slice at_2 t.goal.length ct2, .slice at_3 t.ops.length ct3], Box pf [iV r2.code, iV r2.index], Box pv [iV 0, iV 0], Box pt [iV t.facts, .slice at_ t.init.length ct, .slice at_2 t.goal.length ct2, .slice at_3 t.ops.length ct3]] ?_
 refine .nilSl 137 2 ?_
 refine .KA [OwnSl 137 2 none (([] : List Cut).length) 0 [], OwnSl 3 1 none (([] : List Int).length) 0 (flL ([] : List Int)), Box pv2 [iV t.facts, .slice at_ t.init.length ct, .slice at_2 t.goal.length ct2, .slice at_3 t.ops.length ct3, .slice as_ s_.length cs_, .slice a2 r3.length c, .slice none (([] : List Int).length) 0], OwnSl 3 1 a2 r3.length c (flL r3), Box pt2 [iV t.facts, .slice at_ t.init.length ct, .slice at_2 t.goal.length ct2, .slice at_3 t.ops.length ct3], Box pf [iV r2.code, iV r2.index], Box pv [iV 0, iV 0], Box pt [iV t.facts, .slice at_ t.init.length ct, .slice at_2 t.goal.length ct2, .slice at_3 t.ops.length ct3]] ?_
 refine .sel0 [4, 2, 0, 6, 3, 1] (by decide) rfl ?_
 obtain ⟨I1, μ1, q2453, q2454⟩ := hF
 refine .loop' (σ := Int × List Cut × List Int × List Int × Option Addr × Nat × List Value × Option Addr × Nat × FH) (fun z => I1 z.1 z.2.1 z.2.2.1 z.2.2.2.1 ∧ RepL z.2.2.2.2.2.2.2.2.2 z.2.1 z.2.2.2.2.2.2.1 ∧ z.2.2.1.length = r3.length ∧ FH.le h z.2.2.2.2.2.2.2.2.2) (fun z => μ1 z.1 z.2.1 z.2.2.1 z.2.2.2.1) (fun z => [(1, .slice as_ s_.length cs_), (2, .pointer (some pt2)), (6, .pointer (some pv2)), (7, .slice z.2.2.2.2.1 z.2.1.length z.2.2.2.2.2.1), (8, iV z.1)]) (fun z => [Box pt2 [iV t.facts, .slice at_ t.init.length ct, .slice at_2 t.goal.length ct2, .slice at_3 t.ops.length ct3], Box pv2 [iV t.facts, .slice at_ t.init.length ct, .slice at_2 t.goal.length ct2, .slice at_3 t.ops.length ct3, .slice as_ s_.length cs_, .slice a2 r3.length c, .slice z.2.2.2.2.2.2.2.1 z.2.2.2.1.length z.2.2.2.2.2.2.2.2.1], OwnSl 137 2 z.2.2.2.2.1 z.2.1.length z.2.2.2.2.2.1 z.2.2.2.2.2.2.1, Box pv [iV 0, iV 0], OwnSl 3 1 a2 r3.length c (flL z.2.2.1), OwnSl 3 1 z.2.2.2.2.2.2.2.1 z.2.2.2.1.length z.2.2.2.2.2.2.2.2.1 (flL z.2.2.2.1)]) (fun z => z.2.2.2.2.2.2.2.2.2) (0, ([] : List Cut), r3, ([] : List Int), none, 0, [], none, 0, h) ⟨q2453, (show RepL h ([] : List Cut) [] from rfl), rfl, (FH.le_refl _)⟩ sb rfl (FH.le_refl _) ?_
 rintro ⟨total, cuts, l, l2, acuts, ccuts, cscuts, al2, cl2, h4⟩ ⟨q2453, q1235, q1236, q1237⟩
 have hF := q2454 total cuts l l2 q2453
 show J _ _ _ _ _ [(1, .slice as_ s_.length cs_), (2, .pointer (some pt2)), (6, .pointer (some pv2)), (7, .slice acuts cuts.length ccuts), (8, iV total)] [Box pt2 [iV t.facts, .slice at_ t.init.length ct, .slice at_2 t.goal.length ct2, .slice at_3 t.ops.length ct3], Box pv2 [iV t.facts, .slice at_ t.init.length ct, .slice at_2 t.goal.length ct2, .slice at_3 t.ops.length ct3, .slice as_ s_.length cs_, .slice a2 r3.length c, .slice al2 l2.length cl2], OwnSl 137 2 acuts cuts.length ccuts cscuts, Box pv [iV 0, iV 0], OwnSl 3 1 a2 r3.length c (flL l), OwnSl 3 1 al2 l2.length cl2 (flL l2)] h4
 refine .block ?_
 refine .share (σ := List Int × Option Addr × Nat) (fun z => F_cuts_J1 t s_ K l l2 z.1 total cuts I1 μ1) (fun _ => [(1, .slice as_ s_.length cs_), (2, .pointer (some pt2)), (6, .pointer (some pv2)), (7, .slice acuts cuts.length ccuts), (8, iV total)]) (fun z => [Box pt2 [iV t.facts, .slice at_ t.init.length ct, .slice at_2 t.goal.length ct2, .slice at_3 t.ops.length ct3], Box pv2 [iV t.facts, .slice at_ t.init.length ct, .slice at_2 t.goal.length ct2, .slice at_3 t.ops.length ct3, .slice as_ s_.length cs_, .slice a2 r3.length c, .slice z.2.1 z.1.length z.2.2], OwnSl 137 2 acuts cuts.length ccuts cscuts, Box pv [iV 0, iV 0], OwnSl 3 1 a2 r3.length c (flL l), OwnSl 3 1 z.2.1 z.1.length z.2.2 (flL z.1)]) (fun _ => h4) ?_ (fun q2465 => ?_)
 ·rintro ⟨l5, al4, cl4⟩ hF
  show J _ _ _ _ _ [(1, .slice as_ s_.length cs_), (2, .pointer (some pt2)), (6, .pointer (some pv2)), (7, .slice acuts cuts.length ccuts), (8, iV total)] [Box pt2 [iV t.facts, .slice at_ t.init.length ct, .slice at_2 t.goal.length ct2, .slice at_3 t.ops.length ct3], Box pv2 [iV t.facts, .slice at_ t.init.length ct, .slice at_2 t.goal.length ct2, .slice at_3 t.ops.length ct3, .slice as_ s_.length cs_, .slice a2 r3.length c, .slice al4 l5.length cl4], OwnSl 137 2 acuts cuts.length ccuts cscuts, Box pv [iV 0, iV 0], OwnSl 3 1 a2 r3.length c (flL l), OwnSl 3 1 al4 l5.length cl4 (flL l5)] h4
  refine .seq (.seq ?_)
  obtain ⟨q2466, hF⟩ := hF
  obtain ⟨r4, q2467⟩ : ∃ y_ : Int, y_ = sp_greatest l5 t.goal := ⟨_, rfl⟩
  replace hF := hF r4 q2467
  refine .openA (s0 := [(1, .slice as_ s_.length cs_), (2, .pointer (some pt2)), (6, .pointer (some pv2)), (7, .slice acuts cuts.length ccuts), (8, iV total)]) [0, 1, 2, 3, 4, 5, 6] [(0, .pointer (some pv2)), (1, .pointer (some pv2)), (2, .pointer (some (pv2.add 6))), (3, .slice al4 l5.length cl4), (4, .pointer (some (pt2.add 2))), (5, .slice at_2 t.goal.length ct2), (6, iV r4)] (by kernel_rfl) sb [1, 2, 6, 7, 8] [] rfl (by kernel_rfl) ?_
  refine .last [(30, .pointer (some pv2)), (31, .pointer (some pv2)), (32, .pointer (some (pv2.add 6))), (33, .slice al4 l5.length cl4), (34, .pointer (some (pt2.add 2))), (35, .slice at_2 t.goal.length ct2), (36, iV r4)] rfl (by kernel_rfl) (.v [] rfl rfl rfl rfl rfl rfl (fun _ => mv rfl) (.v [(30, .pointer (some pv2))] rfl rfl rfl rfl rfl rfl (fun _ => nck rfl) (.v [(31, .pointer (some pv2))] rfl rfl rfl rfl rfl rfl (fun _ => fa rfl tF135_3) (.v [(32, .pointer (some (pv2.add 6)))] rfl rfl rfl rfl rfl rfl (fun _ => ld1 rfl tO22 (cellB (off := 6) (k := 1) rfl rfl)) (.v [] rfl rfl rfl rfl rfl rfl (fun _ => fa rfl tF25_2) (.v [(34, .pointer (some (pt2.add 2)))] rfl rfl rfl rfl rfl rfl (fun _ => ld1 rfl tO22 (cellB (off := 2) (k := 0) rfl rfl)) (.c [(33, .slice al4 l5.length cl4), (35, .slice at_2 t.goal.length ct2)] rfl rfl rfl rfl rfl rfl (fun _ => cl (v := iV r4) Tryz.call31 rfl rfl (fun w S => (by rw [q2467]; obtain ⟨h_, hl_, hs_, hne_, hr_⟩ := look S (k := 5) rfl; exact c_greatest hs_ l5 al4 cl4 (RSl.of hr_) (look_len S (k := 5) rfl) t.goal at_2 ct2 (RSl.mono hl_ (_q3.mono (q1237))) _q4 q2466))) (.nil)))))))) rfl ?_
  refine .seqN (.block (.seq (.region (.V bi0 ?_))))
  refine .V ag0 ?_
  refine .nil (.seqN ?_)
  refine .cond rfl (fun q2470 => ?_) (fun q2470 => ?_)
  ·replace hF := hF.1 q2470
   refine .seq (.region (.V mv0 ?_))
   refine .V mv0 ?_
   refine .V ag0 ?_
   refine .V ag0 ?_
   refine .nil (.seqN (.ret (.blkR (.seqR (.blkR (.seqR (.blkR ?_)))))))
   refine .res2 rfl (rvT rfl) (rvT rfl) (inl_back (v := .tuple #[.slice acuts cuts.length ccuts, iV total]) q12 rfl ?_)
   refine .KA [Box pt2 [iV t.facts, .slice at_ t.init.length ct, .slice at_2 t.goal.length ct2, .slice at_3 t.ops.length ct3], Box pv2 [iV t.facts, .slice at_ t.init.length ct, .slice at_2 t.goal.length ct2, .slice at_3 t.ops.length ct3, .slice as_ s_.length cs_, .slice a2 r3.length c, .slice al4 l5.length cl4], OwnSl 137 2 acuts cuts.length ccuts cscuts, Box pv [iV 0, iV 0], OwnSl 3 1 a2 r3.length c (flL l), OwnSl 3 1 al4 l5.length cl4 (flL l5)] ?_
   refine .V mv0 ?_
   refine .V (ext rfl rfl) ?_
   refine .V (ext rfl rfl) ?_
   refine .V ag0 ?_
   refine .V ag0 ?_
   refine .nil (.seqN (.seq (.region (.V mv0 ?_))))
   refine .V mv0 ?_
   refine .V (bld (cs := #[iV 0, iV 0]) (pv := []) tB27 rfl rfl) ?_
   refine .V ag0 ?_
   refine .V ag0 ?_
   refine st (p := pv) (off := 0) (k := 3) (vs := [iV 0, iV 0]) rfl rfl rfl (fun w => (tA27 w).2) rfl rfl rfl rfl ?_
   refine .KA [Box pt2 [iV t.facts, .slice at_ t.init.length ct, .slice at_2 t.goal.length ct2, .slice at_3 t.ops.length ct3], Box pv2 [iV t.facts, .slice at_ t.init.length ct, .slice at_2 t.goal.length ct2, .slice at_3 t.ops.length ct3, .slice as_ s_.length cs_, .slice a2 r3.length c, .slice al4 l5.length cl4], OwnSl 137 2 acuts cuts.length ccuts cscuts, Box pv [iV 0, iV 0], OwnSl 3 1 a2 r3.length c (flL l), OwnSl 3 1 al4 l5.length cl4 (flL l5)] ?_
   refine .nil (.seqN ?_)
   refine .freezeL (k := 2) rfl (fun h7 le7 q2472 q2471 => ?_)
   refine .KA [Box pt2 [iV t.facts, .slice at_ t.init.length ct, .slice at_2 t.goal.length ct2, .slice at_3 t.ops.length ct3], Box pv2 [iV t.facts, .slice at_ t.init.length ct, .slice at_2 t.goal.length ct2, .slice at_3 t.ops.length ct3, .slice as_ s_.length cs_, .slice a2 r3.length c, .slice al4 l5.length cl4], tru, Box pv [iV 0, iV 0], OwnSl 3 1 a2 r3.length c (flL l), OwnSl 3 1 al4 l5.length cl4 (flL l5)] ?_
   refine .ret ?_
   refine .res3 rfl (rvT rfl) (rvT rfl) (rvC rfl tA27 (k := 3) rfl rfl) (fun w' S => ⟨(cuts, total, (⟨0, 0⟩ : Fault)), (acuts, ccuts), h7, hF, rfl, (FH.le_trans (q1237) (le7)), ⟨(show RSl h7 acuts cuts from ⟨_, q1235.mono (le7), q2471⟩), (q2472)⟩, S.none⟩)
  replace hF := hF.2 q2470
  refine .seq (.region (.V bi0 ?_))
  refine .V ag0 ?_
  refine .nil (.seqN ?_)
  refine .cond rfl (fun q2473 => ?_) (fun q2473 => ?_)
  ·replace hF := hF.1 q2473
   refine .seq (.region (.V ag0 ?_))
   refine .V ag0 ?_
   refine .nil (.seqN (.ret (.blkR (.seqR (.blkR (.seqR (.blkR ?_)))))))
   refine .res2 rfl (rvT rfl) (rvT rfl) (inl_back (v := .tuple #[.slice none 0 0, iV 1000000000]) q12 rfl ?_)
   refine .KA [Box pt2 [iV t.facts, .slice at_ t.init.length ct, .slice at_2 t.goal.length ct2, .slice at_3 t.ops.length ct3], Box pv2 [iV t.facts, .slice at_ t.init.length ct, .slice at_2 t.goal.length ct2, .slice at_3 t.ops.length ct3, .slice as_ s_.length cs_, .slice a2 r3.length c, .slice al4 l5.length cl4], OwnSl 137 2 acuts cuts.length ccuts cscuts, Box pv [iV 0, iV 0], OwnSl 3 1 a2 r3.length c (flL l), OwnSl 3 1 al4 l5.length cl4 (flL l5)] ?_
   refine .V mv0 ?_
   refine .V (ext rfl rfl) ?_
   refine .V (ext rfl rfl) ?_
   refine .V ag0 ?_
   refine .V ag0 ?_
   refine .nil (.seqN (.seq (.region (.V mv0 ?_))))
   refine .V mv0 ?_
   refine .V (bld (cs := #[iV 0, iV 0]) (pv := []) tB27 rfl rfl) ?_
   refine .V ag0 ?_
   refine .V ag0 ?_
   refine st (p := pv) (off := 0) (k := 3) (vs := [iV 0, iV 0]) rfl rfl rfl (fun w => (tA27 w).2) rfl rfl rfl rfl ?_
   refine .KA [Box pt2 [iV t.facts, .slice at_ t.init.length ct, .slice at_2 t.goal.length ct2, .slice at_3 t.ops.length ct3], Box pv2 [iV t.facts, .slice at_ t.init.length ct, .slice at_2 t.goal.length ct2, .slice at_3 t.ops.length ct3, .slice as_ s_.length cs_, .slice a2 r3.length c, .slice al4 l5.length cl4], OwnSl 137 2 acuts cuts.length ccuts cscuts, Box pv [iV 0, iV 0], OwnSl 3 1 a2 r3.length c (flL l), OwnSl 3 1 al4 l5.length cl4 (flL l5)] ?_
   refine .nil (.seqN (.ret ?_))
   refine .res3 rfl (rvT rfl) (rvT rfl) (rvC rfl tA27 (k := 3) rfl rfl) (fun w' S => ⟨(([] : List Cut), 1000000000, (⟨0, 0⟩ : Fault)), (none, 0), h4, hF, rfl, (q1237), ⟨RSl.nil_, (Nat.le_refl 0)⟩, S.none⟩)
  replace hF := hF.2 q2473
  refine .skip (.blkN (.seqN (.seq (.region (.V mv0 ?_)))))
  refine .inl Tryz.func67 rfl Tryz.ntmps67 Tryz.call67 rfl rfl rfl rfl (fun a3 q2474 => ?_)
  refine .seq (.region ?_)
  refine al tZ137 rfl (fun pv3 => ?_)
  refine .nil (.seqN (.seq (.region (.V mv0 ?_))))
  obtain ⟨q2475, hF⟩ := hF
  obtain ⟨r5, q2476⟩ : ∃ y_ : List Bool, y_ = sp_zone (⟨t, s_, l, l5⟩ : SearchT) := ⟨_, rfl⟩
  replace hF := hF r5 q2476
  refine clO (α := Option Addr × Nat) (V := fun z => .slice z.1 r5.length z.2) (Ψ := fun z => True) (B := fun z => [OwnSl 4 1 z.1 r5.length z.2 (flL r5)]) Tryz.call100 rfl rfl (fun w S => (by rw [q2476]; obtain ⟨h0_, l0_, S0_, b0_⟩ := freezeB S (k := 2) rfl; obtain ⟨h1_, l1_, S1_, b1_, c1_⟩ := freezeSl S0_ (k := 5) rfl; obtain ⟨h2_, l2_, S2_, b2_, c2_⟩ := freezeSl S1_ (k := 6) rfl; have hl_ := (FH.le_trans l0_ (FH.le_trans l1_ l2_)); have hs_ := S2_.sub; (try rw [← q1236]); (try rw [← q1236] at b0_); exact (c_zone hs_ (⟨t, s_, l, l5⟩ : SearchT) at_ ct (RSl.mono hl_ (_q1.mono (q1237))) _q2 at_2 ct2 (RSl.mono hl_ (_q3.mono (q1237))) _q4 at_3 ct3 (RSl.mono hl_ (_q5.mono (q1237))) _q6 as_ cs_ (RSl.mono hl_ (_q7.mono (q1237))) _q8 a2 c (RSl.of (b1_.mono l2_)) (by rw [q1236]; exact c1_) al4 cl4 (RSl.of b2_) c2_ pv2 (b0_.mono (FH.le_trans l1_ l2_)) q2475).mono fun _ _ ⟨z, h0, h1, e1, e2, e3, e4⟩ => ⟨z, h0, h1, e1, e2, FH.le_trans hl_ e3, e4⟩)) rfl (fun z _ => ?_)
  obtain ⟨a4, c2⟩ := z
  refine .KA [OwnSl 4 1 a4 r5.length c2 (flL r5), Box pv3 [.slice none 0 0, iV 0], Box pt2 [iV t.facts, .slice at_ t.init.length ct, .slice at_2 t.goal.length ct2, .slice at_3 t.ops.length ct3], Box pv2 [iV t.facts, .slice at_ t.init.length ct, .slice at_2 t.goal.length ct2, .slice at_3 t.ops.length ct3, .slice as_ s_.length cs_, .slice a2 r3.length c, .slice al4 l5.length cl4], OwnSl 137 2 acuts cuts.length ccuts cscuts, Box pv [iV 0, iV 0], OwnSl 3 1 a2 r3.length c (flL l), OwnSl 3 1 al4 l5.length cl4 (flL l5)] ?_
  refine .V ag0 ?_
  refine .nil (.seqN (.seq (.region (.V mv0 ?_))))
  refine .V mv0 ?_
  obtain ⟨q2477, hF⟩ := hF
  obtain ⟨r6, q2478⟩ : ∃ y_ : List Bool, y_ = sp_beforeZ (⟨t, s_, l, l5⟩ : SearchT) r5 := ⟨_, rfl⟩
  replace hF := hF r6 q2478
  refine clO (α := Option Addr × Nat) (V := fun z => .slice z.1 r6.length z.2) (Ψ := fun z => True) (B := fun z => [OwnSl 4 1 z.1 r6.length z.2 (flL r6)]) Tryz.call101 rfl rfl (fun w S => (by rw [q2478]; obtain ⟨h0_, l0_, S0_, b0_⟩ := freezeB S (k := 3) rfl; obtain ⟨h1_, l1_, S1_, b1_, c1_⟩ := freezeSl S0_ (k := 6) rfl; obtain ⟨h2_, l2_, S2_, b2_, c2_⟩ := freezeSl S1_ (k := 7) rfl; obtain ⟨h3_, l3_, S3_, b3_, c3_⟩ := freezeSl S2_ (k := 0) rfl; have hl_ := (FH.le_trans l0_ (FH.le_trans l1_ (FH.le_trans l2_ l3_))); have hs_ := S3_.sub; (try rw [← q1236]); (try rw [← q1236] at b0_); exact (c_beforeZ hs_ (⟨t, s_, l, l5⟩ : SearchT) at_ ct (RSl.mono hl_ (_q1.mono (q1237))) _q2 at_2 ct2 (RSl.mono hl_ (_q3.mono (q1237))) _q4 at_3 ct3 (RSl.mono hl_ (_q5.mono (q1237))) _q6 as_ cs_ (RSl.mono hl_ (_q7.mono (q1237))) _q8 a2 c (RSl.of (b1_.mono (FH.le_trans l2_ l3_))) (by rw [q1236]; exact c1_) al4 cl4 (RSl.of (b2_.mono l3_)) c2_ pv2 (b0_.mono (FH.le_trans l1_ (FH.le_trans l2_ l3_))) r5 a4 c2 (RSl.of b3_) c3_ q2477).mono fun _ _ ⟨z, h0, h1, e1, e2, e3, e4⟩ => ⟨z, h0, h1, e1, e2, FH.le_trans hl_ e3, e4⟩)) rfl (fun z _ => ?_)
  obtain ⟨a5, c3⟩ := z
  refine .KA [OwnSl 4 1 a5 r6.length c3 (flL r6), OwnSl 4 1 a4 r5.length c2 (flL r5), Box pv3 [.slice none 0 0, iV 0], Box pt2 [iV t.facts, .slice at_ t.init.length ct, .slice at_2 t.goal.length ct2, .slice at_3 t.ops.length ct3], Box pv2 [iV t.facts, .slice at_ t.init.length ct, .slice at_2 t.goal.length ct2, .slice at_3 t.ops.length ct3, .slice as_ s_.length cs_, .slice a2 r3.length c, .slice al4 l5.length cl4], OwnSl 137 2 acuts cuts.length ccuts cscuts, Box pv [iV 0, iV 0], OwnSl 3 1 a2 r3.length c (flL l), OwnSl 3 1 al4 l5.length cl4 (flL l5)] ?_
  refine .V ag0 ?_
  refine .nil (.seqN (.seq (.region (.V (bld (cs := #[.slice none 0 0, iV 1000000000]) (pv := [(1, iV 1000000000)]) tB137 rfl rfl) ?_))))
  refine al tZ137 rfl (fun pc => ?_)
  refine st (p := pc) (off := 0) (k := 0) (vs := [.slice none 0 0, iV 1000000000]) rfl rfl rfl (fun w => (tA137 w).2) rfl rfl rfl rfl ?_
  refine .KA [Box pc [.slice none 0 0, iV 1000000000], OwnSl 4 1 a5 r6.length c3 (flL r6), OwnSl 4 1 a4 r5.length c2 (flL r5), Box pv3 [.slice none 0 0, iV 0], Box pt2 [iV t.facts, .slice at_ t.init.length ct, .slice at_2 t.goal.length ct2, .slice at_3 t.ops.length ct3], Box pv2 [iV t.facts, .slice at_ t.init.length ct, .slice at_2 t.goal.length ct2, .slice at_3 t.ops.length ct3, .slice as_ s_.length cs_, .slice a2 r3.length c, .slice al4 l5.length cl4], OwnSl 137 2 acuts cuts.length ccuts cscuts, Box pv [iV 0, iV 0], OwnSl 3 1 a2 r3.length c (flL l), OwnSl 3 1 al4 l5.length cl4 (flL l5)] ?_
  refine .nil (.seqN (.seq (.seq (.region (.V mv0 ?_)))))
  refine .V (nck rfl) ?_
  refine .V (fa rfl tF135_0) ?_
  refine .V (faa (p := pv2) (o1 := 0) rfl tF25_3 rfl) ?_
  refine .V (ld1 rfl tO23 (cellB (off := 3) (k := 5) rfl rfl)) ?_
  refine .V (ln rfl tS23.is) ?_
  refine .V mv0 ?_
  refine .nil (.seqN (.block ?_))
  refine .nilSl 3 1 ?_
  refine .KA [OwnSl 3 1 none (([] : List Int).length) 0 (flL ([] : List Int)), Box pc [.slice none 0 0, iV 1000000000], OwnSl 4 1 a5 r6.length c3 (flL r6), OwnSl 4 1 a4 r5.length c2 (flL r5), Box pv3 [.slice none 0 0, iV 0], Box pt2 [iV t.facts, .slice at_ t.init.length ct, .slice at_2 t.goal.length ct2, .slice at_3 t.ops.length ct3], Box pv2 [iV t.facts, .slice at_ t.init.length ct, .slice at_2 t.goal.length ct2, .slice at_3 t.ops.length ct3, .slice as_ s_.length cs_, .slice a2 r3.length c, .slice al4 l5.length cl4], OwnSl 137 2 acuts cuts.length ccuts cscuts, Box pv [iV 0, iV 0], OwnSl 3 1 a2 r3.length c (flL l), OwnSl 3 1 al4 l5.length cl4 (flL l5)] ?_
  refine .sel0 [6, 4, 3, 2, 1, 8, 5, 7, 9, 10, 0] (by decide) rfl ?_
  obtain ⟨I2, μ2, q3371, q3372⟩ := hF
  refine .loop' (σ := Int × Int × List Int × Option Addr × Nat) (fun z => I2 z.1 z.2.1 z.2.2.1) (fun z => μ2 z.1 z.2.1 z.2.2.1) (fun z => [(0, .pointer (some pv2)), (2, .pointer (some pv3)), (3, .slice a4 r5.length c2), (4, .slice a5 r6.length c3), (5, .pointer (some pc)), (20, .slice at_3 t.ops.length ct3), (21, iV ((t.ops.length : Nat) : Int)), (22, iV z.1)]) (fun z => [Box pv2 [iV t.facts, .slice at_ t.init.length ct, .slice at_2 t.goal.length ct2, .slice at_3 t.ops.length ct3, .slice as_ s_.length cs_, .slice a2 r3.length c, .slice al4 l5.length cl4], Box pv3 [.slice none 0 0, iV 0], OwnSl 4 1 a4 r5.length c2 (flL r5), OwnSl 4 1 a5 r6.length c3 (flL r6), Box pc [.slice z.2.2.2.1 z.2.2.1.length z.2.2.2.2, iV z.2.1], Box pv [iV 0, iV 0], Box pt2 [iV t.facts, .slice at_ t.init.length ct, .slice at_2 t.goal.length ct2, .slice at_3 t.ops.length ct3], OwnSl 137 2 acuts cuts.length ccuts cscuts, OwnSl 3 1 a2 r3.length c (flL l), OwnSl 3 1 al4 l5.length cl4 (flL l5), OwnSl 3 1 z.2.2.2.1 z.2.2.1.length z.2.2.2.2 (flL z.2.2.1)]) (fun _ => h4) (0, 1000000000, ([] : List Int), none, 0) q3371 sb rfl (FH.le_refl _) ?_
  rintro ⟨t22, x, l6, al5, cl5⟩ q3371
  have hF := q3372 t22 x l6 q3371
  show J _ _ _ _ _ [(0, .pointer (some pv2)), (2, .pointer (some pv3)), (3, .slice a4 r5.length c2), (4, .slice a5 r6.length c3), (5, .pointer (some pc)), (20, .slice at_3 t.ops.length ct3), (21, iV ((t.ops.length : Nat) : Int)), (22, iV t22)] [Box pv2 [iV t.facts, .slice at_ t.init.length ct, .slice at_2 t.goal.length ct2, .slice at_3 t.ops.length ct3, .slice as_ s_.length cs_, .slice a2 r3.length c, .slice al4 l5.length cl4], Box pv3 [.slice none 0 0, iV 0], OwnSl 4 1 a4 r5.length c2 (flL r5), OwnSl 4 1 a5 r6.length c3 (flL r6), Box pc [.slice al5 l6.length cl5, iV x], Box pv [iV 0, iV 0], Box pt2 [iV t.facts, .slice at_ t.init.length ct, .slice at_2 t.goal.length ct2, .slice at_3 t.ops.length ct3], OwnSl 137 2 acuts cuts.length ccuts cscuts, OwnSl 3 1 a2 r3.length c (flL l), OwnSl 3 1 al4 l5.length cl4 (flL l5), OwnSl 3 1 al5 l6.length cl5 (flL l6)] h4
  refine .seq (.region (.V bi0 ?_))
  refine .nil (.seqN (.seq ?_))
  refine .cond rfl (fun q3375 => ?_) (fun q3375 => ?_)
  ·replace hF := hF.1 q3375
   refine .skip (.seqN ?_)
   refine .share (σ := Int × List Int × Option Addr × Nat) (fun z => F_cuts_J2 x t22 I2 μ2 z.1 l6 z.2.1) (fun _ => [(0, .pointer (some pv2)), (2, .pointer (some pv3)), (3, .slice a4 r5.length c2), (4, .slice a5 r6.length c3), (5, .pointer (some pc)), (20, .slice at_3 t.ops.length ct3), (21, iV ((t.ops.length : Nat) : Int)), (22, iV t22)]) (fun z => [Box pv2 [iV t.facts, .slice at_ t.init.length ct, .slice at_2 t.goal.length ct2, .slice at_3 t.ops.length ct3, .slice as_ s_.length cs_, .slice a2 r3.length c, .slice al4 l5.length cl4], Box pv3 [.slice none 0 0, iV 0], OwnSl 4 1 a4 r5.length c2 (flL r5), OwnSl 4 1 a5 r6.length c3 (flL r6), Box pc [.slice z.2.2.1 z.2.1.length z.2.2.2, iV z.1], Box pv [iV 0, iV 0], Box pt2 [iV t.facts, .slice at_ t.init.length ct, .slice at_2 t.goal.length ct2, .slice at_3 t.ops.length ct3], OwnSl 137 2 acuts cuts.length ccuts cscuts, OwnSl 3 1 a2 r3.length c (flL l), OwnSl 3 1 al4 l5.length cl4 (flL l5), OwnSl 3 1 z.2.2.1 z.2.1.length z.2.2.2 (flL z.2.1)]) (fun _ => h4) ?_ (fun q3463 => ?_)
   ·rintro ⟨x3, l8, al7, cl7⟩ hF
    show J _ _ _ _ _ [(0, .pointer (some pv2)), (2, .pointer (some pv3)), (3, .slice a4 r5.length c2), (4, .slice a5 r6.length c3), (5, .pointer (some pc)), (20, .slice at_3 t.ops.length ct3), (21, iV ((t.ops.length : Nat) : Int)), (22, iV t22)] [Box pv2 [iV t.facts, .slice at_ t.init.length ct, .slice at_2 t.goal.length ct2, .slice at_3 t.ops.length ct3, .slice as_ s_.length cs_, .slice a2 r3.length c, .slice al4 l5.length cl4], Box pv3 [.slice none 0 0, iV 0], OwnSl 4 1 a4 r5.length c2 (flL r5), OwnSl 4 1 a5 r6.length c3 (flL r6), Box pc [.slice al7 l8.length cl7, iV x3], Box pv [iV 0, iV 0], Box pt2 [iV t.facts, .slice at_ t.init.length ct, .slice at_2 t.goal.length ct2, .slice at_3 t.ops.length ct3], OwnSl 137 2 acuts cuts.length ccuts cscuts, OwnSl 3 1 a2 r3.length c (flL l), OwnSl 3 1 al4 l5.length cl4 (flL l5), OwnSl 3 1 al7 l8.length cl7 (flL l8)] h4
    refine .region (.V bi0 ?_)
    refine .V mv0 ?_
    refine .nil ?_
    exact .RO (wr (t22 + 1), x3, l8, al7, cl7) hF.1 hF.2
   refine .block (.seq (.region (.V mv0 ?_)))
   obtain ⟨q3464, hF⟩ := hF
   refine .V (ix rfl rfl tS23 (_q5.ne (by decide) (inb_pos q3464)) q3464) ?_
   obtain ⟨_, ⟨a6, c4, a7, c5, a8, c6, rfl, ⟨q3465, q3466⟩, ⟨q3467, q3468⟩, q3469, q3470⟩, q3471⟩ := _q5.elem q3464
   refine .V (ldA (cs := [.slice a6 ((gt t.ops t22).pre.length) c4, .slice a7 ((gt t.ops t22).add.length) c5, .slice a8 ((gt t.ops t22).del.length) c6, iV ((gt t.ops t22).cost)]) rfl tA52 rfl (cellsH ((fun q => (q3471 q).mono (q1237)) (by decide)))) ?_
   refine al tZ52 rfl (fun po => ?_)
   refine .V ag0 ?_
   refine st (p := po) (off := 0) (k := 0) (vs := [.slice a6 ((gt t.ops t22).pre.length) c4, .slice a7 ((gt t.ops t22).add.length) c5, .slice a8 ((gt t.ops t22).del.length) c6, iV ((gt t.ops t22).cost)]) rfl rfl rfl (fun w => (tA52 w).2) rfl rfl rfl rfl ?_
   refine .KA [Box po [.slice a6 ((gt t.ops t22).pre.length) c4, .slice a7 ((gt t.ops t22).add.length) c5, .slice a8 ((gt t.ops t22).del.length) c6, iV ((gt t.ops t22).cost)], Box pv2 [iV t.facts, .slice at_ t.init.length ct, .slice at_2 t.goal.length ct2, .slice at_3 t.ops.length ct3, .slice as_ s_.length cs_, .slice a2 r3.length c, .slice al4 l5.length cl4], Box pv3 [.slice none 0 0, iV 0], OwnSl 4 1 a4 r5.length c2 (flL r5), OwnSl 4 1 a5 r6.length c3 (flL r6), Box pc [.slice al5 l6.length cl5, iV x], Box pv [iV 0, iV 0], Box pt2 [iV t.facts, .slice at_ t.init.length ct, .slice at_2 t.goal.length ct2, .slice at_3 t.ops.length ct3], OwnSl 137 2 acuts cuts.length ccuts cscuts, OwnSl 3 1 a2 r3.length c (flL l), OwnSl 3 1 al4 l5.length cl4 (flL l5), OwnSl 3 1 al5 l6.length cl5 (flL l6)] ?_
   refine .nil (.seqN (.seq (.seq (.region (.V mv0 ?_)))))
   refine .V mv0 ?_
   refine .V (fa rfl tF52_0) ?_
   refine .V (ld1 rfl tO22 (cellB (off := 0) (k := 0) rfl rfl)) ?_
   obtain ⟨q3472, hF⟩ := hF
   obtain ⟨r7, q3473⟩ : ∃ y_ : Int, y_ = sp_hardest (⟨t, s_, l, l5⟩ : SearchT) ((gt t.ops t22).pre) := ⟨_, rfl⟩
   replace hF := hF r7 q3473
   refine .C (cl (v := iV r7) Tryz.call102 rfl rfl (fun w S => (by rw [q3473]; obtain ⟨h0_, l0_, S0_, b0_⟩ := freezeB S (k := 1) rfl; obtain ⟨h1_, l1_, S1_, b1_, c1_⟩ := freezeSl S0_ (k := 9) rfl; obtain ⟨h2_, l2_, S2_, b2_, c2_⟩ := freezeSl S1_ (k := 10) rfl; have hl_ := (FH.le_trans l0_ (FH.le_trans l1_ l2_)); have hs_ := S2_.sub; (try rw [← q1236]); (try rw [← q1236] at b0_); exact c_hardest hs_ (⟨t, s_, l, l5⟩ : SearchT) at_ ct (RSl.mono hl_ (_q1.mono (q1237))) _q2 at_2 ct2 (RSl.mono hl_ (_q3.mono (q1237))) _q4 at_3 ct3 (RSl.mono hl_ (_q5.mono (q1237))) _q6 as_ cs_ (RSl.mono hl_ (_q7.mono (q1237))) _q8 a2 c (RSl.of (b1_.mono l2_)) (by rw [q1236]; exact c1_) al4 cl4 (RSl.of b2_) c2_ pv2 (b0_.mono (FH.le_trans l1_ l2_)) ((gt t.ops t22).pre) a6 c4 (RSl.mono hl_ (q3466.mono (q1237))) q3465 q3472))) ?_
   obtain ⟨q3474, hF⟩ := hF
   refine .V (ixS rfl rfl tS171 (k := 4) rfl q3474) ?_
   refine .V (ld1 (v := .bool (gt r6 r7)) rfl tO4 (cellS (k := 4) rfl (flL_get q3474 (j := 0) rfl))) ?_
   refine .V (nt rfl) ?_
   refine .nil (.seqN ?_)
   refine .cond rfl (fun q3476 => ?_) (fun q3476 => ?_)
   ·replace hF := hF.1 q3476
    refine .exit (.seqX (.blkX ?_))
    refine .sel0 [1, 2, 3, 4, 5, 6, 7, 8, 9, 10, 11] (by decide) rfl ?_
    exact .US q3463 (x, l6, al5, cl5) hF
   replace hF := hF.2 q3476
   refine .skip (.seqN (.seq (.region (.V (fa rfl tF52_1) ?_))))
   refine .V (ld1 rfl tO22 (cellB (off := 1) (k := 0) rfl rfl)) ?_
   refine .V (ln rfl tS22.is) ?_
   refine .V mv0 ?_
   refine .nil (.seqN (.block ?_))
   refine .sel0 [1, 2, 3, 4, 5, 6, 7, 8, 9, 10, 11] (by decide) rfl ?_
   obtain ⟨I3, μ3, q3525, q3526⟩ := hF
   refine .loop' (σ := Int) (fun z => I3 z) (fun z => μ3 z) (fun z => [(0, .pointer (some pv2)), (2, .pointer (some pv3)), (3, .slice a4 r5.length c2), (4, .slice a5 r6.length c3), (5, .pointer (some pc)), (6, iV t22), (20, .slice at_3 t.ops.length ct3), (21, iV ((t.ops.length : Nat) : Int)), (22, iV t22), (36, .slice a7 ((gt t.ops t22).add.length) c5), (37, iV (((gt t.ops t22).add.length : Nat) : Int)), (38, iV z)]) (fun _ => [Box pv2 [iV t.facts, .slice at_ t.init.length ct, .slice at_2 t.goal.length ct2, .slice at_3 t.ops.length ct3, .slice as_ s_.length cs_, .slice a2 r3.length c, .slice al4 l5.length cl4], Box pv3 [.slice none 0 0, iV 0], OwnSl 4 1 a4 r5.length c2 (flL r5), OwnSl 4 1 a5 r6.length c3 (flL r6), Box pc [.slice al5 l6.length cl5, iV x], Box pv [iV 0, iV 0], Box pt2 [iV t.facts, .slice at_ t.init.length ct, .slice at_2 t.goal.length ct2, .slice at_3 t.ops.length ct3], OwnSl 137 2 acuts cuts.length ccuts cscuts, OwnSl 3 1 a2 r3.length c (flL l), OwnSl 3 1 al4 l5.length cl4 (flL l5), OwnSl 3 1 al5 l6.length cl5 (flL l6)]) (fun _ => h4) 0 q3525 sb rfl (FH.le_refl _) ?_
   rintro t38 q3525
   have hF := q3526 t38 q3525
   show J _ _ _ _ _ [(0, .pointer (some pv2)), (2, .pointer (some pv3)), (3, .slice a4 r5.length c2), (4, .slice a5 r6.length c3), (5, .pointer (some pc)), (6, iV t22), (20, .slice at_3 t.ops.length ct3), (21, iV ((t.ops.length : Nat) : Int)), (22, iV t22), (36, .slice a7 ((gt t.ops t22).add.length) c5), (37, iV (((gt t.ops t22).add.length : Nat) : Int)), (38, iV t38)] [Box pv2 [iV t.facts, .slice at_ t.init.length ct, .slice at_2 t.goal.length ct2, .slice at_3 t.ops.length ct3, .slice as_ s_.length cs_, .slice a2 r3.length c, .slice al4 l5.length cl4], Box pv3 [.slice none 0 0, iV 0], OwnSl 4 1 a4 r5.length c2 (flL r5), OwnSl 4 1 a5 r6.length c3 (flL r6), Box pc [.slice al5 l6.length cl5, iV x], Box pv [iV 0, iV 0], Box pt2 [iV t.facts, .slice at_ t.init.length ct, .slice at_2 t.goal.length ct2, .slice at_3 t.ops.length ct3], OwnSl 137 2 acuts cuts.length ccuts cscuts, OwnSl 3 1 a2 r3.length c (flL l), OwnSl 3 1 al4 l5.length cl4 (flL l5), OwnSl 3 1 al5 l6.length cl5 (flL l6)] h4
   refine .seq (.region (.V bi0 ?_))
   refine .nil (.seqN (.seq ?_))
   refine .cond rfl (fun q3529 => ?_) (fun q3529 => ?_)
   ·replace hF := hF.1 q3529
    refine .skip (.seqN (.seq (.block (.seq (.region ?_)))))
    obtain ⟨q3544, hF⟩ := hF
    refine .V (ix rfl rfl tS22 (q3468.ne (by decide) (inb_pos q3544)) q3544) ?_
    refine .V (ld1 (v := iV (gt ((gt t.ops t22).add) t38)) rfl tO3 (cellH ((q3468.mono (q1237)).elemF q3544 (by decide) 0 _ rfl))) ?_
    refine .V ag0 ?_
    refine .nil (.seqN (.seq (.region (.V mv0 ?_))))
    refine .V mv0 ?_
    obtain ⟨q3545, hF⟩ := hF
    refine .V (ixS rfl rfl tS171 (k := 2) rfl q3545) ?_
    refine .V (ld1 (v := .bool (gt r5 (gt ((gt t.ops t22).add) t38))) rfl tO4 (cellS (k := 2) rfl (flL_get q3545 (j := 0) rfl))) ?_
    refine .nil (.seqN ?_)
    refine .cond rfl (fun q3546 => ?_) (fun q3546 => ?_)
    ·replace hF := hF.1 q3546
     refine .seq (.region (.V (fa rfl tF137_0) ?_))
     refine .V (ld1 rfl tO22 (cellB (off := 0) (k := 4) rfl rfl)) ?_
     refine .V mv0 ?_
     refine bs2 (cs := #[iV t22]) (pv := [(0, iV t22)]) tS22 rfl rfl (by decide) (by decide) rfl rfl rfl (fun a9 _ => ?_)
     refine .KA [OwnSl 3 1 a9 (([t22] : List Int).length) 1 (flL ([t22] : List Int)), Box pv2 [iV t.facts, .slice at_ t.init.length ct, .slice at_2 t.goal.length ct2, .slice at_3 t.ops.length ct3, .slice as_ s_.length cs_, .slice a2 r3.length c, .slice al4 l5.length cl4], Box pv3 [.slice none 0 0, iV 0], OwnSl 4 1 a4 r5.length c2 (flL r5), OwnSl 4 1 a5 r6.length c3 (flL r6), Box pc [.slice al5 l6.length cl5, iV x], Box pv [iV 0, iV 0], Box pt2 [iV t.facts, .slice at_ t.init.length ct, .slice at_2 t.goal.length ct2, .slice at_3 t.ops.length ct3], OwnSl 137 2 acuts cuts.length ccuts cscuts, OwnSl 3 1 a2 r3.length c (flL l), OwnSl 3 1 al4 l5.length cl4 (flL l5), OwnSl 3 1 al5 l6.length cl5 (flL l6)] ?_
     obtain ⟨q3548, hF⟩ := hF
     have q3549 : l6.length + ([t22] : List Int).length = ((l6 ++ ([t22] : List Int))).length := len_app rfl rfl
     refine app (k := 11) (news := flL ([t22] : List Int)) (cs' := flL (l6 ++ ([t22] : List Int))) (nm := ((l6 ++ ([t22] : List Int))).length) tS22 rfl (by decide) rfl rfl rfl ((flL_len _).trans rfl) (srcS (k := 0) rfl) (flL_one _) (room_of q3549 q3548).1 (room_of q3549 q3548).2 q3549 (flL_append _ _).symm rfl (fun a10 c7 => ?_)
     refine .KA [OwnSl 3 1 a9 (([t22] : List Int).length) 1 (flL ([t22] : List Int)), Box pv2 [iV t.facts, .slice at_ t.init.length ct, .slice at_2 t.goal.length ct2, .slice at_3 t.ops.length ct3, .slice as_ s_.length cs_, .slice a2 r3.length c, .slice al4 l5.length cl4], Box pv3 [.slice none 0 0, iV 0], OwnSl 4 1 a4 r5.length c2 (flL r5), OwnSl 4 1 a5 r6.length c3 (flL r6), Box pc [.slice al5 l6.length cl5, iV x], Box pv [iV 0, iV 0], Box pt2 [iV t.facts, .slice at_ t.init.length ct, .slice at_2 t.goal.length ct2, .slice at_3 t.ops.length ct3], OwnSl 137 2 acuts cuts.length ccuts cscuts, OwnSl 3 1 a2 r3.length c (flL l), OwnSl 3 1 al4 l5.length cl4 (flL l5), OwnSl 3 1 a10 ((l6 ++ ([t22] : List Int)).length) c7 (flL (l6 ++ ([t22] : List Int)))] ?_
     refine .V (fa rfl tF137_0) ?_
     refine st (p := pc) (off := 0) (k := 5) (vs := [.slice a10 ((l6 ++ ([t22] : List Int)).length) c7]) rfl rfl rfl (fun w => (tO22 w).2) rfl rfl rfl rfl ?_
     refine .KA [OwnSl 3 1 a9 (([t22] : List Int).length) 1 (flL ([t22] : List Int)), Box pv2 [iV t.facts, .slice at_ t.init.length ct, .slice at_2 t.goal.length ct2, .slice at_3 t.ops.length ct3, .slice as_ s_.length cs_, .slice a2 r3.length c, .slice al4 l5.length cl4], Box pv3 [.slice none 0 0, iV 0], OwnSl 4 1 a4 r5.length c2 (flL r5), OwnSl 4 1 a5 r6.length c3 (flL r6), Box pc [.slice a10 ((l6 ++ ([t22] : List Int)).length) c7, iV x], Box pv [iV 0, iV 0], Box pt2 [iV t.facts, .slice at_ t.init.length ct, .slice at_2 t.goal.length ct2, .slice at_3 t.ops.length ct3], OwnSl 137 2 acuts cuts.length ccuts cscuts, OwnSl 3 1 a2 r3.length c (flL l), OwnSl 3 1 al4 l5.length cl4 (flL l5), OwnSl 3 1 a10 ((l6 ++ ([t22] : List Int)).length) c7 (flL (l6 ++ ([t22] : List Int)))] ?_
     refine .nil (.seqN (.seq ?_))
     obtain ⟨q3550, hF⟩ := hF
     refine .openA (s0 := [(0, .pointer (some pv2)), (2, .pointer (some pv3)), (3, .slice a4 r5.length c2), (4, .slice a5 r6.length c3), (5, .pointer (some pc)), (6, iV t22), (20, .slice at_3 t.ops.length ct3), (21, iV ((t.ops.length : Nat) : Int)), (22, iV t22)]) [0, 1, 2, 3, 4, 5, 6, 7, 8, 9, 10] [(0, .pointer (some (pc.add 1))), (1, iV x), (2, .pointer (some pv2)), (3, .pointer (some pv2)), (4, .pointer (some (pv2.add 5))), (5, .slice a2 r3.length c), (6, iV t22), (7, .pointer (some (ead a2 (t22.toNat * 1)))), (8, iV (gt l t22)), (9, iV (if (gt l t22) < x then (gt l t22) else x)), (10, .pointer (some (pc.add 1)))] (by kernel_rfl) sb [0, 2, 3, 4, 5, 6, 20, 21, 22] [] rfl (by kernel_rfl) ?_
     refine .step [11] 11 rfl (by kernel_rfl) (by kernel_rfl) (.v [] rfl rfl rfl rfl rfl rfl (fun _ => fa rfl tF137_1) (.v [(52, .pointer (some (pc.add 1)))] rfl rfl rfl rfl rfl rfl (fun _ => ld1 rfl tO3 (cellB (off := 1) (k := 5) rfl rfl)) (.v [] rfl rfl rfl rfl rfl rfl (fun _ => mv rfl) (.v [(54, .pointer (some pv2))] rfl rfl rfl rfl rfl rfl (fun _ => nck rfl) (.v [(55, .pointer (some pv2))] rfl rfl rfl rfl rfl rfl (fun _ => fa rfl tF135_2) (.v [(56, .pointer (some (pv2.add 5)))] rfl rfl rfl rfl rfl rfl (fun _ => ld1 rfl tO22 (cellB (off := 5) (k := 1) rfl rfl)) (.v [] rfl rfl rfl rfl rfl rfl (fun _ => mv rfl) (.v [(57, .slice a2 r3.length c), (58, iV t22)] rfl rfl rfl rfl rfl rfl (fun _ => ixS rfl rfl tS22 (k := 9) rfl (inb_n q3550 q1236)) (.v [(59, .pointer (some (ead a2 (t22.toNat * 1))))] rfl rfl rfl rfl rfl rfl (fun _ => ld1 (v := iV (gt l t22)) rfl tO3 (cellS (k := 9) rfl (flL_get q3550 (j := 0) rfl))) (.v [(53, iV x), (60, iV (gt l t22))] rfl rfl rfl rfl rfl rfl (fun _ => mn rfl rfl) (.v [(52, .pointer (some (pc.add 1))), (53, iV x), (54, .pointer (some pv2)), (55, .pointer (some pv2)), (56, .pointer (some (pv2.add 5))), (57, .slice a2 r3.length c), (58, iV t22), (59, .pointer (some (ead a2 (t22.toNat * 1)))), (60, iV (gt l t22)), (61, iV (if (gt l t22) < x then (gt l t22) else x))] rfl rfl rfl rfl rfl rfl (fun _ => fa rfl tF137_1) (.nil)))))))))))) (.cons [(62, .pointer (some (pc.add 1))), (61, iV (if (gt l t22) < x then (gt l t22) else x)), (52, .pointer (some (pc.add 1))), (53, iV x), (54, .pointer (some pv2)), (55, .pointer (some pv2)), (56, .pointer (some (pv2.add 5))), (57, .slice a2 r3.length c), (58, iV t22), (59, .pointer (some (ead a2 (t22.toNat * 1)))), (60, iV (gt l t22)), (61, iV (if (gt l t22) < x then (gt l t22) else x))] rfl rfl (fun sL hL => ?_) (.nil))
     refine st (p := pc) (off := 1) (k := 5) (vs := [iV (if (gt l t22) < x then (gt l t22) else x)]) rfl rfl rfl (fun w => (tO3 w).2) rfl rfl rfl rfl ?_
     refine .KA [OwnSl 3 1 a9 (([t22] : List Int).length) 1 (flL ([t22] : List Int)), Box pv2 [iV t.facts, .slice at_ t.init.length ct, .slice at_2 t.goal.length ct2, .slice at_3 t.ops.length ct3, .slice as_ s_.length cs_, .slice a2 r3.length c, .slice al4 l5.length cl4], Box pv3 [.slice none 0 0, iV 0], OwnSl 4 1 a4 r5.length c2 (flL r5), OwnSl 4 1 a5 r6.length c3 (flL r6), Box pc [.slice a10 ((l6 ++ ([t22] : List Int)).length) c7, iV (if (gt l t22) < x then (gt l t22) else x)], Box pv [iV 0, iV 0], Box pt2 [iV t.facts, .slice at_ t.init.length ct, .slice at_2 t.goal.length ct2, .slice at_3 t.ops.length ct3], OwnSl 137 2 acuts cuts.length ccuts cscuts, OwnSl 3 1 a2 r3.length c (flL l), OwnSl 3 1 al4 l5.length cl4 (flL l5), OwnSl 3 1 a10 ((l6 ++ ([t22] : List Int)).length) c7 (flL (l6 ++ ([t22] : List Int)))] ?_
     refine .nil ?_
     refine .jaN (M := [10, 9, 0, 1, 2, 3, 4, 5, 6, 7, 8]) (C' := []) (pre := []) [0, 2, 3, 4, 5, 6, 20, 21, 22] hL rfl rfl rfl rfl rfl (by kernel_rfl) ?_
     refine .last [(52, .pointer (some (pc.add 1))), (53, iV x), (54, .pointer (some pv2)), (55, .pointer (some pv2)), (56, .pointer (some (pv2.add 5))), (57, .slice a2 r3.length c), (58, iV t22), (59, .pointer (some (ead a2 (t22.toNat * 1)))), (60, iV (gt l t22)), (61, iV (if (gt l t22) < x then (gt l t22) else x)), (62, .pointer (some (pc.add 1)))] rfl (by kernel_rfl) (.nil) rfl ?_
     refine .seqN (.exit ?_)
     refine .blkY rfl ?_
     refine .seqX (.seqX (.blkX (.blkN ?_)))
     refine .sel0 [1, 2, 3, 4, 5, 6, 7, 8, 9, 10, 11] (by decide) rfl ?_
     exact .US q3463 ((if (gt l t22) < x then (gt l t22) else x), (l6 ++ ([t22] : List Int)), a10, c7) hF
    replace hF := hF.2 q3546
    refine .skip (.blkN (.seqN (.region (.V bi0 ?_))))
    refine .V mv0 ?_
    refine .nil ?_
    exact .RO (wr (t38 + 1)) hF.1 hF.2
   replace hF := hF.2 q3529
   refine .exit (.seqX (.seqX (.blkX (.blkN ?_))))
   exact .US q3463 (x, l6, al5, cl5) hF
  replace hF := hF.2 q3375
  refine .exit (.seqX (.seqX (.blkX (.seqN (.seq (.region (.V (ldA (cs := [.slice al5 l6.length cl5, iV x]) rfl tA137 rfl (cellsB (off := 0) (k := 4) rfl (m := 2) rfl)) ?_)))))))
  refine st (p := pv3) (off := 0) (k := 1) (vs := [.slice al5 l6.length cl5, iV x]) rfl rfl rfl (fun w => (tA137 w).2) rfl rfl rfl rfl ?_
  refine .KA [Box pv2 [iV t.facts, .slice at_ t.init.length ct, .slice at_2 t.goal.length ct2, .slice at_3 t.ops.length ct3, .slice as_ s_.length cs_, .slice a2 r3.length c, .slice al4 l5.length cl4], Box pv3 [.slice al5 l6.length cl5, iV x], OwnSl 4 1 a4 r5.length c2 (flL r5), OwnSl 4 1 a5 r6.length c3 (flL r6), Box pc [.slice al5 l6.length cl5, iV x], Box pv [iV 0, iV 0], Box pt2 [iV t.facts, .slice at_ t.init.length ct, .slice at_2 t.goal.length ct2, .slice at_3 t.ops.length ct3], OwnSl 137 2 acuts cuts.length ccuts cscuts, OwnSl 3 1 a2 r3.length c (flL l), OwnSl 3 1 al4 l5.length cl4 (flL l5), OwnSl 3 1 al5 l6.length cl5 (flL l6)] ?_
  refine .nil (.seqN (.ret ?_))
  refine .res1 rfl (rvC rfl tA137 (k := 1) rfl rfl) (inl_back (v := .agg #[.slice al5 l6.length cl5, iV x]) q2474 rfl ?_)
  refine .KA [Box pv2 [iV t.facts, .slice at_ t.init.length ct, .slice at_2 t.goal.length ct2, .slice at_3 t.ops.length ct3, .slice as_ s_.length cs_, .slice a2 r3.length c, .slice al4 l5.length cl4], Box pv3 [.slice al5 l6.length cl5, iV x], OwnSl 4 1 a4 r5.length c2 (flL r5), OwnSl 4 1 a5 r6.length c3 (flL r6), Box pc [.slice al5 l6.length cl5, iV x], Box pv [iV 0, iV 0], Box pt2 [iV t.facts, .slice at_ t.init.length ct, .slice at_2 t.goal.length ct2, .slice at_3 t.ops.length ct3], OwnSl 137 2 acuts cuts.length ccuts cscuts, OwnSl 3 1 a2 r3.length c (flL l), OwnSl 3 1 al4 l5.length cl4 (flL l5), OwnSl 3 1 al5 l6.length cl5 (flL l6)] ?_
  refine al tZ137 rfl (fun pc2 => ?_)
  refine st (p := pc2) (off := 0) (k := 0) (vs := [.slice al5 l6.length cl5, iV x]) rfl rfl rfl (fun w => (tA137 w).2) rfl rfl rfl rfl ?_
  refine .KA [Box pc2 [.slice al5 l6.length cl5, iV x], Box pv2 [iV t.facts, .slice at_ t.init.length ct, .slice at_2 t.goal.length ct2, .slice at_3 t.ops.length ct3, .slice as_ s_.length cs_, .slice a2 r3.length c, .slice al4 l5.length cl4], Box pv3 [.slice al5 l6.length cl5, iV x], OwnSl 4 1 a4 r5.length c2 (flL r5), OwnSl 4 1 a5 r6.length c3 (flL r6), Box pc [.slice al5 l6.length cl5, iV x], Box pv [iV 0, iV 0], Box pt2 [iV t.facts, .slice at_ t.init.length ct, .slice at_2 t.goal.length ct2, .slice at_3 t.ops.length ct3], OwnSl 137 2 acuts cuts.length ccuts cscuts, OwnSl 3 1 a2 r3.length c (flL l), OwnSl 3 1 al4 l5.length cl4 (flL l5), OwnSl 3 1 al5 l6.length cl5 (flL l6)] ?_
  refine .nil (.seqN (.seq (.seq (.region (.V (fa rfl tF137_0) ?_)))))
  refine .V (ld1 rfl tO22 (cellB (off := 0) (k := 0) rfl rfl)) ?_
  refine .V (ln rfl tS22.is) ?_
  refine .V mv0 ?_
  refine .nil (.seqN (.block ?_))
  refine .sel0 [7, 1, 8, 0, 11, 6, 9, 10] (by decide) rfl ?_
  obtain ⟨I4, μ4, q3636, q3637⟩ := hF
  refine .loop' (σ := Int × List Int) (fun z => I4 z.1 z.2 ∧ z.2.length = r3.length) (fun z => μ4 z.1 z.2) (fun z => [(1, .slice as_ s_.length cs_), (2, .pointer (some pt2)), (6, .pointer (some pv2)), (7, .slice acuts cuts.length ccuts), (8, iV total), (9, .pointer (some pc2)), (46, .slice al5 l6.length cl5), (47, iV ((l6.length : Nat) : Int)), (48, iV z.1)]) (fun z => [Box pt2 [iV t.facts, .slice at_ t.init.length ct, .slice at_2 t.goal.length ct2, .slice at_3 t.ops.length ct3], Box pv2 [iV t.facts, .slice at_ t.init.length ct, .slice at_2 t.goal.length ct2, .slice at_3 t.ops.length ct3, .slice as_ s_.length cs_, .slice a2 r3.length c, .slice al4 l5.length cl4], OwnSl 137 2 acuts cuts.length ccuts cscuts, Box pc2 [.slice al5 l6.length cl5, iV x], OwnSl 3 1 al5 l6.length cl5 (flL l6), Box pv [iV 0, iV 0], OwnSl 3 1 a2 r3.length c (flL z.2), OwnSl 3 1 al4 l5.length cl4 (flL l5)]) (fun _ => h4) (0, l) ⟨q3636, q1236⟩ sb rfl (FH.le_refl _) ?_
  rintro ⟨t48, l9⟩ ⟨q3636, q3619⟩
  have hF := q3637 t48 l9 q3636
  show J _ _ _ _ _ [(1, .slice as_ s_.length cs_), (2, .pointer (some pt2)), (6, .pointer (some pv2)), (7, .slice acuts cuts.length ccuts), (8, iV total), (9, .pointer (some pc2)), (46, .slice al5 l6.length cl5), (47, iV ((l6.length : Nat) : Int)), (48, iV t48)] [Box pt2 [iV t.facts, .slice at_ t.init.length ct, .slice at_2 t.goal.length ct2, .slice at_3 t.ops.length ct3], Box pv2 [iV t.facts, .slice at_ t.init.length ct, .slice at_2 t.goal.length ct2, .slice at_3 t.ops.length ct3, .slice as_ s_.length cs_, .slice a2 r3.length c, .slice al4 l5.length cl4], OwnSl 137 2 acuts cuts.length ccuts cscuts, Box pc2 [.slice al5 l6.length cl5, iV x], OwnSl 3 1 al5 l6.length cl5 (flL l6), Box pv [iV 0, iV 0], OwnSl 3 1 a2 r3.length c (flL l9), OwnSl 3 1 al4 l5.length cl4 (flL l5)] h4
  refine .seq (.region (.V bi0 ?_))
  refine .nil (.seqN (.seq ?_))
  refine .cond rfl (fun q3640 => ?_) (fun q3640 => ?_)
  ·replace hF := hF.1 q3640
   refine .skip (.seqN (.seq (.block (.seq (.region ?_)))))
   obtain ⟨q3649, hF⟩ := hF
   refine .V (ixS rfl rfl tS22 (k := 4) rfl q3649) ?_
   refine .V (ld1 (v := iV (gt l6 t48)) rfl tO3 (cellS (k := 4) rfl (flL_get q3649 (j := 0) rfl))) ?_
   refine .V ag0 ?_
   refine .nil (.seqN ?_)
   obtain ⟨q3650, hF⟩ := hF
   refine .openA (s0 := [(1, .slice as_ s_.length cs_), (2, .pointer (some pt2)), (6, .pointer (some pv2)), (7, .slice acuts cuts.length ccuts), (8, iV total), (9, .pointer (some pc2)), (11, iV (gt l6 t48)), (46, .slice al5 l6.length cl5), (47, iV ((l6.length : Nat) : Int)), (48, iV t48)]) [0, 1, 2, 3, 4, 5, 6, 7, 8, 9, 10] [(0, .pointer (some pv2)), (1, .pointer (some pv2)), (2, .pointer (some (pv2.add 5))), (3, .slice a2 r3.length c), (4, iV (gt l6 t48)), (5, .pointer (some (ead a2 ((gt l6 t48).toNat * 1)))), (6, iV (gt l9 (gt l6 t48))), (7, .pointer (some (pc2.add 1))), (8, iV x), (9, iV (wr ((gt l9 (gt l6 t48)) - x))), (10, .pointer (some (ead a2 ((gt l6 t48).toNat * 1))))] (by kernel_rfl) sb [1, 2, 6, 7, 8, 9, 11, 46, 47, 48] [] rfl (by kernel_rfl) ?_
   refine .step [11] 11 rfl (by kernel_rfl) (by kernel_rfl) (.v [] rfl rfl rfl rfl rfl rfl (fun _ => mv rfl) (.v [(52, .pointer (some pv2))] rfl rfl rfl rfl rfl rfl (fun _ => nck rfl) (.v [(53, .pointer (some pv2))] rfl rfl rfl rfl rfl rfl (fun _ => fa rfl tF135_2) (.v [(54, .pointer (some (pv2.add 5)))] rfl rfl rfl rfl rfl rfl (fun _ => ld1 rfl tO22 (cellB (off := 5) (k := 1) rfl rfl)) (.v [] rfl rfl rfl rfl rfl rfl (fun _ => mv rfl) (.v [(55, .slice a2 r3.length c), (56, iV (gt l6 t48))] rfl rfl rfl rfl rfl rfl (fun _ => ixS rfl rfl tS22 (k := 6) rfl (inb_n q3650 q3619)) (.v [(57, .pointer (some (ead a2 ((gt l6 t48).toNat * 1))))] rfl rfl rfl rfl rfl rfl (fun _ => ld1 (v := iV (gt l9 (gt l6 t48))) rfl tO3 (cellS (k := 6) rfl (flL_get q3650 (j := 0) rfl))) (.v [] rfl rfl rfl rfl rfl rfl (fun _ => fa rfl tF137_1) (.v [(59, .pointer (some (pc2.add 1)))] rfl rfl rfl rfl rfl rfl (fun _ => ld1 rfl tO3 (cellB (off := 1) (k := 3) rfl rfl)) (.v [(58, iV (gt l9 (gt l6 t48))), (60, iV x)] rfl rfl rfl rfl rfl rfl (fun _ => bi rfl rfl rfl) (.v [(55, .slice a2 r3.length c), (56, iV (gt l6 t48)), (52, .pointer (some pv2)), (53, .pointer (some pv2)), (54, .pointer (some (pv2.add 5))), (55, .slice a2 r3.length c), (56, iV (gt l6 t48)), (57, .pointer (some (ead a2 ((gt l6 t48).toNat * 1)))), (58, iV (gt l9 (gt l6 t48))), (59, .pointer (some (pc2.add 1))), (60, iV x), (61, iV (wr ((gt l9 (gt l6 t48)) - x)))] rfl rfl rfl rfl rfl rfl (fun _ => ixS rfl rfl tS22 (k := 6) rfl (inb_n q3650 q3619)) (.nil)))))))))))) (.cons [(62, .pointer (some (ead a2 ((gt l6 t48).toNat * 1)))), (61, iV (wr ((gt l9 (gt l6 t48)) - x))), (52, .pointer (some pv2)), (53, .pointer (some pv2)), (54, .pointer (some (pv2.add 5))), (55, .slice a2 r3.length c), (56, iV (gt l6 t48)), (57, .pointer (some (ead a2 ((gt l6 t48).toNat * 1)))), (58, iV (gt l9 (gt l6 t48))), (59, .pointer (some (pc2.add 1))), (60, iV x), (61, iV (wr ((gt l9 (gt l6 t48)) - x)))] rfl rfl (fun sL hL => ?_) (.nil))
   obtain ⟨d, q3651⟩ : ∃ y_ : List Int, y_ = (l9.set ((gt l6 t48)).toNat (wr ((gt l9 (gt l6 t48)) - x))) := ⟨_, rfl⟩
   replace hF := hF d q3651
   refine stS (k := 6) (cs' := flL d) rfl (fun _ => rfl) rfl rfl (fun w => (tO3 w).2) rfl rfl rfl (by rw [← q3619]; exact inb_pos q3650) (fl_room q3650) (by rw [q3651]; exact flL_set q3650 (wr ((gt l9 (gt l6 t48)) - x))) ?_
   have q3652 : d.length = r3.length := by rw [q3651]; exact List.length_set.trans q3619
   refine .KA [Box pt2 [iV t.facts, .slice at_ t.init.length ct, .slice at_2 t.goal.length ct2, .slice at_3 t.ops.length ct3], Box pv2 [iV t.facts, .slice at_ t.init.length ct, .slice at_2 t.goal.length ct2, .slice at_3 t.ops.length ct3, .slice as_ s_.length cs_, .slice a2 r3.length c, .slice al4 l5.length cl4], OwnSl 137 2 acuts cuts.length ccuts cscuts, Box pc2 [.slice al5 l6.length cl5, iV x], OwnSl 3 1 al5 l6.length cl5 (flL l6), Box pv [iV 0, iV 0], OwnSl 3 1 a2 r3.length c (flL d), OwnSl 3 1 al4 l5.length cl4 (flL l5)] ?_
   refine .nil ?_
   refine .jaN (M := [10, 9, 0, 1, 2, 3, 4, 5, 6, 7, 8]) (C' := []) (pre := []) [1, 2, 6, 7, 8, 9, 11, 46, 47, 48] hL rfl rfl rfl rfl rfl (by kernel_rfl) ?_
   refine .last [(52, .pointer (some pv2)), (53, .pointer (some pv2)), (54, .pointer (some (pv2.add 5))), (55, .slice a2 r3.length c), (56, iV (gt l6 t48)), (57, .pointer (some (ead a2 ((gt l6 t48).toNat * 1)))), (58, iV (gt l9 (gt l6 t48))), (59, .pointer (some (pc2.add 1))), (60, iV x), (61, iV (wr ((gt l9 (gt l6 t48)) - x))), (62, .pointer (some (ead a2 ((gt l6 t48).toNat * 1))))] rfl (by kernel_rfl) (.nil) rfl ?_
   refine .blkN (.seqN (.region (.V bi0 ?_)))
   refine .V mv0 ?_
   refine .nil ?_
   exact .RO (wr (t48 + 1), d) ⟨hF.1, q3652⟩ hF.2
  replace hF := hF.2 q3640
  refine .exit (.seqX (.seqX (.blkX (.seqN (.seq (.region (.V mv0 ?_)))))))
  refine .V (ldA (cs := [.slice al5 l6.length cl5, iV x]) rfl tA137 rfl (cellsB (off := 0) (k := 3) rfl (m := 2) rfl)) ?_
  refine .freezeL (k := 4) rfl (fun h8 le8 q3654 q3653 => ?_)
  refine .KA [Box pt2 [iV t.facts, .slice at_ t.init.length ct, .slice at_2 t.goal.length ct2, .slice at_3 t.ops.length ct3], Box pv2 [iV t.facts, .slice at_ t.init.length ct, .slice at_2 t.goal.length ct2, .slice at_3 t.ops.length ct3, .slice as_ s_.length cs_, .slice a2 r3.length c, .slice al4 l5.length cl4], OwnSl 137 2 acuts cuts.length ccuts cscuts, Box pc2 [.slice al5 l6.length cl5, iV x], tru, Box pv [iV 0, iV 0], OwnSl 3 1 a2 r3.length c (flL l9), OwnSl 3 1 al4 l5.length cl4 (flL l5)] ?_
  refine bs2 (cs := #[.slice al5 l6.length cl5, iV x]) (pv := [(0, .agg #[.slice al5 l6.length cl5, iV x])]) tS43 rfl rfl (by decide) (by decide) rfl rfl rfl (fun a11 _ => ?_)
  refine .KA [OwnSl 137 2 a11 (([(⟨l6, x⟩ : Cut)] : List Cut).length) 1 [.slice al5 l6.length cl5, iV x], Box pt2 [iV t.facts, .slice at_ t.init.length ct, .slice at_2 t.goal.length ct2, .slice at_3 t.ops.length ct3], Box pv2 [iV t.facts, .slice at_ t.init.length ct, .slice at_2 t.goal.length ct2, .slice at_3 t.ops.length ct3, .slice as_ s_.length cs_, .slice a2 r3.length c, .slice al4 l5.length cl4], OwnSl 137 2 acuts cuts.length ccuts cscuts, Box pc2 [.slice al5 l6.length cl5, iV x], tru, Box pv [iV 0, iV 0], OwnSl 3 1 a2 r3.length c (flL l9), OwnSl 3 1 al4 l5.length cl4 (flL l5)] ?_
  obtain ⟨q3656, hF⟩ := hF
  have q3657 : cuts.length + ([(⟨l6, x⟩ : Cut)] : List Cut).length = ((cuts ++ ([(⟨l6, x⟩ : Cut)] : List Cut))).length := len_app rfl rfl
  have q3658 := RepL.append (RepL.mono (le8) q1235) (show RepL h8 ([(⟨l6, x⟩ : Cut)] : List Cut) [.slice al5 l6.length cl5, iV x] from ⟨[.slice al5 l6.length cl5, iV x], _, rfl, ⟨al5, cl5, rfl, ⟨(q3654), (RSl.of q3653)⟩⟩, rfl⟩)
  refine app (k := 3) (news := [.slice al5 l6.length cl5, iV x]) (cs' := (cscuts ++ [.slice al5 l6.length cl5, iV x])) (nm := ((cuts ++ ([(⟨l6, x⟩ : Cut)] : List Cut))).length) tS43 rfl (by decide) rfl rfl rfl (RepL.len (show RepL h8 ([(⟨l6, x⟩ : Cut)] : List Cut) [.slice al5 l6.length cl5, iV x] from ⟨[.slice al5 l6.length cl5, iV x], _, rfl, ⟨al5, cl5, rfl, ⟨(q3654), (RSl.of q3653)⟩⟩, rfl⟩)) (srcS (k := 0) rfl) (RepL.one (show RepL h8 ([(⟨l6, x⟩ : Cut)] : List Cut) [.slice al5 l6.length cl5, iV x] from ⟨[.slice al5 l6.length cl5, iV x], _, rfl, ⟨al5, cl5, rfl, ⟨(q3654), (RSl.of q3653)⟩⟩, rfl⟩)) (room_of q3657 q3656).1 (room_of q3657 q3656).2 q3657 rfl rfl (fun a12 c8 => ?_)
  refine .KA [OwnSl 137 2 a11 (([(⟨l6, x⟩ : Cut)] : List Cut).length) 1 [.slice al5 l6.length cl5, iV x], Box pt2 [iV t.facts, .slice at_ t.init.length ct, .slice at_2 t.goal.length ct2, .slice at_3 t.ops.length ct3], Box pv2 [iV t.facts, .slice at_ t.init.length ct, .slice at_2 t.goal.length ct2, .slice at_3 t.ops.length ct3, .slice as_ s_.length cs_, .slice a2 r3.length c, .slice al4 l5.length cl4], OwnSl 137 2 a12 ((cuts ++ ([(⟨l6, x⟩ : Cut)] : List Cut)).length) c8 (cscuts ++ [.slice al5 l6.length cl5, iV x]), Box pc2 [.slice al5 l6.length cl5, iV x], tru, Box pv [iV 0, iV 0], OwnSl 3 1 a2 r3.length c (flL l9), OwnSl 3 1 al4 l5.length cl4 (flL l5)] ?_
  refine .V ag0 ?_
  refine .nil (.seqN (.region (.V mv0 ?_)))
  refine .V (fa rfl tF137_1) ?_
  refine .V (ld1 rfl tO3 (cellB (off := 1) (k := 4) rfl rfl)) ?_
  refine .V bi0 ?_
  refine .V ag0 ?_
  refine .nil (.blkN ?_)
  refine .sel0 [1, 2, 3, 6, 7, 8] (by decide) rfl ?_
  exact .RO (wr (total + x), (cuts ++ ([(⟨l6, x⟩ : Cut)] : List Cut)), l9, l5, a12, c8, (cscuts ++ [.slice al5 l6.length cl5, iV x]), al4, cl4, h8) ⟨hF.1, q3658, q3619, (FH.le_trans (q1237) (le8))⟩ hF.2
 refine .openA (s0 := [(1, .slice as_ s_.length cs_), (2, .pointer (some pt2)), (6, .pointer (some pv2)), (7, .slice acuts cuts.length ccuts), (8, iV total)]) [0, 1, 2, 3, 4, 5, 6] [(0, .pointer (some pv2)), (1, .agg #[iV t.facts, .slice at_ t.init.length ct, .slice at_2 t.goal.length ct2, .slice at_3 t.ops.length ct3]), (2, .slice as_ s_.length cs_), (3, .pointer (some pv2)), (4, .pointer (some pv2)), (5, .pointer (some (pv2.add 5))), (6, .slice a2 r3.length c)] (by kernel_rfl) sb [1, 2, 6, 7, 8] [] rfl (by kernel_rfl) ?_
 refine .step [7, 8] 7 rfl (by kernel_rfl) (by kernel_rfl) (.v [] rfl rfl rfl rfl rfl rfl (fun _ => mv rfl) (.v [] rfl rfl rfl rfl rfl rfl (fun _ => ldA (cs := [iV t.facts, .slice at_ t.init.length ct, .slice at_2 t.goal.length ct2, .slice at_3 t.ops.length ct3]) rfl tA25 rfl (cellsB (off := 0) (k := 0) rfl (m := 4) rfl)) (.v [] rfl rfl rfl rfl rfl rfl (fun _ => mv rfl) (.v [] rfl rfl rfl rfl rfl rfl (fun _ => mv rfl) (.v [(21, .pointer (some pv2))] rfl rfl rfl rfl rfl rfl (fun _ => nck rfl) (.v [(22, .pointer (some pv2))] rfl rfl rfl rfl rfl rfl (fun _ => fa rfl tF135_2) (.v [(23, .pointer (some (pv2.add 5)))] rfl rfl rfl rfl rfl rfl (fun _ => ld1 rfl tO22 (cellB (off := 5) (k := 1) rfl rfl)) (.nil)))))))) (.cons [(19, .agg #[iV t.facts, .slice at_ t.init.length ct, .slice at_2 t.goal.length ct2, .slice at_3 t.ops.length ct3]), (20, .slice as_ s_.length cs_), (24, .slice a2 r3.length c)] rfl rfl (fun sL hL => ?_) (.cons [] rfl rfl (fun sL hL => ?_) (.nil)))
 ·obtain ⟨q3659, hF⟩ := hF
  obtain ⟨r8, q3660⟩ : ∃ y_ : List Int, y_ = sp_valuesG t s_ l := ⟨_, rfl⟩
  replace hF := hF r8 q3660
  refine clO (α := Option Addr × Nat) (V := fun z => .slice z.1 r8.length z.2) (Ψ := fun z => True) (B := fun z => [OwnSl 3 1 z.1 r8.length z.2 (flL r8)]) Tryz.call64 rfl rfl (fun w S => (by rw [q3660]; obtain ⟨h_, hl_, hs_, hne_, hr_⟩ := look S (k := 4) rfl; rw [← q1236]; exact (c_valuesG hs_ t at_ ct (RSl.mono hl_ (_q1.mono (q1237))) _q2 at_2 ct2 (RSl.mono hl_ (_q3.mono (q1237))) _q4 at_3 ct3 (RSl.mono hl_ (_q5.mono (q1237))) _q6 s_ as_ cs_ (RSl.mono hl_ (_q7.mono (q1237))) _q8 l a2 c (RSl.of hr_) (by rw [q1236]; exact look_len S (k := 4) rfl) q3659).mono fun _ _ ⟨z, h0, h1, e1, e2, e3, e4⟩ => ⟨z, h0, h1, e1, e2, FH.le_trans hl_ e3, e4⟩)) rfl (fun z _ => ?_)
  obtain ⟨a13, c9⟩ := z
  refine .KA [OwnSl 3 1 a13 r8.length c9 (flL r8), Box pt2 [iV t.facts, .slice at_ t.init.length ct, .slice at_2 t.goal.length ct2, .slice at_3 t.ops.length ct3], Box pv2 [iV t.facts, .slice at_ t.init.length ct, .slice at_2 t.goal.length ct2, .slice at_3 t.ops.length ct3, .slice as_ s_.length cs_, .slice a2 r3.length c, .slice al2 l2.length cl2], OwnSl 137 2 acuts cuts.length ccuts cscuts, Box pv [iV 0, iV 0], OwnSl 3 1 a2 r3.length c (flL l), OwnSl 3 1 al2 l2.length cl2 (flL l2)] ?_
  refine .nil ?_
  refine .ja (M := [1, 2, 6, 5, 4, 3]) (C' := [0]) (pre := [(7, .slice a13 r8.length c9)]) [(1, .slice as_ s_.length cs_), (2, .pointer (some pt2)), (6, .pointer (some pv2)), (7, .slice acuts cuts.length ccuts), (8, iV total)] [1, 2, 6, 7, 8] hL rfl rfl rfl rfl rfl sb rfl rfl (by kernel_rfl) ?_
  refine .step [8] 8 rfl (by kernel_rfl) (by kernel_rfl) (.v [] rfl rfl rfl rfl rfl rfl (fun _ => mv rfl) (.nil)) (.cons [] rfl rfl (fun sL hL => ?_) (.nil))
  refine bs2 (cs := #[iV 0]) (pv := [(0, iV 0)]) tS22 rfl rfl (by decide) (by decide) rfl rfl rfl (fun a14 _ => ?_)
  refine .KA [OwnSl 3 1 a14 (([0] : List Int).length) 1 (flL ([0] : List Int)), OwnSl 3 1 a13 r8.length c9 (flL r8), Box pt2 [iV t.facts, .slice at_ t.init.length ct, .slice at_2 t.goal.length ct2, .slice at_3 t.ops.length ct3], Box pv2 [iV t.facts, .slice at_ t.init.length ct, .slice at_2 t.goal.length ct2, .slice at_3 t.ops.length ct3, .slice as_ s_.length cs_, .slice a2 r3.length c, .slice al2 l2.length cl2], OwnSl 137 2 acuts cuts.length ccuts cscuts, Box pv [iV 0, iV 0], OwnSl 3 1 a2 r3.length c (flL l), OwnSl 3 1 al2 l2.length cl2 (flL l2)] ?_
  refine .nil ?_
  refine .ja (M := []) (C' := [0]) (pre := [(8, .slice a14 (([0] : List Int).length) 1)]) [(1, .slice as_ s_.length cs_), (2, .pointer (some pt2)), (6, .pointer (some pv2)), (7, .slice acuts cuts.length ccuts), (8, iV total)] [1, 2, 6, 7, 8] hL rfl rfl rfl rfl rfl sb rfl rfl (by kernel_rfl) ?_
  refine .step [9] 9 rfl (by kernel_rfl) (by kernel_rfl) (.v [] rfl rfl rfl rfl rfl rfl (fun _ => mv rfl) (.nil)) (.cons [(25, .slice a13 r8.length c9), (26, .slice a14 (([0] : List Int).length) 1), (25, .slice a13 r8.length c9)] rfl rfl (fun sL hL => ?_) (.nil))
  obtain ⟨q3662, hF⟩ := hF
  have q3663 : r8.length + ([0] : List Int).length = ((r8 ++ ([0] : List Int))).length := len_app rfl rfl
  refine app (k := 1) (news := flL ([0] : List Int)) (cs' := flL (r8 ++ ([0] : List Int))) (nm := ((r8 ++ ([0] : List Int))).length) tS22 rfl (by decide) rfl rfl rfl ((flL_len _).trans rfl) (srcS (k := 0) rfl) (flL_one _) (room_of q3663 q3662).1 (room_of q3663 q3662).2 q3663 (flL_append _ _).symm rfl (fun a15 c10 => ?_)
  refine .KA [OwnSl 3 1 a14 (([0] : List Int).length) 1 (flL ([0] : List Int)), OwnSl 3 1 a15 ((r8 ++ ([0] : List Int)).length) c10 (flL (r8 ++ ([0] : List Int))), Box pt2 [iV t.facts, .slice at_ t.init.length ct, .slice at_2 t.goal.length ct2, .slice at_3 t.ops.length ct3], Box pv2 [iV t.facts, .slice at_ t.init.length ct, .slice at_2 t.goal.length ct2, .slice at_3 t.ops.length ct3, .slice as_ s_.length cs_, .slice a2 r3.length c, .slice al2 l2.length cl2], OwnSl 137 2 acuts cuts.length ccuts cscuts, Box pv [iV 0, iV 0], OwnSl 3 1 a2 r3.length c (flL l), OwnSl 3 1 al2 l2.length cl2 (flL l2)] ?_
  refine .nil ?_
  refine .ja (M := []) (C' := [0, 10, 11]) (pre := [(9, .slice a15 ((r8 ++ ([0] : List Int)).length) c10), (10, .pointer (some pv2)), (11, .pointer (some (pv2.add 6)))]) [(1, .slice as_ s_.length cs_), (2, .pointer (some pt2)), (6, .pointer (some pv2)), (7, .slice acuts cuts.length ccuts), (8, iV total)] [1, 2, 6, 7, 8] hL rfl rfl rfl rfl rfl sb rfl rfl (by kernel_rfl) ?_
  refine .step [12] 12 rfl (by kernel_rfl) (by kernel_rfl) (.v [] rfl rfl rfl rfl rfl rfl (fun _ => mv rfl) (.v [(18, .pointer (some pv2)), (18, .pointer (some pv2)), (19, .agg #[iV t.facts, .slice at_ t.init.length ct, .slice at_2 t.goal.length ct2, .slice at_3 t.ops.length ct3]), (20, .slice as_ s_.length cs_), (21, .pointer (some pv2)), (22, .pointer (some pv2)), (23, .pointer (some (pv2.add 5))), (24, .slice a2 r3.length c), (25, .slice a13 r8.length c9), (26, .slice a14 (([0] : List Int).length) 1), (27, .slice a15 ((r8 ++ ([0] : List Int)).length) c10)] rfl rfl rfl rfl rfl rfl (fun _ => nck rfl) (.v [(28, .pointer (some pv2)), (18, .pointer (some pv2)), (19, .agg #[iV t.facts, .slice at_ t.init.length ct, .slice at_2 t.goal.length ct2, .slice at_3 t.ops.length ct3]), (20, .slice as_ s_.length cs_), (21, .pointer (some pv2)), (22, .pointer (some pv2)), (23, .pointer (some (pv2.add 5))), (24, .slice a2 r3.length c), (25, .slice a13 r8.length c9), (26, .slice a14 (([0] : List Int).length) 1), (27, .slice a15 ((r8 ++ ([0] : List Int)).length) c10)] rfl rfl rfl rfl rfl rfl (fun _ => fa rfl tF135_3) (.nil)))) (.cons [(29, .pointer (some (pv2.add 6))), (27, .slice a15 ((r8 ++ ([0] : List Int)).length) c10), (27, .slice a15 ((r8 ++ ([0] : List Int)).length) c10), (18, .pointer (some pv2)), (19, .agg #[iV t.facts, .slice at_ t.init.length ct, .slice at_2 t.goal.length ct2, .slice at_3 t.ops.length ct3]), (20, .slice as_ s_.length cs_), (21, .pointer (some pv2)), (22, .pointer (some pv2)), (23, .pointer (some (pv2.add 5))), (24, .slice a2 r3.length c), (25, .slice a13 r8.length c9), (26, .slice a14 (([0] : List Int).length) 1), (27, .slice a15 ((r8 ++ ([0] : List Int)).length) c10)] rfl rfl (fun sL hL => ?_) (.nil))
  refine st (p := pv2) (off := 6) (k := 3) (vs := [.slice a15 ((r8 ++ ([0] : List Int)).length) c10]) rfl rfl rfl (fun w => (tO22 w).2) rfl rfl rfl rfl ?_
  refine .KA [OwnSl 3 1 a14 (([0] : List Int).length) 1 (flL ([0] : List Int)), OwnSl 3 1 a15 ((r8 ++ ([0] : List Int)).length) c10 (flL (r8 ++ ([0] : List Int))), Box pt2 [iV t.facts, .slice at_ t.init.length ct, .slice at_2 t.goal.length ct2, .slice at_3 t.ops.length ct3], Box pv2 [iV t.facts, .slice at_ t.init.length ct, .slice at_2 t.goal.length ct2, .slice at_3 t.ops.length ct3, .slice as_ s_.length cs_, .slice a2 r3.length c, .slice a15 ((r8 ++ ([0] : List Int)).length) c10], OwnSl 137 2 acuts cuts.length ccuts cscuts, Box pv [iV 0, iV 0], OwnSl 3 1 a2 r3.length c (flL l), OwnSl 3 1 al2 l2.length cl2 (flL l2)] ?_
  refine .nil ?_
  refine .jaN (M := [11, 0, 10]) (C' := []) (pre := []) [1, 2, 6, 7, 8] hL rfl rfl rfl rfl rfl (by kernel_rfl) ?_
  refine .last [(18, .pointer (some pv2)), (19, .agg #[iV t.facts, .slice at_ t.init.length ct, .slice at_2 t.goal.length ct2, .slice at_3 t.ops.length ct3]), (20, .slice as_ s_.length cs_), (21, .pointer (some pv2)), (22, .pointer (some pv2)), (23, .pointer (some (pv2.add 5))), (24, .slice a2 r3.length c), (25, .slice a13 r8.length c9), (26, .slice a14 (([0] : List Int).length) 1), (27, .slice a15 ((r8 ++ ([0] : List Int)).length) c10), (28, .pointer (some pv2)), (29, .pointer (some (pv2.add 6)))] rfl (by kernel_rfl) (.nil) rfl ?_
  refine .sel0 [2, 3, 4, 5, 6, 1] (by decide) rfl ?_
  exact .US q2465 ((r8 ++ ([0] : List Int)), a15, c10) hF
 ·refine bs2 (cs := #[iV 0]) (pv := [(0, iV 0)]) tS22 rfl rfl (by decide) (by decide) rfl rfl rfl (fun a13 _ => ?_)
  refine .KA [OwnSl 3 1 a13 (([0] : List Int).length) 1 (flL ([0] : List Int)), Box pt2 [iV t.facts, .slice at_ t.init.length ct, .slice at_2 t.goal.length ct2, .slice at_3 t.ops.length ct3], Box pv2 [iV t.facts, .slice at_ t.init.length ct, .slice at_2 t.goal.length ct2, .slice at_3 t.ops.length ct3, .slice as_ s_.length cs_, .slice a2 r3.length c, .slice al2 l2.length cl2], OwnSl 137 2 acuts cuts.length ccuts cscuts, Box pv [iV 0, iV 0], OwnSl 3 1 a2 r3.length c (flL l), OwnSl 3 1 al2 l2.length cl2 (flL l2)] ?_
  refine .nil ?_
  refine .ja (M := []) (C' := [0, 1, 2, 3, 4, 5, 6]) (pre := [(8, .slice a13 (([0] : List Int).length) 1)]) [(1, .slice as_ s_.length cs_), (2, .pointer (some pt2)), (6, .pointer (some pv2)), (7, .slice acuts cuts.length ccuts), (8, iV total)] [1, 2, 6, 7, 8] hL rfl rfl rfl rfl rfl sb rfl rfl (by kernel_rfl) ?_
  refine .step [7] 7 rfl (by kernel_rfl) (by kernel_rfl) (.v [] rfl rfl rfl rfl rfl rfl (fun _ => mv rfl) (.v [] rfl rfl rfl rfl rfl rfl (fun _ => ldA (cs := [iV t.facts, .slice at_ t.init.length ct, .slice at_2 t.goal.length ct2, .slice at_3 t.ops.length ct3]) rfl tA25 rfl (cellsB (off := 0) (k := 1) rfl (m := 4) rfl)) (.v [] rfl rfl rfl rfl rfl rfl (fun _ => mv rfl) (.v [] rfl rfl rfl rfl rfl rfl (fun _ => mv rfl) (.v [(21, .pointer (some pv2))] rfl rfl rfl rfl rfl rfl (fun _ => nck rfl) (.v [(22, .pointer (some pv2))] rfl rfl rfl rfl rfl rfl (fun _ => fa rfl tF135_2) (.v [(23, .pointer (some (pv2.add 5)))] rfl rfl rfl rfl rfl rfl (fun _ => ld1 rfl tO22 (cellB (off := 5) (k := 2) rfl rfl)) (.nil)))))))) (.cons [(19, .agg #[iV t.facts, .slice at_ t.init.length ct, .slice at_2 t.goal.length ct2, .slice at_3 t.ops.length ct3]), (20, .slice as_ s_.length cs_), (24, .slice a2 r3.length c)] rfl rfl (fun sL hL => ?_) (.nil))
  obtain ⟨q3665, hF⟩ := hF
  obtain ⟨r8, q3666⟩ : ∃ y_ : List Int, y_ = sp_valuesG t s_ l := ⟨_, rfl⟩
  replace hF := hF r8 q3666
  refine clO (α := Option Addr × Nat) (V := fun z => .slice z.1 r8.length z.2) (Ψ := fun z => True) (B := fun z => [OwnSl 3 1 z.1 r8.length z.2 (flL r8)]) Tryz.call64 rfl rfl (fun w S => (by rw [q3666]; obtain ⟨h_, hl_, hs_, hne_, hr_⟩ := look S (k := 5) rfl; rw [← q1236]; exact (c_valuesG hs_ t at_ ct (RSl.mono hl_ (_q1.mono (q1237))) _q2 at_2 ct2 (RSl.mono hl_ (_q3.mono (q1237))) _q4 at_3 ct3 (RSl.mono hl_ (_q5.mono (q1237))) _q6 s_ as_ cs_ (RSl.mono hl_ (_q7.mono (q1237))) _q8 l a2 c (RSl.of hr_) (by rw [q1236]; exact look_len S (k := 5) rfl) q3665).mono fun _ _ ⟨z, h0, h1, e1, e2, e3, e4⟩ => ⟨z, h0, h1, e1, e2, FH.le_trans hl_ e3, e4⟩)) rfl (fun z _ => ?_)
  obtain ⟨a14, c9⟩ := z
  refine .KA [OwnSl 3 1 a14 r8.length c9 (flL r8), OwnSl 3 1 a13 (([0] : List Int).length) 1 (flL ([0] : List Int)), Box pt2 [iV t.facts, .slice at_ t.init.length ct, .slice at_2 t.goal.length ct2, .slice at_3 t.ops.length ct3], Box pv2 [iV t.facts, .slice at_ t.init.length ct, .slice at_2 t.goal.length ct2, .slice at_3 t.ops.length ct3, .slice as_ s_.length cs_, .slice a2 r3.length c, .slice al2 l2.length cl2], OwnSl 137 2 acuts cuts.length ccuts cscuts, Box pv [iV 0, iV 0], OwnSl 3 1 a2 r3.length c (flL l), OwnSl 3 1 al2 l2.length cl2 (flL l2)] ?_
  refine .nil ?_
  refine .ja (M := [1, 2, 6, 5, 4, 3]) (C' := [0]) (pre := [(7, .slice a14 r8.length c9)]) [(1, .slice as_ s_.length cs_), (2, .pointer (some pt2)), (6, .pointer (some pv2)), (7, .slice acuts cuts.length ccuts), (8, iV total)] [1, 2, 6, 7, 8] hL rfl rfl rfl rfl rfl sb rfl rfl (by kernel_rfl) ?_
  refine .step [9] 9 rfl (by kernel_rfl) (by kernel_rfl) (.v [] rfl rfl rfl rfl rfl rfl (fun _ => mv rfl) (.nil)) (.cons [(25, .slice a14 r8.length c9), (26, .slice a13 (([0] : List Int).length) 1), (25, .slice a14 r8.length c9)] rfl rfl (fun sL hL => ?_) (.nil))
  obtain ⟨q3667, hF⟩ := hF
  have q3668 : r8.length + ([0] : List Int).length = ((r8 ++ ([0] : List Int))).length := len_app rfl rfl
  refine app (k := 0) (news := flL ([0] : List Int)) (cs' := flL (r8 ++ ([0] : List Int))) (nm := ((r8 ++ ([0] : List Int))).length) tS22 rfl (by decide) rfl rfl rfl ((flL_len _).trans rfl) (srcS (k := 1) rfl) (flL_one _) (room_of q3668 q3667).1 (room_of q3668 q3667).2 q3668 (flL_append _ _).symm rfl (fun a15 c10 => ?_)
  refine .KA [OwnSl 3 1 a15 ((r8 ++ ([0] : List Int)).length) c10 (flL (r8 ++ ([0] : List Int))), OwnSl 3 1 a13 (([0] : List Int).length) 1 (flL ([0] : List Int)), Box pt2 [iV t.facts, .slice at_ t.init.length ct, .slice at_2 t.goal.length ct2, .slice at_3 t.ops.length ct3], Box pv2 [iV t.facts, .slice at_ t.init.length ct, .slice at_2 t.goal.length ct2, .slice at_3 t.ops.length ct3, .slice as_ s_.length cs_, .slice a2 r3.length c, .slice al2 l2.length cl2], OwnSl 137 2 acuts cuts.length ccuts cscuts, Box pv [iV 0, iV 0], OwnSl 3 1 a2 r3.length c (flL l), OwnSl 3 1 al2 l2.length cl2 (flL l2)] ?_
  refine .nil ?_
  refine .ja (M := []) (C' := [0, 10, 11]) (pre := [(9, .slice a15 ((r8 ++ ([0] : List Int)).length) c10), (10, .pointer (some pv2)), (11, .pointer (some (pv2.add 6)))]) [(1, .slice as_ s_.length cs_), (2, .pointer (some pt2)), (6, .pointer (some pv2)), (7, .slice acuts cuts.length ccuts), (8, iV total)] [1, 2, 6, 7, 8] hL rfl rfl rfl rfl rfl sb rfl rfl (by kernel_rfl) ?_
  refine .step [12] 12 rfl (by kernel_rfl) (by kernel_rfl) (.v [] rfl rfl rfl rfl rfl rfl (fun _ => mv rfl) (.v [(18, .pointer (some pv2)), (18, .pointer (some pv2)), (19, .agg #[iV t.facts, .slice at_ t.init.length ct, .slice at_2 t.goal.length ct2, .slice at_3 t.ops.length ct3]), (20, .slice as_ s_.length cs_), (21, .pointer (some pv2)), (22, .pointer (some pv2)), (23, .pointer (some (pv2.add 5))), (24, .slice a2 r3.length c), (25, .slice a14 r8.length c9), (26, .slice a13 (([0] : List Int).length) 1), (27, .slice a15 ((r8 ++ ([0] : List Int)).length) c10)] rfl rfl rfl rfl rfl rfl (fun _ => nck rfl) (.v [(28, .pointer (some pv2)), (18, .pointer (some pv2)), (19, .agg #[iV t.facts, .slice at_ t.init.length ct, .slice at_2 t.goal.length ct2, .slice at_3 t.ops.length ct3]), (20, .slice as_ s_.length cs_), (21, .pointer (some pv2)), (22, .pointer (some pv2)), (23, .pointer (some (pv2.add 5))), (24, .slice a2 r3.length c), (25, .slice a14 r8.length c9), (26, .slice a13 (([0] : List Int).length) 1), (27, .slice a15 ((r8 ++ ([0] : List Int)).length) c10)] rfl rfl rfl rfl rfl rfl (fun _ => fa rfl tF135_3) (.nil)))) (.cons [(29, .pointer (some (pv2.add 6))), (27, .slice a15 ((r8 ++ ([0] : List Int)).length) c10), (27, .slice a15 ((r8 ++ ([0] : List Int)).length) c10), (18, .pointer (some pv2)), (19, .agg #[iV t.facts, .slice at_ t.init.length ct, .slice at_2 t.goal.length ct2, .slice at_3 t.ops.length ct3]), (20, .slice as_ s_.length cs_), (21, .pointer (some pv2)), (22, .pointer (some pv2)), (23, .pointer (some (pv2.add 5))), (24, .slice a2 r3.length c), (25, .slice a14 r8.length c9), (26, .slice a13 (([0] : List Int).length) 1), (27, .slice a15 ((r8 ++ ([0] : List Int)).length) c10)] rfl rfl (fun sL hL => ?_) (.nil))
  refine st (p := pv2) (off := 6) (k := 3) (vs := [.slice a15 ((r8 ++ ([0] : List Int)).length) c10]) rfl rfl rfl (fun w => (tO22 w).2) rfl rfl rfl rfl ?_
  refine .KA [OwnSl 3 1 a15 ((r8 ++ ([0] : List Int)).length) c10 (flL (r8 ++ ([0] : List Int))), OwnSl 3 1 a13 (([0] : List Int).length) 1 (flL ([0] : List Int)), Box pt2 [iV t.facts, .slice at_ t.init.length ct, .slice at_2 t.goal.length ct2, .slice at_3 t.ops.length ct3], Box pv2 [iV t.facts, .slice at_ t.init.length ct, .slice at_2 t.goal.length ct2, .slice at_3 t.ops.length ct3, .slice as_ s_.length cs_, .slice a2 r3.length c, .slice a15 ((r8 ++ ([0] : List Int)).length) c10], OwnSl 137 2 acuts cuts.length ccuts cscuts, Box pv [iV 0, iV 0], OwnSl 3 1 a2 r3.length c (flL l), OwnSl 3 1 al2 l2.length cl2 (flL l2)] ?_
  refine .nil ?_
  refine .jaN (M := [11, 0, 10]) (C' := []) (pre := []) [1, 2, 6, 7, 8] hL rfl rfl rfl rfl rfl (by kernel_rfl) ?_
  refine .last [(18, .pointer (some pv2)), (19, .agg #[iV t.facts, .slice at_ t.init.length ct, .slice at_2 t.goal.length ct2, .slice at_3 t.ops.length ct3]), (20, .slice as_ s_.length cs_), (21, .pointer (some pv2)), (22, .pointer (some pv2)), (23, .pointer (some (pv2.add 5))), (24, .slice a2 r3.length c), (25, .slice a14 r8.length c9), (26, .slice a13 (([0] : List Int).length) 1), (27, .slice a15 ((r8 ++ ([0] : List Int)).length) c10), (28, .pointer (some pv2)), (29, .pointer (some (pv2.add 6)))] rfl (by kernel_rfl) (.nil) rfl ?_
  refine .sel0 [2, 3, 4, 5, 6, 0] (by decide) rfl ?_
  exact .US q2465 ((r8 ++ ([0] : List Int)), a15, c10) hF
theorem c_cuts {h : FH} {w : World} (hs : Sub h w) (t : Task) (at_ : Option Addr) (ct : Nat) (_q1 : RSl h at_ t.init) (_q2 : t.init.length ≤ ct) (at_2 : Option Addr) (ct2 : Nat) (_q3 : RSl h at_2 t.goal) (_q4 : t.goal.length ≤ ct2) (at_3 : Option Addr) (ct3 : Nat) (_q5 : RSl h at_3 t.ops) (_q6 : t.ops.length ≤ ct3) (s_ : List Int) (as_ : Option Addr) (cs_ : Nat) (_q7 : RSl h as_ s_) (_q8 : s_.length ≤ cs_) : Calls Tryz.prog 13 #[.agg #[iV t.facts, .slice at_ t.init.length ct, .slice at_2 t.goal.length ct2, .slice at_3 t.ops.length ct3], .slice as_ s_.length cs_] w fun e w' => ∃ (z : Option Addr × Nat) (h1 : FH), e = .returned (.tuple #[.slice z.1 (sp_cuts t s_).1.length z.2, iV (sp_cuts t s_).2.1, .agg #[iV (sp_cuts t s_).2.2.code, iV (sp_cuts t s_).2.2.index]]) ∧ FH.le h h1 ∧ (RSl h1 z.1 (sp_cuts t s_).1 ∧ (sp_cuts t s_).1.length ≤ z.2) ∧ SH (Kp.all w h) h1 w' [] :=
 (w_cuts hs t at_ ct _q1 _q2 at_2 ct2 _q3 _q4 at_3 ct3 _q5 _q6 s_ as_ cs_ _q7 _q8 (fun r => r = sp_cuts t s_) (ok_cuts t s_)).mono fun _ _ ⟨r, z, h1, hk, he, hl, hf, hS⟩ => by subst hk; exact ⟨z, h1, he, hl, hf, hS⟩
end Go.Proofs.YtimillpakjgnoaaGreat.Pl

namespace Go.Proofs.YtimillpakjgnoaaGreat.Pl
open Go Go.RowKit
theorem w_wordR {h : FH} {w : World} (hs : Sub h w) (s_ : List Int) (as_ : Option Addr) (cs_ : Nat) (_q1 : RSl h as_ s_) (_q2 : s_.length ≤ cs_) (K : Int → Prop) (hF : F_wordR s_ K) : Calls Tryz.prog 68 #[.slice as_ s_.length cs_] w fun e w' => ∃ r : Int, K r ∧ e = .returned (iV r) ∧ Below w.heap.size w w' := by
 refine enter (args := [vSl as_ s_ cs_]) Tryz.func68 rfl Tryz.ntmps68 rfl hs ?_
 refine .seq (.region (.V ag0 ?_))
 refine .nil (.seqN (.seq (.region (.V ag0 ?_))))
 refine .nil (.seqN (.seq (.seq (.region (.V ag0 ?_)))))
 refine .nil (.seqN (.block ?_))
 obtain ⟨I1, μ1, q60, q61⟩ := hF
 refine .loop' (σ := Int × Int) (fun z => I1 z.1 z.2) (fun z => μ1 z.1 z.2) (fun z => [(0, vSl as_ s_ cs_), (3, iV z.1), (4, iV z.2)]) (fun _ => []) (fun _ => h) (0, 0) q60 sb rfl (FH.le_refl _) ?_
 rintro ⟨w_, i⟩ q60
 have hF := q61 w_ i q60
 show J _ _ _ _ _ [(0, vSl as_ s_ cs_), (3, iV w_), (4, iV i)] [] h
 refine .seq (.seq (.region (.V mv0 ?_)))
 refine .V mv0 ?_
 refine .V (ln rfl tS22.is) ?_
 refine .V bi0 ?_
 refine .nil (.seqN ?_)
 refine .cond rfl (fun q63 => ?_) (fun q63 => ?_)
 ·replace hF := hF.1 q63
  refine .skip (.seqN (.seq (.block (.region (.V mv0 ?_)))))
  refine .V mv0 ?_
  refine .V mv0 ?_
  obtain ⟨q70, hF⟩ := hF
  refine .V (ix rfl rfl tS22 (_q1.ne (by decide) (inb_pos q70)) q70) ?_
  refine .V (ld1 (v := iV (gt s_ i)) rfl tO3 (cellH (_q1.elemF q70 (by decide) 0 _ rfl))) ?_
  refine .V (cv Tryz.underlying3 Tryz.underlying152 rfl) ?_
  obtain ⟨q71, hF⟩ := hF
  obtain ⟨x, q72⟩ : ∃ y_ : Int, y_ = (wr (1 * 2 ^ (min ((IntKind.u64.wrap ((gt s_ i)) : Int)).toNat (IntKind.bits .i64)))) := ⟨_, rfl⟩
  replace hF := hF x q72
  refine .v (v := iV x) (by rw [q72]; exact bsh rfl rfl q71 rfl) rfl rfl rfl ?_
  refine .V bi0 ?_
  refine .V ag0 ?_
  refine .nil (.blkN (.seqN (.region (.V mv0 ?_))))
  refine .V bi0 ?_
  refine .V ag0 ?_
  refine .nil ?_
  exact .RO (wr (w_ + x), wr (i + 1)) hF.1 hF.2
 replace hF := hF.2 q63
 refine .exit (.seqX (.seqX (.blkX (.seqN (.seq (.region (.V mv0 ?_)))))))
 refine .V ag0 ?_
 refine .nil (.seqN (.ret ?_))
 refine .res1 rfl (rvT rfl) (fun w' S => ⟨w_, hF, rfl, S.below⟩)
theorem c_wordR {h : FH} {w : World} (hs : Sub h w) (s_ : List Int) (as_ : Option Addr) (cs_ : Nat) (_q1 : RSl h as_ s_) (_q2 : s_.length ≤ cs_) (hp : pre_wordR s_) : Calls Tryz.prog 68 #[.slice as_ s_.length cs_] w fun e w' => e = .returned (iV (sp_wordR s_)) ∧ Below w.heap.size w w' :=
 (w_wordR hs s_ as_ cs_ _q1 _q2 (fun r => r = sp_wordR s_) (ok_wordR s_ hp)).mono fun _ _ ⟨_, hk, he, hb⟩ => ⟨by rw [he, hk], hb⟩
set_option maxHeartbeats 8000000 in
theorem w_reachedFrom {h : FH} {w : World} (hs : Sub h w) (t : Task) (at_ : Option Addr) (ct : Nat) (_q1 : RSl h at_ t.init) (_q2 : t.init.length ≤ ct) (at_2 : Option Addr) (ct2 : Nat) (_q3 : RSl h at_2 t.goal) (_q4 : t.goal.length ≤ ct2) (at_3 : Option Addr) (ct3 : Nat) (_q5 : RSl h at_3 t.ops) (_q6 : t.ops.length ≤ ct3) (s_ : List Int) (as_ : Option Addr) (cs_ : Nat) (_q7 : RSl h as_ s_) (_q8 : s_.length ≤ cs_) (K : (List (List Int) × Bool) → Prop) (hF : F_reachedFrom t s_ K) : Calls Tryz.prog 34 #[.agg #[iV t.facts, .slice at_ t.init.length ct, .slice at_2 t.goal.length ct2, .slice at_3 t.ops.length ct3], .slice as_ s_.length cs_] w fun e w' => ∃ (r : List (List Int) × Bool) (z : Option Addr × Nat) (h1 : FH), K r ∧ e = .returned (.tuple #[.slice z.1 r.1.length z.2, .bool r.2]) ∧ FH.le h h1 ∧ (RSl h1 z.1 r.1 ∧ r.1.length ≤ z.2) ∧ SH (Kp.all w h) h1 w' [] := by
 refine enter (args := [.agg (tF t at_ ct at_2 ct2 at_3 ct3).toArray, vSl as_ s_ cs_]) Tryz.func34 rfl Tryz.ntmps34 rfl hs ?_
 refine .seq (.region ?_)
 refine bx (vs := (tF t at_ ct at_2 ct2 at_3 ct3)) rfl rfl rfl (fun pt => ?_)
 refine .V ag0 ?_
 refine .V ag0 ?_
 refine .nil (.seqN (.seq (.region (.V mv0 ?_))))
 refine bs2 (cs := #[vSl as_ s_ cs_]) (pv := [(0, vSl as_ s_ cs_)]) tS68 rfl rfl (by decide) (by decide) rfl rfl rfl (fun a _ => ?_)
 refine .KA [OwnSl 22 1 a (([s_] : List (List Int)).length) 1 [vSl as_ s_ cs_], Box pt (tF t at_ ct at_2 ct2 at_3 ct3)] ?_
 refine .V ag0 ?_
 refine .nil (.seqN (.seq (.region (.V mv0 ?_))))
 obtain ⟨q10, hF⟩ := hF
 obtain ⟨r2, q11⟩ : ∃ y_ : Int, y_ = sp_wordR s_ := ⟨_, rfl⟩
 replace hF := hF r2 q11
 refine .C (cl (v := iV r2) Tryz.call68 rfl rfl (fun w S => (by rw [q11]; exact c_wordR S.sub s_ as_ cs_ _q7 _q8 q10))) ?_
 refine bs2 (cs := #[iV r2]) (pv := [(0, iV r2)]) tS22 rfl rfl (by decide) (by decide) rfl rfl rfl (fun a2 _ => ?_)
 refine .KA [oL 3 1 a2 ([r2] : List Int) 1, OwnSl 22 1 a (([s_] : List (List Int)).length) 1 [vSl as_ s_ cs_], Box pt (tF t at_ ct at_2 ct2 at_3 ct3)] ?_
 refine .V ag0 ?_
 refine .nil (.seqN (.seq (.seq (.region (.V ag0 ?_)))))
 refine .nil (.seqN (.block ?_))
 refine .sel0 [2, 1, 0] (by decide) rfl ?_
 obtain ⟨I1, μ1, q2936, q2937⟩ := hF
 refine .loop' (σ := Int × List (List Int) × List Int × Option Addr × Nat × List Value × Option Addr × Nat × FH) (fun z => I1 z.1 z.2.1 z.2.2.1 ∧ RepL z.2.2.2.2.2.2.2.2 z.2.1 z.2.2.2.2.2.1 ∧ FH.le h z.2.2.2.2.2.2.2.2) (fun z => μ1 z.1 z.2.1 z.2.2.1) (fun z => [(2, .pointer (some pt)), (6, vSl z.2.2.2.1 z.2.1 z.2.2.2.2.1), (7, vSl z.2.2.2.2.2.2.1 z.2.2.1 z.2.2.2.2.2.2.2.1), (8, iV z.1)]) (fun z => [Box pt (tF t at_ ct at_2 ct2 at_3 ct3), OwnSl 22 1 z.2.2.2.1 z.2.1.length z.2.2.2.2.1 z.2.2.2.2.2.1, oL 3 1 z.2.2.2.2.2.2.1 z.2.2.1 z.2.2.2.2.2.2.2.1]) (fun z => z.2.2.2.2.2.2.2.2) (0, ([s_] : List (List Int)), ([r2] : List Int), a, 1, [vSl as_ s_ cs_], a2, 1, h) ⟨q2936, (show RepL h ([s_] : List (List Int)) [vSl as_ s_ cs_] from ⟨[vSl as_ s_ cs_], _, rfl, ⟨as_, cs_, rfl, _q8, _q7⟩, rfl⟩), (FH.le_refl _)⟩ sb rfl (FH.le_refl _) ?_
 rintro ⟨i, out, words, aout, cout, csout, awords, cwords, h163⟩ ⟨q2936, q2351, q2352⟩
 have hF := q2937 i out words q2936
 show J _ _ _ _ _ [(2, .pointer (some pt)), (6, vSl aout out cout), (7, vSl awords words cwords), (8, iV i)] [Box pt (tF t at_ ct at_2 ct2 at_3 ct3), OwnSl 22 1 aout out.length cout csout, oL 3 1 awords words cwords] h163
 refine .seq (.seq (.region (.V mv0 ?_)))
 refine .V mv0 ?_
 refine .V (ln rfl tS68.is) ?_
 refine .V bi0 ?_
 refine .nil (.seqN ?_)
 refine .cond rfl (fun q2939 => ?_) (fun q2939 => ?_)
 ·replace hF := hF.1 q2939
  refine .skip (.seqN (.seq (.block (.seq (.region (.V ag0 ?_))))))
  refine .nil (.seqN (.block ?_))
  obtain ⟨I2, μ2, q3456, q3457⟩ := hF
  refine .loop' (σ := Int × List (List Int) × List Int × Option Addr × Nat × List Value × Option Addr × Nat × FH) (fun z => I2 z.1 z.2.1 z.2.2.1 ∧ RepL z.2.2.2.2.2.2.2.2 z.2.1 z.2.2.2.2.2.1 ∧ FH.le h163 z.2.2.2.2.2.2.2.2) (fun z => μ2 z.1 z.2.1 z.2.2.1) (fun z => [(2, .pointer (some pt)), (6, vSl z.2.2.2.1 z.2.1 z.2.2.2.2.1), (7, vSl z.2.2.2.2.2.2.1 z.2.2.1 z.2.2.2.2.2.2.2.1), (8, iV i), (9, iV z.1)]) (fun z => [Box pt (tF t at_ ct at_2 ct2 at_3 ct3), OwnSl 22 1 z.2.2.2.1 z.2.1.length z.2.2.2.2.1 z.2.2.2.2.2.1, oL 3 1 z.2.2.2.2.2.2.1 z.2.2.1 z.2.2.2.2.2.2.2.1]) (fun z => z.2.2.2.2.2.2.2.2) (0, out, words, aout, cout, csout, awords, cwords, h163) ⟨q3456, q2351, (FH.le_refl _)⟩ sb rfl (FH.le_refl _) ?_
  rintro ⟨op, out3, words3, aout3, cout3, csout3, awords3, cwords3, h235⟩ ⟨q3456, q3391, q3392⟩
  have hF := q3457 op out3 words3 q3456
  show J _ _ _ _ _ [(2, .pointer (some pt)), (6, vSl aout3 out3 cout3), (7, vSl awords3 words3 cwords3), (8, iV i), (9, iV op)] [Box pt (tF t at_ ct at_2 ct2 at_3 ct3), OwnSl 22 1 aout3 out3.length cout3 csout3, oL 3 1 awords3 words3 cwords3] h235
  refine .seq (.seq (.region (.V mv0 ?_)))
  refine .V (fa rfl tF25_3) ?_
  refine .V (ld1 rfl tO23 (cellB (off := 3) (k := 0) rfl rfl)) ?_
  refine .V (ln rfl tS23.is) ?_
  refine .V bi0 ?_
  refine .nil (.seqN ?_)
  refine .cond rfl (fun q3459 => ?_) (fun q3459 => ?_)
  ·replace hF := hF.1 q3459
   refine .skip (.seqN ?_)
   refine .share (σ := List (List Int) × List Int × Option Addr × Nat × List Value × Option Addr × Nat × FH) (fun z => F_reachedFrom_J1 op I2 μ2 out3 words3 z.1 z.2.1 ∧ RepL z.2.2.2.2.2.2.2 z.1 z.2.2.2.2.1 ∧ FH.le h235 z.2.2.2.2.2.2.2) (fun z => [(2, .pointer (some pt)), (6, vSl z.2.2.1 z.1 z.2.2.2.1), (7, vSl z.2.2.2.2.2.1 z.2.1 z.2.2.2.2.2.2.1), (8, iV i), (9, iV op)]) (fun z => [Box pt (tF t at_ ct at_2 ct2 at_3 ct3), OwnSl 22 1 z.2.2.1 z.1.length z.2.2.2.1 z.2.2.2.2.1, oL 3 1 z.2.2.2.2.2.1 z.2.1 z.2.2.2.2.2.2.1]) (fun z => z.2.2.2.2.2.2.2) ?_ (fun q3490 => ?_)
   ·rintro ⟨out5, words5, aout5, cout5, csout5, awords5, cwords5, h241⟩ ⟨hF, q3488, q3489⟩
    show J _ _ _ _ _ [(2, .pointer (some pt)), (6, vSl aout5 out5 cout5), (7, vSl awords5 words5 cwords5), (8, iV i), (9, iV op)] [Box pt (tF t at_ ct at_2 ct2 at_3 ct3), OwnSl 22 1 aout5 out5.length cout5 csout5, oL 3 1 awords5 words5 cwords5] h241
    refine .region (.V mv0 ?_)
    refine .V bi0 ?_
    refine .V ag0 ?_
    refine .nil ?_
    exact .RO (wr (op + 1), out5, words5, aout5, cout5, csout5, awords5, cwords5, h241) ⟨hF.1, q3488, (FH.le_trans (q3392) (q3489))⟩ hF.2
   refine .block (.seq (.seq ?_))
   refine .open_ (by kernel_rfl) (by kernel_rfl) ?_
   refine .V (ldA (cs := (tF t at_ ct at_2 ct2 at_3 ct3)) rfl tA25 rfl (cellsB (off := 0) (k := 0) rfl (m := 4) rfl)) ?_
   refine .V mv0 ?_
   refine .V mv0 ?_
   obtain ⟨q3491, hF⟩ := hF
   refine .V (ixS rfl rfl tS68 (k := 1) rfl q3491) ?_
   obtain ⟨_, ⟨a3, c, rfl, q3492, q3493⟩, q3494⟩ := RepL.get q3391 (gt_get q3491)
   refine .V (ld1 (v := .slice a3 ((gt out3 i).length) c) rfl tO22 (cellS (k := 1) rfl (q3494 0 _ rfl))) ?_
   refine .V mv0 ?_
   obtain ⟨q3495, hF⟩ := hF
   obtain ⟨r3, q3496⟩ : ∃ y_ : Bool, y_ = sp_applies t (gt out3 i) op := ⟨_, rfl⟩
   replace hF := hF r3 q3496
   refine .C (cl (v := .bool r3) Tryz.call69 rfl rfl (fun w S => (by rw [q3496]; exact c_applies S.sub t at_ ct (_q1.mono (FH.le_trans (q2352) (q3392))) _q2 at_2 ct2 (_q3.mono (FH.le_trans (q2352) (q3392))) _q4 at_3 ct3 (_q5.mono (FH.le_trans (q2352) (q3392))) _q6 (gt out3 i) a3 c q3493 q3492 op q3495))) ?_
   refine .V (nt rfl) ?_
   refine .fin ?_
   refine .seqN ?_
   refine .cond rfl (fun q3498 => ?_) (fun q3498 => ?_)
   ·replace hF := hF.1 q3498
    refine .exit (.seqX (.blkX ?_))
    exact .US q3490 (out3, words3, aout3, cout3, csout3, awords3, cwords3, h235) ⟨hF, q3391, (FH.le_refl _)⟩
   replace hF := hF.2 q3498
   refine .skip (.seqN (.seq ?_))
   refine .openA (s0 := [(2, .pointer (some pt)), (6, vSl aout3 out3 cout3), (7, vSl awords3 words3 cwords3), (8, iV i), (9, iV op)]) [0, 1, 2, 3, 4, 5] [(0, .agg (tF t at_ ct at_2 ct2 at_3 ct3).toArray), (1, vSl aout3 out3 cout3), (2, iV i), (3, .pointer (some (ead aout3 (i.toNat * 1)))), (4, .slice a3 ((gt out3 i).length) c), (5, iV op)] (by kernel_rfl) sb [2, 6, 7, 8, 9] [] rfl (by kernel_rfl) ?_
   refine .step [6] 6 rfl (by kernel_rfl) (by kernel_rfl) (.v [] rfl rfl rfl rfl rfl rfl (fun _ => ldA (cs := (tF t at_ ct at_2 ct2 at_3 ct3)) rfl tA25 rfl (cellsB (off := 0) (k := 0) rfl (m := 4) rfl)) (.v [] rfl rfl rfl rfl rfl rfl (fun _ => mv rfl) (.v [] rfl rfl rfl rfl rfl rfl (fun _ => mv rfl) (.v [(38, vSl aout3 out3 cout3), (39, iV i)] rfl rfl rfl rfl rfl rfl (fun _ => ixS rfl rfl tS68 (k := 1) rfl q3491) (.v [(40, .pointer (some (ead aout3 (i.toNat * 1))))] rfl rfl rfl rfl rfl rfl (fun _ => ld1 (v := .slice a3 ((gt out3 i).length) c) rfl tO22 (cellS (k := 1) rfl (q3494 0 _ rfl))) (.v [] rfl rfl rfl rfl rfl rfl (fun _ => mv rfl) (.nil))))))) (.cons [(37, .agg (tF t at_ ct at_2 ct2 at_3 ct3).toArray), (41, .slice a3 ((gt out3 i).length) c), (42, iV op)] rfl rfl (fun sL hL => ?_) (.nil))
   obtain ⟨q3499, hF⟩ := hF
   obtain ⟨r4, q3500⟩ : ∃ y_ : List Int, y_ = sp_after t (gt out3 i) op := ⟨_, rfl⟩
   replace hF := hF r4 q3500
   refine clR (α := Option Addr × Nat) (Φ := fun h1 z => RSl h1 z.1 r4 ∧ r4.length ≤ z.2) (V := fun z => vSl z.1 r4 z.2) Tryz.call70 rfl rfl (fun w S => (by rw [q3500]; exact c_after S.sub t at_ ct (_q1.mono (FH.le_trans (q2352) (q3392))) _q2 at_2 ct2 (_q3.mono (FH.le_trans (q2352) (q3392))) _q4 at_3 ct3 (_q5.mono (FH.le_trans (q2352) (q3392))) _q6 (gt out3 i) a3 c q3493 q3492 op q3499)) rfl (fun z h242 le242 hz => ?_)
   obtain ⟨a4, c2⟩ := z
   obtain ⟨q3501, q3502⟩ := hz
   refine .nil ?_
   refine .ja (M := [0, 4, 5, 3, 1, 2]) (C' := [7]) (pre := [(6, vSl a4 r4 c2), (7, vSl a4 r4 c2)]) [(2, .pointer (some pt)), (6, vSl aout3 out3 cout3), (7, vSl awords3 words3 cwords3), (8, iV i), (9, iV op)] [2, 6, 7, 8, 9] hL rfl rfl rfl rfl rfl sb rfl rfl (by kernel_rfl) ?_
   refine .last [(37, .agg (tF t at_ ct at_2 ct2 at_3 ct3).toArray), (38, vSl aout3 out3 cout3), (39, iV i), (40, .pointer (some (ead aout3 (i.toNat * 1)))), (41, .slice a3 ((gt out3 i).length) c), (42, iV op), (43, vSl a4 r4 c2), (10, vSl a4 r4 c2)] rfl (by kernel_rfl) (.v [(43, vSl a4 r4 c2), (43, vSl a4 r4 c2), (37, .agg (tF t at_ ct at_2 ct2 at_3 ct3).toArray), (38, vSl aout3 out3 cout3), (39, iV i), (40, .pointer (some (ead aout3 (i.toNat * 1)))), (41, .slice a3 ((gt out3 i).length) c), (42, iV op), (43, vSl a4 r4 c2)] rfl rfl rfl rfl rfl rfl (fun _ => asg rfl) (.nil)) rfl ?_
   refine .seqN (.seq (.seq (.region (.V mv0 ?_))))
   refine .V mv0 ?_
   obtain ⟨q3503, hF⟩ := hF
   obtain ⟨r5, q3504⟩ : ∃ y_ : Int, y_ = sp_wordR r4 := ⟨_, rfl⟩
   replace hF := hF r5 q3504
   refine .C (cl (v := iV r5) Tryz.call68 rfl rfl (fun w S => (by rw [q3504]; exact c_wordR S.sub r4 a4 c2 q3501 q3502 q3503))) ?_
   obtain ⟨q3505, hF⟩ := hF
   obtain ⟨r6, q3506⟩ : ∃ y_ : Bool, y_ = sp_has words3 r5 := ⟨_, rfl⟩
   replace hF := hF r6 q3506
   refine .C (cl (v := .bool r6) Tryz.call71 rfl rfl (fun w S => (by rw [q3506]; obtain ⟨h_, hl_, hs_, hne_, hr_⟩ := look S (k := 2) rfl; exact c_has hs_ words3 awords3 cwords3 (RSl.of hr_) (look_len S (k := 2) rfl) r5 q3505))) ?_
   refine .nil (.seqN ?_)
   refine .cond rfl (fun q3508 => ?_) (fun q3508 => ?_)
   ·replace hF := hF.1 q3508
    refine .exit (.seqX (.blkX ?_))
    exact .US q3490 (out3, words3, aout3, cout3, csout3, awords3, cwords3, h242) ⟨hF, (RepL.mono (le242) q3391), (le242)⟩
   replace hF := hF.2 q3508
   refine .skip (.seqN (.seq (.seq (.region (.V mv0 ?_)))))
   refine .V (ln rfl tS68.is) ?_
   refine .V bi0 ?_
   refine .nil (.seqN ?_)
   refine .cond rfl (fun q3510 => ?_) (fun q3510 => ?_)
   ·replace hF := hF.1 q3510
    refine .seq (.region (.V ag0 ?_))
    refine .V ag0 ?_
    refine .nil (.seqN (.ret (.seqR (.blkR (.seqR (.seqR (.blkR (.blkR (.seqR (.seqR (.blkR (.seqR ?_))))))))))))
    refine .res2 rfl (rvT rfl) (rvT rfl) (fun w' S => ⟨(([] : List (List Int)), false), (none, 0), h242, hF, rfl, (FH.le_trans (FH.le_trans (q2352) (q3392)) (le242)), ⟨RSl.nil_, (Nat.le_refl 0)⟩, S.none⟩)
   replace hF := hF.2 q3510
   refine .skip (.seqN (.seq (.region (.V mv0 ?_))))
   refine .V mv0 ?_
   refine bs2 (cs := #[vSl a4 r4 c2]) (pv := [(0, vSl a4 r4 c2)]) tS68 rfl rfl (by decide) (by decide) rfl rfl rfl (fun a5 _ => ?_)
   refine .KA [OwnSl 22 1 a5 (([r4] : List (List Int)).length) 1 [vSl a4 r4 c2], Box pt (tF t at_ ct at_2 ct2 at_3 ct3), OwnSl 22 1 aout3 out3.length cout3 csout3, oL 3 1 awords3 words3 cwords3] ?_
   obtain ⟨q3512, hF⟩ := hF
   have q3513 : out3.length + ([r4] : List (List Int)).length = ((out3 ++ ([r4] : List (List Int)))).length := len_app rfl rfl
   have q3514 := RepL.append (RepL.mono (le242) q3391) (show RepL h242 ([r4] : List (List Int)) [.slice a4 r4.length c2] from ⟨[.slice a4 r4.length c2], _, rfl, ⟨a4, c2, rfl, q3502, q3501⟩, rfl⟩)
   refine app (k := 2) (news := [vSl a4 r4 c2]) (cs' := (csout3 ++ [vSl a4 r4 c2])) (nm := ((out3 ++ ([r4] : List (List Int)))).length) tS68 rfl (by decide) rfl rfl rfl (RepL.len (show RepL h242 ([r4] : List (List Int)) [vSl a4 r4 c2] from ⟨[vSl a4 r4 c2], _, rfl, ⟨a4, c2, rfl, q3502, q3501⟩, rfl⟩)) (srcS (k := 0) rfl) (RepL.one (show RepL h242 ([r4] : List (List Int)) [vSl a4 r4 c2] from ⟨[vSl a4 r4 c2], _, rfl, ⟨a4, c2, rfl, q3502, q3501⟩, rfl⟩)) (room_of q3513 q3512).1 (room_of q3513 q3512).2 q3513 rfl rfl (fun a6 c3 => ?_)
   refine .KA [OwnSl 22 1 a5 (([r4] : List (List Int)).length) 1 [vSl a4 r4 c2], Box pt (tF t at_ ct at_2 ct2 at_3 ct3), OwnSl 22 1 a6 ((out3 ++ ([r4] : List (List Int))).length) c3 (csout3 ++ [vSl a4 r4 c2]), oL 3 1 awords3 words3 cwords3] ?_
   refine .V ag0 ?_
   refine .nil (.seqN (.region (.V mv0 ?_)))
   refine .V mv0 ?_
   obtain ⟨r7, q3515⟩ : ∃ y_ : Int, y_ = sp_wordR r4 := ⟨_, rfl⟩
   replace hF := hF r7 q3515
   refine .C (cl (v := iV r7) Tryz.call68 rfl rfl (fun w S => (by rw [q3515]; exact c_wordR S.sub r4 a4 c2 q3501 q3502 q3503))) ?_
   refine bs2 (cs := #[iV r7]) (pv := [(0, iV r7)]) tS22 rfl rfl (by decide) (by decide) rfl rfl rfl (fun a7 _ => ?_)
   refine .KA [oL 3 1 a7 ([r7] : List Int) 1, OwnSl 22 1 a5 (([r4] : List (List Int)).length) 1 [vSl a4 r4 c2], Box pt (tF t at_ ct at_2 ct2 at_3 ct3), OwnSl 22 1 a6 ((out3 ++ ([r4] : List (List Int))).length) c3 (csout3 ++ [vSl a4 r4 c2]), oL 3 1 awords3 words3 cwords3] ?_
   obtain ⟨q3517, hF⟩ := hF
   have q3518 : words3.length + ([r7] : List Int).length = ((words3 ++ ([r7] : List Int))).length := len_app rfl rfl
   refine app (k := 4) (news := flL ([r7] : List Int)) (cs' := flL (words3 ++ ([r7] : List Int))) (nm := ((words3 ++ ([r7] : List Int))).length) tS22 rfl (by decide) rfl rfl rfl ((flL_len _).trans rfl) (srcS (k := 0) rfl) (flL_one _) (room_of q3518 q3517).1 (room_of q3518 q3517).2 q3518 (flL_append _ _).symm rfl (fun a8 c4 => ?_)
   refine .KA [oL 3 1 a7 ([r7] : List Int) 1, OwnSl 22 1 a5 (([r4] : List (List Int)).length) 1 [vSl a4 r4 c2], Box pt (tF t at_ ct at_2 ct2 at_3 ct3), OwnSl 22 1 a6 ((out3 ++ ([r4] : List (List Int))).length) c3 (csout3 ++ [vSl a4 r4 c2]), oL 3 1 a8 (words3 ++ ([r7] : List Int)) c4] ?_
   refine .V ag0 ?_
   refine .nil (.blkN ?_)
   refine .sel0 [2, 3, 4] (by decide) rfl ?_
   exact .US q3490 ((out3 ++ ([r4] : List (List Int))), (words3 ++ ([r7] : List Int)), a6, c3, (csout3 ++ [vSl a4 r4 c2]), a8, c4, h242) ⟨hF, q3514, (le242)⟩
  replace hF := hF.2 q3459
  refine .exit (.seqX (.seqX (.blkX (.blkN (.seqN (.region (.V mv0 ?_)))))))
  refine .V bi0 ?_
  refine .V ag0 ?_
  refine .nil ?_
  exact .RO (wr (i + 1), out3, words3, aout3, cout3, csout3, awords3, cwords3, h235) ⟨hF.1, q3391, (FH.le_trans (q2352) (q3392))⟩ hF.2
 replace hF := hF.2 q2939
 refine .exit (.seqX (.seqX (.blkX (.seqN (.seq (.region (.V mv0 ?_)))))))
 refine .V ag0 ?_
 refine .V ag0 ?_
 refine .nil (.seqN ?_)
 refine .freezeL (k := 1) rfl (fun h243 le243 q3520 q3519 => ?_)
 refine .KA [Box pt (tF t at_ ct at_2 ct2 at_3 ct3), tru, oL 3 1 awords words cwords] ?_
 refine .ret ?_
 refine .res2 rfl (rvT rfl) (rvT rfl) (fun w' S => ⟨(out, true), (aout, cout), h243, hF, rfl, (FH.le_trans (q2352) (le243)), ⟨(show RSl h243 aout out from ⟨_, q2351.mono (le243), q3519⟩), (q3520)⟩, S.none⟩)
theorem c_reachedFrom {h : FH} {w : World} (hs : Sub h w) (t : Task) (at_ : Option Addr) (ct : Nat) (_q1 : RSl h at_ t.init) (_q2 : t.init.length ≤ ct) (at_2 : Option Addr) (ct2 : Nat) (_q3 : RSl h at_2 t.goal) (_q4 : t.goal.length ≤ ct2) (at_3 : Option Addr) (ct3 : Nat) (_q5 : RSl h at_3 t.ops) (_q6 : t.ops.length ≤ ct3) (s_ : List Int) (as_ : Option Addr) (cs_ : Nat) (_q7 : RSl h as_ s_) (_q8 : s_.length ≤ cs_) (hp : pre_reachedFrom t s_) : Calls Tryz.prog 34 #[.agg #[iV t.facts, .slice at_ t.init.length ct, .slice at_2 t.goal.length ct2, .slice at_3 t.ops.length ct3], .slice as_ s_.length cs_] w fun e w' => ∃ (z : Option Addr × Nat) (h1 : FH), e = .returned (.tuple #[.slice z.1 (sp_reachedFrom t s_).1.length z.2, .bool (sp_reachedFrom t s_).2]) ∧ FH.le h h1 ∧ (RSl h1 z.1 (sp_reachedFrom t s_).1 ∧ (sp_reachedFrom t s_).1.length ≤ z.2) ∧ SH (Kp.all w h) h1 w' [] :=
 (w_reachedFrom hs t at_ ct _q1 _q2 at_2 ct2 _q3 _q4 at_3 ct3 _q5 _q6 s_ as_ cs_ _q7 _q8 (fun r => r = sp_reachedFrom t s_) (ok_reachedFrom t s_ hp)).mono fun _ _ ⟨r, z, h1, hk, he, hl, hf, hS⟩ => by subst hk; exact ⟨z, h1, he, hl, hf, hS⟩
set_option maxHeartbeats 8000000 in
theorem w_costsRef {h : FH} {w : World} (hs : Sub h w) (t : Task) (at_ : Option Addr) (ct : Nat) (_q1 : RSl h at_ t.init) (_q2 : t.init.length ≤ ct) (at_2 : Option Addr) (ct2 : Nat) (_q3 : RSl h at_2 t.goal) (_q4 : t.goal.length ≤ ct2) (at_3 : Option Addr) (ct3 : Nat) (_q5 : RSl h at_3 t.ops) (_q6 : t.ops.length ≤ ct3) (l : List (List Int)) (al2 : Option Addr) (cl2 : Nat) (_q7 : RSl h al2 l) (_q8 : l.length ≤ cl2) (K : (List Int) → Prop) (hF : F_costsRef t l K) : Calls Tryz.prog 35 #[.agg #[iV t.facts, .slice at_ t.init.length ct, .slice at_2 t.goal.length ct2, .slice at_3 t.ops.length ct3], .slice al2 l.length cl2] w fun e w' => ∃ (r : List Int) (z : Option Addr × Nat) (h1 : FH), K r ∧ e = .returned (.slice z.1 r.length z.2) ∧ FH.le h h1 ∧ (RSl h1 z.1 r ∧ r.length ≤ z.2) ∧ SH (Kp.all w h) h1 w' [] := by
 refine enter (args := [.agg (tF t at_ ct at_2 ct2 at_3 ct3).toArray, vSl al2 l cl2]) Tryz.func35 rfl Tryz.ntmps35 rfl hs ?_
 refine .seq (.region ?_)
 refine bx (vs := (tF t at_ ct at_2 ct2 at_3 ct3)) rfl rfl rfl (fun pt => ?_)
 refine .V ag0 ?_
 refine .nil (.seqN (.seq (.region (.V ag0 ?_))))
 refine .nil (.seqN (.seq (.region (.V ag0 ?_))))
 refine .nil (.seqN (.seq (.seq (.region (.V ag0 ?_)))))
 refine .nil (.seqN (.block ?_))
 refine .nilSl 3 1 ?_
 refine .KA [oL 3 1 none ([] : List Int) 0, Box pt (tF t at_ ct at_2 ct2 at_3 ct3)] ?_
 refine .nilSl 3 1 ?_
 refine .KA [oL 3 1 none ([] : List Int) 0, oL 3 1 none ([] : List Int) 0, Box pt (tF t at_ ct at_2 ct2 at_3 ct3)] ?_
 refine .sel0 [2, 1, 0] (by decide) rfl ?_
 obtain ⟨I1, μ1, q206, q207⟩ := hF
 refine .loop' (σ := Int × List Int × List Int × Option Addr × Nat × Option Addr × Nat) (fun z => I1 z.1 z.2.1 z.2.2.1) (fun z => μ1 z.1 z.2.1 z.2.2.1) (fun z => [(1, vSl al2 l cl2), (2, .pointer (some pt)), (5, vSl z.2.2.2.1 z.2.1 z.2.2.2.2.1), (6, vSl z.2.2.2.2.2.1 z.2.2.1 z.2.2.2.2.2.2), (7, iV z.1)]) (fun z => [Box pt (tF t at_ ct at_2 ct2 at_3 ct3), oL 3 1 z.2.2.2.1 z.2.1 z.2.2.2.2.1, oL 3 1 z.2.2.2.2.2.1 z.2.2.1 z.2.2.2.2.2.2]) (fun _ => h) (0, ([] : List Int), ([] : List Int), none, 0, none, 0) q206 sb rfl (FH.le_refl _) ?_
 rintro ⟨i, out, words, aout, cout, awords, cwords⟩ q206
 have hF := q207 i out words q206
 show J _ _ _ _ _ [(1, vSl al2 l cl2), (2, .pointer (some pt)), (5, vSl aout out cout), (6, vSl awords words cwords), (7, iV i)] [Box pt (tF t at_ ct at_2 ct2 at_3 ct3), oL 3 1 aout out cout, oL 3 1 awords words cwords] h
 refine .seq (.seq (.region (.V mv0 ?_)))
 refine .V mv0 ?_
 refine .V (ln rfl tS68.is) ?_
 refine .V bi0 ?_
 refine .nil (.seqN ?_)
 refine .cond rfl (fun q209 => ?_) (fun q209 => ?_)
 ·replace hF := hF.1 q209
  refine .skip (.seqN ?_)
  refine .share (σ := List Int × List Int × Option Addr × Nat × Option Addr × Nat) (fun z => F_costsRef_J1 out words i I1 μ1 z.1 z.2.1) (fun z => [(1, vSl al2 l cl2), (2, .pointer (some pt)), (5, vSl z.2.2.1 z.1 z.2.2.2.1), (6, vSl z.2.2.2.2.1 z.2.1 z.2.2.2.2.2), (7, iV i)]) (fun z => [Box pt (tF t at_ ct at_2 ct2 at_3 ct3), oL 3 1 z.2.2.1 z.1 z.2.2.2.1, oL 3 1 z.2.2.2.2.1 z.2.1 z.2.2.2.2.2]) (fun _ => h) ?_ (fun q228 => ?_)
  ·rintro ⟨out3, words3, aout3, cout3, awords3, cwords3⟩ hF
   show J _ _ _ _ _ [(1, vSl al2 l cl2), (2, .pointer (some pt)), (5, vSl aout3 out3 cout3), (6, vSl awords3 words3 cwords3), (7, iV i)] [Box pt (tF t at_ ct at_2 ct2 at_3 ct3), oL 3 1 aout3 out3 cout3, oL 3 1 awords3 words3 cwords3] h
   refine .region (.V mv0 ?_)
   refine .V bi0 ?_
   refine .V ag0 ?_
   refine .nil ?_
   exact .RO (wr (i + 1), out3, words3, aout3, cout3, awords3, cwords3) hF.1 hF.2
  refine .block (.seq (.region (.V mv0 ?_)))
  refine .V mv0 ?_
  refine .V mv0 ?_
  obtain ⟨q229, hF⟩ := hF
  refine .V (ix rfl rfl tS68 (_q7.ne (by decide) (inb_pos q229)) q229) ?_
  obtain ⟨_, ⟨a, c, rfl, q230, q231⟩, q232⟩ := _q7.elem q229
  refine .V (ld1 (v := .slice a ((gt l i).length) c) rfl tO22 (cellH (q232 (by decide) 0 _ rfl))) ?_
  obtain ⟨q233, hF⟩ := hF
  obtain ⟨r2, q234⟩ : ∃ y_ : Int, y_ = sp_wordR (gt l i) := ⟨_, rfl⟩
  replace hF := hF r2 q234
  refine .C (cl (v := iV r2) Tryz.call68 rfl rfl (fun w S => (by rw [q234]; exact c_wordR S.sub (gt l i) a c q231 q230 q233))) ?_
  refine bs2 (cs := #[iV r2]) (pv := [(0, iV r2)]) tS22 rfl rfl (by decide) (by decide) rfl rfl rfl (fun a2 _ => ?_)
  refine .KA [oL 3 1 a2 ([r2] : List Int) 1, Box pt (tF t at_ ct at_2 ct2 at_3 ct3), oL 3 1 aout out cout, oL 3 1 awords words cwords] ?_
  obtain ⟨q236, hF⟩ := hF
  have q237 : words.length + ([r2] : List Int).length = ((words ++ ([r2] : List Int))).length := len_app rfl rfl
  refine app (k := 3) (news := flL ([r2] : List Int)) (cs' := flL (words ++ ([r2] : List Int))) (nm := ((words ++ ([r2] : List Int))).length) tS22 rfl (by decide) rfl rfl rfl ((flL_len _).trans rfl) (srcS (k := 0) rfl) (flL_one _) (room_of q237 q236).1 (room_of q237 q236).2 q237 (flL_append _ _).symm rfl (fun a3 c2 => ?_)
  refine .KA [oL 3 1 a2 ([r2] : List Int) 1, Box pt (tF t at_ ct at_2 ct2 at_3 ct3), oL 3 1 aout out cout, oL 3 1 a3 (words ++ ([r2] : List Int)) c2] ?_
  refine .V ag0 ?_
  refine .nil (.seqN (.seq ?_))
  refine .open_ (by kernel_rfl) (by kernel_rfl) ?_
  refine .V (fa rfl tF25_2) ?_
  refine .V (ld1 rfl tO22 (cellB (off := 2) (k := 1) rfl rfl)) ?_
  refine .V mv0 ?_
  refine .V mv0 ?_
  refine .V (ix rfl rfl tS68 (_q7.ne (by decide) (inb_pos q229)) q229) ?_
  refine .V (ld1 (v := .slice a ((gt l i).length) c) rfl tO22 (cellH (q232 (by decide) 0 _ rfl))) ?_
  obtain ⟨q238, hF⟩ := hF
  obtain ⟨r3, q239⟩ : ∃ y_ : Bool, y_ = sp_subset t.goal (gt l i) := ⟨_, rfl⟩
  replace hF := hF r3 q239
  refine .C (cl (v := .bool r3) Tryz.call72 rfl rfl (fun w S => (by rw [q239]; exact c_subset S.sub t.goal at_2 ct2 _q3 _q4 (gt l i) a c q231 q230 q238))) ?_
  refine .fin ?_
  refine .seqN ?_
  refine .cond rfl (fun q240 => ?_) (fun q240 => ?_)
  ·replace hF := hF.1 q240
   refine .region (.V mv0 ?_)
   refine bs2 (cs := #[iV 0]) (pv := [(0, iV 0)]) tS22 rfl rfl (by decide) (by decide) rfl rfl rfl (fun a4 _ => ?_)
   refine .KA [oL 3 1 a4 ([0] : List Int) 1, oL 3 1 a2 ([r2] : List Int) 1, Box pt (tF t at_ ct at_2 ct2 at_3 ct3), oL 3 1 aout out cout, oL 3 1 a3 (words ++ ([r2] : List Int)) c2] ?_
   obtain ⟨q242, hF⟩ := hF
   have q243 : out.length + ([0] : List Int).length = ((out ++ ([0] : List Int))).length := len_app rfl rfl
   refine app (k := 3) (news := flL ([0] : List Int)) (cs' := flL (out ++ ([0] : List Int))) (nm := ((out ++ ([0] : List Int))).length) tS22 rfl (by decide) rfl rfl rfl ((flL_len _).trans rfl) (srcS (k := 0) rfl) (flL_one _) (room_of q243 q242).1 (room_of q243 q242).2 q243 (flL_append _ _).symm rfl (fun a5 c3 => ?_)
   refine .KA [oL 3 1 a4 ([0] : List Int) 1, oL 3 1 a2 ([r2] : List Int) 1, Box pt (tF t at_ ct at_2 ct2 at_3 ct3), oL 3 1 a5 (out ++ ([0] : List Int)) c3, oL 3 1 a3 (words ++ ([r2] : List Int)) c2] ?_
   refine .V ag0 ?_
   refine .nil (.blkN ?_)
   refine .sel0 [2, 3, 4] (by decide) rfl ?_
   exact .US q228 ((out ++ ([0] : List Int)), (words ++ ([r2] : List Int)), a5, c3, a3, c2) hF
  replace hF := hF.2 q240
  refine .region (.V mv0 ?_)
  refine bs2 (cs := #[iV 1000000000]) (pv := [(0, iV 1000000000)]) tS22 rfl rfl (by decide) (by decide) rfl rfl rfl (fun a6 _ => ?_)
  refine .KA [oL 3 1 a6 ([1000000000] : List Int) 1, oL 3 1 a2 ([r2] : List Int) 1, Box pt (tF t at_ ct at_2 ct2 at_3 ct3), oL 3 1 aout out cout, oL 3 1 a3 (words ++ ([r2] : List Int)) c2] ?_
  obtain ⟨q245, hF⟩ := hF
  have q246 : out.length + ([1000000000] : List Int).length = ((out ++ ([1000000000] : List Int))).length := len_app rfl rfl
  refine app (k := 3) (news := flL ([1000000000] : List Int)) (cs' := flL (out ++ ([1000000000] : List Int))) (nm := ((out ++ ([1000000000] : List Int))).length) tS22 rfl (by decide) rfl rfl rfl ((flL_len _).trans rfl) (srcS (k := 0) rfl) (flL_one _) (room_of q246 q245).1 (room_of q246 q245).2 q246 (flL_append _ _).symm rfl (fun a7 c4 => ?_)
  refine .KA [oL 3 1 a6 ([1000000000] : List Int) 1, oL 3 1 a2 ([r2] : List Int) 1, Box pt (tF t at_ ct at_2 ct2 at_3 ct3), oL 3 1 a7 (out ++ ([1000000000] : List Int)) c4, oL 3 1 a3 (words ++ ([r2] : List Int)) c2] ?_
  refine .V ag0 ?_
  refine .nil (.blkN ?_)
  refine .sel0 [2, 3, 4] (by decide) rfl ?_
  exact .US q228 ((out ++ ([1000000000] : List Int)), (words ++ ([r2] : List Int)), a7, c4, a3, c2) hF
 replace hF := hF.2 q209
 refine .exit (.seqX (.seqX (.blkX (.seqN (.seq (.region (.V ag0 ?_)))))))
 refine .V ag0 ?_
 refine .V ag0 ?_
 refine .nil (.seqN (.seq (.seq (.region (.V ag0 ?_)))))
 refine .nil (.seqN (.block ?_))
 refine .nilSl 3 1 ?_
 refine .KA [oL 3 1 none ([] : List Int) 0, Box pt (tF t at_ ct at_2 ct2 at_3 ct3), oL 3 1 aout out cout, oL 3 1 awords words cwords] ?_
 refine .nilSl 3 1 ?_
 refine .KA [oL 3 1 none ([] : List Int) 0, oL 3 1 none ([] : List Int) 0, Box pt (tF t at_ ct at_2 ct2 at_3 ct3), oL 3 1 aout out cout, oL 3 1 awords words cwords] ?_
 refine .nilSl 3 1 ?_
 refine .KA [oL 3 1 none ([] : List Int) 0, oL 3 1 none ([] : List Int) 0, oL 3 1 none ([] : List Int) 0, Box pt (tF t at_ ct at_2 ct2 at_3 ct3), oL 3 1 aout out cout, oL 3 1 awords words cwords] ?_
 refine .sel0 [3, 4, 5, 2, 1, 0] (by decide) rfl ?_
 obtain ⟨I2, μ2, q13312, q13313⟩ := hF
 refine .loop' (σ := Int × List Int × List Int × List Int × Option Addr × Nat × Option Addr × Nat × Option Addr × Nat) (fun z => I2 z.1 z.2.1 z.2.2.1 z.2.2.2.1) (fun z => μ2 z.1 z.2.1 z.2.2.1 z.2.2.2.1) (fun z => [(1, vSl al2 l cl2), (2, .pointer (some pt)), (5, vSl aout out cout), (6, vSl awords words cwords), (8, vSl z.2.2.2.2.1 z.2.1 z.2.2.2.2.2.1), (9, vSl z.2.2.2.2.2.2.1 z.2.2.1 z.2.2.2.2.2.2.2.1), (10, vSl z.2.2.2.2.2.2.2.2.1 z.2.2.2.1 z.2.2.2.2.2.2.2.2.2), (11, iV z.1)]) (fun z => [Box pt (tF t at_ ct at_2 ct2 at_3 ct3), oL 3 1 aout out cout, oL 3 1 awords words cwords, oL 3 1 z.2.2.2.2.1 z.2.1 z.2.2.2.2.2.1, oL 3 1 z.2.2.2.2.2.2.1 z.2.2.1 z.2.2.2.2.2.2.2.1, oL 3 1 z.2.2.2.2.2.2.2.2.1 z.2.2.2.1 z.2.2.2.2.2.2.2.2.2]) (fun _ => h) (0, ([] : List Int), ([] : List Int), ([] : List Int), none, 0, none, 0, none, 0) q13312 sb rfl (FH.le_refl _) ?_
 rintro ⟨i3, from_, to, cost, afrom, cfrom, ato, cto, acost, ccost⟩ q13312
 have hF := q13313 i3 from_ to cost q13312
 show J _ _ _ _ _ [(1, vSl al2 l cl2), (2, .pointer (some pt)), (5, vSl aout out cout), (6, vSl awords words cwords), (8, vSl afrom from_ cfrom), (9, vSl ato to cto), (10, vSl acost cost ccost), (11, iV i3)] [Box pt (tF t at_ ct at_2 ct2 at_3 ct3), oL 3 1 aout out cout, oL 3 1 awords words cwords, oL 3 1 afrom from_ cfrom, oL 3 1 ato to cto, oL 3 1 acost cost ccost] h
 refine .seq (.seq (.region (.V mv0 ?_)))
 refine .V mv0 ?_
 refine .V (ln rfl tS68.is) ?_
 refine .V bi0 ?_
 refine .nil (.seqN ?_)
 refine .cond rfl (fun q13315 => ?_) (fun q13315 => ?_)
 ·replace hF := hF.1 q13315
  refine .skip (.seqN (.seq (.block (.seq (.region (.V ag0 ?_))))))
  refine .nil (.seqN (.block ?_))
  obtain ⟨I3, μ3, q15552, q15553⟩ := hF
  refine .loop' (σ := Int × List Int × List Int × List Int × Option Addr × Nat × Option Addr × Nat × Option Addr × Nat) (fun z => I3 z.1 z.2.1 z.2.2.1 z.2.2.2.1) (fun z => μ3 z.1 z.2.1 z.2.2.1 z.2.2.2.1) (fun z => [(1, vSl al2 l cl2), (2, .pointer (some pt)), (5, vSl aout out cout), (6, vSl awords words cwords), (8, vSl z.2.2.2.2.1 z.2.1 z.2.2.2.2.2.1), (9, vSl z.2.2.2.2.2.2.1 z.2.2.1 z.2.2.2.2.2.2.2.1), (10, vSl z.2.2.2.2.2.2.2.2.1 z.2.2.2.1 z.2.2.2.2.2.2.2.2.2), (11, iV i3), (12, iV z.1)]) (fun z => [Box pt (tF t at_ ct at_2 ct2 at_3 ct3), oL 3 1 aout out cout, oL 3 1 awords words cwords, oL 3 1 z.2.2.2.2.1 z.2.1 z.2.2.2.2.2.1, oL 3 1 z.2.2.2.2.2.2.1 z.2.2.1 z.2.2.2.2.2.2.2.1, oL 3 1 z.2.2.2.2.2.2.2.2.1 z.2.2.2.1 z.2.2.2.2.2.2.2.2.2]) (fun _ => h) (0, from_, to, cost, afrom, cfrom, ato, cto, acost, ccost) q15552 sb rfl (FH.le_refl _) ?_
  rintro ⟨op, from_3, to3, cost3, afrom3, cfrom3, ato3, cto3, acost3, ccost3⟩ q15552
  have hF := q15553 op from_3 to3 cost3 q15552
  show J _ _ _ _ _ [(1, vSl al2 l cl2), (2, .pointer (some pt)), (5, vSl aout out cout), (6, vSl awords words cwords), (8, vSl afrom3 from_3 cfrom3), (9, vSl ato3 to3 cto3), (10, vSl acost3 cost3 ccost3), (11, iV i3), (12, iV op)] [Box pt (tF t at_ ct at_2 ct2 at_3 ct3), oL 3 1 aout out cout, oL 3 1 awords words cwords, oL 3 1 afrom3 from_3 cfrom3, oL 3 1 ato3 to3 cto3, oL 3 1 acost3 cost3 ccost3] h
  refine .seq (.seq (.region (.V mv0 ?_)))
  refine .V (fa rfl tF25_3) ?_
  refine .V (ld1 rfl tO23 (cellB (off := 3) (k := 0) rfl rfl)) ?_
  refine .V (ln rfl tS23.is) ?_
  refine .V bi0 ?_
  refine .nil (.seqN ?_)
  refine .cond rfl (fun q15555 => ?_) (fun q15555 => ?_)
  ·replace hF := hF.1 q15555
   refine .skip (.seqN ?_)
   refine .share (σ := List Int × List Int × List Int × Option Addr × Nat × Option Addr × Nat × Option Addr × Nat) (fun z => F_costsRef_J2 from_3 to3 cost3 op z.1 z.2.1 z.2.2.1 I3 μ3) (fun z => [(1, vSl al2 l cl2), (2, .pointer (some pt)), (5, vSl aout out cout), (6, vSl awords words cwords), (8, vSl z.2.2.2.1 z.1 z.2.2.2.2.1), (9, vSl z.2.2.2.2.2.1 z.2.1 z.2.2.2.2.2.2.1), (10, vSl z.2.2.2.2.2.2.2.1 z.2.2.1 z.2.2.2.2.2.2.2.2), (11, iV i3), (12, iV op)]) (fun z => [Box pt (tF t at_ ct at_2 ct2 at_3 ct3), oL 3 1 aout out cout, oL 3 1 awords words cwords, oL 3 1 z.2.2.2.1 z.1 z.2.2.2.2.1, oL 3 1 z.2.2.2.2.2.1 z.2.1 z.2.2.2.2.2.2.1, oL 3 1 z.2.2.2.2.2.2.2.1 z.2.2.1 z.2.2.2.2.2.2.2.2]) (fun _ => h) ?_ (fun q15694 => ?_)
   ·rintro ⟨from_5, to5, cost5, afrom5, cfrom5, ato5, cto5, acost5, ccost5⟩ hF
    show J _ _ _ _ _ [(1, vSl al2 l cl2), (2, .pointer (some pt)), (5, vSl aout out cout), (6, vSl awords words cwords), (8, vSl afrom5 from_5 cfrom5), (9, vSl ato5 to5 cto5), (10, vSl acost5 cost5 ccost5), (11, iV i3), (12, iV op)] [Box pt (tF t at_ ct at_2 ct2 at_3 ct3), oL 3 1 aout out cout, oL 3 1 awords words cwords, oL 3 1 afrom5 from_5 cfrom5, oL 3 1 ato5 to5 cto5, oL 3 1 acost5 cost5 ccost5] h
    refine .region (.V mv0 ?_)
    refine .V bi0 ?_
    refine .V ag0 ?_
    refine .nil ?_
    exact .RO (wr (op + 1), from_5, to5, cost5, afrom5, cfrom5, ato5, cto5, acost5, ccost5) hF.1 hF.2
   refine .block (.seq ?_)
   refine .open_ (by kernel_rfl) (by kernel_rfl) ?_
   refine .V (ldA (cs := (tF t at_ ct at_2 ct2 at_3 ct3)) rfl tA25 rfl (cellsB (off := 0) (k := 0) rfl (m := 4) rfl)) ?_
   refine .V mv0 ?_
   refine .V mv0 ?_
   obtain ⟨q15695, hF⟩ := hF
   refine .V (ix rfl rfl tS68 (_q7.ne (by decide) (inb_pos q15695)) q15695) ?_
   obtain ⟨_, ⟨a8, c5, rfl, q15696, q15697⟩, q15698⟩ := _q7.elem q15695
   refine .V (ld1 (v := .slice a8 ((gt l i3).length) c5) rfl tO22 (cellH (q15698 (by decide) 0 _ rfl))) ?_
   refine .V mv0 ?_
   obtain ⟨q15699, hF⟩ := hF
   obtain ⟨r4, q15700⟩ : ∃ y_ : Bool, y_ = sp_applies t (gt l i3) op := ⟨_, rfl⟩
   replace hF := hF r4 q15700
   refine .C (cl (v := .bool r4) Tryz.call69 rfl rfl (fun w S => (by rw [q15700]; exact c_applies S.sub t at_ ct _q1 _q2 at_2 ct2 _q3 _q4 at_3 ct3 _q5 _q6 (gt l i3) a8 c5 q15697 q15696 op q15699))) ?_
   refine .fin ?_
   refine .seqN ?_
   refine .cond rfl (fun q15701 => ?_) (fun q15701 => ?_)
   ·replace hF := hF.1 q15701
    refine .seq ?_
    refine .openA (s0 := [(1, vSl al2 l cl2), (2, .pointer (some pt)), (5, vSl aout out cout), (6, vSl awords words cwords), (8, vSl afrom3 from_3 cfrom3), (9, vSl ato3 to3 cto3), (10, vSl acost3 cost3 ccost3), (11, iV i3), (12, iV op)]) [0, 1, 2, 3, 4, 5] [(0, .agg (tF t at_ ct at_2 ct2 at_3 ct3).toArray), (1, vSl al2 l cl2), (2, iV i3), (3, .pointer (some (ead al2 (i3.toNat * 1)))), (4, .slice a8 ((gt l i3).length) c5), (5, iV op)] (by kernel_rfl) sb [1, 2, 5, 6, 8, 9, 10, 11, 12] [] rfl (by kernel_rfl) ?_
    refine .step [6] 6 rfl (by kernel_rfl) (by kernel_rfl) (.v [] rfl rfl rfl rfl rfl rfl (fun _ => ldA (cs := (tF t at_ ct at_2 ct2 at_3 ct3)) rfl tA25 rfl (cellsB (off := 0) (k := 0) rfl (m := 4) rfl)) (.v [] rfl rfl rfl rfl rfl rfl (fun _ => mv rfl) (.v [] rfl rfl rfl rfl rfl rfl (fun _ => mv rfl) (.v [(65, vSl al2 l cl2), (66, iV i3)] rfl rfl rfl rfl rfl rfl (fun _ => ix rfl rfl tS68 (_q7.ne (by decide) (inb_pos q15695)) q15695) (.v [(67, .pointer (some (ead al2 (i3.toNat * 1))))] rfl rfl rfl rfl rfl rfl (fun _ => ld1 (v := .slice a8 ((gt l i3).length) c5) rfl tO22 (cellH (q15698 (by decide) 0 _ rfl))) (.v [] rfl rfl rfl rfl rfl rfl (fun _ => mv rfl) (.nil))))))) (.cons [(64, .agg (tF t at_ ct at_2 ct2 at_3 ct3).toArray), (68, .slice a8 ((gt l i3).length) c5), (69, iV op)] rfl rfl (fun sL hL => ?_) (.nil))
    obtain ⟨q15702, hF⟩ := hF
    obtain ⟨r5, q15703⟩ : ∃ y_ : List Int, y_ = sp_after t (gt l i3) op := ⟨_, rfl⟩
    replace hF := hF r5 q15703
    refine clR (α := Option Addr × Nat) (Φ := fun h1 z => RSl h1 z.1 r5 ∧ r5.length ≤ z.2) (V := fun z => vSl z.1 r5 z.2) Tryz.call70 rfl rfl (fun w S => (by rw [q15703]; exact c_after S.sub t at_ ct _q1 _q2 at_2 ct2 _q3 _q4 at_3 ct3 _q5 _q6 (gt l i3) a8 c5 q15697 q15696 op q15702)) rfl (fun z h108 le108 hz => ?_)
    obtain ⟨a9, c6⟩ := z
    obtain ⟨q15704, q15705⟩ := hz
    refine .nil ?_
    obtain ⟨q15706, hF⟩ := hF
    obtain ⟨r6, q15707⟩ : ∃ y_ : Int, y_ = sp_wordR r5 := ⟨_, rfl⟩
    replace hF := hF r6 q15707
    refine .ja (M := [0, 4, 5, 3, 1, 2]) (C' := [7, 8]) (pre := [(6, vSl a9 r5 c6), (7, iV r6), (8, iV r6)]) [(1, vSl al2 l cl2), (2, .pointer (some pt)), (5, vSl aout out cout), (6, vSl awords words cwords), (8, vSl afrom3 from_3 cfrom3), (9, vSl ato3 to3 cto3), (10, vSl acost3 cost3 ccost3), (11, iV i3), (12, iV op)] [1, 2, 5, 6, 8, 9, 10, 11, 12] hL rfl rfl rfl rfl rfl sb rfl rfl (by kernel_rfl) ?_
    refine .last [(64, .agg (tF t at_ ct at_2 ct2 at_3 ct3).toArray), (65, vSl al2 l cl2), (66, iV i3), (67, .pointer (some (ead al2 (i3.toNat * 1)))), (68, .slice a8 ((gt l i3).length) c5), (69, iV op), (70, vSl a9 r5 c6), (71, iV r6), (13, iV r6)] rfl (by kernel_rfl) (.c [(70, vSl a9 r5 c6), (70, vSl a9 r5 c6)] rfl rfl rfl rfl rfl rfl (fun _ => cl (v := iV r6) Tryz.call68 rfl rfl (fun w S => (by rw [q15707]; exact c_wordR S.sub r5 a9 c6 q15704 q15705 q15706))) (.v [(71, iV r6), (71, iV r6), (64, .agg (tF t at_ ct at_2 ct2 at_3 ct3).toArray), (65, vSl al2 l cl2), (66, iV i3), (67, .pointer (some (ead al2 (i3.toNat * 1)))), (68, .slice a8 ((gt l i3).length) c5), (69, iV op), (70, vSl a9 r5 c6), (71, iV r6)] rfl rfl rfl rfl rfl rfl (fun _ => asg rfl) (.nil))) rfl ?_
    refine .seqN (.seq (.region (.V ag0 ?_)))
    refine .nil (.seqN (.block ?_))
    obtain ⟨I4, μ4, q15790, q15791⟩ := hF
    refine .loop' (σ := Int × List Int × List Int × List Int × Option Addr × Nat × Option Addr × Nat × Option Addr × Nat) (fun z => I4 z.1 z.2.1 z.2.2.1 z.2.2.2.1) (fun z => μ4 z.1 z.2.1 z.2.2.1 z.2.2.2.1) (fun z => [(1, vSl al2 l cl2), (2, .pointer (some pt)), (5, vSl aout out cout), (6, vSl awords words cwords), (8, vSl z.2.2.2.2.1 z.2.1 z.2.2.2.2.2.1), (9, vSl z.2.2.2.2.2.2.1 z.2.2.1 z.2.2.2.2.2.2.2.1), (10, vSl z.2.2.2.2.2.2.2.2.1 z.2.2.2.1 z.2.2.2.2.2.2.2.2.2), (11, iV i3), (12, iV op), (13, iV r6), (14, iV z.1)]) (fun z => [Box pt (tF t at_ ct at_2 ct2 at_3 ct3), oL 3 1 aout out cout, oL 3 1 awords words cwords, oL 3 1 z.2.2.2.2.1 z.2.1 z.2.2.2.2.2.1, oL 3 1 z.2.2.2.2.2.2.1 z.2.2.1 z.2.2.2.2.2.2.2.1, oL 3 1 z.2.2.2.2.2.2.2.2.1 z.2.2.2.1 z.2.2.2.2.2.2.2.2.2]) (fun _ => h108) (0, from_3, to3, cost3, afrom3, cfrom3, ato3, cto3, acost3, ccost3) q15790 sb rfl (FH.le_refl _) ?_
    rintro ⟨k, from_6, to6, cost6, afrom6, cfrom6, ato6, cto6, acost6, ccost6⟩ q15790
    have hF := q15791 k from_6 to6 cost6 q15790
    show J _ _ _ _ _ [(1, vSl al2 l cl2), (2, .pointer (some pt)), (5, vSl aout out cout), (6, vSl awords words cwords), (8, vSl afrom6 from_6 cfrom6), (9, vSl ato6 to6 cto6), (10, vSl acost6 cost6 ccost6), (11, iV i3), (12, iV op), (13, iV r6), (14, iV k)] [Box pt (tF t at_ ct at_2 ct2 at_3 ct3), oL 3 1 aout out cout, oL 3 1 awords words cwords, oL 3 1 afrom6 from_6 cfrom6, oL 3 1 ato6 to6 cto6, oL 3 1 acost6 cost6 ccost6] h108
    refine .seq (.seq (.region (.V mv0 ?_)))
    refine .V mv0 ?_
    refine .V (ln rfl tS22.is) ?_
    refine .V bi0 ?_
    refine .nil (.seqN ?_)
    refine .cond rfl (fun q15793 => ?_) (fun q15793 => ?_)
    ·replace hF := hF.1 q15793
     refine .skip (.seqN ?_)
     refine .share (σ := List Int × List Int × List Int × Option Addr × Nat × Option Addr × Nat × Option Addr × Nat) (fun z => F_costsRef_J3 k I4 μ4 from_6 to6 cost6 z.1 z.2.1 z.2.2.1) (fun z => [(1, vSl al2 l cl2), (2, .pointer (some pt)), (5, vSl aout out cout), (6, vSl awords words cwords), (8, vSl z.2.2.2.1 z.1 z.2.2.2.2.1), (9, vSl z.2.2.2.2.2.1 z.2.1 z.2.2.2.2.2.2.1), (10, vSl z.2.2.2.2.2.2.2.1 z.2.2.1 z.2.2.2.2.2.2.2.2), (11, iV i3), (12, iV op), (13, iV r6), (14, iV k)]) (fun z => [Box pt (tF t at_ ct at_2 ct2 at_3 ct3), oL 3 1 aout out cout, oL 3 1 awords words cwords, oL 3 1 z.2.2.2.1 z.1 z.2.2.2.2.1, oL 3 1 z.2.2.2.2.2.1 z.2.1 z.2.2.2.2.2.2.1, oL 3 1 z.2.2.2.2.2.2.2.1 z.2.2.1 z.2.2.2.2.2.2.2.2]) (fun _ => h108) ?_ (fun q15813 => ?_)
     ·rintro ⟨from_8, to8, cost8, afrom8, cfrom8, ato8, cto8, acost8, ccost8⟩ hF
      show J _ _ _ _ _ [(1, vSl al2 l cl2), (2, .pointer (some pt)), (5, vSl aout out cout), (6, vSl awords words cwords), (8, vSl afrom8 from_8 cfrom8), (9, vSl ato8 to8 cto8), (10, vSl acost8 cost8 ccost8), (11, iV i3), (12, iV op), (13, iV r6), (14, iV k)] [Box pt (tF t at_ ct at_2 ct2 at_3 ct3), oL 3 1 aout out cout, oL 3 1 awords words cwords, oL 3 1 afrom8 from_8 cfrom8, oL 3 1 ato8 to8 cto8, oL 3 1 acost8 cost8 ccost8] h108
      refine .region (.V mv0 ?_)
      refine .V bi0 ?_
      refine .V ag0 ?_
      refine .nil ?_
      exact .RO (wr (k + 1), from_8, to8, cost8, afrom8, cfrom8, ato8, cto8, acost8, ccost8) hF.1 hF.2
     refine .block (.seq (.region (.V mv0 ?_)))
     refine .V mv0 ?_
     obtain ⟨q15814, hF⟩ := hF
     refine .V (ixS rfl rfl tS22 (k := 2) rfl q15814) ?_
     refine .V (ld1 (v := iV (gt words k)) rfl tO3 (cellS (k := 2) rfl (flL_get q15814 (j := 0) rfl))) ?_
     refine .V mv0 ?_
     refine .V bi0 ?_
     refine .nil (.seqN ?_)
     refine .cond rfl (fun q15815 => ?_) (fun q15815 => ?_)
     ·replace hF := hF.1 q15815
      refine .seq (.region (.V mv0 ?_))
      refine .V mv0 ?_
      refine bs2 (cs := #[iV i3]) (pv := [(0, iV i3)]) tS22 rfl rfl (by decide) (by decide) rfl rfl rfl (fun a10 _ => ?_)
      refine .KA [oL 3 1 a10 ([i3] : List Int) 1, Box pt (tF t at_ ct at_2 ct2 at_3 ct3), oL 3 1 aout out cout, oL 3 1 awords words cwords, oL 3 1 afrom6 from_6 cfrom6, oL 3 1 ato6 to6 cto6, oL 3 1 acost6 cost6 ccost6] ?_
      obtain ⟨q15817, hF⟩ := hF
      have q15818 : from_6.length + ([i3] : List Int).length = ((from_6 ++ ([i3] : List Int))).length := len_app rfl rfl
      refine app (k := 4) (news := flL ([i3] : List Int)) (cs' := flL (from_6 ++ ([i3] : List Int))) (nm := ((from_6 ++ ([i3] : List Int))).length) tS22 rfl (by decide) rfl rfl rfl ((flL_len _).trans rfl) (srcS (k := 0) rfl) (flL_one _) (room_of q15818 q15817).1 (room_of q15818 q15817).2 q15818 (flL_append _ _).symm rfl (fun a11 c7 => ?_)
      refine .KA [oL 3 1 a10 ([i3] : List Int) 1, Box pt (tF t at_ ct at_2 ct2 at_3 ct3), oL 3 1 aout out cout, oL 3 1 awords words cwords, oL 3 1 a11 (from_6 ++ ([i3] : List Int)) c7, oL 3 1 ato6 to6 cto6, oL 3 1 acost6 cost6 ccost6] ?_
      refine .V ag0 ?_
      refine .nil (.seqN (.seq (.region (.V mv0 ?_))))
      refine .V mv0 ?_
      refine bs2 (cs := #[iV k]) (pv := [(0, iV k)]) tS22 rfl rfl (by decide) (by decide) rfl rfl rfl (fun a12 _ => ?_)
      refine .KA [oL 3 1 a12 ([k] : List Int) 1, oL 3 1 a10 ([i3] : List Int) 1, Box pt (tF t at_ ct at_2 ct2 at_3 ct3), oL 3 1 aout out cout, oL 3 1 awords words cwords, oL 3 1 a11 (from_6 ++ ([i3] : List Int)) c7, oL 3 1 ato6 to6 cto6, oL 3 1 acost6 cost6 ccost6] ?_
      obtain ⟨q15820, hF⟩ := hF
      have q15821 : to6.length + ([k] : List Int).length = ((to6 ++ ([k] : List Int))).length := len_app rfl rfl
      refine app (k := 6) (news := flL ([k] : List Int)) (cs' := flL (to6 ++ ([k] : List Int))) (nm := ((to6 ++ ([k] : List Int))).length) tS22 rfl (by decide) rfl rfl rfl ((flL_len _).trans rfl) (srcS (k := 0) rfl) (flL_one _) (room_of q15821 q15820).1 (room_of q15821 q15820).2 q15821 (flL_append _ _).symm rfl (fun a13 c8 => ?_)
      refine .KA [oL 3 1 a12 ([k] : List Int) 1, oL 3 1 a10 ([i3] : List Int) 1, Box pt (tF t at_ ct at_2 ct2 at_3 ct3), oL 3 1 aout out cout, oL 3 1 awords words cwords, oL 3 1 a11 (from_6 ++ ([i3] : List Int)) c7, oL 3 1 a13 (to6 ++ ([k] : List Int)) c8, oL 3 1 acost6 cost6 ccost6] ?_
      refine .V ag0 ?_
      refine .nil (.seqN (.region (.V mv0 ?_)))
      refine .V (fa rfl tF25_3) ?_
      refine .V (ld1 rfl tO23 (cellB (off := 3) (k := 2) rfl rfl)) ?_
      refine .V mv0 ?_
      obtain ⟨q15822, hF⟩ := hF
      refine .V (ix rfl rfl tS23 (_q5.ne (by decide) (inb_pos q15822)) q15822) ?_
      refine .V (fa rfl tF52_3) ?_
      obtain ⟨_, ⟨a14, c9, a15, c10, a16, c11, rfl, ⟨q15823, q15824⟩, ⟨q15825, q15826⟩, q15827, q15828⟩, q15829⟩ := _q5.elem q15822
      refine .V (ld1 (v := iV ((gt t.ops op).cost)) rfl tO3 (cellH ((fun q => (q15829 q).mono (le108)) (by decide) 3 _ rfl))) ?_
      refine bs2 (cs := #[iV ((gt t.ops op).cost)]) (pv := [(0, iV ((gt t.ops op).cost))]) tS22 rfl rfl (by decide) (by decide) rfl rfl rfl (fun a17 _ => ?_)
      refine .KA [oL 3 1 a17 ([(gt t.ops op).cost] : List Int) 1, oL 3 1 a12 ([k] : List Int) 1, oL 3 1 a10 ([i3] : List Int) 1, Box pt (tF t at_ ct at_2 ct2 at_3 ct3), oL 3 1 aout out cout, oL 3 1 awords words cwords, oL 3 1 a11 (from_6 ++ ([i3] : List Int)) c7, oL 3 1 a13 (to6 ++ ([k] : List Int)) c8, oL 3 1 acost6 cost6 ccost6] ?_
      obtain ⟨q15831, hF⟩ := hF
      have q15832 : cost6.length + ([(gt t.ops op).cost] : List Int).length = ((cost6 ++ ([(gt t.ops op).cost] : List Int))).length := len_app rfl rfl
      refine app (k := 8) (news := flL ([(gt t.ops op).cost] : List Int)) (cs' := flL (cost6 ++ ([(gt t.ops op).cost] : List Int))) (nm := ((cost6 ++ ([(gt t.ops op).cost] : List Int))).length) tS22 rfl (by decide) rfl rfl rfl ((flL_len _).trans rfl) (srcS (k := 0) rfl) (flL_one _) (room_of q15832 q15831).1 (room_of q15832 q15831).2 q15832 (flL_append _ _).symm rfl (fun a18 c12 => ?_)
      refine .KA [oL 3 1 a17 ([(gt t.ops op).cost] : List Int) 1, oL 3 1 a12 ([k] : List Int) 1, oL 3 1 a10 ([i3] : List Int) 1, Box pt (tF t at_ ct at_2 ct2 at_3 ct3), oL 3 1 aout out cout, oL 3 1 awords words cwords, oL 3 1 a11 (from_6 ++ ([i3] : List Int)) c7, oL 3 1 a13 (to6 ++ ([k] : List Int)) c8, oL 3 1 a18 (cost6 ++ ([(gt t.ops op).cost] : List Int)) c12] ?_
      refine .V ag0 ?_
      refine .nil (.blkN ?_)
      refine .sel0 [3, 4, 5, 6, 7, 8] (by decide) rfl ?_
      exact .US q15813 ((from_6 ++ ([i3] : List Int)), (to6 ++ ([k] : List Int)), (cost6 ++ ([(gt t.ops op).cost] : List Int)), a11, c7, a13, c8, a18, c12) hF
     replace hF := hF.2 q15815
     refine .skip (.blkN ?_)
     exact .US q15813 (from_6, to6, cost6, afrom6, cfrom6, ato6, cto6, acost6, ccost6) hF
    replace hF := hF.2 q15793
    refine .exit (.seqX (.seqX (.blkX (.blkN ?_))))
    exact .use q15694 (from_6, to6, cost6, afrom6, cfrom6, ato6, cto6, acost6, ccost6) hF sb rfl (le108)
   replace hF := hF.2 q15701
   refine .skip (.blkN ?_)
   exact .US q15694 (from_3, to3, cost3, afrom3, cfrom3, ato3, cto3, acost3, ccost3) hF
  replace hF := hF.2 q15555
  refine .exit (.seqX (.seqX (.blkX (.blkN (.seqN (.region (.V mv0 ?_)))))))
  refine .V bi0 ?_
  refine .V ag0 ?_
  refine .nil ?_
  exact .RO (wr (i3 + 1), from_3, to3, cost3, afrom3, cfrom3, ato3, cto3, acost3, ccost3) hF.1 hF.2
 replace hF := hF.2 q13315
 refine .exit (.seqX (.seqX (.blkX (.seqN (.seq (.seq (.region (.V ag0 ?_))))))))
 refine .nil (.seqN (.block ?_))
 refine .sel0 [1, 3, 4, 5] (by decide) rfl ?_
 obtain ⟨I5, μ5, q16639, q16640⟩ := hF
 refine .loop' (σ := Bool × List Int) (fun z => I5 z.1 z.2 ∧ z.2.length = out.length) (fun z => μ5 z.1 z.2) (fun z => [(5, vSl aout out cout), (8, vSl afrom from_ cfrom), (9, vSl ato to cto), (10, vSl acost cost ccost), (15, .bool z.1)]) (fun z => [OwnSl 3 1 aout out.length cout (flL z.2), oL 3 1 afrom from_ cfrom, oL 3 1 ato to cto, oL 3 1 acost cost ccost]) (fun _ => h) (true, out) ⟨q16639, rfl⟩ sb rfl (FH.le_refl _) ?_
 rintro ⟨again, out4⟩ ⟨q16639, q16477⟩
 have hF := q16640 again out4 q16639
 show J _ _ _ _ _ [(5, vSl aout out cout), (8, vSl afrom from_ cfrom), (9, vSl ato to cto), (10, vSl acost cost ccost), (15, .bool again)] [OwnSl 3 1 aout out.length cout (flL out4), oL 3 1 afrom from_ cfrom, oL 3 1 ato to cto, oL 3 1 acost cost ccost] h
 refine .seq (.seq (.region (.V mv0 ?_)))
 refine .nil (.seqN ?_)
 refine .cond rfl (fun q16642 => ?_) (fun q16642 => ?_)
 ·replace hF := hF.1 q16642
  refine .skip (.seqN (.block (.seq (.region (.V ag0 ?_)))))
  refine .nil (.seqN (.seq (.region (.V ag0 ?_))))
  refine .nil (.seqN (.block ?_))
  obtain ⟨I6, μ6, q16749, q16750⟩ := hF
  refine .loop' (σ := Bool × Int × List Int) (fun z => I6 z.1 z.2.1 z.2.2 ∧ z.2.2.length = out.length) (fun z => μ6 z.1 z.2.1 z.2.2) (fun z => [(5, vSl aout out cout), (8, vSl afrom from_ cfrom), (9, vSl ato to cto), (10, vSl acost cost ccost), (15, .bool z.1), (16, iV z.2.1)]) (fun z => [OwnSl 3 1 aout out.length cout (flL z.2.2), oL 3 1 afrom from_ cfrom, oL 3 1 ato to cto, oL 3 1 acost cost ccost]) (fun _ => h) (false, 0, out4) ⟨q16749, q16477⟩ sb rfl (FH.le_refl _) ?_
  rintro ⟨again3, a19, out6⟩ ⟨q16749, q16697⟩
  have hF := q16750 again3 a19 out6 q16749
  show J _ _ _ _ _ [(5, vSl aout out cout), (8, vSl afrom from_ cfrom), (9, vSl ato to cto), (10, vSl acost cost ccost), (15, .bool again3), (16, iV a19)] [OwnSl 3 1 aout out.length cout (flL out6), oL 3 1 afrom from_ cfrom, oL 3 1 ato to cto, oL 3 1 acost cost ccost] h
  refine .seq (.seq (.region (.V mv0 ?_)))
  refine .V mv0 ?_
  refine .V (ln rfl tS22.is) ?_
  refine .V bi0 ?_
  refine .nil (.seqN ?_)
  refine .cond rfl (fun q16752 => ?_) (fun q16752 => ?_)
  ·replace hF := hF.1 q16752
   refine .skip (.seqN ?_)
   refine .share (σ := Bool × List Int) (fun z => F_costsRef_J4 a19 I6 μ6 again3 out6 z.1 z.2 ∧ z.2.length = out.length) (fun z => [(5, vSl aout out cout), (8, vSl afrom from_ cfrom), (9, vSl ato to cto), (10, vSl acost cost ccost), (15, .bool z.1), (16, iV a19)]) (fun z => [OwnSl 3 1 aout out.length cout (flL z.2), oL 3 1 afrom from_ cfrom, oL 3 1 ato to cto, oL 3 1 acost cost ccost]) (fun _ => h) ?_ (fun q16777 => ?_)
   ·rintro ⟨again5, out8⟩ ⟨hF, q16776⟩
    show J _ _ _ _ _ [(5, vSl aout out cout), (8, vSl afrom from_ cfrom), (9, vSl ato to cto), (10, vSl acost cost ccost), (15, .bool again5), (16, iV a19)] [OwnSl 3 1 aout out.length cout (flL out8), oL 3 1 afrom from_ cfrom, oL 3 1 ato to cto, oL 3 1 acost cost ccost] h
    refine .region (.V mv0 ?_)
    refine .V bi0 ?_
    refine .V ag0 ?_
    refine .nil ?_
    exact .RO (again5, wr (a19 + 1), out8) ⟨hF.1, q16776⟩ hF.2
   refine .block ?_
   refine .share (σ := Bool) (fun z => F_costsRef_J5 from_ cost to z a19 I6 μ6 again3 out6) (fun z => [(5, vSl aout out cout), (8, vSl afrom from_ cfrom), (9, vSl ato to cto), (10, vSl acost cost ccost), (15, .bool again3), (16, iV a19), (137, .bool z)]) (fun _ => [OwnSl 3 1 aout out.length cout (flL out6), oL 3 1 afrom from_ cfrom, oL 3 1 ato to cto, oL 3 1 acost cost ccost]) (fun _ => h) ?_ (fun q16785 => ?_)
   ·rintro t137 hF
    show J _ _ _ _ _ [(5, vSl aout out cout), (8, vSl afrom from_ cfrom), (9, vSl ato to cto), (10, vSl acost cost ccost), (15, .bool again3), (16, iV a19), (137, .bool t137)] [OwnSl 3 1 aout out.length cout (flL out6), oL 3 1 afrom from_ cfrom, oL 3 1 ato to cto, oL 3 1 acost cost ccost] h
    refine .cond rfl (fun q16786 => ?_) (fun q16786 => ?_)
    ·replace hF := hF.1 q16786
     refine .seq ?_
     refine .openL (by kernel_rfl) rfl (by kernel_rfl) (by kernel_rfl) ?_
     refine .V mv0 ?_
     refine .V mv0 ?_
     refine .V mv0 ?_
     obtain ⟨q16787, hF⟩ := hF
     refine .V (ixS rfl rfl tS22 (k := 1) rfl q16787) ?_
     refine .V (ld1 (v := iV (gt from_ a19)) rfl tO3 (cellS (k := 1) rfl (flL_get q16787 (j := 0) rfl))) ?_
     refine .V mv0 ?_
     refine .V mv0 ?_
     refine .V mv0 ?_
     obtain ⟨q16788, hF⟩ := hF
     refine .V (ixS rfl rfl tS22 (k := 2) rfl q16788) ?_
     refine .V (ld1 (v := iV (gt to a19)) rfl tO3 (cellS (k := 2) rfl (flL_get q16788 (j := 0) rfl))) ?_
     obtain ⟨q16789, hF⟩ := hF
     refine .V (ixS rfl rfl tS22 (k := 0) rfl (inb_n q16789 q16697)) ?_
     refine .V (ld1 (v := iV (gt out6 (gt to a19))) rfl tO3 (cellS (k := 0) rfl (flL_get q16789 (j := 0) rfl))) ?_
     refine .V mv0 ?_
     refine .V mv0 ?_
     obtain ⟨q16790, hF⟩ := hF
     refine .V (ixS rfl rfl tS22 (k := 3) rfl q16790) ?_
     refine .V (ld1 (v := iV (gt cost a19)) rfl tO3 (cellS (k := 3) rfl (flL_get q16790 (j := 0) rfl))) ?_
     refine .V bi0 ?_
     obtain ⟨q16791, hF⟩ := hF
     refine .V (ixS rfl rfl tS22 (k := 0) rfl (inb_n q16791 q16697)) ?_
     refine .tail ?_
     obtain ⟨d, q16792⟩ : ∃ y_ : List Int, y_ = (out6.set ((gt from_ a19)).toNat (wr ((gt out6 (gt to a19)) + (gt cost a19)))) := ⟨_, rfl⟩
     replace hF := hF d q16792
     refine stS (k := 0) (cs' := flL d) rfl (fun _ => rfl) rfl rfl (fun w => (tO3 w).2) rfl rfl rfl (by rw [← q16697]; exact inb_pos q16791) (fl_room q16791) (by rw [q16792]; exact flL_set q16791 (wr ((gt out6 (gt to a19)) + (gt cost a19)))) ?_
     have q16793 : d.length = out.length := by rw [q16792]; exact List.length_set.trans q16697
     refine .KA [OwnSl 3 1 aout out.length cout (flL d), oL 3 1 afrom from_ cfrom, oL 3 1 ato to cto, oL 3 1 acost cost ccost] ?_
     refine .nil (.seqN (.region (.V ag0 ?_)))
     refine .nil (.blkN ?_)
     exact .US q16777 (true, d) ⟨hF, q16793⟩
    replace hF := hF.2 q16786
    refine .skip (.blkN ?_)
    exact .US q16777 (again3, out6) ⟨hF, q16697⟩
   refine .open_ (by kernel_rfl) (by kernel_rfl) ?_
   refine .V mv0 ?_
   refine .V mv0 ?_
   refine .V mv0 ?_
   obtain ⟨q16794, hF⟩ := hF
   refine .V (ixS rfl rfl tS22 (k := 2) rfl q16794) ?_
   refine .V (ld1 (v := iV (gt to a19)) rfl tO3 (cellS (k := 2) rfl (flL_get q16794 (j := 0) rfl))) ?_
   obtain ⟨q16795, hF⟩ := hF
   refine .V (ixS rfl rfl tS22 (k := 0) rfl (inb_n q16795 q16697)) ?_
   refine .V (ld1 (v := iV (gt out6 (gt to a19))) rfl tO3 (cellS (k := 0) rfl (flL_get q16795 (j := 0) rfl))) ?_
   refine .V bi0 ?_
   refine .V mv0 ?_
   rcases Bool.eq_false_or_eq_true (decide ((gt out6 (gt to a19)) < 1000000000)) with q16796 | q16796
   ·replace hF := hF.1 q16796
    refine .GV mv0 q16796 ?_
    refine .GV mv0 q16796 ?_
    refine .GV mv0 q16796 ?_
    refine .GV (ixS rfl rfl tS22 (k := 2) rfl q16794) q16796 ?_
    refine .GV (ld1 (v := iV (gt to a19)) rfl tO3 (cellS (k := 2) rfl (flL_get q16794 (j := 0) rfl))) q16796 ?_
    refine .GV (ixS rfl rfl tS22 (k := 0) rfl (inb_n q16795 q16697)) q16796 ?_
    refine .GV (ld1 (v := iV (gt out6 (gt to a19))) rfl tO3 (cellS (k := 0) rfl (flL_get q16795 (j := 0) rfl))) q16796 ?_
    refine .GV mv0 q16796 ?_
    refine .GV mv0 q16796 ?_
    obtain ⟨q16797, hF⟩ := hF
    refine .GV (ixS rfl rfl tS22 (k := 3) rfl q16797) q16796 ?_
    refine .GV (ld1 (v := iV (gt cost a19)) rfl tO3 (cellS (k := 3) rfl (flL_get q16797 (j := 0) rfl))) q16796 ?_
    refine .GV bi0 q16796 ?_
    refine .GV mv0 q16796 ?_
    refine .GV mv0 q16796 ?_
    refine .GV mv0 q16796 ?_
    obtain ⟨q16798, hF⟩ := hF
    refine .GV (ixS rfl rfl tS22 (k := 1) rfl q16798) q16796 ?_
    refine .GV (ld1 (v := iV (gt from_ a19)) rfl tO3 (cellS (k := 1) rfl (flL_get q16798 (j := 0) rfl))) q16796 ?_
    obtain ⟨q16799, hF⟩ := hF
    refine .GV (ixS rfl rfl tS22 (k := 0) rfl (inb_n q16799 q16697)) q16796 ?_
    refine .GV (ld1 (v := iV (gt out6 (gt from_ a19))) rfl tO3 (cellS (k := 0) rfl (flL_get q16799 (j := 0) rfl))) q16796 ?_
    obtain ⟨x, q16800⟩ : ∃ y_ : Bool, y_ = (decide ((wr ((gt out6 (gt to a19)) + (gt cost a19))) < (gt out6 (gt from_ a19)))) := ⟨_, rfl⟩
    replace hF := hF x q16800
    refine .gv (v := .bool x) (by rw [q16800]; exact bi rfl rfl rfl) rfl rfl rfl q16796 rfl rfl ?_
    refine .V (pkT rfl q16796 rfl) ?_
    refine .fin ?_
    exact .US q16785 x hF
   replace hF := hF.2 q16796
   refine .GS q16796 ?_
   refine .GS q16796 ?_
   refine .GS q16796 ?_
   refine .GS q16796 ?_
   refine .GS q16796 ?_
   refine .GS q16796 ?_
   refine .GS q16796 ?_
   refine .GS q16796 ?_
   refine .GS q16796 ?_
   refine .GS q16796 ?_
   refine .GS q16796 ?_
   refine .GS q16796 ?_
   refine .GS q16796 ?_
   refine .GS q16796 ?_
   refine .GS q16796 ?_
   refine .GS q16796 ?_
   refine .GS q16796 ?_
   refine .GS q16796 ?_
   refine .GS q16796 ?_
   refine .GS q16796 ?_
   refine .V (pkF rfl q16796 rfl) ?_
   refine .fin ?_
   exact .US q16785 false hF
  replace hF := hF.2 q16752
  refine .exit (.seqX (.seqX (.blkX (.blkN ?_))))
  exact .RO (again3, out6) ⟨hF.1, q16697⟩ hF.2
 replace hF := hF.2 q16642
 refine .exit (.seqX (.seqX (.blkX (.seqN (.seq (.region (.V mv0 ?_)))))))
 refine .V ag0 ?_
 refine .nil (.seqN ?_)
 refine .freezeL (k := 0) rfl (fun h109 le109 q16802 q16801 => ?_)
 refine .KA [tru, oL 3 1 afrom from_ cfrom, oL 3 1 ato to cto, oL 3 1 acost cost ccost] ?_
 refine .ret ?_
 refine .res1 rfl (rvT rfl) (fun w' S => ⟨out4, (aout, cout), h109, hF, (by simp only [q16477] <;> rfl), (le109), ⟨(RSl.of q16801), (by rw [q16477]; exact q16802)⟩, S.none⟩)
theorem c_costsRef {h : FH} {w : World} (hs : Sub h w) (t : Task) (at_ : Option Addr) (ct : Nat) (_q1 : RSl h at_ t.init) (_q2 : t.init.length ≤ ct) (at_2 : Option Addr) (ct2 : Nat) (_q3 : RSl h at_2 t.goal) (_q4 : t.goal.length ≤ ct2) (at_3 : Option Addr) (ct3 : Nat) (_q5 : RSl h at_3 t.ops) (_q6 : t.ops.length ≤ ct3) (l : List (List Int)) (al2 : Option Addr) (cl2 : Nat) (_q7 : RSl h al2 l) (_q8 : l.length ≤ cl2) (hp : pre_costsRef t l) : Calls Tryz.prog 35 #[.agg #[iV t.facts, .slice at_ t.init.length ct, .slice at_2 t.goal.length ct2, .slice at_3 t.ops.length ct3], .slice al2 l.length cl2] w fun e w' => ∃ (z : Option Addr × Nat) (h1 : FH), e = .returned (.slice z.1 (sp_costsRef t l).length z.2) ∧ FH.le h h1 ∧ (RSl h1 z.1 (sp_costsRef t l) ∧ (sp_costsRef t l).length ≤ z.2) ∧ SH (Kp.all w h) h1 w' [] :=
 (w_costsRef hs t at_ ct _q1 _q2 at_2 ct2 _q3 _q4 at_3 ct3 _q5 _q6 l al2 cl2 _q7 _q8 (fun r => r = sp_costsRef t l) (ok_costsRef t l hp)).mono fun _ _ ⟨r, z, h1, hk, he, hl, hf, hS⟩ => by subst hk; exact ⟨z, h1, he, hl, hf, hS⟩
theorem w_bestFrom {h : FH} {w : World} (hs : Sub h w) (t : Task) (at_ : Option Addr) (ct : Nat) (_q1 : RSl h at_ t.init) (_q2 : t.init.length ≤ ct) (at_2 : Option Addr) (ct2 : Nat) (_q3 : RSl h at_2 t.goal) (_q4 : t.goal.length ≤ ct2) (at_3 : Option Addr) (ct3 : Nat) (_q5 : RSl h at_3 t.ops) (_q6 : t.ops.length ≤ ct3) (s_ : List Int) (as_ : Option Addr) (cs_ : Nat) (_q7 : RSl h as_ s_) (_q8 : s_.length ≤ cs_) (K : Int → Prop) (hF : F_bestFrom t s_ K) : Calls Tryz.prog 14 #[.agg #[iV t.facts, .slice at_ t.init.length ct, .slice at_2 t.goal.length ct2, .slice at_3 t.ops.length ct3], .slice as_ s_.length cs_] w fun e w' => ∃ r : Int, K r ∧ e = .returned (iV r) ∧ Below w.heap.size w w' := by
 refine enter (args := [.agg (tF t at_ ct at_2 ct2 at_3 ct3).toArray, vSl as_ s_ cs_]) Tryz.func14 rfl Tryz.ntmps14 rfl hs ?_
 refine .seq (.region ?_)
 refine bx (vs := (tF t at_ ct at_2 ct2 at_3 ct3)) rfl rfl rfl (fun pt => ?_)
 refine .V ag0 ?_
 refine .nil (.seqN (.seq (.region (.V (ldA (cs := (tF t at_ ct at_2 ct2 at_3 ct3)) rfl tA25 rfl (cellsB (off := 0) (k := 0) rfl (m := 4) rfl)) ?_))))
 refine .V mv0 ?_
 obtain ⟨q9, hF⟩ := hF
 obtain ⟨r2, q10⟩ : ∃ y_ : List (List Int) × Bool, y_ = sp_reachedFrom t s_ := ⟨_, rfl⟩
 replace hF := hF r2 q10
 refine clR (α := Option Addr × Nat) (Φ := fun h1 z => RSl h1 z.1 r2.1 ∧ r2.1.length ≤ z.2) (V := fun z => .tuple #[vSl z.1 r2.1 z.2, .bool r2.2]) Tryz.call34 rfl rfl (fun w S => (by rw [q10]; exact c_reachedFrom S.sub t at_ ct _q1 _q2 at_2 ct2 _q3 _q4 at_3 ct3 _q5 _q6 s_ as_ cs_ _q7 _q8 q9)) rfl (fun z h1 le1 hz => ?_)
 obtain ⟨a, c⟩ := z
 obtain ⟨q11, q12⟩ := hz
 refine .V mv0 ?_
 refine .V (ext rfl rfl) ?_
 refine .V (ext rfl rfl) ?_
 refine .V ag0 ?_
 refine .V ag0 ?_
 refine .nil (.seqN (.seq (.seq (.region (.V mv0 ?_)))))
 refine .V (nt rfl) ?_
 refine .nil (.seqN ?_)
 refine .cond rfl (fun q14 => ?_) (fun q14 => ?_)
 ·replace hF := hF.1 q14
  refine .seq (.region (.V ag0 ?_))
  refine .nil (.seqN (.ret (.seqR ?_)))
  refine .res1 rfl (rvT rfl) (fun w' S => ⟨(-1), hF, rfl, S.below⟩)
 replace hF := hF.2 q14
 refine .skip (.seqN (.seq (.region (.V (ldA (cs := (tF t at_ ct at_2 ct2 at_3 ct3)) rfl tA25 rfl (cellsB (off := 0) (k := 0) rfl (m := 4) rfl)) ?_))))
 refine .V mv0 ?_
 obtain ⟨q15, hF⟩ := hF
 obtain ⟨r3, q16⟩ : ∃ y_ : List Int, y_ = sp_costsRef t r2.1 := ⟨_, rfl⟩
 replace hF := hF r3 q16
 refine clR (α := Option Addr × Nat) (Φ := fun h1 z => RSl h1 z.1 r3 ∧ r3.length ≤ z.2) (V := fun z => vSl z.1 r3 z.2) Tryz.call35 rfl rfl (fun w S => (by rw [q16]; exact c_costsRef S.sub t at_ ct (_q1.mono (le1)) _q2 at_2 ct2 (_q3.mono (le1)) _q4 at_3 ct3 (_q5.mono (le1)) _q6 r2.1 a c q11 q12 q15)) rfl (fun z h2 le2 hz => ?_)
 obtain ⟨a2, c2⟩ := z
 obtain ⟨q17, q18⟩ := hz
 obtain ⟨q19, hF⟩ := hF
 refine .V (ix rfl rfl tS22 (q17.ne (by decide) (inb_pos q19)) q19) ?_
 refine .V (ld1 (v := iV (gt r3 (0 : Int))) rfl tO3 (cellH (q17.elemF q19 (by decide) 0 _ rfl))) ?_
 refine .V ag0 ?_
 refine .nil (.seqN (.ret ?_))
 refine .res1 rfl (rvT rfl) (fun w' S => ⟨(gt r3 (0 : Int)), hF, rfl, S.below⟩)
theorem c_bestFrom {h : FH} {w : World} (hs : Sub h w) (t : Task) (at_ : Option Addr) (ct : Nat) (_q1 : RSl h at_ t.init) (_q2 : t.init.length ≤ ct) (at_2 : Option Addr) (ct2 : Nat) (_q3 : RSl h at_2 t.goal) (_q4 : t.goal.length ≤ ct2) (at_3 : Option Addr) (ct3 : Nat) (_q5 : RSl h at_3 t.ops) (_q6 : t.ops.length ≤ ct3) (s_ : List Int) (as_ : Option Addr) (cs_ : Nat) (_q7 : RSl h as_ s_) (_q8 : s_.length ≤ cs_) (hp : pre_bestFrom t s_) : Calls Tryz.prog 14 #[.agg #[iV t.facts, .slice at_ t.init.length ct, .slice at_2 t.goal.length ct2, .slice at_3 t.ops.length ct3], .slice as_ s_.length cs_] w fun e w' => e = .returned (iV (sp_bestFrom t s_)) ∧ Below w.heap.size w w' :=
 (w_bestFrom hs t at_ ct _q1 _q2 at_2 ct2 _q3 _q4 at_3 ct3 _q5 _q6 s_ as_ cs_ _q7 _q8 (fun r => r = sp_bestFrom t s_) (ok_bestFrom t s_ hp)).mono fun _ _ ⟨_, hk, he, hb⟩ => ⟨by rw [he, hk], hb⟩
end Go.Proofs.YtimillpakjgnoaaGreat.Pl

namespace Go.Proofs.YtimillpakjgnoaaGreat.Pl
open Go Go.RowKit
theorem tO178 : TOne Tryz.prog 178 := tOne_mk Tryz.underlying178 rfl (by kernel_rfl)
theorem tZ178 : TZero Tryz.prog 178 [.nilFunc] := tZero_mk (z := .nilFunc) (by kernel_rfl) rfl
theorem tZ68 : TZero Tryz.prog 68 [.slice none 0 0] := tZero_mk (z := .slice none 0 0) (by kernel_rfl) rfl
theorem tO68 : TOne Tryz.prog 68 := tOne_mk Tryz.underlying68 rfl (by kernel_rfl)
theorem flat_mono {α : Type} (f : Int → List α) : ∀ n q : Nat, q < n → ((allS q).flatMap f).length + (f q).length ≤ ((allS n).flatMap f).length
 | 0, _, h => absurd h (Nat.not_lt_zero _)
 | n + 1, q, h => by
  have e : ((allS (n + 1)).flatMap f).length = ((allS n).flatMap f).length + (f n).length := by rw [allS_succ, List.flatMap_append, List.flatMap_cons, List.flatMap_nil, List.append_nil, List.length_append]
  rw [e]
  rcases Nat.lt_or_ge q n with g | g
  ·have := flat_mono f n q g; omega
  ·have : q = n := by omega
   subst this; exact Nat.le_refl _
def YC (K : Kp) (l : Nat) (n : Int) {σ : Type} (I : List (List Int) → FH → σ → Prop) (M : σ → List Asrt) : Prop :=
 ∀ (m : Nat) (dl : List Nat) (ops : Array Oper) (rest : List Oper) (Q : Exit → Act → World → Prop) (s : St) (d : Nat) (x ax : Operand) (ts : Array TypeId) (ty : TypeId) (pos : String) (af : Array Edge) (h : FH) (z : List (List Int)) (y : σ) (pre : List Int) (a : Option Addr) (c : Nat),
  ev s x = some (.func (.yield l) #[] #[]) → ev s ax = some (.slice a pre.length c) → Nat.blt d m = true → pre.length ≤ c → RSl h a pre → (pre.length : Int) = n ∧ (∀ p ∈ pre, 0 ≤ p ∧ p < n) → I z h y → z.length < 1000000 →
  (∀ y' h', FH.le h h' → I (z ++ [pre]) h' y' → JL Tryz.prog K ⟨m, some none, dl⟩ ops rest Q ((d, .bool true) :: s) (M y') h') →
  JL Tryz.prog K ⟨m, some none, dl⟩ ops (⟨some d, .call { callee := .value x, args := #[ax], argTypes := ts }, ty, pos, af, none⟩ :: rest) Q s (M y) h
set_option maxHeartbeats 8000000 in
theorem ext_call {K : Kp} {l : Nat} {n : Int} {σ : Type} {I : List (List Int) → FH → σ → Prop} {B : σ → List Asrt} {pn pv pe : Addr} (hI : ∀ z h h' y, FH.le h h' → I z h y → I z h' y) (hn : 0 ≤ n ∧ n ≤ 6)
  (yc : YC K l n I fun y => Box pe [.func (.func 95) #[] #[.pointer (some pn), .pointer (some pv), .pointer (some pe)]] :: Box pv [.func (.yield l) #[] #[]] :: Box pn [.int .i64 n] :: B y) : ∀ (k : Nat) (pre : List Int), (pre.length : Int) ≤ n → n < pre.length + k → (∀ p ∈ pre, 0 ≤ p ∧ p < n) →
  ∀ {m : Nat} {dl : List Nat} {ops : Array Oper} {rest : List Oper} {Q : Exit → Act → World → Prop} {s : St} {d : Nat} {x ax : Operand} {ts : Array TypeId} {ty : TypeId} {pos : String} {af : Array Edge} {h : FH} {z : List (List Int)} {y : σ} {a : Option Addr} {c : Nat},
  ev s x = some (.func (.func 95) #[] #[.pointer (some pn), .pointer (some pv), .pointer (some pe)]) → ev s ax = some (.slice a pre.length c) → Nat.blt d m = true → pre.length ≤ c → RSl h a pre → I z h y → z.length + (perms n k pre).length ≤ 1000000 →
  (∀ y' h', FH.le h h' → I (z ++ perms n k pre) h' y' → JL Tryz.prog K ⟨m, some none, dl⟩ ops rest Q ((d, .bool true) :: s) (Box pe [.func (.func 95) #[] #[.pointer (some pn), .pointer (some pv), .pointer (some pe)]] :: Box pv [.func (.yield l) #[] #[]] :: Box pn [.int .i64 n] :: B y') h') →
  JL Tryz.prog K ⟨m, some none, dl⟩ ops (⟨some d, .call { callee := .value x, args := #[ax], argTypes := ts }, ty, pos, af, none⟩ :: rest) Q s (Box pe [.func (.func 95) #[] #[.pointer (some pn), .pointer (some pv), .pointer (some pe)]] :: Box pv [.func (.yield l) #[] #[]] :: Box pn [.int .i64 n] :: B y) h
 | 0, pre, hpl, hfu, _, _, _, _, _, _, _, _, _, _, _, _, _, _, _, _, _, _, _, _, _, _, _, _, _, _, _ => absurd hfu (by omega)
 | k + 1, pre, hpl, hfu, hpr, m, dl, ops, rest, Q, s, d, x, ax, ts, ty, pos, af, h, z, y, a, c, hx, hax, hd, hc, hr, hi, hlen, hk => by
  have ih := ext_call hI hn yc k
  refine .inl (vs := [.slice a pre.length c]) (args := [.slice a pre.length c, .pointer (some pn), .pointer (some pv), .pointer (some pe)]) Tryz.func95 rfl Tryz.ntmps95 Tryz.call95 hx (by show evs s [ax] = _; simp [evs, hax]) rfl rfl (fun a' H => ?_)
  refine .unwide ?_
  refine .seq ?_
  refine .region ?_
  refine .v (asg rfl) rfl rfl rfl ?_
  refine .nil ?_
  refine .seqN ?_
  refine .seq ?_
  refine .seq ?_
  refine .region ?_
  refine .v (mv rfl) rfl rfl rfl ?_
  refine .v (ln rfl tS22.is) rfl rfl rfl ?_
  refine .v (ld1 rfl tO3 (cellB (off := 0) (k := 2) rfl rfl)) rfl rfl rfl ?_
  refine .v (bi rfl rfl rfl) rfl rfl rfl ?_
  refine .nil ?_
  refine .seqN ?_
  refine .cond rfl (fun q1 => ?_) (fun q1 => ?_)
  ·have el : (pre.length : Int) = n := by simpa using q1
   refine .seq ?_
   refine .region ?_
   refine .v (ld1 rfl tO178 (cellB (off := 0) (k := 1) rfl rfl)) rfl rfl rfl ?_
   refine .v (mv rfl) rfl rfl rfl ?_
   refine yc _ _ _ _ _ _ _ _ _ _ _ _ _ h z y pre a c rfl rfl rfl hc hr ⟨el, hpr⟩ hi (by rw [perms, if_pos el, List.length_singleton] at hlen; omega) (fun y1 h1 le1 hi1 => ?_)
   refine .v (asg rfl) rfl rfl rfl ?_
   refine .nil ?_
   refine .seqN ?_
   refine .ret ?_
   refine .seqR ?_
   refine .res1 rfl (rvT rfl) (inl_back (v := .bool true) H hd (hk y1 h1 le1 ?_))
   rw [perms, if_pos el]
   exact hi1
  have el : ¬ (pre.length : Int) = n := by simpa using q1
  rw [perms, if_neg el] at hk hlen
  refine .skip ?_
  refine .seqN ?_
  refine .seq ?_
  refine .seq ?_
  refine .region ?_
  refine .v (ld1 rfl tO3 (cellB (off := 0) (k := 2) rfl rfl)) rfl rfl rfl ?_
  refine .v (mv rfl) rfl rfl rfl ?_
  refine .nil ?_
  refine .seqN ?_
  refine .block ?_
  refine .loop' (σ := Int × σ × FH) (fun u => ∃ q : Nat, u.1 = q ∧ q ≤ n.toNat ∧ FH.le h u.2.2 ∧ I (z ++ (allS q).flatMap fun p => if p ∈ pre then [] else perms n k (pre ++ [p])) u.2.2 u.2.1) (fun u => (n - u.1).toNat) (fun u => [(0, .slice a pre.length c), (3, .pointer (some pe)), (14, .int .i64 n), (15, .int .i64 u.1)]) (fun u => Box pe [.func (.func 95) #[] #[.pointer (some pn), .pointer (some pv), .pointer (some pe)]] :: Box pv [.func (.yield l) #[] #[]] :: Box pn [.int .i64 n] :: B u.2.1) (fun u => u.2.2) (0, y, h) ⟨0, rfl, Nat.zero_le _, FH.le_refl _, by simpa [allS] using hi⟩ (.cons rfl (.cons rfl (.cons rfl (.cons rfl (.nil))))) rfl (FH.le_refl _) ?_
  rintro ⟨i, y1, h1⟩ ⟨q, hq, hqn, hle1, hI1⟩
  simp only at hq hle1 hI1
  show J _ _ _ _ _ [(0, .slice a pre.length c), (3, .pointer (some pe)), (14, .int .i64 n), (15, .int .i64 i)] (Box pe [.func (.func 95) #[] #[.pointer (some pn), .pointer (some pv), .pointer (some pe)]] :: Box pv [.func (.yield l) #[] #[]] :: Box pn [.int .i64 n] :: B y1) h1
  refine .seq ?_
  refine .region ?_
  refine .v (bi rfl rfl rfl) rfl rfl rfl ?_
  refine .nil ?_
  refine .seqN ?_
  refine .seq ?_
  refine .cond rfl (fun q2 => ?_) (fun q2 => ?_)
  ·have hlt : i < n := of_decide_eq_true q2
   have nx : z ++ (allS (q + 1)).flatMap (fun p => if p ∈ pre then [] else perms n k (pre ++ [p])) = (z ++ (allS q).flatMap fun p => if p ∈ pre then [] else perms n k (pre ++ [p])) ++ (if i ∈ pre then [] else perms n k (pre ++ [i])) := by rw [allS_succ, List.flatMap_append, List.flatMap_cons, List.flatMap_nil, List.append_nil, ← hq, List.append_assoc]
   refine .skip ?_
   refine .seqN ?_
   refine .seq ?_
   refine .block ?_
   refine .seq ?_
   refine .region ?_
   refine .v (mv rfl) rfl rfl rfl ?_
   refine .v (asg rfl) rfl rfl rfl ?_
   refine .nil ?_
   refine .seqN ?_
   refine .share (σ := σ × FH) (fun u => FH.le h1 u.2 ∧ I (z ++ (allS (q + 1)).flatMap fun p => if p ∈ pre then [] else perms n k (pre ++ [p])) u.2 u.1) (fun _ => [(0, .slice a pre.length c), (3, .pointer (some pe)), (14, .int .i64 n), (15, .int .i64 i), (31, .bool false)]) (fun u => Box pe [.func (.func 95) #[] #[.pointer (some pn), .pointer (some pv), .pointer (some pe)]] :: Box pv [.func (.yield l) #[] #[]] :: Box pn [.int .i64 n] :: B u.1) (fun u => u.2) ?_ (fun sh => ?_)
   ·rintro ⟨y2, h2⟩ ⟨hle2, hI2⟩
    simp only at hle2 hI2
    show J _ _ _ _ _ [(0, .slice a pre.length c), (3, .pointer (some pe)), (14, .int .i64 n), (15, .int .i64 i), (31, .bool false)] (Box pe [.func (.func 95) #[] #[.pointer (some pn), .pointer (some pv), .pointer (some pe)]] :: Box pv [.func (.yield l) #[] #[]] :: Box pn [.int .i64 n] :: B y2) h2
    refine .cond rfl (fun g => absurd g (by decide)) (fun _ => ?_)
    refine .skip ?_
    refine .blkN ?_
    refine .seqN ?_
    refine .region ?_
    refine .v (bi rfl rfl rfl) rfl rfl rfl ?_
    refine .v (mv rfl) rfl rfl rfl ?_
    refine .nil ?_
    have ew : IntKind.i64.wrap (i + 1) = i + 1 := w64 (by omega)
    exact .round (IntKind.i64.wrap (i + 1), y2, h2) ⟨q + 1, by rw [ew, hq]; rfl, by omega, FH.le_trans hle1 hle2, hI2⟩ (by show (n - IntKind.i64.wrap (i + 1)).toNat < (n - i).toNat; rw [ew]; omega) (.cons rfl (.cons rfl (.cons rfl (.cons rfl (.nil))))) rfl (FH.le_refl _)
   have hpc : pre_index pre i := by unfold pre_index; omega
   obtain ⟨r3, hr3⟩ : ∃ y_ : Bool, y_ = sp_contains pre i := ⟨_, rfl⟩
   rcases Bool.eq_false_or_eq_true (!r3) with qn | qn
   ·have hni : i ∉ pre := by
     rw [hr3] at qn
     unfold sp_contains at qn
     simpa using qn
    have good : ∀ p ∈ pre ++ [i], 0 ≤ p ∧ p < n := fun p hp => by
     rcases List.mem_append.1 hp with g | g
     ·exact hpr p g
     ·rw [List.mem_singleton.1 g]; omega
    have hcl : pre_clone pre := by unfold pre_clone; omega
    have hroom : ∀ r4 : List Int, r4 = pre → room ((r4 ++ ([i] : List Int))).length 8 := fun r4 e => by
     rw [e, List.length_append, List.length_singleton]
     exact ⟨by simp only [maxLen]; omega, by omega⟩
    refine .openA (s0 := [(0, .slice a pre.length c), (3, .pointer (some pe)), (6, .int .i64 i), (14, .int .i64 n), (15, .int .i64 i)]) [0, 1, 2, 3, 4, 5, 6, 8] [(0, .slice a pre.length c), (1, .int .i64 i), (2, .bool r3), (3, .bool (!r3)), (4, .bool (!r3)), (5, .func (.func 95) #[] #[.pointer (some pn), .pointer (some pv), .pointer (some pe)]), (6, .slice a pre.length c), (8, .int .i64 i)] (by kernel_rfl) (.cons rfl (.cons rfl (.cons rfl (.cons rfl (.cons rfl (.nil)))))) [0, 3, 6, 14, 15] [] rfl (by kernel_rfl) ?_
    refine .step [7, 9] 7 rfl (by kernel_rfl) (by kernel_rfl) (.v [] rfl rfl rfl rfl rfl rfl (fun _ => mv rfl) (.v [] rfl rfl rfl rfl rfl rfl (fun _ => mv rfl) (.c [(18, .slice a pre.length c), (19, .int .i64 i)] rfl rfl rfl rfl rfl rfl (fun _ => cl (v := .bool r3) Tryz.call89 rfl rfl (fun w S => (by rw [hr3]; exact c_contains S.sub pre a c (hr.mono hle1) hc i hpc))) (.v [(20, .bool r3)] rfl rfl rfl rfl rfl rfl (fun _ => nt rfl) (.v [(21, .bool (!r3)), (20, .bool r3)] rfl rfl rfl rfl rfl rfl (fun _ => mv rfl) (.gv [(22, .bool (!r3))] rfl rfl rfl rfl qn rfl rfl rfl rfl (fun _ => ld1 rfl tO178 (cellB (off := 0) (k := 0) rfl rfl)) (.gv [(22, .bool (!r3))] rfl rfl rfl rfl qn rfl rfl rfl rfl (fun _ => mv rfl) (.gv [(22, .bool (!r3))] rfl rfl rfl rfl qn rfl rfl rfl rfl (fun _ => mv rfl) (.nil))))))))) (.cons [(24, .slice a pre.length c), (22, .bool (!r3)), (22, .bool (!r3))] rfl rfl (fun sL hL => ?_) (.cons [(26, .int .i64 i), (22, .bool (!r3))] rfl rfl (fun sL hL => ?_) (.nil)))
    ·skip
     obtain ⟨r4, q4⟩ : ∃ y_ : List Int, y_ = sp_clone pre := ⟨_, rfl⟩
     have h4 : r4 = pre := q4
     refine .gR rfl rfl rfl qn ?_
     refine clO (α := Option Addr × Nat) (V := fun z => .slice z.1 r4.length z.2) (Ψ := fun z => True) (B := fun z => [OwnSl 3 1 z.1 r4.length z.2 (flL r4)]) Tryz.call26 rfl rfl (fun w S => (by rw [q4]; exact c_cloneO S.sub pre a c (hr.mono hle1) hc hcl)) rfl (fun z _ => ?_)
     obtain ⟨a7, c3⟩ := z
     refine .cast (A' := OwnSl 3 1 a7 r4.length c3 (flL r4) :: Box pe [.func (.func 95) #[] #[.pointer (some pn), .pointer (some pv), .pointer (some pe)]] :: Box pv [.func (.yield l) #[] #[]] :: Box pn [.int .i64 n] :: B y1) rfl ?_
     refine .nil ?_
     refine .ja (M := [6, 4, 3, 2, 0, 1]) (C' := [5, 8]) (pre := [(7, .slice a7 r4.length c3)]) [(0, .slice a pre.length c), (3, .pointer (some pe)), (6, .int .i64 i), (14, .int .i64 n), (15, .int .i64 i)] [0, 3, 6, 14, 15] hL rfl rfl rfl rfl rfl (.cons rfl (.cons rfl (.cons rfl (.cons rfl (.cons rfl (.nil)))))) rfl rfl (by kernel_rfl) ?_
     refine .step [9] 9 rfl (by kernel_rfl) (by kernel_rfl) (.gv [(22, .bool (!r3))] rfl rfl rfl rfl qn rfl rfl rfl rfl (fun _ => ld1 rfl tO178 (cellB (off := 0) (k := 1) rfl rfl)) (.gv [(22, .bool (!r3))] rfl rfl rfl rfl qn rfl rfl rfl rfl (fun _ => mv rfl) (.nil))) (.cons [(26, .int .i64 i), (22, .bool (!r3))] rfl rfl (fun sL hL => ?_) (.nil))
     refine .gR rfl rfl rfl qn ?_
     refine bs2 (cs := #[.int .i64 i]) (pv := [(0, .int .i64 i)]) tS22 rfl rfl (by decide) (by decide) rfl rfl rfl (fun a8 _ => ?_)
     refine .cast (A' := OwnSl 3 1 a8 (([i] : List Int).length) 1 (flL ([i] : List Int)) :: OwnSl 3 1 a7 r4.length c3 (flL r4) :: Box pe [.func (.func 95) #[] #[.pointer (some pn), .pointer (some pv), .pointer (some pe)]] :: Box pv [.func (.yield l) #[] #[]] :: Box pn [.int .i64 n] :: B y1) rfl ?_
     refine .nil ?_
     refine .ja (M := [8]) (C' := [5]) (pre := [(9, .slice a8 (([i] : List Int).length) 1)]) [(0, .slice a pre.length c), (3, .pointer (some pe)), (6, .int .i64 i), (14, .int .i64 n), (15, .int .i64 i)] [0, 3, 6, 14, 15] hL rfl rfl rfl rfl rfl (.cons rfl (.cons rfl (.cons rfl (.cons rfl (.cons rfl (.nil)))))) rfl rfl (by kernel_rfl) ?_
     refine .step [10] 10 rfl (by kernel_rfl) (by kernel_rfl) (.gv [(22, .bool (!r3))] rfl rfl rfl rfl qn rfl rfl rfl rfl (fun _ => ld1 rfl tO178 (cellB (off := 0) (k := 2) rfl rfl)) (.nil)) (.cons [(25, .slice a7 r4.length c3), (27, .slice a8 (([i] : List Int).length) 1), (25, .slice a7 r4.length c3), (22, .bool (!r3))] rfl rfl (fun sL hL => ?_) (.nil))
     refine .gR rfl rfl rfl qn ?_
     have q9 : r4.length + ([i] : List Int).length = ((r4 ++ ([i] : List Int))).length := len_app rfl rfl
     refine app (k := 1) (news := flL ([i] : List Int)) (cs' := flL (r4 ++ ([i] : List Int))) (nm := ((r4 ++ ([i] : List Int))).length) tS22 rfl (by decide) rfl rfl rfl ((flL_len _).trans rfl) (srcS (k := 0) rfl) (flL_one _) (room_of q9 (hroom r4 h4)).1 (room_of q9 (hroom r4 h4)).2 q9 (flL_append _ _).symm rfl (fun a9 c4 => ?_)
     refine .cast (A' := OwnSl 3 1 a8 (([i] : List Int).length) 1 (flL ([i] : List Int)) :: OwnSl 3 1 a9 ((r4 ++ ([i] : List Int)).length) c4 (flL (r4 ++ ([i] : List Int))) :: Box pe [.func (.func 95) #[] #[.pointer (some pn), .pointer (some pv), .pointer (some pe)]] :: Box pv [.func (.yield l) #[] #[]] :: Box pn [.int .i64 n] :: B y1) rfl ?_
     refine .nil ?_
     refine .ja (M := []) (C' := [5]) (pre := [(10, .slice a9 ((r4 ++ ([i] : List Int)).length) c4)]) [(0, .slice a pre.length c), (3, .pointer (some pe)), (6, .int .i64 i), (14, .int .i64 n), (15, .int .i64 i)] [0, 3, 6, 14, 15] hL rfl rfl rfl rfl rfl (.cons rfl (.cons rfl (.cons rfl (.cons rfl (.cons rfl (.nil)))))) rfl rfl (by kernel_rfl) ?_
     refine .step [11] 11 rfl (by kernel_rfl) (by kernel_rfl) (.gv [(22, .bool (!r3))] rfl rfl rfl rfl qn rfl rfl rfl rfl (fun _ => ld1 rfl tO178 (cellB (off := 0) (k := 2) rfl rfl)) (.nil)) (.cons [(23, .func (.func 95) #[] #[.pointer (some pn), .pointer (some pv), .pointer (some pe)]), (28, .slice a9 ((r4 ++ ([i] : List Int)).length) c4), (28, .slice a9 ((r4 ++ ([i] : List Int)).length) c4), (22, .bool (!r3))] rfl rfl (fun sL hL => ?_) (.nil))
     refine .gR rfl rfl rfl qn ?_
     refine .freezeL (k := 1) rfl (fun hz lez lenz rz => ?_)
     refine .drop (.drop ?_)
     refine ih (r4 ++ [i]) (by rw [List.length_append, List.length_singleton, h4]; omega) (by rw [List.length_append, List.length_singleton, h4]; omega) (by rw [h4]; exact good) (h := hz) (z := z ++ (allS q).flatMap fun p => if p ∈ pre then [] else perms n k (pre ++ [p])) (y := y1) rfl rfl rfl lenz (RSl.of rz) (hI _ _ _ _ lez hI1) (by have := flat_mono (fun p => if p ∈ pre then [] else perms n k (pre ++ [p])) n.toNat q (by omega); rw [← hq, if_neg hni] at this; rw [h4, List.length_append]; omega) (fun y2 h2 le2 hI2 => ?_)
     refine .nil ?_
     refine .ja (M := [5]) (C' := [12, 13]) (pre := [(11, .bool true), (12, .bool (!true)), (13, .bool (!true))]) [(0, .slice a pre.length c), (3, .pointer (some pe)), (6, .int .i64 i), (14, .int .i64 n), (15, .int .i64 i)] [0, 3, 6, 14, 15] hL rfl rfl rfl rfl rfl (.cons rfl (.cons rfl (.cons rfl (.cons rfl (.cons rfl (.nil)))))) rfl rfl (by kernel_rfl) ?_
     refine .last [(18, .slice a pre.length c), (19, .int .i64 i), (20, .bool r3), (21, .bool (!r3)), (22, .bool (!r3)), (23, .func (.func 95) #[] #[.pointer (some pn), .pointer (some pv), .pointer (some pe)]), (24, .slice a pre.length c), (25, .slice a7 r4.length c3), (26, .int .i64 i), (27, .slice a8 (([i] : List Int).length) 1), (28, .slice a9 ((r4 ++ ([i] : List Int)).length) c4), (29, .bool true), (30, .bool (!true)), (31, .bool (!true))] rfl (by kernel_rfl) (.gv [(29, .bool true), (22, .bool (!r3))] rfl rfl rfl rfl qn rfl rfl rfl rfl (fun _ => nt rfl) (.v [(22, .bool (!r3)), (30, .bool (!true))] rfl rfl rfl rfl rfl rfl (fun _ => pkT rfl qn rfl) (.nil))) rfl ?_
     refine .use sh (y2, h2) ⟨FH.le_trans lez le2, ?_⟩ (.cons rfl (.cons rfl (.cons rfl (.cons rfl (.cons rfl (.nil)))))) rfl (FH.le_refl _)
     rw [h4] at hI2
     rw [nx, if_neg hni]
     exact hI2
    ·skip
     refine .gR rfl rfl rfl qn ?_
     refine bs2 (cs := #[.int .i64 i]) (pv := [(0, .int .i64 i)]) tS22 rfl rfl (by decide) (by decide) rfl rfl rfl (fun a7 _ => ?_)
     refine .cast (A' := OwnSl 3 1 a7 (([i] : List Int).length) 1 (flL ([i] : List Int)) :: Box pe [.func (.func 95) #[] #[.pointer (some pn), .pointer (some pv), .pointer (some pe)]] :: Box pv [.func (.yield l) #[] #[]] :: Box pn [.int .i64 n] :: B y1) rfl ?_
     refine .nil ?_
     refine .ja (M := [8, 4, 3, 2, 0, 1]) (C' := [5, 6]) (pre := [(9, .slice a7 (([i] : List Int).length) 1)]) [(0, .slice a pre.length c), (3, .pointer (some pe)), (6, .int .i64 i), (14, .int .i64 n), (15, .int .i64 i)] [0, 3, 6, 14, 15] hL rfl rfl rfl rfl rfl (.cons rfl (.cons rfl (.cons rfl (.cons rfl (.cons rfl (.nil)))))) rfl rfl (by kernel_rfl) ?_
     refine .step [7] 7 rfl (by kernel_rfl) (by kernel_rfl) (.gv [(22, .bool (!r3))] rfl rfl rfl rfl qn rfl rfl rfl rfl (fun _ => ld1 rfl tO178 (cellB (off := 0) (k := 1) rfl rfl)) (.gv [(22, .bool (!r3))] rfl rfl rfl rfl qn rfl rfl rfl rfl (fun _ => mv rfl) (.nil))) (.cons [(24, .slice a pre.length c), (22, .bool (!r3)), (22, .bool (!r3))] rfl rfl (fun sL hL => ?_) (.nil))
     obtain ⟨r4, q4⟩ : ∃ y_ : List Int, y_ = sp_clone pre := ⟨_, rfl⟩
     have h4 : r4 = pre := q4
     refine .gR rfl rfl rfl qn ?_
     refine clO (α := Option Addr × Nat) (V := fun z => .slice z.1 r4.length z.2) (Ψ := fun z => True) (B := fun z => [OwnSl 3 1 z.1 r4.length z.2 (flL r4)]) Tryz.call26 rfl rfl (fun w S => (by rw [q4]; exact c_cloneO S.sub pre a c (hr.mono hle1) hc hcl)) rfl (fun z _ => ?_)
     obtain ⟨a8, c3⟩ := z
     refine .cast (A' := OwnSl 3 1 a8 r4.length c3 (flL r4) :: OwnSl 3 1 a7 (([i] : List Int).length) 1 (flL ([i] : List Int)) :: Box pe [.func (.func 95) #[] #[.pointer (some pn), .pointer (some pv), .pointer (some pe)]] :: Box pv [.func (.yield l) #[] #[]] :: Box pn [.int .i64 n] :: B y1) rfl ?_
     refine .nil ?_
     refine .ja (M := [6]) (C' := [5]) (pre := [(7, .slice a8 r4.length c3)]) [(0, .slice a pre.length c), (3, .pointer (some pe)), (6, .int .i64 i), (14, .int .i64 n), (15, .int .i64 i)] [0, 3, 6, 14, 15] hL rfl rfl rfl rfl rfl (.cons rfl (.cons rfl (.cons rfl (.cons rfl (.cons rfl (.nil)))))) rfl rfl (by kernel_rfl) ?_
     refine .step [10] 10 rfl (by kernel_rfl) (by kernel_rfl) (.gv [(22, .bool (!r3))] rfl rfl rfl rfl qn rfl rfl rfl rfl (fun _ => ld1 rfl tO178 (cellB (off := 0) (k := 2) rfl rfl)) (.nil)) (.cons [(25, .slice a8 r4.length c3), (27, .slice a7 (([i] : List Int).length) 1), (25, .slice a8 r4.length c3), (22, .bool (!r3))] rfl rfl (fun sL hL => ?_) (.nil))
     refine .gR rfl rfl rfl qn ?_
     have q9 : r4.length + ([i] : List Int).length = ((r4 ++ ([i] : List Int))).length := len_app rfl rfl
     refine app (k := 0) (news := flL ([i] : List Int)) (cs' := flL (r4 ++ ([i] : List Int))) (nm := ((r4 ++ ([i] : List Int))).length) tS22 rfl (by decide) rfl rfl rfl ((flL_len _).trans rfl) (srcS (k := 1) rfl) (flL_one _) (room_of q9 (hroom r4 h4)).1 (room_of q9 (hroom r4 h4)).2 q9 (flL_append _ _).symm rfl (fun a9 c4 => ?_)
     refine .cast (A' := OwnSl 3 1 a9 ((r4 ++ ([i] : List Int)).length) c4 (flL (r4 ++ ([i] : List Int))) :: OwnSl 3 1 a7 (([i] : List Int).length) 1 (flL ([i] : List Int)) :: Box pe [.func (.func 95) #[] #[.pointer (some pn), .pointer (some pv), .pointer (some pe)]] :: Box pv [.func (.yield l) #[] #[]] :: Box pn [.int .i64 n] :: B y1) rfl ?_
     refine .nil ?_
     refine .ja (M := []) (C' := [5]) (pre := [(10, .slice a9 ((r4 ++ ([i] : List Int)).length) c4)]) [(0, .slice a pre.length c), (3, .pointer (some pe)), (6, .int .i64 i), (14, .int .i64 n), (15, .int .i64 i)] [0, 3, 6, 14, 15] hL rfl rfl rfl rfl rfl (.cons rfl (.cons rfl (.cons rfl (.cons rfl (.cons rfl (.nil)))))) rfl rfl (by kernel_rfl) ?_
     refine .step [11] 11 rfl (by kernel_rfl) (by kernel_rfl) (.gv [(22, .bool (!r3))] rfl rfl rfl rfl qn rfl rfl rfl rfl (fun _ => ld1 rfl tO178 (cellB (off := 0) (k := 2) rfl rfl)) (.nil)) (.cons [(23, .func (.func 95) #[] #[.pointer (some pn), .pointer (some pv), .pointer (some pe)]), (28, .slice a9 ((r4 ++ ([i] : List Int)).length) c4), (28, .slice a9 ((r4 ++ ([i] : List Int)).length) c4), (22, .bool (!r3))] rfl rfl (fun sL hL => ?_) (.nil))
     refine .gR rfl rfl rfl qn ?_
     refine .freezeL (k := 0) rfl (fun hz lez lenz rz => ?_)
     refine .drop (.drop ?_)
     refine ih (r4 ++ [i]) (by rw [List.length_append, List.length_singleton, h4]; omega) (by rw [List.length_append, List.length_singleton, h4]; omega) (by rw [h4]; exact good) (h := hz) (z := z ++ (allS q).flatMap fun p => if p ∈ pre then [] else perms n k (pre ++ [p])) (y := y1) rfl rfl rfl lenz (RSl.of rz) (hI _ _ _ _ lez hI1) (by have := flat_mono (fun p => if p ∈ pre then [] else perms n k (pre ++ [p])) n.toNat q (by omega); rw [← hq, if_neg hni] at this; rw [h4, List.length_append]; omega) (fun y2 h2 le2 hI2 => ?_)
     refine .nil ?_
     refine .ja (M := [5]) (C' := [12, 13]) (pre := [(11, .bool true), (12, .bool (!true)), (13, .bool (!true))]) [(0, .slice a pre.length c), (3, .pointer (some pe)), (6, .int .i64 i), (14, .int .i64 n), (15, .int .i64 i)] [0, 3, 6, 14, 15] hL rfl rfl rfl rfl rfl (.cons rfl (.cons rfl (.cons rfl (.cons rfl (.cons rfl (.nil)))))) rfl rfl (by kernel_rfl) ?_
     refine .last [(18, .slice a pre.length c), (19, .int .i64 i), (20, .bool r3), (21, .bool (!r3)), (22, .bool (!r3)), (23, .func (.func 95) #[] #[.pointer (some pn), .pointer (some pv), .pointer (some pe)]), (24, .slice a pre.length c), (25, .slice a8 r4.length c3), (26, .int .i64 i), (27, .slice a7 (([i] : List Int).length) 1), (28, .slice a9 ((r4 ++ ([i] : List Int)).length) c4), (29, .bool true), (30, .bool (!true)), (31, .bool (!true))] rfl (by kernel_rfl) (.gv [(29, .bool true), (22, .bool (!r3))] rfl rfl rfl rfl qn rfl rfl rfl rfl (fun _ => nt rfl) (.v [(22, .bool (!r3)), (30, .bool (!true))] rfl rfl rfl rfl rfl rfl (fun _ => pkT rfl qn rfl) (.nil))) rfl ?_
     refine .use sh (y2, h2) ⟨FH.le_trans lez le2, ?_⟩ (.cons rfl (.cons rfl (.cons rfl (.cons rfl (.cons rfl (.nil)))))) rfl (FH.le_refl _)
     rw [h4] at hI2
     rw [nx, if_neg hni]
     exact hI2
   have hin : i ∈ pre := by
    rw [hr3] at qn
    unfold sp_contains at qn
    simpa using qn
   refine .openA (s0 := [(0, .slice a pre.length c), (3, .pointer (some pe)), (6, .int .i64 i), (14, .int .i64 n), (15, .int .i64 i)]) [0, 1, 2, 3, 4, 5, 6, 7, 8, 9, 10, 11, 12, 13] [(0, .slice a pre.length c), (1, .int .i64 i), (2, .bool r3), (3, .bool (!r3)), (4, .bool (!r3)), (5, undef), (6, undef), (7, undef), (8, undef), (9, undef), (10, undef), (11, undef), (12, undef), (13, .bool false)] (by kernel_rfl) (.cons rfl (.cons rfl (.cons rfl (.cons rfl (.cons rfl (.nil)))))) [0, 3, 6, 14, 15] [] rfl (by kernel_rfl) ?_
   refine .last [(18, .slice a pre.length c), (19, .int .i64 i), (20, .bool r3), (21, .bool (!r3)), (22, .bool (!r3)), (23, undef), (24, undef), (25, undef), (26, undef), (27, undef), (28, undef), (29, undef), (30, undef), (31, .bool false)] rfl (by kernel_rfl) (.v [] rfl rfl rfl rfl rfl rfl (fun _ => mv rfl) (.v [] rfl rfl rfl rfl rfl rfl (fun _ => mv rfl) (.c [(18, .slice a pre.length c), (19, .int .i64 i)] rfl rfl rfl rfl rfl rfl (fun _ => cl (v := .bool r3) Tryz.call89 rfl rfl (fun w S => (by rw [hr3]; exact c_contains S.sub pre a c (hr.mono hle1) hc i hpc))) (.v [(20, .bool r3)] rfl rfl rfl rfl rfl rfl (fun _ => nt rfl) (.v [(21, .bool (!r3)), (20, .bool r3)] rfl rfl rfl rfl rfl rfl (fun _ => mv rfl) (.gS [(22, .bool (!r3))] rfl rfl rfl rfl qn rfl rfl rfl rfl (.gS [(22, .bool (!r3))] rfl rfl rfl rfl qn rfl rfl rfl rfl (.gS [(24, undef), (22, .bool (!r3)), (22, .bool (!r3))] rfl rfl rfl rfl qn rfl rfl rfl rfl (.gS [(22, .bool (!r3))] rfl rfl rfl rfl qn rfl rfl rfl rfl (.gS [(26, undef), (22, .bool (!r3))] rfl rfl rfl rfl qn rfl rfl rfl rfl (.gS [(25, undef), (27, undef), (25, undef), (22, .bool (!r3))] rfl rfl rfl rfl qn rfl rfl rfl rfl (.gS [(23, undef), (28, undef), (28, undef), (22, .bool (!r3))] rfl rfl rfl rfl qn rfl rfl rfl rfl (.gS [(29, undef), (22, .bool (!r3))] rfl rfl rfl rfl qn rfl rfl rfl rfl (.v [(22, .bool (!r3)), (30, undef)] rfl rfl rfl rfl rfl rfl (fun _ => pkF rfl qn rfl) (.nil))))))))))))))) rfl ?_
   refine .use sh (y1, h1) ⟨FH.le_refl _, ?_⟩ (.cons rfl (.cons rfl (.cons rfl (.cons rfl (.cons rfl (.nil)))))) rfl (FH.le_refl _)
   rw [nx, if_pos hin, List.append_nil]
   exact hI1
  have hge : ¬ i < n := of_decide_eq_false q2
  have hqe : q = n.toNat := by omega
  rw [hqe] at hI1
  refine .exit ?_
  refine .seqX ?_
  refine .seqX ?_
  refine .blkX ?_
  refine .seqN ?_
  refine .seq ?_
  refine .region ?_
  refine .v (asg rfl) rfl rfl rfl ?_
  refine .nil ?_
  refine .seqN ?_
  refine .ret ?_
  refine .res1 rfl (rvT rfl) (inl_back (v := .bool true) H hd (hk y1 h1 hle1 hI1))
def symRows (t : Task) (z : List (List Int)) : List (List Int) := z.filter fun perm => (sp_symOps t perm).2
theorem symRows_yes {t : Task} {z : List (List Int)} {p : List Int} (h : (sp_symOps t p).2 = true) : symRows t (z ++ [p]) = symRows t z ++ [p] := by
 unfold symRows
 rw [List.filter_append, List.filter_cons, if_pos h]
 rfl
theorem symRows_no {t : Task} {z : List (List Int)} {p : List Int} (h : (sp_symOps t p).2 = false) : symRows t (z ++ [p]) = symRows t z := by
 unfold symRows
 rw [List.filter_append, List.filter_cons, if_neg (by rw [h]; decide), List.filter_nil, List.append_nil]
def SymI (t : Task) (h : FH) (z : List (List Int)) (h1 : FH) (y : Option Addr × Nat × Nat × List Value) : Prop := FH.le h h1 ∧ y.2.1 = (symRows t z).length ∧ RepL h1 (symRows t z) y.2.2.2
set_option maxHeartbeats 8000000 in
theorem c_symAll {h : FH} {w : World} (hs : Sub h w) (t : Task) (at_ : Option Addr) (ct : Nat) (_q1 : RSl h at_ t.init) (_q2 : t.init.length ≤ ct) (at_2 : Option Addr) (ct2 : Nat) (_q3 : RSl h at_2 t.goal) (_q4 : t.goal.length ≤ ct2) (at_3 : Option Addr) (ct3 : Nat) (_q5 : RSl h at_3 t.ops) (_q6 : t.ops.length ≤ ct3) (hp : pre_symAll t) : Calls Tryz.prog 27 #[.agg #[.int .i64 t.facts, .slice at_ t.init.length ct, .slice at_2 t.goal.length ct2, .slice at_3 t.ops.length ct3]] w fun e w' => ∃ (z : Option Addr × Nat) (h1 : FH), e = .returned (.slice z.1 (sp_symAll t).length z.2) ∧ FH.le h h1 ∧ (RSl h1 z.1 (sp_symAll t) ∧ (sp_symAll t).length ≤ z.2) ∧ SH (Kp.all w h) h1 w' [] := by
 have tk := taskOK_of hp.1
 have hf := tk.facts
 have h6 := hp.2
 refine enterM (args := [.agg #[.int .i64 t.facts, .slice at_ t.init.length ct, .slice at_2 t.goal.length ct2, .slice at_3 t.ops.length ct3]]) Tryz.func27 rfl Tryz.ntmps27 rfl hs ?_
 refine .seq ?_
 refine .region ?_
 refine bx (vs := [.int .i64 t.facts, .slice at_ t.init.length ct, .slice at_2 t.goal.length ct2, .slice at_3 t.ops.length ct3]) rfl rfl rfl (fun pt => ?_)
 refine .v (asg rfl) rfl rfl rfl ?_
 refine .nil ?_
 refine .seqN ?_
 refine .seq ?_
 refine .region ?_
 refine al tZ68 rfl (fun pout => ?_)
 refine .nil ?_
 refine .seqN ?_
 refine .seq ?_
 refine .seq ?_
 refine .region ?_
 refine .v (fa rfl tF25_0) rfl rfl rfl ?_
 refine .v (ld1 rfl tO3 (cellB (off := 0) (k := 1) rfl rfl)) rfl rfl rfl ?_
 refine .inl Tryz.func60 rfl Tryz.ntmps60 Tryz.call60 rfl rfl rfl rfl (fun a q7 => ?_)
 refine .seq ?_
 refine .region ?_
 refine bx (vs := [.int .i64 t.facts]) rfl rfl rfl (fun pn => ?_)
 refine .v (asg rfl) rfl rfl rfl ?_
 refine .nil ?_
 refine .seqN ?_
 refine .seq ?_
 refine .region ?_
 refine .v (mkf (vf := []) (vc := [.pointer (some pn)]) rfl rfl) rfl rfl rfl ?_
 refine .v (asg rfl) rfl rfl rfl ?_
 refine .nil ?_
 refine .seqN ?_
 refine .ret ?_
 refine .res1 rfl (rvT rfl) (inl_back (v := .func (.func 94) #[] #[.pointer (some pn)]) q7 rfl ?_)
 refine .cast (A' := [Box pn [.int .i64 t.facts], Box pout [.slice none 0 0], Box pt [.int .i64 t.facts, .slice at_ t.init.length ct, .slice at_2 t.goal.length ct2, .slice at_3 t.ops.length ct3], MkA []]) rfl ?_
 refine .nil ?_
 refine .seqN ?_
 refine .block ?_
 refine .sub (s' := [(1, .pointer (some pt)), (3, .pointer (some pout)), (9, .func (.func 94) #[] #[.pointer (some pn)])]) (.cons rfl (.cons rfl (.cons rfl (.nil)))) ?_
 refine .rangeF (k := 3) (caps := [.pointer (some pn)]) rfl rfl Tryz.func94 rfl Tryz.ntmps94 rfl Tryz.call94 (fun l D LA a2 q21 q22 => ?_)
 refine .cast (A' := [LA .ready none, Box pn [.int .i64 t.facts], Box pout [.slice none 0 0], Box pt [.int .i64 t.facts, .slice at_ t.init.length ct, .slice at_2 t.goal.length ct2, .slice at_3 t.ops.length ct3], MkA (D :: [])]) rfl ?_
 refine .seq ?_
 refine .region ?_
 refine bx (vs := [.func (.yield l) #[] #[]]) rfl rfl rfl (fun pv => ?_)
 refine .nil ?_
 refine .seqN ?_
 refine .seq ?_
 refine .region ?_
 refine al tZ178 rfl (fun pe => ?_)
 refine .nil ?_
 refine .seqN ?_
 refine .seq ?_
 refine .region ?_
 refine .v (mkf (vf := []) (vc := [.pointer (some pn), .pointer (some pv), .pointer (some pe)]) rfl rfl) rfl rfl rfl ?_
 refine st (p := pe) (off := 0) (k := 0) (vs := [.func (.func 95) #[] #[.pointer (some pn), .pointer (some pv), .pointer (some pe)]]) rfl rfl rfl (fun w => (tO178 w).2) rfl rfl rfl rfl ?_
 refine .cast (A' := [Box pe [.func (.func 95) #[] #[.pointer (some pn), .pointer (some pv), .pointer (some pe)]], Box pv [.func (.yield l) #[] #[]], LA .ready none, Box pn [.int .i64 t.facts], Box pout [.slice none 0 0], Box pt [.int .i64 t.facts, .slice at_ t.init.length ct, .slice at_2 t.goal.length ct2, .slice at_3 t.ops.length ct3], MkA (D :: [])]) rfl ?_
 refine .nil ?_
 refine .seqN ?_
 refine .nilSl 22 1 ?_
 refine .sel0 [1, 2, 4, 3, 0, 5, 6, 7] (by decide) rfl ?_
 refine .cast (A' := Box pe [.func (.func 95) #[] #[.pointer (some pn), .pointer (some pv), .pointer (some pe)]] :: Box pv [.func (.yield l) #[] #[]] :: Box pn [.int .i64 t.facts] :: [LA .ready none, OwnSl 22 1 none 0 0 [], Box pout [.slice none 0 0], Box pt [.int .i64 t.facts, .slice at_ t.init.length ct, .slice at_2 t.goal.length ct2, .slice at_3 t.ops.length ct3], MkA (D :: [])]) rfl ?_
 refine .region ?_
 refine .v (ld1 rfl tO178 (cellB (off := 0) (k := 0) rfl rfl)) rfl rfl rfl ?_
 have mono : ∀ (z : List (List Int)) (h1 h2 : FH) (y : Option Addr × Nat × Nat × List Value), FH.le h1 h2 → SymI t h z h1 y → SymI t h z h2 y := fun z h1 h2 y hle ⟨i1, i2, i3⟩ => ⟨FH.le_trans i1 hle, i2, i3.mono hle⟩
 refine ext_call (I := SymI t h) (B := fun y => [LA .ready none, OwnSl 22 1 y.1 y.2.1 y.2.2.1 y.2.2.2, Box pout [.slice y.1 y.2.1 y.2.2.1], Box pt [.int .i64 t.facts, .slice at_ t.init.length ct, .slice at_2 t.goal.length ct2, .slice at_3 t.ops.length ct3], MkA (D :: [])]) mono ⟨hf.1, h6⟩ ?_ 7 [] (by simpa using hf.1) (by simp only [List.length_nil]; omega) (fun p hp => absurd hp (by simp)) (h := h) (z := []) (y := (none, 0, 0, [])) (c := 0) (a := none) rfl rfl rfl (Nat.le_refl 0) RSl.nil_ ⟨FH.le_refl _, rfl, rfl⟩ (by have := perms_len h6 7 []; simp only [List.length_nil]; omega) (fun y' h' hle hi' => ?_)
 ·intro m dl ops rest Q s d x ax ts ty pos af h1 z y pre a c hx hax hd hc hr ⟨hpl, hpr⟩ ⟨hle, hm, hrep⟩ hz hk
  obtain ⟨ya, ym, yc, ycs⟩ := y
  simp only at hm hrep
  subst hm
  refine .cast (A' := Box pe [.func (.func 95) #[] #[.pointer (some pn), .pointer (some pv), .pointer (some pe)]] :: Box pv [.func (.yield l) #[] #[]] :: Box pn [.int .i64 t.facts] :: [LA .ready none, OwnSl 22 1 ya (symRows t z).length yc ycs, Box pout [.slice ya (symRows t z).length yc], Box pt [.int .i64 t.facts, .slice at_ t.init.length ct, .slice at_2 t.goal.length ct2, .slice at_3 t.ops.length ct3], MkA (D :: [])]) rfl ?_
  refine .yld (k := 3) (vs := [.slice a pre.length c]) q21 rfl hx (by show evs s [ax] = _; simp [evs, hax]) rfl rfl (fun aG q24 => ?_)
  refine .sub (s' := [(1, .pointer (some pt)), (3, .pointer (some pout)), (10, .slice a pre.length c)]) (.cons rfl (.cons rfl (.cons rfl (.nil)))) ?_
  refine .region ?_
  refine .v (asg rfl) rfl rfl rfl ?_
  refine .nil ?_
  refine .begin_ (k := 3) q21 rfl ?_
  refine .cast (A' := Box pe [.func (.func 95) #[] #[.pointer (some pn), .pointer (some pv), .pointer (some pe)]] :: Box pv [.func (.yield l) #[] #[]] :: Box pn [.int .i64 t.facts] :: [LA .busy none, OwnSl 22 1 ya (symRows t z).length yc ycs, Box pout [.slice ya (symRows t z).length yc], Box pt [.int .i64 t.facts, .slice at_ t.init.length ct, .slice at_2 t.goal.length ct2, .slice at_3 t.ops.length ct3], MkA (D :: [])]) rfl ?_
  refine .block ?_
  refine .seq ?_
  refine .region ?_
  refine .v (ldA (cs := [.int .i64 t.facts, .slice at_ t.init.length ct, .slice at_2 t.goal.length ct2, .slice at_3 t.ops.length ct3]) rfl tA25 rfl (cellsB (off := 0) (k := 6) rfl (m := 4) rfl)) rfl rfl rfl ?_
  refine .v (mv rfl) rfl rfl rfl ?_
  obtain ⟨r2, q26⟩ : ∃ y_ : List Int × Bool, y_ = sp_symOps t pre := ⟨_, rfl⟩
  refine clR (α := Option Addr × Nat) (Φ := fun h1 z => RSl h1 z.1 r2.1 ∧ r2.1.length ≤ z.2) (V := fun z => .tuple #[.slice z.1 r2.1.length z.2, .bool r2.2]) Tryz.call61 rfl rfl (fun w S => (by rw [q26]; exact c_symOps S.sub t at_ ct (_q1.mono hle) _q2 at_2 ct2 (_q3.mono hle) _q4 at_3 ct3 (_q5.mono hle) _q6 pre a c hr hc ⟨hp.1, hpl⟩)) rfl (fun z0 h2 le2 hz0 => ?_)
  obtain ⟨a4, c4⟩ := z0
  refine .v (mv rfl) rfl rfl rfl ?_
  refine .v (ext rfl rfl) rfl rfl rfl ?_
  refine .v (ext rfl rfl) rfl rfl rfl ?_
  refine .v (asg rfl) rfl rfl rfl ?_
  refine .v (asg rfl) rfl rfl rfl ?_
  refine .nil ?_
  refine .seqN ?_
  refine .seq ?_
  refine .region ?_
  refine .v (mv rfl) rfl rfl rfl ?_
  refine .nil ?_
  refine .seqN ?_
  refine .cond rfl (fun q29 => ?_) (fun q29 => ?_)
  ·rw [q26] at q29
   have hlen : (symRows t z).length ≤ z.length := List.length_filter_le _ _
   have rp : RepL h2 ([pre] : List (List Int)) [.slice a pre.length c] := ⟨[.slice a pre.length c], _, rfl, ⟨a, c, rfl, hc, hr.mono le2⟩, rfl⟩
   have hroom : room (symRows t z ++ [pre]).length 24 := by rw [List.length_append, List.length_singleton]; exact ⟨by simp only [maxLen]; omega, by omega⟩
   refine .region ?_
   refine .v (ld1 rfl tO68 (cellB (off := 0) (k := 5) rfl rfl)) rfl rfl rfl ?_
   refine .v (mv rfl) rfl rfl rfl ?_
   refine bs2 (cs := #[.slice a pre.length c]) (pv := [(0, .slice a pre.length c)]) tS68 rfl rfl (by decide) (by decide) rfl rfl rfl (fun a5 _ => ?_)
   refine .cast (A' := OwnSl 22 1 a5 (([pre] : List (List Int)).length) 1 [.slice a pre.length c] :: Box pe [.func (.func 95) #[] #[.pointer (some pn), .pointer (some pv), .pointer (some pe)]] :: Box pv [.func (.yield l) #[] #[]] :: Box pn [.int .i64 t.facts] :: [LA .busy none, OwnSl 22 1 ya (symRows t z).length yc ycs, Box pout [.slice ya (symRows t z).length yc], Box pt [.int .i64 t.facts, .slice at_ t.init.length ct, .slice at_2 t.goal.length ct2, .slice at_3 t.ops.length ct3], MkA (D :: [])]) rfl ?_
   have q32 : (symRows t z).length + ([pre] : List (List Int)).length = (symRows t z ++ [pre]).length := len_app rfl rfl
   have q33 := RepL.append (hrep.mono le2) rp
   refine app (k := 5) (news := [.slice a pre.length c]) (cs' := (ycs ++ [.slice a pre.length c])) (nm := (symRows t z ++ [pre]).length) tS68 rfl (by decide) rfl rfl rfl (RepL.len rp) (srcS (k := 0) rfl) (RepL.one rp) (room_of q32 hroom).1 (room_of q32 hroom).2 q32 rfl rfl (fun a6 c6 => ?_)
   refine .cast (A' := OwnSl 22 1 a5 (([pre] : List (List Int)).length) 1 [.slice a pre.length c] :: Box pe [.func (.func 95) #[] #[.pointer (some pn), .pointer (some pv), .pointer (some pe)]] :: Box pv [.func (.yield l) #[] #[]] :: Box pn [.int .i64 t.facts] :: [LA .busy none, OwnSl 22 1 a6 (symRows t z ++ [pre]).length c6 (ycs ++ [.slice a pre.length c]), Box pout [.slice ya (symRows t z).length yc], Box pt [.int .i64 t.facts, .slice at_ t.init.length ct, .slice at_2 t.goal.length ct2, .slice at_3 t.ops.length ct3], MkA (D :: [])]) rfl ?_
   refine st (p := pout) (off := 0) (k := 6) (vs := [.slice a6 (symRows t z ++ [pre]).length c6]) rfl rfl rfl (fun w => (tO68 w).2) rfl rfl rfl rfl ?_
   refine .cast (A' := OwnSl 22 1 a5 (([pre] : List (List Int)).length) 1 [.slice a pre.length c] :: Box pe [.func (.func 95) #[] #[.pointer (some pn), .pointer (some pv), .pointer (some pe)]] :: Box pv [.func (.yield l) #[] #[]] :: Box pn [.int .i64 t.facts] :: [LA .busy none, OwnSl 22 1 a6 (symRows t z ++ [pre]).length c6 (ycs ++ [.slice a pre.length c]), Box pout [.slice a6 (symRows t z ++ [pre]).length c6], Box pt [.int .i64 t.facts, .slice at_ t.init.length ct, .slice at_2 t.goal.length ct2, .slice at_3 t.ops.length ct3], MkA (D :: [])]) rfl ?_
   refine .nil ?_
   refine .blkN ?_
   refine .rdN (k := 4) q21 rfl q24 hd ?_
   refine .cast (A' := OwnSl 22 1 a5 (([pre] : List (List Int)).length) 1 [.slice a pre.length c] :: Box pe [.func (.func 95) #[] #[.pointer (some pn), .pointer (some pv), .pointer (some pe)]] :: Box pv [.func (.yield l) #[] #[]] :: Box pn [.int .i64 t.facts] :: [LA .ready none, OwnSl 22 1 a6 (symRows t z ++ [pre]).length c6 (ycs ++ [.slice a pre.length c]), Box pout [.slice a6 (symRows t z ++ [pre]).length c6], Box pt [.int .i64 t.facts, .slice at_ t.init.length ct, .slice at_2 t.goal.length ct2, .slice at_3 t.ops.length ct3], MkA (D :: [])]) rfl ?_
   refine .drop ?_
   exact hk (a6, (symRows t z ++ [pre]).length, c6, ycs ++ [.slice a pre.length c]) h2 le2 ⟨FH.le_trans hle le2, by rw [symRows_yes q29], by rw [symRows_yes q29]; exact q33⟩
  rw [q26] at q29
  refine .skip ?_
  refine .blkN ?_
  refine .rdN (k := 3) q21 rfl q24 hd ?_
  refine .cast (A' := Box pe [.func (.func 95) #[] #[.pointer (some pn), .pointer (some pv), .pointer (some pe)]] :: Box pv [.func (.yield l) #[] #[]] :: Box pn [.int .i64 t.facts] :: [LA .ready none, OwnSl 22 1 ya (symRows t z).length yc ycs, Box pout [.slice ya (symRows t z).length yc], Box pt [.int .i64 t.facts, .slice at_ t.init.length ct, .slice at_2 t.goal.length ct2, .slice at_3 t.ops.length ct3], MkA (D :: [])]) rfl ?_
  exact hk (ya, (symRows t z).length, yc, ycs) h2 le2 ⟨FH.le_trans hle le2, by rw [symRows_no q29], by rw [symRows_no q29]; exact hrep.mono le2⟩
 obtain ⟨ya, ym, yc, ycs⟩ := y'
 obtain ⟨hle1, hm, hrep⟩ := hi'
 simp only [List.nil_append] at hm hrep
 have hrows : symRows t (perms t.facts 7 []) = sp_symAll t := rfl
 rw [hrows] at hm hrep
 subst hm
 refine .cast (A' := Box pe [.func (.func 95) #[] #[.pointer (some pn), .pointer (some pv), .pointer (some pe)]] :: Box pv [.func (.yield l) #[] #[]] :: Box pn [.int .i64 t.facts] :: [LA .ready none, OwnSl 22 1 ya (sp_symAll t).length yc ycs, Box pout [.slice ya (sp_symAll t).length yc], Box pt [.int .i64 t.facts, .slice at_ t.init.length ct, .slice at_2 t.goal.length ct2, .slice at_3 t.ops.length ct3], MkA (D :: [])]) rfl ?_
 refine .nil ?_
 refine .res0 (.inr rfl) rfl (range_done (k := 3) q21 rfl q22 ?_)
 refine .cast (A' := Box pe [.func (.func 95) #[] #[.pointer (some pn), .pointer (some pv), .pointer (some pe)]] :: Box pv [.func (.yield l) #[] #[]] :: Box pn [.int .i64 t.facts] :: [tru, OwnSl 22 1 ya (sp_symAll t).length yc ycs, Box pout [.slice ya (sp_symAll t).length yc], Box pt [.int .i64 t.facts, .slice at_ t.init.length ct, .slice at_2 t.goal.length ct2, .slice at_3 t.ops.length ct3], MkA (D :: [])]) rfl ?_
 refine .blkN ?_
 refine .seqN ?_
 refine .seq ?_
 refine .region ?_
 refine .v (ld1 rfl tO68 (cellB (off := 0) (k := 5) rfl rfl)) rfl rfl rfl ?_
 refine .v (asg rfl) rfl rfl rfl ?_
 refine .nil ?_
 refine .seqN ?_
 refine .freezeL (k := 4) rfl (fun h3 le3 q35 q34 => ?_)
 refine .ret ?_
 refine .resM (k := 7) rfl ?_
 refine .res1 rfl (rvT rfl) (fun w' S => ⟨(ya, yc), h3, rfl, FH.le_trans hle1 le3, ⟨⟨_, hrep.mono le3, q34⟩, q35⟩, S.none⟩)
end Go.Proofs.YtimillpakjgnoaaGreat.Pl

