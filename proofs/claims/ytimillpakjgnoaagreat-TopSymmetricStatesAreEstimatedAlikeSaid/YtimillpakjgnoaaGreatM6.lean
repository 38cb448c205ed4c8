import Derived.Test.YtimillpakjgnoaaGreatM1
import Derived.Test.YtimillpakjgnoaaGreatM5
import Derived.Test.YtimillpakjgnoaaGreatRows
import Derived.ProofKit
import Derived.OpenShut
import Derived.JoinedCond
import Derived.Carry
import Derived.Below
import Derived.ChangeSame
import Derived.Deep.Slices
import Derived.Deep.Fields
import Derived.Lib.SmallJoins
import Derived.SizedLaws
import Derived.Test.YtimillpakjgnoaaGreatM2
namespace Go.Proofs.YtimillpakjgnoaaGreat.Pl
open Go Go.RowKit
set_option maxHeartbeats 8000000 in
theorem w_canonical {h : FH} {w : World} (hs : Sub h w) (t : Task) (at_ : Option Addr) (ct : Nat) (_q1 : RSl h at_ t.init) (_q2 : t.init.length ≤ ct) (at_2 : Option Addr) (ct2 : Nat) (_q3 : RSl h at_2 t.goal) (_q4 : t.goal.length ≤ ct2) (at_3 : Option Addr) (ct3 : Nat) (_q5 : RSl h at_3 t.ops) (_q6 : t.ops.length ≤ ct3) (s_ : List Int) (as_ : Option Addr) (cs_ : Nat) (_q7 : RSl h as_ s_) (_q8 : s_.length ≤ cs_) (K : (List Int × Fault) → Prop) (hF : F_canonical t s_ K) : Calls Tryz.prog 10 #[.agg #[iV t.facts, .slice at_ t.init.length ct, .slice at_2 t.goal.length ct2, .slice at_3 t.ops.length ct3], .slice as_ s_.length cs_] w fun e w' => ∃ (r : List Int × Fault) (z : Option Addr × Nat) (h1 : FH), K r ∧ e = .returned (.tuple #[.slice z.1 r.1.length z.2, .agg #[iV r.2.code, iV r.2.index]]) ∧ FH.le h h1 ∧ (RSl h1 z.1 r.1 ∧ r.1.length ≤ z.2) ∧ SH (Kp.all w h) h1 w' [] := by
 refine enter (args := [.agg (tF t at_ ct at_2 ct2 at_3 ct3).toArray, vSl as_ s_ cs_]) Tryz.func10 rfl Tryz.ntmps10 rfl hs ?_
 refine .seq (.region ?_)
 refine bx (vs := (tF t at_ ct at_2 ct2 at_3 ct3)) rfl rfl rfl (fun pt => ?_)
 refine .V ag0 ?_
 refine al tZ27 rfl (fun pv => ?_)
 refine .nil (.seqN (.seq (.seq (.region (.V (ldA (cs := (tF t at_ ct at_2 ct2 at_3 ct3)) rfl tA25 rfl (cellsB (off := 0) (k := 1) rfl (m := 4) rfl)) ?_)))))
 refine .V mv0 ?_
 obtain ⟨r2, q9⟩ : ∃ y_ : Fault, y_ = sp_stateFault t s_ := ⟨_, rfl⟩
 replace hF := hF r2 q9
 refine .C (cl (v := .agg #[iV r2.code, iV r2.index]) Tryz.call25 rfl rfl (fun w S => (by rw [q9]; exact c_stateFault S.sub t at_ ct _q1 _q2 at_2 ct2 _q3 _q4 at_3 ct3 _q5 _q6 s_ as_ cs_ _q7 _q8 ))) ?_
 refine al tZ27 rfl (fun pf => ?_)
 refine st (p := pf) (off := 0) (k := 0) (vs := [iV r2.code, iV r2.index]) rfl rfl rfl (fun w => (tA27 w).2) rfl rfl rfl rfl ?_
 refine .KA [Box pf [iV r2.code, iV r2.index], Box pv [iV 0, iV 0], Box pt (tF t at_ ct at_2 ct2 at_3 ct3)] ?_
 refine .nil (.seqN (.seq (.region (.V (ldA (cs := [iV r2.code, iV r2.index]) rfl tA27 rfl (cellsB (off := 0) (k := 0) rfl (m := 2) rfl)) ?_))))
 refine .V (bld (cs := #[iV 0, iV 0]) (pv := []) tB27 rfl rfl) ?_
 refine .V (ne2 tE27 rfl rfl) ?_
 refine .nil (.seqN ?_)
 refine .cond rfl (fun q11 => ?_) (fun q11 => ?_)
 ·replace hF := hF.1 q11
  refine .seq ?_
  refine .openL (by kernel_rfl) rfl (by kernel_rfl) (by kernel_rfl) ?_
  refine .V (ldA (cs := [iV r2.code, iV r2.index]) rfl tA27 rfl (cellsB (off := 0) (k := 0) rfl (m := 2) rfl)) ?_
  refine .V ag0 ?_
  refine .tail ?_
  refine st (p := pv) (off := 0) (k := 1) (vs := [iV r2.code, iV r2.index]) rfl rfl rfl (fun w => (tA27 w).2) rfl rfl rfl rfl ?_
  refine .KA [Box pf [iV r2.code, iV r2.index], Box pv [iV r2.code, iV r2.index], Box pt (tF t at_ ct at_2 ct2 at_3 ct3)] ?_
  refine .nil (.seqN (.ret (.seqR ?_)))
  refine .res2 rfl (rvT rfl) (rvC rfl tA27 (k := 1) rfl rfl) (fun w' S => ⟨(([] : List Int), r2), (none, 0), h, hF, rfl, (FH.le_refl _), ⟨RSl.nil_, (Nat.le_refl 0)⟩, S.none⟩)
 replace hF := hF.2 q11
 refine .skip (.seqN (.seq (.seq (.region (.V (fa rfl tF25_0) ?_)))))
 refine .V (ld1 rfl tO3 (cellB (off := 0) (k := 2) rfl rfl)) ?_
 refine .V bi0 ?_
 refine .nil (.seqN ?_)
 refine .cond rfl (fun q13 => ?_) (fun q13 => ?_)
 ·replace hF := hF.1 q13
  refine .seq (.region (.V (bld (cs := #[iV 10, iV (-8)]) (pv := [(0, iV 10), (1, iV (-8))]) tB27 rfl rfl) ?_))
  refine .V ag0 ?_
  refine st (p := pv) (off := 0) (k := 1) (vs := [iV 10, iV (-8)]) rfl rfl rfl (fun w => (tA27 w).2) rfl rfl rfl rfl ?_
  refine .KA [Box pf [iV r2.code, iV r2.index], Box pv [iV 10, iV (-8)], Box pt (tF t at_ ct at_2 ct2 at_3 ct3)] ?_
  refine .nil (.seqN (.ret (.seqR ?_)))
  refine .res2 rfl (rvT rfl) (rvC rfl tA27 (k := 1) rfl rfl) (fun w' S => ⟨(([] : List Int), (⟨10, (-8)⟩ : Fault)), (none, 0), h, hF, rfl, (FH.le_refl _), ⟨RSl.nil_, (Nat.le_refl 0)⟩, S.none⟩)
 replace hF := hF.2 q13
 refine .skip (.seqN (.seq (.region (.V mv0 ?_))))
 obtain ⟨q14, hF⟩ := hF
 obtain ⟨r3, q15⟩ : ∃ y_ : List Int, y_ = sp_clone s_ := ⟨_, rfl⟩
 replace hF := hF r3 q15
 refine clR (α := Option Addr × Nat) (Φ := fun h1 z => RSl h1 z.1 r3 ∧ r3.length ≤ z.2) (V := fun z => vSl z.1 r3 z.2) Tryz.call26 rfl rfl (fun w S => (by rw [q15]; exact c_clone S.sub s_ as_ cs_ _q7 _q8 q14)) rfl (fun z h1 le1 hz => ?_)
 obtain ⟨a, c⟩ := z
 obtain ⟨q16, q17⟩ := hz
 refine .V ag0 ?_
 refine .nil (.seqN (.seq (.seq (.region (.V (ldA (cs := (tF t at_ ct at_2 ct2 at_3 ct3)) rfl tA25 rfl (cellsB (off := 0) (k := 2) rfl (m := 4) rfl)) ?_)))))
 obtain ⟨q18, hF⟩ := hF
 obtain ⟨r4, q19⟩ : ∃ y_ : List (List Int), y_ = sp_symAll t := ⟨_, rfl⟩
 replace hF := hF r4 q19
 refine clR (α := Option Addr × Nat) (Φ := fun h1 z => RSl h1 z.1 r4 ∧ r4.length ≤ z.2) (V := fun z => vSl z.1 r4 z.2) Tryz.call27 rfl rfl (fun w S => (by rw [q19]; exact c_symAll S.sub t at_ ct (_q1.mono (le1)) _q2 at_2 ct2 (_q3.mono (le1)) _q4 at_3 ct3 (_q5.mono (le1)) _q6 q18)) rfl (fun z h2 le2 hz => ?_)
 obtain ⟨a2, c2⟩ := z
 obtain ⟨q20, q21⟩ := hz
 refine .V (ln rfl tS68.is) ?_
 refine .V mv0 ?_
 refine .nil (.seqN (.block ?_))
 refine .sel0 [1] (by decide) rfl ?_
 obtain ⟨I1, μ1, q193, q194⟩ := hF
 refine .loop' (σ := List Int × Int × Option Addr × Nat × FH) (fun z => I1 z.1 z.2.1 ∧ RSl z.2.2.2.2 z.2.2.1 z.1 ∧ z.1.length ≤ z.2.2.2.1 ∧ FH.le h2 z.2.2.2.2) (fun z => μ1 z.1 z.2.1) (fun z => [(1, vSl as_ s_ cs_), (5, .pointer (some pv)), (7, vSl z.2.2.1 z.1 z.2.2.2.1), (25, vSl a2 r4 c2), (26, iV ((r4.length : Nat) : Int)), (27, iV z.2.1)]) (fun _ => [Box pv [iV 0, iV 0]]) (fun z => z.2.2.2.2) (r3, 0, a, c, h2) ⟨q193, (q16.mono (le2)), q17, (FH.le_refl _)⟩ sb rfl (FH.le_refl _) ?_
 rintro ⟨best, t27, abest, cbest, h21⟩ ⟨q193, q158, q159, q160⟩
 have hF := q194 best t27 q193
 show J _ _ _ _ _ [(1, vSl as_ s_ cs_), (5, .pointer (some pv)), (7, vSl abest best cbest), (25, vSl a2 r4 c2), (26, iV ((r4.length : Nat) : Int)), (27, iV t27)] [Box pv [iV 0, iV 0]] h21
 refine .seq (.region (.V bi0 ?_))
 refine .nil (.seqN (.seq ?_))
 refine .cond rfl (fun q197 => ?_) (fun q197 => ?_)
 ·replace hF := hF.1 q197
  refine .skip (.seqN ?_)
  refine .share (σ := List Int × Option Addr × Nat × FH) (fun z => F_canonical_J1 best t27 I1 μ1 z.1 ∧ RSl z.2.2.2 z.2.1 z.1 ∧ z.1.length ≤ z.2.2.1 ∧ FH.le h21 z.2.2.2) (fun z => [(1, vSl as_ s_ cs_), (5, .pointer (some pv)), (7, vSl z.2.1 z.1 z.2.2.1), (25, vSl a2 r4 c2), (26, iV ((r4.length : Nat) : Int)), (27, iV t27)]) (fun _ => [Box pv [iV 0, iV 0]]) (fun z => z.2.2.2) ?_ (fun q212 => ?_)
  ·rintro ⟨best3, abest3, cbest3, h27⟩ ⟨hF, q209, q210, q211⟩
   show J _ _ _ _ _ [(1, vSl as_ s_ cs_), (5, .pointer (some pv)), (7, vSl abest3 best3 cbest3), (25, vSl a2 r4 c2), (26, iV ((r4.length : Nat) : Int)), (27, iV t27)] [Box pv [iV 0, iV 0]] h27
   refine .region (.V bi0 ?_)
   refine .V mv0 ?_
   refine .nil ?_
   exact .RO (best3, wr (t27 + 1), abest3, cbest3, h27) ⟨hF.1, q209, q210, (FH.le_trans (q160) (q211))⟩ hF.2
  refine .block (.seq (.region ?_))
  obtain ⟨q213, hF⟩ := hF
  refine .V (ix rfl rfl tS68 (q20.ne (by decide) (inb_pos q213)) q213) ?_
  obtain ⟨_, ⟨a3, c3, rfl, q214, q215⟩, q216⟩ := q20.elem q213
  refine .V (ld1 (v := .slice a3 ((gt r4 t27).length) c3) rfl tO22 (cellH ((fun q => (q216 q).mono (q160)) (by decide) 0 _ rfl))) ?_
  refine .V ag0 ?_
  refine .nil (.seqN (.seq (.region (.V mv0 ?_))))
  refine .V mv0 ?_
  obtain ⟨q217, hF⟩ := hF
  obtain ⟨r5, q218⟩ : ∃ y_ : List Int, y_ = sp_image (gt r4 t27) s_ := ⟨_, rfl⟩
  replace hF := hF r5 q218
  refine clR (α := Option Addr × Nat) (Φ := fun h1 z => RSl h1 z.1 r5 ∧ r5.length ≤ z.2) (V := fun z => vSl z.1 r5 z.2) Tryz.call28 rfl rfl (fun w S => (by rw [q218]; exact c_image S.sub (gt r4 t27) a3 c3 (q215.mono (q160)) q214 s_ as_ cs_ (_q7.mono (FH.le_trans (FH.le_trans (le1) (le2)) (q160))) _q8 q217)) rfl (fun z h28 le28 hz => ?_)
  obtain ⟨a4, c4⟩ := z
  obtain ⟨q219, q220⟩ := hz
  refine .V ag0 ?_
  refine .nil (.seqN (.seq (.region (.V mv0 ?_))))
  refine .V mv0 ?_
  obtain ⟨q221, hF⟩ := hF
  obtain ⟨r6, q222⟩ : ∃ y_ : Int, y_ = sp_scompare r5 best := ⟨_, rfl⟩
  replace hF := hF r6 q222
  refine .C (cl (v := iV r6) Tryz.call29 rfl rfl (fun w S => (by rw [q222]; exact c_scompare S.sub r5 a4 c4 q219 q220 best abest cbest (q158.mono (le28)) q159 q221))) ?_
  refine .V bi0 ?_
  refine .nil (.seqN ?_)
  refine .cond rfl (fun q223 => ?_) (fun q223 => ?_)
  ·replace hF := hF.1 q223
   refine .region (.V mv0 ?_)
   refine .V ag0 ?_
   refine .nil (.blkN ?_)
   exact .US q212 (r5, a4, c4, h28) ⟨hF, q219, q220, (le28)⟩
  replace hF := hF.2 q223
  refine .skip (.blkN ?_)
  exact .US q212 (best, abest, cbest, h28) ⟨hF, (q158.mono (le28)), q159, (le28)⟩
 replace hF := hF.2 q197
 refine .exit (.seqX (.seqX (.blkX (.seqN (.seq (.region (.V mv0 ?_)))))))
 refine .V (bld (cs := #[iV 0, iV 0]) (pv := []) tB27 rfl rfl) ?_
 refine .V ag0 ?_
 refine st (p := pv) (off := 0) (k := 0) (vs := [iV 0, iV 0]) rfl rfl rfl (fun w => (tA27 w).2) rfl rfl rfl rfl ?_
 refine .KA [Box pv [iV 0, iV 0]] ?_
 refine .nil (.seqN (.ret ?_))
 refine .res2 rfl (rvT rfl) (rvC rfl tA27 (k := 0) rfl rfl) (fun w' S => ⟨(best, (⟨0, 0⟩ : Fault)), (abest, cbest), h21, hF, rfl, (FH.le_trans (FH.le_trans (le1) (le2)) (q160)), ⟨q158, q159⟩, S.none⟩)
theorem c_canonical {h : FH} {w : World} (hs : Sub h w) (t : Task) (at_ : Option Addr) (ct : Nat) (_q1 : RSl h at_ t.init) (_q2 : t.init.length ≤ ct) (at_2 : Option Addr) (ct2 : Nat) (_q3 : RSl h at_2 t.goal) (_q4 : t.goal.length ≤ ct2) (at_3 : Option Addr) (ct3 : Nat) (_q5 : RSl h at_3 t.ops) (_q6 : t.ops.length ≤ ct3) (s_ : List Int) (as_ : Option Addr) (cs_ : Nat) (_q7 : RSl h as_ s_) (_q8 : s_.length ≤ cs_) : Calls Tryz.prog 10 #[.agg #[iV t.facts, .slice at_ t.init.length ct, .slice at_2 t.goal.length ct2, .slice at_3 t.ops.length ct3], .slice as_ s_.length cs_] w fun e w' => ∃ (z : Option Addr × Nat) (h1 : FH), e = .returned (.tuple #[.slice z.1 (sp_canonical t s_).1.length z.2, .agg #[iV (sp_canonical t s_).2.code, iV (sp_canonical t s_).2.index]]) ∧ FH.le h h1 ∧ (RSl h1 z.1 (sp_canonical t s_).1 ∧ (sp_canonical t s_).1.length ≤ z.2) ∧ SH (Kp.all w h) h1 w' [] :=
 (w_canonical hs t at_ ct _q1 _q2 at_2 ct2 _q3 _q4 at_3 ct3 _q5 _q6 s_ as_ cs_ _q7 _q8 (fun r => r = sp_canonical t s_) (ok_canonical t s_)).mono fun _ _ ⟨r, z, h1, hk, he, hl, hf, hS⟩ => by subst hk; exact ⟨z, h1, he, hl, hf, hS⟩
set_option maxHeartbeats 8000000 in
theorem w_lawSym {h : FH} {w : World} (hs : Sub h w) (t : Task) (at_ : Option Addr) (ct : Nat) (_q1 : RSl h at_ t.init) (_q2 : t.init.length ≤ ct) (at_2 : Option Addr) (ct2 : Nat) (_q3 : RSl h at_2 t.goal) (_q4 : t.goal.length ≤ ct2) (at_3 : Option Addr) (ct3 : Nat) (_q5 : RSl h at_3 t.ops) (_q6 : t.ops.length ≤ ct3) (s_ : List Int) (as_ : Option Addr) (cs_ : Nat) (_q7 : RSl h as_ s_) (_q8 : s_.length ≤ cs_) (K : Bool → Prop) (hF : F_lawSym t s_ K) : Calls Tryz.prog 4 #[.agg #[iV t.facts, .slice at_ t.init.length ct, .slice at_2 t.goal.length ct2, .slice at_3 t.ops.length ct3], .slice as_ s_.length cs_] w fun e w' => ∃ r : Bool, K r ∧ e = .returned (.bool r) ∧ Below w.heap.size w w' := by
 refine enter (args := [.agg (tF t at_ ct at_2 ct2 at_3 ct3).toArray, vSl as_ s_ cs_]) Tryz.func4 rfl Tryz.ntmps4 rfl hs ?_
 refine .seq (.region ?_)
 refine bx (vs := (tF t at_ ct at_2 ct2 at_3 ct3)) rfl rfl rfl (fun pt => ?_)
 refine .V ag0 ?_
 refine .nil (.seqN (.seq (.region (.V (ldA (cs := (tF t at_ ct at_2 ct2 at_3 ct3)) rfl tA25 rfl (cellsB (off := 0) (k := 0) rfl (m := 4) rfl)) ?_))))
 refine .V mv0 ?_
 obtain ⟨r2, q9⟩ : ∃ y_ : List Int × Fault, y_ = sp_canonical t s_ := ⟨_, rfl⟩
 replace hF := hF r2 q9
 refine clR (α := Option Addr × Nat) (Φ := fun h1 z => RSl h1 z.1 r2.1 ∧ r2.1.length ≤ z.2) (V := fun z => .tuple #[vSl z.1 r2.1 z.2, .agg #[iV r2.2.code, iV r2.2.index]]) Tryz.call10 rfl rfl (fun w S => (by rw [q9]; exact c_canonical S.sub t at_ ct _q1 _q2 at_2 ct2 _q3 _q4 at_3 ct3 _q5 _q6 s_ as_ cs_ _q7 _q8 )) rfl (fun z h1 le1 hz => ?_)
 obtain ⟨a, c⟩ := z
 obtain ⟨q10, q11⟩ := hz
 refine .V mv0 ?_
 refine .V (ext rfl rfl) ?_
 refine .V (ext rfl rfl) ?_
 refine al tZ27 rfl (fun pf => ?_)
 refine .V ag0 ?_
 refine st (p := pf) (off := 0) (k := 0) (vs := [iV r2.2.code, iV r2.2.index]) rfl rfl rfl (fun w => (tA27 w).2) rfl rfl rfl rfl ?_
 refine .KA [Box pf [iV r2.2.code, iV r2.2.index], Box pt (tF t at_ ct at_2 ct2 at_3 ct3)] ?_
 refine .nil (.seqN (.seq ?_))
 refine .share (σ := Bool) (fun z => F_lawSym_J1 t s_ K r2 z) (fun z => [(1, vSl as_ s_ cs_), (2, .pointer (some pt)), (5, vSl a r2.1 c), (38, .bool z)]) (fun _ => [Box pt (tF t at_ ct at_2 ct2 at_3 ct3)]) (fun _ => h1) ?_ (fun q14 => ?_)
 ·rintro t38 hF
  show J _ _ _ _ _ [(1, vSl as_ s_ cs_), (2, .pointer (some pt)), (5, vSl a r2.1 c), (38, .bool t38)] [Box pt (tF t at_ ct at_2 ct2 at_3 ct3)] h1
  refine .cond rfl (fun q20 => ?_) (fun q20 => ?_)
  ·replace hF := hF.1 q20
   refine .seq (.region ?_)
   obtain ⟨r3, q23⟩ : ∃ y_ : Bool, y_ = sp_kernWorks := ⟨_, rfl⟩
   replace hF := hF r3 q23
   refine .C (cl (v := .bool r3) Tryz.call6 rfl rfl (fun w S => (by rw [q23]; exact c_kernWorks S.sub  ))) ?_
   refine .V mv0 ?_
   rcases Bool.eq_false_or_eq_true (r3) with q24 | q24
   ·replace hF := hF.1 q24
    refine .GV mv0 q24 ?_
    refine .GV (ln rfl tS22.is) q24 ?_
    refine .GV bi0 q24 ?_
    refine .V (pkT rfl q24 rfl) ?_
    refine .V ag0 ?_
    refine .nil (.seqN (.ret (.seqR ?_)))
    refine .res1 rfl (rvT rfl) (fun w' S => ⟨((r2.1.length : Nat) : Int) == 0, hF, rfl, S.below⟩)
   replace hF := hF.2 q24
   refine .GS q24 ?_
   refine .GS q24 ?_
   refine .GS q24 ?_
   refine .V (pkF rfl q24 rfl) ?_
   refine .V ag0 ?_
   refine .nil (.seqN (.ret (.seqR ?_)))
   refine .res1 rfl (rvT rfl) (fun w' S => ⟨false, hF, rfl, S.below⟩)
  replace hF := hF.2 q20
  refine .skip (.seqN (.seq (.region (.V (ldA (cs := (tF t at_ ct at_2 ct2 at_3 ct3)) rfl tA25 rfl (cellsB (off := 0) (k := 0) rfl (m := 4) rfl)) ?_))))
  refine .V mv0 ?_
  obtain ⟨r4, q25⟩ : ∃ y_ : List Int × Int × Fault, y_ = sp_relMax t s_ := ⟨_, rfl⟩
  replace hF := hF r4 q25
  refine clR (α := Option Addr × Nat) (Φ := fun h1 z => RSl h1 z.1 r4.1 ∧ r4.1.length ≤ z.2) (V := fun z => .tuple #[vSl z.1 r4.1 z.2, iV r4.2.1, .agg #[iV r4.2.2.code, iV r4.2.2.index]]) Tryz.call11 rfl rfl (fun w S => (by rw [q25]; exact c_relMax S.sub t at_ ct (_q1.mono (le1)) _q2 at_2 ct2 (_q3.mono (le1)) _q4 at_3 ct3 (_q5.mono (le1)) _q6 s_ as_ cs_ (_q7.mono (le1)) _q8 )) rfl (fun z h2 le2 hz => ?_)
  obtain ⟨a2, c2⟩ := z
  obtain ⟨q26, q27⟩ := hz
  refine .V mv0 ?_
  refine .V (ext rfl rfl) ?_
  refine .V (ext rfl rfl) ?_
  refine .V (ext rfl rfl) ?_
  refine al tZ27 rfl (fun pg => ?_)
  refine .V ag0 ?_
  refine .V ag0 ?_
  refine st (p := pg) (off := 0) (k := 0) (vs := [iV r4.2.2.code, iV r4.2.2.index]) rfl rfl rfl (fun w => (tA27 w).2) rfl rfl rfl rfl ?_
  refine .KA [Box pg [iV r4.2.2.code, iV r4.2.2.index], Box pt (tF t at_ ct at_2 ct2 at_3 ct3)] ?_
  refine .nil (.seqN (.seq (.region (.V (ldA (cs := (tF t at_ ct at_2 ct2 at_3 ct3)) rfl tA25 rfl (cellsB (off := 0) (k := 1) rfl (m := 4) rfl)) ?_))))
  refine .V mv0 ?_
  obtain ⟨r5, q28⟩ : ∃ y_ : List Int × Int × Fault, y_ = sp_relMax t r2.1 := ⟨_, rfl⟩
  replace hF := hF r5 q28
  refine clR (α := Option Addr × Nat) (Φ := fun h1 z => RSl h1 z.1 r5.1 ∧ r5.1.length ≤ z.2) (V := fun z => .tuple #[vSl z.1 r5.1 z.2, iV r5.2.1, .agg #[iV r5.2.2.code, iV r5.2.2.index]]) Tryz.call11 rfl rfl (fun w S => (by rw [q28]; exact c_relMax S.sub t at_ ct (_q1.mono (FH.le_trans (le1) (le2))) _q2 at_2 ct2 (_q3.mono (FH.le_trans (le1) (le2))) _q4 at_3 ct3 (_q5.mono (FH.le_trans (le1) (le2))) _q6 r2.1 a c (q10.mono (le2)) q11 )) rfl (fun z h3 le3 hz => ?_)
  obtain ⟨a3, c3⟩ := z
  obtain ⟨q29, q30⟩ := hz
  refine .V mv0 ?_
  refine .V (ext rfl rfl) ?_
  refine .V (ext rfl rfl) ?_
  refine .V (ext rfl rfl) ?_
  refine al tZ27 rfl (fun ph => ?_)
  refine .V ag0 ?_
  refine .V ag0 ?_
  refine st (p := ph) (off := 0) (k := 0) (vs := [iV r5.2.2.code, iV r5.2.2.index]) rfl rfl rfl (fun w => (tA27 w).2) rfl rfl rfl rfl ?_
  refine .KA [Box ph [iV r5.2.2.code, iV r5.2.2.index], Box pg [iV r4.2.2.code, iV r4.2.2.index], Box pt (tF t at_ ct at_2 ct2 at_3 ct3)] ?_
  refine .nil (.seqN (.seq (.region (.V (ldA (cs := (tF t at_ ct at_2 ct2 at_3 ct3)) rfl tA25 rfl (cellsB (off := 0) (k := 2) rfl (m := 4) rfl)) ?_))))
  refine .V mv0 ?_
  obtain ⟨r6, q31⟩ : ∃ y_ : List Int × Int × Fault, y_ = sp_relAdd t s_ := ⟨_, rfl⟩
  replace hF := hF r6 q31
  refine clR (α := Option Addr × Nat) (Φ := fun h1 z => RSl h1 z.1 r6.1 ∧ r6.1.length ≤ z.2) (V := fun z => .tuple #[vSl z.1 r6.1 z.2, iV r6.2.1, .agg #[iV r6.2.2.code, iV r6.2.2.index]]) Tryz.call12 rfl rfl (fun w S => (by rw [q31]; exact c_relAdd S.sub t at_ ct (_q1.mono (FH.le_trans (FH.le_trans (le1) (le2)) (le3))) _q2 at_2 ct2 (_q3.mono (FH.le_trans (FH.le_trans (le1) (le2)) (le3))) _q4 at_3 ct3 (_q5.mono (FH.le_trans (FH.le_trans (le1) (le2)) (le3))) _q6 s_ as_ cs_ (_q7.mono (FH.le_trans (FH.le_trans (le1) (le2)) (le3))) _q8 )) rfl (fun z h4 le4 hz => ?_)
  obtain ⟨a4, c4⟩ := z
  obtain ⟨q32, q33⟩ := hz
  refine .V mv0 ?_
  refine .V (ext rfl rfl) ?_
  refine .V (ext rfl rfl) ?_
  refine .V (ext rfl rfl) ?_
  refine al tZ27 rfl (fun pi => ?_)
  refine .V ag0 ?_
  refine .V ag0 ?_
  refine st (p := pi) (off := 0) (k := 0) (vs := [iV r6.2.2.code, iV r6.2.2.index]) rfl rfl rfl (fun w => (tA27 w).2) rfl rfl rfl rfl ?_
  refine .KA [Box pi [iV r6.2.2.code, iV r6.2.2.index], Box ph [iV r5.2.2.code, iV r5.2.2.index], Box pg [iV r4.2.2.code, iV r4.2.2.index], Box pt (tF t at_ ct at_2 ct2 at_3 ct3)] ?_
  refine .nil (.seqN (.seq (.region (.V (ldA (cs := (tF t at_ ct at_2 ct2 at_3 ct3)) rfl tA25 rfl (cellsB (off := 0) (k := 3) rfl (m := 4) rfl)) ?_))))
  refine .V mv0 ?_
  obtain ⟨r7, q34⟩ : ∃ y_ : List Int × Int × Fault, y_ = sp_relAdd t r2.1 := ⟨_, rfl⟩
  replace hF := hF r7 q34
  refine clR (α := Option Addr × Nat) (Φ := fun h1 z => RSl h1 z.1 r7.1 ∧ r7.1.length ≤ z.2) (V := fun z => .tuple #[vSl z.1 r7.1 z.2, iV r7.2.1, .agg #[iV r7.2.2.code, iV r7.2.2.index]]) Tryz.call12 rfl rfl (fun w S => (by rw [q34]; exact c_relAdd S.sub t at_ ct (_q1.mono (FH.le_trans (FH.le_trans (FH.le_trans (le1) (le2)) (le3)) (le4))) _q2 at_2 ct2 (_q3.mono (FH.le_trans (FH.le_trans (FH.le_trans (le1) (le2)) (le3)) (le4))) _q4 at_3 ct3 (_q5.mono (FH.le_trans (FH.le_trans (FH.le_trans (le1) (le2)) (le3)) (le4))) _q6 r2.1 a c (q10.mono (FH.le_trans (FH.le_trans (le2) (le3)) (le4))) q11 )) rfl (fun z h5 le5 hz => ?_)
  obtain ⟨a5, c5⟩ := z
  obtain ⟨q35, q36⟩ := hz
  refine .V mv0 ?_
  refine .V (ext rfl rfl) ?_
  refine .V (ext rfl rfl) ?_
  refine .V (ext rfl rfl) ?_
  refine al tZ27 rfl (fun pj => ?_)
  refine .V ag0 ?_
  refine .V ag0 ?_
  refine st (p := pj) (off := 0) (k := 0) (vs := [iV r7.2.2.code, iV r7.2.2.index]) rfl rfl rfl (fun w => (tA27 w).2) rfl rfl rfl rfl ?_
  refine .KA [Box pj [iV r7.2.2.code, iV r7.2.2.index], Box pi [iV r6.2.2.code, iV r6.2.2.index], Box ph [iV r5.2.2.code, iV r5.2.2.index], Box pg [iV r4.2.2.code, iV r4.2.2.index], Box pt (tF t at_ ct at_2 ct2 at_3 ct3)] ?_
  refine .nil (.seqN (.seq (.region (.V (ldA (cs := (tF t at_ ct at_2 ct2 at_3 ct3)) rfl tA25 rfl (cellsB (off := 0) (k := 4) rfl (m := 4) rfl)) ?_))))
  refine .V mv0 ?_
  obtain ⟨r8, q37⟩ : ∃ y_ : List Cut × Int × Fault, y_ = sp_cuts t s_ := ⟨_, rfl⟩
  replace hF := hF r8 q37
  refine clR (α := Option Addr × Nat) (Φ := fun h1 z => RSl h1 z.1 r8.1 ∧ r8.1.length ≤ z.2) (V := fun z => .tuple #[vSl z.1 r8.1 z.2, iV r8.2.1, .agg #[iV r8.2.2.code, iV r8.2.2.index]]) Tryz.call13 rfl rfl (fun w S => (by rw [q37]; exact c_cuts S.sub t at_ ct (_q1.mono (FH.le_trans (FH.le_trans (FH.le_trans (FH.le_trans (le1) (le2)) (le3)) (le4)) (le5))) _q2 at_2 ct2 (_q3.mono (FH.le_trans (FH.le_trans (FH.le_trans (FH.le_trans (le1) (le2)) (le3)) (le4)) (le5))) _q4 at_3 ct3 (_q5.mono (FH.le_trans (FH.le_trans (FH.le_trans (FH.le_trans (le1) (le2)) (le3)) (le4)) (le5))) _q6 s_ as_ cs_ (_q7.mono (FH.le_trans (FH.le_trans (FH.le_trans (FH.le_trans (le1) (le2)) (le3)) (le4)) (le5))) _q8 )) rfl (fun z h6 le6 hz => ?_)
  obtain ⟨a6, c6⟩ := z
  obtain ⟨q38, q39⟩ := hz
  refine .V mv0 ?_
  refine .V (ext rfl rfl) ?_
  refine .V (ext rfl rfl) ?_
  refine .V (ext rfl rfl) ?_
  refine al tZ27 rfl (fun pk => ?_)
  refine .V ag0 ?_
  refine .V ag0 ?_
  refine st (p := pk) (off := 0) (k := 0) (vs := [iV r8.2.2.code, iV r8.2.2.index]) rfl rfl rfl (fun w => (tA27 w).2) rfl rfl rfl rfl ?_
  refine .KA [Box pk [iV r8.2.2.code, iV r8.2.2.index], Box pj [iV r7.2.2.code, iV r7.2.2.index], Box pi [iV r6.2.2.code, iV r6.2.2.index], Box ph [iV r5.2.2.code, iV r5.2.2.index], Box pg [iV r4.2.2.code, iV r4.2.2.index], Box pt (tF t at_ ct at_2 ct2 at_3 ct3)] ?_
  refine .nil (.seqN (.seq (.region (.V (ldA (cs := (tF t at_ ct at_2 ct2 at_3 ct3)) rfl tA25 rfl (cellsB (off := 0) (k := 5) rfl (m := 4) rfl)) ?_))))
  refine .V mv0 ?_
  obtain ⟨r9, q40⟩ : ∃ y_ : List Cut × Int × Fault, y_ = sp_cuts t r2.1 := ⟨_, rfl⟩
  replace hF := hF r9 q40
  refine clR (α := Option Addr × Nat) (Φ := fun h1 z => RSl h1 z.1 r9.1 ∧ r9.1.length ≤ z.2) (V := fun z => .tuple #[vSl z.1 r9.1 z.2, iV r9.2.1, .agg #[iV r9.2.2.code, iV r9.2.2.index]]) Tryz.call13 rfl rfl (fun w S => (by rw [q40]; exact c_cuts S.sub t at_ ct (_q1.mono (FH.le_trans (FH.le_trans (FH.le_trans (FH.le_trans (FH.le_trans (le1) (le2)) (le3)) (le4)) (le5)) (le6))) _q2 at_2 ct2 (_q3.mono (FH.le_trans (FH.le_trans (FH.le_trans (FH.le_trans (FH.le_trans (le1) (le2)) (le3)) (le4)) (le5)) (le6))) _q4 at_3 ct3 (_q5.mono (FH.le_trans (FH.le_trans (FH.le_trans (FH.le_trans (FH.le_trans (le1) (le2)) (le3)) (le4)) (le5)) (le6))) _q6 r2.1 a c (q10.mono (FH.le_trans (FH.le_trans (FH.le_trans (FH.le_trans (le2) (le3)) (le4)) (le5)) (le6))) q11 )) rfl (fun z h7 le7 hz => ?_)
  obtain ⟨a7, c7⟩ := z
  obtain ⟨q41, q42⟩ := hz
  refine .V mv0 ?_
  refine .V (ext rfl rfl) ?_
  refine .V (ext rfl rfl) ?_
  refine .V (ext rfl rfl) ?_
  refine al tZ27 rfl (fun pe => ?_)
  refine .V ag0 ?_
  refine .V ag0 ?_
  refine st (p := pe) (off := 0) (k := 0) (vs := [iV r9.2.2.code, iV r9.2.2.index]) rfl rfl rfl (fun w => (tA27 w).2) rfl rfl rfl rfl ?_
  refine .KA [Box pe [iV r9.2.2.code, iV r9.2.2.index], Box pk [iV r8.2.2.code, iV r8.2.2.index], Box pj [iV r7.2.2.code, iV r7.2.2.index], Box pi [iV r6.2.2.code, iV r6.2.2.index], Box ph [iV r5.2.2.code, iV r5.2.2.index], Box pg [iV r4.2.2.code, iV r4.2.2.index], Box pt (tF t at_ ct at_2 ct2 at_3 ct3)] ?_
  refine .nil (.seqN (.seq (.region (.V (ldA (cs := (tF t at_ ct at_2 ct2 at_3 ct3)) rfl tA25 rfl (cellsB (off := 0) (k := 6) rfl (m := 4) rfl)) ?_))))
  refine .V mv0 ?_
  obtain ⟨q43, hF⟩ := hF
  obtain ⟨r10, q44⟩ : ∃ y_ : Int, y_ = sp_bestFrom t s_ := ⟨_, rfl⟩
  replace hF := hF r10 q44
  refine .C (cl (v := iV r10) Tryz.call14 rfl rfl (fun w S => (by rw [q44]; exact c_bestFrom S.sub t at_ ct (_q1.mono (FH.le_trans (FH.le_trans (FH.le_trans (FH.le_trans (FH.le_trans (FH.le_trans (le1) (le2)) (le3)) (le4)) (le5)) (le6)) (le7))) _q2 at_2 ct2 (_q3.mono (FH.le_trans (FH.le_trans (FH.le_trans (FH.le_trans (FH.le_trans (FH.le_trans (le1) (le2)) (le3)) (le4)) (le5)) (le6)) (le7))) _q4 at_3 ct3 (_q5.mono (FH.le_trans (FH.le_trans (FH.le_trans (FH.le_trans (FH.le_trans (FH.le_trans (le1) (le2)) (le3)) (le4)) (le5)) (le6)) (le7))) _q6 s_ as_ cs_ (_q7.mono (FH.le_trans (FH.le_trans (FH.le_trans (FH.le_trans (FH.le_trans (FH.le_trans (le1) (le2)) (le3)) (le4)) (le5)) (le6)) (le7))) _q8 q43))) ?_
  refine .V ag0 ?_
  refine .nil (.seqN (.seq ?_))
  refine .share (σ := Bool) (fun z => F_lawSym_J2 K r8 r9 r10 z) (fun z => [(20, iV r8.2.1), (23, iV r9.2.1), (25, iV r10), (127, .bool z)]) (fun _ => []) (fun _ => h7) ?_ (fun q52 => ?_)
  ·rintro t127 hF
   show J _ _ _ _ _ [(20, iV r8.2.1), (23, iV r9.2.1), (25, iV r10), (127, .bool t127)] [] h7
   refine .cond rfl (fun q54 => ?_) (fun q54 => ?_)
   ·replace hF := hF.1 q54
    refine .seq (.region (.V ag0 ?_))
    refine .nil (.seqN (.ret (.seqR ?_)))
    refine .res1 rfl (rvT rfl) (fun w' S => ⟨false, hF, rfl, S.below⟩)
   replace hF := hF.2 q54
   refine .skip (.seqN (.seq (.region (.V mv0 ?_))))
   refine .V bi0 ?_
   refine .V mv0 ?_
   rcases Bool.eq_false_or_eq_true (decide (r10 < 0)) with q57 | q57
   ·replace hF := hF.1 q57
    refine .GS q57 ?_
    refine .GS q57 ?_
    refine .GS q57 ?_
    refine .GS q57 ?_
    refine .GU ?_
    refine .GU ?_
    refine .GU ?_
    refine .GS q57 ?_
    refine .V (pkT rfl q57 rfl) ?_
    refine .V ag0 ?_
    refine .nil (.seqN (.ret ?_))
    refine .res1 rfl (rvT rfl) (fun w' S => ⟨true, hF, rfl, S.below⟩)
   replace hF := hF.2 q57
   refine .GV mv0 q57 ?_
   refine .GV mv0 q57 ?_
   refine .GV bi0 q57 ?_
   refine .GV mv0 q57 ?_
   rcases Bool.eq_false_or_eq_true (decide (r8.2.1 ≤ r10)) with q58 | q58
   ·replace hF := hF.1 q58
    refine .GV mv0 q58 ?_
    refine .GV mv0 q58 ?_
    refine .GV bi0 q58 ?_
    refine .GV (pkT rfl q58 rfl) q57 ?_
    refine .V (pkF rfl q57 rfl) ?_
    refine .V ag0 ?_
    refine .nil (.seqN (.ret ?_))
    refine .res1 rfl (rvT rfl) (fun w' S => ⟨decide (r9.2.1 ≤ r10), hF, rfl, S.below⟩)
   replace hF := hF.2 q58
   refine .GS q58 ?_
   refine .GS q58 ?_
   refine .GS q58 ?_
   refine .GV (pkF rfl q58 rfl) q57 ?_
   refine .V (pkF rfl q57 rfl) ?_
   refine .V ag0 ?_
   refine .nil (.seqN (.ret ?_))
   refine .res1 rfl (rvT rfl) (fun w' S => ⟨false, hF, rfl, S.below⟩)
  refine .region (.V (fa rfl tF27_0) ?_)
  refine .V (ld1 rfl tO3 (cellB (off := 0) (k := 5) rfl rfl)) ?_
  refine .V bi0 ?_
  refine .V mv0 ?_
  rcases Bool.eq_false_or_eq_true (r4.2.2.code != 0) with q59 | q59
  ·replace hF := hF.1 q59
   refine .GS q59 ?_
   refine .GS q59 ?_
   refine .GS q59 ?_
   refine .V (pkT rfl q59 rfl) ?_
   refine .V mv0 ?_
   refine .gS rfl rfl rfl rfl rfl rfl ?_
   refine .gS rfl rfl rfl rfl rfl rfl ?_
   refine .gS rfl rfl rfl rfl rfl rfl ?_
   refine .V (pkT rfl rfl rfl) ?_
   refine .V mv0 ?_
   refine .gS rfl rfl rfl rfl rfl rfl ?_
   refine .gS rfl rfl rfl rfl rfl rfl ?_
   refine .gS rfl rfl rfl rfl rfl rfl ?_
   refine .V (pkT rfl rfl rfl) ?_
   refine .V mv0 ?_
   refine .gS rfl rfl rfl rfl rfl rfl ?_
   refine .gS rfl rfl rfl rfl rfl rfl ?_
   refine .gS rfl rfl rfl rfl rfl rfl ?_
   refine .V (pkT rfl rfl rfl) ?_
   refine .V mv0 ?_
   refine .gS rfl rfl rfl rfl rfl rfl ?_
   refine .gS rfl rfl rfl rfl rfl rfl ?_
   refine .gS rfl rfl rfl rfl rfl rfl ?_
   refine .V (pkT rfl rfl rfl) ?_
   refine .V mv0 ?_
   refine .gS rfl rfl rfl rfl rfl rfl ?_
   refine .gS rfl rfl rfl rfl rfl rfl ?_
   refine .gS rfl rfl rfl rfl rfl rfl ?_
   refine .V (pkT rfl rfl rfl) ?_
   refine .V mv0 ?_
   refine .gS rfl rfl rfl rfl rfl rfl ?_
   refine .gS rfl rfl rfl rfl rfl rfl ?_
   refine .gS rfl rfl rfl rfl rfl rfl ?_
   refine .V (pkT rfl rfl rfl) ?_
   refine .nil ?_
   refine .sel0 [] (by decide) rfl ?_
   exact .US q52 true hF
  replace hF := hF.2 q59
  refine .GV (fa rfl tF27_0) q59 ?_
  refine .GV (ld1 rfl tO3 (cellB (off := 0) (k := 4) rfl rfl)) q59 ?_
  refine .GV bi0 q59 ?_
  refine .V (pkF rfl q59 rfl) ?_
  refine .V mv0 ?_
  rcases Bool.eq_false_or_eq_true (r5.2.2.code != 0) with q60 | q60
  ·replace hF := hF.1 q60
   refine .GS q60 ?_
   refine .GS q60 ?_
   refine .GS q60 ?_
   refine .V (pkT rfl q60 rfl) ?_
   refine .V mv0 ?_
   refine .gS rfl rfl rfl rfl rfl rfl ?_
   refine .gS rfl rfl rfl rfl rfl rfl ?_
   refine .gS rfl rfl rfl rfl rfl rfl ?_
   refine .V (pkT rfl rfl rfl) ?_
   refine .V mv0 ?_
   refine .gS rfl rfl rfl rfl rfl rfl ?_
   refine .gS rfl rfl rfl rfl rfl rfl ?_
   refine .gS rfl rfl rfl rfl rfl rfl ?_
   refine .V (pkT rfl rfl rfl) ?_
   refine .V mv0 ?_
   refine .gS rfl rfl rfl rfl rfl rfl ?_
   refine .gS rfl rfl rfl rfl rfl rfl ?_
   refine .gS rfl rfl rfl rfl rfl rfl ?_
   refine .V (pkT rfl rfl rfl) ?_
   refine .V mv0 ?_
   refine .gS rfl rfl rfl rfl rfl rfl ?_
   refine .gS rfl rfl rfl rfl rfl rfl ?_
   refine .gS rfl rfl rfl rfl rfl rfl ?_
   refine .V (pkT rfl rfl rfl) ?_
   refine .V mv0 ?_
   refine .gS rfl rfl rfl rfl rfl rfl ?_
   refine .gS rfl rfl rfl rfl rfl rfl ?_
   refine .gS rfl rfl rfl rfl rfl rfl ?_
   refine .V (pkT rfl rfl rfl) ?_
   refine .nil ?_
   refine .sel0 [] (by decide) rfl ?_
   exact .US q52 true hF
  replace hF := hF.2 q60
  refine .GV (fa rfl tF27_0) q60 ?_
  refine .GV (ld1 rfl tO3 (cellB (off := 0) (k := 3) rfl rfl)) q60 ?_
  refine .GV bi0 q60 ?_
  refine .V (pkF rfl q60 rfl) ?_
  refine .V mv0 ?_
  rcases Bool.eq_false_or_eq_true (r6.2.2.code != 0) with q61 | q61
  ·replace hF := hF.1 q61
   refine .GS q61 ?_
   refine .GS q61 ?_
   refine .GS q61 ?_
   refine .V (pkT rfl q61 rfl) ?_
   refine .V mv0 ?_
   refine .gS rfl rfl rfl rfl rfl rfl ?_
   refine .gS rfl rfl rfl rfl rfl rfl ?_
   refine .gS rfl rfl rfl rfl rfl rfl ?_
   refine .V (pkT rfl rfl rfl) ?_
   refine .V mv0 ?_
   refine .gS rfl rfl rfl rfl rfl rfl ?_
   refine .gS rfl rfl rfl rfl rfl rfl ?_
   refine .gS rfl rfl rfl rfl rfl rfl ?_
   refine .V (pkT rfl rfl rfl) ?_
   refine .V mv0 ?_
   refine .gS rfl rfl rfl rfl rfl rfl ?_
   refine .gS rfl rfl rfl rfl rfl rfl ?_
   refine .gS rfl rfl rfl rfl rfl rfl ?_
   refine .V (pkT rfl rfl rfl) ?_
   refine .V mv0 ?_
   refine .gS rfl rfl rfl rfl rfl rfl ?_
   refine .gS rfl rfl rfl rfl rfl rfl ?_
   refine .gS rfl rfl rfl rfl rfl rfl ?_
   refine .V (pkT rfl rfl rfl) ?_
   refine .nil ?_
   refine .sel0 [] (by decide) rfl ?_
   exact .US q52 true hF
  replace hF := hF.2 q61
  refine .GV (fa rfl tF27_0) q61 ?_
  refine .GV (ld1 rfl tO3 (cellB (off := 0) (k := 2) rfl rfl)) q61 ?_
  refine .GV bi0 q61 ?_
  refine .V (pkF rfl q61 rfl) ?_
  refine .V mv0 ?_
  rcases Bool.eq_false_or_eq_true (r7.2.2.code != 0) with q62 | q62
  ·replace hF := hF.1 q62
   refine .GS q62 ?_
   refine .GS q62 ?_
   refine .GS q62 ?_
   refine .V (pkT rfl q62 rfl) ?_
   refine .V mv0 ?_
   refine .gS rfl rfl rfl rfl rfl rfl ?_
   refine .gS rfl rfl rfl rfl rfl rfl ?_
   refine .gS rfl rfl rfl rfl rfl rfl ?_
   refine .V (pkT rfl rfl rfl) ?_
   refine .V mv0 ?_
   refine .gS rfl rfl rfl rfl rfl rfl ?_
   refine .gS rfl rfl rfl rfl rfl rfl ?_
   refine .gS rfl rfl rfl rfl rfl rfl ?_
   refine .V (pkT rfl rfl rfl) ?_
   refine .V mv0 ?_
   refine .gS rfl rfl rfl rfl rfl rfl ?_
   refine .gS rfl rfl rfl rfl rfl rfl ?_
   refine .gS rfl rfl rfl rfl rfl rfl ?_
   refine .V (pkT rfl rfl rfl) ?_
   refine .nil ?_
   refine .sel0 [] (by decide) rfl ?_
   exact .US q52 true hF
  replace hF := hF.2 q62
  refine .GV (fa rfl tF27_0) q62 ?_
  refine .GV (ld1 rfl tO3 (cellB (off := 0) (k := 1) rfl rfl)) q62 ?_
  refine .GV bi0 q62 ?_
  refine .V (pkF rfl q62 rfl) ?_
  refine .V mv0 ?_
  rcases Bool.eq_false_or_eq_true (r8.2.2.code != 0) with q63 | q63
  ·replace hF := hF.1 q63
   refine .GS q63 ?_
   refine .GS q63 ?_
   refine .GS q63 ?_
   refine .V (pkT rfl q63 rfl) ?_
   refine .V mv0 ?_
   refine .gS rfl rfl rfl rfl rfl rfl ?_
   refine .gS rfl rfl rfl rfl rfl rfl ?_
   refine .gS rfl rfl rfl rfl rfl rfl ?_
   refine .V (pkT rfl rfl rfl) ?_
   refine .V mv0 ?_
   refine .gS rfl rfl rfl rfl rfl rfl ?_
   refine .gS rfl rfl rfl rfl rfl rfl ?_
   refine .gS rfl rfl rfl rfl rfl rfl ?_
   refine .V (pkT rfl rfl rfl) ?_
   refine .nil ?_
   refine .sel0 [] (by decide) rfl ?_
   exact .US q52 true hF
  replace hF := hF.2 q63
  refine .GV (fa rfl tF27_0) q63 ?_
  refine .GV (ld1 rfl tO3 (cellB (off := 0) (k := 0) rfl rfl)) q63 ?_
  refine .GV bi0 q63 ?_
  refine .V (pkF rfl q63 rfl) ?_
  refine .V mv0 ?_
  rcases Bool.eq_false_or_eq_true (r9.2.2.code != 0) with q64 | q64
  ·replace hF := hF.1 q64
   refine .GS q64 ?_
   refine .GS q64 ?_
   refine .GS q64 ?_
   refine .V (pkT rfl q64 rfl) ?_
   refine .V mv0 ?_
   refine .gS rfl rfl rfl rfl rfl rfl ?_
   refine .gS rfl rfl rfl rfl rfl rfl ?_
   refine .gS rfl rfl rfl rfl rfl rfl ?_
   refine .V (pkT rfl rfl rfl) ?_
   refine .nil ?_
   refine .sel0 [] (by decide) rfl ?_
   exact .US q52 true hF
  replace hF := hF.2 q64
  refine .GV mv0 q64 ?_
  refine .GV mv0 q64 ?_
  refine .GV bi0 q64 ?_
  refine .V (pkF rfl q64 rfl) ?_
  refine .V mv0 ?_
  rcases Bool.eq_false_or_eq_true (r4.2.1 != r5.2.1) with q65 | q65
  ·replace hF := hF.1 q65
   refine .GS q65 ?_
   refine .GS q65 ?_
   refine .GS q65 ?_
   refine .V (pkT rfl q65 rfl) ?_
   refine .nil ?_
   refine .sel0 [] (by decide) rfl ?_
   exact .US q52 true hF
  replace hF := hF.2 q65
  refine .GV mv0 q65 ?_
  refine .GV mv0 q65 ?_
  refine .GV bi0 q65 ?_
  refine .V (pkF rfl q65 rfl) ?_
  refine .nil ?_
  refine .sel0 [] (by decide) rfl ?_
  exact .US q52 (r6.2.1 != r7.2.1) hF
 refine .region ?_
 obtain ⟨r11, q66⟩ : ∃ y_ : Bool, y_ = sp_kernWorks := ⟨_, rfl⟩
 replace hF := hF r11 q66
 refine .C (cl (v := .bool r11) Tryz.call6 rfl rfl (fun w S => (by rw [q66]; exact c_kernWorks S.sub  ))) ?_
 refine .V (nt rfl) ?_
 refine .V mv0 ?_
 rcases Bool.eq_false_or_eq_true (!r11) with q67 | q67
 ·replace hF := hF.1 q67
  refine .GS q67 ?_
  refine .GS q67 ?_
  refine .GS q67 ?_
  refine .V (pkT rfl q67 rfl) ?_
  refine .nil ?_
  refine .sel0 [1] (by decide) rfl ?_
  exact .US q14 true hF
 replace hF := hF.2 q67
 refine .GV (fa rfl tF27_0) q67 ?_
 refine .GV (ld1 rfl tO3 (cellB (off := 0) (k := 0) rfl rfl)) q67 ?_
 refine .GV bi0 q67 ?_
 refine .V (pkF rfl q67 rfl) ?_
 refine .nil ?_
 refine .sel0 [1] (by decide) rfl ?_
 exact .US q14 (r2.2.code != 0) hF
theorem c_lawSym {h : FH} {w : World} (hs : Sub h w) (t : Task) (at_ : Option Addr) (ct : Nat) (_q1 : RSl h at_ t.init) (_q2 : t.init.length ≤ ct) (at_2 : Option Addr) (ct2 : Nat) (_q3 : RSl h at_2 t.goal) (_q4 : t.goal.length ≤ ct2) (at_3 : Option Addr) (ct3 : Nat) (_q5 : RSl h at_3 t.ops) (_q6 : t.ops.length ≤ ct3) (s_ : List Int) (as_ : Option Addr) (cs_ : Nat) (_q7 : RSl h as_ s_) (_q8 : s_.length ≤ cs_) : Calls Tryz.prog 4 #[.agg #[iV t.facts, .slice at_ t.init.length ct, .slice at_2 t.goal.length ct2, .slice at_3 t.ops.length ct3], .slice as_ s_.length cs_] w fun e w' => e = .returned (.bool (sp_lawSym t s_)) ∧ Below w.heap.size w w' :=
 (w_lawSym hs t at_ ct _q1 _q2 at_2 ct2 _q3 _q4 at_3 ct3 _q5 _q6 s_ as_ cs_ _q7 _q8 (fun r => r = sp_lawSym t s_) (ok_lawSym t s_)).mono fun _ _ ⟨_, hk, he, hb⟩ => ⟨by rw [he, hk], hb⟩
end Go.Proofs.YtimillpakjgnoaaGreat.Pl

namespace Go.Proofs.YtimillpakjgnoaaGreat.Pl
open Go Go.RowKit Go.WideShapes Go.ChangeShapes Go.ChangeAt Go.Joins Go.Deep
section
variable {H : Type} {enc : TypeId × Value → H} {P : Program}
theorem all_stays (hl : laidOutB P = true) {W W' : World} (hb : Go.RowKit.Below W.heap.size W W') {sp : Nat → Bool} : ∀ (ts : List TypeId) (vs : List Value) (ds : List (DataW H)) (ps : List MemPlace),
  (ts.all fun t => P.readableRec t && decide (t < P.types.size)) = true → DataW.TrodAll enc P W 0 (fun _ => true) true ts vs ds ps → (∀ x ∈ ps, x.block < W.heap.size) → (∀ x ∈ ps, sp x.block = true) → DataW.TrodAll enc P W' 0 sp true ts vs ds ps
 | [], vs, ds, ps, _, h, _, _ => by
  cases vs with
  | nil => cases ds with
   | nil => exact h
   | cons _ _ => exact h.elim
  | cons _ _ => exact h.elim
 | t :: ts, vs, ds, ps, hr, h, hlt, hsp => by
  obtain ⟨v0, vs0, d0, ds0, p0, q0, rfl, rfl, rfl, h0, r0⟩ := trodAll_cons h
  simp only [List.all_cons, Bool.and_eq_true, decide_eq_true_eq] at hr
  refine trodAll_cons_mk (WideElems.Trod_stays hl hr.1.1 hr.1.2 h0 (fun x hx => hb.same (hlt x (by simp [hx]))) (fun x hx => hsp x (by simp [hx]))) ?_
  exact all_stays hl hb ts vs0 ds0 q0 (by simpa using hr.2) r0 (fun x hx => hlt x (by simp [hx])) (fun x hx => hsp x (by simp [hx]))
def hold (W : World) : FH := fun b => W.heap[b]?
theorem hold_sub (W : World) : Sub (hold W) W := fun _ _ e => e
theorem hold_cell {W : World} {a : Addr} {v : Value} (e : W.cell? a = some v) : (hold W).cell a = some v := by
 unfold World.cell? at e
 unfold FH.cell hold
 cases hb : W.heap[a.block]? with
 | none => rw [hb] at e; cases e
 | some o => rw [hb] at e; cases o <;> simp_all
theorem rsl_of {α : Type} [Rep α] {h : FH} : ∀ (xs : List α) (a : Addr), (∀ (i : Nat) (x : α), xs[i]? = some x → ∃ cs, Rep.rep h x cs ∧ CellsAt h (a.add (i * Rep.sz α)) cs) → RSl h (some a) xs
 | [], a, _ => RSl.nil_
 | x :: r, a, hx => by
  obtain ⟨cs, h1, h2⟩ := hx 0 x rfl
  obtain ⟨ds, g1, g2⟩ := rsl_of r (a.add (Rep.sz α)) fun i y hy => by
   obtain ⟨c, k1, k2⟩ := hx (i + 1) y (by simpa using hy)
   refine ⟨c, k1, ?_⟩
   rw [add_add, show Rep.sz α + i * Rep.sz α = (i + 1) * Rep.sz α by rw [Nat.add_mul]; omega]
   exact k2
  have hl := Rep.len h1
  refine ⟨cs ++ ds, ⟨cs, ds, rfl, h1, g1⟩, fun j v e => ⟨by simp, ?_⟩⟩
  show h.cell (a.add j) = some v
  by_cases hj : j < cs.length
  ·rw [List.getElem?_append_left hj] at e
   have := h2 j v e
   rwa [add_add, Nat.zero_mul, Nat.zero_add] at this
  ·rw [List.getElem?_append_right (by omega)] at e
   have := (g2 (j - cs.length) v e).2
   have e2 : ead (some (a.add (Rep.sz α))) (j - cs.length) = a.add j := by
    show (a.add (Rep.sz α)).add (j - cs.length) = a.add j
    rw [add_add, hl]; congr 1; omega
   rwa [e2] at this
class Bytes (α : Type) where
 n : Nat
instance : Bytes Int := ⟨8⟩
instance {α : Type} : Bytes (List α) := ⟨24⟩
class Siz (α : Type) where
 siz : α → Prop
instance : Siz Int := ⟨fun _ => True⟩
instance : Siz Bool := ⟨fun _ => True⟩
instance {α : Type} [Bytes α] [Siz α] : Siz (List α) := ⟨fun xs => xs.length * Bytes.n α ≤ reachBytes ∧ ∀ x ∈ xs, Siz.siz x⟩
def Reads (P : Program) (α : Type) [Rep α] [Siz α] (t : TypeId) : Prop := ∀ (H : Type) (enc : TypeId × Value → H) (w : World) (b : Nat) (sp : Nat → Bool) (hd : Bool) (n : Nat) (cs : List Value) (z : DataW H × List MemPlace), DataW.trod enc P w b sp hd n t cs = some z →
 ∃ x : α, Rep.rep (hold w) x cs ∧ ((∀ m ∈ z.1.weights P t, m ≤ reachBytes) → Siz.siz x)
theorem reads_int {t : TypeId} (ht : P.underlying t = some (.int .i64)) : Reads P Int t := fun H enc w b sp hd n cs z h => by
 obtain ⟨x, e, _⟩ := DataW.trod_int ht h
 exact ⟨x, e, fun _ => trivial⟩
theorem listed_ {α : Type} {p : Nat → α → Prop} : ∀ (m : Nat), (∀ i, i < m → ∃ x : α, p i x) → ∃ xs : List α, xs.length = m ∧ ∀ (i : Nat) (x : α), xs[i]? = some x → p i x
 | 0, _ => ⟨[], rfl, fun i x e => by simp at e⟩
 | k + 1, hx => by
  obtain ⟨xs, h1, h2⟩ := listed_ k fun i hi => hx i (by omega)
  obtain ⟨x, h3⟩ := hx k (by omega)
  refine ⟨xs ++ [x], by simp [h1], fun i y e => ?_⟩
  by_cases hik : i < xs.length
  ·rw [List.getElem?_append_left hik] at e; exact h2 i y e
  ·rw [List.getElem?_append_right (by omega)] at e
   have e0 : i - xs.length = 0 := by have := (List.getElem?_eq_some_iff.1 e).1; simp at this; omega
   rw [e0] at e
   simp at e; subst e
   have : i = k := by omega
   subst this
   exact h3
theorem weights_all {e : TypeId} : ∀ {l : List (DataW H)} {d : DataW H}, d ∈ l → ∀ n ∈ d.weights P e, n ∈ DataW.weightsAll P e l
 | [], _, h, _, _ => by cases h
 | x :: r, d, h, n, hn => by
  simp only [DataW.weightsAll, List.mem_append]
  rcases List.mem_cons.1 h with rfl | h
  ·exact .inl hn
  ·exact .inr (weights_all h n hn)
theorem reads_slice {α : Type} [Rep α] [Bytes α] [Siz α] {t e : TypeId} (ht : P.underlying t = some (.slice e)) (hc : P.cellsOf e = Rep.sz α) (hby : P.bytesOf e = Bytes.n α) (he : Reads P α e) : Reads P (List α) t := fun H enc w b sp hd n cs z h => by
 rcases open_slice ht h with ⟨rfl, _⟩ | ⟨a, len, cap, m, n', D, Q, rfl, _, hl, _, hm, hz, hi⟩
 ·exact ⟨[], ⟨none, 0, rfl, Nat.le_refl _, RSl.nil_⟩, fun _ => ⟨by simp, fun x hx => by cases hx⟩⟩
 ·have hx : ∀ i, i < len → ∃ x : α, (∃ cs, Rep.rep (hold w) x cs ∧ CellsAt (hold w) (a.add (i * Rep.sz α)) cs) ∧ ((∀ m ∈ (D i).weights P e, m ≤ reachBytes) → Siz.siz x) := fun i hlt => by
   have hlm : len ≤ m := by rw [hm]; split <;> omega
   obtain ⟨cs', hcs, ht'⟩ := hi i (by omega)
   obtain ⟨x, hx, hsz⟩ := he H enc w b sp hd n' cs' _ ht'
   obtain ⟨_, hcl, hat⟩ := World.cells?_some hcs
   refine ⟨x, ⟨cs', hx, fun j v e => hold_cell ?_⟩, hsz⟩
   rw [hc] at hat hcl
   rw [hat j (by rw [← hcl]; exact (List.getElem?_eq_some_iff.1 e).1)]
   exact e
  obtain ⟨xs, hxl, hxs⟩ := listed_ len hx
  refine ⟨xs, ⟨some a, cap, by rw [hxl], by omega, rsl_of xs a fun i x hix => (hxs i x hix).1⟩, fun hw => ⟨?_, fun x hx => ?_⟩⟩
  ·have := hw ((((List.range len).map D).length + ((List.range (m - len)).map fun j => D (len + j)).length) * P.bytesOf e) (by rw [hz]; simp [DataW.weights, ht])
   simp only [List.length_map, List.length_range] at this
   rw [hxl, ← hby]
   refine Nat.le_trans (Nat.mul_le_mul_right _ ?_) this
   omega
  ·obtain ⟨i, hi', hix⟩ := List.mem_iff_getElem.1 hx
   refine (hxs i x (by rw [List.getElem?_eq_getElem hi', hix])).2 fun k hk => hw k ?_
   rw [hz]
   simp only [DataW.weights, ht, List.mem_cons, List.mem_append]
   refine .inr (.inl (weights_all (d := D i) ?_ k hk))
   exact List.mem_map.2 ⟨i, List.mem_range.2 (by omega), rfl⟩
theorem reads_field {α : Type} [Rep α] [Siz α] {fs : Array Field} {t : TypeId} {w : World} {b : Nat} {sp : Nat → Bool} {hd : Bool} {n : Nat} {cs : List Value} {xs : List (DataW H × List MemPlace)} (hs : P.underlying t = some (.struct fs)) (hlen : xs.length = fs.size) (hf : ∀ (i : Nat) (f : Field), fs[i]? = some f → DataW.trod enc P w b sp hd n f.type ((cs.drop f.offset).take (P.cellsOf f.type)) = xs[i]?)
  (i : Nat) {f : Field} (hi : fs[i]? = some f) (r : Reads P α f.type) : ∃ x : α, Rep.rep (hold w) x ((cs.drop f.offset).take (P.cellsOf f.type)) ∧ ((∀ m ∈ (DataW.agg (xs.map (·.1))).weights P t, m ≤ reachBytes) → Siz.siz x) := by
 have h1 := hf i f hi
 have hlt : i < xs.length := by rw [hlen]; exact (Array.getElem?_eq_some_iff.1 hi).1
 rw [List.getElem?_eq_getElem hlt] at h1
 obtain ⟨x, hx, hw⟩ := r H enc w b sp hd n _ _ h1
 refine ⟨x, hx, fun hm => hw fun m hm' => hm m ?_⟩
 simp only [DataW.weights, hs]
 refine DataW.weights_mem_each (j := i) (t := f.type) (d := xs[i].1) ?_ ?_ m hm'
 ·rw [List.getElem?_map, Array.getElem?_toList, hi]; rfl
 ·rw [List.getElem?_map, List.getElem?_eq_getElem hlt]; rfl
theorem open_aggR {α : Type} [Rep α] [Siz α] {r : Reach} {b0 b : Nat} {sp : Nat → Bool} {hd : Bool} {t : TypeId} {fs : Array Field} {w : World} {v : Value} {d : DataW H} {p : List MemPlace} (hs : P.underlying t = some (.struct fs)) (hr : Reads P α t) (hv : Value.okWide P w r b0 t v) (h : DataW.Trod enc P w b sp hd t v d p) :
  ∃ (x : α) (cs : List Value), v = .agg cs.toArray ∧ Rep.rep (hold w) x cs ∧ ((∀ m ∈ d.weights P t, m ≤ reachBytes) → Siz.siz x) := by
 obtain ⟨cs, rfl, _⟩ := okWide_struct hs hv
 obtain ⟨fuel, hf⟩ := h
 obtain ⟨x, hx, hz⟩ := hr H enc w b sp hd fuel _ _ hf
 exact ⟨x, cs.toList, by simp, hx, hz⟩
theorem open_sliceR {α : Type} [Rep α] [Bytes α] [Siz α] {r : Reach} {b0 b : Nat} {sp : Nat → Bool} {hd : Bool} {t e : TypeId} {w : World} {v : Value} {d : DataW H} {p : List MemPlace} (hs : P.underlying t = some (.slice e)) (hr : Reads P (List α) t) (hv : Value.okWide P w r b0 t v) (h : DataW.Trod enc P w b sp hd t v d p) :
  ∃ (xs : List α) (a : Option Addr) (c : Nat), v = .slice a xs.length c ∧ xs.length ≤ c ∧ RSl (hold w) a xs ∧ ((∀ m ∈ d.weights P t, m ≤ reachBytes) → Siz.siz xs) := by
 obtain ⟨a, len, cap, rfl⟩ := okWide_slice hs hv
 obtain ⟨fuel, hf⟩ := h
 obtain ⟨xs, ⟨a', c', e1, hl, hr'⟩, hz⟩ := hr H enc w b sp hd fuel _ _ hf
 have e2 : (Value.slice a len cap).cells.toList = [Value.slice a len cap] := rfl
 rw [e2] at e1
 simp only [List.cons.injEq, and_true, Value.slice.injEq] at e1
 obtain ⟨rfl, rfl, rfl⟩ := e1
 exact ⟨xs, a, cap, rfl, hl, hr', hz⟩
end
end Go.Proofs.YtimillpakjgnoaaGreat.Pl

namespace Go.Proofs.YtimillpakjgnoaaGreat.Pl
open Go Go.RowKit Go.WideShapes Go.ChangeShapes Go.ChangeAt Go.Joins Go.Deep
instance : Bytes Operator := ⟨80⟩
instance : Siz Operator := ⟨fun x => Siz.siz x.pre ∧ Siz.siz x.add ∧ Siz.siz x.del ∧ Siz.siz x.cost⟩
instance : Bytes Task := ⟨80⟩
instance : Siz Task := ⟨fun x => Siz.siz x.facts ∧ Siz.siz x.init ∧ Siz.siz x.goal ∧ Siz.siz x.ops⟩
theorem cells3 : Tryz.prog.cellsOf 3 = 1 := by kernel_rfl
theorem cells22 : Tryz.prog.cellsOf 22 = 1 := by kernel_rfl
theorem cells23 : Tryz.prog.cellsOf 23 = 1 := by kernel_rfl
theorem cells25 : Tryz.prog.cellsOf 25 = 4 := by kernel_rfl
theorem cells52 : Tryz.prog.cellsOf 52 = 4 := by kernel_rfl
theorem list4 {β : Type} {l : List β} (h : l.length = 4) : ∃ c0 c1 c2 c3, l = [c0, c1, c2, c3] := by
 match l, h with
 | [c0, c1, c2, c3], _ => exact ⟨c0, c1, c2, c3, rfl⟩
theorem reads_3 : Reads Tryz.prog Int 3 := reads_int Tryz.underlying3
theorem reads_22 : Reads Tryz.prog (List Int) 22 := reads_slice Tryz.underlying22 cells3 (by kernel_rfl) reads_3
theorem reads_52 : Reads Tryz.prog Operator 52 := fun H enc w b sp hd n cs z h => by
 obtain ⟨xs, n', _, rfl, hl, hlen, hf⟩ := DataW.trod_struct Tryz.underlying52 h
 obtain ⟨x0, r0, s0⟩ := reads_field Tryz.underlying52 hlen hf 0 rfl reads_22
 obtain ⟨x1, r1, s1⟩ := reads_field Tryz.underlying52 hlen hf 1 rfl reads_22
 obtain ⟨x2, r2, s2⟩ := reads_field Tryz.underlying52 hlen hf 2 rfl reads_22
 obtain ⟨x3, r3, s3⟩ := reads_field Tryz.underlying52 hlen hf 3 rfl reads_3
 rw [cells52] at hl
 obtain ⟨c0, c1, c2, c3, rfl⟩ := list4 hl
 replace r0 : Rep.rep (hold w) x0 (([c0, c1, c2, c3] : List Value).drop 0 |>.take (Tryz.prog.cellsOf 22)) := r0
 rw [cells22] at r0
 replace r1 : Rep.rep (hold w) x1 (([c0, c1, c2, c3] : List Value).drop 1 |>.take (Tryz.prog.cellsOf 22)) := r1
 rw [cells22] at r1
 replace r2 : Rep.rep (hold w) x2 (([c0, c1, c2, c3] : List Value).drop 2 |>.take (Tryz.prog.cellsOf 22)) := r2
 rw [cells22] at r2
 replace r3 : Rep.rep (hold w) x3 (([c0, c1, c2, c3] : List Value).drop 3 |>.take (Tryz.prog.cellsOf 3)) := r3
 rw [cells3] at r3
 obtain ⟨a0_0, k0_0, e0, l0_0, q0_0⟩ := r0
 replace e0 : ([c0] : List Value) = _ := e0
 simp only [List.cons.injEq, and_true] at e0
 obtain rfl := e0
 obtain ⟨a1_0, k1_0, e1, l1_0, q1_0⟩ := r1
 replace e1 : ([c1] : List Value) = _ := e1
 simp only [List.cons.injEq, and_true] at e1
 obtain rfl := e1
 obtain ⟨a2_0, k2_0, e2, l2_0, q2_0⟩ := r2
 replace e2 : ([c2] : List Value) = _ := e2
 simp only [List.cons.injEq, and_true] at e2
 obtain rfl := e2
 have e3 : ([c3] : List Value) = [.int .i64 x3] := r3
 simp only [List.cons.injEq, and_true] at e3
 obtain rfl := e3
 exact ⟨⟨x0, x1, x2, x3⟩, ⟨a0_0, k0_0, a1_0, k1_0, a2_0, k2_0, rfl, ⟨l0_0, q0_0⟩, ⟨l1_0, q1_0⟩, ⟨l2_0, q2_0⟩⟩, fun hw => ⟨s0 hw, s1 hw, s2 hw, s3 hw⟩⟩
theorem reads_23 : Reads Tryz.prog (List Operator) 23 := reads_slice Tryz.underlying23 cells52 (by kernel_rfl) reads_52
theorem reads_25 : Reads Tryz.prog Task 25 := fun H enc w b sp hd n cs z h => by
 obtain ⟨xs, n', _, rfl, hl, hlen, hf⟩ := DataW.trod_struct Tryz.underlying25 h
 obtain ⟨x0, r0, s0⟩ := reads_field Tryz.underlying25 hlen hf 0 rfl reads_3
 obtain ⟨x1, r1, s1⟩ := reads_field Tryz.underlying25 hlen hf 1 rfl reads_22
 obtain ⟨x2, r2, s2⟩ := reads_field Tryz.underlying25 hlen hf 2 rfl reads_22
 obtain ⟨x3, r3, s3⟩ := reads_field Tryz.underlying25 hlen hf 3 rfl reads_23
 rw [cells25] at hl
 obtain ⟨c0, c1, c2, c3, rfl⟩ := list4 hl
 replace r0 : Rep.rep (hold w) x0 (([c0, c1, c2, c3] : List Value).drop 0 |>.take (Tryz.prog.cellsOf 3)) := r0
 rw [cells3] at r0
 replace r1 : Rep.rep (hold w) x1 (([c0, c1, c2, c3] : List Value).drop 1 |>.take (Tryz.prog.cellsOf 22)) := r1
 rw [cells22] at r1
 replace r2 : Rep.rep (hold w) x2 (([c0, c1, c2, c3] : List Value).drop 2 |>.take (Tryz.prog.cellsOf 22)) := r2
 rw [cells22] at r2
 replace r3 : Rep.rep (hold w) x3 (([c0, c1, c2, c3] : List Value).drop 3 |>.take (Tryz.prog.cellsOf 23)) := r3
 rw [cells23] at r3
 have e0 : ([c0] : List Value) = [.int .i64 x0] := r0
 simp only [List.cons.injEq, and_true] at e0
 obtain rfl := e0
 obtain ⟨a1_0, k1_0, e1, l1_0, q1_0⟩ := r1
 replace e1 : ([c1] : List Value) = _ := e1
 simp only [List.cons.injEq, and_true] at e1
 obtain rfl := e1
 obtain ⟨a2_0, k2_0, e2, l2_0, q2_0⟩ := r2
 replace e2 : ([c2] : List Value) = _ := e2
 simp only [List.cons.injEq, and_true] at e2
 obtain rfl := e2
 obtain ⟨a3_0, k3_0, e3, l3_0, q3_0⟩ := r3
 replace e3 : ([c3] : List Value) = _ := e3
 simp only [List.cons.injEq, and_true] at e3
 obtain rfl := e3
 exact ⟨⟨x0, x1, x2, x3⟩, ⟨a1_0, k1_0, a2_0, k2_0, a3_0, k3_0, rfl, ⟨l1_0, q1_0⟩, ⟨l2_0, q2_0⟩, ⟨l3_0, q3_0⟩⟩, fun hw => ⟨s0 hw, s1 hw, s2 hw, s3 hw⟩⟩
end Go.Proofs.YtimillpakjgnoaaGreat.Pl

