/- The walks: from what each function asks to what it does; printed from the code. No condition. -/
import Derived.Test.YtijicdmpidbacaaW4
namespace Go.Proofs.Ytijicdmpidbacaa.Pl
open Go Go.RowKit
theorem w_lawDispatchRespects {h : FH} {w : World} (hs : Sub h w) (u : Uncertain) (au : Option Addr) (cu : Nat) (_q1 : RSl h au u.network.links) (_q2 : u.network.links.length ≤ cu) (au2 : Option Addr) (cu2 : Nat) (_q3 : RSl h au2 u.contingent) (_q4 : u.contingent.length ≤ cu2) (d : List Int) (ad : Option Addr) (cd : Nat) (_q5 : RSl h ad d) (_q6 : d.length ≤ cd) (K : Bool → Prop) (hF : F_lawDispatchRespects u d K) : Calls Try.prog 14 #[.agg #[.int .i64 u.network.events, .slice au u.network.links.length cu, .slice au2 u.contingent.length cu2], .slice ad d.length cd] w fun e w' => ∃ r : Bool, K r ∧ e = .returned (.bool r) ∧ Below w.heap.size w w' := by
  refine enter (args := [.agg #[.int .i64 u.network.events, .slice au u.network.links.length cu, .slice au2 u.contingent.length cu2], .slice ad d.length cd]) Try.func14 rfl Try.ntmps14 rfl hs ?_
  refine .seq ?_
  refine .region ?_
  refine bx (vs := [.int .i64 u.network.events, .slice au u.network.links.length cu, .slice au2 u.contingent.length cu2]) rfl rfl rfl (fun pu => ?_)
  refine .v (asg rfl) rfl rfl rfl ?_
  refine .nil ?_
  refine .seqN ?_
  refine .seq ?_
  refine .region ?_
  refine .v (ldA (cs := [.int .i64 u.network.events, .slice au u.network.links.length cu, .slice au2 u.contingent.length cu2]) rfl tA51 rfl (cellsB (off := 0) (k := 0) rfl (m := 3) rfl)) rfl rfl rfl ?_
  refine .v (mv rfl) rfl rfl rfl ?_
  obtain ⟨r2, q7⟩ : ∃ y_ : List Int × Bool × Fault, y_ = sp_dispatch u d := ⟨_, rfl⟩
  replace hF := hF r2 q7
  refine clR (α := Option Addr × Nat) (Φ := fun h1 z => RSl h1 z.1 r2.1 ∧ r2.1.length ≤ z.2) (V := fun z => .tuple #[.slice z.1 r2.1.length z.2, .bool r2.2.1, .agg #[.int .i64 r2.2.2.code, .int .i64 r2.2.2.index]]) Try.call36 rfl rfl (fun w S => (by rw [q7]; exact c_dispatch S.sub u au cu _q1 _q2 au2 cu2 _q3 _q4 d ad cd _q5 _q6 )) rfl (fun z h1 le1 hz => ?_)
  obtain ⟨a, c⟩ := z
  obtain ⟨q8, q9⟩ := hz
  refine .v (mv rfl) rfl rfl rfl ?_
  refine .v (ext rfl rfl) rfl rfl rfl ?_
  refine .v (ext rfl rfl) rfl rfl rfl ?_
  refine .v (ext rfl rfl) rfl rfl rfl ?_
  refine al tZ27 rfl (fun pf => ?_)
  refine .v (asg rfl) rfl rfl rfl ?_
  refine .v (asg rfl) rfl rfl rfl ?_
  refine st (p := pf) (off := 0) (k := 0) (vs := [.int .i64 r2.2.2.code, .int .i64 r2.2.2.index]) rfl rfl rfl (fun w => (tA27 w).2) rfl rfl rfl rfl ?_
  refine .cast (A' := [Box pf [.int .i64 r2.2.2.code, .int .i64 r2.2.2.index], Box pu [.int .i64 u.network.events, .slice au u.network.links.length cu, .slice au2 u.contingent.length cu2]]) rfl ?_
  refine .nil ?_
  refine .seqN ?_
  refine .seq ?_
  refine .region ?_
  refine .v (ldA (cs := [.int .i64 u.network.events, .slice au u.network.links.length cu, .slice au2 u.contingent.length cu2]) rfl tA51 rfl (cellsB (off := 0) (k := 1) rfl (m := 3) rfl)) rfl rfl rfl ?_
  refine .v (mv rfl) rfl rfl rfl ?_
  obtain ⟨r3, q10⟩ : ∃ y_ : Network × Fault, y_ = sp_fix u d := ⟨_, rfl⟩
  replace hF := hF r3 q10
  refine clR (α := Option Addr × Nat) (Φ := fun h1 z => RSl h1 z.1 r3.1.links ∧ r3.1.links.length ≤ z.2) (V := fun z => .tuple #[.agg #[.int .i64 r3.1.events, .slice z.1 r3.1.links.length z.2], .agg #[.int .i64 r3.2.code, .int .i64 r3.2.index]]) Try.call39 rfl rfl (fun w S => (by rw [q10]; exact c_fix S.sub u au cu (_q1.mono (le1)) _q2 au2 cu2 (_q3.mono (le1)) _q4 d ad cd (_q5.mono (le1)) _q6 )) rfl (fun z h2 le2 hz => ?_)
  obtain ⟨a2, c2⟩ := z
  obtain ⟨q11, q12⟩ := hz
  refine .v (mv rfl) rfl rfl rfl ?_
  refine .v (ext rfl rfl) rfl rfl rfl ?_
  refine .v (ext rfl rfl) rfl rfl rfl ?_
  refine al tZ24 rfl (fun pn => ?_)
  refine al tZ27 rfl (fun pg => ?_)
  refine st (p := pn) (off := 0) (k := 1) (vs := [.int .i64 r3.1.events, .slice a2 r3.1.links.length c2]) rfl rfl rfl (fun w => (tA24 w).2) rfl rfl rfl rfl ?_
  refine .cast (A' := [Box pg [.int .i64 0, .int .i64 0], Box pn [.int .i64 r3.1.events, .slice a2 r3.1.links.length c2], Box pf [.int .i64 r2.2.2.code, .int .i64 r2.2.2.index], Box pu [.int .i64 u.network.events, .slice au u.network.links.length cu, .slice au2 u.contingent.length cu2]]) rfl ?_
  refine st (p := pg) (off := 0) (k := 0) (vs := [.int .i64 r3.2.code, .int .i64 r3.2.index]) rfl rfl rfl (fun w => (tA27 w).2) rfl rfl rfl rfl ?_
  refine .cast (A' := [Box pg [.int .i64 r3.2.code, .int .i64 r3.2.index], Box pn [.int .i64 r3.1.events, .slice a2 r3.1.links.length c2], Box pf [.int .i64 r2.2.2.code, .int .i64 r2.2.2.index], Box pu [.int .i64 u.network.events, .slice au u.network.links.length cu, .slice au2 u.contingent.length cu2]]) rfl ?_
  refine .nil ?_
  refine .seqN ?_
  refine .seq ?_
  refine .share (σ := Bool) (fun z => F_lawDispatchRespects_J1 K r2 r3 z) (fun z => [(5, .slice a r2.1.length c), (8, .pointer (some pn)), (36, .bool z)]) (fun _ => [Box pn [.int .i64 r3.1.events, .slice a2 r3.1.links.length c2]]) (fun _ => h2) ?_ (fun q15 => ?_)
  · rintro t36 hF
    show J _ _ _ _ _ [(5, .slice a r2.1.length c), (8, .pointer (some pn)), (36, .bool t36)] [Box pn [.int .i64 r3.1.events, .slice a2 r3.1.links.length c2]] h2
    refine .cond rfl (fun q18 => ?_) (fun q18 => ?_)
    · replace hF := hF.1 q18
      refine .seq ?_
      refine .region ?_
      obtain ⟨r4, q19⟩ : ∃ y_ : Bool, y_ = sp_awaited := ⟨_, rfl⟩
      replace hF := hF r4 q19
      refine .c (cl (v := .bool r4) Try.call30 rfl rfl (fun w S => (by rw [q19]; exact c_awaited S.sub  ))) rfl rfl rfl ?_
      refine .v (asg rfl) rfl rfl rfl ?_
      refine .nil ?_
      refine .seqN ?_
      refine .ret ?_
      refine .seqR ?_
      refine .res1 rfl (rvT rfl) (fun w' S => ⟨r4, hF, rfl, S.below⟩)
    replace hF := hF.2 q18
    refine .skip ?_
    refine .seqN ?_
    refine .seq ?_
    refine .region ?_
    refine .v (ldA (cs := [.int .i64 r3.1.events, .slice a2 r3.1.links.length c2]) rfl tA24 rfl (cellsB (off := 0) (k := 0) rfl (m := 2) rfl)) rfl rfl rfl ?_
    refine .v (mv rfl) rfl rfl rfl ?_
    obtain ⟨r5, q20⟩ : ∃ y_ : Bool × Fault, y_ = sp_respects r3.1 r2.1 := ⟨_, rfl⟩
    replace hF := hF r5 q20
    refine .c (cl (v := .tuple #[.bool r5.1, .agg #[.int .i64 r5.2.code, .int .i64 r5.2.index]]) Try.call18 rfl rfl (fun w S => (by rw [q20]; exact c_respects S.sub r3.1 a2 c2 q11 q12 r2.1 a c (q8.mono (le2)) q9 ))) rfl rfl rfl ?_
    refine .v (mv rfl) rfl rfl rfl ?_
    refine .v (ext rfl rfl) rfl rfl rfl ?_
    refine .v (ext rfl rfl) rfl rfl rfl ?_
    refine al tZ27 rfl (fun ph => ?_)
    refine .v (asg rfl) rfl rfl rfl ?_
    refine st (p := ph) (off := 0) (k := 0) (vs := [.int .i64 r5.2.code, .int .i64 r5.2.index]) rfl rfl rfl (fun w => (tA27 w).2) rfl rfl rfl rfl ?_
    refine .cast (A' := [Box ph [.int .i64 r5.2.code, .int .i64 r5.2.index], Box pn [.int .i64 r3.1.events, .slice a2 r3.1.links.length c2]]) rfl ?_
    refine .nil ?_
    refine .seqN ?_
    refine .seq ?_
    refine .region ?_
    refine .v (fa rfl tF27_0) rfl rfl rfl ?_
    refine .v (ld1 rfl tO3 (cellB (off := 0) (k := 0) rfl rfl)) rfl rfl rfl ?_
    refine .v (bi rfl rfl rfl) rfl rfl rfl ?_
    refine .v (mv rfl) rfl rfl rfl ?_
    rcases Bool.eq_false_or_eq_true (r5.2.code == 0) with q24 | q24
    · replace hF := hF.1 q24
      refine .gv (mv rfl) rfl rfl rfl q24 rfl rfl ?_
      refine .v (pkT rfl q24 rfl) rfl rfl rfl ?_
      refine .v (mv rfl) rfl rfl rfl ?_
      rcases Bool.eq_false_or_eq_true (r5.1) with q25 | q25
      · replace hF := hF.1 q25
        obtain ⟨r6, q26⟩ : ∃ y_ : Bool, y_ = sp_awaited := ⟨_, rfl⟩
        replace hF := hF r6 q26
        refine .gc (cl (v := .bool r6) Try.call30 rfl rfl (fun w S => (by rw [q26]; exact c_awaited S.sub  ))) rfl rfl rfl q25 rfl rfl ?_
        refine .v (pkT rfl q25 rfl) rfl rfl rfl ?_
        refine .v (asg rfl) rfl rfl rfl ?_
        refine .nil ?_
        refine .seqN ?_
        refine .ret ?_
        refine .res1 rfl (rvT rfl) (fun w' S => ⟨r6, hF, rfl, S.below⟩)
      replace hF := hF.2 q25
      refine .gS rfl rfl rfl q25 rfl rfl ?_
      refine .v (pkF rfl q25 rfl) rfl rfl rfl ?_
      refine .v (asg rfl) rfl rfl rfl ?_
      refine .nil ?_
      refine .seqN ?_
      refine .ret ?_
      refine .res1 rfl (rvT rfl) (fun w' S => ⟨false, hF, rfl, S.below⟩)
    replace hF := hF.2 q24
    refine .gS rfl rfl rfl q24 rfl rfl ?_
    refine .v (pkF rfl q24 rfl) rfl rfl rfl ?_
    refine .v (mv rfl) rfl rfl rfl ?_
    refine .gS rfl rfl rfl rfl rfl rfl ?_
    refine .v (pkF rfl rfl rfl) rfl rfl rfl ?_
    refine .v (asg rfl) rfl rfl rfl ?_
    refine .nil ?_
    refine .seqN ?_
    refine .ret ?_
    refine .res1 rfl (rvT rfl) (fun w' S => ⟨false, hF, rfl, S.below⟩)
  refine .region ?_
  refine .v (fa rfl tF27_0) rfl rfl rfl ?_
  refine .v (ld1 rfl tO3 (cellB (off := 0) (k := 2) rfl rfl)) rfl rfl rfl ?_
  refine .v (bi rfl rfl rfl) rfl rfl rfl ?_
  refine .v (mv rfl) rfl rfl rfl ?_
  rcases Bool.eq_false_or_eq_true (r2.2.2.code != 0) with q27 | q27
  · replace hF := hF.1 q27
    refine .gS rfl rfl rfl q27 rfl rfl ?_
    refine .gS rfl rfl rfl q27 rfl rfl ?_
    refine .gS rfl rfl rfl q27 rfl rfl ?_
    refine .v (pkT rfl q27 rfl) rfl rfl rfl ?_
    refine .v (mv rfl) rfl rfl rfl ?_
    refine .gS rfl rfl rfl rfl rfl rfl ?_
    refine .gS rfl rfl rfl rfl rfl rfl ?_
    refine .v (pkT rfl rfl rfl) rfl rfl rfl ?_
    refine .nil ?_
    refine .sel0 [1] (by decide) rfl ?_
    exact .use q15 true hF (.cons rfl (.cons rfl (.cons rfl (.nil)))) rfl (FH.le_refl _)
  replace hF := hF.2 q27
  refine .gv (fa rfl tF27_0) rfl rfl rfl q27 rfl rfl ?_
  refine .gv (ld1 rfl tO3 (cellB (off := 0) (k := 0) rfl rfl)) rfl rfl rfl q27 rfl rfl ?_
  refine .gv (bi rfl rfl rfl) rfl rfl rfl q27 rfl rfl ?_
  refine .v (pkF rfl q27 rfl) rfl rfl rfl ?_
  refine .v (mv rfl) rfl rfl rfl ?_
  rcases Bool.eq_false_or_eq_true (r3.2.code != 0) with q28 | q28
  · replace hF := hF.1 q28
    refine .gS rfl rfl rfl q28 rfl rfl ?_
    refine .gS rfl rfl rfl q28 rfl rfl ?_
    refine .v (pkT rfl q28 rfl) rfl rfl rfl ?_
    refine .nil ?_
    refine .sel0 [1] (by decide) rfl ?_
    exact .use q15 true hF (.cons rfl (.cons rfl (.cons rfl (.nil)))) rfl (FH.le_refl _)
  replace hF := hF.2 q28
  refine .gv (mv rfl) rfl rfl rfl q28 rfl rfl ?_
  refine .gv (nt rfl) rfl rfl rfl q28 rfl rfl ?_
  refine .v (pkF rfl q28 rfl) rfl rfl rfl ?_
  refine .nil ?_
  refine .sel0 [1] (by decide) rfl ?_
  exact .use q15 (!r2.2.1) hF (.cons rfl (.cons rfl (.cons rfl (.nil)))) rfl (FH.le_refl _)

theorem c_lawDispatchRespects {h : FH} {w : World} (hs : Sub h w) (u : Uncertain) (au : Option Addr) (cu : Nat) (_q1 : RSl h au u.network.links) (_q2 : u.network.links.length ≤ cu) (au2 : Option Addr) (cu2 : Nat) (_q3 : RSl h au2 u.contingent) (_q4 : u.contingent.length ≤ cu2) (d : List Int) (ad : Option Addr) (cd : Nat) (_q5 : RSl h ad d) (_q6 : d.length ≤ cd) : Calls Try.prog 14 #[.agg #[.int .i64 u.network.events, .slice au u.network.links.length cu, .slice au2 u.contingent.length cu2], .slice ad d.length cd] w fun e w' => e = .returned (.bool (sp_lawDispatchRespects u d)) ∧ Below w.heap.size w w' :=
  (w_lawDispatchRespects hs u au cu _q1 _q2 au2 cu2 _q3 _q4 d ad cd _q5 _q6 (fun r => r = sp_lawDispatchRespects u d) (ok_lawDispatchRespects u d)).mono fun _ _ ⟨_, hk, he, hb⟩ => ⟨by rw [he, hk], hb⟩

theorem w_sets {h : FH} {w : World} (hs : Sub h w) (a : List (List Int)) (aa : Option Addr) (ca : Nat) (_q1 : RSl h aa a) (_q2 : a.length ≤ ca) (b : List (List Int)) (ab : Option Addr) (cb : Nat) (_q3 : RSl h ab b) (_q4 : b.length ≤ cb) (K : Bool → Prop) (hF : F_sets a b K) : Calls Try.prog 24 #[.slice aa a.length ca, .slice ab b.length cb] w fun e w' => ∃ r : Bool, K r ∧ e = .returned (.bool r) ∧ Below w.heap.size w w' := by
  refine enter (args := [.slice aa a.length ca, .slice ab b.length cb]) Try.func24 rfl Try.ntmps24 rfl hs ?_
  refine .seq ?_
  refine .region ?_
  refine .v (asg rfl) rfl rfl rfl ?_
  refine .nil ?_
  refine .seqN ?_
  refine .seq ?_
  refine .seq ?_
  refine .region ?_
  refine .v (mv rfl) rfl rfl rfl ?_
  refine .v (ln rfl tS25.is) rfl rfl rfl ?_
  refine .v (mv rfl) rfl rfl rfl ?_
  refine .v (ln rfl tS25.is) rfl rfl rfl ?_
  refine .v (bi rfl rfl rfl) rfl rfl rfl ?_
  refine .nil ?_
  refine .seqN ?_
  refine .cond rfl (fun q5 => ?_) (fun q5 => ?_)
  · replace hF := hF.1 q5
    refine .seq ?_
    refine .region ?_
    refine .v (asg rfl) rfl rfl rfl ?_
    refine .nil ?_
    refine .seqN ?_
    refine .ret ?_
    refine .seqR ?_
    refine .res1 rfl (rvT rfl) (fun w' S => ⟨false, hF, rfl, S.below⟩)
  replace hF := hF.2 q5
  refine .skip ?_
  refine .seqN ?_
  refine .seq ?_
  refine .seq ?_
  refine .region ?_
  refine .v (asg rfl) rfl rfl rfl ?_
  refine .nil ?_
  refine .seqN ?_
  refine .block ?_
  obtain ⟨I1, μ1, q52, q53⟩ := hF
  refine .loop' (σ := Int) (fun z => I1 z) (fun z => μ1 z) (fun z => [(0, .slice aa a.length ca), (1, .slice ab b.length cb), (5, .int .i64 z)]) (fun _ => []) (fun _ => h) 0 q52 (.cons rfl (.cons rfl (.cons rfl (.nil)))) rfl (FH.le_refl _) ?_
  rintro i q52
  have hF := q53 i q52
  show J _ _ _ _ _ [(0, .slice aa a.length ca), (1, .slice ab b.length cb), (5, .int .i64 i)] [] h
  refine .seq ?_
  refine .seq ?_
  refine .region ?_
  refine .v (mv rfl) rfl rfl rfl ?_
  refine .v (mv rfl) rfl rfl rfl ?_
  refine .v (ln rfl tS25.is) rfl rfl rfl ?_
  refine .v (bi rfl rfl rfl) rfl rfl rfl ?_
  refine .nil ?_
  refine .seqN ?_
  refine .cond rfl (fun q54 => ?_) (fun q54 => ?_)
  · replace hF := hF.1 q54
    refine .skip ?_
    refine .seqN ?_
    refine .seq ?_
    refine .block ?_
    refine .seq ?_
    refine .open_ (by kernel_rfl) (by kernel_rfl) ?_
    refine .v (mv rfl) rfl rfl rfl ?_
    refine .v (mv rfl) rfl rfl rfl ?_
    obtain ⟨q66, hF⟩ := hF
    refine .v (ix rfl rfl tS25 (_q1.ne (by decide) (inb_pos q66)) q66) rfl rfl rfl ?_
    obtain ⟨_, ⟨a2, c, rfl, q67, q68⟩, q69⟩ := _q1.elem q66
    refine .v (ld1 (v := .slice a2 ((gt a i).length) c) rfl tO32 (cellH (q69 (by decide) 0 _ rfl))) rfl rfl rfl ?_
    refine .v (mv rfl) rfl rfl rfl ?_
    refine .v (mv rfl) rfl rfl rfl ?_
    obtain ⟨q70, hF⟩ := hF
    refine .v (ix rfl rfl tS25 (_q3.ne (by decide) (inb_pos q70)) q70) rfl rfl rfl ?_
    obtain ⟨_, ⟨a3, c2, rfl, q71, q72⟩, q73⟩ := _q3.elem q70
    refine .v (ld1 (v := .slice a3 ((gt b i).length) c2) rfl tO32 (cellH (q73 (by decide) 0 _ rfl))) rfl rfl rfl ?_
    obtain ⟨q74, hF⟩ := hF
    obtain ⟨r2, q75⟩ : ∃ y_ : Bool, y_ = sp_numbers (gt a i) (gt b i) := ⟨_, rfl⟩
    replace hF := hF r2 q75
    refine .c (cl (v := .bool r2) Try.call33 rfl rfl (fun w S => (by rw [q75]; exact c_numbers S.sub (gt a i) a2 c q68 q67 (gt b i) a3 c2 q72 q71 q74))) rfl rfl rfl ?_
    refine .v (nt rfl) rfl rfl rfl ?_
    refine .fin ?_
    refine .seqN ?_
    refine .cond rfl (fun q76 => ?_) (fun q76 => ?_)
    · replace hF := hF.1 q76
      refine .seq ?_
      refine .region ?_
      refine .v (asg rfl) rfl rfl rfl ?_
      refine .nil ?_
      refine .seqN ?_
      refine .ret ?_
      refine .blkR ?_
      refine .seqR ?_
      refine .seqR ?_
      refine .blkR ?_
      refine .seqR ?_
      refine .res1 rfl (rvT rfl) (fun w' S => ⟨false, hF, rfl, S.below⟩)
    replace hF := hF.2 q76
    refine .skip ?_
    refine .blkN ?_
    refine .seqN ?_
    refine .region ?_
    refine .v (mv rfl) rfl rfl rfl ?_
    refine .v (bi rfl rfl rfl) rfl rfl rfl ?_
    refine .v (asg rfl) rfl rfl rfl ?_
    refine .nil ?_
    exact .round (IntKind.i64.wrap (i + 1)) hF.1 hF.2 (.cons rfl (.cons rfl (.cons rfl (.nil)))) rfl (FH.le_refl _)
  replace hF := hF.2 q54
  refine .exit ?_
  refine .seqX ?_
  refine .seqX ?_
  refine .blkX ?_
  refine .seqN ?_
  refine .seq ?_
  refine .region ?_
  refine .v (asg rfl) rfl rfl rfl ?_
  refine .nil ?_
  refine .seqN ?_
  refine .ret ?_
  refine .res1 rfl (rvT rfl) (fun w' S => ⟨true, hF, rfl, S.below⟩)

theorem c_sets {h : FH} {w : World} (hs : Sub h w) (a : List (List Int)) (aa : Option Addr) (ca : Nat) (_q1 : RSl h aa a) (_q2 : a.length ≤ ca) (b : List (List Int)) (ab : Option Addr) (cb : Nat) (_q3 : RSl h ab b) (_q4 : b.length ≤ cb) (hp : pre_sets a b) : Calls Try.prog 24 #[.slice aa a.length ca, .slice ab b.length cb] w fun e w' => e = .returned (.bool (sp_sets a b)) ∧ Below w.heap.size w w' :=
  (w_sets hs a aa ca _q1 _q2 b ab cb _q3 _q4 (fun r => r = sp_sets a b) (ok_sets a b hp)).mono fun _ _ ⟨_, hk, he, hb⟩ => ⟨by rw [he, hk], hb⟩

theorem w_pair {h : FH} {w : World} (hs : Sub h w) (low : Int) (high : Int) (K : Network → Prop) (hF : F_pair low high K) : Calls Try.prog 46 #[.int .i64 low, .int .i64 high] w fun e w' => ∃ (r : Network) (z : Option Addr × Nat) (h1 : FH), K r ∧ e = .returned (.agg #[.int .i64 r.events, .slice z.1 r.links.length z.2]) ∧ FH.le h h1 ∧ (RSl h1 z.1 r.links ∧ r.links.length ≤ z.2) ∧ SH (Kp.all w h) h1 w' [] := by
  refine enter (args := [.int .i64 low, .int .i64 high]) Try.func46 rfl Try.ntmps46 rfl hs ?_
  refine .seq ?_
  refine .region ?_
  refine al tZ24 rfl (fun pv => ?_)
  refine .nil ?_
  refine .seqN ?_
  refine .seq ?_
  refine .region ?_
  refine .v (mv rfl) rfl rfl rfl ?_
  refine .v (mv rfl) rfl rfl rfl ?_
  refine .v (bld (cs := #[.int .i64 0, .int .i64 1, .int .i64 low, .int .i64 high]) (pv := [(0, .int .i64 0), (1, .int .i64 1), (2, .int .i64 low), (3, .int .i64 high)]) tB35 rfl rfl) rfl rfl rfl ?_
  refine bs2 (cs := #[.int .i64 0, .int .i64 1, .int .i64 low, .int .i64 high]) (pv := [(0, .agg #[.int .i64 0, .int .i64 1, .int .i64 low, .int .i64 high])]) tS22 rfl rfl (by decide) (by decide) rfl rfl rfl (fun a _ => ?_)
  refine .cast (A' := [OwnSl 35 4 a (([(⟨0, 1, low, high⟩ : Link)] : List Link).length) 1 (flL ([(⟨0, 1, low, high⟩ : Link)] : List Link)), Box pv [.int .i64 0, .slice none 0 0]]) rfl ?_
  refine .v (bld (cs := #[.int .i64 2, .slice a (([(⟨0, 1, low, high⟩ : Link)] : List Link).length) 1]) (pv := [(0, .int .i64 2), (1, .slice a (([(⟨0, 1, low, high⟩ : Link)] : List Link).length) 1)]) tB24 rfl rfl) rfl rfl rfl ?_
  refine st (p := pv) (off := 0) (k := 1) (vs := [.int .i64 2, .slice a (([(⟨0, 1, low, high⟩ : Link)] : List Link).length) 1]) rfl rfl rfl (fun w => (tA24 w).2) rfl rfl rfl rfl ?_
  refine .cast (A' := [OwnSl 35 4 a (([(⟨0, 1, low, high⟩ : Link)] : List Link).length) 1 (flL ([(⟨0, 1, low, high⟩ : Link)] : List Link)), Box pv [.int .i64 2, .slice a (([(⟨0, 1, low, high⟩ : Link)] : List Link).length) 1]]) rfl ?_
  refine .nil ?_
  refine .seqN ?_
  refine .freezeL (k := 0) rfl (fun h1 le1 q3 q2 => ?_)
  refine .cast (A' := [tru, Box pv [.int .i64 2, .slice a (([(⟨0, 1, low, high⟩ : Link)] : List Link).length) 1]]) rfl ?_
  refine .ret ?_
  refine .res1 rfl (rvC rfl tA24 (k := 1) rfl rfl) (fun w' S => ⟨(⟨2, ([(⟨0, 1, low, high⟩ : Link)] : List Link)⟩ : Network), (a, 1), h1, hF, rfl, (le1), ⟨(RSl.of q2), (q3)⟩, S.none⟩)

theorem c_pair {h : FH} {w : World} (hs : Sub h w) (low : Int) (high : Int) : Calls Try.prog 46 #[.int .i64 low, .int .i64 high] w fun e w' => ∃ (z : Option Addr × Nat) (h1 : FH), e = .returned (.agg #[.int .i64 (sp_pair low high).events, .slice z.1 (sp_pair low high).links.length z.2]) ∧ FH.le h h1 ∧ (RSl h1 z.1 (sp_pair low high).links ∧ (sp_pair low high).links.length ≤ z.2) ∧ SH (Kp.all w h) h1 w' [] :=
  (w_pair hs low high (fun r => r = sp_pair low high) (ok_pair low high)).mono fun _ _ ⟨r, z, h1, hk, he, hl, hf, hS⟩ => by subst hk; exact ⟨z, h1, he, hl, hf, hS⟩

theorem w_minimal {h : FH} {w : World} (hs : Sub h w) (n_ : Network) (an_ : Option Addr) (cn_ : Nat) (_q1 : RSl h an_ n_.links) (_q2 : n_.links.length ≤ cn_) (K : (List (List Int) × Bool × Fault) → Prop) (hF : F_minimal n_ K) : Calls Try.prog 15 #[.agg #[.int .i64 n_.events, .slice an_ n_.links.length cn_]] w fun e w' => ∃ (r : List (List Int) × Bool × Fault) (z : Option Addr × Nat) (h1 : FH), K r ∧ e = .returned (.tuple #[.slice z.1 r.1.length z.2, .bool r.2.1, .agg #[.int .i64 r.2.2.code, .int .i64 r.2.2.index]]) ∧ FH.le h h1 ∧ (RSl h1 z.1 r.1 ∧ r.1.length ≤ z.2) ∧ SH (Kp.all w h) h1 w' [] := by
  refine enter (args := [.agg #[.int .i64 n_.events, .slice an_ n_.links.length cn_]]) Try.func15 rfl Try.ntmps15 rfl hs ?_
  refine .seq ?_
  refine .region ?_
  refine bx (vs := [.int .i64 n_.events, .slice an_ n_.links.length cn_]) rfl rfl rfl (fun pn => ?_)
  refine .v (asg rfl) rfl rfl rfl ?_
  refine .v (asg rfl) rfl rfl rfl ?_
  refine al tZ27 rfl (fun pv => ?_)
  refine .nil ?_
  refine .seqN ?_
  refine .seq ?_
  refine .seq ?_
  refine .region ?_
  refine .v (ldA (cs := [.int .i64 n_.events, .slice an_ n_.links.length cn_]) rfl tA24 rfl (cellsB (off := 0) (k := 1) rfl (m := 2) rfl)) rfl rfl rfl ?_
  obtain ⟨r2, q3⟩ : ∃ y_ : Fault, y_ = sp_validate n_ := ⟨_, rfl⟩
  replace hF := hF r2 q3
  refine .c (cl (v := .agg #[.int .i64 r2.code, .int .i64 r2.index]) Try.call22 rfl rfl (fun w S => (by rw [q3]; exact c_validate S.sub n_ an_ cn_ _q1 _q2 ))) rfl rfl rfl ?_
  refine al tZ27 rfl (fun pf => ?_)
  refine st (p := pf) (off := 0) (k := 0) (vs := [.int .i64 r2.code, .int .i64 r2.index]) rfl rfl rfl (fun w => (tA27 w).2) rfl rfl rfl rfl ?_
  refine .cast (A' := [Box pf [.int .i64 r2.code, .int .i64 r2.index], Box pv [.int .i64 0, .int .i64 0], Box pn [.int .i64 n_.events, .slice an_ n_.links.length cn_]]) rfl ?_
  refine .nil ?_
  refine .seqN ?_
  refine .seq ?_
  refine .region ?_
  refine .v (ldA (cs := [.int .i64 r2.code, .int .i64 r2.index]) rfl tA27 rfl (cellsB (off := 0) (k := 0) rfl (m := 2) rfl)) rfl rfl rfl ?_
  refine .v (bld (cs := #[.int .i64 0, .int .i64 0]) (pv := []) tB27 rfl rfl) rfl rfl rfl ?_
  refine .v (ne2 tE27 rfl rfl) rfl rfl rfl ?_
  refine .nil ?_
  refine .seqN ?_
  refine .cond rfl (fun q4 => ?_) (fun q4 => ?_)
  · replace hF := hF.1 q4
    refine .seq ?_
    refine .openL (by kernel_rfl) rfl (by kernel_rfl) (by kernel_rfl) ?_
    refine .v (ldA (cs := [.int .i64 r2.code, .int .i64 r2.index]) rfl tA27 rfl (cellsB (off := 0) (k := 0) rfl (m := 2) rfl)) rfl rfl rfl ?_
    refine .v (asg rfl) rfl rfl rfl ?_
    refine .v (asg rfl) rfl rfl rfl ?_
    refine .tail ?_
    refine st (p := pv) (off := 0) (k := 1) (vs := [.int .i64 r2.code, .int .i64 r2.index]) rfl rfl rfl (fun w => (tA27 w).2) rfl rfl rfl rfl ?_
    refine .cast (A' := [Box pf [.int .i64 r2.code, .int .i64 r2.index], Box pv [.int .i64 r2.code, .int .i64 r2.index], Box pn [.int .i64 n_.events, .slice an_ n_.links.length cn_]]) rfl ?_
    refine .nil ?_
    refine .seqN ?_
    refine .ret ?_
    refine .seqR ?_
    refine .res3 rfl (rvT rfl) (rvT rfl) (rvC rfl tA27 (k := 1) rfl rfl) (fun w' S => ⟨(([] : List (List Int)), false, r2), (none, 0), h, hF, rfl, (FH.le_refl _), ⟨RSl.nil_, (Nat.le_refl 0)⟩, S.none⟩)
  replace hF := hF.2 q4
  refine .skip ?_
  refine .seqN ?_
  refine .seq ?_
  refine .region ?_
  refine .v (ldA (cs := [.int .i64 n_.events, .slice an_ n_.links.length cn_]) rfl tA24 rfl (cellsB (off := 0) (k := 2) rfl (m := 2) rfl)) rfl rfl rfl ?_
  obtain ⟨q5, hF⟩ := hF
  obtain ⟨r3, q6⟩ : ∃ y_ : List (List Int) × Bool, y_ = sp_tighten n_ := ⟨_, rfl⟩
  replace hF := hF r3 q6
  refine clR (α := Option Addr × Nat) (Φ := fun h1 z => RSl h1 z.1 r3.1 ∧ r3.1.length ≤ z.2) (V := fun z => .tuple #[.slice z.1 r3.1.length z.2, .bool r3.2]) Try.call45 rfl rfl (fun w S => (by rw [q6]; exact c_tighten S.sub n_ an_ cn_ _q1 _q2 q5)) rfl (fun z h1 le1 hz => ?_)
  obtain ⟨a, c⟩ := z
  obtain ⟨q7, q8⟩ := hz
  refine .v (mv rfl) rfl rfl rfl ?_
  refine .v (ext rfl rfl) rfl rfl rfl ?_
  refine .v (ext rfl rfl) rfl rfl rfl ?_
  refine .v (asg rfl) rfl rfl rfl ?_
  refine .v (asg rfl) rfl rfl rfl ?_
  refine .nil ?_
  refine .seqN ?_
  refine .seq ?_
  refine .region ?_
  refine .v (mv rfl) rfl rfl rfl ?_
  refine .v (mv rfl) rfl rfl rfl ?_
  refine .v (bld (cs := #[.int .i64 0, .int .i64 0]) (pv := []) tB27 rfl rfl) rfl rfl rfl ?_
  refine .v (asg rfl) rfl rfl rfl ?_
  refine .v (asg rfl) rfl rfl rfl ?_
  refine st (p := pv) (off := 0) (k := 1) (vs := [.int .i64 0, .int .i64 0]) rfl rfl rfl (fun w => (tA27 w).2) rfl rfl rfl rfl ?_
  refine .cast (A' := [Box pf [.int .i64 r2.code, .int .i64 r2.index], Box pv [.int .i64 0, .int .i64 0], Box pn [.int .i64 n_.events, .slice an_ n_.links.length cn_]]) rfl ?_
  refine .nil ?_
  refine .seqN ?_
  refine .ret ?_
  refine .res3 rfl (rvT rfl) (rvT rfl) (rvC rfl tA27 (k := 1) rfl rfl) (fun w' S => ⟨(r3.1, r3.2, (⟨0, 0⟩ : Fault)), (a, c), h1, hF, rfl, (le1), ⟨q7, q8⟩, S.none⟩)

theorem c_minimal {h : FH} {w : World} (hs : Sub h w) (n_ : Network) (an_ : Option Addr) (cn_ : Nat) (_q1 : RSl h an_ n_.links) (_q2 : n_.links.length ≤ cn_) : Calls Try.prog 15 #[.agg #[.int .i64 n_.events, .slice an_ n_.links.length cn_]] w fun e w' => ∃ (z : Option Addr × Nat) (h1 : FH), e = .returned (.tuple #[.slice z.1 (sp_minimal n_).1.length z.2, .bool (sp_minimal n_).2.1, .agg #[.int .i64 (sp_minimal n_).2.2.code, .int .i64 (sp_minimal n_).2.2.index]]) ∧ FH.le h h1 ∧ (RSl h1 z.1 (sp_minimal n_).1 ∧ (sp_minimal n_).1.length ≤ z.2) ∧ SH (Kp.all w h) h1 w' [] :=
  (w_minimal hs n_ an_ cn_ _q1 _q2 (fun r => r = sp_minimal n_) (ok_minimal n_)).mono fun _ _ ⟨r, z, h1, hk, he, hl, hf, hS⟩ => by subst hk; exact ⟨z, h1, he, hl, hf, hS⟩

theorem w_bounded {h : FH} {w : World} (hs : Sub h w) (K : Bool → Prop) (hF : F_bounded  K) : Calls Try.prog 17 #[] w fun e w' => ∃ r : Bool, K r ∧ e = .returned (.bool r) ∧ Below w.heap.size w w' := by
  refine enter (args := []) Try.func17 rfl Try.ntmps17 rfl hs ?_
  refine .seq ?_
  refine .region ?_
  refine .v (asg rfl) rfl rfl rfl ?_
  refine .nil ?_
  refine .seqN ?_
  refine .seq ?_
  refine .region ?_
  obtain ⟨r2, q1⟩ : ∃ y_ : Network, y_ = sp_pair 2 5 := ⟨_, rfl⟩
  replace hF := hF r2 q1
  refine clR (α := Option Addr × Nat) (Φ := fun h1 z => RSl h1 z.1 r2.links ∧ r2.links.length ≤ z.2) (V := fun z => .agg #[.int .i64 r2.events, .slice z.1 r2.links.length z.2]) Try.call46 rfl rfl (fun w S => (by rw [q1]; exact c_pair S.sub 2 5 )) rfl (fun z h1 le1 hz => ?_)
  obtain ⟨a, c⟩ := z
  obtain ⟨q2, q3⟩ := hz
  obtain ⟨r3, q4⟩ : ∃ y_ : List (List Int) × Bool × Fault, y_ = sp_minimal r2 := ⟨_, rfl⟩
  replace hF := hF r3 q4
  refine clR (α := Option Addr × Nat) (Φ := fun h1 z => RSl h1 z.1 r3.1 ∧ r3.1.length ≤ z.2) (V := fun z => .tuple #[.slice z.1 r3.1.length z.2, .bool r3.2.1, .agg #[.int .i64 r3.2.2.code, .int .i64 r3.2.2.index]]) Try.call15 rfl rfl (fun w S => (by rw [q4]; exact c_minimal S.sub r2 a c q2 q3 )) rfl (fun z h2 le2 hz => ?_)
  obtain ⟨a2, c2⟩ := z
  obtain ⟨q5, q6⟩ := hz
  refine .v (mv rfl) rfl rfl rfl ?_
  refine .v (ext rfl rfl) rfl rfl rfl ?_
  refine .v (ext rfl rfl) rfl rfl rfl ?_
  refine .v (ext rfl rfl) rfl rfl rfl ?_
  refine al tZ27 rfl (fun pf => ?_)
  refine .v (asg rfl) rfl rfl rfl ?_
  refine .v (asg rfl) rfl rfl rfl ?_
  refine st (p := pf) (off := 0) (k := 0) (vs := [.int .i64 r3.2.2.code, .int .i64 r3.2.2.index]) rfl rfl rfl (fun w => (tA27 w).2) rfl rfl rfl rfl ?_
  refine .cast (A' := [Box pf [.int .i64 r3.2.2.code, .int .i64 r3.2.2.index]]) rfl ?_
  refine .nil ?_
  refine .seqN ?_
  refine .seq ?_
  refine .region ?_
  refine .v (fa rfl tF27_0) rfl rfl rfl ?_
  refine .v (ld1 rfl tO3 (cellB (off := 0) (k := 0) rfl rfl)) rfl rfl rfl ?_
  refine .v (bi rfl rfl rfl) rfl rfl rfl ?_
  refine .v (mv rfl) rfl rfl rfl ?_
  rcases Bool.eq_false_or_eq_true (r3.2.2.code == 0) with q20 | q20
  · replace hF := hF.1 q20
    refine .gv (mv rfl) rfl rfl rfl q20 rfl rfl ?_
    refine .v (pkT rfl q20 rfl) rfl rfl rfl ?_
    refine .v (mv rfl) rfl rfl rfl ?_
    rcases Bool.eq_false_or_eq_true (r3.2.1) with q21 | q21
    · replace hF := hF.1 q21
      refine .gv (mv rfl) rfl rfl rfl q21 rfl rfl ?_
      refine .gR rfl rfl rfl q21 ?_
      refine bs2 (cs := #[.int .i64 0, .int .i64 5]) (pv := [(0, .int .i64 0), (1, .int .i64 5)]) tS32 rfl rfl (by decide) (by decide) rfl rfl rfl (fun a3 _ => ?_)
      refine .cast (A' := [OwnSl 3 1 a3 (([0, 5] : List Int).length) 2 (flL ([0, 5] : List Int)), Box pf [.int .i64 r3.2.2.code, .int .i64 r3.2.2.index]]) rfl ?_
      refine .gR rfl rfl rfl q21 ?_
      refine bs2 (cs := #[.int .i64 (-2), .int .i64 0]) (pv := [(0, .int .i64 (-2)), (1, .int .i64 0)]) tS32 rfl rfl (by decide) (by decide) rfl rfl rfl (fun a4 _ => ?_)
      refine .cast (A' := [OwnSl 3 1 a4 (([(-2), 0] : List Int).length) 2 (flL ([(-2), 0] : List Int)), OwnSl 3 1 a3 (([0, 5] : List Int).length) 2 (flL ([0, 5] : List Int)), Box pf [.int .i64 r3.2.2.code, .int .i64 r3.2.2.index]]) rfl ?_
      refine .gR rfl rfl rfl q21 ?_
      refine .freezeL (k := 1) rfl (fun h6 le6 q25 q24 => ?_)
      refine .cast (A' := [OwnSl 3 1 a4 (([(-2), 0] : List Int).length) 2 (flL ([(-2), 0] : List Int)), tru, Box pf [.int .i64 r3.2.2.code, .int .i64 r3.2.2.index]]) rfl ?_
      refine .freezeL (k := 0) rfl (fun h7 le7 q27 q26 => ?_)
      refine .cast (A' := [tru, tru, Box pf [.int .i64 r3.2.2.code, .int .i64 r3.2.2.index]]) rfl ?_
      refine bs2 (cs := #[.slice a3 (([0, 5] : List Int).length) 2, .slice a4 (([(-2), 0] : List Int).length) 2]) (pv := [(0, .slice a3 (([0, 5] : List Int).length) 2), (1, .slice a4 (([(-2), 0] : List Int).length) 2)]) tS25 rfl rfl (by decide) (by decide) rfl rfl rfl (fun a5 _ => ?_)
      refine .cast (A' := [OwnSl 32 1 a5 (([([0, 5] : List Int), ([(-2), 0] : List Int)] : List (List Int)).length) 2 [.slice a3 (([0, 5] : List Int).length) 2, .slice a4 (([(-2), 0] : List Int).length) 2], tru, tru, Box pf [.int .i64 r3.2.2.code, .int .i64 r3.2.2.index]]) rfl ?_
      refine .freezeL (k := 0) rfl (fun h8 le8 q30 q29 => ?_)
      refine .cast (A' := [tru, tru, tru, Box pf [.int .i64 r3.2.2.code, .int .i64 r3.2.2.index]]) rfl ?_
      obtain ⟨q31, hF⟩ := hF
      obtain ⟨r4, q32⟩ : ∃ y_ : Bool, y_ = sp_sets r3.1 ([([0, 5] : List Int), ([(-2), 0] : List Int)] : List (List Int)) := ⟨_, rfl⟩
      replace hF := hF r4 q32
      refine .gc (cl (v := .bool r4) Try.call24 rfl rfl (fun w S => (by rw [q32]; exact c_sets S.sub r3.1 a2 c2 (q5.mono (FH.le_trans (FH.le_trans (le6) (le7)) (le8))) q6 ([([0, 5] : List Int), ([(-2), 0] : List Int)] : List (List Int)) a5 2 (⟨_, (show RepL h7 ([([0, 5] : List Int), ([(-2), 0] : List Int)] : List (List Int)) [.slice a3 (([0, 5] : List Int).length) 2, .slice a4 (([(-2), 0] : List Int).length) 2] from ⟨[.slice a3 (([0, 5] : List Int).length) 2], _, rfl, ⟨a3, 2, rfl, (q25), ((RSl.of q24).mono (le7))⟩, ⟨[.slice a4 (([(-2), 0] : List Int).length) 2], _, rfl, ⟨a4, 2, rfl, (q27), (RSl.of q26)⟩, rfl⟩⟩).mono (le8), q29⟩ : RSl h8 a5 ([([0, 5] : List Int), ([(-2), 0] : List Int)] : List (List Int))) (q30) q31))) rfl rfl rfl q21 rfl rfl ?_
      refine .v (pkT rfl q21 rfl) rfl rfl rfl ?_
      refine .v (asg rfl) rfl rfl rfl ?_
      refine .nil ?_
      refine .seqN ?_
      refine .ret ?_
      refine .res1 rfl (rvT rfl) (fun w' S => ⟨r4, hF, rfl, S.below⟩)
    replace hF := hF.2 q21
    refine .gS rfl rfl rfl q21 rfl rfl ?_
    refine .gS rfl rfl rfl q21 rfl rfl ?_
    refine .gS rfl rfl rfl q21 rfl rfl ?_
    refine .gS rfl rfl rfl q21 rfl rfl ?_
    refine .gS rfl rfl rfl q21 rfl rfl ?_
    refine .v (pkF rfl q21 rfl) rfl rfl rfl ?_
    refine .v (asg rfl) rfl rfl rfl ?_
    refine .nil ?_
    refine .seqN ?_
    refine .ret ?_
    refine .res1 rfl (rvT rfl) (fun w' S => ⟨false, hF, rfl, S.below⟩)
  replace hF := hF.2 q20
  refine .gS rfl rfl rfl q20 rfl rfl ?_
  refine .v (pkF rfl q20 rfl) rfl rfl rfl ?_
  refine .v (mv rfl) rfl rfl rfl ?_
  refine .gS rfl rfl rfl rfl rfl rfl ?_
  refine .gS rfl rfl rfl rfl rfl rfl ?_
  refine .gS rfl rfl rfl rfl rfl rfl ?_
  refine .gS rfl rfl rfl rfl rfl rfl ?_
  refine .gS rfl rfl rfl rfl rfl rfl ?_
  refine .v (pkF rfl rfl rfl) rfl rfl rfl ?_
  refine .v (asg rfl) rfl rfl rfl ?_
  refine .nil ?_
  refine .seqN ?_
  refine .ret ?_
  refine .res1 rfl (rvT rfl) (fun w' S => ⟨false, hF, rfl, S.below⟩)

theorem c_bounded {h : FH} {w : World} (hs : Sub h w) : Calls Try.prog 17 #[] w fun e w' => e = .returned (.bool (sp_bounded)) ∧ Below w.heap.size w w' :=
  (w_bounded hs  (fun r => r = sp_bounded) (ok_bounded )).mono fun _ _ ⟨_, hk, he, hb⟩ => ⟨by rw [he, hk], hb⟩

theorem w_earliest {h : FH} {w : World} (hs : Sub h w) (n_ : Network) (an_ : Option Addr) (cn_ : Nat) (_q1 : RSl h an_ n_.links) (_q2 : n_.links.length ≤ cn_) (K : (List Int × Bool × Fault) → Prop) (hF : F_earliest n_ K) : Calls Try.prog 19 #[.agg #[.int .i64 n_.events, .slice an_ n_.links.length cn_]] w fun e w' => ∃ (r : List Int × Bool × Fault) (z : Option Addr × Nat) (h1 : FH), K r ∧ e = .returned (.tuple #[.slice z.1 r.1.length z.2, .bool r.2.1, .agg #[.int .i64 r.2.2.code, .int .i64 r.2.2.index]]) ∧ FH.le h h1 ∧ (RSl h1 z.1 r.1 ∧ r.1.length ≤ z.2) ∧ SH (Kp.all w h) h1 w' [] := by
  refine enter (args := [.agg #[.int .i64 n_.events, .slice an_ n_.links.length cn_]]) Try.func19 rfl Try.ntmps19 rfl hs ?_
  refine .seq ?_
  refine .region ?_
  refine bx (vs := [.int .i64 n_.events, .slice an_ n_.links.length cn_]) rfl rfl rfl (fun pn => ?_)
  refine .v (asg rfl) rfl rfl rfl ?_
  refine .v (asg rfl) rfl rfl rfl ?_
  refine al tZ27 rfl (fun pv => ?_)
  refine .nil ?_
  refine .seqN ?_
  refine .seq ?_
  refine .region ?_
  refine .v (ldA (cs := [.int .i64 n_.events, .slice an_ n_.links.length cn_]) rfl tA24 rfl (cellsB (off := 0) (k := 1) rfl (m := 2) rfl)) rfl rfl rfl ?_
  obtain ⟨r2, q3⟩ : ∃ y_ : List (List Int) × Bool × Fault, y_ = sp_minimal n_ := ⟨_, rfl⟩
  replace hF := hF r2 q3
  refine clR (α := Option Addr × Nat) (Φ := fun h1 z => RSl h1 z.1 r2.1 ∧ r2.1.length ≤ z.2) (V := fun z => .tuple #[.slice z.1 r2.1.length z.2, .bool r2.2.1, .agg #[.int .i64 r2.2.2.code, .int .i64 r2.2.2.index]]) Try.call15 rfl rfl (fun w S => (by rw [q3]; exact c_minimal S.sub n_ an_ cn_ _q1 _q2 )) rfl (fun z h1 le1 hz => ?_)
  obtain ⟨a, c⟩ := z
  obtain ⟨q4, q5⟩ := hz
  refine .v (mv rfl) rfl rfl rfl ?_
  refine .v (ext rfl rfl) rfl rfl rfl ?_
  refine .v (ext rfl rfl) rfl rfl rfl ?_
  refine .v (ext rfl rfl) rfl rfl rfl ?_
  refine al tZ27 rfl (fun pf => ?_)
  refine .v (asg rfl) rfl rfl rfl ?_
  refine .v (asg rfl) rfl rfl rfl ?_
  refine st (p := pf) (off := 0) (k := 0) (vs := [.int .i64 r2.2.2.code, .int .i64 r2.2.2.index]) rfl rfl rfl (fun w => (tA27 w).2) rfl rfl rfl rfl ?_
  refine .cast (A' := [Box pf [.int .i64 r2.2.2.code, .int .i64 r2.2.2.index], Box pv [.int .i64 0, .int .i64 0], Box pn [.int .i64 n_.events, .slice an_ n_.links.length cn_]]) rfl ?_
  refine .nil ?_
  refine .seqN ?_
  refine .seq ?_
  refine .seq ?_
  refine .region ?_
  refine .v (mv rfl) rfl rfl rfl ?_
  refine .v (nt rfl) rfl rfl rfl ?_
  refine .nil ?_
  refine .seqN ?_
  refine .cond rfl (fun q6 => ?_) (fun q6 => ?_)
  · replace hF := hF.1 q6
    refine .seq ?_
    refine .openL (by kernel_rfl) rfl (by kernel_rfl) (by kernel_rfl) ?_
    refine .v (ldA (cs := [.int .i64 r2.2.2.code, .int .i64 r2.2.2.index]) rfl tA27 rfl (cellsB (off := 0) (k := 0) rfl (m := 2) rfl)) rfl rfl rfl ?_
    refine .v (asg rfl) rfl rfl rfl ?_
    refine .v (asg rfl) rfl rfl rfl ?_
    refine .tail ?_
    refine st (p := pv) (off := 0) (k := 1) (vs := [.int .i64 r2.2.2.code, .int .i64 r2.2.2.index]) rfl rfl rfl (fun w => (tA27 w).2) rfl rfl rfl rfl ?_
    refine .cast (A' := [Box pf [.int .i64 r2.2.2.code, .int .i64 r2.2.2.index], Box pv [.int .i64 r2.2.2.code, .int .i64 r2.2.2.index], Box pn [.int .i64 n_.events, .slice an_ n_.links.length cn_]]) rfl ?_
    refine .nil ?_
    refine .seqN ?_
    refine .ret ?_
    refine .seqR ?_
    refine .res3 rfl (rvT rfl) (rvT rfl) (rvC rfl tA27 (k := 1) rfl rfl) (fun w' S => ⟨(([] : List Int), false, r2.2.2), (none, 0), h1, hF, rfl, (le1), ⟨RSl.nil_, (Nat.le_refl 0)⟩, S.none⟩)
  replace hF := hF.2 q6
  refine .skip ?_
  refine .seqN ?_
  refine .seq ?_
  refine .region ?_
  refine .v (asg rfl) rfl rfl rfl ?_
  refine .nil ?_
  refine .seqN ?_
  refine .seq ?_
  refine .seq ?_
  refine .region ?_
  refine .v (mv rfl) rfl rfl rfl ?_
  refine .v (ln rfl tS25.is) rfl rfl rfl ?_
  refine .v (mv rfl) rfl rfl rfl ?_
  refine .nil ?_
  refine .seqN ?_
  refine .block ?_
  refine .nilSl 3 1 ?_
  refine .cast (A' := [OwnSl 3 1 none (([] : List Int).length) 0 (flL ([] : List Int)), Box pf [.int .i64 r2.2.2.code, .int .i64 r2.2.2.index], Box pv [.int .i64 0, .int .i64 0], Box pn [.int .i64 n_.events, .slice an_ n_.links.length cn_]]) rfl ?_
  refine .sel0 [2, 1, 0] (by decide) rfl ?_
  obtain ⟨I1, μ1, q43, q44⟩ := hF
  refine .loop' (σ := Int × List Int × Option Addr × Nat) (fun z => I1 z.1 z.2.1) (fun z => μ1 z.1 z.2.1) (fun z => [(4, .pointer (some pv)), (5, .slice a r2.1.length c), (7, .pointer (some pf)), (8, .slice z.2.2.1 z.2.1.length z.2.2.2), (20, .int .i64 ((r2.1.length : Nat) : Int)), (21, .int .i64 z.1)]) (fun z => [Box pv [.int .i64 0, .int .i64 0], Box pf [.int .i64 r2.2.2.code, .int .i64 r2.2.2.index], OwnSl 3 1 z.2.2.1 z.2.1.length z.2.2.2 (flL z.2.1)]) (fun _ => h1) (0, ([] : List Int), none, 0) q43 (.cons rfl (.cons rfl (.cons rfl (.cons rfl (.cons rfl (.cons rfl (.nil))))))) rfl (FH.le_refl _) ?_
  rintro ⟨t21, out, aout, cout⟩ q43
  have hF := q44 t21 out q43
  show J _ _ _ _ _ [(4, .pointer (some pv)), (5, .slice a r2.1.length c), (7, .pointer (some pf)), (8, .slice aout out.length cout), (20, .int .i64 ((r2.1.length : Nat) : Int)), (21, .int .i64 t21)] [Box pv [.int .i64 0, .int .i64 0], Box pf [.int .i64 r2.2.2.code, .int .i64 r2.2.2.index], OwnSl 3 1 aout out.length cout (flL out)] h1
  refine .seq ?_
  refine .region ?_
  refine .v (bi rfl rfl rfl) rfl rfl rfl ?_
  refine .nil ?_
  refine .seqN ?_
  refine .seq ?_
  refine .cond rfl (fun q46 => ?_) (fun q46 => ?_)
  · replace hF := hF.1 q46
    refine .skip ?_
    refine .seqN ?_
    refine .seq ?_
    refine .block ?_
    refine .seq ?_
    refine .region ?_
    refine .v (mv rfl) rfl rfl rfl ?_
    refine .v (asg rfl) rfl rfl rfl ?_
    refine .nil ?_
    refine .seqN ?_
    refine .region ?_
    refine .v (mv rfl) rfl rfl rfl ?_
    refine .v (mv rfl) rfl rfl rfl ?_
    refine .v (mv rfl) rfl rfl rfl ?_
    obtain ⟨q55, hF⟩ := hF
    refine .v (ix rfl rfl tS25 (q4.ne (by decide) (inb_pos q55)) q55) rfl rfl rfl ?_
    obtain ⟨_, ⟨a2, c2, rfl, q56, q57⟩, q58⟩ := q4.elem q55
    refine .v (ld1 (v := .slice a2 ((gt r2.1 t21).length) c2) rfl tO32 (cellH (q58 (by decide) 0 _ rfl))) rfl rfl rfl ?_
    obtain ⟨q59, hF⟩ := hF
    refine .v (ix rfl rfl tS32 (q57.ne (by decide) (inb_pos q59)) q59) rfl rfl rfl ?_
    refine .v (ld1 (v := .int .i64 (gt (gt r2.1 t21) (0 : Int))) rfl tO3 (cellH (q57.elemF q59 (by decide) 0 _ rfl))) rfl rfl rfl ?_
    refine .v (un rfl) rfl rfl rfl ?_
    refine bs2 (cs := #[.int .i64 (IntKind.i64.wrap (0 - (gt (gt r2.1 t21) (0 : Int))))]) (pv := [(0, .int .i64 (IntKind.i64.wrap (0 - (gt (gt r2.1 t21) (0 : Int)))))]) tS32 rfl rfl (by decide) (by decide) rfl rfl rfl (fun a3 _ => ?_)
    refine .cast (A' := [OwnSl 3 1 a3 (([IntKind.i64.wrap (0 - (gt (gt r2.1 t21) (0 : Int)))] : List Int).length) 1 (flL ([IntKind.i64.wrap (0 - (gt (gt r2.1 t21) (0 : Int)))] : List Int)), Box pv [.int .i64 0, .int .i64 0], Box pf [.int .i64 r2.2.2.code, .int .i64 r2.2.2.index], OwnSl 3 1 aout out.length cout (flL out)]) rfl ?_
    obtain ⟨q61, hF⟩ := hF
    have q62 : out.length + ([IntKind.i64.wrap (0 - (gt (gt r2.1 t21) (0 : Int)))] : List Int).length = ((out ++ ([IntKind.i64.wrap (0 - (gt (gt r2.1 t21) (0 : Int)))] : List Int))).length := len_app rfl rfl
    refine app (k := 3) (news := flL ([IntKind.i64.wrap (0 - (gt (gt r2.1 t21) (0 : Int)))] : List Int)) (cs' := flL (out ++ ([IntKind.i64.wrap (0 - (gt (gt r2.1 t21) (0 : Int)))] : List Int))) (nm := ((out ++ ([IntKind.i64.wrap (0 - (gt (gt r2.1 t21) (0 : Int)))] : List Int))).length) tS32 rfl (by decide) rfl rfl rfl (by rw [flL_len]; rfl) (srcS (k := 0) rfl) (flL_one _) (room_of q62 q61).1 (room_of q62 q61).2 q62 (flL_append _ _).symm rfl (fun a4 c3 => ?_)
    refine .cast (A' := [OwnSl 3 1 a3 (([IntKind.i64.wrap (0 - (gt (gt r2.1 t21) (0 : Int)))] : List Int).length) 1 (flL ([IntKind.i64.wrap (0 - (gt (gt r2.1 t21) (0 : Int)))] : List Int)), Box pv [.int .i64 0, .int .i64 0], Box pf [.int .i64 r2.2.2.code, .int .i64 r2.2.2.index], OwnSl 3 1 a4 ((out ++ ([IntKind.i64.wrap (0 - (gt (gt r2.1 t21) (0 : Int)))] : List Int)).length) c3 (flL (out ++ ([IntKind.i64.wrap (0 - (gt (gt r2.1 t21) (0 : Int)))] : List Int)))]) rfl ?_
    refine .v (asg rfl) rfl rfl rfl ?_
    refine .nil ?_
    refine .blkN ?_
    refine .seqN ?_
    refine .region ?_
    refine .v (bi rfl rfl rfl) rfl rfl rfl ?_
    refine .v (mv rfl) rfl rfl rfl ?_
    refine .nil ?_
    refine .sel0 [1, 2, 3] (by decide) rfl ?_
    exact .round (IntKind.i64.wrap (t21 + 1), (out ++ ([IntKind.i64.wrap (0 - (gt (gt r2.1 t21) (0 : Int)))] : List Int)), a4, c3) hF.1 hF.2 (.cons rfl (.cons rfl (.cons rfl (.cons rfl (.cons rfl (.cons rfl (.nil))))))) rfl (FH.le_refl _)
  replace hF := hF.2 q46
  refine .exit ?_
  refine .seqX ?_
  refine .seqX ?_
  refine .blkX ?_
  refine .seqN ?_
  refine .seq ?_
  refine .openL (by kernel_rfl) rfl (by kernel_rfl) (by kernel_rfl) ?_
  refine .v (mv rfl) rfl rfl rfl ?_
  refine .v (ldA (cs := [.int .i64 r2.2.2.code, .int .i64 r2.2.2.index]) rfl tA27 rfl (cellsB (off := 0) (k := 1) rfl (m := 2) rfl)) rfl rfl rfl ?_
  refine .v (asg rfl) rfl rfl rfl ?_
  refine .v (asg rfl) rfl rfl rfl ?_
  refine .tail ?_
  refine st (p := pv) (off := 0) (k := 0) (vs := [.int .i64 r2.2.2.code, .int .i64 r2.2.2.index]) rfl rfl rfl (fun w => (tA27 w).2) rfl rfl rfl rfl ?_
  refine .cast (A' := [Box pv [.int .i64 r2.2.2.code, .int .i64 r2.2.2.index], Box pf [.int .i64 r2.2.2.code, .int .i64 r2.2.2.index], OwnSl 3 1 aout out.length cout (flL out)]) rfl ?_
  refine .nil ?_
  refine .seqN ?_
  refine .freezeL (k := 2) rfl (fun h2 le2 q64 q63 => ?_)
  refine .cast (A' := [Box pv [.int .i64 r2.2.2.code, .int .i64 r2.2.2.index], Box pf [.int .i64 r2.2.2.code, .int .i64 r2.2.2.index], tru]) rfl ?_
  refine .ret ?_
  refine .res3 rfl (rvT rfl) (rvT rfl) (rvC rfl tA27 (k := 0) rfl rfl) (fun w' S => ⟨(out, true, r2.2.2), (aout, cout), h2, hF, rfl, (FH.le_trans (le1) (le2)), ⟨(RSl.of q63), (q64)⟩, S.none⟩)

theorem c_earliest {h : FH} {w : World} (hs : Sub h w) (n_ : Network) (an_ : Option Addr) (cn_ : Nat) (_q1 : RSl h an_ n_.links) (_q2 : n_.links.length ≤ cn_) : Calls Try.prog 19 #[.agg #[.int .i64 n_.events, .slice an_ n_.links.length cn_]] w fun e w' => ∃ (z : Option Addr × Nat) (h1 : FH), e = .returned (.tuple #[.slice z.1 (sp_earliest n_).1.length z.2, .bool (sp_earliest n_).2.1, .agg #[.int .i64 (sp_earliest n_).2.2.code, .int .i64 (sp_earliest n_).2.2.index]]) ∧ FH.le h h1 ∧ (RSl h1 z.1 (sp_earliest n_).1 ∧ (sp_earliest n_).1.length ≤ z.2) ∧ SH (Kp.all w h) h1 w' [] :=
  (w_earliest hs n_ an_ cn_ _q1 _q2 (fun r => r = sp_earliest n_) (ok_earliest n_)).mono fun _ _ ⟨r, z, h1, hk, he, hl, hf, hS⟩ => by subst hk; exact ⟨z, h1, he, hl, hf, hS⟩

set_option maxHeartbeats 8000000 in
theorem w_lawTriangle {h : FH} {w : World} (hs : Sub h w) (n_ : Network) (an_ : Option Addr) (cn_ : Nat) (_q1 : RSl h an_ n_.links) (_q2 : n_.links.length ≤ cn_) (i : Int) (j : Int) (k : Int) (K : Bool → Prop) (hF : F_lawTriangle n_ i j k K) : Calls Try.prog 3 #[.agg #[.int .i64 n_.events, .slice an_ n_.links.length cn_], .int .i64 i, .int .i64 j, .int .i64 k] w fun e w' => ∃ r : Bool, K r ∧ e = .returned (.bool r) ∧ Below w.heap.size w w' := by
  refine enter (args := [.agg #[.int .i64 n_.events, .slice an_ n_.links.length cn_], .int .i64 i, .int .i64 j, .int .i64 k]) Try.func3 rfl Try.ntmps3 rfl hs ?_
  refine .seq ?_
  refine .region ?_
  refine bx (vs := [.int .i64 n_.events, .slice an_ n_.links.length cn_]) rfl rfl rfl (fun pn => ?_)
  refine .v (asg rfl) rfl rfl rfl ?_
  refine .nil ?_
  refine .seqN ?_
  refine .seq ?_
  refine .region ?_
  refine .v (ldA (cs := [.int .i64 n_.events, .slice an_ n_.links.length cn_]) rfl tA24 rfl (cellsB (off := 0) (k := 0) rfl (m := 2) rfl)) rfl rfl rfl ?_
  obtain ⟨r2, q3⟩ : ∃ y_ : List (List Int) × Bool × Fault, y_ = sp_minimal n_ := ⟨_, rfl⟩
  replace hF := hF r2 q3
  refine clR (α := Option Addr × Nat) (Φ := fun h1 z => RSl h1 z.1 r2.1 ∧ r2.1.length ≤ z.2) (V := fun z => .tuple #[.slice z.1 r2.1.length z.2, .bool r2.2.1, .agg #[.int .i64 r2.2.2.code, .int .i64 r2.2.2.index]]) Try.call15 rfl rfl (fun w S => (by rw [q3]; exact c_minimal S.sub n_ an_ cn_ _q1 _q2 )) rfl (fun z h1 le1 hz => ?_)
  obtain ⟨a, c⟩ := z
  obtain ⟨q4, q5⟩ := hz
  refine .v (mv rfl) rfl rfl rfl ?_
  refine .v (ext rfl rfl) rfl rfl rfl ?_
  refine .v (ext rfl rfl) rfl rfl rfl ?_
  refine .v (ext rfl rfl) rfl rfl rfl ?_
  refine al tZ27 rfl (fun pf => ?_)
  refine .v (asg rfl) rfl rfl rfl ?_
  refine .v (asg rfl) rfl rfl rfl ?_
  refine st (p := pf) (off := 0) (k := 0) (vs := [.int .i64 r2.2.2.code, .int .i64 r2.2.2.index]) rfl rfl rfl (fun w => (tA27 w).2) rfl rfl rfl rfl ?_
  refine .cast (A' := [Box pf [.int .i64 r2.2.2.code, .int .i64 r2.2.2.index], Box pn [.int .i64 n_.events, .slice an_ n_.links.length cn_]]) rfl ?_
  refine .nil ?_
  refine .seqN ?_
  refine .seq ?_
  refine .share (σ := Bool) (fun z => F_lawTriangle_J1 n_ i j k K r2 z) (fun z => [(1, .int .i64 i), (2, .int .i64 j), (3, .int .i64 k), (4, .pointer (some pn)), (9, .slice a r2.1.length c), (48, .bool z)]) (fun _ => [Box pn [.int .i64 n_.events, .slice an_ n_.links.length cn_]]) (fun _ => h1) ?_ (fun q13 => ?_)
  · rintro t48 hF
    show J _ _ _ _ _ [(1, .int .i64 i), (2, .int .i64 j), (3, .int .i64 k), (4, .pointer (some pn)), (9, .slice a r2.1.length c), (48, .bool t48)] [Box pn [.int .i64 n_.events, .slice an_ n_.links.length cn_]] h1
    refine .cond rfl (fun q14 => ?_) (fun q14 => ?_)
    · replace hF := hF.1 q14
      refine .seq ?_
      refine .region ?_
      obtain ⟨r3, q15⟩ : ∃ y_ : Bool, y_ = sp_bounded := ⟨_, rfl⟩
      replace hF := hF r3 q15
      refine .c (cl (v := .bool r3) Try.call17 rfl rfl (fun w S => (by rw [q15]; exact c_bounded S.sub  ))) rfl rfl rfl ?_
      refine .v (asg rfl) rfl rfl rfl ?_
      refine .nil ?_
      refine .seqN ?_
      refine .ret ?_
      refine .seqR ?_
      refine .res1 rfl (rvT rfl) (fun w' S => ⟨r3, hF, rfl, S.below⟩)
    replace hF := hF.2 q14
    refine .skip ?_
    refine .seqN ?_
    refine .seq ?_
    refine .share (σ := Bool) (fun z => F_lawTriangle_J2 i j k K r2 z) (fun z => [(1, .int .i64 i), (2, .int .i64 j), (3, .int .i64 k), (9, .slice a r2.1.length c), (74, .bool z)]) (fun _ => []) (fun _ => h1) ?_ (fun q26 => ?_)
    · rintro t74 hF
      show J _ _ _ _ _ [(1, .int .i64 i), (2, .int .i64 j), (3, .int .i64 k), (9, .slice a r2.1.length c), (74, .bool t74)] [] h1
      refine .cond rfl (fun q27 => ?_) (fun q27 => ?_)
      · replace hF := hF.1 q27
        refine .seq ?_
        refine .region ?_
        refine .v (asg rfl) rfl rfl rfl ?_
        refine .nil ?_
        refine .seqN ?_
        refine .ret ?_
        refine .seqR ?_
        refine .res1 rfl (rvT rfl) (fun w' S => ⟨false, hF, rfl, S.below⟩)
      replace hF := hF.2 q27
      refine .skip ?_
      refine .seqN ?_
      refine .seq ?_
      refine .open_ (by kernel_rfl) (by kernel_rfl) ?_
      refine .v (mv rfl) rfl rfl rfl ?_
      refine .v (mv rfl) rfl rfl rfl ?_
      obtain ⟨q48, hF⟩ := hF
      refine .v (ix rfl rfl tS25 (q4.ne (by decide) (inb_pos q48)) q48) rfl rfl rfl ?_
      obtain ⟨_, ⟨a2, c2, rfl, q49, q50⟩, q51⟩ := q4.elem q48
      refine .v (ld1 (v := .slice a2 ((gt r2.1 i).length) c2) rfl tO32 (cellH (q51 (by decide) 0 _ rfl))) rfl rfl rfl ?_
      refine .v (mv rfl) rfl rfl rfl ?_
      obtain ⟨q52, hF⟩ := hF
      refine .v (ix rfl rfl tS32 (q50.ne (by decide) (inb_pos q52)) q52) rfl rfl rfl ?_
      refine .v (ld1 (v := .int .i64 (gt (gt r2.1 i) i)) rfl tO3 (cellH (q50.elemF q52 (by decide) 0 _ rfl))) rfl rfl rfl ?_
      refine .v (bi rfl rfl rfl) rfl rfl rfl ?_
      refine .v (mv rfl) rfl rfl rfl ?_
      rcases Bool.eq_false_or_eq_true ((gt (gt r2.1 i) i) == 0) with q53 | q53
      · replace hF := hF.1 q53
        refine .gv (mv rfl) rfl rfl rfl q53 rfl rfl ?_
        refine .gv (mv rfl) rfl rfl rfl q53 rfl rfl ?_
        refine .gv (ix rfl rfl tS25 (q4.ne (by decide) (inb_pos q48)) q48) rfl rfl rfl q53 rfl rfl ?_
        refine .gv (ld1 (v := .slice a2 ((gt r2.1 i).length) c2) rfl tO32 (cellH (q51 (by decide) 0 _ rfl))) rfl rfl rfl q53 rfl rfl ?_
        refine .gv (mv rfl) rfl rfl rfl q53 rfl rfl ?_
        obtain ⟨q54, hF⟩ := hF
        refine .gv (ix rfl rfl tS32 (q50.ne (by decide) (inb_pos q54)) q54) rfl rfl rfl q53 rfl rfl ?_
        refine .gv (ld1 (v := .int .i64 (gt (gt r2.1 i) j)) rfl tO3 (cellH (q50.elemF q54 (by decide) 0 _ rfl))) rfl rfl rfl q53 rfl rfl ?_
        refine .gv (bi rfl rfl rfl) rfl rfl rfl q53 rfl rfl ?_
        refine .gv (mv rfl) rfl rfl rfl q53 rfl rfl ?_
        rcases Bool.eq_false_or_eq_true ((gt (gt r2.1 i) j) == 1000000000) with q55 | q55
        · replace hF := hF.1 q55
          refine .gS rfl rfl rfl q55 rfl rfl ?_
          refine .gS rfl rfl rfl q55 rfl rfl ?_
          refine .gS rfl rfl rfl q55 rfl rfl ?_
          refine .gS rfl rfl rfl q55 rfl rfl ?_
          refine .gS rfl rfl rfl q55 rfl rfl ?_
          refine .gS rfl rfl rfl q55 rfl rfl ?_
          refine .gS rfl rfl rfl q55 rfl rfl ?_
          refine .gS rfl rfl rfl q55 rfl rfl ?_
          refine .gv (pkT rfl q55 rfl) rfl rfl rfl q53 rfl rfl ?_
          refine .gv (mv rfl) rfl rfl rfl q53 rfl rfl ?_
          refine .gS rfl rfl rfl rfl rfl rfl ?_
          refine .gS rfl rfl rfl rfl rfl rfl ?_
          refine .gS rfl rfl rfl rfl rfl rfl ?_
          refine .gS rfl rfl rfl rfl rfl rfl ?_
          refine .gS rfl rfl rfl rfl rfl rfl ?_
          refine .gS rfl rfl rfl rfl rfl rfl ?_
          refine .gS rfl rfl rfl rfl rfl rfl ?_
          refine .gS rfl rfl rfl rfl rfl rfl ?_
          refine .gS rfl rfl rfl rfl rfl rfl ?_
          refine .gS rfl rfl rfl rfl rfl rfl ?_
          refine .gS rfl rfl rfl rfl rfl rfl ?_
          refine .gS rfl rfl rfl rfl rfl rfl ?_
          refine .gS rfl rfl rfl rfl rfl rfl ?_
          refine .gS rfl rfl rfl rfl rfl rfl ?_
          refine .gS rfl rfl rfl rfl rfl rfl ?_
          refine .gS rfl rfl rfl rfl rfl rfl ?_
          refine .gS rfl rfl rfl rfl rfl rfl ?_
          refine .gS rfl rfl rfl rfl rfl rfl ?_
          refine .gS rfl rfl rfl rfl rfl rfl ?_
          refine .gS rfl rfl rfl rfl rfl rfl ?_
          refine .gS rfl rfl rfl rfl rfl rfl ?_
          refine .gS rfl rfl rfl rfl rfl rfl ?_
          refine .gS rfl rfl rfl rfl rfl rfl ?_
          refine .gv (pkT rfl rfl rfl) rfl rfl rfl q53 rfl rfl ?_
          refine .v (pkT rfl q53 rfl) rfl rfl rfl ?_
          refine .v (mv rfl) rfl rfl rfl ?_
          obtain ⟨r4, q56⟩ : ∃ y_ : Bool, y_ = sp_bounded := ⟨_, rfl⟩
          replace hF := hF r4 q56
          refine .gc (cl (v := .bool r4) Try.call17 rfl rfl (fun w S => (by rw [q56]; exact c_bounded S.sub  ))) rfl rfl rfl rfl rfl rfl ?_
          refine .v (pkT rfl rfl rfl) rfl rfl rfl ?_
          refine .v (asg rfl) rfl rfl rfl ?_
          refine .fin ?_
          refine .seqN ?_
          refine .ret ?_
          refine .res1 rfl (rvT rfl) (fun w' S => ⟨r4, hF, rfl, S.below⟩)
        replace hF := hF.2 q55
        refine .gv (mv rfl) rfl rfl rfl q55 rfl rfl ?_
        refine .gv (mv rfl) rfl rfl rfl q55 rfl rfl ?_
        obtain ⟨q57, hF⟩ := hF
        refine .gv (ix rfl rfl tS25 (q4.ne (by decide) (inb_pos q57)) q57) rfl rfl rfl q55 rfl rfl ?_
        obtain ⟨_, ⟨a3, c3, rfl, q58, q59⟩, q60⟩ := q4.elem q57
        refine .gv (ld1 (v := .slice a3 ((gt r2.1 j).length) c3) rfl tO32 (cellH (q60 (by decide) 0 _ rfl))) rfl rfl rfl q55 rfl rfl ?_
        refine .gv (mv rfl) rfl rfl rfl q55 rfl rfl ?_
        obtain ⟨q61, hF⟩ := hF
        refine .gv (ix rfl rfl tS32 (q59.ne (by decide) (inb_pos q61)) q61) rfl rfl rfl q55 rfl rfl ?_
        refine .gv (ld1 (v := .int .i64 (gt (gt r2.1 j) k)) rfl tO3 (cellH (q59.elemF q61 (by decide) 0 _ rfl))) rfl rfl rfl q55 rfl rfl ?_
        refine .gv (bi rfl rfl rfl) rfl rfl rfl q55 rfl rfl ?_
        refine .gv (pkF rfl q55 rfl) rfl rfl rfl q53 rfl rfl ?_
        refine .gv (mv rfl) rfl rfl rfl q53 rfl rfl ?_
        rcases Bool.eq_false_or_eq_true ((gt (gt r2.1 j) k) == 1000000000) with q62 | q62
        · replace hF := hF.1 q62
          refine .gS rfl rfl rfl q62 rfl rfl ?_
          refine .gS rfl rfl rfl q62 rfl rfl ?_
          refine .gS rfl rfl rfl q62 rfl rfl ?_
          refine .gS rfl rfl rfl q62 rfl rfl ?_
          refine .gS rfl rfl rfl q62 rfl rfl ?_
          refine .gS rfl rfl rfl q62 rfl rfl ?_
          refine .gS rfl rfl rfl q62 rfl rfl ?_
          refine .gS rfl rfl rfl q62 rfl rfl ?_
          refine .gS rfl rfl rfl q62 rfl rfl ?_
          refine .gS rfl rfl rfl q62 rfl rfl ?_
          refine .gS rfl rfl rfl q62 rfl rfl ?_
          refine .gS rfl rfl rfl q62 rfl rfl ?_
          refine .gS rfl rfl rfl q62 rfl rfl ?_
          refine .gS rfl rfl rfl q62 rfl rfl ?_
          refine .gS rfl rfl rfl q62 rfl rfl ?_
          refine .gS rfl rfl rfl q62 rfl rfl ?_
          refine .gS rfl rfl rfl q62 rfl rfl ?_
          refine .gS rfl rfl rfl q62 rfl rfl ?_
          refine .gS rfl rfl rfl q62 rfl rfl ?_
          refine .gS rfl rfl rfl q62 rfl rfl ?_
          refine .gS rfl rfl rfl q62 rfl rfl ?_
          refine .gS rfl rfl rfl q62 rfl rfl ?_
          refine .gS rfl rfl rfl q62 rfl rfl ?_
          refine .gv (pkT rfl q62 rfl) rfl rfl rfl q53 rfl rfl ?_
          refine .v (pkT rfl q53 rfl) rfl rfl rfl ?_
          refine .v (mv rfl) rfl rfl rfl ?_
          obtain ⟨r5, q63⟩ : ∃ y_ : Bool, y_ = sp_bounded := ⟨_, rfl⟩
          replace hF := hF r5 q63
          refine .gc (cl (v := .bool r5) Try.call17 rfl rfl (fun w S => (by rw [q63]; exact c_bounded S.sub  ))) rfl rfl rfl rfl rfl rfl ?_
          refine .v (pkT rfl rfl rfl) rfl rfl rfl ?_
          refine .v (asg rfl) rfl rfl rfl ?_
          refine .fin ?_
          refine .seqN ?_
          refine .ret ?_
          refine .res1 rfl (rvT rfl) (fun w' S => ⟨r5, hF, rfl, S.below⟩)
        replace hF := hF.2 q62
        refine .gv (mv rfl) rfl rfl rfl q62 rfl rfl ?_
        refine .gv (mv rfl) rfl rfl rfl q62 rfl rfl ?_
        refine .gv (ix rfl rfl tS25 (q4.ne (by decide) (inb_pos q48)) q48) rfl rfl rfl q62 rfl rfl ?_
        refine .gv (ld1 (v := .slice a2 ((gt r2.1 i).length) c2) rfl tO32 (cellH (q51 (by decide) 0 _ rfl))) rfl rfl rfl q62 rfl rfl ?_
        refine .gv (mv rfl) rfl rfl rfl q62 rfl rfl ?_
        obtain ⟨q64, hF⟩ := hF
        refine .gv (ix rfl rfl tS32 (q50.ne (by decide) (inb_pos q64)) q64) rfl rfl rfl q62 rfl rfl ?_
        refine .gv (ld1 (v := .int .i64 (gt (gt r2.1 i) k)) rfl tO3 (cellH (q50.elemF q64 (by decide) 0 _ rfl))) rfl rfl rfl q62 rfl rfl ?_
        refine .gv (mv rfl) rfl rfl rfl q62 rfl rfl ?_
        refine .gv (mv rfl) rfl rfl rfl q62 rfl rfl ?_
        refine .gv (ix rfl rfl tS25 (q4.ne (by decide) (inb_pos q48)) q48) rfl rfl rfl q62 rfl rfl ?_
        refine .gv (ld1 (v := .slice a2 ((gt r2.1 i).length) c2) rfl tO32 (cellH (q51 (by decide) 0 _ rfl))) rfl rfl rfl q62 rfl rfl ?_
        refine .gv (mv rfl) rfl rfl rfl q62 rfl rfl ?_
        refine .gv (ix rfl rfl tS32 (q50.ne (by decide) (inb_pos q54)) q54) rfl rfl rfl q62 rfl rfl ?_
        refine .gv (ld1 (v := .int .i64 (gt (gt r2.1 i) j)) rfl tO3 (cellH (q50.elemF q54 (by decide) 0 _ rfl))) rfl rfl rfl q62 rfl rfl ?_
        refine .gv (mv rfl) rfl rfl rfl q62 rfl rfl ?_
        refine .gv (mv rfl) rfl rfl rfl q62 rfl rfl ?_
        refine .gv (ix rfl rfl tS25 (q4.ne (by decide) (inb_pos q57)) q57) rfl rfl rfl q62 rfl rfl ?_
        refine .gv (ld1 (v := .slice a3 ((gt r2.1 j).length) c3) rfl tO32 (cellH (q60 (by decide) 0 _ rfl))) rfl rfl rfl q62 rfl rfl ?_
        refine .gv (mv rfl) rfl rfl rfl q62 rfl rfl ?_
        refine .gv (ix rfl rfl tS32 (q59.ne (by decide) (inb_pos q61)) q61) rfl rfl rfl q62 rfl rfl ?_
        refine .gv (ld1 (v := .int .i64 (gt (gt r2.1 j) k)) rfl tO3 (cellH (q59.elemF q61 (by decide) 0 _ rfl))) rfl rfl rfl q62 rfl rfl ?_
        refine .gv (bi rfl rfl rfl) rfl rfl rfl q62 rfl rfl ?_
        obtain ⟨x, q65⟩ : ∃ y_ : Bool, y_ = (decide ((gt (gt r2.1 i) k) ≤ (IntKind.i64.wrap ((gt (gt r2.1 i) j) + (gt (gt r2.1 j) k))))) := ⟨_, rfl⟩
        replace hF := hF x q65
        refine .gv (v := .bool x) (by rw [q65]; exact bi rfl rfl rfl) rfl rfl rfl q62 rfl rfl ?_
        refine .gv (pkF rfl q62 rfl) rfl rfl rfl q53 rfl rfl ?_
        refine .v (pkT rfl q53 rfl) rfl rfl rfl ?_
        refine .v (mv rfl) rfl rfl rfl ?_
        rcases Bool.eq_false_or_eq_true (x) with q66 | q66
        · replace hF := hF.1 q66
          obtain ⟨r6, q67⟩ : ∃ y_ : Bool, y_ = sp_bounded := ⟨_, rfl⟩
          replace hF := hF r6 q67
          refine .gc (cl (v := .bool r6) Try.call17 rfl rfl (fun w S => (by rw [q67]; exact c_bounded S.sub  ))) rfl rfl rfl q66 rfl rfl ?_
          refine .v (pkT rfl q66 rfl) rfl rfl rfl ?_
          refine .v (asg rfl) rfl rfl rfl ?_
          refine .fin ?_
          refine .seqN ?_
          refine .ret ?_
          refine .res1 rfl (rvT rfl) (fun w' S => ⟨r6, hF, rfl, S.below⟩)
        replace hF := hF.2 q66
        refine .gS rfl rfl rfl q66 rfl rfl ?_
        refine .v (pkF rfl q66 rfl) rfl rfl rfl ?_
        refine .v (asg rfl) rfl rfl rfl ?_
        refine .fin ?_
        refine .seqN ?_
        refine .ret ?_
        refine .res1 rfl (rvT rfl) (fun w' S => ⟨false, hF, rfl, S.below⟩)
      replace hF := hF.2 q53
      refine .gS rfl rfl rfl q53 rfl rfl ?_
      refine .gS rfl rfl rfl q53 rfl rfl ?_
      refine .gS rfl rfl rfl q53 rfl rfl ?_
      refine .gS rfl rfl rfl q53 rfl rfl ?_
      refine .gS rfl rfl rfl q53 rfl rfl ?_
      refine .gS rfl rfl rfl q53 rfl rfl ?_
      refine .gS rfl rfl rfl q53 rfl rfl ?_
      refine .gS rfl rfl rfl q53 rfl rfl ?_
      refine .gS rfl rfl rfl q53 rfl rfl ?_
      refine .gU rfl rfl rfl rfl rfl ?_
      refine .gU rfl rfl rfl rfl rfl ?_
      refine .gU rfl rfl rfl rfl rfl ?_
      refine .gU rfl rfl rfl rfl rfl ?_
      refine .gU rfl rfl rfl rfl rfl ?_
      refine .gU rfl rfl rfl rfl rfl ?_
      refine .gU rfl rfl rfl rfl rfl ?_
      refine .gU rfl rfl rfl rfl rfl ?_
      refine .gS rfl rfl rfl q53 rfl rfl ?_
      refine .gS rfl rfl rfl q53 rfl rfl ?_
      refine .gU rfl rfl rfl rfl rfl ?_
      refine .gU rfl rfl rfl rfl rfl ?_
      refine .gU rfl rfl rfl rfl rfl ?_
      refine .gU rfl rfl rfl rfl rfl ?_
      refine .gU rfl rfl rfl rfl rfl ?_
      refine .gU rfl rfl rfl rfl rfl ?_
      refine .gU rfl rfl rfl rfl rfl ?_
      refine .gU rfl rfl rfl rfl rfl ?_
      refine .gU rfl rfl rfl rfl rfl ?_
      refine .gU rfl rfl rfl rfl rfl ?_
      refine .gU rfl rfl rfl rfl rfl ?_
      refine .gU rfl rfl rfl rfl rfl ?_
      refine .gU rfl rfl rfl rfl rfl ?_
      refine .gU rfl rfl rfl rfl rfl ?_
      refine .gU rfl rfl rfl rfl rfl ?_
      refine .gU rfl rfl rfl rfl rfl ?_
      refine .gU rfl rfl rfl rfl rfl ?_
      refine .gU rfl rfl rfl rfl rfl ?_
      refine .gU rfl rfl rfl rfl rfl ?_
      refine .gU rfl rfl rfl rfl rfl ?_
      refine .gU rfl rfl rfl rfl rfl ?_
      refine .gU rfl rfl rfl rfl rfl ?_
      refine .gU rfl rfl rfl rfl rfl ?_
      refine .gS rfl rfl rfl q53 rfl rfl ?_
      refine .v (pkF rfl q53 rfl) rfl rfl rfl ?_
      refine .v (mv rfl) rfl rfl rfl ?_
      refine .gS rfl rfl rfl rfl rfl rfl ?_
      refine .v (pkF rfl rfl rfl) rfl rfl rfl ?_
      refine .v (asg rfl) rfl rfl rfl ?_
      refine .fin ?_
      refine .seqN ?_
      refine .ret ?_
      refine .res1 rfl (rvT rfl) (fun w' S => ⟨false, hF, rfl, S.below⟩)
    refine .open_ (by kernel_rfl) (by kernel_rfl) ?_
    refine .v (mv rfl) rfl rfl rfl ?_
    refine .v (ln rfl tS25.is) rfl rfl rfl ?_
    refine .v (fa rfl tF24_0) rfl rfl rfl ?_
    refine .v (ld1 rfl tO3 (cellB (off := 0) (k := 0) rfl rfl)) rfl rfl rfl ?_
    refine .v (bi rfl rfl rfl) rfl rfl rfl ?_
    refine .v (mv rfl) rfl rfl rfl ?_
    rcases Bool.eq_false_or_eq_true (((r2.1.length : Nat) : Int) != n_.events) with q68 | q68
    · replace hF := hF.1 q68
      refine .gS rfl rfl rfl q68 rfl rfl ?_
      refine .gS rfl rfl rfl q68 rfl rfl ?_
      refine .gS rfl rfl rfl q68 rfl rfl ?_
      refine .gS rfl rfl rfl q68 rfl rfl ?_
      refine .gS rfl rfl rfl q68 rfl rfl ?_
      refine .gS rfl rfl rfl q68 rfl rfl ?_
      refine .gS rfl rfl rfl q68 rfl rfl ?_
      refine .gS rfl rfl rfl q68 rfl rfl ?_
      refine .v (pkT rfl q68 rfl) rfl rfl rfl ?_
      refine .v (mv rfl) rfl rfl rfl ?_
      refine .gS rfl rfl rfl rfl rfl rfl ?_
      refine .gS rfl rfl rfl rfl rfl rfl ?_
      refine .gS rfl rfl rfl rfl rfl rfl ?_
      refine .gS rfl rfl rfl rfl rfl rfl ?_
      refine .gS rfl rfl rfl rfl rfl rfl ?_
      refine .gS rfl rfl rfl rfl rfl rfl ?_
      refine .gS rfl rfl rfl rfl rfl rfl ?_
      refine .gS rfl rfl rfl rfl rfl rfl ?_
      refine .v (pkT rfl rfl rfl) rfl rfl rfl ?_
      refine .fin ?_
      refine .sel0 [] (by decide) rfl ?_
      exact .use q26 true hF (.cons rfl (.cons rfl (.cons rfl (.cons rfl (.cons rfl (.nil)))))) rfl (FH.le_refl _)
    replace hF := hF.2 q68
    refine .gv (mv rfl) rfl rfl rfl q68 rfl rfl ?_
    refine .gv (mv rfl) rfl rfl rfl q68 rfl rfl ?_
    obtain ⟨q69, hF⟩ := hF
    refine .gv (ix rfl rfl tS25 (q4.ne (by decide) (inb_pos q69)) q69) rfl rfl rfl q68 rfl rfl ?_
    obtain ⟨_, ⟨a4, c4, rfl, q70, q71⟩, q72⟩ := q4.elem q69
    refine .gv (ld1 (v := .slice a4 ((gt r2.1 i).length) c4) rfl tO32 (cellH (q72 (by decide) 0 _ rfl))) rfl rfl rfl q68 rfl rfl ?_
    refine .gv (ln rfl tS32.is) rfl rfl rfl q68 rfl rfl ?_
    refine .gv (fa rfl tF24_0) rfl rfl rfl q68 rfl rfl ?_
    refine .gv (ld1 rfl tO3 (cellB (off := 0) (k := 0) rfl rfl)) rfl rfl rfl q68 rfl rfl ?_
    refine .gv (bi rfl rfl rfl) rfl rfl rfl q68 rfl rfl ?_
    refine .v (pkF rfl q68 rfl) rfl rfl rfl ?_
    refine .v (mv rfl) rfl rfl rfl ?_
    rcases Bool.eq_false_or_eq_true ((((gt r2.1 i).length : Nat) : Int) != n_.events) with q73 | q73
    · replace hF := hF.1 q73
      refine .gS rfl rfl rfl q73 rfl rfl ?_
      refine .gS rfl rfl rfl q73 rfl rfl ?_
      refine .gS rfl rfl rfl q73 rfl rfl ?_
      refine .gS rfl rfl rfl q73 rfl rfl ?_
      refine .gS rfl rfl rfl q73 rfl rfl ?_
      refine .gS rfl rfl rfl q73 rfl rfl ?_
      refine .gS rfl rfl rfl q73 rfl rfl ?_
      refine .gS rfl rfl rfl q73 rfl rfl ?_
      refine .v (pkT rfl q73 rfl) rfl rfl rfl ?_
      refine .fin ?_
      refine .sel0 [] (by decide) rfl ?_
      exact .use q26 true hF (.cons rfl (.cons rfl (.cons rfl (.cons rfl (.cons rfl (.nil)))))) rfl (FH.le_refl _)
    replace hF := hF.2 q73
    refine .gv (mv rfl) rfl rfl rfl q73 rfl rfl ?_
    refine .gv (mv rfl) rfl rfl rfl q73 rfl rfl ?_
    obtain ⟨q74, hF⟩ := hF
    refine .gv (ix rfl rfl tS25 (q4.ne (by decide) (inb_pos q74)) q74) rfl rfl rfl q73 rfl rfl ?_
    obtain ⟨_, ⟨a5, c5, rfl, q75, q76⟩, q77⟩ := q4.elem q74
    refine .gv (ld1 (v := .slice a5 ((gt r2.1 j).length) c5) rfl tO32 (cellH (q77 (by decide) 0 _ rfl))) rfl rfl rfl q73 rfl rfl ?_
    refine .gv (ln rfl tS32.is) rfl rfl rfl q73 rfl rfl ?_
    refine .gv (fa rfl tF24_0) rfl rfl rfl q73 rfl rfl ?_
    refine .gv (ld1 rfl tO3 (cellB (off := 0) (k := 0) rfl rfl)) rfl rfl rfl q73 rfl rfl ?_
    refine .gv (bi rfl rfl rfl) rfl rfl rfl q73 rfl rfl ?_
    refine .v (pkF rfl q73 rfl) rfl rfl rfl ?_
    refine .fin ?_
    refine .sel0 [] (by decide) rfl ?_
    exact .use q26 ((((gt r2.1 j).length : Nat) : Int) != n_.events) hF (.cons rfl (.cons rfl (.cons rfl (.cons rfl (.cons rfl (.nil)))))) rfl (FH.le_refl _)
  refine .region ?_
  refine .v (fa rfl tF27_0) rfl rfl rfl ?_
  refine .v (ld1 rfl tO3 (cellB (off := 0) (k := 0) rfl rfl)) rfl rfl rfl ?_
  refine .v (bi rfl rfl rfl) rfl rfl rfl ?_
  refine .v (mv rfl) rfl rfl rfl ?_
  rcases Bool.eq_false_or_eq_true (r2.2.2.code != 0) with q78 | q78
  · replace hF := hF.1 q78
    refine .gS rfl rfl rfl q78 rfl rfl ?_
    refine .gS rfl rfl rfl q78 rfl rfl ?_
    refine .v (pkT rfl q78 rfl) rfl rfl rfl ?_
    refine .v (mv rfl) rfl rfl rfl ?_
    refine .gS rfl rfl rfl rfl rfl rfl ?_
    refine .gS rfl rfl rfl rfl rfl rfl ?_
    refine .gS rfl rfl rfl rfl rfl rfl ?_
    refine .gS rfl rfl rfl rfl rfl rfl ?_
    refine .gS rfl rfl rfl rfl rfl rfl ?_
    refine .gS rfl rfl rfl rfl rfl rfl ?_
    refine .v (pkT rfl rfl rfl) rfl rfl rfl ?_
    refine .v (mv rfl) rfl rfl rfl ?_
    refine .gS rfl rfl rfl rfl rfl rfl ?_
    refine .gS rfl rfl rfl rfl rfl rfl ?_
    refine .gS rfl rfl rfl rfl rfl rfl ?_
    refine .gS rfl rfl rfl rfl rfl rfl ?_
    refine .gS rfl rfl rfl rfl rfl rfl ?_
    refine .gS rfl rfl rfl rfl rfl rfl ?_
    refine .v (pkT rfl rfl rfl) rfl rfl rfl ?_
    refine .v (mv rfl) rfl rfl rfl ?_
    refine .gS rfl rfl rfl rfl rfl rfl ?_
    refine .gS rfl rfl rfl rfl rfl rfl ?_
    refine .gS rfl rfl rfl rfl rfl rfl ?_
    refine .gS rfl rfl rfl rfl rfl rfl ?_
    refine .gS rfl rfl rfl rfl rfl rfl ?_
    refine .gS rfl rfl rfl rfl rfl rfl ?_
    refine .v (pkT rfl rfl rfl) rfl rfl rfl ?_
    refine .nil ?_
    refine .sel0 [1] (by decide) rfl ?_
    exact .use q13 true hF (.cons rfl (.cons rfl (.cons rfl (.cons rfl (.cons rfl (.cons rfl (.nil))))))) rfl (FH.le_refl _)
  replace hF := hF.2 q78
  refine .gv (mv rfl) rfl rfl rfl q78 rfl rfl ?_
  refine .gv (nt rfl) rfl rfl rfl q78 rfl rfl ?_
  refine .v (pkF rfl q78 rfl) rfl rfl rfl ?_
  refine .v (mv rfl) rfl rfl rfl ?_
  rcases Bool.eq_false_or_eq_true (!r2.2.1) with q79 | q79
  · replace hF := hF.1 q79
    refine .gS rfl rfl rfl q79 rfl rfl ?_
    refine .gS rfl rfl rfl q79 rfl rfl ?_
    refine .gS rfl rfl rfl q79 rfl rfl ?_
    refine .gS rfl rfl rfl q79 rfl rfl ?_
    refine .gS rfl rfl rfl q79 rfl rfl ?_
    refine .gS rfl rfl rfl q79 rfl rfl ?_
    refine .v (pkT rfl q79 rfl) rfl rfl rfl ?_
    refine .v (mv rfl) rfl rfl rfl ?_
    refine .gS rfl rfl rfl rfl rfl rfl ?_
    refine .gS rfl rfl rfl rfl rfl rfl ?_
    refine .gS rfl rfl rfl rfl rfl rfl ?_
    refine .gS rfl rfl rfl rfl rfl rfl ?_
    refine .gS rfl rfl rfl rfl rfl rfl ?_
    refine .gS rfl rfl rfl rfl rfl rfl ?_
    refine .v (pkT rfl rfl rfl) rfl rfl rfl ?_
    refine .v (mv rfl) rfl rfl rfl ?_
    refine .gS rfl rfl rfl rfl rfl rfl ?_
    refine .gS rfl rfl rfl rfl rfl rfl ?_
    refine .gS rfl rfl rfl rfl rfl rfl ?_
    refine .gS rfl rfl rfl rfl rfl rfl ?_
    refine .gS rfl rfl rfl rfl rfl rfl ?_
    refine .gS rfl rfl rfl rfl rfl rfl ?_
    refine .v (pkT rfl rfl rfl) rfl rfl rfl ?_
    refine .nil ?_
    refine .sel0 [1] (by decide) rfl ?_
    exact .use q13 true hF (.cons rfl (.cons rfl (.cons rfl (.cons rfl (.cons rfl (.cons rfl (.nil))))))) rfl (FH.le_refl _)
  replace hF := hF.2 q79
  refine .gv (mv rfl) rfl rfl rfl q79 rfl rfl ?_
  refine .gv (fa rfl tF24_0) rfl rfl rfl q79 rfl rfl ?_
  refine .gv (ld1 rfl tO3 (cellB (off := 0) (k := 1) rfl rfl)) rfl rfl rfl q79 rfl rfl ?_
  refine .gv (bi rfl rfl rfl) rfl rfl rfl q79 rfl rfl ?_
  obtain ⟨r7, q80⟩ : ∃ y_ : Bool, y_ = sp_in_ i 0 (IntKind.i64.wrap (n_.events - 1)) := ⟨_, rfl⟩
  replace hF := hF r7 q80
  refine .gc (cl (v := .bool r7) Try.call16 rfl rfl (fun w S => (by rw [q80]; exact c_in_ S.sub i 0 (IntKind.i64.wrap (n_.events - 1)) ))) rfl rfl rfl q79 rfl rfl ?_
  refine .gv (nt rfl) rfl rfl rfl q79 rfl rfl ?_
  refine .v (pkF rfl q79 rfl) rfl rfl rfl ?_
  refine .v (mv rfl) rfl rfl rfl ?_
  rcases Bool.eq_false_or_eq_true (!r7) with q81 | q81
  · replace hF := hF.1 q81
    refine .gS rfl rfl rfl q81 rfl rfl ?_
    refine .gS rfl rfl rfl q81 rfl rfl ?_
    refine .gS rfl rfl rfl q81 rfl rfl ?_
    refine .gS rfl rfl rfl q81 rfl rfl ?_
    refine .gS rfl rfl rfl q81 rfl rfl ?_
    refine .gS rfl rfl rfl q81 rfl rfl ?_
    refine .v (pkT rfl q81 rfl) rfl rfl rfl ?_
    refine .v (mv rfl) rfl rfl rfl ?_
    refine .gS rfl rfl rfl rfl rfl rfl ?_
    refine .gS rfl rfl rfl rfl rfl rfl ?_
    refine .gS rfl rfl rfl rfl rfl rfl ?_
    refine .gS rfl rfl rfl rfl rfl rfl ?_
    refine .gS rfl rfl rfl rfl rfl rfl ?_
    refine .gS rfl rfl rfl rfl rfl rfl ?_
    refine .v (pkT rfl rfl rfl) rfl rfl rfl ?_
    refine .nil ?_
    refine .sel0 [1] (by decide) rfl ?_
    exact .use q13 true hF (.cons rfl (.cons rfl (.cons rfl (.cons rfl (.cons rfl (.cons rfl (.nil))))))) rfl (FH.le_refl _)
  replace hF := hF.2 q81
  refine .gv (mv rfl) rfl rfl rfl q81 rfl rfl ?_
  refine .gv (fa rfl tF24_0) rfl rfl rfl q81 rfl rfl ?_
  refine .gv (ld1 rfl tO3 (cellB (off := 0) (k := 1) rfl rfl)) rfl rfl rfl q81 rfl rfl ?_
  refine .gv (bi rfl rfl rfl) rfl rfl rfl q81 rfl rfl ?_
  obtain ⟨r8, q82⟩ : ∃ y_ : Bool, y_ = sp_in_ j 0 (IntKind.i64.wrap (n_.events - 1)) := ⟨_, rfl⟩
  replace hF := hF r8 q82
  refine .gc (cl (v := .bool r8) Try.call16 rfl rfl (fun w S => (by rw [q82]; exact c_in_ S.sub j 0 (IntKind.i64.wrap (n_.events - 1)) ))) rfl rfl rfl q81 rfl rfl ?_
  refine .gv (nt rfl) rfl rfl rfl q81 rfl rfl ?_
  refine .v (pkF rfl q81 rfl) rfl rfl rfl ?_
  refine .v (mv rfl) rfl rfl rfl ?_
  rcases Bool.eq_false_or_eq_true (!r8) with q83 | q83
  · replace hF := hF.1 q83
    refine .gS rfl rfl rfl q83 rfl rfl ?_
    refine .gS rfl rfl rfl q83 rfl rfl ?_
    refine .gS rfl rfl rfl q83 rfl rfl ?_
    refine .gS rfl rfl rfl q83 rfl rfl ?_
    refine .gS rfl rfl rfl q83 rfl rfl ?_
    refine .gS rfl rfl rfl q83 rfl rfl ?_
    refine .v (pkT rfl q83 rfl) rfl rfl rfl ?_
    refine .nil ?_
    refine .sel0 [1] (by decide) rfl ?_
    exact .use q13 true hF (.cons rfl (.cons rfl (.cons rfl (.cons rfl (.cons rfl (.cons rfl (.nil))))))) rfl (FH.le_refl _)
  replace hF := hF.2 q83
  refine .gv (mv rfl) rfl rfl rfl q83 rfl rfl ?_
  refine .gv (fa rfl tF24_0) rfl rfl rfl q83 rfl rfl ?_
  refine .gv (ld1 rfl tO3 (cellB (off := 0) (k := 1) rfl rfl)) rfl rfl rfl q83 rfl rfl ?_
  refine .gv (bi rfl rfl rfl) rfl rfl rfl q83 rfl rfl ?_
  obtain ⟨r9, q84⟩ : ∃ y_ : Bool, y_ = sp_in_ k 0 (IntKind.i64.wrap (n_.events - 1)) := ⟨_, rfl⟩
  replace hF := hF r9 q84
  refine .gc (cl (v := .bool r9) Try.call16 rfl rfl (fun w S => (by rw [q84]; exact c_in_ S.sub k 0 (IntKind.i64.wrap (n_.events - 1)) ))) rfl rfl rfl q83 rfl rfl ?_
  refine .gv (nt rfl) rfl rfl rfl q83 rfl rfl ?_
  refine .v (pkF rfl q83 rfl) rfl rfl rfl ?_
  refine .nil ?_
  refine .sel0 [1] (by decide) rfl ?_
  exact .use q13 (!r9) hF (.cons rfl (.cons rfl (.cons rfl (.cons rfl (.cons rfl (.cons rfl (.nil))))))) rfl (FH.le_refl _)

theorem c_lawTriangle {h : FH} {w : World} (hs : Sub h w) (n_ : Network) (an_ : Option Addr) (cn_ : Nat) (_q1 : RSl h an_ n_.links) (_q2 : n_.links.length ≤ cn_) (i : Int) (j : Int) (k : Int) : Calls Try.prog 3 #[.agg #[.int .i64 n_.events, .slice an_ n_.links.length cn_], .int .i64 i, .int .i64 j, .int .i64 k] w fun e w' => e = .returned (.bool (sp_lawTriangle n_ i j k)) ∧ Below w.heap.size w w' :=
  (w_lawTriangle hs n_ an_ cn_ _q1 _q2 i j k (fun r => r = sp_lawTriangle n_ i j k) (ok_lawTriangle n_ i j k)).mono fun _ _ ⟨_, hk, he, hb⟩ => ⟨by rw [he, hk], hb⟩

set_option maxHeartbeats 8000000 in
theorem w_lawBoundsHold {h : FH} {w : World} (hs : Sub h w) (n_ : Network) (an_ : Option Addr) (cn_ : Nat) (_q1 : RSl h an_ n_.links) (_q2 : n_.links.length ≤ cn_) (times : List Int) (atimes : Option Addr) (ctimes : Nat) (_q3 : RSl h atimes times) (_q4 : times.length ≤ ctimes) (i : Int) (j : Int) (K : Bool → Prop) (hF : F_lawBoundsHold n_ times i j K) : Calls Try.prog 5 #[.agg #[.int .i64 n_.events, .slice an_ n_.links.length cn_], .slice atimes times.length ctimes, .int .i64 i, .int .i64 j] w fun e w' => ∃ r : Bool, K r ∧ e = .returned (.bool r) ∧ Below w.heap.size w w' := by
  refine enter (args := [.agg #[.int .i64 n_.events, .slice an_ n_.links.length cn_], .slice atimes times.length ctimes, .int .i64 i, .int .i64 j]) Try.func5 rfl Try.ntmps5 rfl hs ?_
  refine .seq ?_
  refine .region ?_
  refine bx (vs := [.int .i64 n_.events, .slice an_ n_.links.length cn_]) rfl rfl rfl (fun pn => ?_)
  refine .v (asg rfl) rfl rfl rfl ?_
  refine .nil ?_
  refine .seqN ?_
  refine .seq ?_
  refine .region ?_
  refine .v (ldA (cs := [.int .i64 n_.events, .slice an_ n_.links.length cn_]) rfl tA24 rfl (cellsB (off := 0) (k := 0) rfl (m := 2) rfl)) rfl rfl rfl ?_
  refine .v (mv rfl) rfl rfl rfl ?_
  obtain ⟨r2, q5⟩ : ∃ y_ : Bool × Fault, y_ = sp_respects n_ times := ⟨_, rfl⟩
  replace hF := hF r2 q5
  refine .c (cl (v := .tuple #[.bool r2.1, .agg #[.int .i64 r2.2.code, .int .i64 r2.2.index]]) Try.call18 rfl rfl (fun w S => (by rw [q5]; exact c_respects S.sub n_ an_ cn_ _q1 _q2 times atimes ctimes _q3 _q4 ))) rfl rfl rfl ?_
  refine .v (mv rfl) rfl rfl rfl ?_
  refine .v (ext rfl rfl) rfl rfl rfl ?_
  refine .v (ext rfl rfl) rfl rfl rfl ?_
  refine al tZ27 rfl (fun pf => ?_)
  refine .v (asg rfl) rfl rfl rfl ?_
  refine st (p := pf) (off := 0) (k := 0) (vs := [.int .i64 r2.2.code, .int .i64 r2.2.index]) rfl rfl rfl (fun w => (tA27 w).2) rfl rfl rfl rfl ?_
  refine .cast (A' := [Box pf [.int .i64 r2.2.code, .int .i64 r2.2.index], Box pn [.int .i64 n_.events, .slice an_ n_.links.length cn_]]) rfl ?_
  refine .nil ?_
  refine .seqN ?_
  refine .seq ?_
  refine .share (σ := Bool) (fun z => F_lawBoundsHold_J1 n_ times i j K z) (fun z => [(1, .slice atimes times.length ctimes), (2, .int .i64 i), (3, .int .i64 j), (4, .pointer (some pn)), (42, .bool z)]) (fun _ => [Box pn [.int .i64 n_.events, .slice an_ n_.links.length cn_]]) (fun _ => h) ?_ (fun q11 => ?_)
  · rintro t42 hF
    show J _ _ _ _ _ [(1, .slice atimes times.length ctimes), (2, .int .i64 i), (3, .int .i64 j), (4, .pointer (some pn)), (42, .bool t42)] [Box pn [.int .i64 n_.events, .slice an_ n_.links.length cn_]] h
    refine .cond rfl (fun q12 => ?_) (fun q12 => ?_)
    · replace hF := hF.1 q12
      refine .seq ?_
      refine .region ?_
      obtain ⟨r3, q13⟩ : ∃ y_ : Bool, y_ = sp_bounded := ⟨_, rfl⟩
      replace hF := hF r3 q13
      refine .c (cl (v := .bool r3) Try.call17 rfl rfl (fun w S => (by rw [q13]; exact c_bounded S.sub  ))) rfl rfl rfl ?_
      refine .v (asg rfl) rfl rfl rfl ?_
      refine .nil ?_
      refine .seqN ?_
      refine .ret ?_
      refine .seqR ?_
      refine .res1 rfl (rvT rfl) (fun w' S => ⟨r3, hF, rfl, S.below⟩)
    replace hF := hF.2 q12
    refine .skip ?_
    refine .seqN ?_
    refine .seq ?_
    refine .region ?_
    refine .v (ldA (cs := [.int .i64 n_.events, .slice an_ n_.links.length cn_]) rfl tA24 rfl (cellsB (off := 0) (k := 0) rfl (m := 2) rfl)) rfl rfl rfl ?_
    obtain ⟨r4, q14⟩ : ∃ y_ : List (List Int) × Bool × Fault, y_ = sp_minimal n_ := ⟨_, rfl⟩
    replace hF := hF r4 q14
    refine clR (α := Option Addr × Nat) (Φ := fun h1 z => RSl h1 z.1 r4.1 ∧ r4.1.length ≤ z.2) (V := fun z => .tuple #[.slice z.1 r4.1.length z.2, .bool r4.2.1, .agg #[.int .i64 r4.2.2.code, .int .i64 r4.2.2.index]]) Try.call15 rfl rfl (fun w S => (by rw [q14]; exact c_minimal S.sub n_ an_ cn_ _q1 _q2 )) rfl (fun z h1 le1 hz => ?_)
    obtain ⟨a, c⟩ := z
    obtain ⟨q15, q16⟩ := hz
    refine .v (mv rfl) rfl rfl rfl ?_
    refine .v (ext rfl rfl) rfl rfl rfl ?_
    refine .v (ext rfl rfl) rfl rfl rfl ?_
    refine .v (ext rfl rfl) rfl rfl rfl ?_
    refine al tZ27 rfl (fun pg => ?_)
    refine .v (asg rfl) rfl rfl rfl ?_
    refine .v (asg rfl) rfl rfl rfl ?_
    refine st (p := pg) (off := 0) (k := 0) (vs := [.int .i64 r4.2.2.code, .int .i64 r4.2.2.index]) rfl rfl rfl (fun w => (tA27 w).2) rfl rfl rfl rfl ?_
    refine .cast (A' := [Box pg [.int .i64 r4.2.2.code, .int .i64 r4.2.2.index], Box pn [.int .i64 n_.events, .slice an_ n_.links.length cn_]]) rfl ?_
    refine .nil ?_
    refine .seqN ?_
    refine .seq ?_
    refine .open_ (by kernel_rfl) (by kernel_rfl) ?_
    refine .v (fa rfl tF27_0) rfl rfl rfl ?_
    refine .v (ld1 rfl tO3 (cellB (off := 0) (k := 0) rfl rfl)) rfl rfl rfl ?_
    refine .v (bi rfl rfl rfl) rfl rfl rfl ?_
    refine .v (mv rfl) rfl rfl rfl ?_
    rcases Bool.eq_false_or_eq_true (r4.2.2.code == 0) with q31 | q31
    · replace hF := hF.1 q31
      refine .gv (mv rfl) rfl rfl rfl q31 rfl rfl ?_
      refine .v (pkT rfl q31 rfl) rfl rfl rfl ?_
      refine .v (mv rfl) rfl rfl rfl ?_
      rcases Bool.eq_false_or_eq_true (r4.2.1) with q32 | q32
      · replace hF := hF.1 q32
        refine .gv (mv rfl) rfl rfl rfl q32 rfl rfl ?_
        refine .gv (ln rfl tS25.is) rfl rfl rfl q32 rfl rfl ?_
        refine .gv (fa rfl tF24_0) rfl rfl rfl q32 rfl rfl ?_
        refine .gv (ld1 rfl tO3 (cellB (off := 0) (k := 1) rfl rfl)) rfl rfl rfl q32 rfl rfl ?_
        refine .gv (bi rfl rfl rfl) rfl rfl rfl q32 rfl rfl ?_
        refine .v (pkT rfl q32 rfl) rfl rfl rfl ?_
        refine .v (mv rfl) rfl rfl rfl ?_
        rcases Bool.eq_false_or_eq_true (((r4.1.length : Nat) : Int) == n_.events) with q33 | q33
        · replace hF := hF.1 q33
          refine .gv (mv rfl) rfl rfl rfl q33 rfl rfl ?_
          refine .gv (mv rfl) rfl rfl rfl q33 rfl rfl ?_
          obtain ⟨q34, hF⟩ := hF
          refine .gv (ix rfl rfl tS25 (q15.ne (by decide) (inb_pos q34)) q34) rfl rfl rfl q33 rfl rfl ?_
          obtain ⟨_, ⟨a2, c2, rfl, q35, q36⟩, q37⟩ := q15.elem q34
          refine .gv (ld1 (v := .slice a2 ((gt r4.1 i).length) c2) rfl tO32 (cellH (q37 (by decide) 0 _ rfl))) rfl rfl rfl q33 rfl rfl ?_
          refine .gv (ln rfl tS32.is) rfl rfl rfl q33 rfl rfl ?_
          refine .gv (fa rfl tF24_0) rfl rfl rfl q33 rfl rfl ?_
          refine .gv (ld1 rfl tO3 (cellB (off := 0) (k := 1) rfl rfl)) rfl rfl rfl q33 rfl rfl ?_
          refine .gv (bi rfl rfl rfl) rfl rfl rfl q33 rfl rfl ?_
          refine .v (pkT rfl q33 rfl) rfl rfl rfl ?_
          refine .v (mv rfl) rfl rfl rfl ?_
          rcases Bool.eq_false_or_eq_true ((((gt r4.1 i).length : Nat) : Int) == n_.events) with q38 | q38
          · replace hF := hF.1 q38
            refine .gv (mv rfl) rfl rfl rfl q38 rfl rfl ?_
            refine .gv (mv rfl) rfl rfl rfl q38 rfl rfl ?_
            obtain ⟨q39, hF⟩ := hF
            refine .gv (ix rfl rfl tS32 (_q3.ne (by decide) (inb_pos q39)) q39) rfl rfl rfl q38 rfl rfl ?_
            refine .gv (ld1 (v := .int .i64 (gt times j)) rfl tO3 (cellH ((_q3.mono (le1)).elemF q39 (by decide) 0 _ rfl))) rfl rfl rfl q38 rfl rfl ?_
            refine .gv (mv rfl) rfl rfl rfl q38 rfl rfl ?_
            refine .gv (mv rfl) rfl rfl rfl q38 rfl rfl ?_
            obtain ⟨q40, hF⟩ := hF
            refine .gv (ix rfl rfl tS32 (_q3.ne (by decide) (inb_pos q40)) q40) rfl rfl rfl q38 rfl rfl ?_
            refine .gv (ld1 (v := .int .i64 (gt times i)) rfl tO3 (cellH ((_q3.mono (le1)).elemF q40 (by decide) 0 _ rfl))) rfl rfl rfl q38 rfl rfl ?_
            refine .gv (bi rfl rfl rfl) rfl rfl rfl q38 rfl rfl ?_
            refine .gv (mv rfl) rfl rfl rfl q38 rfl rfl ?_
            refine .gv (mv rfl) rfl rfl rfl q38 rfl rfl ?_
            refine .gv (ix rfl rfl tS25 (q15.ne (by decide) (inb_pos q34)) q34) rfl rfl rfl q38 rfl rfl ?_
            refine .gv (ld1 (v := .slice a2 ((gt r4.1 i).length) c2) rfl tO32 (cellH (q37 (by decide) 0 _ rfl))) rfl rfl rfl q38 rfl rfl ?_
            refine .gv (mv rfl) rfl rfl rfl q38 rfl rfl ?_
            obtain ⟨q41, hF⟩ := hF
            refine .gv (ix rfl rfl tS32 (q36.ne (by decide) (inb_pos q41)) q41) rfl rfl rfl q38 rfl rfl ?_
            refine .gv (ld1 (v := .int .i64 (gt (gt r4.1 i) j)) rfl tO3 (cellH (q36.elemF q41 (by decide) 0 _ rfl))) rfl rfl rfl q38 rfl rfl ?_
            obtain ⟨x, q42⟩ : ∃ y_ : Bool, y_ = (decide ((IntKind.i64.wrap ((gt times j) - (gt times i))) ≤ (gt (gt r4.1 i) j))) := ⟨_, rfl⟩
            replace hF := hF x q42
            refine .gv (v := .bool x) (by rw [q42]; exact bi rfl rfl rfl) rfl rfl rfl q38 rfl rfl ?_
            refine .v (pkT rfl q38 rfl) rfl rfl rfl ?_
            refine .v (mv rfl) rfl rfl rfl ?_
            rcases Bool.eq_false_or_eq_true (x) with q43 | q43
            · replace hF := hF.1 q43
              obtain ⟨r5, q44⟩ : ∃ y_ : Bool, y_ = sp_bounded := ⟨_, rfl⟩
              replace hF := hF r5 q44
              refine .gc (cl (v := .bool r5) Try.call17 rfl rfl (fun w S => (by rw [q44]; exact c_bounded S.sub  ))) rfl rfl rfl q43 rfl rfl ?_
              refine .v (pkT rfl q43 rfl) rfl rfl rfl ?_
              refine .v (asg rfl) rfl rfl rfl ?_
              refine .fin ?_
              refine .seqN ?_
              refine .ret ?_
              refine .res1 rfl (rvT rfl) (fun w' S => ⟨r5, hF, rfl, S.below⟩)
            replace hF := hF.2 q43
            refine .gS rfl rfl rfl q43 rfl rfl ?_
            refine .v (pkF rfl q43 rfl) rfl rfl rfl ?_
            refine .v (asg rfl) rfl rfl rfl ?_
            refine .fin ?_
            refine .seqN ?_
            refine .ret ?_
            refine .res1 rfl (rvT rfl) (fun w' S => ⟨false, hF, rfl, S.below⟩)
          replace hF := hF.2 q38
          refine .gS rfl rfl rfl q38 rfl rfl ?_
          refine .gS rfl rfl rfl q38 rfl rfl ?_
          refine .gS rfl rfl rfl q38 rfl rfl ?_
          refine .gS rfl rfl rfl q38 rfl rfl ?_
          refine .gS rfl rfl rfl q38 rfl rfl ?_
          refine .gS rfl rfl rfl q38 rfl rfl ?_
          refine .gS rfl rfl rfl q38 rfl rfl ?_
          refine .gS rfl rfl rfl q38 rfl rfl ?_
          refine .gS rfl rfl rfl q38 rfl rfl ?_
          refine .gS rfl rfl rfl q38 rfl rfl ?_
          refine .gS rfl rfl rfl q38 rfl rfl ?_
          refine .gS rfl rfl rfl q38 rfl rfl ?_
          refine .gS rfl rfl rfl q38 rfl rfl ?_
          refine .gS rfl rfl rfl q38 rfl rfl ?_
          refine .gS rfl rfl rfl q38 rfl rfl ?_
          refine .gS rfl rfl rfl q38 rfl rfl ?_
          refine .gS rfl rfl rfl q38 rfl rfl ?_
          refine .v (pkF rfl q38 rfl) rfl rfl rfl ?_
          refine .v (mv rfl) rfl rfl rfl ?_
          refine .gS rfl rfl rfl rfl rfl rfl ?_
          refine .v (pkF rfl rfl rfl) rfl rfl rfl ?_
          refine .v (asg rfl) rfl rfl rfl ?_
          refine .fin ?_
          refine .seqN ?_
          refine .ret ?_
          refine .res1 rfl (rvT rfl) (fun w' S => ⟨false, hF, rfl, S.below⟩)
        replace hF := hF.2 q33
        refine .gS rfl rfl rfl q33 rfl rfl ?_
        refine .gS rfl rfl rfl q33 rfl rfl ?_
        refine .gS rfl rfl rfl q33 rfl rfl ?_
        refine .gS rfl rfl rfl q33 rfl rfl ?_
        refine .gS rfl rfl rfl q33 rfl rfl ?_
        refine .gS rfl rfl rfl q33 rfl rfl ?_
        refine .gS rfl rfl rfl q33 rfl rfl ?_
        refine .gS rfl rfl rfl q33 rfl rfl ?_
        refine .v (pkF rfl q33 rfl) rfl rfl rfl ?_
        refine .v (mv rfl) rfl rfl rfl ?_
        refine .gS rfl rfl rfl rfl rfl rfl ?_
        refine .gS rfl rfl rfl rfl rfl rfl ?_
        refine .gS rfl rfl rfl rfl rfl rfl ?_
        refine .gS rfl rfl rfl rfl rfl rfl ?_
        refine .gS rfl rfl rfl rfl rfl rfl ?_
        refine .gS rfl rfl rfl rfl rfl rfl ?_
        refine .gS rfl rfl rfl rfl rfl rfl ?_
        refine .gS rfl rfl rfl rfl rfl rfl ?_
        refine .gS rfl rfl rfl rfl rfl rfl ?_
        refine .gS rfl rfl rfl rfl rfl rfl ?_
        refine .gS rfl rfl rfl rfl rfl rfl ?_
        refine .gS rfl rfl rfl rfl rfl rfl ?_
        refine .gS rfl rfl rfl rfl rfl rfl ?_
        refine .gS rfl rfl rfl rfl rfl rfl ?_
        refine .gS rfl rfl rfl rfl rfl rfl ?_
        refine .gS rfl rfl rfl rfl rfl rfl ?_
        refine .gS rfl rfl rfl rfl rfl rfl ?_
        refine .v (pkF rfl rfl rfl) rfl rfl rfl ?_
        refine .v (mv rfl) rfl rfl rfl ?_
        refine .gS rfl rfl rfl rfl rfl rfl ?_
        refine .v (pkF rfl rfl rfl) rfl rfl rfl ?_
        refine .v (asg rfl) rfl rfl rfl ?_
        refine .fin ?_
        refine .seqN ?_
        refine .ret ?_
        refine .res1 rfl (rvT rfl) (fun w' S => ⟨false, hF, rfl, S.below⟩)
      replace hF := hF.2 q32
      refine .gS rfl rfl rfl q32 rfl rfl ?_
      refine .gS rfl rfl rfl q32 rfl rfl ?_
      refine .gS rfl rfl rfl q32 rfl rfl ?_
      refine .gS rfl rfl rfl q32 rfl rfl ?_
      refine .gS rfl rfl rfl q32 rfl rfl ?_
      refine .v (pkF rfl q32 rfl) rfl rfl rfl ?_
      refine .v (mv rfl) rfl rfl rfl ?_
      refine .gS rfl rfl rfl rfl rfl rfl ?_
      refine .gS rfl rfl rfl rfl rfl rfl ?_
      refine .gS rfl rfl rfl rfl rfl rfl ?_
      refine .gS rfl rfl rfl rfl rfl rfl ?_
      refine .gS rfl rfl rfl rfl rfl rfl ?_
      refine .gS rfl rfl rfl rfl rfl rfl ?_
      refine .gS rfl rfl rfl rfl rfl rfl ?_
      refine .gS rfl rfl rfl rfl rfl rfl ?_
      refine .v (pkF rfl rfl rfl) rfl rfl rfl ?_
      refine .v (mv rfl) rfl rfl rfl ?_
      refine .gS rfl rfl rfl rfl rfl rfl ?_
      refine .gS rfl rfl rfl rfl rfl rfl ?_
      refine .gS rfl rfl rfl rfl rfl rfl ?_
      refine .gS rfl rfl rfl rfl rfl rfl ?_
      refine .gS rfl rfl rfl rfl rfl rfl ?_
      refine .gS rfl rfl rfl rfl rfl rfl ?_
      refine .gS rfl rfl rfl rfl rfl rfl ?_
      refine .gS rfl rfl rfl rfl rfl rfl ?_
      refine .gS rfl rfl rfl rfl rfl rfl ?_
      refine .gS rfl rfl rfl rfl rfl rfl ?_
      refine .gS rfl rfl rfl rfl rfl rfl ?_
      refine .gS rfl rfl rfl rfl rfl rfl ?_
      refine .gS rfl rfl rfl rfl rfl rfl ?_
      refine .gS rfl rfl rfl rfl rfl rfl ?_
      refine .gS rfl rfl rfl rfl rfl rfl ?_
      refine .gS rfl rfl rfl rfl rfl rfl ?_
      refine .gS rfl rfl rfl rfl rfl rfl ?_
      refine .v (pkF rfl rfl rfl) rfl rfl rfl ?_
      refine .v (mv rfl) rfl rfl rfl ?_
      refine .gS rfl rfl rfl rfl rfl rfl ?_
      refine .v (pkF rfl rfl rfl) rfl rfl rfl ?_
      refine .v (asg rfl) rfl rfl rfl ?_
      refine .fin ?_
      refine .seqN ?_
      refine .ret ?_
      refine .res1 rfl (rvT rfl) (fun w' S => ⟨false, hF, rfl, S.below⟩)
    replace hF := hF.2 q31
    refine .gS rfl rfl rfl q31 rfl rfl ?_
    refine .v (pkF rfl q31 rfl) rfl rfl rfl ?_
    refine .v (mv rfl) rfl rfl rfl ?_
    refine .gS rfl rfl rfl rfl rfl rfl ?_
    refine .gS rfl rfl rfl rfl rfl rfl ?_
    refine .gS rfl rfl rfl rfl rfl rfl ?_
    refine .gS rfl rfl rfl rfl rfl rfl ?_
    refine .gS rfl rfl rfl rfl rfl rfl ?_
    refine .v (pkF rfl rfl rfl) rfl rfl rfl ?_
    refine .v (mv rfl) rfl rfl rfl ?_
    refine .gS rfl rfl rfl rfl rfl rfl ?_
    refine .gS rfl rfl rfl rfl rfl rfl ?_
    refine .gS rfl rfl rfl rfl rfl rfl ?_
    refine .gS rfl rfl rfl rfl rfl rfl ?_
    refine .gS rfl rfl rfl rfl rfl rfl ?_
    refine .gS rfl rfl rfl rfl rfl rfl ?_
    refine .gS rfl rfl rfl rfl rfl rfl ?_
    refine .gS rfl rfl rfl rfl rfl rfl ?_
    refine .v (pkF rfl rfl rfl) rfl rfl rfl ?_
    refine .v (mv rfl) rfl rfl rfl ?_
    refine .gS rfl rfl rfl rfl rfl rfl ?_
    refine .gS rfl rfl rfl rfl rfl rfl ?_
    refine .gS rfl rfl rfl rfl rfl rfl ?_
    refine .gS rfl rfl rfl rfl rfl rfl ?_
    refine .gS rfl rfl rfl rfl rfl rfl ?_
    refine .gS rfl rfl rfl rfl rfl rfl ?_
    refine .gS rfl rfl rfl rfl rfl rfl ?_
    refine .gS rfl rfl rfl rfl rfl rfl ?_
    refine .gS rfl rfl rfl rfl rfl rfl ?_
    refine .gS rfl rfl rfl rfl rfl rfl ?_
    refine .gS rfl rfl rfl rfl rfl rfl ?_
    refine .gS rfl rfl rfl rfl rfl rfl ?_
    refine .gS rfl rfl rfl rfl rfl rfl ?_
    refine .gS rfl rfl rfl rfl rfl rfl ?_
    refine .gS rfl rfl rfl rfl rfl rfl ?_
    refine .gS rfl rfl rfl rfl rfl rfl ?_
    refine .gS rfl rfl rfl rfl rfl rfl ?_
    refine .v (pkF rfl rfl rfl) rfl rfl rfl ?_
    refine .v (mv rfl) rfl rfl rfl ?_
    refine .gS rfl rfl rfl rfl rfl rfl ?_
    refine .v (pkF rfl rfl rfl) rfl rfl rfl ?_
    refine .v (asg rfl) rfl rfl rfl ?_
    refine .fin ?_
    refine .seqN ?_
    refine .ret ?_
    refine .res1 rfl (rvT rfl) (fun w' S => ⟨false, hF, rfl, S.below⟩)
  refine .region ?_
  refine .v (fa rfl tF27_0) rfl rfl rfl ?_
  refine .v (ld1 rfl tO3 (cellB (off := 0) (k := 0) rfl rfl)) rfl rfl rfl ?_
  refine .v (bi rfl rfl rfl) rfl rfl rfl ?_
  refine .v (mv rfl) rfl rfl rfl ?_
  rcases Bool.eq_false_or_eq_true (r2.2.code != 0) with q45 | q45
  · replace hF := hF.1 q45
    refine .gS rfl rfl rfl q45 rfl rfl ?_
    refine .gS rfl rfl rfl q45 rfl rfl ?_
    refine .v (pkT rfl q45 rfl) rfl rfl rfl ?_
    refine .v (mv rfl) rfl rfl rfl ?_
    refine .gS rfl rfl rfl rfl rfl rfl ?_
    refine .gS rfl rfl rfl rfl rfl rfl ?_
    refine .gS rfl rfl rfl rfl rfl rfl ?_
    refine .gS rfl rfl rfl rfl rfl rfl ?_
    refine .gS rfl rfl rfl rfl rfl rfl ?_
    refine .gS rfl rfl rfl rfl rfl rfl ?_
    refine .v (pkT rfl rfl rfl) rfl rfl rfl ?_
    refine .v (mv rfl) rfl rfl rfl ?_
    refine .gS rfl rfl rfl rfl rfl rfl ?_
    refine .gS rfl rfl rfl rfl rfl rfl ?_
    refine .gS rfl rfl rfl rfl rfl rfl ?_
    refine .gS rfl rfl rfl rfl rfl rfl ?_
    refine .gS rfl rfl rfl rfl rfl rfl ?_
    refine .gS rfl rfl rfl rfl rfl rfl ?_
    refine .v (pkT rfl rfl rfl) rfl rfl rfl ?_
    refine .nil ?_
    refine .sel0 [1] (by decide) rfl ?_
    exact .use q11 true hF (.cons rfl (.cons rfl (.cons rfl (.cons rfl (.cons rfl (.nil)))))) rfl (FH.le_refl _)
  replace hF := hF.2 q45
  refine .gv (mv rfl) rfl rfl rfl q45 rfl rfl ?_
  refine .gv (nt rfl) rfl rfl rfl q45 rfl rfl ?_
  refine .v (pkF rfl q45 rfl) rfl rfl rfl ?_
  refine .v (mv rfl) rfl rfl rfl ?_
  rcases Bool.eq_false_or_eq_true (!r2.1) with q46 | q46
  · replace hF := hF.1 q46
    refine .gS rfl rfl rfl q46 rfl rfl ?_
    refine .gS rfl rfl rfl q46 rfl rfl ?_
    refine .gS rfl rfl rfl q46 rfl rfl ?_
    refine .gS rfl rfl rfl q46 rfl rfl ?_
    refine .gS rfl rfl rfl q46 rfl rfl ?_
    refine .gS rfl rfl rfl q46 rfl rfl ?_
    refine .v (pkT rfl q46 rfl) rfl rfl rfl ?_
    refine .v (mv rfl) rfl rfl rfl ?_
    refine .gS rfl rfl rfl rfl rfl rfl ?_
    refine .gS rfl rfl rfl rfl rfl rfl ?_
    refine .gS rfl rfl rfl rfl rfl rfl ?_
    refine .gS rfl rfl rfl rfl rfl rfl ?_
    refine .gS rfl rfl rfl rfl rfl rfl ?_
    refine .gS rfl rfl rfl rfl rfl rfl ?_
    refine .v (pkT rfl rfl rfl) rfl rfl rfl ?_
    refine .nil ?_
    refine .sel0 [1] (by decide) rfl ?_
    exact .use q11 true hF (.cons rfl (.cons rfl (.cons rfl (.cons rfl (.cons rfl (.nil)))))) rfl (FH.le_refl _)
  replace hF := hF.2 q46
  refine .gv (mv rfl) rfl rfl rfl q46 rfl rfl ?_
  refine .gv (fa rfl tF24_0) rfl rfl rfl q46 rfl rfl ?_
  refine .gv (ld1 rfl tO3 (cellB (off := 0) (k := 1) rfl rfl)) rfl rfl rfl q46 rfl rfl ?_
  refine .gv (bi rfl rfl rfl) rfl rfl rfl q46 rfl rfl ?_
  obtain ⟨r6, q47⟩ : ∃ y_ : Bool, y_ = sp_in_ i 0 (IntKind.i64.wrap (n_.events - 1)) := ⟨_, rfl⟩
  replace hF := hF r6 q47
  refine .gc (cl (v := .bool r6) Try.call16 rfl rfl (fun w S => (by rw [q47]; exact c_in_ S.sub i 0 (IntKind.i64.wrap (n_.events - 1)) ))) rfl rfl rfl q46 rfl rfl ?_
  refine .gv (nt rfl) rfl rfl rfl q46 rfl rfl ?_
  refine .v (pkF rfl q46 rfl) rfl rfl rfl ?_
  refine .v (mv rfl) rfl rfl rfl ?_
  rcases Bool.eq_false_or_eq_true (!r6) with q48 | q48
  · replace hF := hF.1 q48
    refine .gS rfl rfl rfl q48 rfl rfl ?_
    refine .gS rfl rfl rfl q48 rfl rfl ?_
    refine .gS rfl rfl rfl q48 rfl rfl ?_
    refine .gS rfl rfl rfl q48 rfl rfl ?_
    refine .gS rfl rfl rfl q48 rfl rfl ?_
    refine .gS rfl rfl rfl q48 rfl rfl ?_
    refine .v (pkT rfl q48 rfl) rfl rfl rfl ?_
    refine .nil ?_
    refine .sel0 [1] (by decide) rfl ?_
    exact .use q11 true hF (.cons rfl (.cons rfl (.cons rfl (.cons rfl (.cons rfl (.nil)))))) rfl (FH.le_refl _)
  replace hF := hF.2 q48
  refine .gv (mv rfl) rfl rfl rfl q48 rfl rfl ?_
  refine .gv (fa rfl tF24_0) rfl rfl rfl q48 rfl rfl ?_
  refine .gv (ld1 rfl tO3 (cellB (off := 0) (k := 1) rfl rfl)) rfl rfl rfl q48 rfl rfl ?_
  refine .gv (bi rfl rfl rfl) rfl rfl rfl q48 rfl rfl ?_
  obtain ⟨r7, q49⟩ : ∃ y_ : Bool, y_ = sp_in_ j 0 (IntKind.i64.wrap (n_.events - 1)) := ⟨_, rfl⟩
  replace hF := hF r7 q49
  refine .gc (cl (v := .bool r7) Try.call16 rfl rfl (fun w S => (by rw [q49]; exact c_in_ S.sub j 0 (IntKind.i64.wrap (n_.events - 1)) ))) rfl rfl rfl q48 rfl rfl ?_
  refine .gv (nt rfl) rfl rfl rfl q48 rfl rfl ?_
  refine .v (pkF rfl q48 rfl) rfl rfl rfl ?_
  refine .nil ?_
  refine .sel0 [1] (by decide) rfl ?_
  exact .use q11 (!r7) hF (.cons rfl (.cons rfl (.cons rfl (.cons rfl (.cons rfl (.nil)))))) rfl (FH.le_refl _)

theorem c_lawBoundsHold {h : FH} {w : World} (hs : Sub h w) (n_ : Network) (an_ : Option Addr) (cn_ : Nat) (_q1 : RSl h an_ n_.links) (_q2 : n_.links.length ≤ cn_) (times : List Int) (atimes : Option Addr) (ctimes : Nat) (_q3 : RSl h atimes times) (_q4 : times.length ≤ ctimes) (i : Int) (j : Int) : Calls Try.prog 5 #[.agg #[.int .i64 n_.events, .slice an_ n_.links.length cn_], .slice atimes times.length ctimes, .int .i64 i, .int .i64 j] w fun e w' => e = .returned (.bool (sp_lawBoundsHold n_ times i j)) ∧ Below w.heap.size w w' :=
  (w_lawBoundsHold hs n_ an_ cn_ _q1 _q2 times atimes ctimes _q3 _q4 i j (fun r => r = sp_lawBoundsHold n_ times i j) (ok_lawBoundsHold n_ times i j)).mono fun _ _ ⟨_, hk, he, hb⟩ => ⟨by rw [he, hk], hb⟩

theorem w_lawEarliestIsLeast {h : FH} {w : World} (hs : Sub h w) (n_ : Network) (an_ : Option Addr) (cn_ : Nat) (_q1 : RSl h an_ n_.links) (_q2 : n_.links.length ≤ cn_) (times : List Int) (atimes : Option Addr) (ctimes : Nat) (_q3 : RSl h atimes times) (_q4 : times.length ≤ ctimes) (K : Bool → Prop) (hF : F_lawEarliestIsLeast n_ times K) : Calls Try.prog 6 #[.agg #[.int .i64 n_.events, .slice an_ n_.links.length cn_], .slice atimes times.length ctimes] w fun e w' => ∃ r : Bool, K r ∧ e = .returned (.bool r) ∧ Below w.heap.size w w' := by
  refine enter (args := [.agg #[.int .i64 n_.events, .slice an_ n_.links.length cn_], .slice atimes times.length ctimes]) Try.func6 rfl Try.ntmps6 rfl hs ?_
  refine .seq ?_
  refine .region ?_
  refine bx (vs := [.int .i64 n_.events, .slice an_ n_.links.length cn_]) rfl rfl rfl (fun pn => ?_)
  refine .v (asg rfl) rfl rfl rfl ?_
  refine .nil ?_
  refine .seqN ?_
  refine .seq ?_
  refine .region ?_
  refine .v (ldA (cs := [.int .i64 n_.events, .slice an_ n_.links.length cn_]) rfl tA24 rfl (cellsB (off := 0) (k := 0) rfl (m := 2) rfl)) rfl rfl rfl ?_
  refine .v (mv rfl) rfl rfl rfl ?_
  obtain ⟨r2, q5⟩ : ∃ y_ : Bool × Fault, y_ = sp_respects n_ times := ⟨_, rfl⟩
  replace hF := hF r2 q5
  refine .c (cl (v := .tuple #[.bool r2.1, .agg #[.int .i64 r2.2.code, .int .i64 r2.2.index]]) Try.call18 rfl rfl (fun w S => (by rw [q5]; exact c_respects S.sub n_ an_ cn_ _q1 _q2 times atimes ctimes _q3 _q4 ))) rfl rfl rfl ?_
  refine .v (mv rfl) rfl rfl rfl ?_
  refine .v (ext rfl rfl) rfl rfl rfl ?_
  refine .v (ext rfl rfl) rfl rfl rfl ?_
  refine al tZ27 rfl (fun pf => ?_)
  refine .v (asg rfl) rfl rfl rfl ?_
  refine st (p := pf) (off := 0) (k := 0) (vs := [.int .i64 r2.2.code, .int .i64 r2.2.index]) rfl rfl rfl (fun w => (tA27 w).2) rfl rfl rfl rfl ?_
  refine .cast (A' := [Box pf [.int .i64 r2.2.code, .int .i64 r2.2.index], Box pn [.int .i64 n_.events, .slice an_ n_.links.length cn_]]) rfl ?_
  refine .nil ?_
  refine .seqN ?_
  refine .seq ?_
  refine .share (σ := Bool) (fun z => F_lawEarliestIsLeast_J1 n_ times K z) (fun z => [(1, .slice atimes times.length ctimes), (2, .pointer (some pn)), (23, .bool z)]) (fun _ => [Box pn [.int .i64 n_.events, .slice an_ n_.links.length cn_]]) (fun _ => h) ?_ (fun q7 => ?_)
  · rintro t23 hF
    show J _ _ _ _ _ [(1, .slice atimes times.length ctimes), (2, .pointer (some pn)), (23, .bool t23)] [Box pn [.int .i64 n_.events, .slice an_ n_.links.length cn_]] h
    refine .cond rfl (fun q8 => ?_) (fun q8 => ?_)
    · replace hF := hF.1 q8
      refine .seq ?_
      refine .region ?_
      obtain ⟨r3, q9⟩ : ∃ y_ : Bool, y_ = sp_bounded := ⟨_, rfl⟩
      replace hF := hF r3 q9
      refine .c (cl (v := .bool r3) Try.call17 rfl rfl (fun w S => (by rw [q9]; exact c_bounded S.sub  ))) rfl rfl rfl ?_
      refine .v (asg rfl) rfl rfl rfl ?_
      refine .nil ?_
      refine .seqN ?_
      refine .ret ?_
      refine .seqR ?_
      refine .res1 rfl (rvT rfl) (fun w' S => ⟨r3, hF, rfl, S.below⟩)
    replace hF := hF.2 q8
    refine .skip ?_
    refine .seqN ?_
    refine .seq ?_
    refine .region ?_
    refine .v (ldA (cs := [.int .i64 n_.events, .slice an_ n_.links.length cn_]) rfl tA24 rfl (cellsB (off := 0) (k := 0) rfl (m := 2) rfl)) rfl rfl rfl ?_
    obtain ⟨r4, q10⟩ : ∃ y_ : List Int × Bool × Fault, y_ = sp_earliest n_ := ⟨_, rfl⟩
    replace hF := hF r4 q10
    refine clR (α := Option Addr × Nat) (Φ := fun h1 z => RSl h1 z.1 r4.1 ∧ r4.1.length ≤ z.2) (V := fun z => .tuple #[.slice z.1 r4.1.length z.2, .bool r4.2.1, .agg #[.int .i64 r4.2.2.code, .int .i64 r4.2.2.index]]) Try.call19 rfl rfl (fun w S => (by rw [q10]; exact c_earliest S.sub n_ an_ cn_ _q1 _q2 )) rfl (fun z h1 le1 hz => ?_)
    obtain ⟨a, c⟩ := z
    obtain ⟨q11, q12⟩ := hz
    refine .v (mv rfl) rfl rfl rfl ?_
    refine .v (ext rfl rfl) rfl rfl rfl ?_
    refine .v (ext rfl rfl) rfl rfl rfl ?_
    refine .v (ext rfl rfl) rfl rfl rfl ?_
    refine al tZ27 rfl (fun pg => ?_)
    refine .v (asg rfl) rfl rfl rfl ?_
    refine .v (asg rfl) rfl rfl rfl ?_
    refine st (p := pg) (off := 0) (k := 0) (vs := [.int .i64 r4.2.2.code, .int .i64 r4.2.2.index]) rfl rfl rfl (fun w => (tA27 w).2) rfl rfl rfl rfl ?_
    refine .cast (A' := [Box pg [.int .i64 r4.2.2.code, .int .i64 r4.2.2.index], Box pn [.int .i64 n_.events, .slice an_ n_.links.length cn_]]) rfl ?_
    refine .nil ?_
    refine .seqN ?_
    refine .seq ?_
    refine .share (σ := Bool) (fun z => F_lawEarliestIsLeast_J2 times K r4 z) (fun z => [(1, .slice atimes times.length ctimes), (7, .slice a r4.1.length c), (44, .bool z)]) (fun _ => []) (fun _ => h1) ?_ (fun q15 => ?_)
    · rintro t44 hF
      show J _ _ _ _ _ [(1, .slice atimes times.length ctimes), (7, .slice a r4.1.length c), (44, .bool t44)] [] h1
      refine .cond rfl (fun q16 => ?_) (fun q16 => ?_)
      · replace hF := hF.1 q16
        refine .seq ?_
        refine .region ?_
        refine .v (asg rfl) rfl rfl rfl ?_
        refine .nil ?_
        refine .seqN ?_
        refine .ret ?_
        refine .seqR ?_
        refine .res1 rfl (rvT rfl) (fun w' S => ⟨false, hF, rfl, S.below⟩)
      replace hF := hF.2 q16
      refine .skip ?_
      refine .seqN ?_
      refine .seq ?_
      refine .seq ?_
      refine .region ?_
      refine .v (asg rfl) rfl rfl rfl ?_
      refine .nil ?_
      refine .seqN ?_
      refine .block ?_
      obtain ⟨I1, μ1, q31, q32⟩ := hF
      refine .loop' (σ := Int) (fun z => I1 z) (fun z => μ1 z) (fun z => [(1, .slice atimes times.length ctimes), (7, .slice a r4.1.length c), (10, .int .i64 z)]) (fun _ => []) (fun _ => h1) 0 q31 (.cons rfl (.cons rfl (.cons rfl (.nil)))) rfl (FH.le_refl _) ?_
      rintro i q31
      have hF := q32 i q31
      show J _ _ _ _ _ [(1, .slice atimes times.length ctimes), (7, .slice a r4.1.length c), (10, .int .i64 i)] [] h1
      refine .seq ?_
      refine .seq ?_
      refine .region ?_
      refine .v (mv rfl) rfl rfl rfl ?_
      refine .v (mv rfl) rfl rfl rfl ?_
      refine .v (ln rfl tS32.is) rfl rfl rfl ?_
      refine .v (bi rfl rfl rfl) rfl rfl rfl ?_
      refine .nil ?_
      refine .seqN ?_
      refine .cond rfl (fun q33 => ?_) (fun q33 => ?_)
      · replace hF := hF.1 q33
        refine .skip ?_
        refine .seqN ?_
        refine .seq ?_
        refine .block ?_
        refine .seq ?_
        refine .open_ (by kernel_rfl) (by kernel_rfl) ?_
        refine .v (mv rfl) rfl rfl rfl ?_
        refine .v (mv rfl) rfl rfl rfl ?_
        obtain ⟨q37, hF⟩ := hF
        refine .v (ix rfl rfl tS32 (q11.ne (by decide) (inb_pos q37)) q37) rfl rfl rfl ?_
        refine .v (ld1 (v := .int .i64 (gt r4.1 i)) rfl tO3 (cellH (q11.elemF q37 (by decide) 0 _ rfl))) rfl rfl rfl ?_
        refine .v (mv rfl) rfl rfl rfl ?_
        refine .v (mv rfl) rfl rfl rfl ?_
        obtain ⟨q38, hF⟩ := hF
        refine .v (ix rfl rfl tS32 (_q3.ne (by decide) (inb_pos q38)) q38) rfl rfl rfl ?_
        refine .v (ld1 (v := .int .i64 (gt times i)) rfl tO3 (cellH ((_q3.mono (le1)).elemF q38 (by decide) 0 _ rfl))) rfl rfl rfl ?_
        refine .v (bi rfl rfl rfl) rfl rfl rfl ?_
        refine .fin ?_
        refine .seqN ?_
        refine .cond rfl (fun q39 => ?_) (fun q39 => ?_)
        · replace hF := hF.1 q39
          refine .seq ?_
          refine .region ?_
          refine .v (asg rfl) rfl rfl rfl ?_
          refine .nil ?_
          refine .seqN ?_
          refine .ret ?_
          refine .blkR ?_
          refine .seqR ?_
          refine .seqR ?_
          refine .blkR ?_
          refine .seqR ?_
          refine .res1 rfl (rvT rfl) (fun w' S => ⟨false, hF, rfl, S.below⟩)
        replace hF := hF.2 q39
        refine .skip ?_
        refine .blkN ?_
        refine .seqN ?_
        refine .region ?_
        refine .v (mv rfl) rfl rfl rfl ?_
        refine .v (bi rfl rfl rfl) rfl rfl rfl ?_
        refine .v (asg rfl) rfl rfl rfl ?_
        refine .nil ?_
        exact .round (IntKind.i64.wrap (i + 1)) hF.1 hF.2 (.cons rfl (.cons rfl (.cons rfl (.nil)))) rfl (FH.le_refl _)
      replace hF := hF.2 q33
      refine .exit ?_
      refine .seqX ?_
      refine .seqX ?_
      refine .blkX ?_
      refine .seqN ?_
      refine .seq ?_
      refine .region ?_
      obtain ⟨r5, q40⟩ : ∃ y_ : Bool, y_ = sp_bounded := ⟨_, rfl⟩
      replace hF := hF r5 q40
      refine .c (cl (v := .bool r5) Try.call17 rfl rfl (fun w S => (by rw [q40]; exact c_bounded S.sub  ))) rfl rfl rfl ?_
      refine .v (asg rfl) rfl rfl rfl ?_
      refine .nil ?_
      refine .seqN ?_
      refine .ret ?_
      refine .res1 rfl (rvT rfl) (fun w' S => ⟨r5, hF, rfl, S.below⟩)
    refine .region ?_
    refine .v (fa rfl tF27_0) rfl rfl rfl ?_
    refine .v (ld1 rfl tO3 (cellB (off := 0) (k := 0) rfl rfl)) rfl rfl rfl ?_
    refine .v (bi rfl rfl rfl) rfl rfl rfl ?_
    refine .v (mv rfl) rfl rfl rfl ?_
    rcases Bool.eq_false_or_eq_true (r4.2.2.code != 0) with q41 | q41
    · replace hF := hF.1 q41
      refine .gS rfl rfl rfl q41 rfl rfl ?_
      refine .gS rfl rfl rfl q41 rfl rfl ?_
      refine .v (pkT rfl q41 rfl) rfl rfl rfl ?_
      refine .v (mv rfl) rfl rfl rfl ?_
      refine .gS rfl rfl rfl rfl rfl rfl ?_
      refine .gS rfl rfl rfl rfl rfl rfl ?_
      refine .gS rfl rfl rfl rfl rfl rfl ?_
      refine .gS rfl rfl rfl rfl rfl rfl ?_
      refine .gS rfl rfl rfl rfl rfl rfl ?_
      refine .v (pkT rfl rfl rfl) rfl rfl rfl ?_
      refine .nil ?_
      refine .sel0 [] (by decide) rfl ?_
      exact .use q15 true hF (.cons rfl (.cons rfl (.cons rfl (.nil)))) rfl (FH.le_refl _)
    replace hF := hF.2 q41
    refine .gv (mv rfl) rfl rfl rfl q41 rfl rfl ?_
    refine .gv (nt rfl) rfl rfl rfl q41 rfl rfl ?_
    refine .v (pkF rfl q41 rfl) rfl rfl rfl ?_
    refine .v (mv rfl) rfl rfl rfl ?_
    rcases Bool.eq_false_or_eq_true (!r4.2.1) with q42 | q42
    · replace hF := hF.1 q42
      refine .gS rfl rfl rfl q42 rfl rfl ?_
      refine .gS rfl rfl rfl q42 rfl rfl ?_
      refine .gS rfl rfl rfl q42 rfl rfl ?_
      refine .gS rfl rfl rfl q42 rfl rfl ?_
      refine .gS rfl rfl rfl q42 rfl rfl ?_
      refine .v (pkT rfl q42 rfl) rfl rfl rfl ?_
      refine .nil ?_
      refine .sel0 [] (by decide) rfl ?_
      exact .use q15 true hF (.cons rfl (.cons rfl (.cons rfl (.nil)))) rfl (FH.le_refl _)
    replace hF := hF.2 q42
    refine .gv (mv rfl) rfl rfl rfl q42 rfl rfl ?_
    refine .gv (ln rfl tS32.is) rfl rfl rfl q42 rfl rfl ?_
    refine .gv (mv rfl) rfl rfl rfl q42 rfl rfl ?_
    refine .gv (ln rfl tS32.is) rfl rfl rfl q42 rfl rfl ?_
    refine .gv (bi rfl rfl rfl) rfl rfl rfl q42 rfl rfl ?_
    refine .v (pkF rfl q42 rfl) rfl rfl rfl ?_
    refine .nil ?_
    refine .sel0 [] (by decide) rfl ?_
    exact .use q15 (((r4.1.length : Nat) : Int) != ((times.length : Nat) : Int)) hF (.cons rfl (.cons rfl (.cons rfl (.nil)))) rfl (FH.le_refl _)
  refine .region ?_
  refine .v (fa rfl tF27_0) rfl rfl rfl ?_
  refine .v (ld1 rfl tO3 (cellB (off := 0) (k := 0) rfl rfl)) rfl rfl rfl ?_
  refine .v (bi rfl rfl rfl) rfl rfl rfl ?_
  refine .v (mv rfl) rfl rfl rfl ?_
  rcases Bool.eq_false_or_eq_true (r2.2.code != 0) with q43 | q43
  · replace hF := hF.1 q43
    refine .gS rfl rfl rfl q43 rfl rfl ?_
    refine .gS rfl rfl rfl q43 rfl rfl ?_
    refine .v (pkT rfl q43 rfl) rfl rfl rfl ?_
    refine .nil ?_
    refine .sel0 [1] (by decide) rfl ?_
    exact .use q7 true hF (.cons rfl (.cons rfl (.cons rfl (.nil)))) rfl (FH.le_refl _)
  replace hF := hF.2 q43
  refine .gv (mv rfl) rfl rfl rfl q43 rfl rfl ?_
  refine .gv (nt rfl) rfl rfl rfl q43 rfl rfl ?_
  refine .v (pkF rfl q43 rfl) rfl rfl rfl ?_
  refine .nil ?_
  refine .sel0 [1] (by decide) rfl ?_
  exact .use q7 (!r2.1) hF (.cons rfl (.cons rfl (.cons rfl (.nil)))) rfl (FH.le_refl _)

theorem c_lawEarliestIsLeast {h : FH} {w : World} (hs : Sub h w) (n_ : Network) (an_ : Option Addr) (cn_ : Nat) (_q1 : RSl h an_ n_.links) (_q2 : n_.links.length ≤ cn_) (times : List Int) (atimes : Option Addr) (ctimes : Nat) (_q3 : RSl h atimes times) (_q4 : times.length ≤ ctimes) : Calls Try.prog 6 #[.agg #[.int .i64 n_.events, .slice an_ n_.links.length cn_], .slice atimes times.length ctimes] w fun e w' => e = .returned (.bool (sp_lawEarliestIsLeast n_ times)) ∧ Below w.heap.size w w' :=
  (w_lawEarliestIsLeast hs n_ an_ cn_ _q1 _q2 times atimes ctimes _q3 _q4 (fun r => r = sp_lawEarliestIsLeast n_ times) (ok_lawEarliestIsLeast n_ times)).mono fun _ _ ⟨_, hk, he, hb⟩ => ⟨by rw [he, hk], hb⟩

theorem w_isSchedule {h : FH} {w : World} (hs : Sub h w) (n_ : Network) (an_ : Option Addr) (cn_ : Nat) (_q1 : RSl h an_ n_.links) (_q2 : n_.links.length ≤ cn_) (times : List Int) (atimes : Option Addr) (ctimes : Nat) (_q3 : RSl h atimes times) (_q4 : times.length ≤ ctimes) (K : Bool → Prop) (hF : F_isSchedule n_ times K) : Calls Try.prog 26 #[.agg #[.int .i64 n_.events, .slice an_ n_.links.length cn_], .slice atimes times.length ctimes] w fun e w' => ∃ r : Bool, K r ∧ e = .returned (.bool r) ∧ Below w.heap.size w w' := by
  refine enter (args := [.agg #[.int .i64 n_.events, .slice an_ n_.links.length cn_], .slice atimes times.length ctimes]) Try.func26 rfl Try.ntmps26 rfl hs ?_
  refine .seq ?_
  refine .region ?_
  refine bx (vs := [.int .i64 n_.events, .slice an_ n_.links.length cn_]) rfl rfl rfl (fun pn => ?_)
  refine .v (asg rfl) rfl rfl rfl ?_
  refine .nil ?_
  refine .seqN ?_
  refine .seq ?_
  refine .seq ?_
  refine .region ?_
  refine .v (asg rfl) rfl rfl rfl ?_
  refine .nil ?_
  refine .seqN ?_
  refine .block ?_
  obtain ⟨I1, μ1, q47, q48⟩ := hF
  refine .loop' (σ := Int) (fun z => I1 z) (fun z => μ1 z) (fun z => [(1, .slice atimes times.length ctimes), (2, .pointer (some pn)), (5, .int .i64 z)]) (fun _ => [Box pn [.int .i64 n_.events, .slice an_ n_.links.length cn_]]) (fun _ => h) 0 q47 (.cons rfl (.cons rfl (.cons rfl (.nil)))) rfl (FH.le_refl _) ?_
  rintro i q47
  have hF := q48 i q47
  show J _ _ _ _ _ [(1, .slice atimes times.length ctimes), (2, .pointer (some pn)), (5, .int .i64 i)] [Box pn [.int .i64 n_.events, .slice an_ n_.links.length cn_]] h
  refine .seq ?_
  refine .seq ?_
  refine .region ?_
  refine .v (mv rfl) rfl rfl rfl ?_
  refine .v (mv rfl) rfl rfl rfl ?_
  refine .v (ln rfl tS32.is) rfl rfl rfl ?_
  refine .v (bi rfl rfl rfl) rfl rfl rfl ?_
  refine .nil ?_
  refine .seqN ?_
  refine .cond rfl (fun q50 => ?_) (fun q50 => ?_)
  · replace hF := hF.1 q50
    refine .skip ?_
    refine .seqN ?_
    refine .seq ?_
    refine .block ?_
    refine .seq ?_
    refine .region ?_
    refine .v (mv rfl) rfl rfl rfl ?_
    refine .v (mv rfl) rfl rfl rfl ?_
    obtain ⟨q55, hF⟩ := hF
    refine .v (ix rfl rfl tS32 (_q3.ne (by decide) (inb_pos q55)) q55) rfl rfl rfl ?_
    refine .v (ld1 (v := .int .i64 (gt times i)) rfl tO3 (cellH (_q3.elemF q55 (by decide) 0 _ rfl))) rfl rfl rfl ?_
    refine .v (bi rfl rfl rfl) rfl rfl rfl ?_
    refine .nil ?_
    refine .seqN ?_
    refine .cond rfl (fun q56 => ?_) (fun q56 => ?_)
    · replace hF := hF.1 q56
      refine .seq ?_
      refine .region ?_
      refine .v (asg rfl) rfl rfl rfl ?_
      refine .nil ?_
      refine .seqN ?_
      refine .ret ?_
      refine .blkR ?_
      refine .seqR ?_
      refine .seqR ?_
      refine .blkR ?_
      refine .seqR ?_
      refine .res1 rfl (rvT rfl) (fun w' S => ⟨false, hF, rfl, S.below⟩)
    replace hF := hF.2 q56
    refine .skip ?_
    refine .blkN ?_
    refine .seqN ?_
    refine .region ?_
    refine .v (mv rfl) rfl rfl rfl ?_
    refine .v (bi rfl rfl rfl) rfl rfl rfl ?_
    refine .v (asg rfl) rfl rfl rfl ?_
    refine .nil ?_
    exact .round (IntKind.i64.wrap (i + 1)) hF.1 hF.2 (.cons rfl (.cons rfl (.cons rfl (.nil)))) rfl (FH.le_refl _)
  replace hF := hF.2 q50
  refine .exit ?_
  refine .seqX ?_
  refine .seqX ?_
  refine .blkX ?_
  refine .seqN ?_
  refine .seq ?_
  refine .seq ?_
  refine .region ?_
  refine .v (asg rfl) rfl rfl rfl ?_
  refine .nil ?_
  refine .seqN ?_
  refine .block ?_
  obtain ⟨I2, μ2, q159, q160⟩ := hF
  refine .loop' (σ := Int) (fun z => I2 z) (fun z => μ2 z) (fun z => [(1, .slice atimes times.length ctimes), (2, .pointer (some pn)), (6, .int .i64 z)]) (fun _ => [Box pn [.int .i64 n_.events, .slice an_ n_.links.length cn_]]) (fun _ => h) 0 q159 (.cons rfl (.cons rfl (.cons rfl (.nil)))) rfl (FH.le_refl _) ?_
  rintro k q159
  have hF := q160 k q159
  show J _ _ _ _ _ [(1, .slice atimes times.length ctimes), (2, .pointer (some pn)), (6, .int .i64 k)] [Box pn [.int .i64 n_.events, .slice an_ n_.links.length cn_]] h
  refine .seq ?_
  refine .seq ?_
  refine .region ?_
  refine .v (mv rfl) rfl rfl rfl ?_
  refine .v (fa rfl tF24_1) rfl rfl rfl ?_
  refine .v (ld1 rfl tO22 (cellB (off := 1) (k := 0) rfl rfl)) rfl rfl rfl ?_
  refine .v (ln rfl tS22.is) rfl rfl rfl ?_
  refine .v (bi rfl rfl rfl) rfl rfl rfl ?_
  refine .nil ?_
  refine .seqN ?_
  refine .cond rfl (fun q162 => ?_) (fun q162 => ?_)
  · replace hF := hF.1 q162
    refine .skip ?_
    refine .seqN ?_
    refine .seq ?_
    refine .block ?_
    refine .seq ?_
    refine .region ?_
    refine .v (fa rfl tF24_1) rfl rfl rfl ?_
    refine .v (ld1 rfl tO22 (cellB (off := 1) (k := 0) rfl rfl)) rfl rfl rfl ?_
    refine .v (mv rfl) rfl rfl rfl ?_
    obtain ⟨q175, hF⟩ := hF
    refine .v (ix rfl rfl tS22 (_q1.ne (by decide) (inb_pos q175)) q175) rfl rfl rfl ?_
    refine .v (ldA (cs := [.int .i64 ((gt n_.links k).src), .int .i64 ((gt n_.links k).dst), .int .i64 ((gt n_.links k).low), .int .i64 ((gt n_.links k).high)]) rfl tA35 rfl (cellsH (_q1.elemF q175 (by decide)))) rfl rfl rfl ?_
    refine al tZ35 rfl (fun pl => ?_)
    refine st (p := pl) (off := 0) (k := 0) (vs := [.int .i64 ((gt n_.links k).src), .int .i64 ((gt n_.links k).dst), .int .i64 ((gt n_.links k).low), .int .i64 ((gt n_.links k).high)]) rfl rfl rfl (fun w => (tA35 w).2) rfl rfl rfl rfl ?_
    refine .cast (A' := [Box pl [.int .i64 ((gt n_.links k).src), .int .i64 ((gt n_.links k).dst), .int .i64 ((gt n_.links k).low), .int .i64 ((gt n_.links k).high)], Box pn [.int .i64 n_.events, .slice an_ n_.links.length cn_]]) rfl ?_
    refine .nil ?_
    refine .seqN ?_
    refine .seq ?_
    refine .open_ (by kernel_rfl) (by kernel_rfl) ?_
    refine .v (mv rfl) rfl rfl rfl ?_
    refine .v (fa rfl tF35_1) rfl rfl rfl ?_
    refine .v (ld1 rfl tO3 (cellB (off := 1) (k := 0) rfl rfl)) rfl rfl rfl ?_
    obtain ⟨q176, hF⟩ := hF
    refine .v (ix rfl rfl tS32 (_q3.ne (by decide) (inb_pos q176)) q176) rfl rfl rfl ?_
    refine .v (ld1 (v := .int .i64 (gt times ((gt n_.links k).dst))) rfl tO3 (cellH (_q3.elemF q176 (by decide) 0 _ rfl))) rfl rfl rfl ?_
    refine .v (mv rfl) rfl rfl rfl ?_
    refine .v (fa rfl tF35_0) rfl rfl rfl ?_
    refine .v (ld1 rfl tO3 (cellB (off := 0) (k := 0) rfl rfl)) rfl rfl rfl ?_
    obtain ⟨q177, hF⟩ := hF
    refine .v (ix rfl rfl tS32 (_q3.ne (by decide) (inb_pos q177)) q177) rfl rfl rfl ?_
    refine .v (ld1 (v := .int .i64 (gt times ((gt n_.links k).src))) rfl tO3 (cellH (_q3.elemF q177 (by decide) 0 _ rfl))) rfl rfl rfl ?_
    obtain ⟨x, q178⟩ : ∃ y_ : Int, y_ = (IntKind.i64.wrap ((gt times ((gt n_.links k).dst)) - (gt times ((gt n_.links k).src)))) := ⟨_, rfl⟩
    replace hF := hF x q178
    refine .v (v := .int .i64 x) (by rw [q178]; exact bi rfl rfl rfl) rfl rfl rfl ?_
    refine .v (fa rfl tF35_2) rfl rfl rfl ?_
    refine .v (ld1 rfl tO3 (cellB (off := 2) (k := 0) rfl rfl)) rfl rfl rfl ?_
    refine .v (fa rfl tF35_3) rfl rfl rfl ?_
    refine .v (ld1 rfl tO3 (cellB (off := 3) (k := 0) rfl rfl)) rfl rfl rfl ?_
    obtain ⟨r2, q179⟩ : ∃ y_ : Bool, y_ = sp_in_ x ((gt n_.links k).low) ((gt n_.links k).high) := ⟨_, rfl⟩
    replace hF := hF r2 q179
    refine .c (cl (v := .bool r2) Try.call16 rfl rfl (fun w S => (by rw [q179]; exact c_in_ S.sub x ((gt n_.links k).low) ((gt n_.links k).high) ))) rfl rfl rfl ?_
    refine .v (nt rfl) rfl rfl rfl ?_
    refine .fin ?_
    refine .seqN ?_
    refine .cond rfl (fun q180 => ?_) (fun q180 => ?_)
    · replace hF := hF.1 q180
      refine .seq ?_
      refine .region ?_
      refine .v (asg rfl) rfl rfl rfl ?_
      refine .nil ?_
      refine .seqN ?_
      refine .ret ?_
      refine .blkR ?_
      refine .seqR ?_
      refine .seqR ?_
      refine .blkR ?_
      refine .seqR ?_
      refine .res1 rfl (rvT rfl) (fun w' S => ⟨false, hF, rfl, S.below⟩)
    replace hF := hF.2 q180
    refine .skip ?_
    refine .blkN ?_
    refine .seqN ?_
    refine .region ?_
    refine .v (mv rfl) rfl rfl rfl ?_
    refine .v (bi rfl rfl rfl) rfl rfl rfl ?_
    refine .v (asg rfl) rfl rfl rfl ?_
    refine .nil ?_
    refine .sel0 [1] (by decide) rfl ?_
    exact .round (IntKind.i64.wrap (k + 1)) hF.1 hF.2 (.cons rfl (.cons rfl (.cons rfl (.nil)))) rfl (FH.le_refl _)
  replace hF := hF.2 q162
  refine .exit ?_
  refine .seqX ?_
  refine .seqX ?_
  refine .blkX ?_
  refine .seqN ?_
  refine .seq ?_
  refine .region ?_
  refine .v (mv rfl) rfl rfl rfl ?_
  obtain ⟨q181, hF⟩ := hF
  refine .v (ix rfl rfl tS32 (_q3.ne (by decide) (inb_pos q181)) q181) rfl rfl rfl ?_
  refine .v (ld1 (v := .int .i64 (gt times (0 : Int))) rfl tO3 (cellH (_q3.elemF q181 (by decide) 0 _ rfl))) rfl rfl rfl ?_
  refine .v (bi rfl rfl rfl) rfl rfl rfl ?_
  refine .v (asg rfl) rfl rfl rfl ?_
  refine .nil ?_
  refine .seqN ?_
  refine .ret ?_
  refine .res1 rfl (rvT rfl) (fun w' S => ⟨(gt times (0 : Int)) == 0, hF, rfl, S.below⟩)

theorem c_isSchedule {h : FH} {w : World} (hs : Sub h w) (n_ : Network) (an_ : Option Addr) (cn_ : Nat) (_q1 : RSl h an_ n_.links) (_q2 : n_.links.length ≤ cn_) (times : List Int) (atimes : Option Addr) (ctimes : Nat) (_q3 : RSl h atimes times) (_q4 : times.length ≤ ctimes) (hp : pre_isSchedule n_ times) : Calls Try.prog 26 #[.agg #[.int .i64 n_.events, .slice an_ n_.links.length cn_], .slice atimes times.length ctimes] w fun e w' => e = .returned (.bool (sp_isSchedule n_ times)) ∧ Below w.heap.size w w' :=
  (w_isSchedule hs n_ an_ cn_ _q1 _q2 times atimes ctimes _q3 _q4 (fun r => r = sp_isSchedule n_ times) (ok_isSchedule n_ times hp)).mono fun _ _ ⟨_, hk, he, hb⟩ => ⟨by rw [he, hk], hb⟩

set_option maxHeartbeats 8000000 in
theorem w_negative {h : FH} {w : World} (hs : Sub h w) (n_ : Network) (an_ : Option Addr) (cn_ : Nat) (_q1 : RSl h an_ n_.links) (_q2 : n_.links.length ≤ cn_) (cycle : List Int) (acycle : Option Addr) (ccycle : Nat) (_q3 : RSl h acycle cycle) (_q4 : cycle.length ≤ ccycle) (K : (Bool × Fault) → Prop) (hF : F_negative n_ cycle K) : Calls Try.prog 21 #[.agg #[.int .i64 n_.events, .slice an_ n_.links.length cn_], .slice acycle cycle.length ccycle] w fun e w' => ∃ r : Bool × Fault, K r ∧ e = .returned (.tuple #[.bool r.1, .agg #[.int .i64 r.2.code, .int .i64 r.2.index]]) ∧ Below w.heap.size w w' := by
  refine enter (args := [.agg #[.int .i64 n_.events, .slice an_ n_.links.length cn_], .slice acycle cycle.length ccycle]) Try.func21 rfl Try.ntmps21 rfl hs ?_
  refine .seq ?_
  refine .region ?_
  refine bx (vs := [.int .i64 n_.events, .slice an_ n_.links.length cn_]) rfl rfl rfl (fun pn => ?_)
  refine .v (asg rfl) rfl rfl rfl ?_
  refine al tZ27 rfl (fun pv => ?_)
  refine .nil ?_
  refine .seqN ?_
  refine .seq ?_
  refine .seq ?_
  refine .region ?_
  refine .v (ldA (cs := [.int .i64 n_.events, .slice an_ n_.links.length cn_]) rfl tA24 rfl (cellsB (off := 0) (k := 1) rfl (m := 2) rfl)) rfl rfl rfl ?_
  obtain ⟨r2, q5⟩ : ∃ y_ : Fault, y_ = sp_validate n_ := ⟨_, rfl⟩
  replace hF := hF r2 q5
  refine .c (cl (v := .agg #[.int .i64 r2.code, .int .i64 r2.index]) Try.call22 rfl rfl (fun w S => (by rw [q5]; exact c_validate S.sub n_ an_ cn_ _q1 _q2 ))) rfl rfl rfl ?_
  refine al tZ27 rfl (fun pf => ?_)
  refine st (p := pf) (off := 0) (k := 0) (vs := [.int .i64 r2.code, .int .i64 r2.index]) rfl rfl rfl (fun w => (tA27 w).2) rfl rfl rfl rfl ?_
  refine .cast (A' := [Box pf [.int .i64 r2.code, .int .i64 r2.index], Box pv [.int .i64 0, .int .i64 0], Box pn [.int .i64 n_.events, .slice an_ n_.links.length cn_]]) rfl ?_
  refine .nil ?_
  refine .seqN ?_
  refine .seq ?_
  refine .region ?_
  refine .v (ldA (cs := [.int .i64 r2.code, .int .i64 r2.index]) rfl tA27 rfl (cellsB (off := 0) (k := 0) rfl (m := 2) rfl)) rfl rfl rfl ?_
  refine .v (bld (cs := #[.int .i64 0, .int .i64 0]) (pv := []) tB27 rfl rfl) rfl rfl rfl ?_
  refine .v (ne2 tE27 rfl rfl) rfl rfl rfl ?_
  refine .nil ?_
  refine .seqN ?_
  refine .cond rfl (fun q7 => ?_) (fun q7 => ?_)
  · replace hF := hF.1 q7
    refine .seq ?_
    refine .openL (by kernel_rfl) rfl (by kernel_rfl) (by kernel_rfl) ?_
    refine .v (ldA (cs := [.int .i64 r2.code, .int .i64 r2.index]) rfl tA27 rfl (cellsB (off := 0) (k := 0) rfl (m := 2) rfl)) rfl rfl rfl ?_
    refine .v (asg rfl) rfl rfl rfl ?_
    refine .tail ?_
    refine st (p := pv) (off := 0) (k := 1) (vs := [.int .i64 r2.code, .int .i64 r2.index]) rfl rfl rfl (fun w => (tA27 w).2) rfl rfl rfl rfl ?_
    refine .cast (A' := [Box pf [.int .i64 r2.code, .int .i64 r2.index], Box pv [.int .i64 r2.code, .int .i64 r2.index], Box pn [.int .i64 n_.events, .slice an_ n_.links.length cn_]]) rfl ?_
    refine .nil ?_
    refine .seqN ?_
    refine .ret ?_
    refine .seqR ?_
    refine .res2 rfl (rvT rfl) (rvC rfl tA27 (k := 1) rfl rfl) (fun w' S => ⟨(false, r2), hF, rfl, S.below⟩)
  replace hF := hF.2 q7
  refine .skip ?_
  refine .seqN ?_
  refine .seq ?_
  refine .share (σ := Bool) (fun z => F_negative_J1 n_ cycle K z) (fun z => [(1, .slice acycle cycle.length ccycle), (2, .pointer (some pn)), (5, .pointer (some pv)), (27, .bool z)]) (fun _ => [Box pn [.int .i64 n_.events, .slice an_ n_.links.length cn_], Box pv [.int .i64 0, .int .i64 0]]) (fun _ => h) ?_ (fun q9 => ?_)
  · rintro t27 hF
    show J _ _ _ _ _ [(1, .slice acycle cycle.length ccycle), (2, .pointer (some pn)), (5, .pointer (some pv)), (27, .bool t27)] [Box pn [.int .i64 n_.events, .slice an_ n_.links.length cn_], Box pv [.int .i64 0, .int .i64 0]] h
    refine .cond rfl (fun q11 => ?_) (fun q11 => ?_)
    · replace hF := hF.1 q11
      refine .seq ?_
      refine .region ?_
      refine .v (bld (cs := #[.int .i64 9, .int .i64 (-2)]) (pv := [(0, .int .i64 9), (1, .int .i64 (-2))]) tB27 rfl rfl) rfl rfl rfl ?_
      refine .v (asg rfl) rfl rfl rfl ?_
      refine st (p := pv) (off := 0) (k := 1) (vs := [.int .i64 9, .int .i64 (-2)]) rfl rfl rfl (fun w => (tA27 w).2) rfl rfl rfl rfl ?_
      refine .cast (A' := [Box pn [.int .i64 n_.events, .slice an_ n_.links.length cn_], Box pv [.int .i64 9, .int .i64 (-2)]]) rfl ?_
      refine .nil ?_
      refine .seqN ?_
      refine .ret ?_
      refine .seqR ?_
      refine .res2 rfl (rvT rfl) (rvC rfl tA27 (k := 1) rfl rfl) (fun w' S => ⟨(false, (⟨9, (-2)⟩ : Fault)), hF, rfl, S.below⟩)
    replace hF := hF.2 q11
    refine .skip ?_
    refine .seqN ?_
    refine .seq ?_
    refine .seq ?_
    refine .region ?_
    refine .v (mv rfl) rfl rfl rfl ?_
    refine .v (ln rfl tS32.is) rfl rfl rfl ?_
    refine .v (mv rfl) rfl rfl rfl ?_
    refine .nil ?_
    refine .seqN ?_
    refine .block ?_
    obtain ⟨I1, μ1, q104, q105⟩ := hF
    refine .loop' (σ := Int) (fun z => I1 z) (fun z => μ1 z) (fun z => [(1, .slice acycle cycle.length ccycle), (2, .pointer (some pn)), (5, .pointer (some pv)), (29, .slice acycle cycle.length ccycle), (30, .int .i64 ((cycle.length : Nat) : Int)), (31, .int .i64 z)]) (fun _ => [Box pn [.int .i64 n_.events, .slice an_ n_.links.length cn_], Box pv [.int .i64 0, .int .i64 0]]) (fun _ => h) 0 q104 (.cons rfl (.cons rfl (.cons rfl (.cons rfl (.cons rfl (.cons rfl (.nil))))))) rfl (FH.le_refl _) ?_
    rintro t31 q104
    have hF := q105 t31 q104
    show J _ _ _ _ _ [(1, .slice acycle cycle.length ccycle), (2, .pointer (some pn)), (5, .pointer (some pv)), (29, .slice acycle cycle.length ccycle), (30, .int .i64 ((cycle.length : Nat) : Int)), (31, .int .i64 t31)] [Box pn [.int .i64 n_.events, .slice an_ n_.links.length cn_], Box pv [.int .i64 0, .int .i64 0]] h
    refine .seq ?_
    refine .region ?_
    refine .v (bi rfl rfl rfl) rfl rfl rfl ?_
    refine .nil ?_
    refine .seqN ?_
    refine .seq ?_
    refine .cond rfl (fun q108 => ?_) (fun q108 => ?_)
    · replace hF := hF.1 q108
      refine .skip ?_
      refine .seqN ?_
      refine .seq ?_
      refine .block ?_
      refine .seq ?_
      refine .region ?_
      refine .v (mv rfl) rfl rfl rfl ?_
      obtain ⟨q119, hF⟩ := hF
      refine .v (ix rfl rfl tS32 (_q3.ne (by decide) (inb_pos q119)) q119) rfl rfl rfl ?_
      refine .v (ld1 (v := .int .i64 (gt cycle t31)) rfl tO3 (cellH (_q3.elemF q119 (by decide) 0 _ rfl))) rfl rfl rfl ?_
      refine .v (asg rfl) rfl rfl rfl ?_
      refine .v (asg rfl) rfl rfl rfl ?_
      refine .nil ?_
      refine .seqN ?_
      refine .share (σ := Bool) (fun z => F_negative_J2 K z t31 I1 μ1) (fun z => [(1, .slice acycle cycle.length ccycle), (2, .pointer (some pn)), (5, .pointer (some pv)), (7, .int .i64 t31), (29, .slice acycle cycle.length ccycle), (30, .int .i64 ((cycle.length : Nat) : Int)), (31, .int .i64 t31), (43, .bool z)]) (fun _ => [Box pn [.int .i64 n_.events, .slice an_ n_.links.length cn_], Box pv [.int .i64 0, .int .i64 0]]) (fun _ => h) ?_ (fun q121 => ?_)
      · rintro t43 hF
        show J _ _ _ _ _ [(1, .slice acycle cycle.length ccycle), (2, .pointer (some pn)), (5, .pointer (some pv)), (7, .int .i64 t31), (29, .slice acycle cycle.length ccycle), (30, .int .i64 ((cycle.length : Nat) : Int)), (31, .int .i64 t31), (43, .bool t43)] [Box pn [.int .i64 n_.events, .slice an_ n_.links.length cn_], Box pv [.int .i64 0, .int .i64 0]] h
        refine .cond rfl (fun q122 => ?_) (fun q122 => ?_)
        · replace hF := hF.1 q122
          refine .seq ?_
          refine .region ?_
          refine .v (mv rfl) rfl rfl rfl ?_
          refine .v (bi rfl rfl rfl) rfl rfl rfl ?_
          refine .v (bld (cs := #[.int .i64 3, .int .i64 (IntKind.i64.wrap ((-3) - t31))]) (pv := [(0, .int .i64 3), (1, .int .i64 (IntKind.i64.wrap ((-3) - t31)))]) tB27 rfl rfl) rfl rfl rfl ?_
          refine .v (asg rfl) rfl rfl rfl ?_
          refine st (p := pv) (off := 0) (k := 1) (vs := [.int .i64 3, .int .i64 (IntKind.i64.wrap ((-3) - t31))]) rfl rfl rfl (fun w => (tA27 w).2) rfl rfl rfl rfl ?_
          refine .cast (A' := [Box pn [.int .i64 n_.events, .slice an_ n_.links.length cn_], Box pv [.int .i64 3, .int .i64 (IntKind.i64.wrap ((-3) - t31))]]) rfl ?_
          refine .nil ?_
          refine .seqN ?_
          refine .ret ?_
          refine .blkR ?_
          refine .seqR ?_
          refine .seqR ?_
          refine .blkR ?_
          refine .seqR ?_
          refine .res2 rfl (rvT rfl) (rvC rfl tA27 (k := 1) rfl rfl) (fun w' S => ⟨(false, (⟨3, IntKind.i64.wrap ((-3) - t31)⟩ : Fault)), hF, rfl, S.below⟩)
        replace hF := hF.2 q122
        refine .skip ?_
        refine .blkN ?_
        refine .seqN ?_
        refine .region ?_
        refine .v (bi rfl rfl rfl) rfl rfl rfl ?_
        refine .v (mv rfl) rfl rfl rfl ?_
        refine .nil ?_
        exact .round (IntKind.i64.wrap (t31 + 1)) hF.1 hF.2 (.cons rfl (.cons rfl (.cons rfl (.cons rfl (.cons rfl (.cons rfl (.nil))))))) rfl (FH.le_refl _)
      refine .region ?_
      refine .v (mv rfl) rfl rfl rfl ?_
      refine .v (bi rfl rfl rfl) rfl rfl rfl ?_
      refine .v (mv rfl) rfl rfl rfl ?_
      rcases Bool.eq_false_or_eq_true (decide ((gt cycle t31) < 0)) with q123 | q123
      · replace hF := hF.1 q123
        refine .gS rfl rfl rfl q123 rfl rfl ?_
        refine .gS rfl rfl rfl q123 rfl rfl ?_
        refine .gS rfl rfl rfl q123 rfl rfl ?_
        refine .gS rfl rfl rfl q123 rfl rfl ?_
        refine .v (pkT rfl q123 rfl) rfl rfl rfl ?_
        refine .nil ?_
        exact .use q121 true hF (.cons rfl (.cons rfl (.cons rfl (.cons rfl (.cons rfl (.cons rfl (.cons rfl (.cons rfl (.nil))))))))) rfl (FH.le_refl _)
      replace hF := hF.2 q123
      refine .gv (mv rfl) rfl rfl rfl q123 rfl rfl ?_
      refine .gv (fa rfl tF24_0) rfl rfl rfl q123 rfl rfl ?_
      refine .gv (ld1 rfl tO3 (cellB (off := 0) (k := 0) rfl rfl)) rfl rfl rfl q123 rfl rfl ?_
      refine .gv (bi rfl rfl rfl) rfl rfl rfl q123 rfl rfl ?_
      refine .v (pkF rfl q123 rfl) rfl rfl rfl ?_
      refine .nil ?_
      exact .use q121 (decide (n_.events ≤ (gt cycle t31))) hF (.cons rfl (.cons rfl (.cons rfl (.cons rfl (.cons rfl (.cons rfl (.cons rfl (.cons rfl (.nil))))))))) rfl (FH.le_refl _)
    replace hF := hF.2 q108
    refine .exit ?_
    refine .seqX ?_
    refine .seqX ?_
    refine .blkX ?_
    refine .seqN ?_
    refine .seq ?_
    refine .region ?_
    refine .v (ldA (cs := [.int .i64 n_.events, .slice an_ n_.links.length cn_]) rfl tA24 rfl (cellsB (off := 0) (k := 0) rfl (m := 2) rfl)) rfl rfl rfl ?_
    obtain ⟨q124, hF⟩ := hF
    obtain ⟨r3, q125⟩ : ∃ y_ : List (List Int), y_ = sp_bounds n_ := ⟨_, rfl⟩
    replace hF := hF r3 q125
    refine clO (α := Option Addr × Nat × List RowV) (V := fun z => .slice z.1 r3.length z.2.1) (Ψ := fun z => z.2.2.length = r3.length) (B := fun z => OwnSl 32 1 z.1 r3.length z.2.1 (rowsV z.2.2 r3) :: rowsA 3 z.2.2 r3) Try.call49 rfl rfl (fun w S => (by rw [q125]; exact c_bounds S.sub n_ an_ cn_ _q1 _q2 q124)) rfl (fun z q126 => ?_)
    obtain ⟨a, c, vs⟩ := z
    refine .perm ?_
    refine .cast (A' := ([Box pn [.int .i64 n_.events, .slice an_ n_.links.length cn_], Box pv [.int .i64 0, .int .i64 0], OwnSl 32 1 a r3.length c (rowsV vs r3)] ++ rowsA 3 vs r3)) rfl ?_
    refine .v (asg rfl) rfl rfl rfl ?_
    refine .nil ?_
    refine .seqN ?_
    refine .seq ?_
    refine .region ?_
    refine .v (asg rfl) rfl rfl rfl ?_
    refine .nil ?_
    refine .seqN ?_
    refine .seq ?_
    refine .seq ?_
    refine .region ?_
    refine .v (mv rfl) rfl rfl rfl ?_
    refine .v (ln rfl tS32.is) rfl rfl rfl ?_
    refine .v (mv rfl) rfl rfl rfl ?_
    refine .nil ?_
    refine .seqN ?_
    refine .block ?_
    refine .sel (L := [Box pn [.int .i64 n_.events, .slice an_ n_.links.length cn_], Box pv [.int .i64 0, .int .i64 0], OwnSl 32 1 a r3.length c (rowsV vs r3)]) (L' := [Box pv [.int .i64 0, .int .i64 0], OwnSl 32 1 a r3.length c (rowsV vs r3)]) [1, 2] rfl (by decide) rfl rfl ?_
    obtain ⟨I2, μ2, q279, q280⟩ := hF
    refine .loop' (σ := Int × Int) (fun z => I2 z.1 z.2) (fun z => μ2 z.1 z.2) (fun z => [(1, .slice acycle cycle.length ccycle), (5, .pointer (some pv)), (9, .slice a r3.length c), (10, .int .i64 z.1), (50, .slice acycle cycle.length ccycle), (51, .int .i64 ((cycle.length : Nat) : Int)), (52, .int .i64 z.2)]) (fun _ => ([Box pv [.int .i64 0, .int .i64 0], OwnSl 32 1 a r3.length c (rowsV vs r3)] ++ rowsA 3 vs r3)) (fun _ => h) (0, 0) q279 (.cons rfl (.cons rfl (.cons rfl (.cons rfl (.cons rfl (.cons rfl (.cons rfl (.nil)))))))) rfl (FH.le_refl _) ?_
    rintro ⟨sum, t52⟩ q279
    have hF := q280 sum t52 q279
    show J _ _ _ _ _ [(1, .slice acycle cycle.length ccycle), (5, .pointer (some pv)), (9, .slice a r3.length c), (10, .int .i64 sum), (50, .slice acycle cycle.length ccycle), (51, .int .i64 ((cycle.length : Nat) : Int)), (52, .int .i64 t52)] ([Box pv [.int .i64 0, .int .i64 0], OwnSl 32 1 a r3.length c (rowsV vs r3)] ++ rowsA 3 vs r3) h
    refine .seq ?_
    refine .region ?_
    refine .v (bi rfl rfl rfl) rfl rfl rfl ?_
    refine .nil ?_
    refine .seqN ?_
    refine .seq ?_
    refine .cond rfl (fun q283 => ?_) (fun q283 => ?_)
    · replace hF := hF.1 q283
      refine .skip ?_
      refine .seqN ?_
      refine .seq ?_
      refine .block ?_
      refine .seq ?_
      refine .region ?_
      refine .v (mv rfl) rfl rfl rfl ?_
      obtain ⟨q302, hF⟩ := hF
      refine .v (ix rfl rfl tS32 (_q3.ne (by decide) (inb_pos q302)) q302) rfl rfl rfl ?_
      refine .v (ld1 (v := .int .i64 (gt cycle t52)) rfl tO3 (cellH (_q3.elemF q302 (by decide) 0 _ rfl))) rfl rfl rfl ?_
      refine .v (asg rfl) rfl rfl rfl ?_
      refine .v (asg rfl) rfl rfl rfl ?_
      refine .nil ?_
      refine .seqN ?_
      refine .seq ?_
      refine .open_ (by kernel_rfl) (by kernel_rfl) ?_
      refine .v (mv rfl) rfl rfl rfl ?_
      refine .v (mv rfl) rfl rfl rfl ?_
      obtain ⟨q303, hF⟩ := hF
      refine .v (ixS rfl rfl tS25 (k := 1) rfl q303) rfl rfl rfl ?_
      refine .v (ld1 (v := .slice ((gt vs (gt cycle t52)).1) ((gt r3 (gt cycle t52)).length) ((gt vs (gt cycle t52)).2)) rfl tO32 (cell1 (k := 1) rfl (rowsV_get (gt_get (inb_of q126 q303)) (gt_get q303)))) rfl rfl rfl ?_
      refine .v (mv rfl) rfl rfl rfl ?_
      refine .v (mv rfl) rfl rfl rfl ?_
      refine .v (bi rfl rfl rfl) rfl rfl rfl ?_
      refine .v (mv rfl) rfl rfl rfl ?_
      refine .v (ln rfl tS32.is) rfl rfl rfl ?_
      obtain ⟨q304, hF⟩ := hF
      obtain ⟨x, q305⟩ : ∃ y_ : Int, y_ = (Int.tmod (IntKind.i64.wrap (t52 + 1)) ((cycle.length : Nat) : Int)) := ⟨_, rfl⟩
      replace hF := hF x q305
      refine .v (v := .int .i64 x) (by rw [q305]; exact br rfl rfl q304) rfl rfl rfl ?_
      obtain ⟨q306, hF⟩ := hF
      refine .v (ix rfl rfl tS32 (_q3.ne (by decide) (inb_pos q306)) q306) rfl rfl rfl ?_
      refine .v (ld1 (v := .int .i64 (gt cycle x)) rfl tO3 (cellH (_q3.elemF q306 (by decide) 0 _ rfl))) rfl rfl rfl ?_
      obtain ⟨q307, hF⟩ := hF
      refine .v (ixS rfl rfl tS32 (k := ((gt cycle t52)).toNat + 2) (rowsA_get (gt_get (inb_of q126 q303)) (gt_get q303)) q307) rfl rfl rfl ?_
      refine .v (ld1 (v := .int .i64 (gt (gt r3 (gt cycle t52)) (gt cycle x))) rfl tO3 (cellS (k := ((gt cycle t52)).toNat + 2) (rowsA_get (gt_get (inb_of q126 q303)) (gt_get q303)) (flL_get q307 (j := 0) rfl))) rfl rfl rfl ?_
      refine .v (asg rfl) rfl rfl rfl ?_
      refine .fin ?_
      refine .seqN ?_
      refine .seq ?_
      refine .seq ?_
      refine .region ?_
      refine .v (mv rfl) rfl rfl rfl ?_
      refine .v (bi rfl rfl rfl) rfl rfl rfl ?_
      refine .nil ?_
      refine .seqN ?_
      refine .cond rfl (fun q309 => ?_) (fun q309 => ?_)
      · replace hF := hF.1 q309
        refine .seq ?_
        refine .region ?_
        refine .v (bld (cs := #[.int .i64 0, .int .i64 0]) (pv := []) tB27 rfl rfl) rfl rfl rfl ?_
        refine .v (asg rfl) rfl rfl rfl ?_
        refine st (p := pv) (off := 0) (k := 0) (vs := [.int .i64 0, .int .i64 0]) rfl rfl rfl (fun w => (tA27 w).2) rfl rfl rfl rfl ?_
        refine .cast (A' := ([Box pv [.int .i64 0, .int .i64 0], OwnSl 32 1 a r3.length c (rowsV vs r3)] ++ rowsA 3 vs r3)) rfl ?_
        refine .nil ?_
        refine .seqN ?_
        refine .ret ?_
        refine .seqR ?_
        refine .blkR ?_
        refine .seqR ?_
        refine .seqR ?_
        refine .blkR ?_
        refine .seqR ?_
        refine .res2 rfl (rvT rfl) (rvC rfl tA27 (k := 0) rfl rfl) (fun w' S => ⟨(false, (⟨0, 0⟩ : Fault)), hF, rfl, S.below⟩)
      replace hF := hF.2 q309
      refine .skip ?_
      refine .seqN ?_
      refine .region ?_
      refine .v (mv rfl) rfl rfl rfl ?_
      refine .v (mv rfl) rfl rfl rfl ?_
      obtain ⟨x2, q310⟩ : ∃ y_ : Int, y_ = (IntKind.i64.wrap (sum + (gt (gt r3 (gt cycle t52)) (gt cycle x)))) := ⟨_, rfl⟩
      replace hF := hF x2 q310
      refine .v (v := .int .i64 x2) (by rw [q310]; exact bi rfl rfl rfl) rfl rfl rfl ?_
      refine .v (asg rfl) rfl rfl rfl ?_
      refine .nil ?_
      refine .blkN ?_
      refine .seqN ?_
      refine .region ?_
      refine .v (bi rfl rfl rfl) rfl rfl rfl ?_
      refine .v (mv rfl) rfl rfl rfl ?_
      refine .nil ?_
      exact .round (x2, IntKind.i64.wrap (t52 + 1)) hF.1 hF.2 (.cons rfl (.cons rfl (.cons rfl (.cons rfl (.cons rfl (.cons rfl (.cons rfl (.nil)))))))) rfl (FH.le_refl _)
    replace hF := hF.2 q283
    refine .exit ?_
    refine .seqX ?_
    refine .seqX ?_
    refine .blkX ?_
    refine .seqN ?_
    refine .seq ?_
    refine .region ?_
    refine .v (mv rfl) rfl rfl rfl ?_
    refine .v (bi rfl rfl rfl) rfl rfl rfl ?_
    refine .v (bld (cs := #[.int .i64 0, .int .i64 0]) (pv := []) tB27 rfl rfl) rfl rfl rfl ?_
    refine .v (asg rfl) rfl rfl rfl ?_
    refine st (p := pv) (off := 0) (k := 0) (vs := [.int .i64 0, .int .i64 0]) rfl rfl rfl (fun w => (tA27 w).2) rfl rfl rfl rfl ?_
    refine .cast (A' := ([Box pv [.int .i64 0, .int .i64 0], OwnSl 32 1 a r3.length c (rowsV vs r3)] ++ rowsA 3 vs r3)) rfl ?_
    refine .nil ?_
    refine .seqN ?_
    refine .ret ?_
    refine .res2 rfl (rvT rfl) (rvC rfl tA27 (k := 0) rfl rfl) (fun w' S => ⟨(decide (sum < 0), (⟨0, 0⟩ : Fault)), hF, rfl, S.below⟩)
  refine .region ?_
  refine .v (mv rfl) rfl rfl rfl ?_
  refine .v (ln rfl tS32.is) rfl rfl rfl ?_
  refine .v (bi rfl rfl rfl) rfl rfl rfl ?_
  refine .v (mv rfl) rfl rfl rfl ?_
  rcases Bool.eq_false_or_eq_true (decide (((cycle.length : Nat) : Int) < 2)) with q311 | q311
  · replace hF := hF.1 q311
    refine .gS rfl rfl rfl q311 rfl rfl ?_
    refine .gS rfl rfl rfl q311 rfl rfl ?_
    refine .gS rfl rfl rfl q311 rfl rfl ?_
    refine .v (pkT rfl q311 rfl) rfl rfl rfl ?_
    refine .nil ?_
    refine .sel0 [2, 1] (by decide) rfl ?_
    exact .use q9 true hF (.cons rfl (.cons rfl (.cons rfl (.cons rfl (.nil))))) rfl (FH.le_refl _)
  replace hF := hF.2 q311
  refine .gv (mv rfl) rfl rfl rfl q311 rfl rfl ?_
  refine .gv (ln rfl tS32.is) rfl rfl rfl q311 rfl rfl ?_
  refine .gv (bi rfl rfl rfl) rfl rfl rfl q311 rfl rfl ?_
  refine .v (pkF rfl q311 rfl) rfl rfl rfl ?_
  refine .nil ?_
  refine .sel0 [2, 1] (by decide) rfl ?_
  exact .use q9 (decide (10 < ((cycle.length : Nat) : Int))) hF (.cons rfl (.cons rfl (.cons rfl (.cons rfl (.nil))))) rfl (FH.le_refl _)

theorem c_negative {h : FH} {w : World} (hs : Sub h w) (n_ : Network) (an_ : Option Addr) (cn_ : Nat) (_q1 : RSl h an_ n_.links) (_q2 : n_.links.length ≤ cn_) (cycle : List Int) (acycle : Option Addr) (ccycle : Nat) (_q3 : RSl h acycle cycle) (_q4 : cycle.length ≤ ccycle) : Calls Try.prog 21 #[.agg #[.int .i64 n_.events, .slice an_ n_.links.length cn_], .slice acycle cycle.length ccycle] w fun e w' => e = .returned (.tuple #[.bool (sp_negative n_ cycle).1, .agg #[.int .i64 (sp_negative n_ cycle).2.code, .int .i64 (sp_negative n_ cycle).2.index]]) ∧ Below w.heap.size w w' :=
  (w_negative hs n_ an_ cn_ _q1 _q2 cycle acycle ccycle _q3 _q4 (fun r => r = sp_negative n_ cycle) (ok_negative n_ cycle)).mono fun _ _ ⟨_, hk, he, hb⟩ => ⟨by rw [he, hk], hb⟩

set_option maxHeartbeats 8000000 in
theorem w_lawMatchesSpec {h : FH} {w : World} (hs : Sub h w) (n_ : Network) (an_ : Option Addr) (cn_ : Nat) (_q1 : RSl h an_ n_.links) (_q2 : n_.links.length ≤ cn_) (times : List Int) (atimes : Option Addr) (ctimes : Nat) (_q3 : RSl h atimes times) (_q4 : times.length ≤ ctimes) (cycle : List Int) (acycle : Option Addr) (ccycle : Nat) (_q5 : RSl h acycle cycle) (_q6 : cycle.length ≤ ccycle) (K : Bool → Prop) (hF : F_lawMatchesSpec n_ times cycle K) : Calls Try.prog 7 #[.agg #[.int .i64 n_.events, .slice an_ n_.links.length cn_], .slice atimes times.length ctimes, .slice acycle cycle.length ccycle] w fun e w' => ∃ r : Bool, K r ∧ e = .returned (.bool r) ∧ Below w.heap.size w w' := by
  refine enter (args := [.agg #[.int .i64 n_.events, .slice an_ n_.links.length cn_], .slice atimes times.length ctimes, .slice acycle cycle.length ccycle]) Try.func7 rfl Try.ntmps7 rfl hs ?_
  refine .seq ?_
  refine .region ?_
  refine bx (vs := [.int .i64 n_.events, .slice an_ n_.links.length cn_]) rfl rfl rfl (fun pn => ?_)
  refine .v (asg rfl) rfl rfl rfl ?_
  refine .nil ?_
  refine .seqN ?_
  refine .seq ?_
  refine .region ?_
  refine .v (ldA (cs := [.int .i64 n_.events, .slice an_ n_.links.length cn_]) rfl tA24 rfl (cellsB (off := 0) (k := 0) rfl (m := 2) rfl)) rfl rfl rfl ?_
  obtain ⟨r2, q7⟩ : ∃ y_ : Fault, y_ = sp_validate n_ := ⟨_, rfl⟩
  replace hF := hF r2 q7
  refine .c (cl (v := .agg #[.int .i64 r2.code, .int .i64 r2.index]) Try.call20 rfl rfl (fun w S => (by rw [q7]; exact c_networkFault S.sub n_ an_ cn_ _q1 _q2 ))) rfl rfl rfl ?_
  refine al tZ27 rfl (fun pe => ?_)
  refine st (p := pe) (off := 0) (k := 0) (vs := [.int .i64 r2.code, .int .i64 r2.index]) rfl rfl rfl (fun w => (tA27 w).2) rfl rfl rfl rfl ?_
  refine .cast (A' := [Box pe [.int .i64 r2.code, .int .i64 r2.index], Box pn [.int .i64 n_.events, .slice an_ n_.links.length cn_]]) rfl ?_
  refine .nil ?_
  refine .seqN ?_
  refine .seq ?_
  refine .region ?_
  refine .v (ldA (cs := [.int .i64 n_.events, .slice an_ n_.links.length cn_]) rfl tA24 rfl (cellsB (off := 0) (k := 1) rfl (m := 2) rfl)) rfl rfl rfl ?_
  obtain ⟨r3, q8⟩ : ∃ y_ : List (List Int) × Bool × Fault, y_ = sp_minimal n_ := ⟨_, rfl⟩
  replace hF := hF r3 q8
  refine clR (α := Option Addr × Nat) (Φ := fun h1 z => RSl h1 z.1 r3.1 ∧ r3.1.length ≤ z.2) (V := fun z => .tuple #[.slice z.1 r3.1.length z.2, .bool r3.2.1, .agg #[.int .i64 r3.2.2.code, .int .i64 r3.2.2.index]]) Try.call15 rfl rfl (fun w S => (by rw [q8]; exact c_minimal S.sub n_ an_ cn_ _q1 _q2 )) rfl (fun z h1 le1 hz => ?_)
  obtain ⟨a, c⟩ := z
  obtain ⟨q9, q10⟩ := hz
  refine .v (mv rfl) rfl rfl rfl ?_
  refine .v (ext rfl rfl) rfl rfl rfl ?_
  refine .v (ext rfl rfl) rfl rfl rfl ?_
  refine .v (ext rfl rfl) rfl rfl rfl ?_
  refine al tZ27 rfl (fun pf => ?_)
  refine .v (asg rfl) rfl rfl rfl ?_
  refine .v (asg rfl) rfl rfl rfl ?_
  refine st (p := pf) (off := 0) (k := 0) (vs := [.int .i64 r3.2.2.code, .int .i64 r3.2.2.index]) rfl rfl rfl (fun w => (tA27 w).2) rfl rfl rfl rfl ?_
  refine .cast (A' := [Box pf [.int .i64 r3.2.2.code, .int .i64 r3.2.2.index], Box pe [.int .i64 r2.code, .int .i64 r2.index], Box pn [.int .i64 n_.events, .slice an_ n_.links.length cn_]]) rfl ?_
  refine .nil ?_
  refine .seqN ?_
  refine .seq ?_
  refine .region ?_
  refine .v (ldA (cs := [.int .i64 n_.events, .slice an_ n_.links.length cn_]) rfl tA24 rfl (cellsB (off := 0) (k := 2) rfl (m := 2) rfl)) rfl rfl rfl ?_
  obtain ⟨r4, q11⟩ : ∃ y_ : List Int × Bool × Fault, y_ = sp_earliest n_ := ⟨_, rfl⟩
  replace hF := hF r4 q11
  refine clR (α := Option Addr × Nat) (Φ := fun h1 z => RSl h1 z.1 r4.1 ∧ r4.1.length ≤ z.2) (V := fun z => .tuple #[.slice z.1 r4.1.length z.2, .bool r4.2.1, .agg #[.int .i64 r4.2.2.code, .int .i64 r4.2.2.index]]) Try.call19 rfl rfl (fun w S => (by rw [q11]; exact c_earliest S.sub n_ an_ cn_ (_q1.mono (le1)) _q2 )) rfl (fun z h2 le2 hz => ?_)
  obtain ⟨a2, c2⟩ := z
  obtain ⟨q12, q13⟩ := hz
  refine .v (mv rfl) rfl rfl rfl ?_
  refine .v (ext rfl rfl) rfl rfl rfl ?_
  refine .v (ext rfl rfl) rfl rfl rfl ?_
  refine .v (ext rfl rfl) rfl rfl rfl ?_
  refine al tZ27 rfl (fun pg => ?_)
  refine .v (asg rfl) rfl rfl rfl ?_
  refine .v (asg rfl) rfl rfl rfl ?_
  refine st (p := pg) (off := 0) (k := 0) (vs := [.int .i64 r4.2.2.code, .int .i64 r4.2.2.index]) rfl rfl rfl (fun w => (tA27 w).2) rfl rfl rfl rfl ?_
  refine .cast (A' := [Box pg [.int .i64 r4.2.2.code, .int .i64 r4.2.2.index], Box pf [.int .i64 r3.2.2.code, .int .i64 r3.2.2.index], Box pe [.int .i64 r2.code, .int .i64 r2.index], Box pn [.int .i64 n_.events, .slice an_ n_.links.length cn_]]) rfl ?_
  refine .nil ?_
  refine .seqN ?_
  refine .seq ?_
  refine .region ?_
  refine .v (ldA (cs := [.int .i64 n_.events, .slice an_ n_.links.length cn_]) rfl tA24 rfl (cellsB (off := 0) (k := 3) rfl (m := 2) rfl)) rfl rfl rfl ?_
  refine .v (mv rfl) rfl rfl rfl ?_
  obtain ⟨r5, q14⟩ : ∃ y_ : Bool × Fault, y_ = sp_respects n_ times := ⟨_, rfl⟩
  replace hF := hF r5 q14
  refine .c (cl (v := .tuple #[.bool r5.1, .agg #[.int .i64 r5.2.code, .int .i64 r5.2.index]]) Try.call18 rfl rfl (fun w S => (by rw [q14]; exact c_respects S.sub n_ an_ cn_ (_q1.mono (FH.le_trans (le1) (le2))) _q2 times atimes ctimes (_q3.mono (FH.le_trans (le1) (le2))) _q4 ))) rfl rfl rfl ?_
  refine .v (mv rfl) rfl rfl rfl ?_
  refine .v (ext rfl rfl) rfl rfl rfl ?_
  refine .v (ext rfl rfl) rfl rfl rfl ?_
  refine al tZ27 rfl (fun ph => ?_)
  refine .v (asg rfl) rfl rfl rfl ?_
  refine st (p := ph) (off := 0) (k := 0) (vs := [.int .i64 r5.2.code, .int .i64 r5.2.index]) rfl rfl rfl (fun w => (tA27 w).2) rfl rfl rfl rfl ?_
  refine .cast (A' := [Box ph [.int .i64 r5.2.code, .int .i64 r5.2.index], Box pg [.int .i64 r4.2.2.code, .int .i64 r4.2.2.index], Box pf [.int .i64 r3.2.2.code, .int .i64 r3.2.2.index], Box pe [.int .i64 r2.code, .int .i64 r2.index], Box pn [.int .i64 n_.events, .slice an_ n_.links.length cn_]]) rfl ?_
  refine .nil ?_
  refine .seqN ?_
  refine .seq ?_
  refine .region ?_
  refine .v (ldA (cs := [.int .i64 n_.events, .slice an_ n_.links.length cn_]) rfl tA24 rfl (cellsB (off := 0) (k := 4) rfl (m := 2) rfl)) rfl rfl rfl ?_
  refine .v (mv rfl) rfl rfl rfl ?_
  obtain ⟨r6, q15⟩ : ∃ y_ : Bool × Fault, y_ = sp_negative n_ cycle := ⟨_, rfl⟩
  replace hF := hF r6 q15
  refine .c (cl (v := .tuple #[.bool r6.1, .agg #[.int .i64 r6.2.code, .int .i64 r6.2.index]]) Try.call21 rfl rfl (fun w S => (by rw [q15]; exact c_negative S.sub n_ an_ cn_ (_q1.mono (FH.le_trans (le1) (le2))) _q2 cycle acycle ccycle (_q5.mono (FH.le_trans (le1) (le2))) _q6 ))) rfl rfl rfl ?_
  refine .v (mv rfl) rfl rfl rfl ?_
  refine .v (ext rfl rfl) rfl rfl rfl ?_
  refine .v (ext rfl rfl) rfl rfl rfl ?_
  refine al tZ27 rfl (fun pi => ?_)
  refine .v (asg rfl) rfl rfl rfl ?_
  refine st (p := pi) (off := 0) (k := 0) (vs := [.int .i64 r6.2.code, .int .i64 r6.2.index]) rfl rfl rfl (fun w => (tA27 w).2) rfl rfl rfl rfl ?_
  refine .cast (A' := [Box pi [.int .i64 r6.2.code, .int .i64 r6.2.index], Box ph [.int .i64 r5.2.code, .int .i64 r5.2.index], Box pg [.int .i64 r4.2.2.code, .int .i64 r4.2.2.index], Box pf [.int .i64 r3.2.2.code, .int .i64 r3.2.2.index], Box pe [.int .i64 r2.code, .int .i64 r2.index], Box pn [.int .i64 n_.events, .slice an_ n_.links.length cn_]]) rfl ?_
  refine .nil ?_
  refine .seqN ?_
  refine .seq ?_
  refine .share (σ := Bool) (fun z => F_lawMatchesSpec_J1 n_ times cycle K r2 r3 r4 r5 r6 z) (fun z => [(1, .slice atimes times.length ctimes), (2, .slice acycle cycle.length ccycle), (3, .pointer (some pn)), (7, .pointer (some pe)), (8, .slice a r3.1.length c), (9, .bool r3.2.1), (11, .slice a2 r4.1.length c2), (12, .bool r4.2.1), (14, .bool r5.1), (15, .pointer (some ph)), (16, .bool r6.1), (17, .pointer (some pi)), (65, .bool z)]) (fun _ => [Box pn [.int .i64 n_.events, .slice an_ n_.links.length cn_], Box pe [.int .i64 r2.code, .int .i64 r2.index], Box ph [.int .i64 r5.2.code, .int .i64 r5.2.index], Box pi [.int .i64 r6.2.code, .int .i64 r6.2.index]]) (fun _ => h2) ?_ (fun q19 => ?_)
  · rintro t65 hF
    show J _ _ _ _ _ [(1, .slice atimes times.length ctimes), (2, .slice acycle cycle.length ccycle), (3, .pointer (some pn)), (7, .pointer (some pe)), (8, .slice a r3.1.length c), (9, .bool r3.2.1), (11, .slice a2 r4.1.length c2), (12, .bool r4.2.1), (14, .bool r5.1), (15, .pointer (some ph)), (16, .bool r6.1), (17, .pointer (some pi)), (65, .bool t65)] [Box pn [.int .i64 n_.events, .slice an_ n_.links.length cn_], Box pe [.int .i64 r2.code, .int .i64 r2.index], Box ph [.int .i64 r5.2.code, .int .i64 r5.2.index], Box pi [.int .i64 r6.2.code, .int .i64 r6.2.index]] h2
    refine .cond rfl (fun q21 => ?_) (fun q21 => ?_)
    · replace hF := hF.1 q21
      refine .seq ?_
      refine .region ?_
      refine .v (asg rfl) rfl rfl rfl ?_
      refine .nil ?_
      refine .seqN ?_
      refine .ret ?_
      refine .seqR ?_
      refine .res1 rfl (rvT rfl) (fun w' S => ⟨false, hF, rfl, S.below⟩)
    replace hF := hF.2 q21
    refine .skip ?_
    refine .seqN ?_
    refine .seq ?_
    refine .seq ?_
    refine .region ?_
    refine .v (fa rfl tF27_0) rfl rfl rfl ?_
    refine .v (ld1 rfl tO3 (cellB (off := 0) (k := 1) rfl rfl)) rfl rfl rfl ?_
    refine .v (bi rfl rfl rfl) rfl rfl rfl ?_
    refine .nil ?_
    refine .seqN ?_
    refine .cond rfl (fun q41 => ?_) (fun q41 => ?_)
    · replace hF := hF.1 q41
      refine .seq ?_
      refine .region ?_
      refine .v (mv rfl) rfl rfl rfl ?_
      refine .v (nt rfl) rfl rfl rfl ?_
      refine .v (mv rfl) rfl rfl rfl ?_
      rcases Bool.eq_false_or_eq_true (!r3.2.1) with q51 | q51
      · replace hF := hF.1 q51
        refine .gv (mv rfl) rfl rfl rfl q51 rfl rfl ?_
        refine .gv (nt rfl) rfl rfl rfl q51 rfl rfl ?_
        refine .v (pkT rfl q51 rfl) rfl rfl rfl ?_
        refine .v (mv rfl) rfl rfl rfl ?_
        rcases Bool.eq_false_or_eq_true (!r4.2.1) with q52 | q52
        · replace hF := hF.1 q52
          refine .gv (mv rfl) rfl rfl rfl q52 rfl rfl ?_
          refine .gv (nt rfl) rfl rfl rfl q52 rfl rfl ?_
          refine .v (pkT rfl q52 rfl) rfl rfl rfl ?_
          refine .v (mv rfl) rfl rfl rfl ?_
          rcases Bool.eq_false_or_eq_true (!r5.1) with q53 | q53
          · replace hF := hF.1 q53
            refine .gv (mv rfl) rfl rfl rfl q53 rfl rfl ?_
            refine .gv (nt rfl) rfl rfl rfl q53 rfl rfl ?_
            refine .v (pkT rfl q53 rfl) rfl rfl rfl ?_
            refine .v (mv rfl) rfl rfl rfl ?_
            rcases Bool.eq_false_or_eq_true (!r6.1) with q54 | q54
            · replace hF := hF.1 q54
              refine .gv (ldA (cs := [.int .i64 r5.2.code, .int .i64 r5.2.index]) rfl tA27 rfl (cellsB (off := 0) (k := 2) rfl (m := 2) rfl)) rfl rfl rfl q54 rfl rfl ?_
              refine .gv (ldA (cs := [.int .i64 r2.code, .int .i64 r2.index]) rfl tA27 rfl (cellsB (off := 0) (k := 1) rfl (m := 2) rfl)) rfl rfl rfl q54 rfl rfl ?_
              refine .gv (eq2 tE27 rfl rfl) rfl rfl rfl q54 rfl rfl ?_
              refine .v (pkT rfl q54 rfl) rfl rfl rfl ?_
              refine .v (mv rfl) rfl rfl rfl ?_
              rcases Bool.eq_false_or_eq_true ((r5.2.code == r2.code) && (r5.2.index == r2.index)) with q55 | q55
              · replace hF := hF.1 q55
                refine .gv (ldA (cs := [.int .i64 r6.2.code, .int .i64 r6.2.index]) rfl tA27 rfl (cellsB (off := 0) (k := 3) rfl (m := 2) rfl)) rfl rfl rfl q55 rfl rfl ?_
                refine .gv (ldA (cs := [.int .i64 r2.code, .int .i64 r2.index]) rfl tA27 rfl (cellsB (off := 0) (k := 1) rfl (m := 2) rfl)) rfl rfl rfl q55 rfl rfl ?_
                refine .gv (eq2 tE27 rfl rfl) rfl rfl rfl q55 rfl rfl ?_
                refine .v (pkT rfl q55 rfl) rfl rfl rfl ?_
                refine .v (mv rfl) rfl rfl rfl ?_
                rcases Bool.eq_false_or_eq_true ((r6.2.code == r2.code) && (r6.2.index == r2.index)) with q56 | q56
                · replace hF := hF.1 q56
                  refine .gv (mv rfl) rfl rfl rfl q56 rfl rfl ?_
                  refine .gv (ln rfl tS25.is) rfl rfl rfl q56 rfl rfl ?_
                  refine .gv (mv rfl) rfl rfl rfl q56 rfl rfl ?_
                  refine .gv (ln rfl tS32.is) rfl rfl rfl q56 rfl rfl ?_
                  obtain ⟨x, q57⟩ : ∃ y_ : Int, y_ = (IntKind.i64.wrap (((r3.1.length : Nat) : Int) + ((r4.1.length : Nat) : Int))) := ⟨_, rfl⟩
                  replace hF := hF x q57
                  refine .gv (v := .int .i64 x) (by rw [q57]; exact bi rfl rfl rfl) rfl rfl rfl q56 rfl rfl ?_
                  refine .gv (bi rfl rfl rfl) rfl rfl rfl q56 rfl rfl ?_
                  refine .v (pkT rfl q56 rfl) rfl rfl rfl ?_
                  refine .v (mv rfl) rfl rfl rfl ?_
                  rcases Bool.eq_false_or_eq_true (x == 0) with q58 | q58
                  · replace hF := hF.1 q58
                    obtain ⟨r7, q59⟩ : ∃ y_ : Bool, y_ = sp_bounded := ⟨_, rfl⟩
                    replace hF := hF r7 q59
                    refine .gc (cl (v := .bool r7) Try.call17 rfl rfl (fun w S => (by rw [q59]; exact c_bounded S.sub  ))) rfl rfl rfl q58 rfl rfl ?_
                    refine .v (pkT rfl q58 rfl) rfl rfl rfl ?_
                    refine .v (asg rfl) rfl rfl rfl ?_
                    refine .nil ?_
                    refine .seqN ?_
                    refine .ret ?_
                    refine .seqR ?_
                    refine .res1 rfl (rvT rfl) (fun w' S => ⟨r7, hF, rfl, S.below⟩)
                  replace hF := hF.2 q58
                  refine .gS rfl rfl rfl q58 rfl rfl ?_
                  refine .v (pkF rfl q58 rfl) rfl rfl rfl ?_
                  refine .v (asg rfl) rfl rfl rfl ?_
                  refine .nil ?_
                  refine .seqN ?_
                  refine .ret ?_
                  refine .seqR ?_
                  refine .res1 rfl (rvT rfl) (fun w' S => ⟨false, hF, rfl, S.below⟩)
                replace hF := hF.2 q56
                refine .gS rfl rfl rfl q56 rfl rfl ?_
                refine .gS rfl rfl rfl q56 rfl rfl ?_
                refine .gS rfl rfl rfl q56 rfl rfl ?_
                refine .gS rfl rfl rfl q56 rfl rfl ?_
                refine .gS rfl rfl rfl q56 rfl rfl ?_
                refine .gS rfl rfl rfl q56 rfl rfl ?_
                refine .v (pkF rfl q56 rfl) rfl rfl rfl ?_
                refine .v (mv rfl) rfl rfl rfl ?_
                refine .gS rfl rfl rfl rfl rfl rfl ?_
                refine .v (pkF rfl rfl rfl) rfl rfl rfl ?_
                refine .v (asg rfl) rfl rfl rfl ?_
                refine .nil ?_
                refine .seqN ?_
                refine .ret ?_
                refine .seqR ?_
                refine .res1 rfl (rvT rfl) (fun w' S => ⟨false, hF, rfl, S.below⟩)
              replace hF := hF.2 q55
              refine .gS rfl rfl rfl q55 rfl rfl ?_
              refine .gS rfl rfl rfl q55 rfl rfl ?_
              refine .gS rfl rfl rfl q55 rfl rfl ?_
              refine .v (pkF rfl q55 rfl) rfl rfl rfl ?_
              refine .v (mv rfl) rfl rfl rfl ?_
              refine .gS rfl rfl rfl rfl rfl rfl ?_
              refine .gS rfl rfl rfl rfl rfl rfl ?_
              refine .gS rfl rfl rfl rfl rfl rfl ?_
              refine .gS rfl rfl rfl rfl rfl rfl ?_
              refine .gS rfl rfl rfl rfl rfl rfl ?_
              refine .gS rfl rfl rfl rfl rfl rfl ?_
              refine .v (pkF rfl rfl rfl) rfl rfl rfl ?_
              refine .v (mv rfl) rfl rfl rfl ?_
              refine .gS rfl rfl rfl rfl rfl rfl ?_
              refine .v (pkF rfl rfl rfl) rfl rfl rfl ?_
              refine .v (asg rfl) rfl rfl rfl ?_
              refine .nil ?_
              refine .seqN ?_
              refine .ret ?_
              refine .seqR ?_
              refine .res1 rfl (rvT rfl) (fun w' S => ⟨false, hF, rfl, S.below⟩)
            replace hF := hF.2 q54
            refine .gS rfl rfl rfl q54 rfl rfl ?_
            refine .gS rfl rfl rfl q54 rfl rfl ?_
            refine .gS rfl rfl rfl q54 rfl rfl ?_
            refine .v (pkF rfl q54 rfl) rfl rfl rfl ?_
            refine .v (mv rfl) rfl rfl rfl ?_
            refine .gS rfl rfl rfl rfl rfl rfl ?_
            refine .gS rfl rfl rfl rfl rfl rfl ?_
            refine .gS rfl rfl rfl rfl rfl rfl ?_
            refine .v (pkF rfl rfl rfl) rfl rfl rfl ?_
            refine .v (mv rfl) rfl rfl rfl ?_
            refine .gS rfl rfl rfl rfl rfl rfl ?_
            refine .gS rfl rfl rfl rfl rfl rfl ?_
            refine .gS rfl rfl rfl rfl rfl rfl ?_
            refine .gS rfl rfl rfl rfl rfl rfl ?_
            refine .gS rfl rfl rfl rfl rfl rfl ?_
            refine .gS rfl rfl rfl rfl rfl rfl ?_
            refine .v (pkF rfl rfl rfl) rfl rfl rfl ?_
            refine .v (mv rfl) rfl rfl rfl ?_
            refine .gS rfl rfl rfl rfl rfl rfl ?_
            refine .v (pkF rfl rfl rfl) rfl rfl rfl ?_
            refine .v (asg rfl) rfl rfl rfl ?_
            refine .nil ?_
            refine .seqN ?_
            refine .ret ?_
            refine .seqR ?_
            refine .res1 rfl (rvT rfl) (fun w' S => ⟨false, hF, rfl, S.below⟩)
          replace hF := hF.2 q53
          refine .gS rfl rfl rfl q53 rfl rfl ?_
          refine .gS rfl rfl rfl q53 rfl rfl ?_
          refine .v (pkF rfl q53 rfl) rfl rfl rfl ?_
          refine .v (mv rfl) rfl rfl rfl ?_
          refine .gS rfl rfl rfl rfl rfl rfl ?_
          refine .gS rfl rfl rfl rfl rfl rfl ?_
          refine .gS rfl rfl rfl rfl rfl rfl ?_
          refine .v (pkF rfl rfl rfl) rfl rfl rfl ?_
          refine .v (mv rfl) rfl rfl rfl ?_
          refine .gS rfl rfl rfl rfl rfl rfl ?_
          refine .gS rfl rfl rfl rfl rfl rfl ?_
          refine .gS rfl rfl rfl rfl rfl rfl ?_
          refine .v (pkF rfl rfl rfl) rfl rfl rfl ?_
          refine .v (mv rfl) rfl rfl rfl ?_
          refine .gS rfl rfl rfl rfl rfl rfl ?_
          refine .gS rfl rfl rfl rfl rfl rfl ?_
          refine .gS rfl rfl rfl rfl rfl rfl ?_
          refine .gS rfl rfl rfl rfl rfl rfl ?_
          refine .gS rfl rfl rfl rfl rfl rfl ?_
          refine .gS rfl rfl rfl rfl rfl rfl ?_
          refine .v (pkF rfl rfl rfl) rfl rfl rfl ?_
          refine .v (mv rfl) rfl rfl rfl ?_
          refine .gS rfl rfl rfl rfl rfl rfl ?_
          refine .v (pkF rfl rfl rfl) rfl rfl rfl ?_
          refine .v (asg rfl) rfl rfl rfl ?_
          refine .nil ?_
          refine .seqN ?_
          refine .ret ?_
          refine .seqR ?_
          refine .res1 rfl (rvT rfl) (fun w' S => ⟨false, hF, rfl, S.below⟩)
        replace hF := hF.2 q52
        refine .gS rfl rfl rfl q52 rfl rfl ?_
        refine .gS rfl rfl rfl q52 rfl rfl ?_
        refine .v (pkF rfl q52 rfl) rfl rfl rfl ?_
        refine .v (mv rfl) rfl rfl rfl ?_
        refine .gS rfl rfl rfl rfl rfl rfl ?_
        refine .gS rfl rfl rfl rfl rfl rfl ?_
        refine .v (pkF rfl rfl rfl) rfl rfl rfl ?_
        refine .v (mv rfl) rfl rfl rfl ?_
        refine .gS rfl rfl rfl rfl rfl rfl ?_
        refine .gS rfl rfl rfl rfl rfl rfl ?_
        refine .gS rfl rfl rfl rfl rfl rfl ?_
        refine .v (pkF rfl rfl rfl) rfl rfl rfl ?_
        refine .v (mv rfl) rfl rfl rfl ?_
        refine .gS rfl rfl rfl rfl rfl rfl ?_
        refine .gS rfl rfl rfl rfl rfl rfl ?_
        refine .gS rfl rfl rfl rfl rfl rfl ?_
        refine .v (pkF rfl rfl rfl) rfl rfl rfl ?_
        refine .v (mv rfl) rfl rfl rfl ?_
        refine .gS rfl rfl rfl rfl rfl rfl ?_
        refine .gS rfl rfl rfl rfl rfl rfl ?_
        refine .gS rfl rfl rfl rfl rfl rfl ?_
        refine .gS rfl rfl rfl rfl rfl rfl ?_
        refine .gS rfl rfl rfl rfl rfl rfl ?_
        refine .gS rfl rfl rfl rfl rfl rfl ?_
        refine .v (pkF rfl rfl rfl) rfl rfl rfl ?_
        refine .v (mv rfl) rfl rfl rfl ?_
        refine .gS rfl rfl rfl rfl rfl rfl ?_
        refine .v (pkF rfl rfl rfl) rfl rfl rfl ?_
        refine .v (asg rfl) rfl rfl rfl ?_
        refine .nil ?_
        refine .seqN ?_
        refine .ret ?_
        refine .seqR ?_
        refine .res1 rfl (rvT rfl) (fun w' S => ⟨false, hF, rfl, S.below⟩)
      replace hF := hF.2 q51
      refine .gS rfl rfl rfl q51 rfl rfl ?_
      refine .gS rfl rfl rfl q51 rfl rfl ?_
      refine .v (pkF rfl q51 rfl) rfl rfl rfl ?_
      refine .v (mv rfl) rfl rfl rfl ?_
      refine .gS rfl rfl rfl rfl rfl rfl ?_
      refine .gS rfl rfl rfl rfl rfl rfl ?_
      refine .v (pkF rfl rfl rfl) rfl rfl rfl ?_
      refine .v (mv rfl) rfl rfl rfl ?_
      refine .gS rfl rfl rfl rfl rfl rfl ?_
      refine .gS rfl rfl rfl rfl rfl rfl ?_
      refine .v (pkF rfl rfl rfl) rfl rfl rfl ?_
      refine .v (mv rfl) rfl rfl rfl ?_
      refine .gS rfl rfl rfl rfl rfl rfl ?_
      refine .gS rfl rfl rfl rfl rfl rfl ?_
      refine .gS rfl rfl rfl rfl rfl rfl ?_
      refine .v (pkF rfl rfl rfl) rfl rfl rfl ?_
      refine .v (mv rfl) rfl rfl rfl ?_
      refine .gS rfl rfl rfl rfl rfl rfl ?_
      refine .gS rfl rfl rfl rfl rfl rfl ?_
      refine .gS rfl rfl rfl rfl rfl rfl ?_
      refine .v (pkF rfl rfl rfl) rfl rfl rfl ?_
      refine .v (mv rfl) rfl rfl rfl ?_
      refine .gS rfl rfl rfl rfl rfl rfl ?_
      refine .gS rfl rfl rfl rfl rfl rfl ?_
      refine .gS rfl rfl rfl rfl rfl rfl ?_
      refine .gS rfl rfl rfl rfl rfl rfl ?_
      refine .gS rfl rfl rfl rfl rfl rfl ?_
      refine .gS rfl rfl rfl rfl rfl rfl ?_
      refine .v (pkF rfl rfl rfl) rfl rfl rfl ?_
      refine .v (mv rfl) rfl rfl rfl ?_
      refine .gS rfl rfl rfl rfl rfl rfl ?_
      refine .v (pkF rfl rfl rfl) rfl rfl rfl ?_
      refine .v (asg rfl) rfl rfl rfl ?_
      refine .nil ?_
      refine .seqN ?_
      refine .ret ?_
      refine .seqR ?_
      refine .res1 rfl (rvT rfl) (fun w' S => ⟨false, hF, rfl, S.below⟩)
    replace hF := hF.2 q41
    refine .skip ?_
    refine .seqN ?_
    refine .seq ?_
    refine .region ?_
    refine .v (ldA (cs := [.int .i64 n_.events, .slice an_ n_.links.length cn_]) rfl tA24 rfl (cellsB (off := 0) (k := 0) rfl (m := 2) rfl)) rfl rfl rfl ?_
    obtain ⟨q60, hF⟩ := hF
    obtain ⟨r8, q61⟩ : ∃ y_ : List (List Int) × Bool, y_ = sp_tighten n_ := ⟨_, rfl⟩
    replace hF := hF r8 q61
    refine clR (α := Option Addr × Nat) (Φ := fun h1 z => RSl h1 z.1 r8.1 ∧ r8.1.length ≤ z.2) (V := fun z => .tuple #[.slice z.1 r8.1.length z.2, .bool r8.2]) Try.call23 rfl rfl (fun w S => (by rw [q61]; exact c_tightest S.sub n_ an_ cn_ (_q1.mono (FH.le_trans (le1) (le2))) _q2 q60)) rfl (fun z h3 le3 hz => ?_)
    obtain ⟨a3, c3⟩ := z
    obtain ⟨q62, q63⟩ := hz
    refine .v (mv rfl) rfl rfl rfl ?_
    refine .v (ext rfl rfl) rfl rfl rfl ?_
    refine .v (ext rfl rfl) rfl rfl rfl ?_
    refine .v (asg rfl) rfl rfl rfl ?_
    refine .v (asg rfl) rfl rfl rfl ?_
    refine .nil ?_
    refine .seqN ?_
    refine .seq ?_
    refine .share (σ := Bool) (fun z => F_lawMatchesSpec_J2 n_ times cycle K r4 r5 r6 r8 z) (fun z => [(1, .slice atimes times.length ctimes), (2, .slice acycle cycle.length ccycle), (3, .pointer (some pn)), (7, .pointer (some pe)), (11, .slice a2 r4.1.length c2), (14, .bool r5.1), (15, .pointer (some ph)), (16, .bool r6.1), (17, .pointer (some pi)), (18, .slice a3 r8.1.length c3), (19, .bool r8.2), (122, .bool z)]) (fun _ => [Box pn [.int .i64 n_.events, .slice an_ n_.links.length cn_], Box pe [.int .i64 r2.code, .int .i64 r2.index], Box ph [.int .i64 r5.2.code, .int .i64 r5.2.index], Box pi [.int .i64 r6.2.code, .int .i64 r6.2.index]]) (fun _ => h3) ?_ (fun q68 => ?_)
    · rintro t122 hF
      show J _ _ _ _ _ [(1, .slice atimes times.length ctimes), (2, .slice acycle cycle.length ccycle), (3, .pointer (some pn)), (7, .pointer (some pe)), (11, .slice a2 r4.1.length c2), (14, .bool r5.1), (15, .pointer (some ph)), (16, .bool r6.1), (17, .pointer (some pi)), (18, .slice a3 r8.1.length c3), (19, .bool r8.2), (122, .bool t122)] [Box pn [.int .i64 n_.events, .slice an_ n_.links.length cn_], Box pe [.int .i64 r2.code, .int .i64 r2.index], Box ph [.int .i64 r5.2.code, .int .i64 r5.2.index], Box pi [.int .i64 r6.2.code, .int .i64 r6.2.index]] h3
      refine .cond rfl (fun q70 => ?_) (fun q70 => ?_)
      · replace hF := hF.1 q70
        refine .seq ?_
        refine .region ?_
        refine .v (asg rfl) rfl rfl rfl ?_
        refine .nil ?_
        refine .seqN ?_
        refine .ret ?_
        refine .seqR ?_
        refine .res1 rfl (rvT rfl) (fun w' S => ⟨false, hF, rfl, S.below⟩)
      replace hF := hF.2 q70
      refine .skip ?_
      refine .seqN ?_
      refine .seq ?_
      refine .seq ?_
      refine .region ?_
      refine .v (mv rfl) rfl rfl rfl ?_
      refine .nil ?_
      refine .seqN ?_
      refine .shareT (σ := Unit) (fun _ => F_lawMatchesSpec_J3 n_ times cycle K r5 r6) (fun _ => [(1, .slice atimes times.length ctimes), (2, .slice acycle cycle.length ccycle), (3, .pointer (some pn)), (7, .pointer (some pe)), (14, .bool r5.1), (15, .pointer (some ph)), (16, .bool r6.1), (17, .pointer (some pi))]) (fun _ => [Box pn [.int .i64 n_.events, .slice an_ n_.links.length cn_], Box pe [.int .i64 r2.code, .int .i64 r2.index], Box ph [.int .i64 r5.2.code, .int .i64 r5.2.index], Box pi [.int .i64 r6.2.code, .int .i64 r6.2.index]]) (fun _ => h3) ?_ (fun q243 => ?_)
      · rintro ⟨⟩ hF
        show J _ _ _ _ _ [(1, .slice atimes times.length ctimes), (2, .slice acycle cycle.length ccycle), (3, .pointer (some pn)), (7, .pointer (some pe)), (14, .bool r5.1), (15, .pointer (some ph)), (16, .bool r6.1), (17, .pointer (some pi))] [Box pn [.int .i64 n_.events, .slice an_ n_.links.length cn_], Box pe [.int .i64 r2.code, .int .i64 r2.index], Box ph [.int .i64 r5.2.code, .int .i64 r5.2.index], Box pi [.int .i64 r6.2.code, .int .i64 r6.2.index]] h3
        refine .seq ?_
        refine .region ?_
        refine .v (bld (cs := #[.int .i64 0, .int .i64 0]) (pv := []) tB27 rfl rfl) rfl rfl rfl ?_
        refine st (p := pe) (off := 0) (k := 1) (vs := [.int .i64 0, .int .i64 0]) rfl rfl rfl (fun w => (tA27 w).2) rfl rfl rfl rfl ?_
        refine .cast (A' := [Box pn [.int .i64 n_.events, .slice an_ n_.links.length cn_], Box pe [.int .i64 0, .int .i64 0], Box ph [.int .i64 r5.2.code, .int .i64 r5.2.index], Box pi [.int .i64 r6.2.code, .int .i64 r6.2.index]]) rfl ?_
        refine .nil ?_
        refine .seqN ?_
        refine .seq ?_
        refine .seq ?_
        refine .region ?_
        refine .v (mv rfl) rfl rfl rfl ?_
        refine .v (ln rfl tS32.is) rfl rfl rfl ?_
        refine .v (fa rfl tF24_0) rfl rfl rfl ?_
        refine .v (ld1 rfl tO3 (cellB (off := 0) (k := 0) rfl rfl)) rfl rfl rfl ?_
        refine .v (bi rfl rfl rfl) rfl rfl rfl ?_
        refine .nil ?_
        refine .seqN ?_
        refine .shareT (σ := Int × Int) (fun z => F_lawMatchesSpec_J4 n_ times cycle K r5 r6 z.1 z.2) (fun _ => [(1, .slice atimes times.length ctimes), (2, .slice acycle cycle.length ccycle), (3, .pointer (some pn)), (7, .pointer (some pe)), (14, .bool r5.1), (15, .pointer (some ph)), (16, .bool r6.1), (17, .pointer (some pi))]) (fun z => [Box pn [.int .i64 n_.events, .slice an_ n_.links.length cn_], Box pe [.int .i64 z.1, .int .i64 z.2], Box ph [.int .i64 r5.2.code, .int .i64 r5.2.index], Box pi [.int .i64 r6.2.code, .int .i64 r6.2.index]]) (fun _ => h3) ?_ (fun q246 => ?_)
        · rintro ⟨x2, x3⟩ hF
          show J _ _ _ _ _ [(1, .slice atimes times.length ctimes), (2, .slice acycle cycle.length ccycle), (3, .pointer (some pn)), (7, .pointer (some pe)), (14, .bool r5.1), (15, .pointer (some ph)), (16, .bool r6.1), (17, .pointer (some pi))] [Box pn [.int .i64 n_.events, .slice an_ n_.links.length cn_], Box pe [.int .i64 x2, .int .i64 x3], Box ph [.int .i64 r5.2.code, .int .i64 r5.2.index], Box pi [.int .i64 r6.2.code, .int .i64 r6.2.index]] h3
          refine .seq ?_
          refine .seq ?_
          refine .region ?_
          refine .v (asg rfl) rfl rfl rfl ?_
          refine .nil ?_
          refine .seqN ?_
          refine .block ?_
          obtain ⟨I1, μ1, q319, q320⟩ := hF
          refine .loop' (σ := Int × Int × Int) (fun z => I1 z.1 z.2.1 z.2.2) (fun z => μ1 z.1 z.2.1 z.2.2) (fun z => [(1, .slice atimes times.length ctimes), (2, .slice acycle cycle.length ccycle), (3, .pointer (some pn)), (7, .pointer (some pe)), (14, .bool r5.1), (15, .pointer (some ph)), (16, .bool r6.1), (17, .pointer (some pi)), (21, .int .i64 z.1)]) (fun z => [Box pn [.int .i64 n_.events, .slice an_ n_.links.length cn_], Box pe [.int .i64 z.2.1, .int .i64 z.2.2], Box ph [.int .i64 r5.2.code, .int .i64 r5.2.index], Box pi [.int .i64 r6.2.code, .int .i64 r6.2.index]]) (fun _ => h3) (0, x2, x3) q319 (.cons rfl (.cons rfl (.cons rfl (.cons rfl (.cons rfl (.cons rfl (.cons rfl (.cons rfl (.cons rfl (.nil)))))))))) rfl (FH.le_refl _) ?_
          rintro ⟨k, x4, x5⟩ q319
          have hF := q320 k x4 x5 q319
          show J _ _ _ _ _ [(1, .slice atimes times.length ctimes), (2, .slice acycle cycle.length ccycle), (3, .pointer (some pn)), (7, .pointer (some pe)), (14, .bool r5.1), (15, .pointer (some ph)), (16, .bool r6.1), (17, .pointer (some pi)), (21, .int .i64 k)] [Box pn [.int .i64 n_.events, .slice an_ n_.links.length cn_], Box pe [.int .i64 x4, .int .i64 x5], Box ph [.int .i64 r5.2.code, .int .i64 r5.2.index], Box pi [.int .i64 r6.2.code, .int .i64 r6.2.index]] h3
          refine .seq ?_
          refine .share (σ := Bool) (fun z => F_lawMatchesSpec_J5 n_ times cycle K r5 r6 k I1 μ1 z x4 x5) (fun z => [(1, .slice atimes times.length ctimes), (2, .slice acycle cycle.length ccycle), (3, .pointer (some pn)), (7, .pointer (some pe)), (14, .bool r5.1), (15, .pointer (some ph)), (16, .bool r6.1), (17, .pointer (some pi)), (21, .int .i64 k), (167, .bool z)]) (fun _ => [Box pn [.int .i64 n_.events, .slice an_ n_.links.length cn_], Box pe [.int .i64 x4, .int .i64 x5], Box ph [.int .i64 r5.2.code, .int .i64 r5.2.index], Box pi [.int .i64 r6.2.code, .int .i64 r6.2.index]]) (fun _ => h3) ?_ (fun q322 => ?_)
          · rintro t167 hF
            show J _ _ _ _ _ [(1, .slice atimes times.length ctimes), (2, .slice acycle cycle.length ccycle), (3, .pointer (some pn)), (7, .pointer (some pe)), (14, .bool r5.1), (15, .pointer (some ph)), (16, .bool r6.1), (17, .pointer (some pi)), (21, .int .i64 k), (167, .bool t167)] [Box pn [.int .i64 n_.events, .slice an_ n_.links.length cn_], Box pe [.int .i64 x4, .int .i64 x5], Box ph [.int .i64 r5.2.code, .int .i64 r5.2.index], Box pi [.int .i64 r6.2.code, .int .i64 r6.2.index]] h3
            refine .cond rfl (fun q324 => ?_) (fun q324 => ?_)
            · replace hF := hF.1 q324
              refine .skip ?_
              refine .seqN ?_
              refine .share (σ := Int × Int) (fun z => F_lawMatchesSpec_J6 k I1 μ1 x4 x5 z.1 z.2) (fun _ => [(1, .slice atimes times.length ctimes), (2, .slice acycle cycle.length ccycle), (3, .pointer (some pn)), (7, .pointer (some pe)), (14, .bool r5.1), (15, .pointer (some ph)), (16, .bool r6.1), (17, .pointer (some pi)), (21, .int .i64 k)]) (fun z => [Box pn [.int .i64 n_.events, .slice an_ n_.links.length cn_], Box pe [.int .i64 z.1, .int .i64 z.2], Box ph [.int .i64 r5.2.code, .int .i64 r5.2.index], Box pi [.int .i64 r6.2.code, .int .i64 r6.2.index]]) (fun _ => h3) ?_ (fun q329 => ?_)
              · rintro ⟨x8, x9⟩ hF
                show J _ _ _ _ _ [(1, .slice atimes times.length ctimes), (2, .slice acycle cycle.length ccycle), (3, .pointer (some pn)), (7, .pointer (some pe)), (14, .bool r5.1), (15, .pointer (some ph)), (16, .bool r6.1), (17, .pointer (some pi)), (21, .int .i64 k)] [Box pn [.int .i64 n_.events, .slice an_ n_.links.length cn_], Box pe [.int .i64 x8, .int .i64 x9], Box ph [.int .i64 r5.2.code, .int .i64 r5.2.index], Box pi [.int .i64 r6.2.code, .int .i64 r6.2.index]] h3
                refine .region ?_
                refine .v (mv rfl) rfl rfl rfl ?_
                refine .v (bi rfl rfl rfl) rfl rfl rfl ?_
                refine .v (asg rfl) rfl rfl rfl ?_
                refine .nil ?_
                exact .round (IntKind.i64.wrap (k + 1), x8, x9) hF.1 hF.2 (.cons rfl (.cons rfl (.cons rfl (.cons rfl (.cons rfl (.cons rfl (.cons rfl (.cons rfl (.cons rfl (.nil)))))))))) rfl (FH.le_refl _)
              refine .block ?_
              refine .seq ?_
              refine .region ?_
              refine .v (mv rfl) rfl rfl rfl ?_
              refine .v (mv rfl) rfl rfl rfl ?_
              obtain ⟨q330, hF⟩ := hF
              refine .v (ix rfl rfl tS32 (_q3.ne (by decide) (inb_pos q330)) q330) rfl rfl rfl ?_
              refine .v (ld1 (v := .int .i64 (gt times k)) rfl tO3 (cellH ((_q3.mono (FH.le_trans (FH.le_trans (le1) (le2)) (le3))).elemF q330 (by decide) 0 _ rfl))) rfl rfl rfl ?_
              obtain ⟨r9, q331⟩ : ∃ y_ : Bool, y_ = sp_in_ (gt times k) (-1000000) 1000000 := ⟨_, rfl⟩
              replace hF := hF r9 q331
              refine .c (cl (v := .bool r9) Try.call16 rfl rfl (fun w S => (by rw [q331]; exact c_in_ S.sub (gt times k) (-1000000) 1000000 ))) rfl rfl rfl ?_
              refine .v (nt rfl) rfl rfl rfl ?_
              refine .nil ?_
              refine .seqN ?_
              refine .cond rfl (fun q332 => ?_) (fun q332 => ?_)
              · replace hF := hF.1 q332
                refine .region ?_
                refine .v (mv rfl) rfl rfl rfl ?_
                refine .v (bi rfl rfl rfl) rfl rfl rfl ?_
                obtain ⟨r10, q333⟩ : ∃ y_ : Fault, y_ = sp_at_ 3 (IntKind.i64.wrap ((-3) - k)) := ⟨_, rfl⟩
                replace hF := hF r10 q333
                refine .c (cl (v := .agg #[.int .i64 r10.code, .int .i64 r10.index]) Try.call25 rfl rfl (fun w S => (by rw [q333]; exact c_at_ S.sub 3 (IntKind.i64.wrap ((-3) - k)) ))) rfl rfl rfl ?_
                refine st (p := pe) (off := 0) (k := 1) (vs := [.int .i64 r10.code, .int .i64 r10.index]) rfl rfl rfl (fun w => (tA27 w).2) rfl rfl rfl rfl ?_
                refine .cast (A' := [Box pn [.int .i64 n_.events, .slice an_ n_.links.length cn_], Box pe [.int .i64 r10.code, .int .i64 r10.index], Box ph [.int .i64 r5.2.code, .int .i64 r5.2.index], Box pi [.int .i64 r6.2.code, .int .i64 r6.2.index]]) rfl ?_
                refine .nil ?_
                refine .blkN ?_
                exact .use q329 (r10.code, r10.index) hF (.cons rfl (.cons rfl (.cons rfl (.cons rfl (.cons rfl (.cons rfl (.cons rfl (.cons rfl (.cons rfl (.nil)))))))))) rfl (FH.le_refl _)
              replace hF := hF.2 q332
              refine .skip ?_
              refine .blkN ?_
              exact .use q329 (x4, x5) hF (.cons rfl (.cons rfl (.cons rfl (.cons rfl (.cons rfl (.cons rfl (.cons rfl (.cons rfl (.cons rfl (.nil)))))))))) rfl (FH.le_refl _)
            replace hF := hF.2 q324
            refine .exit ?_
            refine .seqX ?_
            refine .seqX ?_
            refine .blkX ?_
            refine .seqN ?_
            refine .seq ?_
            refine .share (σ := Bool) (fun z => F_lawMatchesSpec_J7 n_ cycle K r6 z) (fun z => [(2, .slice acycle cycle.length ccycle), (3, .pointer (some pn)), (7, .pointer (some pe)), (16, .bool r6.1), (17, .pointer (some pi)), (193, .bool z)]) (fun _ => [Box pn [.int .i64 n_.events, .slice an_ n_.links.length cn_], Box pe [.int .i64 x4, .int .i64 x5], Box pi [.int .i64 r6.2.code, .int .i64 r6.2.index]]) (fun _ => h3) ?_ (fun q338 => ?_)
            · rintro t193 hF
              show J _ _ _ _ _ [(2, .slice acycle cycle.length ccycle), (3, .pointer (some pn)), (7, .pointer (some pe)), (16, .bool r6.1), (17, .pointer (some pi)), (193, .bool t193)] [Box pn [.int .i64 n_.events, .slice an_ n_.links.length cn_], Box pe [.int .i64 x4, .int .i64 x5], Box pi [.int .i64 r6.2.code, .int .i64 r6.2.index]] h3
              refine .cond rfl (fun q340 => ?_) (fun q340 => ?_)
              · replace hF := hF.1 q340
                refine .seq ?_
                refine .region ?_
                refine .v (asg rfl) rfl rfl rfl ?_
                refine .nil ?_
                refine .seqN ?_
                refine .ret ?_
                refine .seqR ?_
                refine .res1 rfl (rvT rfl) (fun w' S => ⟨false, hF, rfl, S.below⟩)
              replace hF := hF.2 q340
              refine .skip ?_
              refine .seqN ?_
              refine .seq ?_
              refine .region ?_
              refine .v (bld (cs := #[.int .i64 0, .int .i64 0]) (pv := []) tB27 rfl rfl) rfl rfl rfl ?_
              refine st (p := pe) (off := 0) (k := 1) (vs := [.int .i64 0, .int .i64 0]) rfl rfl rfl (fun w => (tA27 w).2) rfl rfl rfl rfl ?_
              refine .cast (A' := [Box pn [.int .i64 n_.events, .slice an_ n_.links.length cn_], Box pe [.int .i64 0, .int .i64 0], Box pi [.int .i64 r6.2.code, .int .i64 r6.2.index]]) rfl ?_
              refine .nil ?_
              refine .seqN ?_
              refine .seq ?_
              refine .seq ?_
              refine .region ?_
              refine .v (mv rfl) rfl rfl rfl ?_
              refine .v (ln rfl tS32.is) rfl rfl rfl ?_
              obtain ⟨r11, q341⟩ : ∃ y_ : Bool, y_ = sp_in_ ((cycle.length : Nat) : Int) 2 10 := ⟨_, rfl⟩
              replace hF := hF r11 q341
              refine .c (cl (v := .bool r11) Try.call16 rfl rfl (fun w S => (by rw [q341]; exact c_in_ S.sub ((cycle.length : Nat) : Int) 2 10 ))) rfl rfl rfl ?_
              refine .v (nt rfl) rfl rfl rfl ?_
              refine .nil ?_
              refine .seqN ?_
              refine .shareT (σ := Int × Int) (fun z => F_lawMatchesSpec_J8 n_ cycle K r6 z.1 z.2) (fun _ => [(2, .slice acycle cycle.length ccycle), (3, .pointer (some pn)), (7, .pointer (some pe)), (16, .bool r6.1), (17, .pointer (some pi))]) (fun z => [Box pn [.int .i64 n_.events, .slice an_ n_.links.length cn_], Box pe [.int .i64 z.1, .int .i64 z.2], Box pi [.int .i64 r6.2.code, .int .i64 r6.2.index]]) (fun _ => h3) ?_ (fun q344 => ?_)
              · rintro ⟨x10, x11⟩ hF
                show J _ _ _ _ _ [(2, .slice acycle cycle.length ccycle), (3, .pointer (some pn)), (7, .pointer (some pe)), (16, .bool r6.1), (17, .pointer (some pi))] [Box pn [.int .i64 n_.events, .slice an_ n_.links.length cn_], Box pe [.int .i64 x10, .int .i64 x11], Box pi [.int .i64 r6.2.code, .int .i64 r6.2.index]] h3
                refine .seq ?_
                refine .seq ?_
                refine .region ?_
                refine .v (asg rfl) rfl rfl rfl ?_
                refine .nil ?_
                refine .seqN ?_
                refine .block ?_
                obtain ⟨I2, μ2, q417, q418⟩ := hF
                refine .loop' (σ := Int × Int × Int) (fun z => I2 z.1 z.2.1 z.2.2) (fun z => μ2 z.1 z.2.1 z.2.2) (fun z => [(2, .slice acycle cycle.length ccycle), (3, .pointer (some pn)), (7, .pointer (some pe)), (16, .bool r6.1), (17, .pointer (some pi)), (22, .int .i64 z.1)]) (fun z => [Box pn [.int .i64 n_.events, .slice an_ n_.links.length cn_], Box pe [.int .i64 z.2.1, .int .i64 z.2.2], Box pi [.int .i64 r6.2.code, .int .i64 r6.2.index]]) (fun _ => h3) (0, x10, x11) q417 (.cons rfl (.cons rfl (.cons rfl (.cons rfl (.cons rfl (.cons rfl (.nil))))))) rfl (FH.le_refl _) ?_
                rintro ⟨k3, x12, x13⟩ q417
                have hF := q418 k3 x12 x13 q417
                show J _ _ _ _ _ [(2, .slice acycle cycle.length ccycle), (3, .pointer (some pn)), (7, .pointer (some pe)), (16, .bool r6.1), (17, .pointer (some pi)), (22, .int .i64 k3)] [Box pn [.int .i64 n_.events, .slice an_ n_.links.length cn_], Box pe [.int .i64 x12, .int .i64 x13], Box pi [.int .i64 r6.2.code, .int .i64 r6.2.index]] h3
                refine .seq ?_
                refine .share (σ := Bool) (fun z => F_lawMatchesSpec_J9 n_ cycle K r6 z x12 x13 k3 I2 μ2) (fun z => [(2, .slice acycle cycle.length ccycle), (3, .pointer (some pn)), (7, .pointer (some pe)), (16, .bool r6.1), (17, .pointer (some pi)), (22, .int .i64 k3), (208, .bool z)]) (fun _ => [Box pn [.int .i64 n_.events, .slice an_ n_.links.length cn_], Box pe [.int .i64 x12, .int .i64 x13], Box pi [.int .i64 r6.2.code, .int .i64 r6.2.index]]) (fun _ => h3) ?_ (fun q420 => ?_)
                · rintro t208 hF
                  show J _ _ _ _ _ [(2, .slice acycle cycle.length ccycle), (3, .pointer (some pn)), (7, .pointer (some pe)), (16, .bool r6.1), (17, .pointer (some pi)), (22, .int .i64 k3), (208, .bool t208)] [Box pn [.int .i64 n_.events, .slice an_ n_.links.length cn_], Box pe [.int .i64 x12, .int .i64 x13], Box pi [.int .i64 r6.2.code, .int .i64 r6.2.index]] h3
                  refine .cond rfl (fun q422 => ?_) (fun q422 => ?_)
                  · replace hF := hF.1 q422
                    refine .skip ?_
                    refine .seqN ?_
                    refine .share (σ := Int × Int) (fun z => F_lawMatchesSpec_J10 x12 x13 k3 I2 μ2 z.1 z.2) (fun _ => [(2, .slice acycle cycle.length ccycle), (3, .pointer (some pn)), (7, .pointer (some pe)), (16, .bool r6.1), (17, .pointer (some pi)), (22, .int .i64 k3)]) (fun z => [Box pn [.int .i64 n_.events, .slice an_ n_.links.length cn_], Box pe [.int .i64 z.1, .int .i64 z.2], Box pi [.int .i64 r6.2.code, .int .i64 r6.2.index]]) (fun _ => h3) ?_ (fun q427 => ?_)
                    · rintro ⟨x16, x17⟩ hF
                      show J _ _ _ _ _ [(2, .slice acycle cycle.length ccycle), (3, .pointer (some pn)), (7, .pointer (some pe)), (16, .bool r6.1), (17, .pointer (some pi)), (22, .int .i64 k3)] [Box pn [.int .i64 n_.events, .slice an_ n_.links.length cn_], Box pe [.int .i64 x16, .int .i64 x17], Box pi [.int .i64 r6.2.code, .int .i64 r6.2.index]] h3
                      refine .region ?_
                      refine .v (mv rfl) rfl rfl rfl ?_
                      refine .v (bi rfl rfl rfl) rfl rfl rfl ?_
                      refine .v (asg rfl) rfl rfl rfl ?_
                      refine .nil ?_
                      exact .round (IntKind.i64.wrap (k3 + 1), x16, x17) hF.1 hF.2 (.cons rfl (.cons rfl (.cons rfl (.cons rfl (.cons rfl (.cons rfl (.nil))))))) rfl (FH.le_refl _)
                    refine .block ?_
                    refine .seq ?_
                    refine .open_ (by kernel_rfl) (by kernel_rfl) ?_
                    refine .v (mv rfl) rfl rfl rfl ?_
                    refine .v (mv rfl) rfl rfl rfl ?_
                    obtain ⟨q428, hF⟩ := hF
                    refine .v (ix rfl rfl tS32 (_q5.ne (by decide) (inb_pos q428)) q428) rfl rfl rfl ?_
                    refine .v (ld1 (v := .int .i64 (gt cycle k3)) rfl tO3 (cellH ((_q5.mono (FH.le_trans (FH.le_trans (le1) (le2)) (le3))).elemF q428 (by decide) 0 _ rfl))) rfl rfl rfl ?_
                    refine .v (fa rfl tF24_0) rfl rfl rfl ?_
                    refine .v (ld1 rfl tO3 (cellB (off := 0) (k := 0) rfl rfl)) rfl rfl rfl ?_
                    refine .v (bi rfl rfl rfl) rfl rfl rfl ?_
                    obtain ⟨r12, q429⟩ : ∃ y_ : Bool, y_ = sp_in_ (gt cycle k3) 0 (IntKind.i64.wrap (n_.events - 1)) := ⟨_, rfl⟩
                    replace hF := hF r12 q429
                    refine .c (cl (v := .bool r12) Try.call16 rfl rfl (fun w S => (by rw [q429]; exact c_in_ S.sub (gt cycle k3) 0 (IntKind.i64.wrap (n_.events - 1)) ))) rfl rfl rfl ?_
                    refine .v (nt rfl) rfl rfl rfl ?_
                    refine .fin ?_
                    refine .seqN ?_
                    refine .cond rfl (fun q430 => ?_) (fun q430 => ?_)
                    · replace hF := hF.1 q430
                      refine .region ?_
                      refine .v (mv rfl) rfl rfl rfl ?_
                      refine .v (bi rfl rfl rfl) rfl rfl rfl ?_
                      obtain ⟨r13, q431⟩ : ∃ y_ : Fault, y_ = sp_at_ 3 (IntKind.i64.wrap ((-3) - k3)) := ⟨_, rfl⟩
                      replace hF := hF r13 q431
                      refine .c (cl (v := .agg #[.int .i64 r13.code, .int .i64 r13.index]) Try.call25 rfl rfl (fun w S => (by rw [q431]; exact c_at_ S.sub 3 (IntKind.i64.wrap ((-3) - k3)) ))) rfl rfl rfl ?_
                      refine st (p := pe) (off := 0) (k := 1) (vs := [.int .i64 r13.code, .int .i64 r13.index]) rfl rfl rfl (fun w => (tA27 w).2) rfl rfl rfl rfl ?_
                      refine .cast (A' := [Box pn [.int .i64 n_.events, .slice an_ n_.links.length cn_], Box pe [.int .i64 r13.code, .int .i64 r13.index], Box pi [.int .i64 r6.2.code, .int .i64 r6.2.index]]) rfl ?_
                      refine .nil ?_
                      refine .blkN ?_
                      exact .use q427 (r13.code, r13.index) hF (.cons rfl (.cons rfl (.cons rfl (.cons rfl (.cons rfl (.cons rfl (.nil))))))) rfl (FH.le_refl _)
                    replace hF := hF.2 q430
                    refine .skip ?_
                    refine .blkN ?_
                    exact .use q427 (x12, x13) hF (.cons rfl (.cons rfl (.cons rfl (.cons rfl (.cons rfl (.cons rfl (.nil))))))) rfl (FH.le_refl _)
                  replace hF := hF.2 q422
                  refine .exit ?_
                  refine .seqX ?_
                  refine .seqX ?_
                  refine .blkX ?_
                  refine .seqN ?_
                  refine .seq ?_
                  refine .seq ?_
                  refine .region ?_
                  refine .v (fa rfl tF27_0) rfl rfl rfl ?_
                  refine .v (ld1 rfl tO3 (cellB (off := 0) (k := 1) rfl rfl)) rfl rfl rfl ?_
                  refine .v (bi rfl rfl rfl) rfl rfl rfl ?_
                  refine .nil ?_
                  refine .seqN ?_
                  refine .cond rfl (fun q439 => ?_) (fun q439 => ?_)
                  · replace hF := hF.1 q439
                    refine .seq ?_
                    refine .region ?_
                    refine .v (ldA (cs := [.int .i64 r6.2.code, .int .i64 r6.2.index]) rfl tA27 rfl (cellsB (off := 0) (k := 2) rfl (m := 2) rfl)) rfl rfl rfl ?_
                    refine .v (ldA (cs := [.int .i64 x12, .int .i64 x13]) rfl tA27 rfl (cellsB (off := 0) (k := 1) rfl (m := 2) rfl)) rfl rfl rfl ?_
                    refine .v (eq2 tE27 rfl rfl) rfl rfl rfl ?_
                    refine .v (mv rfl) rfl rfl rfl ?_
                    rcases Bool.eq_false_or_eq_true ((r6.2.code == x12) && (r6.2.index == x13)) with q443 | q443
                    · replace hF := hF.1 q443
                      refine .gv (mv rfl) rfl rfl rfl q443 rfl rfl ?_
                      refine .gv (nt rfl) rfl rfl rfl q443 rfl rfl ?_
                      refine .v (pkT rfl q443 rfl) rfl rfl rfl ?_
                      refine .v (mv rfl) rfl rfl rfl ?_
                      rcases Bool.eq_false_or_eq_true (!r6.1) with q444 | q444
                      · replace hF := hF.1 q444
                        obtain ⟨r14, q445⟩ : ∃ y_ : Bool, y_ = sp_bounded := ⟨_, rfl⟩
                        replace hF := hF r14 q445
                        refine .gc (cl (v := .bool r14) Try.call17 rfl rfl (fun w S => (by rw [q445]; exact c_bounded S.sub  ))) rfl rfl rfl q444 rfl rfl ?_
                        refine .v (pkT rfl q444 rfl) rfl rfl rfl ?_
                        refine .v (asg rfl) rfl rfl rfl ?_
                        refine .nil ?_
                        refine .seqN ?_
                        refine .ret ?_
                        refine .seqR ?_
                        refine .res1 rfl (rvT rfl) (fun w' S => ⟨r14, hF, rfl, S.below⟩)
                      replace hF := hF.2 q444
                      refine .gS rfl rfl rfl q444 rfl rfl ?_
                      refine .v (pkF rfl q444 rfl) rfl rfl rfl ?_
                      refine .v (asg rfl) rfl rfl rfl ?_
                      refine .nil ?_
                      refine .seqN ?_
                      refine .ret ?_
                      refine .seqR ?_
                      refine .res1 rfl (rvT rfl) (fun w' S => ⟨false, hF, rfl, S.below⟩)
                    replace hF := hF.2 q443
                    refine .gS rfl rfl rfl q443 rfl rfl ?_
                    refine .gS rfl rfl rfl q443 rfl rfl ?_
                    refine .v (pkF rfl q443 rfl) rfl rfl rfl ?_
                    refine .v (mv rfl) rfl rfl rfl ?_
                    refine .gS rfl rfl rfl rfl rfl rfl ?_
                    refine .v (pkF rfl rfl rfl) rfl rfl rfl ?_
                    refine .v (asg rfl) rfl rfl rfl ?_
                    refine .nil ?_
                    refine .seqN ?_
                    refine .ret ?_
                    refine .seqR ?_
                    refine .res1 rfl (rvT rfl) (fun w' S => ⟨false, hF, rfl, S.below⟩)
                  replace hF := hF.2 q439
                  refine .skip ?_
                  refine .seqN ?_
                  refine .seq ?_
                  refine .region ?_
                  refine .v (asg rfl) rfl rfl rfl ?_
                  refine .nil ?_
                  refine .seqN ?_
                  refine .seq ?_
                  refine .seq ?_
                  refine .region ?_
                  refine .v (asg rfl) rfl rfl rfl ?_
                  refine .nil ?_
                  refine .seqN ?_
                  refine .block ?_
                  refine .sel0 [0, 2] (by decide) rfl ?_
                  obtain ⟨I3, μ3, q602, q603⟩ := hF
                  refine .loop' (σ := Int × Int) (fun z => I3 z.1 z.2) (fun z => μ3 z.1 z.2) (fun z => [(2, .slice acycle cycle.length ccycle), (3, .pointer (some pn)), (16, .bool r6.1), (17, .pointer (some pi)), (23, .int .i64 z.1), (24, .int .i64 z.2)]) (fun _ => [Box pn [.int .i64 n_.events, .slice an_ n_.links.length cn_], Box pi [.int .i64 r6.2.code, .int .i64 r6.2.index]]) (fun _ => h3) (0, 0) q602 (.cons rfl (.cons rfl (.cons rfl (.cons rfl (.cons rfl (.cons rfl (.nil))))))) rfl (FH.le_refl _) ?_
                  rintro ⟨sum, k5⟩ q602
                  have hF := q603 sum k5 q602
                  show J _ _ _ _ _ [(2, .slice acycle cycle.length ccycle), (3, .pointer (some pn)), (16, .bool r6.1), (17, .pointer (some pi)), (23, .int .i64 sum), (24, .int .i64 k5)] [Box pn [.int .i64 n_.events, .slice an_ n_.links.length cn_], Box pi [.int .i64 r6.2.code, .int .i64 r6.2.index]] h3
                  refine .seq ?_
                  refine .seq ?_
                  refine .region ?_
                  refine .v (mv rfl) rfl rfl rfl ?_
                  refine .v (mv rfl) rfl rfl rfl ?_
                  refine .v (ln rfl tS32.is) rfl rfl rfl ?_
                  refine .v (bi rfl rfl rfl) rfl rfl rfl ?_
                  refine .nil ?_
                  refine .seqN ?_
                  refine .cond rfl (fun q605 => ?_) (fun q605 => ?_)
                  · replace hF := hF.1 q605
                    refine .skip ?_
                    refine .seqN ?_
                    refine .seq ?_
                    refine .block ?_
                    refine .seq ?_
                    refine .region ?_
                    refine .v (mv rfl) rfl rfl rfl ?_
                    obtain ⟨q626, hF⟩ := hF
                    refine .v (ix rfl rfl tS32 (_q5.ne (by decide) (inb_pos q626)) q626) rfl rfl rfl ?_
                    refine .v (ld1 (v := .int .i64 (gt cycle (0 : Int))) rfl tO3 (cellH ((_q5.mono (FH.le_trans (FH.le_trans (le1) (le2)) (le3))).elemF q626 (by decide) 0 _ rfl))) rfl rfl rfl ?_
                    refine .v (asg rfl) rfl rfl rfl ?_
                    refine .nil ?_
                    refine .seqN ?_
                    refine .seq ?_
                    refine .seq ?_
                    refine .region ?_
                    refine .v (mv rfl) rfl rfl rfl ?_
                    refine .v (bi rfl rfl rfl) rfl rfl rfl ?_
                    refine .v (mv rfl) rfl rfl rfl ?_
                    refine .v (ln rfl tS32.is) rfl rfl rfl ?_
                    obtain ⟨x18, q627⟩ : ∃ y_ : Bool, y_ = (decide ((IntKind.i64.wrap (k5 + 1)) < ((cycle.length : Nat) : Int))) := ⟨_, rfl⟩
                    replace hF := hF x18 q627
                    refine .v (v := .bool x18) (by rw [q627]; exact bi rfl rfl rfl) rfl rfl rfl ?_
                    refine .nil ?_
                    refine .seqN ?_
                    refine .shareT (σ := Int) (fun z => F_lawMatchesSpec_J11 n_ cycle z sum k5 I3 μ3) (fun z => [(2, .slice acycle cycle.length ccycle), (3, .pointer (some pn)), (16, .bool r6.1), (17, .pointer (some pi)), (23, .int .i64 sum), (24, .int .i64 k5), (25, .int .i64 z)]) (fun _ => [Box pn [.int .i64 n_.events, .slice an_ n_.links.length cn_], Box pi [.int .i64 r6.2.code, .int .i64 r6.2.index]]) (fun _ => h3) ?_ (fun q630 => ?_)
                    · rintro next hF
                      show J _ _ _ _ _ [(2, .slice acycle cycle.length ccycle), (3, .pointer (some pn)), (16, .bool r6.1), (17, .pointer (some pi)), (23, .int .i64 sum), (24, .int .i64 k5), (25, .int .i64 next)] [Box pn [.int .i64 n_.events, .slice an_ n_.links.length cn_], Box pi [.int .i64 r6.2.code, .int .i64 r6.2.index]] h3
                      refine .open_ (by kernel_rfl) (by kernel_rfl) ?_
                      refine .v (mv rfl) rfl rfl rfl ?_
                      refine .v (ldA (cs := [.int .i64 n_.events, .slice an_ n_.links.length cn_]) rfl tA24 rfl (cellsB (off := 0) (k := 0) rfl (m := 2) rfl)) rfl rfl rfl ?_
                      refine .v (mv rfl) rfl rfl rfl ?_
                      refine .v (mv rfl) rfl rfl rfl ?_
                      obtain ⟨q631, hF⟩ := hF
                      refine .v (ix rfl rfl tS32 (_q5.ne (by decide) (inb_pos q631)) q631) rfl rfl rfl ?_
                      refine .v (ld1 (v := .int .i64 (gt cycle k5)) rfl tO3 (cellH ((_q5.mono (FH.le_trans (FH.le_trans (le1) (le2)) (le3))).elemF q631 (by decide) 0 _ rfl))) rfl rfl rfl ?_
                      refine .v (mv rfl) rfl rfl rfl ?_
                      obtain ⟨q632, hF⟩ := hF
                      obtain ⟨r15, q633⟩ : ∃ y_ : Int, y_ = sp_direct n_ (gt cycle k5) next := ⟨_, rfl⟩
                      replace hF := hF r15 q633
                      refine .c (cl (v := .int .i64 r15) Try.call27 rfl rfl (fun w S => (by rw [q633]; exact c_direct S.sub n_ an_ cn_ (_q1.mono (FH.le_trans (FH.le_trans (le1) (le2)) (le3))) _q2 (gt cycle k5) next q632))) rfl rfl rfl ?_
                      refine .v (bi rfl rfl rfl) rfl rfl rfl ?_
                      refine .v (asg rfl) rfl rfl rfl ?_
                      refine .fin ?_
                      refine .blkN ?_
                      refine .seqN ?_
                      refine .region ?_
                      refine .v (mv rfl) rfl rfl rfl ?_
                      refine .v (bi rfl rfl rfl) rfl rfl rfl ?_
                      refine .v (asg rfl) rfl rfl rfl ?_
                      refine .nil ?_
                      exact .round (IntKind.i64.wrap (sum + r15), IntKind.i64.wrap (k5 + 1)) hF.1 hF.2 (.cons rfl (.cons rfl (.cons rfl (.cons rfl (.cons rfl (.cons rfl (.nil))))))) rfl (FH.le_refl _)
                    refine .cond rfl (fun q634 => ?_) (fun q634 => ?_)
                    · replace hF := hF.1 q634
                      refine .region ?_
                      refine .v (mv rfl) rfl rfl rfl ?_
                      refine .v (mv rfl) rfl rfl rfl ?_
                      refine .v (bi rfl rfl rfl) rfl rfl rfl ?_
                      obtain ⟨q635, hF⟩ := hF
                      refine .v (ix rfl rfl tS32 (_q5.ne (by decide) (inb_pos q635)) q635) rfl rfl rfl ?_
                      refine .v (ld1 (v := .int .i64 (gt cycle (IntKind.i64.wrap (k5 + 1)))) rfl tO3 (cellH ((_q5.mono (FH.le_trans (FH.le_trans (le1) (le2)) (le3))).elemF q635 (by decide) 0 _ rfl))) rfl rfl rfl ?_
                      refine .v (asg rfl) rfl rfl rfl ?_
                      refine .nil ?_
                      exact .use q630 (gt cycle (IntKind.i64.wrap (k5 + 1))) hF (.cons rfl (.cons rfl (.cons rfl (.cons rfl (.cons rfl (.cons rfl (.cons rfl (.nil)))))))) rfl (FH.le_refl _)
                    replace hF := hF.2 q634
                    refine .skip ?_
                    exact .use q630 (gt cycle (0 : Int)) hF (.cons rfl (.cons rfl (.cons rfl (.cons rfl (.cons rfl (.cons rfl (.cons rfl (.nil)))))))) rfl (FH.le_refl _)
                  replace hF := hF.2 q605
                  refine .exit ?_
                  refine .seqX ?_
                  refine .seqX ?_
                  refine .blkX ?_
                  refine .seqN ?_
                  refine .seq ?_
                  refine .region ?_
                  refine .v (fa rfl tF27_0) rfl rfl rfl ?_
                  refine .v (ld1 rfl tO3 (cellB (off := 0) (k := 1) rfl rfl)) rfl rfl rfl ?_
                  refine .v (bi rfl rfl rfl) rfl rfl rfl ?_
                  refine .v (mv rfl) rfl rfl rfl ?_
                  rcases Bool.eq_false_or_eq_true (r6.2.code == 0) with q639 | q639
                  · replace hF := hF.1 q639
                    refine .gv (mv rfl) rfl rfl rfl q639 rfl rfl ?_
                    refine .gv (mv rfl) rfl rfl rfl q639 rfl rfl ?_
                    refine .gv (bi rfl rfl rfl) rfl rfl rfl q639 rfl rfl ?_
                    refine .gv (beql Try.underlying4 rfl rfl) rfl rfl rfl q639 rfl rfl ?_
                    refine .v (pkT rfl q639 rfl) rfl rfl rfl ?_
                    refine .v (mv rfl) rfl rfl rfl ?_
                    rcases Bool.eq_false_or_eq_true (r6.1 == (decide (sum < 0))) with q640 | q640
                    · replace hF := hF.1 q640
                      obtain ⟨r16, q641⟩ : ∃ y_ : Bool, y_ = sp_bounded := ⟨_, rfl⟩
                      replace hF := hF r16 q641
                      refine .gc (cl (v := .bool r16) Try.call17 rfl rfl (fun w S => (by rw [q641]; exact c_bounded S.sub  ))) rfl rfl rfl q640 rfl rfl ?_
                      refine .v (pkT rfl q640 rfl) rfl rfl rfl ?_
                      refine .v (asg rfl) rfl rfl rfl ?_
                      refine .nil ?_
                      refine .seqN ?_
                      refine .ret ?_
                      refine .res1 rfl (rvT rfl) (fun w' S => ⟨r16, hF, rfl, S.below⟩)
                    replace hF := hF.2 q640
                    refine .gS rfl rfl rfl q640 rfl rfl ?_
                    refine .v (pkF rfl q640 rfl) rfl rfl rfl ?_
                    refine .v (asg rfl) rfl rfl rfl ?_
                    refine .nil ?_
                    refine .seqN ?_
                    refine .ret ?_
                    refine .res1 rfl (rvT rfl) (fun w' S => ⟨false, hF, rfl, S.below⟩)
                  replace hF := hF.2 q639
                  refine .gS rfl rfl rfl q639 rfl rfl ?_
                  refine .gS rfl rfl rfl q639 rfl rfl ?_
                  refine .gS rfl rfl rfl q639 rfl rfl ?_
                  refine .gS rfl rfl rfl q639 rfl rfl ?_
                  refine .v (pkF rfl q639 rfl) rfl rfl rfl ?_
                  refine .v (mv rfl) rfl rfl rfl ?_
                  refine .gS rfl rfl rfl rfl rfl rfl ?_
                  refine .v (pkF rfl rfl rfl) rfl rfl rfl ?_
                  refine .v (asg rfl) rfl rfl rfl ?_
                  refine .nil ?_
                  refine .seqN ?_
                  refine .ret ?_
                  refine .res1 rfl (rvT rfl) (fun w' S => ⟨false, hF, rfl, S.below⟩)
                refine .region ?_
                refine .v (mv rfl) rfl rfl rfl ?_
                refine .v (mv rfl) rfl rfl rfl ?_
                refine .v (ln rfl tS32.is) rfl rfl rfl ?_
                refine .v (bi rfl rfl rfl) rfl rfl rfl ?_
                refine .v (mv rfl) rfl rfl rfl ?_
                rcases Bool.eq_false_or_eq_true (decide (k3 < ((cycle.length : Nat) : Int))) with q642 | q642
                · replace hF := hF.1 q642
                  refine .gv (fa rfl tF27_0) rfl rfl rfl q642 rfl rfl ?_
                  refine .gv (ld1 rfl tO3 (cellB (off := 0) (k := 1) rfl rfl)) rfl rfl rfl q642 rfl rfl ?_
                  refine .gv (bi rfl rfl rfl) rfl rfl rfl q642 rfl rfl ?_
                  refine .v (pkT rfl q642 rfl) rfl rfl rfl ?_
                  refine .nil ?_
                  exact .use q420 (x12 == 0) hF (.cons rfl (.cons rfl (.cons rfl (.cons rfl (.cons rfl (.cons rfl (.cons rfl (.nil)))))))) rfl (FH.le_refl _)
                replace hF := hF.2 q642
                refine .gS rfl rfl rfl q642 rfl rfl ?_
                refine .gS rfl rfl rfl q642 rfl rfl ?_
                refine .gS rfl rfl rfl q642 rfl rfl ?_
                refine .v (pkF rfl q642 rfl) rfl rfl rfl ?_
                refine .nil ?_
                exact .use q420 false hF (.cons rfl (.cons rfl (.cons rfl (.cons rfl (.cons rfl (.cons rfl (.cons rfl (.nil)))))))) rfl (FH.le_refl _)
              refine .cond rfl (fun q643 => ?_) (fun q643 => ?_)
              · replace hF := hF.1 q643
                refine .region ?_
                obtain ⟨r17, q644⟩ : ∃ y_ : Fault, y_ = sp_at_ 9 (-2) := ⟨_, rfl⟩
                replace hF := hF r17 q644
                refine .c (cl (v := .agg #[.int .i64 r17.code, .int .i64 r17.index]) Try.call25 rfl rfl (fun w S => (by rw [q644]; exact c_at_ S.sub 9 (-2) ))) rfl rfl rfl ?_
                refine st (p := pe) (off := 0) (k := 1) (vs := [.int .i64 r17.code, .int .i64 r17.index]) rfl rfl rfl (fun w => (tA27 w).2) rfl rfl rfl rfl ?_
                refine .cast (A' := [Box pn [.int .i64 n_.events, .slice an_ n_.links.length cn_], Box pe [.int .i64 r17.code, .int .i64 r17.index], Box pi [.int .i64 r6.2.code, .int .i64 r6.2.index]]) rfl ?_
                refine .nil ?_
                exact .use q344 (r17.code, r17.index) hF (.cons rfl (.cons rfl (.cons rfl (.cons rfl (.cons rfl (.nil)))))) rfl (FH.le_refl _)
              replace hF := hF.2 q643
              refine .skip ?_
              exact .use q344 (0, 0) hF (.cons rfl (.cons rfl (.cons rfl (.cons rfl (.cons rfl (.nil)))))) rfl (FH.le_refl _)
            refine .region ?_
            refine .v (ldA (cs := [.int .i64 r5.2.code, .int .i64 r5.2.index]) rfl tA27 rfl (cellsB (off := 0) (k := 2) rfl (m := 2) rfl)) rfl rfl rfl ?_
            refine .v (ldA (cs := [.int .i64 x4, .int .i64 x5]) rfl tA27 rfl (cellsB (off := 0) (k := 1) rfl (m := 2) rfl)) rfl rfl rfl ?_
            refine .v (ne2 tE27 rfl rfl) rfl rfl rfl ?_
            refine .v (mv rfl) rfl rfl rfl ?_
            rcases Bool.eq_false_or_eq_true (!((r5.2.code == x4) && (r5.2.index == x5))) with q645 | q645
            · replace hF := hF.1 q645
              refine .gS rfl rfl rfl q645 rfl rfl ?_
              refine .gS rfl rfl rfl q645 rfl rfl ?_
              refine .gS rfl rfl rfl q645 rfl rfl ?_
              refine .gS rfl rfl rfl q645 rfl rfl ?_
              refine .gS rfl rfl rfl q645 rfl rfl ?_
              refine .gU rfl rfl rfl rfl rfl ?_
              refine .gU rfl rfl rfl rfl rfl ?_
              refine .gU rfl rfl rfl rfl rfl ?_
              refine .gS rfl rfl rfl q645 rfl rfl ?_
              refine .gS rfl rfl rfl q645 rfl rfl ?_
              refine .v (pkT rfl q645 rfl) rfl rfl rfl ?_
              refine .nil ?_
              refine .sel0 [0, 1, 3] (by decide) rfl ?_
              exact .use q338 true hF (.cons rfl (.cons rfl (.cons rfl (.cons rfl (.cons rfl (.cons rfl (.nil))))))) rfl (FH.le_refl _)
            replace hF := hF.2 q645
            refine .gv (mv rfl) rfl rfl rfl q645 rfl rfl ?_
            refine .gv (fa rfl tF27_0) rfl rfl rfl q645 rfl rfl ?_
            refine .gv (ld1 rfl tO3 (cellB (off := 0) (k := 1) rfl rfl)) rfl rfl rfl q645 rfl rfl ?_
            refine .gv (bi rfl rfl rfl) rfl rfl rfl q645 rfl rfl ?_
            refine .gv (mv rfl) rfl rfl rfl q645 rfl rfl ?_
            rcases Bool.eq_false_or_eq_true (x4 == 0) with q646 | q646
            · replace hF := hF.1 q646
              refine .gv (ldA (cs := [.int .i64 n_.events, .slice an_ n_.links.length cn_]) rfl tA24 rfl (cellsB (off := 0) (k := 0) rfl (m := 2) rfl)) rfl rfl rfl q646 rfl rfl ?_
              refine .gv (mv rfl) rfl rfl rfl q646 rfl rfl ?_
              obtain ⟨q647, hF⟩ := hF
              obtain ⟨r18, q648⟩ : ∃ y_ : Bool, y_ = sp_isSchedule n_ times := ⟨_, rfl⟩
              replace hF := hF r18 q648
              refine .gc (cl (v := .bool r18) Try.call26 rfl rfl (fun w S => (by rw [q648]; exact c_isSchedule S.sub n_ an_ cn_ (_q1.mono (FH.le_trans (FH.le_trans (le1) (le2)) (le3))) _q2 times atimes ctimes (_q3.mono (FH.le_trans (FH.le_trans (le1) (le2)) (le3))) _q4 q647))) rfl rfl rfl q646 rfl rfl ?_
              refine .gv (pkT rfl q646 rfl) rfl rfl rfl q645 rfl rfl ?_
              refine .gv (bneq Try.underlying4 rfl rfl) rfl rfl rfl q645 rfl rfl ?_
              refine .v (pkF rfl q645 rfl) rfl rfl rfl ?_
              refine .nil ?_
              refine .sel0 [0, 1, 3] (by decide) rfl ?_
              exact .use q338 (r5.1 != r18) hF (.cons rfl (.cons rfl (.cons rfl (.cons rfl (.cons rfl (.cons rfl (.nil))))))) rfl (FH.le_refl _)
            replace hF := hF.2 q646
            refine .gS rfl rfl rfl q646 rfl rfl ?_
            refine .gS rfl rfl rfl q646 rfl rfl ?_
            refine .gS rfl rfl rfl q646 rfl rfl ?_
            refine .gv (pkF rfl q646 rfl) rfl rfl rfl q645 rfl rfl ?_
            refine .gv (bneq Try.underlying4 rfl rfl) rfl rfl rfl q645 rfl rfl ?_
            refine .v (pkF rfl q645 rfl) rfl rfl rfl ?_
            refine .nil ?_
            refine .sel0 [0, 1, 3] (by decide) rfl ?_
            exact .use q338 (r5.1 != false) hF (.cons rfl (.cons rfl (.cons rfl (.cons rfl (.cons rfl (.cons rfl (.nil))))))) rfl (FH.le_refl _)
          refine .region ?_
          refine .v (mv rfl) rfl rfl rfl ?_
          refine .v (mv rfl) rfl rfl rfl ?_
          refine .v (ln rfl tS32.is) rfl rfl rfl ?_
          refine .v (bi rfl rfl rfl) rfl rfl rfl ?_
          refine .v (mv rfl) rfl rfl rfl ?_
          rcases Bool.eq_false_or_eq_true (decide (k < ((times.length : Nat) : Int))) with q649 | q649
          · replace hF := hF.1 q649
            refine .gv (fa rfl tF27_0) rfl rfl rfl q649 rfl rfl ?_
            refine .gv (ld1 rfl tO3 (cellB (off := 0) (k := 1) rfl rfl)) rfl rfl rfl q649 rfl rfl ?_
            refine .gv (bi rfl rfl rfl) rfl rfl rfl q649 rfl rfl ?_
            refine .v (pkT rfl q649 rfl) rfl rfl rfl ?_
            refine .nil ?_
            exact .use q322 (x4 == 0) hF (.cons rfl (.cons rfl (.cons rfl (.cons rfl (.cons rfl (.cons rfl (.cons rfl (.cons rfl (.cons rfl (.cons rfl (.nil))))))))))) rfl (FH.le_refl _)
          replace hF := hF.2 q649
          refine .gS rfl rfl rfl q649 rfl rfl ?_
          refine .gS rfl rfl rfl q649 rfl rfl ?_
          refine .gS rfl rfl rfl q649 rfl rfl ?_
          refine .v (pkF rfl q649 rfl) rfl rfl rfl ?_
          refine .nil ?_
          exact .use q322 false hF (.cons rfl (.cons rfl (.cons rfl (.cons rfl (.cons rfl (.cons rfl (.cons rfl (.cons rfl (.cons rfl (.cons rfl (.nil))))))))))) rfl (FH.le_refl _)
        refine .cond rfl (fun q650 => ?_) (fun q650 => ?_)
        · replace hF := hF.1 q650
          refine .region ?_
          obtain ⟨r19, q651⟩ : ∃ y_ : Fault, y_ = sp_at_ 9 (-2) := ⟨_, rfl⟩
          replace hF := hF r19 q651
          refine .c (cl (v := .agg #[.int .i64 r19.code, .int .i64 r19.index]) Try.call25 rfl rfl (fun w S => (by rw [q651]; exact c_at_ S.sub 9 (-2) ))) rfl rfl rfl ?_
          refine st (p := pe) (off := 0) (k := 1) (vs := [.int .i64 r19.code, .int .i64 r19.index]) rfl rfl rfl (fun w => (tA27 w).2) rfl rfl rfl rfl ?_
          refine .cast (A' := [Box pn [.int .i64 n_.events, .slice an_ n_.links.length cn_], Box pe [.int .i64 r19.code, .int .i64 r19.index], Box ph [.int .i64 r5.2.code, .int .i64 r5.2.index], Box pi [.int .i64 r6.2.code, .int .i64 r6.2.index]]) rfl ?_
          refine .nil ?_
          exact .use q246 (r19.code, r19.index) hF (.cons rfl (.cons rfl (.cons rfl (.cons rfl (.cons rfl (.cons rfl (.cons rfl (.cons rfl (.nil))))))))) rfl (FH.le_refl _)
        replace hF := hF.2 q650
        refine .skip ?_
        exact .use q246 (0, 0) hF (.cons rfl (.cons rfl (.cons rfl (.cons rfl (.cons rfl (.cons rfl (.cons rfl (.cons rfl (.nil))))))))) rfl (FH.le_refl _)
      refine .cond rfl (fun q652 => ?_) (fun q652 => ?_)
      · replace hF := hF.1 q652
        refine .seq ?_
        refine .region ?_
        refine .v (asg rfl) rfl rfl rfl ?_
        refine .nil ?_
        refine .seqN ?_
        refine .block ?_
        obtain ⟨I4, μ4, q765, q766⟩ := hF
        refine .loop' (σ := Int) (fun z => I4 z) (fun z => μ4 z) (fun z => [(1, .slice atimes times.length ctimes), (2, .slice acycle cycle.length ccycle), (3, .pointer (some pn)), (7, .pointer (some pe)), (11, .slice a2 r4.1.length c2), (14, .bool r5.1), (15, .pointer (some ph)), (16, .bool r6.1), (17, .pointer (some pi)), (18, .slice a3 r8.1.length c3), (20, .int .i64 z)]) (fun _ => [Box pn [.int .i64 n_.events, .slice an_ n_.links.length cn_], Box pe [.int .i64 r2.code, .int .i64 r2.index], Box ph [.int .i64 r5.2.code, .int .i64 r5.2.index], Box pi [.int .i64 r6.2.code, .int .i64 r6.2.index]]) (fun _ => h3) 0 q765 (.cons rfl (.cons rfl (.cons rfl (.cons rfl (.cons rfl (.cons rfl (.cons rfl (.cons rfl (.cons rfl (.cons rfl (.cons rfl (.nil)))))))))))) rfl (FH.le_refl _) ?_
        rintro k7 q765
        have hF := q766 k7 q765
        show J _ _ _ _ _ [(1, .slice atimes times.length ctimes), (2, .slice acycle cycle.length ccycle), (3, .pointer (some pn)), (7, .pointer (some pe)), (11, .slice a2 r4.1.length c2), (14, .bool r5.1), (15, .pointer (some ph)), (16, .bool r6.1), (17, .pointer (some pi)), (18, .slice a3 r8.1.length c3), (20, .int .i64 k7)] [Box pn [.int .i64 n_.events, .slice an_ n_.links.length cn_], Box pe [.int .i64 r2.code, .int .i64 r2.index], Box ph [.int .i64 r5.2.code, .int .i64 r5.2.index], Box pi [.int .i64 r6.2.code, .int .i64 r6.2.index]] h3
        refine .seq ?_
        refine .seq ?_
        refine .region ?_
        refine .v (mv rfl) rfl rfl rfl ?_
        refine .v (fa rfl tF24_0) rfl rfl rfl ?_
        refine .v (ld1 rfl tO3 (cellB (off := 0) (k := 0) rfl rfl)) rfl rfl rfl ?_
        refine .v (bi rfl rfl rfl) rfl rfl rfl ?_
        refine .nil ?_
        refine .seqN ?_
        refine .cond rfl (fun q768 => ?_) (fun q768 => ?_)
        · replace hF := hF.1 q768
          refine .skip ?_
          refine .seqN ?_
          refine .seq ?_
          refine .block ?_
          refine .share (σ := Bool) (fun z => F_lawMatchesSpec_J12 K z k7 I4 μ4) (fun z => [(1, .slice atimes times.length ctimes), (2, .slice acycle cycle.length ccycle), (3, .pointer (some pn)), (7, .pointer (some pe)), (11, .slice a2 r4.1.length c2), (14, .bool r5.1), (15, .pointer (some ph)), (16, .bool r6.1), (17, .pointer (some pi)), (18, .slice a3 r8.1.length c3), (20, .int .i64 k7), (148, .bool z)]) (fun _ => [Box pn [.int .i64 n_.events, .slice an_ n_.links.length cn_], Box pe [.int .i64 r2.code, .int .i64 r2.index], Box ph [.int .i64 r5.2.code, .int .i64 r5.2.index], Box pi [.int .i64 r6.2.code, .int .i64 r6.2.index]]) (fun _ => h3) ?_ (fun q813 => ?_)
          · rintro t148 hF
            show J _ _ _ _ _ [(1, .slice atimes times.length ctimes), (2, .slice acycle cycle.length ccycle), (3, .pointer (some pn)), (7, .pointer (some pe)), (11, .slice a2 r4.1.length c2), (14, .bool r5.1), (15, .pointer (some ph)), (16, .bool r6.1), (17, .pointer (some pi)), (18, .slice a3 r8.1.length c3), (20, .int .i64 k7), (148, .bool t148)] [Box pn [.int .i64 n_.events, .slice an_ n_.links.length cn_], Box pe [.int .i64 r2.code, .int .i64 r2.index], Box ph [.int .i64 r5.2.code, .int .i64 r5.2.index], Box pi [.int .i64 r6.2.code, .int .i64 r6.2.index]] h3
            refine .cond rfl (fun q814 => ?_) (fun q814 => ?_)
            · replace hF := hF.1 q814
              refine .seq ?_
              refine .region ?_
              refine .v (asg rfl) rfl rfl rfl ?_
              refine .nil ?_
              refine .seqN ?_
              refine .ret ?_
              refine .blkR ?_
              refine .seqR ?_
              refine .seqR ?_
              refine .blkR ?_
              refine .seqR ?_
              refine .res1 rfl (rvT rfl) (fun w' S => ⟨false, hF, rfl, S.below⟩)
            replace hF := hF.2 q814
            refine .skip ?_
            refine .blkN ?_
            refine .seqN ?_
            refine .region ?_
            refine .v (mv rfl) rfl rfl rfl ?_
            refine .v (bi rfl rfl rfl) rfl rfl rfl ?_
            refine .v (asg rfl) rfl rfl rfl ?_
            refine .nil ?_
            exact .round (IntKind.i64.wrap (k7 + 1)) hF.1 hF.2 (.cons rfl (.cons rfl (.cons rfl (.cons rfl (.cons rfl (.cons rfl (.cons rfl (.cons rfl (.cons rfl (.cons rfl (.cons rfl (.nil)))))))))))) rfl (FH.le_refl _)
          refine .open_ (by kernel_rfl) (by kernel_rfl) ?_
          refine .v (mv rfl) rfl rfl rfl ?_
          refine .v (ln rfl tS32.is) rfl rfl rfl ?_
          refine .v (fa rfl tF24_0) rfl rfl rfl ?_
          refine .v (ld1 rfl tO3 (cellB (off := 0) (k := 0) rfl rfl)) rfl rfl rfl ?_
          refine .v (bi rfl rfl rfl) rfl rfl rfl ?_
          refine .v (mv rfl) rfl rfl rfl ?_
          rcases Bool.eq_false_or_eq_true (((r4.1.length : Nat) : Int) != n_.events) with q815 | q815
          · replace hF := hF.1 q815
            refine .gS rfl rfl rfl q815 rfl rfl ?_
            refine .gS rfl rfl rfl q815 rfl rfl ?_
            refine .gS rfl rfl rfl q815 rfl rfl ?_
            refine .gS rfl rfl rfl q815 rfl rfl ?_
            refine .gS rfl rfl rfl q815 rfl rfl ?_
            refine .gS rfl rfl rfl q815 rfl rfl ?_
            refine .gS rfl rfl rfl q815 rfl rfl ?_
            refine .gS rfl rfl rfl q815 rfl rfl ?_
            refine .gS rfl rfl rfl q815 rfl rfl ?_
            refine .gS rfl rfl rfl q815 rfl rfl ?_
            refine .gS rfl rfl rfl q815 rfl rfl ?_
            refine .gS rfl rfl rfl q815 rfl rfl ?_
            refine .v (pkT rfl q815 rfl) rfl rfl rfl ?_
            refine .fin ?_
            exact .use q813 true hF (.cons rfl (.cons rfl (.cons rfl (.cons rfl (.cons rfl (.cons rfl (.cons rfl (.cons rfl (.cons rfl (.cons rfl (.cons rfl (.cons rfl (.nil))))))))))))) rfl (FH.le_refl _)
          replace hF := hF.2 q815
          refine .gv (mv rfl) rfl rfl rfl q815 rfl rfl ?_
          refine .gv (mv rfl) rfl rfl rfl q815 rfl rfl ?_
          obtain ⟨q816, hF⟩ := hF
          refine .gv (ix rfl rfl tS32 (q12.ne (by decide) (inb_pos q816)) q816) rfl rfl rfl q815 rfl rfl ?_
          refine .gv (ld1 (v := .int .i64 (gt r4.1 k7)) rfl tO3 (cellH ((q12.mono (le3)).elemF q816 (by decide) 0 _ rfl))) rfl rfl rfl q815 rfl rfl ?_
          refine .gv (mv rfl) rfl rfl rfl q815 rfl rfl ?_
          refine .gv (mv rfl) rfl rfl rfl q815 rfl rfl ?_
          obtain ⟨q817, hF⟩ := hF
          refine .gv (ix rfl rfl tS25 (q62.ne (by decide) (inb_pos q817)) q817) rfl rfl rfl q815 rfl rfl ?_
          obtain ⟨_, ⟨a4, c4, rfl, q818, q819⟩, q820⟩ := q62.elem q817
          refine .gv (ld1 (v := .slice a4 ((gt r8.1 k7).length) c4) rfl tO32 (cellH (q820 (by decide) 0 _ rfl))) rfl rfl rfl q815 rfl rfl ?_
          obtain ⟨q821, hF⟩ := hF
          refine .gv (ix rfl rfl tS32 (q819.ne (by decide) (inb_pos q821)) q821) rfl rfl rfl q815 rfl rfl ?_
          refine .gv (ld1 (v := .int .i64 (gt (gt r8.1 k7) (0 : Int))) rfl tO3 (cellH (q819.elemF q821 (by decide) 0 _ rfl))) rfl rfl rfl q815 rfl rfl ?_
          refine .gv (un rfl) rfl rfl rfl q815 rfl rfl ?_
          obtain ⟨x19, q822⟩ : ∃ y_ : Bool, y_ = ((gt r4.1 k7) != (IntKind.i64.wrap (0 - (gt (gt r8.1 k7) (0 : Int))))) := ⟨_, rfl⟩
          replace hF := hF x19 q822
          refine .gv (v := .bool x19) (by rw [q822]; exact bi rfl rfl rfl) rfl rfl rfl q815 rfl rfl ?_
          refine .v (pkF rfl q815 rfl) rfl rfl rfl ?_
          refine .fin ?_
          exact .use q813 x19 hF (.cons rfl (.cons rfl (.cons rfl (.cons rfl (.cons rfl (.cons rfl (.cons rfl (.cons rfl (.cons rfl (.cons rfl (.cons rfl (.cons rfl (.nil))))))))))))) rfl (FH.le_refl _)
        replace hF := hF.2 q768
        refine .exit ?_
        refine .seqX ?_
        refine .seqX ?_
        refine .blkX ?_
        exact .use q243 () hF (.cons rfl (.cons rfl (.cons rfl (.cons rfl (.cons rfl (.cons rfl (.cons rfl (.cons rfl (.nil))))))))) rfl (FH.le_refl _)
      replace hF := hF.2 q652
      refine .seq ?_
      refine .region ?_
      refine .v (mv rfl) rfl rfl rfl ?_
      refine .v (ln rfl tS32.is) rfl rfl rfl ?_
      refine .v (bi rfl rfl rfl) rfl rfl rfl ?_
      refine .nil ?_
      refine .seqN ?_
      refine .cond rfl (fun q823 => ?_) (fun q823 => ?_)
      · replace hF := hF.1 q823
        refine .seq ?_
        refine .region ?_
        refine .v (asg rfl) rfl rfl rfl ?_
        refine .nil ?_
        refine .seqN ?_
        refine .ret ?_
        refine .seqR ?_
        refine .res1 rfl (rvT rfl) (fun w' S => ⟨false, hF, rfl, S.below⟩)
      replace hF := hF.2 q823
      refine .skip ?_
      exact .use q243 () hF (.cons rfl (.cons rfl (.cons rfl (.cons rfl (.cons rfl (.cons rfl (.cons rfl (.cons rfl (.nil))))))))) rfl (FH.le_refl _)
    refine .region ?_
    refine .v (mv rfl) rfl rfl rfl ?_
    refine .v (mv rfl) rfl rfl rfl ?_
    refine .v (bneq Try.underlying4 rfl rfl) rfl rfl rfl ?_
    refine .v (mv rfl) rfl rfl rfl ?_
    rcases Bool.eq_false_or_eq_true (r3.2.1 != r8.2) with q824 | q824
    · replace hF := hF.1 q824
      refine .gS rfl rfl rfl q824 rfl rfl ?_
      refine .gS rfl rfl rfl q824 rfl rfl ?_
      refine .gS rfl rfl rfl q824 rfl rfl ?_
      refine .v (pkT rfl q824 rfl) rfl rfl rfl ?_
      refine .v (mv rfl) rfl rfl rfl ?_
      refine .gS rfl rfl rfl rfl rfl rfl ?_
      refine .gS rfl rfl rfl rfl rfl rfl ?_
      refine .gS rfl rfl rfl rfl rfl rfl ?_
      refine .gS rfl rfl rfl rfl rfl rfl ?_
      refine .v (pkT rfl rfl rfl) rfl rfl rfl ?_
      refine .nil ?_
      exact .use q68 true hF (.cons rfl (.cons rfl (.cons rfl (.cons rfl (.cons rfl (.cons rfl (.cons rfl (.cons rfl (.cons rfl (.cons rfl (.cons rfl (.cons rfl (.nil))))))))))))) rfl (FH.le_refl _)
    replace hF := hF.2 q824
    refine .gv (mv rfl) rfl rfl rfl q824 rfl rfl ?_
    refine .gv (mv rfl) rfl rfl rfl q824 rfl rfl ?_
    refine .gv (bneq Try.underlying4 rfl rfl) rfl rfl rfl q824 rfl rfl ?_
    refine .v (pkF rfl q824 rfl) rfl rfl rfl ?_
    refine .v (mv rfl) rfl rfl rfl ?_
    rcases Bool.eq_false_or_eq_true (r4.2.1 != r8.2) with q825 | q825
    · replace hF := hF.1 q825
      refine .gS rfl rfl rfl q825 rfl rfl ?_
      refine .gS rfl rfl rfl q825 rfl rfl ?_
      refine .gS rfl rfl rfl q825 rfl rfl ?_
      refine .gS rfl rfl rfl q825 rfl rfl ?_
      refine .v (pkT rfl q825 rfl) rfl rfl rfl ?_
      refine .nil ?_
      exact .use q68 true hF (.cons rfl (.cons rfl (.cons rfl (.cons rfl (.cons rfl (.cons rfl (.cons rfl (.cons rfl (.cons rfl (.cons rfl (.cons rfl (.cons rfl (.nil))))))))))))) rfl (FH.le_refl _)
    replace hF := hF.2 q825
    refine .gv (mv rfl) rfl rfl rfl q825 rfl rfl ?_
    refine .gv (mv rfl) rfl rfl rfl q825 rfl rfl ?_
    obtain ⟨q826, hF⟩ := hF
    obtain ⟨r20, q827⟩ : ∃ y_ : Bool, y_ = sp_sets r3.1 r8.1 := ⟨_, rfl⟩
    replace hF := hF r20 q827
    refine .gc (cl (v := .bool r20) Try.call24 rfl rfl (fun w S => (by rw [q827]; exact c_sets S.sub r3.1 a c (q9.mono (FH.le_trans (le2) (le3))) q10 r8.1 a3 c3 q62 q63 q826))) rfl rfl rfl q825 rfl rfl ?_
    refine .gv (nt rfl) rfl rfl rfl q825 rfl rfl ?_
    refine .v (pkF rfl q825 rfl) rfl rfl rfl ?_
    refine .nil ?_
    exact .use q68 (!r20) hF (.cons rfl (.cons rfl (.cons rfl (.cons rfl (.cons rfl (.cons rfl (.cons rfl (.cons rfl (.cons rfl (.cons rfl (.cons rfl (.cons rfl (.nil))))))))))))) rfl (FH.le_refl _)
  refine .open_ (by kernel_rfl) (by kernel_rfl) ?_
  refine .v (ldA (cs := [.int .i64 n_.events, .slice an_ n_.links.length cn_]) rfl tA24 rfl (cellsB (off := 0) (k := 5) rfl (m := 2) rfl)) rfl rfl rfl ?_
  obtain ⟨r21, q828⟩ : ∃ y_ : Fault, y_ = sp_validate n_ := ⟨_, rfl⟩
  replace hF := hF r21 q828
  refine .c (cl (v := .agg #[.int .i64 r21.code, .int .i64 r21.index]) Try.call22 rfl rfl (fun w S => (by rw [q828]; exact c_validate S.sub n_ an_ cn_ (_q1.mono (FH.le_trans (le1) (le2))) _q2 ))) rfl rfl rfl ?_
  refine .v (ldA (cs := [.int .i64 r2.code, .int .i64 r2.index]) rfl tA27 rfl (cellsB (off := 0) (k := 4) rfl (m := 2) rfl)) rfl rfl rfl ?_
  refine .v (ne2 tE27 rfl rfl) rfl rfl rfl ?_
  refine .v (mv rfl) rfl rfl rfl ?_
  rcases Bool.eq_false_or_eq_true (!((r21.code == r2.code) && (r21.index == r2.index))) with q829 | q829
  · replace hF := hF.1 q829
    refine .gS rfl rfl rfl q829 rfl rfl ?_
    refine .gS rfl rfl rfl q829 rfl rfl ?_
    refine .gS rfl rfl rfl q829 rfl rfl ?_
    refine .v (pkT rfl q829 rfl) rfl rfl rfl ?_
    refine .v (mv rfl) rfl rfl rfl ?_
    refine .gS rfl rfl rfl rfl rfl rfl ?_
    refine .gS rfl rfl rfl rfl rfl rfl ?_
    refine .gS rfl rfl rfl rfl rfl rfl ?_
    refine .v (pkT rfl rfl rfl) rfl rfl rfl ?_
    refine .fin ?_
    refine .sel0 [5, 4, 1, 0] (by decide) rfl ?_
    exact .use q19 true hF (.cons rfl (.cons rfl (.cons rfl (.cons rfl (.cons rfl (.cons rfl (.cons rfl (.cons rfl (.cons rfl (.cons rfl (.cons rfl (.cons rfl (.cons rfl (.nil)))))))))))))) rfl (FH.le_refl _)
  replace hF := hF.2 q829
  refine .gv (ldA (cs := [.int .i64 r3.2.2.code, .int .i64 r3.2.2.index]) rfl tA27 rfl (cellsB (off := 0) (k := 3) rfl (m := 2) rfl)) rfl rfl rfl q829 rfl rfl ?_
  refine .gv (ldA (cs := [.int .i64 r2.code, .int .i64 r2.index]) rfl tA27 rfl (cellsB (off := 0) (k := 4) rfl (m := 2) rfl)) rfl rfl rfl q829 rfl rfl ?_
  refine .gv (ne2 tE27 rfl rfl) rfl rfl rfl q829 rfl rfl ?_
  refine .v (pkF rfl q829 rfl) rfl rfl rfl ?_
  refine .v (mv rfl) rfl rfl rfl ?_
  rcases Bool.eq_false_or_eq_true (!((r3.2.2.code == r2.code) && (r3.2.2.index == r2.index))) with q830 | q830
  · replace hF := hF.1 q830
    refine .gS rfl rfl rfl q830 rfl rfl ?_
    refine .gS rfl rfl rfl q830 rfl rfl ?_
    refine .gS rfl rfl rfl q830 rfl rfl ?_
    refine .v (pkT rfl q830 rfl) rfl rfl rfl ?_
    refine .fin ?_
    refine .sel0 [5, 4, 1, 0] (by decide) rfl ?_
    exact .use q19 true hF (.cons rfl (.cons rfl (.cons rfl (.cons rfl (.cons rfl (.cons rfl (.cons rfl (.cons rfl (.cons rfl (.cons rfl (.cons rfl (.cons rfl (.cons rfl (.nil)))))))))))))) rfl (FH.le_refl _)
  replace hF := hF.2 q830
  refine .gv (ldA (cs := [.int .i64 r4.2.2.code, .int .i64 r4.2.2.index]) rfl tA27 rfl (cellsB (off := 0) (k := 2) rfl (m := 2) rfl)) rfl rfl rfl q830 rfl rfl ?_
  refine .gv (ldA (cs := [.int .i64 r2.code, .int .i64 r2.index]) rfl tA27 rfl (cellsB (off := 0) (k := 4) rfl (m := 2) rfl)) rfl rfl rfl q830 rfl rfl ?_
  refine .gv (ne2 tE27 rfl rfl) rfl rfl rfl q830 rfl rfl ?_
  refine .v (pkF rfl q830 rfl) rfl rfl rfl ?_
  refine .fin ?_
  refine .sel0 [5, 4, 1, 0] (by decide) rfl ?_
  exact .use q19 (!((r4.2.2.code == r2.code) && (r4.2.2.index == r2.index))) hF (.cons rfl (.cons rfl (.cons rfl (.cons rfl (.cons rfl (.cons rfl (.cons rfl (.cons rfl (.cons rfl (.cons rfl (.cons rfl (.cons rfl (.cons rfl (.nil)))))))))))))) rfl (FH.le_refl _)

theorem c_lawMatchesSpec {h : FH} {w : World} (hs : Sub h w) (n_ : Network) (an_ : Option Addr) (cn_ : Nat) (_q1 : RSl h an_ n_.links) (_q2 : n_.links.length ≤ cn_) (times : List Int) (atimes : Option Addr) (ctimes : Nat) (_q3 : RSl h atimes times) (_q4 : times.length ≤ ctimes) (cycle : List Int) (acycle : Option Addr) (ccycle : Nat) (_q5 : RSl h acycle cycle) (_q6 : cycle.length ≤ ccycle) : Calls Try.prog 7 #[.agg #[.int .i64 n_.events, .slice an_ n_.links.length cn_], .slice atimes times.length ctimes, .slice acycle cycle.length ccycle] w fun e w' => e = .returned (.bool (sp_lawMatchesSpec n_ times cycle)) ∧ Below w.heap.size w w' :=
  (w_lawMatchesSpec hs n_ an_ cn_ _q1 _q2 times atimes ctimes _q3 _q4 cycle acycle ccycle _q5 _q6 (fun r => r = sp_lawMatchesSpec n_ times cycle) (ok_lawMatchesSpec n_ times cycle)).mono fun _ _ ⟨_, hk, he, hb⟩ => ⟨by rw [he, hk], hb⟩

end Go.Proofs.Ytijicdmpidbacaa.Pl
