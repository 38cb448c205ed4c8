/- The walks: from what each function asks to what it does; printed from the code. No condition. -/
import Derived.Test.YtaenggfmpagjgaaW2
namespace Go.Proofs.Ytaenggfmpagjgaa.Pl
open Go Go.RowKit
theorem w_changed {h : FH} {w : World} (hs : Sub h w) (facts : Int) (s_ : List Int) (as_ : Option Addr) (cs_ : Nat) (_q1 : RSl h as_ s_) (_q2 : s_.length ≤ cs_) (add : List Int) (aadd : Option Addr) (cadd : Nat) (_q3 : RSl h aadd add) (_q4 : add.length ≤ cadd) (del : List Int) (adel : Option Addr) (cdel : Nat) (_q5 : RSl h adel del) (_q6 : del.length ≤ cdel) (K : (List Int) → Prop) (hF : F_changed facts s_ add del K) : Calls Try.prog 34 #[.int .i64 facts, .slice as_ s_.length cs_, .slice aadd add.length cadd, .slice adel del.length cdel] w fun e w' => ∃ (r : List Int) (z : Option Addr × Nat) (h1 : FH), K r ∧ e = .returned (.slice z.1 r.length z.2) ∧ FH.le h h1 ∧ (RSl h1 z.1 r ∧ r.length ≤ z.2) ∧ SH (Kp.all w h) h1 w' [] := by
  refine enter (args := [.int .i64 facts, .slice as_ s_.length cs_, .slice aadd add.length cadd, .slice adel del.length cdel]) Try.func34 rfl Try.ntmps34 rfl hs ?_
  refine .seq ?_
  refine .region ?_
  refine .v (asg rfl) rfl rfl rfl ?_
  refine .nil ?_
  refine .seqN ?_
  refine .seq ?_
  refine .region ?_
  refine .v (asg rfl) rfl rfl rfl ?_
  refine .nil ?_
  refine .seqN ?_
  refine .seq ?_
  refine .seq ?_
  refine .region ?_
  refine .v (asg rfl) rfl rfl rfl ?_
  refine .nil ?_
  refine .seqN ?_
  refine .block ?_
  refine .nilSl 3 1 ?_
  refine .cast (A' := [OwnSl 3 1 none (([] : List Int).length) 0 (flL ([] : List Int))]) rfl ?_
  obtain ⟨I1, μ1, q234, q235⟩ := hF
  refine .loop' (σ := Int × List Int × Option Addr × Nat) (fun z => I1 z.1 z.2.1) (fun z => μ1 z.1 z.2.1) (fun z => [(0, .int .i64 facts), (1, .slice as_ s_.length cs_), (2, .slice aadd add.length cadd), (3, .slice adel del.length cdel), (9, .slice z.2.2.1 z.2.1.length z.2.2.2), (10, .int .i64 z.1)]) (fun z => [OwnSl 3 1 z.2.2.1 z.2.1.length z.2.2.2 (flL z.2.1)]) (fun _ => h) (0, ([] : List Int), none, 0) q234 (.cons rfl (.cons rfl (.cons rfl (.cons rfl (.cons rfl (.cons rfl (.nil))))))) rfl (FH.le_refl _) ?_
  rintro ⟨p, out, aout, cout⟩ q234
  have hF := q235 p out q234
  show J _ _ _ _ _ [(0, .int .i64 facts), (1, .slice as_ s_.length cs_), (2, .slice aadd add.length cadd), (3, .slice adel del.length cdel), (9, .slice aout out.length cout), (10, .int .i64 p)] [OwnSl 3 1 aout out.length cout (flL out)] h
  refine .seq ?_
  refine .seq ?_
  refine .region ?_
  refine .v (mv rfl) rfl rfl rfl ?_
  refine .v (mv rfl) rfl rfl rfl ?_
  refine .v (bi rfl rfl rfl) rfl rfl rfl ?_
  refine .nil ?_
  refine .seqN ?_
  refine .cond rfl (fun q237 => ?_) (fun q237 => ?_)
  · replace hF := hF.1 q237
    refine .skip ?_
    refine .seqN ?_
    refine .share (σ := List Int × Option Addr × Nat) (fun z => F_changed_J1 out p I1 μ1 z.1) (fun z => [(0, .int .i64 facts), (1, .slice as_ s_.length cs_), (2, .slice aadd add.length cadd), (3, .slice adel del.length cdel), (9, .slice z.2.1 z.1.length z.2.2), (10, .int .i64 p)]) (fun z => [OwnSl 3 1 z.2.1 z.1.length z.2.2 (flL z.1)]) (fun _ => h) ?_ (fun q259 => ?_)
    · rintro ⟨out3, aout3, cout3⟩ hF
      show J _ _ _ _ _ [(0, .int .i64 facts), (1, .slice as_ s_.length cs_), (2, .slice aadd add.length cadd), (3, .slice adel del.length cdel), (9, .slice aout3 out3.length cout3), (10, .int .i64 p)] [OwnSl 3 1 aout3 out3.length cout3 (flL out3)] h
      refine .region ?_
      refine .v (mv rfl) rfl rfl rfl ?_
      refine .v (bi rfl rfl rfl) rfl rfl rfl ?_
      refine .v (asg rfl) rfl rfl rfl ?_
      refine .nil ?_
      exact .round (IntKind.i64.wrap (p + 1), out3, aout3, cout3) hF.1 hF.2 (.cons rfl (.cons rfl (.cons rfl (.cons rfl (.cons rfl (.cons rfl (.nil))))))) rfl (FH.le_refl _)
    refine .block ?_
    refine .share (σ := Bool) (fun z => F_changed_J2 z out p I1 μ1) (fun z => [(0, .int .i64 facts), (1, .slice as_ s_.length cs_), (2, .slice aadd add.length cadd), (3, .slice adel del.length cdel), (9, .slice aout out.length cout), (10, .int .i64 p), (29, .bool z)]) (fun _ => [OwnSl 3 1 aout out.length cout (flL out)]) (fun _ => h) ?_ (fun q268 => ?_)
    · rintro t29 hF
      show J _ _ _ _ _ [(0, .int .i64 facts), (1, .slice as_ s_.length cs_), (2, .slice aadd add.length cadd), (3, .slice adel del.length cdel), (9, .slice aout out.length cout), (10, .int .i64 p), (29, .bool t29)] [OwnSl 3 1 aout out.length cout (flL out)] h
      refine .cond rfl (fun q269 => ?_) (fun q269 => ?_)
      · replace hF := hF.1 q269
        refine .region ?_
        refine .v (mv rfl) rfl rfl rfl ?_
        refine .v (mv rfl) rfl rfl rfl ?_
        refine bs2 (cs := #[.int .i64 p]) (pv := [(0, .int .i64 p)]) tS22 rfl rfl (by decide) (by decide) rfl rfl rfl (fun a _ => ?_)
        refine .cast (A' := [OwnSl 3 1 a (([p] : List Int).length) 1 (flL ([p] : List Int)), OwnSl 3 1 aout out.length cout (flL out)]) rfl ?_
        obtain ⟨q271, hF⟩ := hF
        have q272 : out.length + ([p] : List Int).length = ((out ++ ([p] : List Int))).length := len_app rfl rfl
        refine app (k := 1) (news := flL ([p] : List Int)) (cs' := flL (out ++ ([p] : List Int))) (nm := ((out ++ ([p] : List Int))).length) tS22 rfl (by decide) rfl rfl rfl (by rw [flL_len]; rfl) (srcS (k := 0) rfl) (flL_one _) (room_of q272 q271).1 (room_of q272 q271).2 q272 (flL_append _ _).symm rfl (fun a2 c => ?_)
        refine .cast (A' := [OwnSl 3 1 a (([p] : List Int).length) 1 (flL ([p] : List Int)), OwnSl 3 1 a2 ((out ++ ([p] : List Int)).length) c (flL (out ++ ([p] : List Int)))]) rfl ?_
        refine .v (asg rfl) rfl rfl rfl ?_
        refine .nil ?_
        refine .blkN ?_
        refine .sel0 [1] (by decide) rfl ?_
        exact .use q259 ((out ++ ([p] : List Int)), a2, c) hF (.cons rfl (.cons rfl (.cons rfl (.cons rfl (.cons rfl (.cons rfl (.nil))))))) rfl (FH.le_refl _)
      replace hF := hF.2 q269
      refine .skip ?_
      refine .blkN ?_
      exact .use q259 (out, aout, cout) hF (.cons rfl (.cons rfl (.cons rfl (.cons rfl (.cons rfl (.cons rfl (.nil))))))) rfl (FH.le_refl _)
    refine .region ?_
    refine .v (mv rfl) rfl rfl rfl ?_
    refine .v (mv rfl) rfl rfl rfl ?_
    obtain ⟨q273, hF⟩ := hF
    obtain ⟨r2, q274⟩ : ∃ y_ : Bool, y_ = sp_has add p := ⟨_, rfl⟩
    replace hF := hF r2 q274
    refine .c (cl (v := .bool r2) Try.call40 rfl rfl (fun w S => (by rw [q274]; exact c_has S.sub add aadd cadd _q3 _q4 p q273))) rfl rfl rfl ?_
    refine .v (mv rfl) rfl rfl rfl ?_
    rcases Bool.eq_false_or_eq_true (r2) with q275 | q275
    · replace hF := hF.1 q275
      refine .gS rfl rfl rfl q275 rfl rfl ?_
      refine .gS rfl rfl rfl q275 rfl rfl ?_
      refine .gS rfl rfl rfl q275 rfl rfl ?_
      refine .gS rfl rfl rfl q275 rfl rfl ?_
      refine .gU rfl rfl rfl rfl rfl ?_
      refine .gU rfl rfl rfl rfl rfl ?_
      refine .gU rfl rfl rfl rfl rfl ?_
      refine .gU rfl rfl rfl rfl rfl ?_
      refine .gS rfl rfl rfl q275 rfl rfl ?_
      refine .v (pkT rfl q275 rfl) rfl rfl rfl ?_
      refine .nil ?_
      exact .use q268 true hF (.cons rfl (.cons rfl (.cons rfl (.cons rfl (.cons rfl (.cons rfl (.cons rfl (.nil)))))))) rfl (FH.le_refl _)
    replace hF := hF.2 q275
    refine .gv (mv rfl) rfl rfl rfl q275 rfl rfl ?_
    refine .gv (mv rfl) rfl rfl rfl q275 rfl rfl ?_
    obtain ⟨q276, hF⟩ := hF
    obtain ⟨r3, q277⟩ : ∃ y_ : Bool, y_ = sp_has s_ p := ⟨_, rfl⟩
    replace hF := hF r3 q277
    refine .gc (cl (v := .bool r3) Try.call40 rfl rfl (fun w S => (by rw [q277]; exact c_has S.sub s_ as_ cs_ _q1 _q2 p q276))) rfl rfl rfl q275 rfl rfl ?_
    refine .gv (mv rfl) rfl rfl rfl q275 rfl rfl ?_
    rcases Bool.eq_false_or_eq_true (r3) with q278 | q278
    · replace hF := hF.1 q278
      refine .gv (mv rfl) rfl rfl rfl q278 rfl rfl ?_
      refine .gv (mv rfl) rfl rfl rfl q278 rfl rfl ?_
      obtain ⟨q279, hF⟩ := hF
      obtain ⟨r4, q280⟩ : ∃ y_ : Bool, y_ = sp_has del p := ⟨_, rfl⟩
      replace hF := hF r4 q280
      refine .gc (cl (v := .bool r4) Try.call40 rfl rfl (fun w S => (by rw [q280]; exact c_has S.sub del adel cdel _q5 _q6 p q279))) rfl rfl rfl q278 rfl rfl ?_
      refine .gv (nt rfl) rfl rfl rfl q278 rfl rfl ?_
      refine .gv (pkT rfl q278 rfl) rfl rfl rfl q275 rfl rfl ?_
      refine .v (pkF rfl q275 rfl) rfl rfl rfl ?_
      refine .nil ?_
      exact .use q268 (!r4) hF (.cons rfl (.cons rfl (.cons rfl (.cons rfl (.cons rfl (.cons rfl (.cons rfl (.nil)))))))) rfl (FH.le_refl _)
    replace hF := hF.2 q278
    refine .gS rfl rfl rfl q278 rfl rfl ?_
    refine .gS rfl rfl rfl q278 rfl rfl ?_
    refine .gS rfl rfl rfl q278 rfl rfl ?_
    refine .gS rfl rfl rfl q278 rfl rfl ?_
    refine .gv (pkF rfl q278 rfl) rfl rfl rfl q275 rfl rfl ?_
    refine .v (pkF rfl q275 rfl) rfl rfl rfl ?_
    refine .nil ?_
    exact .use q268 false hF (.cons rfl (.cons rfl (.cons rfl (.cons rfl (.cons rfl (.cons rfl (.cons rfl (.nil)))))))) rfl (FH.le_refl _)
  replace hF := hF.2 q237
  refine .exit ?_
  refine .seqX ?_
  refine .seqX ?_
  refine .blkX ?_
  refine .seqN ?_
  refine .seq ?_
  refine .region ?_
  refine .v (mv rfl) rfl rfl rfl ?_
  refine .v (asg rfl) rfl rfl rfl ?_
  refine .nil ?_
  refine .seqN ?_
  refine .freezeL (k := 0) rfl (fun h1 le1 q282 q281 => ?_)
  refine .cast (A' := [tru]) rfl ?_
  refine .ret ?_
  refine .res1 rfl (rvT rfl) (fun w' S => ⟨out, (aout, cout), h1, hF, rfl, (le1), ⟨(RSl.of q281), (q282)⟩, S.none⟩)

theorem c_changed {h : FH} {w : World} (hs : Sub h w) (facts : Int) (s_ : List Int) (as_ : Option Addr) (cs_ : Nat) (_q1 : RSl h as_ s_) (_q2 : s_.length ≤ cs_) (add : List Int) (aadd : Option Addr) (cadd : Nat) (_q3 : RSl h aadd add) (_q4 : add.length ≤ cadd) (del : List Int) (adel : Option Addr) (cdel : Nat) (_q5 : RSl h adel del) (_q6 : del.length ≤ cdel) (hp : pre_changed facts s_ add del) : Calls Try.prog 34 #[.int .i64 facts, .slice as_ s_.length cs_, .slice aadd add.length cadd, .slice adel del.length cdel] w fun e w' => ∃ (z : Option Addr × Nat) (h1 : FH), e = .returned (.slice z.1 (sp_changed facts s_ add del).length z.2) ∧ FH.le h h1 ∧ (RSl h1 z.1 (sp_changed facts s_ add del) ∧ (sp_changed facts s_ add del).length ≤ z.2) ∧ SH (Kp.all w h) h1 w' [] :=
  (w_changed hs facts s_ as_ cs_ _q1 _q2 add aadd cadd _q3 _q4 del adel cdel _q5 _q6 (fun r => r = sp_changed facts s_ add del) (ok_changed facts s_ add del hp)).mono fun _ _ ⟨r, z, h1, hk, he, hl, hf, hS⟩ => by subst hk; exact ⟨z, h1, he, hl, hf, hS⟩

theorem w_minus {h : FH} {w : World} (hs : Sub h w) (a : List Int) (aa : Option Addr) (ca : Nat) (_q1 : RSl h aa a) (_q2 : a.length ≤ ca) (b : List Int) (ab : Option Addr) (cb : Nat) (_q3 : RSl h ab b) (_q4 : b.length ≤ cb) (K : (List Int) → Prop) (hF : F_minus a b K) : Calls Try.prog 37 #[.slice aa a.length ca, .slice ab b.length cb] w fun e w' => ∃ (r : List Int) (z : Option Addr × Nat) (h1 : FH), K r ∧ e = .returned (.slice z.1 r.length z.2) ∧ FH.le h h1 ∧ True ∧ SH (Kp.all w h) h1 w' [OwnSl 3 1 z.1 r.length z.2 (flL r)] := by
  refine enter (args := [.slice aa a.length ca, .slice ab b.length cb]) Try.func37 rfl Try.ntmps37 rfl hs ?_
  refine .seq ?_
  refine .region ?_
  refine .v (asg rfl) rfl rfl rfl ?_
  refine .nil ?_
  refine .seqN ?_
  refine .seq ?_
  refine .region ?_
  refine .v (mv rfl) rfl rfl rfl ?_
  refine .v (mv rfl) rfl rfl rfl ?_
  obtain ⟨q5, hF⟩ := hF
  obtain ⟨r2, q6⟩ : ∃ y_ : List Int, y_ = sp_update a [] b := ⟨_, rfl⟩
  replace hF := hF r2 q6
  refine clO (α := Option Addr × Nat) (V := fun z => .slice z.1 r2.length z.2) (Ψ := fun z => True) (B := fun z => [OwnSl 3 1 z.1 r2.length z.2 (flL r2)]) Try.call27 rfl rfl (fun w S => (by rw [q6]; exact c_update S.sub a aa ca _q1 _q2 [] none 0 RSl.nil_ (Nat.le_refl 0) b ab cb _q3 _q4 q5)) rfl (fun z _ => ?_)
  obtain ⟨a2, c⟩ := z
  refine .cast (A' := [OwnSl 3 1 a2 r2.length c (flL r2)]) rfl ?_
  refine .v (asg rfl) rfl rfl rfl ?_
  refine .nil ?_
  refine .seqN ?_
  refine .ret ?_
  refine .res1 rfl (rvT rfl) (fun w' S => ⟨r2, (a2, c), h, hF, rfl, (FH.le_refl _), trivial, S.pick (k := 0) rfl⟩)

theorem c_minus {h : FH} {w : World} (hs : Sub h w) (a : List Int) (aa : Option Addr) (ca : Nat) (_q1 : RSl h aa a) (_q2 : a.length ≤ ca) (b : List Int) (ab : Option Addr) (cb : Nat) (_q3 : RSl h ab b) (_q4 : b.length ≤ cb) (hp : pre_minus a b) : Calls Try.prog 37 #[.slice aa a.length ca, .slice ab b.length cb] w fun e w' => ∃ (z : Option Addr × Nat) (h0 h1 : FH), e = .returned (.slice z.1 (sp_minus a b).length z.2) ∧ (True) ∧ FH.le h h1 ∧ SH (Kp.all w h0) h1 w' [OwnSl 3 1 z.1 (sp_minus a b).length z.2 (flL (sp_minus a b))] :=
  (w_minus hs a aa ca _q1 _q2 b ab cb _q3 _q4 (fun r => r = sp_minus a b) (ok_minus a b hp)).mono fun _ _ ⟨r, z, h1, hk, he, hl, hψ, hS⟩ => by subst hk; exact ⟨z, h, h1, he, hψ, hl, hS⟩

theorem w_union {h : FH} {w : World} (hs : Sub h w) (a : List Int) (aa : Option Addr) (ca : Nat) (_q1 : RSl h aa a) (_q2 : a.length ≤ ca) (b : List Int) (ab : Option Addr) (cb : Nat) (_q3 : RSl h ab b) (_q4 : b.length ≤ cb) (K : (List Int) → Prop) (hF : F_union a b K) : Calls Try.prog 36 #[.slice aa a.length ca, .slice ab b.length cb] w fun e w' => ∃ (r : List Int) (z : Option Addr × Nat) (h1 : FH), K r ∧ e = .returned (.slice z.1 r.length z.2) ∧ FH.le h h1 ∧ True ∧ SH (Kp.all w h) h1 w' [OwnSl 3 1 z.1 r.length z.2 (flL r)] := by
  refine enter (args := [.slice aa a.length ca, .slice ab b.length cb]) Try.func36 rfl Try.ntmps36 rfl hs ?_
  refine .seq ?_
  refine .region ?_
  refine .v (asg rfl) rfl rfl rfl ?_
  refine .nil ?_
  refine .seqN ?_
  refine .seq ?_
  refine .region ?_
  refine .v (mv rfl) rfl rfl rfl ?_
  refine .v (mv rfl) rfl rfl rfl ?_
  obtain ⟨q5, hF⟩ := hF
  obtain ⟨r2, q6⟩ : ∃ y_ : List Int, y_ = sp_update a b [] := ⟨_, rfl⟩
  replace hF := hF r2 q6
  refine clO (α := Option Addr × Nat) (V := fun z => .slice z.1 r2.length z.2) (Ψ := fun z => True) (B := fun z => [OwnSl 3 1 z.1 r2.length z.2 (flL r2)]) Try.call27 rfl rfl (fun w S => (by rw [q6]; exact c_update S.sub a aa ca _q1 _q2 b ab cb _q3 _q4 [] none 0 RSl.nil_ (Nat.le_refl 0) q5)) rfl (fun z _ => ?_)
  obtain ⟨a2, c⟩ := z
  refine .cast (A' := [OwnSl 3 1 a2 r2.length c (flL r2)]) rfl ?_
  refine .v (asg rfl) rfl rfl rfl ?_
  refine .nil ?_
  refine .seqN ?_
  refine .ret ?_
  refine .res1 rfl (rvT rfl) (fun w' S => ⟨r2, (a2, c), h, hF, rfl, (FH.le_refl _), trivial, S.pick (k := 0) rfl⟩)

theorem c_union {h : FH} {w : World} (hs : Sub h w) (a : List Int) (aa : Option Addr) (ca : Nat) (_q1 : RSl h aa a) (_q2 : a.length ≤ ca) (b : List Int) (ab : Option Addr) (cb : Nat) (_q3 : RSl h ab b) (_q4 : b.length ≤ cb) (hp : pre_union a b) : Calls Try.prog 36 #[.slice aa a.length ca, .slice ab b.length cb] w fun e w' => ∃ (z : Option Addr × Nat) (h0 h1 : FH), e = .returned (.slice z.1 (sp_union a b).length z.2) ∧ (True) ∧ FH.le h h1 ∧ SH (Kp.all w h0) h1 w' [OwnSl 3 1 z.1 (sp_union a b).length z.2 (flL (sp_union a b))] :=
  (w_union hs a aa ca _q1 _q2 b ab cb _q3 _q4 (fun r => r = sp_union a b) (ok_union a b hp)).mono fun _ _ ⟨r, z, h1, hk, he, hl, hψ, hS⟩ => by subst hk; exact ⟨z, h, h1, he, hψ, hl, hS⟩

set_option maxHeartbeats 8000000 in
theorem w_tcode {h : FH} {w : World} (hs : Sub h w) (o : TOp) (ao : Option Addr) (co : Nat) (_q1 : RSl h ao o.atStart) (_q2 : o.atStart.length ≤ co) (ao2 : Option Addr) (co2 : Nat) (_q3 : RSl h ao2 o.over) (_q4 : o.over.length ≤ co2) (ao3 : Option Addr) (co3 : Nat) (_q5 : RSl h ao3 o.atEnd) (_q6 : o.atEnd.length ≤ co3) (ao4 : Option Addr) (co4 : Nat) (_q7 : RSl h ao4 o.addStart) (_q8 : o.addStart.length ≤ co4) (ao5 : Option Addr) (co5 : Nat) (_q9 : RSl h ao5 o.delStart) (_q10 : o.delStart.length ≤ co5) (ao6 : Option Addr) (co6 : Nat) (_q11 : RSl h ao6 o.addEnd) (_q12 : o.addEnd.length ≤ co6) (ao7 : Option Addr) (co7 : Nat) (_q13 : RSl h ao7 o.delEnd) (_q14 : o.delEnd.length ≤ co7) (facts : Int) (K : Int → Prop) (hF : F_tcode o facts K) : Calls Try.prog 29 #[.agg #[.slice ao o.atStart.length co, .slice ao2 o.over.length co2, .slice ao3 o.atEnd.length co3, .slice ao4 o.addStart.length co4, .slice ao5 o.delStart.length co5, .slice ao6 o.addEnd.length co6, .slice ao7 o.delEnd.length co7, .int .i64 o.dur], .int .i64 facts] w fun e w' => ∃ r : Int, K r ∧ e = .returned (.int .i64 r) ∧ Below w.heap.size w w' := by
  refine enter (args := [.agg #[.slice ao o.atStart.length co, .slice ao2 o.over.length co2, .slice ao3 o.atEnd.length co3, .slice ao4 o.addStart.length co4, .slice ao5 o.delStart.length co5, .slice ao6 o.addEnd.length co6, .slice ao7 o.delEnd.length co7, .int .i64 o.dur], .int .i64 facts]) Try.func29 rfl Try.ntmps29 rfl hs ?_
  refine .seq ?_
  refine .region ?_
  refine bx (vs := [.slice ao o.atStart.length co, .slice ao2 o.over.length co2, .slice ao3 o.atEnd.length co3, .slice ao4 o.addStart.length co4, .slice ao5 o.delStart.length co5, .slice ao6 o.addEnd.length co6, .slice ao7 o.delEnd.length co7, .int .i64 o.dur]) rfl rfl rfl (fun po => ?_)
  refine .v (asg rfl) rfl rfl rfl ?_
  refine .nil ?_
  refine .seqN ?_
  refine .seq ?_
  refine .seq ?_
  refine .region ?_
  refine .v (fa rfl tF41_0) rfl rfl rfl ?_
  refine .v (ld1 rfl tO22 (cellB (off := 0) (k := 0) rfl rfl)) rfl rfl rfl ?_
  refine .v (fa rfl tF41_1) rfl rfl rfl ?_
  refine .v (ld1 rfl tO22 (cellB (off := 1) (k := 0) rfl rfl)) rfl rfl rfl ?_
  refine .v (fa rfl tF41_2) rfl rfl rfl ?_
  refine .v (ld1 rfl tO22 (cellB (off := 2) (k := 0) rfl rfl)) rfl rfl rfl ?_
  refine .v (fa rfl tF41_3) rfl rfl rfl ?_
  refine .v (ld1 rfl tO22 (cellB (off := 3) (k := 0) rfl rfl)) rfl rfl rfl ?_
  refine .v (fa rfl tF41_4) rfl rfl rfl ?_
  refine .v (ld1 rfl tO22 (cellB (off := 4) (k := 0) rfl rfl)) rfl rfl rfl ?_
  refine .v (fa rfl tF41_5) rfl rfl rfl ?_
  refine .v (ld1 rfl tO22 (cellB (off := 5) (k := 0) rfl rfl)) rfl rfl rfl ?_
  refine .v (fa rfl tF41_6) rfl rfl rfl ?_
  refine .v (ld1 rfl tO22 (cellB (off := 6) (k := 0) rfl rfl)) rfl rfl rfl ?_
  refine bs2 (cs := #[.slice ao o.atStart.length co, .slice ao2 o.over.length co2, .slice ao3 o.atEnd.length co3, .slice ao4 o.addStart.length co4, .slice ao5 o.delStart.length co5, .slice ao6 o.addEnd.length co6, .slice ao7 o.delEnd.length co7]) (pv := [(0, .slice ao o.atStart.length co), (1, .slice ao2 o.over.length co2), (2, .slice ao3 o.atEnd.length co3), (3, .slice ao4 o.addStart.length co4), (4, .slice ao5 o.delStart.length co5), (5, .slice ao6 o.addEnd.length co6), (6, .slice ao7 o.delEnd.length co7)]) tS84 rfl rfl (by decide) (by decide) rfl rfl rfl (fun a _ => ?_)
  refine .cast (A' := [OwnSl 22 1 a (([o.atStart, o.over, o.atEnd, o.addStart, o.delStart, o.addEnd, o.delEnd] : List (List Int)).length) 7 [.slice ao o.atStart.length co, .slice ao2 o.over.length co2, .slice ao3 o.atEnd.length co3, .slice ao4 o.addStart.length co4, .slice ao5 o.delStart.length co5, .slice ao6 o.addEnd.length co6, .slice ao7 o.delEnd.length co7], Box po [.slice ao o.atStart.length co, .slice ao2 o.over.length co2, .slice ao3 o.atEnd.length co3, .slice ao4 o.addStart.length co4, .slice ao5 o.delStart.length co5, .slice ao6 o.addEnd.length co6, .slice ao7 o.delEnd.length co7, .int .i64 o.dur]]) rfl ?_
  refine .freezeL (k := 0) rfl (fun h1 le1 q17 q16 => ?_)
  refine .cast (A' := [tru, Box po [.slice ao o.atStart.length co, .slice ao2 o.over.length co2, .slice ao3 o.atEnd.length co3, .slice ao4 o.addStart.length co4, .slice ao5 o.delStart.length co5, .slice ao6 o.addEnd.length co6, .slice ao7 o.delEnd.length co7, .int .i64 o.dur]]) rfl ?_
  obtain ⟨x, q18⟩ : ∃ y_ : Int, y_ = ((([o.atStart, o.over, o.atEnd, o.addStart, o.delStart, o.addEnd, o.delEnd] : List (List Int)).length : Nat) : Int) := ⟨_, rfl⟩
  replace hF := hF x q18
  refine .v (v := .int .i64 x) (by rw [q18]; exact ln rfl tS84.is) rfl rfl rfl ?_
  refine .v (mv rfl) rfl rfl rfl ?_
  refine .nil ?_
  refine .seqN ?_
  refine .block ?_
  refine .sel0 [1] (by decide) rfl ?_
  obtain ⟨I1, μ1, q141, q142⟩ := hF
  refine .loop' (σ := Int) (fun z => I1 z) (fun z => μ1 z) (fun z => [(1, .int .i64 facts), (2, .pointer (some po)), (21, .slice a (([o.atStart, o.over, o.atEnd, o.addStart, o.delStart, o.addEnd, o.delEnd] : List (List Int)).length) 7), (22, .int .i64 x), (23, .int .i64 z)]) (fun _ => [Box po [.slice ao o.atStart.length co, .slice ao2 o.over.length co2, .slice ao3 o.atEnd.length co3, .slice ao4 o.addStart.length co4, .slice ao5 o.delStart.length co5, .slice ao6 o.addEnd.length co6, .slice ao7 o.delEnd.length co7, .int .i64 o.dur]]) (fun _ => h1) 0 q141 (.cons rfl (.cons rfl (.cons rfl (.cons rfl (.cons rfl (.nil)))))) rfl (FH.le_refl _) ?_
  rintro t23 q141
  have hF := q142 t23 q141
  show J _ _ _ _ _ [(1, .int .i64 facts), (2, .pointer (some po)), (21, .slice a (([o.atStart, o.over, o.atEnd, o.addStart, o.delStart, o.addEnd, o.delEnd] : List (List Int)).length) 7), (22, .int .i64 x), (23, .int .i64 t23)] [Box po [.slice ao o.atStart.length co, .slice ao2 o.over.length co2, .slice ao3 o.atEnd.length co3, .slice ao4 o.addStart.length co4, .slice ao5 o.delStart.length co5, .slice ao6 o.addEnd.length co6, .slice ao7 o.delEnd.length co7, .int .i64 o.dur]] h1
  refine .seq ?_
  refine .region ?_
  refine .v (bi rfl rfl rfl) rfl rfl rfl ?_
  refine .nil ?_
  refine .seqN ?_
  refine .seq ?_
  refine .cond rfl (fun q145 => ?_) (fun q145 => ?_)
  · replace hF := hF.1 q145
    refine .skip ?_
    refine .seqN ?_
    refine .seq ?_
    refine .block ?_
    refine .seq ?_
    refine .region ?_
    obtain ⟨q160, hF⟩ := hF
    refine .v (ix rfl rfl tS84 ((show RSl h1 a ([o.atStart, o.over, o.atEnd, o.addStart, o.delStart, o.addEnd, o.delEnd] : List (List Int)) from ⟨_, (show RepL h ([o.atStart, o.over, o.atEnd, o.addStart, o.delStart, o.addEnd, o.delEnd] : List (List Int)) [.slice ao o.atStart.length co, .slice ao2 o.over.length co2, .slice ao3 o.atEnd.length co3, .slice ao4 o.addStart.length co4, .slice ao5 o.delStart.length co5, .slice ao6 o.addEnd.length co6, .slice ao7 o.delEnd.length co7] from ⟨[.slice ao o.atStart.length co], _, rfl, ⟨ao, co, rfl, _q2, _q1⟩, ⟨[.slice ao2 o.over.length co2], _, rfl, ⟨ao2, co2, rfl, _q4, _q3⟩, ⟨[.slice ao3 o.atEnd.length co3], _, rfl, ⟨ao3, co3, rfl, _q6, _q5⟩, ⟨[.slice ao4 o.addStart.length co4], _, rfl, ⟨ao4, co4, rfl, _q8, _q7⟩, ⟨[.slice ao5 o.delStart.length co5], _, rfl, ⟨ao5, co5, rfl, _q10, _q9⟩, ⟨[.slice ao6 o.addEnd.length co6], _, rfl, ⟨ao6, co6, rfl, _q12, _q11⟩, ⟨[.slice ao7 o.delEnd.length co7], _, rfl, ⟨ao7, co7, rfl, _q14, _q13⟩, rfl⟩⟩⟩⟩⟩⟩⟩).mono (le1), q16⟩).ne (by decide) (inb_pos q160)) q160) rfl rfl rfl ?_
    obtain ⟨_, ⟨a2, c, rfl, q161, q162⟩, q163⟩ := (show RSl h1 a ([o.atStart, o.over, o.atEnd, o.addStart, o.delStart, o.addEnd, o.delEnd] : List (List Int)) from ⟨_, (show RepL h ([o.atStart, o.over, o.atEnd, o.addStart, o.delStart, o.addEnd, o.delEnd] : List (List Int)) [.slice ao o.atStart.length co, .slice ao2 o.over.length co2, .slice ao3 o.atEnd.length co3, .slice ao4 o.addStart.length co4, .slice ao5 o.delStart.length co5, .slice ao6 o.addEnd.length co6, .slice ao7 o.delEnd.length co7] from ⟨[.slice ao o.atStart.length co], _, rfl, ⟨ao, co, rfl, _q2, _q1⟩, ⟨[.slice ao2 o.over.length co2], _, rfl, ⟨ao2, co2, rfl, _q4, _q3⟩, ⟨[.slice ao3 o.atEnd.length co3], _, rfl, ⟨ao3, co3, rfl, _q6, _q5⟩, ⟨[.slice ao4 o.addStart.length co4], _, rfl, ⟨ao4, co4, rfl, _q8, _q7⟩, ⟨[.slice ao5 o.delStart.length co5], _, rfl, ⟨ao5, co5, rfl, _q10, _q9⟩, ⟨[.slice ao6 o.addEnd.length co6], _, rfl, ⟨ao6, co6, rfl, _q12, _q11⟩, ⟨[.slice ao7 o.delEnd.length co7], _, rfl, ⟨ao7, co7, rfl, _q14, _q13⟩, rfl⟩⟩⟩⟩⟩⟩⟩).mono (le1), q16⟩).elem q160
    refine .v (ld1 (v := .slice a2 ((gt ([o.atStart, o.over, o.atEnd, o.addStart, o.delStart, o.addEnd, o.delEnd] : List (List Int)) t23).length) c) rfl tO22 (cellH (q163 (by decide) 0 _ rfl))) rfl rfl rfl ?_
    refine .v (asg rfl) rfl rfl rfl ?_
    refine .nil ?_
    refine .seqN ?_
    refine .seq ?_
    refine .region ?_
    refine .v (mv rfl) rfl rfl rfl ?_
    refine .v (mv rfl) rfl rfl rfl ?_
    obtain ⟨q164, hF⟩ := hF
    obtain ⟨r2, q165⟩ : ∃ y_ : Bool, y_ = sp_isSet (gt ([o.atStart, o.over, o.atEnd, o.addStart, o.delStart, o.addEnd, o.delEnd] : List (List Int)) t23) facts := ⟨_, rfl⟩
    replace hF := hF r2 q165
    refine .c (cl (v := .bool r2) Try.call28 rfl rfl (fun w S => (by rw [q165]; exact c_isSet S.sub (gt ([o.atStart, o.over, o.atEnd, o.addStart, o.delStart, o.addEnd, o.delEnd] : List (List Int)) t23) a2 c q162 q161 facts q164))) rfl rfl rfl ?_
    refine .v (nt rfl) rfl rfl rfl ?_
    refine .nil ?_
    refine .seqN ?_
    refine .cond rfl (fun q166 => ?_) (fun q166 => ?_)
    · replace hF := hF.1 q166
      refine .seq ?_
      refine .region ?_
      refine .v (asg rfl) rfl rfl rfl ?_
      refine .nil ?_
      refine .seqN ?_
      refine .ret ?_
      refine .blkR ?_
      refine .seqR ?_
      refine .seqR ?_
      refine .blkR ?_
      refine .seqR ?_
      refine .res1 rfl (rvT rfl) (fun w' S => ⟨5, hF, rfl, S.below⟩)
    replace hF := hF.2 q166
    refine .skip ?_
    refine .blkN ?_
    refine .seqN ?_
    refine .region ?_
    refine .v (bi rfl rfl rfl) rfl rfl rfl ?_
    refine .v (mv rfl) rfl rfl rfl ?_
    refine .nil ?_
    exact .round (IntKind.i64.wrap (t23 + 1)) hF.1 hF.2 (.cons rfl (.cons rfl (.cons rfl (.cons rfl (.cons rfl (.nil)))))) rfl (FH.le_refl _)
  replace hF := hF.2 q145
  refine .exit ?_
  refine .seqX ?_
  refine .seqX ?_
  refine .blkX ?_
  refine .seqN ?_
  refine .seq ?_
  refine .block ?_
  refine .share (σ := Bool) (fun z => F_tcode_J1 o K z) (fun z => [(2, .pointer (some po)), (32, .bool z)]) (fun _ => [Box po [.slice ao o.atStart.length co, .slice ao2 o.over.length co2, .slice ao3 o.atEnd.length co3, .slice ao4 o.addStart.length co4, .slice ao5 o.delStart.length co5, .slice ao6 o.addEnd.length co6, .slice ao7 o.delEnd.length co7, .int .i64 o.dur]]) (fun _ => h1) ?_ (fun q204 => ?_)
  · rintro t32 hF
    show J _ _ _ _ _ [(2, .pointer (some po)), (32, .bool t32)] [Box po [.slice ao o.atStart.length co, .slice ao2 o.over.length co2, .slice ao3 o.atEnd.length co3, .slice ao4 o.addStart.length co4, .slice ao5 o.delStart.length co5, .slice ao6 o.addEnd.length co6, .slice ao7 o.delEnd.length co7, .int .i64 o.dur]] h1
    refine .cond rfl (fun q205 => ?_) (fun q205 => ?_)
    · replace hF := hF.1 q205
      refine .seq ?_
      refine .region ?_
      refine .v (asg rfl) rfl rfl rfl ?_
      refine .nil ?_
      refine .seqN ?_
      refine .ret ?_
      refine .blkR ?_
      refine .seqR ?_
      refine .res1 rfl (rvT rfl) (fun w' S => ⟨5, hF, rfl, S.below⟩)
    replace hF := hF.2 q205
    refine .share (σ := Bool) (fun z => F_tcode_J2 K z) (fun z => [(45, .bool z)]) (fun _ => []) (fun _ => h1) ?_ (fun q207 => ?_)
    · rintro t45 hF
      show J _ _ _ _ _ [(45, .bool t45)] [] h1
      refine .cond rfl (fun q208 => ?_) (fun q208 => ?_)
      · replace hF := hF.1 q208
        refine .seq ?_
        refine .region ?_
        refine .v (asg rfl) rfl rfl rfl ?_
        refine .nil ?_
        refine .seqN ?_
        refine .ret ?_
        refine .blkR ?_
        refine .seqR ?_
        refine .res1 rfl (rvT rfl) (fun w' S => ⟨3, hF, rfl, S.below⟩)
      replace hF := hF.2 q208
      refine .skip ?_
      refine .blkN ?_
      refine .seqN ?_
      refine .seq ?_
      refine .region ?_
      refine .v (asg rfl) rfl rfl rfl ?_
      refine .nil ?_
      refine .seqN ?_
      refine .ret ?_
      refine .res1 rfl (rvT rfl) (fun w' S => ⟨0, hF, rfl, S.below⟩)
    refine .region ?_
    refine .v (fa rfl tF41_7) rfl rfl rfl ?_
    refine .v (ld1 rfl tO3 (cellB (off := 7) (k := 0) rfl rfl)) rfl rfl rfl ?_
    refine .v (bi rfl rfl rfl) rfl rfl rfl ?_
    refine .v (mv rfl) rfl rfl rfl ?_
    rcases Bool.eq_false_or_eq_true (decide (o.dur < 1)) with q209 | q209
    · replace hF := hF.1 q209
      refine .gS rfl rfl rfl q209 rfl rfl ?_
      refine .gS rfl rfl rfl q209 rfl rfl ?_
      refine .gS rfl rfl rfl q209 rfl rfl ?_
      refine .v (pkT rfl q209 rfl) rfl rfl rfl ?_
      refine .v (asg rfl) rfl rfl rfl ?_
      refine .nil ?_
      refine .sel0 [] (by decide) rfl ?_
      exact .use q207 true hF (.cons rfl (.nil)) rfl (FH.le_refl _)
    replace hF := hF.2 q209
    refine .gv (fa rfl tF41_7) rfl rfl rfl q209 rfl rfl ?_
    refine .gv (ld1 rfl tO3 (cellB (off := 7) (k := 0) rfl rfl)) rfl rfl rfl q209 rfl rfl ?_
    refine .gv (bi rfl rfl rfl) rfl rfl rfl q209 rfl rfl ?_
    refine .v (pkF rfl q209 rfl) rfl rfl rfl ?_
    refine .v (asg rfl) rfl rfl rfl ?_
    refine .nil ?_
    refine .sel0 [] (by decide) rfl ?_
    exact .use q207 (decide (1000 < o.dur)) hF (.cons rfl (.nil)) rfl (FH.le_refl _)
  refine .region ?_
  refine .v (fa rfl tF41_3) rfl rfl rfl ?_
  refine .v (ld1 rfl tO22 (cellB (off := 3) (k := 0) rfl rfl)) rfl rfl rfl ?_
  refine .v (fa rfl tF41_4) rfl rfl rfl ?_
  refine .v (ld1 rfl tO22 (cellB (off := 4) (k := 0) rfl rfl)) rfl rfl rfl ?_
  obtain ⟨q210, hF⟩ := hF
  obtain ⟨r3, q211⟩ : ∃ y_ : Bool, y_ = sp_meets o.addStart o.delStart := ⟨_, rfl⟩
  replace hF := hF r3 q211
  refine .c (cl (v := .bool r3) Try.call38 rfl rfl (fun w S => (by rw [q211]; exact c_meets S.sub o.addStart ao4 co4 (_q7.mono (le1)) _q8 o.delStart ao5 co5 (_q9.mono (le1)) _q10 q210))) rfl rfl rfl ?_
  refine .v (mv rfl) rfl rfl rfl ?_
  rcases Bool.eq_false_or_eq_true (r3) with q212 | q212
  · replace hF := hF.1 q212
    refine .gS rfl rfl rfl q212 rfl rfl ?_
    refine .gS rfl rfl rfl q212 rfl rfl ?_
    refine .gS rfl rfl rfl q212 rfl rfl ?_
    refine .gS rfl rfl rfl q212 rfl rfl ?_
    refine .gS rfl rfl rfl q212 rfl rfl ?_
    refine .v (pkT rfl q212 rfl) rfl rfl rfl ?_
    refine .v (asg rfl) rfl rfl rfl ?_
    refine .nil ?_
    exact .use q204 true hF (.cons rfl (.cons rfl (.nil))) rfl (FH.le_refl _)
  replace hF := hF.2 q212
  refine .gv (fa rfl tF41_5) rfl rfl rfl q212 rfl rfl ?_
  refine .gv (ld1 rfl tO22 (cellB (off := 5) (k := 0) rfl rfl)) rfl rfl rfl q212 rfl rfl ?_
  refine .gv (fa rfl tF41_6) rfl rfl rfl q212 rfl rfl ?_
  refine .gv (ld1 rfl tO22 (cellB (off := 6) (k := 0) rfl rfl)) rfl rfl rfl q212 rfl rfl ?_
  obtain ⟨q213, hF⟩ := hF
  obtain ⟨r4, q214⟩ : ∃ y_ : Bool, y_ = sp_meets o.addEnd o.delEnd := ⟨_, rfl⟩
  replace hF := hF r4 q214
  refine .gc (cl (v := .bool r4) Try.call38 rfl rfl (fun w S => (by rw [q214]; exact c_meets S.sub o.addEnd ao6 co6 (_q11.mono (le1)) _q12 o.delEnd ao7 co7 (_q13.mono (le1)) _q14 q213))) rfl rfl rfl q212 rfl rfl ?_
  refine .v (pkF rfl q212 rfl) rfl rfl rfl ?_
  refine .v (asg rfl) rfl rfl rfl ?_
  refine .nil ?_
  exact .use q204 r4 hF (.cons rfl (.cons rfl (.nil))) rfl (FH.le_refl _)

theorem c_tcode {h : FH} {w : World} (hs : Sub h w) (o : TOp) (ao : Option Addr) (co : Nat) (_q1 : RSl h ao o.atStart) (_q2 : o.atStart.length ≤ co) (ao2 : Option Addr) (co2 : Nat) (_q3 : RSl h ao2 o.over) (_q4 : o.over.length ≤ co2) (ao3 : Option Addr) (co3 : Nat) (_q5 : RSl h ao3 o.atEnd) (_q6 : o.atEnd.length ≤ co3) (ao4 : Option Addr) (co4 : Nat) (_q7 : RSl h ao4 o.addStart) (_q8 : o.addStart.length ≤ co4) (ao5 : Option Addr) (co5 : Nat) (_q9 : RSl h ao5 o.delStart) (_q10 : o.delStart.length ≤ co5) (ao6 : Option Addr) (co6 : Nat) (_q11 : RSl h ao6 o.addEnd) (_q12 : o.addEnd.length ≤ co6) (ao7 : Option Addr) (co7 : Nat) (_q13 : RSl h ao7 o.delEnd) (_q14 : o.delEnd.length ≤ co7) (facts : Int) (hp : pre_tcode o facts) : Calls Try.prog 29 #[.agg #[.slice ao o.atStart.length co, .slice ao2 o.over.length co2, .slice ao3 o.atEnd.length co3, .slice ao4 o.addStart.length co4, .slice ao5 o.delStart.length co5, .slice ao6 o.addEnd.length co6, .slice ao7 o.delEnd.length co7, .int .i64 o.dur], .int .i64 facts] w fun e w' => e = .returned (.int .i64 (sp_tcode o facts)) ∧ Below w.heap.size w w' :=
  (w_tcode hs o ao co _q1 _q2 ao2 co2 _q3 _q4 ao3 co3 _q5 _q6 ao4 co4 _q7 _q8 ao5 co5 _q9 _q10 ao6 co6 _q11 _q12 ao7 co7 _q13 _q14 facts (fun r => r = sp_tcode o facts) (ok_tcode o facts hp)).mono fun _ _ ⟨_, hk, he, hb⟩ => ⟨by rw [he, hk], hb⟩

set_option maxHeartbeats 8000000 in
theorem w_tvalidate {h : FH} {w : World} (hs : Sub h w) (t : TTask) (at_ : Option Addr) (ct : Nat) (_q1 : RSl h at_ t.init) (_q2 : t.init.length ≤ ct) (at_2 : Option Addr) (ct2 : Nat) (_q3 : RSl h at_2 t.goal) (_q4 : t.goal.length ≤ ct2) (at_3 : Option Addr) (ct3 : Nat) (_q5 : RSl h at_3 t.ops) (_q6 : t.ops.length ≤ ct3) (K : Fault → Prop) (hF : F_tvalidate t K) : Calls Try.prog 11 #[.agg #[.int .i64 t.facts, .slice at_ t.init.length ct, .slice at_2 t.goal.length ct2, .slice at_3 t.ops.length ct3]] w fun e w' => ∃ r : Fault, K r ∧ e = .returned (.agg #[.int .i64 r.code, .int .i64 r.index]) ∧ Below w.heap.size w w' := by
  refine enter (args := [.agg #[.int .i64 t.facts, .slice at_ t.init.length ct, .slice at_2 t.goal.length ct2, .slice at_3 t.ops.length ct3]]) Try.func11 rfl Try.ntmps11 rfl hs ?_
  refine .seq ?_
  refine .region ?_
  refine bx (vs := [.int .i64 t.facts, .slice at_ t.init.length ct, .slice at_2 t.goal.length ct2, .slice at_3 t.ops.length ct3]) rfl rfl rfl (fun pt => ?_)
  refine al tZ28 rfl (fun pv => ?_)
  refine .nil ?_
  refine .seqN ?_
  refine .seq ?_
  refine .block ?_
  refine .share (σ := Bool) (fun z => F_tvalidate_J1 t K z) (fun z => [(1, .pointer (some pt)), (2, .pointer (some pv)), (6, .bool z)]) (fun _ => [Box pt [.int .i64 t.facts, .slice at_ t.init.length ct, .slice at_2 t.goal.length ct2, .slice at_3 t.ops.length ct3], Box pv [.int .i64 0, .int .i64 0]]) (fun _ => h) ?_ (fun q30 => ?_)
  · rintro t6 hF
    show J _ _ _ _ _ [(1, .pointer (some pt)), (2, .pointer (some pv)), (6, .bool t6)] [Box pt [.int .i64 t.facts, .slice at_ t.init.length ct, .slice at_2 t.goal.length ct2, .slice at_3 t.ops.length ct3], Box pv [.int .i64 0, .int .i64 0]] h
    refine .cond rfl (fun q31 => ?_) (fun q31 => ?_)
    · replace hF := hF.1 q31
      refine .seq ?_
      refine .region ?_
      refine .v (bld (cs := #[.int .i64 3, .int .i64 (-1)]) (pv := [(0, .int .i64 3), (1, .int .i64 (-1))]) tB28 rfl rfl) rfl rfl rfl ?_
      refine st (p := pv) (off := 0) (k := 1) (vs := [.int .i64 3, .int .i64 (-1)]) rfl rfl rfl (fun w => (tA28 w).2) rfl rfl rfl rfl ?_
      refine .cast (A' := [Box pt [.int .i64 t.facts, .slice at_ t.init.length ct, .slice at_2 t.goal.length ct2, .slice at_3 t.ops.length ct3], Box pv [.int .i64 3, .int .i64 (-1)]]) rfl ?_
      refine .nil ?_
      refine .seqN ?_
      refine .ret ?_
      refine .blkR ?_
      refine .seqR ?_
      refine .res1 rfl (rvC rfl tA28 (k := 1) rfl rfl) (fun w' S => ⟨(⟨3, (-1)⟩ : Fault), hF, rfl, S.below⟩)
    replace hF := hF.2 q31
    refine .seq ?_
    refine .region ?_
    refine .v (fa rfl tF25_1) rfl rfl rfl ?_
    refine .v (ld1 rfl tO22 (cellB (off := 1) (k := 0) rfl rfl)) rfl rfl rfl ?_
    refine .v (fa rfl tF25_0) rfl rfl rfl ?_
    refine .v (ld1 rfl tO3 (cellB (off := 0) (k := 0) rfl rfl)) rfl rfl rfl ?_
    obtain ⟨q32, hF⟩ := hF
    obtain ⟨r2, q33⟩ : ∃ y_ : Bool, y_ = sp_isSet t.init t.facts := ⟨_, rfl⟩
    replace hF := hF r2 q33
    refine .c (cl (v := .bool r2) Try.call28 rfl rfl (fun w S => (by rw [q33]; exact c_isSet S.sub t.init at_ ct _q1 _q2 t.facts q32))) rfl rfl rfl ?_
    refine .v (nt rfl) rfl rfl rfl ?_
    refine .v (asg rfl) rfl rfl rfl ?_
    refine .nil ?_
    refine .seqN ?_
    refine .cond rfl (fun q34 => ?_) (fun q34 => ?_)
    · replace hF := hF.1 q34
      refine .seq ?_
      refine .region ?_
      refine .v (bld (cs := #[.int .i64 5, .int .i64 (-2)]) (pv := [(0, .int .i64 5), (1, .int .i64 (-2))]) tB28 rfl rfl) rfl rfl rfl ?_
      refine st (p := pv) (off := 0) (k := 1) (vs := [.int .i64 5, .int .i64 (-2)]) rfl rfl rfl (fun w => (tA28 w).2) rfl rfl rfl rfl ?_
      refine .cast (A' := [Box pt [.int .i64 t.facts, .slice at_ t.init.length ct, .slice at_2 t.goal.length ct2, .slice at_3 t.ops.length ct3], Box pv [.int .i64 5, .int .i64 (-2)]]) rfl ?_
      refine .nil ?_
      refine .seqN ?_
      refine .ret ?_
      refine .blkR ?_
      refine .seqR ?_
      refine .res1 rfl (rvC rfl tA28 (k := 1) rfl rfl) (fun w' S => ⟨(⟨5, (-2)⟩ : Fault), hF, rfl, S.below⟩)
    replace hF := hF.2 q34
    refine .seq ?_
    refine .region ?_
    refine .v (fa rfl tF25_2) rfl rfl rfl ?_
    refine .v (ld1 rfl tO22 (cellB (off := 2) (k := 0) rfl rfl)) rfl rfl rfl ?_
    refine .v (fa rfl tF25_0) rfl rfl rfl ?_
    refine .v (ld1 rfl tO3 (cellB (off := 0) (k := 0) rfl rfl)) rfl rfl rfl ?_
    obtain ⟨q35, hF⟩ := hF
    obtain ⟨r3, q36⟩ : ∃ y_ : Bool, y_ = sp_isSet t.goal t.facts := ⟨_, rfl⟩
    replace hF := hF r3 q36
    refine .c (cl (v := .bool r3) Try.call28 rfl rfl (fun w S => (by rw [q36]; exact c_isSet S.sub t.goal at_2 ct2 _q3 _q4 t.facts q35))) rfl rfl rfl ?_
    refine .v (nt rfl) rfl rfl rfl ?_
    refine .v (asg rfl) rfl rfl rfl ?_
    refine .nil ?_
    refine .seqN ?_
    refine .cond rfl (fun q37 => ?_) (fun q37 => ?_)
    · replace hF := hF.1 q37
      refine .seq ?_
      refine .region ?_
      refine .v (bld (cs := #[.int .i64 5, .int .i64 (-3)]) (pv := [(0, .int .i64 5), (1, .int .i64 (-3))]) tB28 rfl rfl) rfl rfl rfl ?_
      refine st (p := pv) (off := 0) (k := 1) (vs := [.int .i64 5, .int .i64 (-3)]) rfl rfl rfl (fun w => (tA28 w).2) rfl rfl rfl rfl ?_
      refine .cast (A' := [Box pt [.int .i64 t.facts, .slice at_ t.init.length ct, .slice at_2 t.goal.length ct2, .slice at_3 t.ops.length ct3], Box pv [.int .i64 5, .int .i64 (-3)]]) rfl ?_
      refine .nil ?_
      refine .seqN ?_
      refine .ret ?_
      refine .blkR ?_
      refine .seqR ?_
      refine .res1 rfl (rvC rfl tA28 (k := 1) rfl rfl) (fun w' S => ⟨(⟨5, (-3)⟩ : Fault), hF, rfl, S.below⟩)
    replace hF := hF.2 q37
    refine .seq ?_
    refine .region ?_
    refine .v (fa rfl tF25_3) rfl rfl rfl ?_
    refine .v (ld1 rfl tO23 (cellB (off := 3) (k := 0) rfl rfl)) rfl rfl rfl ?_
    refine .v (ln rfl tS23.is) rfl rfl rfl ?_
    refine .v (bi rfl rfl rfl) rfl rfl rfl ?_
    refine .v (asg rfl) rfl rfl rfl ?_
    refine .nil ?_
    refine .seqN ?_
    refine .cond rfl (fun q38 => ?_) (fun q38 => ?_)
    · replace hF := hF.1 q38
      refine .seq ?_
      refine .region ?_
      refine .v (bld (cs := #[.int .i64 2, .int .i64 (-1)]) (pv := [(0, .int .i64 2), (1, .int .i64 (-1))]) tB28 rfl rfl) rfl rfl rfl ?_
      refine st (p := pv) (off := 0) (k := 1) (vs := [.int .i64 2, .int .i64 (-1)]) rfl rfl rfl (fun w => (tA28 w).2) rfl rfl rfl rfl ?_
      refine .cast (A' := [Box pt [.int .i64 t.facts, .slice at_ t.init.length ct, .slice at_2 t.goal.length ct2, .slice at_3 t.ops.length ct3], Box pv [.int .i64 2, .int .i64 (-1)]]) rfl ?_
      refine .nil ?_
      refine .seqN ?_
      refine .ret ?_
      refine .blkR ?_
      refine .seqR ?_
      refine .res1 rfl (rvC rfl tA28 (k := 1) rfl rfl) (fun w' S => ⟨(⟨2, (-1)⟩ : Fault), hF, rfl, S.below⟩)
    replace hF := hF.2 q38
    refine .skip ?_
    refine .blkN ?_
    refine .seqN ?_
    refine .seq ?_
    refine .seq ?_
    refine .region ?_
    refine .v (fa rfl tF25_3) rfl rfl rfl ?_
    refine .v (ld1 rfl tO23 (cellB (off := 3) (k := 0) rfl rfl)) rfl rfl rfl ?_
    refine .v (ln rfl tS23.is) rfl rfl rfl ?_
    refine .v (mv rfl) rfl rfl rfl ?_
    refine .nil ?_
    refine .seqN ?_
    refine .block ?_
    obtain ⟨I1, μ1, q341, q342⟩ := hF
    refine .loop' (σ := Int) (fun z => I1 z) (fun z => μ1 z) (fun z => [(1, .pointer (some pt)), (2, .pointer (some pv)), (39, .slice at_3 t.ops.length ct3), (40, .int .i64 ((t.ops.length : Nat) : Int)), (41, .int .i64 z)]) (fun _ => [Box pt [.int .i64 t.facts, .slice at_ t.init.length ct, .slice at_2 t.goal.length ct2, .slice at_3 t.ops.length ct3], Box pv [.int .i64 0, .int .i64 0]]) (fun _ => h) 0 q341 (.cons rfl (.cons rfl (.cons rfl (.cons rfl (.cons rfl (.nil)))))) rfl (FH.le_refl _) ?_
    rintro t41 q341
    have hF := q342 t41 q341
    show J _ _ _ _ _ [(1, .pointer (some pt)), (2, .pointer (some pv)), (39, .slice at_3 t.ops.length ct3), (40, .int .i64 ((t.ops.length : Nat) : Int)), (41, .int .i64 t41)] [Box pt [.int .i64 t.facts, .slice at_ t.init.length ct, .slice at_2 t.goal.length ct2, .slice at_3 t.ops.length ct3], Box pv [.int .i64 0, .int .i64 0]] h
    refine .seq ?_
    refine .region ?_
    refine .v (bi rfl rfl rfl) rfl rfl rfl ?_
    refine .nil ?_
    refine .seqN ?_
    refine .seq ?_
    refine .cond rfl (fun q345 => ?_) (fun q345 => ?_)
    · replace hF := hF.1 q345
      refine .skip ?_
      refine .seqN ?_
      refine .seq ?_
      refine .block ?_
      refine .seq ?_
      refine .region ?_
      refine .v (mv rfl) rfl rfl rfl ?_
      obtain ⟨q384, hF⟩ := hF
      refine .v (ix rfl rfl tS23 (_q5.ne (by decide) (inb_pos q384)) q384) rfl rfl rfl ?_
      obtain ⟨_, ⟨a, c, a2, c2, a3, c3, a4, c4, a5, c5, a6, c6, a7, c7, rfl, ⟨q385, q386⟩, ⟨q387, q388⟩, ⟨q389, q390⟩, ⟨q391, q392⟩, ⟨q393, q394⟩, ⟨q395, q396⟩, q397, q398⟩, q399⟩ := _q5.elem q384
      refine .v (ldA (cs := [.slice a ((gt t.ops t41).atStart.length) c, .slice a2 ((gt t.ops t41).over.length) c2, .slice a3 ((gt t.ops t41).atEnd.length) c3, .slice a4 ((gt t.ops t41).addStart.length) c4, .slice a5 ((gt t.ops t41).delStart.length) c5, .slice a6 ((gt t.ops t41).addEnd.length) c6, .slice a7 ((gt t.ops t41).delEnd.length) c7, .int .i64 ((gt t.ops t41).dur)]) rfl tA41 rfl (cellsH (q399 (by decide)))) rfl rfl rfl ?_
      refine al tZ41 rfl (fun po => ?_)
      refine .v (asg rfl) rfl rfl rfl ?_
      refine st (p := po) (off := 0) (k := 0) (vs := [.slice a ((gt t.ops t41).atStart.length) c, .slice a2 ((gt t.ops t41).over.length) c2, .slice a3 ((gt t.ops t41).atEnd.length) c3, .slice a4 ((gt t.ops t41).addStart.length) c4, .slice a5 ((gt t.ops t41).delStart.length) c5, .slice a6 ((gt t.ops t41).addEnd.length) c6, .slice a7 ((gt t.ops t41).delEnd.length) c7, .int .i64 ((gt t.ops t41).dur)]) rfl rfl rfl (fun w => (tA41 w).2) rfl rfl rfl rfl ?_
      refine .cast (A' := [Box po [.slice a ((gt t.ops t41).atStart.length) c, .slice a2 ((gt t.ops t41).over.length) c2, .slice a3 ((gt t.ops t41).atEnd.length) c3, .slice a4 ((gt t.ops t41).addStart.length) c4, .slice a5 ((gt t.ops t41).delStart.length) c5, .slice a6 ((gt t.ops t41).addEnd.length) c6, .slice a7 ((gt t.ops t41).delEnd.length) c7, .int .i64 ((gt t.ops t41).dur)], Box pt [.int .i64 t.facts, .slice at_ t.init.length ct, .slice at_2 t.goal.length ct2, .slice at_3 t.ops.length ct3], Box pv [.int .i64 0, .int .i64 0]]) rfl ?_
      refine .nil ?_
      refine .seqN ?_
      refine .seq ?_
      refine .region ?_
      refine .v (ldA (cs := [.slice a ((gt t.ops t41).atStart.length) c, .slice a2 ((gt t.ops t41).over.length) c2, .slice a3 ((gt t.ops t41).atEnd.length) c3, .slice a4 ((gt t.ops t41).addStart.length) c4, .slice a5 ((gt t.ops t41).delStart.length) c5, .slice a6 ((gt t.ops t41).addEnd.length) c6, .slice a7 ((gt t.ops t41).delEnd.length) c7, .int .i64 ((gt t.ops t41).dur)]) rfl tA41 rfl (cellsB (off := 0) (k := 0) rfl (m := 8) rfl)) rfl rfl rfl ?_
      refine .v (fa rfl tF25_0) rfl rfl rfl ?_
      refine .v (ld1 rfl tO3 (cellB (off := 0) (k := 1) rfl rfl)) rfl rfl rfl ?_
      obtain ⟨q400, hF⟩ := hF
      obtain ⟨r4, q401⟩ : ∃ y_ : Int, y_ = sp_tcode (gt t.ops t41) t.facts := ⟨_, rfl⟩
      replace hF := hF r4 q401
      refine .c (cl (v := .int .i64 r4) Try.call29 rfl rfl (fun w S => (by rw [q401]; exact c_tcode S.sub (gt t.ops t41) a c q386 q385 a2 c2 q388 q387 a3 c3 q390 q389 a4 c4 q392 q391 a5 c5 q394 q393 a6 c6 q396 q395 a7 c7 q398 q397 t.facts q400))) rfl rfl rfl ?_
      refine .v (asg rfl) rfl rfl rfl ?_
      refine .nil ?_
      refine .seqN ?_
      refine .seq ?_
      refine .region ?_
      refine .v (mv rfl) rfl rfl rfl ?_
      refine .v (bi rfl rfl rfl) rfl rfl rfl ?_
      refine .nil ?_
      refine .seqN ?_
      refine .cond rfl (fun q402 => ?_) (fun q402 => ?_)
      · replace hF := hF.1 q402
        refine .seq ?_
        refine .region ?_
        refine .v (mv rfl) rfl rfl rfl ?_
        refine .v (mv rfl) rfl rfl rfl ?_
        refine .v (bld (cs := #[.int .i64 r4, .int .i64 t41]) (pv := [(0, .int .i64 r4), (1, .int .i64 t41)]) tB28 rfl rfl) rfl rfl rfl ?_
        refine st (p := pv) (off := 0) (k := 2) (vs := [.int .i64 r4, .int .i64 t41]) rfl rfl rfl (fun w => (tA28 w).2) rfl rfl rfl rfl ?_
        refine .cast (A' := [Box po [.slice a ((gt t.ops t41).atStart.length) c, .slice a2 ((gt t.ops t41).over.length) c2, .slice a3 ((gt t.ops t41).atEnd.length) c3, .slice a4 ((gt t.ops t41).addStart.length) c4, .slice a5 ((gt t.ops t41).delStart.length) c5, .slice a6 ((gt t.ops t41).addEnd.length) c6, .slice a7 ((gt t.ops t41).delEnd.length) c7, .int .i64 ((gt t.ops t41).dur)], Box pt [.int .i64 t.facts, .slice at_ t.init.length ct, .slice at_2 t.goal.length ct2, .slice at_3 t.ops.length ct3], Box pv [.int .i64 r4, .int .i64 t41]]) rfl ?_
        refine .nil ?_
        refine .seqN ?_
        refine .ret ?_
        refine .blkR ?_
        refine .seqR ?_
        refine .seqR ?_
        refine .blkR ?_
        refine .seqR ?_
        refine .res1 rfl (rvC rfl tA28 (k := 2) rfl rfl) (fun w' S => ⟨(⟨r4, t41⟩ : Fault), hF, rfl, S.below⟩)
      replace hF := hF.2 q402
      refine .skip ?_
      refine .blkN ?_
      refine .seqN ?_
      refine .region ?_
      refine .v (bi rfl rfl rfl) rfl rfl rfl ?_
      refine .v (mv rfl) rfl rfl rfl ?_
      refine .nil ?_
      refine .sel0 [1, 2] (by decide) rfl ?_
      exact .round (IntKind.i64.wrap (t41 + 1)) hF.1 hF.2 (.cons rfl (.cons rfl (.cons rfl (.cons rfl (.cons rfl (.nil)))))) rfl (FH.le_refl _)
    replace hF := hF.2 q345
    refine .exit ?_
    refine .seqX ?_
    refine .seqX ?_
    refine .blkX ?_
    refine .seqN ?_
    refine .seq ?_
    refine .region ?_
    refine .v (bld (cs := #[.int .i64 0, .int .i64 0]) (pv := []) tB28 rfl rfl) rfl rfl rfl ?_
    refine st (p := pv) (off := 0) (k := 1) (vs := [.int .i64 0, .int .i64 0]) rfl rfl rfl (fun w => (tA28 w).2) rfl rfl rfl rfl ?_
    refine .cast (A' := [Box pt [.int .i64 t.facts, .slice at_ t.init.length ct, .slice at_2 t.goal.length ct2, .slice at_3 t.ops.length ct3], Box pv [.int .i64 0, .int .i64 0]]) rfl ?_
    refine .nil ?_
    refine .seqN ?_
    refine .ret ?_
    refine .res1 rfl (rvC rfl tA28 (k := 1) rfl rfl) (fun w' S => ⟨(⟨0, 0⟩ : Fault), hF, rfl, S.below⟩)
  refine .region ?_
  refine .v (fa rfl tF25_0) rfl rfl rfl ?_
  refine .v (ld1 rfl tO3 (cellB (off := 0) (k := 1) rfl rfl)) rfl rfl rfl ?_
  refine .v (bi rfl rfl rfl) rfl rfl rfl ?_
  refine .v (mv rfl) rfl rfl rfl ?_
  rcases Bool.eq_false_or_eq_true (decide (t.facts < 0)) with q403 | q403
  · replace hF := hF.1 q403
    refine .gS rfl rfl rfl q403 rfl rfl ?_
    refine .gS rfl rfl rfl q403 rfl rfl ?_
    refine .gS rfl rfl rfl q403 rfl rfl ?_
    refine .v (pkT rfl q403 rfl) rfl rfl rfl ?_
    refine .v (asg rfl) rfl rfl rfl ?_
    refine .nil ?_
    refine .sel0 [1, 0] (by decide) rfl ?_
    exact .use q30 true hF (.cons rfl (.cons rfl (.cons rfl (.nil)))) rfl (FH.le_refl _)
  replace hF := hF.2 q403
  refine .gv (fa rfl tF25_0) rfl rfl rfl q403 rfl rfl ?_
  refine .gv (ld1 rfl tO3 (cellB (off := 0) (k := 1) rfl rfl)) rfl rfl rfl q403 rfl rfl ?_
  refine .gv (bi rfl rfl rfl) rfl rfl rfl q403 rfl rfl ?_
  refine .v (pkF rfl q403 rfl) rfl rfl rfl ?_
  refine .v (asg rfl) rfl rfl rfl ?_
  refine .nil ?_
  refine .sel0 [1, 0] (by decide) rfl ?_
  exact .use q30 (decide (23 < t.facts)) hF (.cons rfl (.cons rfl (.cons rfl (.nil)))) rfl (FH.le_refl _)

theorem c_tvalidate {h : FH} {w : World} (hs : Sub h w) (t : TTask) (at_ : Option Addr) (ct : Nat) (_q1 : RSl h at_ t.init) (_q2 : t.init.length ≤ ct) (at_2 : Option Addr) (ct2 : Nat) (_q3 : RSl h at_2 t.goal) (_q4 : t.goal.length ≤ ct2) (at_3 : Option Addr) (ct3 : Nat) (_q5 : RSl h at_3 t.ops) (_q6 : t.ops.length ≤ ct3) : Calls Try.prog 11 #[.agg #[.int .i64 t.facts, .slice at_ t.init.length ct, .slice at_2 t.goal.length ct2, .slice at_3 t.ops.length ct3]] w fun e w' => e = .returned (.agg #[.int .i64 (sp_tvalidate t).code, .int .i64 (sp_tvalidate t).index]) ∧ Below w.heap.size w w' :=
  (w_tvalidate hs t at_ ct _q1 _q2 at_2 ct2 _q3 _q4 at_3 ct3 _q5 _q6 (fun r => r = sp_tvalidate t) (ok_tvalidate t)).mono fun _ _ ⟨_, hk, he, hb⟩ => ⟨by rw [he, hk], hb⟩

set_option maxHeartbeats 8000000 in
theorem w_timedFault {h : FH} {w : World} (hs : Sub h w) (t : TTask) (at_ : Option Addr) (ct : Nat) (_q1 : RSl h at_ t.init) (_q2 : t.init.length ≤ ct) (at_2 : Option Addr) (ct2 : Nat) (_q3 : RSl h at_2 t.goal) (_q4 : t.goal.length ≤ ct2) (at_3 : Option Addr) (ct3 : Nat) (_q5 : RSl h at_3 t.ops) (_q6 : t.ops.length ≤ ct3) (K : Fault → Prop) (hF : F_timedFault t K) : Calls Try.prog 12 #[.agg #[.int .i64 t.facts, .slice at_ t.init.length ct, .slice at_2 t.goal.length ct2, .slice at_3 t.ops.length ct3]] w fun e w' => ∃ r : Fault, K r ∧ e = .returned (.agg #[.int .i64 r.code, .int .i64 r.index]) ∧ Below w.heap.size w w' := by
  refine enter (args := [.agg #[.int .i64 t.facts, .slice at_ t.init.length ct, .slice at_2 t.goal.length ct2, .slice at_3 t.ops.length ct3]]) Try.func12 rfl Try.ntmps12 rfl hs ?_
  refine .seq ?_
  refine .region ?_
  refine bx (vs := [.int .i64 t.facts, .slice at_ t.init.length ct, .slice at_2 t.goal.length ct2, .slice at_3 t.ops.length ct3]) rfl rfl rfl (fun pt => ?_)
  refine al tZ28 rfl (fun pv => ?_)
  refine .nil ?_
  refine .seqN ?_
  refine .seq ?_
  refine .seq ?_
  refine .region ?_
  refine .v (fa rfl tF25_0) rfl rfl rfl ?_
  refine .v (ld1 rfl tO3 (cellB (off := 0) (k := 1) rfl rfl)) rfl rfl rfl ?_
  obtain ⟨r2, q7⟩ : ∃ y_ : Bool, y_ = sp_in_ t.facts 0 23 := ⟨_, rfl⟩
  replace hF := hF r2 q7
  refine .c (cl (v := .bool r2) Try.call17 rfl rfl (fun w S => (by rw [q7]; exact c_in_ S.sub t.facts 0 23 ))) rfl rfl rfl ?_
  refine .v (nt rfl) rfl rfl rfl ?_
  refine .nil ?_
  refine .seqN ?_
  refine .cond rfl (fun q10 => ?_) (fun q10 => ?_)
  · replace hF := hF.1 q10
    refine .seq ?_
    refine .region ?_
    obtain ⟨r3, q11⟩ : ∃ y_ : Fault, y_ = sp_at_ 3 (-1) := ⟨_, rfl⟩
    replace hF := hF r3 q11
    refine .c (cl (v := .agg #[.int .i64 r3.code, .int .i64 r3.index]) Try.call16 rfl rfl (fun w S => (by rw [q11]; exact c_at_ S.sub 3 (-1) ))) rfl rfl rfl ?_
    refine st (p := pv) (off := 0) (k := 0) (vs := [.int .i64 r3.code, .int .i64 r3.index]) rfl rfl rfl (fun w => (tA28 w).2) rfl rfl rfl rfl ?_
    refine .cast (A' := [Box pv [.int .i64 r3.code, .int .i64 r3.index], Box pt [.int .i64 t.facts, .slice at_ t.init.length ct, .slice at_2 t.goal.length ct2, .slice at_3 t.ops.length ct3]]) rfl ?_
    refine .nil ?_
    refine .seqN ?_
    refine .ret ?_
    refine .seqR ?_
    refine .res1 rfl (rvC rfl tA28 (k := 0) rfl rfl) (fun w' S => ⟨r3, hF, rfl, S.below⟩)
  replace hF := hF.2 q10
  refine .skip ?_
  refine .seqN ?_
  refine .seq ?_
  refine .seq ?_
  refine .region ?_
  refine .v (fa rfl tF25_1) rfl rfl rfl ?_
  refine .v (ld1 rfl tO22 (cellB (off := 1) (k := 1) rfl rfl)) rfl rfl rfl ?_
  refine .v (fa rfl tF25_0) rfl rfl rfl ?_
  refine .v (ld1 rfl tO3 (cellB (off := 0) (k := 1) rfl rfl)) rfl rfl rfl ?_
  obtain ⟨q12, hF⟩ := hF
  obtain ⟨r4, q13⟩ : ∃ y_ : Bool, y_ = sp_isSet t.init t.facts := ⟨_, rfl⟩
  replace hF := hF r4 q13
  refine .c (cl (v := .bool r4) Try.call30 rfl rfl (fun w S => (by rw [q13]; exact c_rIsSet S.sub t.init at_ ct _q1 _q2 t.facts q12))) rfl rfl rfl ?_
  refine .v (nt rfl) rfl rfl rfl ?_
  refine .nil ?_
  refine .seqN ?_
  refine .cond rfl (fun q16 => ?_) (fun q16 => ?_)
  · replace hF := hF.1 q16
    refine .seq ?_
    refine .region ?_
    obtain ⟨r5, q17⟩ : ∃ y_ : Fault, y_ = sp_at_ 5 (-2) := ⟨_, rfl⟩
    replace hF := hF r5 q17
    refine .c (cl (v := .agg #[.int .i64 r5.code, .int .i64 r5.index]) Try.call16 rfl rfl (fun w S => (by rw [q17]; exact c_at_ S.sub 5 (-2) ))) rfl rfl rfl ?_
    refine st (p := pv) (off := 0) (k := 0) (vs := [.int .i64 r5.code, .int .i64 r5.index]) rfl rfl rfl (fun w => (tA28 w).2) rfl rfl rfl rfl ?_
    refine .cast (A' := [Box pv [.int .i64 r5.code, .int .i64 r5.index], Box pt [.int .i64 t.facts, .slice at_ t.init.length ct, .slice at_2 t.goal.length ct2, .slice at_3 t.ops.length ct3]]) rfl ?_
    refine .nil ?_
    refine .seqN ?_
    refine .ret ?_
    refine .seqR ?_
    refine .res1 rfl (rvC rfl tA28 (k := 0) rfl rfl) (fun w' S => ⟨r5, hF, rfl, S.below⟩)
  replace hF := hF.2 q16
  refine .skip ?_
  refine .seqN ?_
  refine .seq ?_
  refine .seq ?_
  refine .region ?_
  refine .v (fa rfl tF25_2) rfl rfl rfl ?_
  refine .v (ld1 rfl tO22 (cellB (off := 2) (k := 1) rfl rfl)) rfl rfl rfl ?_
  refine .v (fa rfl tF25_0) rfl rfl rfl ?_
  refine .v (ld1 rfl tO3 (cellB (off := 0) (k := 1) rfl rfl)) rfl rfl rfl ?_
  obtain ⟨q18, hF⟩ := hF
  obtain ⟨r6, q19⟩ : ∃ y_ : Bool, y_ = sp_isSet t.goal t.facts := ⟨_, rfl⟩
  replace hF := hF r6 q19
  refine .c (cl (v := .bool r6) Try.call30 rfl rfl (fun w S => (by rw [q19]; exact c_rIsSet S.sub t.goal at_2 ct2 _q3 _q4 t.facts q18))) rfl rfl rfl ?_
  refine .v (nt rfl) rfl rfl rfl ?_
  refine .nil ?_
  refine .seqN ?_
  refine .cond rfl (fun q22 => ?_) (fun q22 => ?_)
  · replace hF := hF.1 q22
    refine .seq ?_
    refine .region ?_
    obtain ⟨r7, q23⟩ : ∃ y_ : Fault, y_ = sp_at_ 5 (-3) := ⟨_, rfl⟩
    replace hF := hF r7 q23
    refine .c (cl (v := .agg #[.int .i64 r7.code, .int .i64 r7.index]) Try.call16 rfl rfl (fun w S => (by rw [q23]; exact c_at_ S.sub 5 (-3) ))) rfl rfl rfl ?_
    refine st (p := pv) (off := 0) (k := 0) (vs := [.int .i64 r7.code, .int .i64 r7.index]) rfl rfl rfl (fun w => (tA28 w).2) rfl rfl rfl rfl ?_
    refine .cast (A' := [Box pv [.int .i64 r7.code, .int .i64 r7.index], Box pt [.int .i64 t.facts, .slice at_ t.init.length ct, .slice at_2 t.goal.length ct2, .slice at_3 t.ops.length ct3]]) rfl ?_
    refine .nil ?_
    refine .seqN ?_
    refine .ret ?_
    refine .seqR ?_
    refine .res1 rfl (rvC rfl tA28 (k := 0) rfl rfl) (fun w' S => ⟨r7, hF, rfl, S.below⟩)
  replace hF := hF.2 q22
  refine .skip ?_
  refine .seqN ?_
  refine .seq ?_
  refine .seq ?_
  refine .region ?_
  refine .v (fa rfl tF25_3) rfl rfl rfl ?_
  refine .v (ld1 rfl tO23 (cellB (off := 3) (k := 1) rfl rfl)) rfl rfl rfl ?_
  refine .v (ln rfl tS23.is) rfl rfl rfl ?_
  refine .v (bi rfl rfl rfl) rfl rfl rfl ?_
  refine .nil ?_
  refine .seqN ?_
  refine .cond rfl (fun q26 => ?_) (fun q26 => ?_)
  · replace hF := hF.1 q26
    refine .seq ?_
    refine .region ?_
    obtain ⟨r8, q27⟩ : ∃ y_ : Fault, y_ = sp_at_ 2 (-1) := ⟨_, rfl⟩
    replace hF := hF r8 q27
    refine .c (cl (v := .agg #[.int .i64 r8.code, .int .i64 r8.index]) Try.call16 rfl rfl (fun w S => (by rw [q27]; exact c_at_ S.sub 2 (-1) ))) rfl rfl rfl ?_
    refine st (p := pv) (off := 0) (k := 0) (vs := [.int .i64 r8.code, .int .i64 r8.index]) rfl rfl rfl (fun w => (tA28 w).2) rfl rfl rfl rfl ?_
    refine .cast (A' := [Box pv [.int .i64 r8.code, .int .i64 r8.index], Box pt [.int .i64 t.facts, .slice at_ t.init.length ct, .slice at_2 t.goal.length ct2, .slice at_3 t.ops.length ct3]]) rfl ?_
    refine .nil ?_
    refine .seqN ?_
    refine .ret ?_
    refine .seqR ?_
    refine .res1 rfl (rvC rfl tA28 (k := 0) rfl rfl) (fun w' S => ⟨r8, hF, rfl, S.below⟩)
  replace hF := hF.2 q26
  refine .skip ?_
  refine .seqN ?_
  refine .seq ?_
  refine .seq ?_
  refine .region ?_
  refine .v (asg rfl) rfl rfl rfl ?_
  refine .nil ?_
  refine .seqN ?_
  refine .block ?_
  refine .sel0 [1, 0] (by decide) rfl ?_
  obtain ⟨I1, μ1, q1180, q1181⟩ := hF
  refine .loop' (σ := Int) (fun z => I1 z) (fun z => μ1 z) (fun z => [(1, .pointer (some pt)), (2, .pointer (some pv)), (3, .int .i64 z)]) (fun _ => [Box pt [.int .i64 t.facts, .slice at_ t.init.length ct, .slice at_2 t.goal.length ct2, .slice at_3 t.ops.length ct3], Box pv [.int .i64 0, .int .i64 0]]) (fun _ => h) 0 q1180 (.cons rfl (.cons rfl (.cons rfl (.nil)))) rfl (FH.le_refl _) ?_
  rintro i q1180
  have hF := q1181 i q1180
  show J _ _ _ _ _ [(1, .pointer (some pt)), (2, .pointer (some pv)), (3, .int .i64 i)] [Box pt [.int .i64 t.facts, .slice at_ t.init.length ct, .slice at_2 t.goal.length ct2, .slice at_3 t.ops.length ct3], Box pv [.int .i64 0, .int .i64 0]] h
  refine .seq ?_
  refine .seq ?_
  refine .region ?_
  refine .v (mv rfl) rfl rfl rfl ?_
  refine .v (fa rfl tF25_3) rfl rfl rfl ?_
  refine .v (ld1 rfl tO23 (cellB (off := 3) (k := 0) rfl rfl)) rfl rfl rfl ?_
  refine .v (ln rfl tS23.is) rfl rfl rfl ?_
  refine .v (bi rfl rfl rfl) rfl rfl rfl ?_
  refine .nil ?_
  refine .seqN ?_
  refine .cond rfl (fun q1183 => ?_) (fun q1183 => ?_)
  · replace hF := hF.1 q1183
    refine .skip ?_
    refine .seqN ?_
    refine .seq ?_
    refine .block ?_
    refine .seq ?_
    refine .region ?_
    refine .v (fa rfl tF25_3) rfl rfl rfl ?_
    refine .v (ld1 rfl tO23 (cellB (off := 3) (k := 0) rfl rfl)) rfl rfl rfl ?_
    refine .v (mv rfl) rfl rfl rfl ?_
    obtain ⟨q1336, hF⟩ := hF
    refine .v (ix rfl rfl tS23 (_q5.ne (by decide) (inb_pos q1336)) q1336) rfl rfl rfl ?_
    obtain ⟨_, ⟨a, c, a2, c2, a3, c3, a4, c4, a5, c5, a6, c6, a7, c7, rfl, ⟨q1337, q1338⟩, ⟨q1339, q1340⟩, ⟨q1341, q1342⟩, ⟨q1343, q1344⟩, ⟨q1345, q1346⟩, ⟨q1347, q1348⟩, q1349, q1350⟩, q1351⟩ := _q5.elem q1336
    refine .v (ldA (cs := [.slice a ((gt t.ops i).atStart.length) c, .slice a2 ((gt t.ops i).over.length) c2, .slice a3 ((gt t.ops i).atEnd.length) c3, .slice a4 ((gt t.ops i).addStart.length) c4, .slice a5 ((gt t.ops i).delStart.length) c5, .slice a6 ((gt t.ops i).addEnd.length) c6, .slice a7 ((gt t.ops i).delEnd.length) c7, .int .i64 ((gt t.ops i).dur)]) rfl tA41 rfl (cellsH (q1351 (by decide)))) rfl rfl rfl ?_
    refine al tZ41 rfl (fun po => ?_)
    refine st (p := po) (off := 0) (k := 0) (vs := [.slice a ((gt t.ops i).atStart.length) c, .slice a2 ((gt t.ops i).over.length) c2, .slice a3 ((gt t.ops i).atEnd.length) c3, .slice a4 ((gt t.ops i).addStart.length) c4, .slice a5 ((gt t.ops i).delStart.length) c5, .slice a6 ((gt t.ops i).addEnd.length) c6, .slice a7 ((gt t.ops i).delEnd.length) c7, .int .i64 ((gt t.ops i).dur)]) rfl rfl rfl (fun w => (tA41 w).2) rfl rfl rfl rfl ?_
    refine .cast (A' := [Box po [.slice a ((gt t.ops i).atStart.length) c, .slice a2 ((gt t.ops i).over.length) c2, .slice a3 ((gt t.ops i).atEnd.length) c3, .slice a4 ((gt t.ops i).addStart.length) c4, .slice a5 ((gt t.ops i).delStart.length) c5, .slice a6 ((gt t.ops i).addEnd.length) c6, .slice a7 ((gt t.ops i).delEnd.length) c7, .int .i64 ((gt t.ops i).dur)], Box pt [.int .i64 t.facts, .slice at_ t.init.length ct, .slice at_2 t.goal.length ct2, .slice at_3 t.ops.length ct3], Box pv [.int .i64 0, .int .i64 0]]) rfl ?_
    refine .nil ?_
    refine .seqN ?_
    refine .seq ?_
    refine .region ?_
    refine .v (fa rfl tF25_0) rfl rfl rfl ?_
    refine .v (ld1 rfl tO3 (cellB (off := 0) (k := 1) rfl rfl)) rfl rfl rfl ?_
    refine .v (asg rfl) rfl rfl rfl ?_
    refine .nil ?_
    refine .seqN ?_
    refine .seq ?_
    refine .share (σ := Bool) (fun z => F_timedFault_J1 t K z i I1 μ1) (fun z => [(1, .pointer (some pt)), (2, .pointer (some pv)), (3, .int .i64 i), (4, .pointer (some po)), (106, .bool z)]) (fun _ => [Box pt [.int .i64 t.facts, .slice at_ t.init.length ct, .slice at_2 t.goal.length ct2, .slice at_3 t.ops.length ct3], Box pv [.int .i64 0, .int .i64 0], Box po [.slice a ((gt t.ops i).atStart.length) c, .slice a2 ((gt t.ops i).over.length) c2, .slice a3 ((gt t.ops i).atEnd.length) c3, .slice a4 ((gt t.ops i).addStart.length) c4, .slice a5 ((gt t.ops i).delStart.length) c5, .slice a6 ((gt t.ops i).addEnd.length) c6, .slice a7 ((gt t.ops i).delEnd.length) c7, .int .i64 ((gt t.ops i).dur)]]) (fun _ => h) ?_ (fun q1378 => ?_)
    · rintro t106 hF
      show J _ _ _ _ _ [(1, .pointer (some pt)), (2, .pointer (some pv)), (3, .int .i64 i), (4, .pointer (some po)), (106, .bool t106)] [Box pt [.int .i64 t.facts, .slice at_ t.init.length ct, .slice at_2 t.goal.length ct2, .slice at_3 t.ops.length ct3], Box pv [.int .i64 0, .int .i64 0], Box po [.slice a ((gt t.ops i).atStart.length) c, .slice a2 ((gt t.ops i).over.length) c2, .slice a3 ((gt t.ops i).atEnd.length) c3, .slice a4 ((gt t.ops i).addStart.length) c4, .slice a5 ((gt t.ops i).delStart.length) c5, .slice a6 ((gt t.ops i).addEnd.length) c6, .slice a7 ((gt t.ops i).delEnd.length) c7, .int .i64 ((gt t.ops i).dur)]] h
      refine .cond rfl (fun q1381 => ?_) (fun q1381 => ?_)
      · replace hF := hF.1 q1381
        refine .seq ?_
        refine .region ?_
        refine .v (mv rfl) rfl rfl rfl ?_
        obtain ⟨r9, q1382⟩ : ∃ y_ : Fault, y_ = sp_at_ 5 i := ⟨_, rfl⟩
        replace hF := hF r9 q1382
        refine .c (cl (v := .agg #[.int .i64 r9.code, .int .i64 r9.index]) Try.call16 rfl rfl (fun w S => (by rw [q1382]; exact c_at_ S.sub 5 i ))) rfl rfl rfl ?_
        refine st (p := pv) (off := 0) (k := 1) (vs := [.int .i64 r9.code, .int .i64 r9.index]) rfl rfl rfl (fun w => (tA28 w).2) rfl rfl rfl rfl ?_
        refine .cast (A' := [Box pt [.int .i64 t.facts, .slice at_ t.init.length ct, .slice at_2 t.goal.length ct2, .slice at_3 t.ops.length ct3], Box pv [.int .i64 r9.code, .int .i64 r9.index], Box po [.slice a ((gt t.ops i).atStart.length) c, .slice a2 ((gt t.ops i).over.length) c2, .slice a3 ((gt t.ops i).atEnd.length) c3, .slice a4 ((gt t.ops i).addStart.length) c4, .slice a5 ((gt t.ops i).delStart.length) c5, .slice a6 ((gt t.ops i).addEnd.length) c6, .slice a7 ((gt t.ops i).delEnd.length) c7, .int .i64 ((gt t.ops i).dur)]]) rfl ?_
        refine .nil ?_
        refine .seqN ?_
        refine .ret ?_
        refine .seqR ?_
        refine .blkR ?_
        refine .seqR ?_
        refine .seqR ?_
        refine .blkR ?_
        refine .seqR ?_
        refine .res1 rfl (rvC rfl tA28 (k := 1) rfl rfl) (fun w' S => ⟨r9, hF, rfl, S.below⟩)
      replace hF := hF.2 q1381
      refine .skip ?_
      refine .seqN ?_
      refine .seq ?_
      refine .region ?_
      refine .v (fa rfl tF41_7) rfl rfl rfl ?_
      refine .v (ld1 rfl tO3 (cellB (off := 7) (k := 2) rfl rfl)) rfl rfl rfl ?_
      obtain ⟨r10, q1383⟩ : ∃ y_ : Bool, y_ = sp_in_ ((gt t.ops i).dur) 1 1000 := ⟨_, rfl⟩
      replace hF := hF r10 q1383
      refine .c (cl (v := .bool r10) Try.call17 rfl rfl (fun w S => (by rw [q1383]; exact c_in_ S.sub ((gt t.ops i).dur) 1 1000 ))) rfl rfl rfl ?_
      refine .v (nt rfl) rfl rfl rfl ?_
      refine .nil ?_
      refine .seqN ?_
      refine .cond rfl (fun q1384 => ?_) (fun q1384 => ?_)
      · replace hF := hF.1 q1384
        refine .seq ?_
        refine .region ?_
        refine .v (mv rfl) rfl rfl rfl ?_
        obtain ⟨r11, q1385⟩ : ∃ y_ : Fault, y_ = sp_at_ 3 i := ⟨_, rfl⟩
        replace hF := hF r11 q1385
        refine .c (cl (v := .agg #[.int .i64 r11.code, .int .i64 r11.index]) Try.call16 rfl rfl (fun w S => (by rw [q1385]; exact c_at_ S.sub 3 i ))) rfl rfl rfl ?_
        refine st (p := pv) (off := 0) (k := 1) (vs := [.int .i64 r11.code, .int .i64 r11.index]) rfl rfl rfl (fun w => (tA28 w).2) rfl rfl rfl rfl ?_
        refine .cast (A' := [Box pt [.int .i64 t.facts, .slice at_ t.init.length ct, .slice at_2 t.goal.length ct2, .slice at_3 t.ops.length ct3], Box pv [.int .i64 r11.code, .int .i64 r11.index], Box po [.slice a ((gt t.ops i).atStart.length) c, .slice a2 ((gt t.ops i).over.length) c2, .slice a3 ((gt t.ops i).atEnd.length) c3, .slice a4 ((gt t.ops i).addStart.length) c4, .slice a5 ((gt t.ops i).delStart.length) c5, .slice a6 ((gt t.ops i).addEnd.length) c6, .slice a7 ((gt t.ops i).delEnd.length) c7, .int .i64 ((gt t.ops i).dur)]]) rfl ?_
        refine .nil ?_
        refine .seqN ?_
        refine .ret ?_
        refine .blkR ?_
        refine .seqR ?_
        refine .seqR ?_
        refine .blkR ?_
        refine .seqR ?_
        refine .res1 rfl (rvC rfl tA28 (k := 1) rfl rfl) (fun w' S => ⟨r11, hF, rfl, S.below⟩)
      replace hF := hF.2 q1384
      refine .skip ?_
      refine .blkN ?_
      refine .seqN ?_
      refine .region ?_
      refine .v (mv rfl) rfl rfl rfl ?_
      refine .v (bi rfl rfl rfl) rfl rfl rfl ?_
      refine .v (asg rfl) rfl rfl rfl ?_
      refine .nil ?_
      refine .sel0 [0, 1] (by decide) rfl ?_
      exact .round (IntKind.i64.wrap (i + 1)) hF.1 hF.2 (.cons rfl (.cons rfl (.cons rfl (.nil)))) rfl (FH.le_refl _)
    refine .region ?_
    refine .v (fa rfl tF41_0) rfl rfl rfl ?_
    refine .v (ld1 rfl tO22 (cellB (off := 0) (k := 0) rfl rfl)) rfl rfl rfl ?_
    refine .v (mv rfl) rfl rfl rfl ?_
    obtain ⟨q1386, hF⟩ := hF
    obtain ⟨r12, q1387⟩ : ∃ y_ : Bool, y_ = sp_isSet ((gt t.ops i).atStart) t.facts := ⟨_, rfl⟩
    replace hF := hF r12 q1387
    refine .c (cl (v := .bool r12) Try.call30 rfl rfl (fun w S => (by rw [q1387]; exact c_rIsSet S.sub ((gt t.ops i).atStart) a c q1338 q1337 t.facts q1386))) rfl rfl rfl ?_
    refine .v (nt rfl) rfl rfl rfl ?_
    refine .v (mv rfl) rfl rfl rfl ?_
    rcases Bool.eq_false_or_eq_true (!r12) with q1388 | q1388
    · replace hF := hF.1 q1388
      refine .gS rfl rfl rfl q1388 rfl rfl ?_
      refine .gS rfl rfl rfl q1388 rfl rfl ?_
      refine .gS rfl rfl rfl q1388 rfl rfl ?_
      refine .gS rfl rfl rfl q1388 rfl rfl ?_
      refine .gS rfl rfl rfl q1388 rfl rfl ?_
      refine .v (pkT rfl q1388 rfl) rfl rfl rfl ?_
      refine .v (mv rfl) rfl rfl rfl ?_
      refine .gS rfl rfl rfl rfl rfl rfl ?_
      refine .gS rfl rfl rfl rfl rfl rfl ?_
      refine .gS rfl rfl rfl rfl rfl rfl ?_
      refine .gS rfl rfl rfl rfl rfl rfl ?_
      refine .gS rfl rfl rfl rfl rfl rfl ?_
      refine .v (pkT rfl rfl rfl) rfl rfl rfl ?_
      refine .v (mv rfl) rfl rfl rfl ?_
      refine .gS rfl rfl rfl rfl rfl rfl ?_
      refine .gS rfl rfl rfl rfl rfl rfl ?_
      refine .gS rfl rfl rfl rfl rfl rfl ?_
      refine .gS rfl rfl rfl rfl rfl rfl ?_
      refine .gS rfl rfl rfl rfl rfl rfl ?_
      refine .v (pkT rfl rfl rfl) rfl rfl rfl ?_
      refine .v (mv rfl) rfl rfl rfl ?_
      refine .gS rfl rfl rfl rfl rfl rfl ?_
      refine .gS rfl rfl rfl rfl rfl rfl ?_
      refine .gS rfl rfl rfl rfl rfl rfl ?_
      refine .gS rfl rfl rfl rfl rfl rfl ?_
      refine .gS rfl rfl rfl rfl rfl rfl ?_
      refine .v (pkT rfl rfl rfl) rfl rfl rfl ?_
      refine .v (mv rfl) rfl rfl rfl ?_
      refine .gS rfl rfl rfl rfl rfl rfl ?_
      refine .gS rfl rfl rfl rfl rfl rfl ?_
      refine .gS rfl rfl rfl rfl rfl rfl ?_
      refine .gS rfl rfl rfl rfl rfl rfl ?_
      refine .gS rfl rfl rfl rfl rfl rfl ?_
      refine .v (pkT rfl rfl rfl) rfl rfl rfl ?_
      refine .v (mv rfl) rfl rfl rfl ?_
      refine .gS rfl rfl rfl rfl rfl rfl ?_
      refine .gS rfl rfl rfl rfl rfl rfl ?_
      refine .gS rfl rfl rfl rfl rfl rfl ?_
      refine .gS rfl rfl rfl rfl rfl rfl ?_
      refine .gS rfl rfl rfl rfl rfl rfl ?_
      refine .v (pkT rfl rfl rfl) rfl rfl rfl ?_
      refine .v (mv rfl) rfl rfl rfl ?_
      refine .gS rfl rfl rfl rfl rfl rfl ?_
      refine .gS rfl rfl rfl rfl rfl rfl ?_
      refine .gS rfl rfl rfl rfl rfl rfl ?_
      refine .gS rfl rfl rfl rfl rfl rfl ?_
      refine .gS rfl rfl rfl rfl rfl rfl ?_
      refine .gS rfl rfl rfl rfl rfl rfl ?_
      refine .v (pkT rfl rfl rfl) rfl rfl rfl ?_
      refine .v (mv rfl) rfl rfl rfl ?_
      refine .gS rfl rfl rfl rfl rfl rfl ?_
      refine .gS rfl rfl rfl rfl rfl rfl ?_
      refine .gS rfl rfl rfl rfl rfl rfl ?_
      refine .gS rfl rfl rfl rfl rfl rfl ?_
      refine .gS rfl rfl rfl rfl rfl rfl ?_
      refine .gS rfl rfl rfl rfl rfl rfl ?_
      refine .v (pkT rfl rfl rfl) rfl rfl rfl ?_
      refine .nil ?_
      refine .sel0 [1, 2, 0] (by decide) rfl ?_
      exact .use q1378 true hF (.cons rfl (.cons rfl (.cons rfl (.cons rfl (.cons rfl (.nil)))))) rfl (FH.le_refl _)
    replace hF := hF.2 q1388
    refine .gv (fa rfl tF41_1) rfl rfl rfl q1388 rfl rfl ?_
    refine .gv (ld1 rfl tO22 (cellB (off := 1) (k := 0) rfl rfl)) rfl rfl rfl q1388 rfl rfl ?_
    refine .gv (mv rfl) rfl rfl rfl q1388 rfl rfl ?_
    obtain ⟨q1389, hF⟩ := hF
    obtain ⟨r13, q1390⟩ : ∃ y_ : Bool, y_ = sp_isSet ((gt t.ops i).over) t.facts := ⟨_, rfl⟩
    replace hF := hF r13 q1390
    refine .gc (cl (v := .bool r13) Try.call30 rfl rfl (fun w S => (by rw [q1390]; exact c_rIsSet S.sub ((gt t.ops i).over) a2 c2 q1340 q1339 t.facts q1389))) rfl rfl rfl q1388 rfl rfl ?_
    refine .gv (nt rfl) rfl rfl rfl q1388 rfl rfl ?_
    refine .v (pkF rfl q1388 rfl) rfl rfl rfl ?_
    refine .v (mv rfl) rfl rfl rfl ?_
    rcases Bool.eq_false_or_eq_true (!r13) with q1391 | q1391
    · replace hF := hF.1 q1391
      refine .gS rfl rfl rfl q1391 rfl rfl ?_
      refine .gS rfl rfl rfl q1391 rfl rfl ?_
      refine .gS rfl rfl rfl q1391 rfl rfl ?_
      refine .gS rfl rfl rfl q1391 rfl rfl ?_
      refine .gS rfl rfl rfl q1391 rfl rfl ?_
      refine .v (pkT rfl q1391 rfl) rfl rfl rfl ?_
      refine .v (mv rfl) rfl rfl rfl ?_
      refine .gS rfl rfl rfl rfl rfl rfl ?_
      refine .gS rfl rfl rfl rfl rfl rfl ?_
      refine .gS rfl rfl rfl rfl rfl rfl ?_
      refine .gS rfl rfl rfl rfl rfl rfl ?_
      refine .gS rfl rfl rfl rfl rfl rfl ?_
      refine .v (pkT rfl rfl rfl) rfl rfl rfl ?_
      refine .v (mv rfl) rfl rfl rfl ?_
      refine .gS rfl rfl rfl rfl rfl rfl ?_
      refine .gS rfl rfl rfl rfl rfl rfl ?_
      refine .gS rfl rfl rfl rfl rfl rfl ?_
      refine .gS rfl rfl rfl rfl rfl rfl ?_
      refine .gS rfl rfl rfl rfl rfl rfl ?_
      refine .v (pkT rfl rfl rfl) rfl rfl rfl ?_
      refine .v (mv rfl) rfl rfl rfl ?_
      refine .gS rfl rfl rfl rfl rfl rfl ?_
      refine .gS rfl rfl rfl rfl rfl rfl ?_
      refine .gS rfl rfl rfl rfl rfl rfl ?_
      refine .gS rfl rfl rfl rfl rfl rfl ?_
      refine .gS rfl rfl rfl rfl rfl rfl ?_
      refine .v (pkT rfl rfl rfl) rfl rfl rfl ?_
      refine .v (mv rfl) rfl rfl rfl ?_
      refine .gS rfl rfl rfl rfl rfl rfl ?_
      refine .gS rfl rfl rfl rfl rfl rfl ?_
      refine .gS rfl rfl rfl rfl rfl rfl ?_
      refine .gS rfl rfl rfl rfl rfl rfl ?_
      refine .gS rfl rfl rfl rfl rfl rfl ?_
      refine .v (pkT rfl rfl rfl) rfl rfl rfl ?_
      refine .v (mv rfl) rfl rfl rfl ?_
      refine .gS rfl rfl rfl rfl rfl rfl ?_
      refine .gS rfl rfl rfl rfl rfl rfl ?_
      refine .gS rfl rfl rfl rfl rfl rfl ?_
      refine .gS rfl rfl rfl rfl rfl rfl ?_
      refine .gS rfl rfl rfl rfl rfl rfl ?_
      refine .gS rfl rfl rfl rfl rfl rfl ?_
      refine .v (pkT rfl rfl rfl) rfl rfl rfl ?_
      refine .v (mv rfl) rfl rfl rfl ?_
      refine .gS rfl rfl rfl rfl rfl rfl ?_
      refine .gS rfl rfl rfl rfl rfl rfl ?_
      refine .gS rfl rfl rfl rfl rfl rfl ?_
      refine .gS rfl rfl rfl rfl rfl rfl ?_
      refine .gS rfl rfl rfl rfl rfl rfl ?_
      refine .gS rfl rfl rfl rfl rfl rfl ?_
      refine .v (pkT rfl rfl rfl) rfl rfl rfl ?_
      refine .nil ?_
      refine .sel0 [1, 2, 0] (by decide) rfl ?_
      exact .use q1378 true hF (.cons rfl (.cons rfl (.cons rfl (.cons rfl (.cons rfl (.nil)))))) rfl (FH.le_refl _)
    replace hF := hF.2 q1391
    refine .gv (fa rfl tF41_2) rfl rfl rfl q1391 rfl rfl ?_
    refine .gv (ld1 rfl tO22 (cellB (off := 2) (k := 0) rfl rfl)) rfl rfl rfl q1391 rfl rfl ?_
    refine .gv (mv rfl) rfl rfl rfl q1391 rfl rfl ?_
    obtain ⟨q1392, hF⟩ := hF
    obtain ⟨r14, q1393⟩ : ∃ y_ : Bool, y_ = sp_isSet ((gt t.ops i).atEnd) t.facts := ⟨_, rfl⟩
    replace hF := hF r14 q1393
    refine .gc (cl (v := .bool r14) Try.call30 rfl rfl (fun w S => (by rw [q1393]; exact c_rIsSet S.sub ((gt t.ops i).atEnd) a3 c3 q1342 q1341 t.facts q1392))) rfl rfl rfl q1391 rfl rfl ?_
    refine .gv (nt rfl) rfl rfl rfl q1391 rfl rfl ?_
    refine .v (pkF rfl q1391 rfl) rfl rfl rfl ?_
    refine .v (mv rfl) rfl rfl rfl ?_
    rcases Bool.eq_false_or_eq_true (!r14) with q1394 | q1394
    · replace hF := hF.1 q1394
      refine .gS rfl rfl rfl q1394 rfl rfl ?_
      refine .gS rfl rfl rfl q1394 rfl rfl ?_
      refine .gS rfl rfl rfl q1394 rfl rfl ?_
      refine .gS rfl rfl rfl q1394 rfl rfl ?_
      refine .gS rfl rfl rfl q1394 rfl rfl ?_
      refine .v (pkT rfl q1394 rfl) rfl rfl rfl ?_
      refine .v (mv rfl) rfl rfl rfl ?_
      refine .gS rfl rfl rfl rfl rfl rfl ?_
      refine .gS rfl rfl rfl rfl rfl rfl ?_
      refine .gS rfl rfl rfl rfl rfl rfl ?_
      refine .gS rfl rfl rfl rfl rfl rfl ?_
      refine .gS rfl rfl rfl rfl rfl rfl ?_
      refine .v (pkT rfl rfl rfl) rfl rfl rfl ?_
      refine .v (mv rfl) rfl rfl rfl ?_
      refine .gS rfl rfl rfl rfl rfl rfl ?_
      refine .gS rfl rfl rfl rfl rfl rfl ?_
      refine .gS rfl rfl rfl rfl rfl rfl ?_
      refine .gS rfl rfl rfl rfl rfl rfl ?_
      refine .gS rfl rfl rfl rfl rfl rfl ?_
      refine .v (pkT rfl rfl rfl) rfl rfl rfl ?_
      refine .v (mv rfl) rfl rfl rfl ?_
      refine .gS rfl rfl rfl rfl rfl rfl ?_
      refine .gS rfl rfl rfl rfl rfl rfl ?_
      refine .gS rfl rfl rfl rfl rfl rfl ?_
      refine .gS rfl rfl rfl rfl rfl rfl ?_
      refine .gS rfl rfl rfl rfl rfl rfl ?_
      refine .v (pkT rfl rfl rfl) rfl rfl rfl ?_
      refine .v (mv rfl) rfl rfl rfl ?_
      refine .gS rfl rfl rfl rfl rfl rfl ?_
      refine .gS rfl rfl rfl rfl rfl rfl ?_
      refine .gS rfl rfl rfl rfl rfl rfl ?_
      refine .gS rfl rfl rfl rfl rfl rfl ?_
      refine .gS rfl rfl rfl rfl rfl rfl ?_
      refine .gS rfl rfl rfl rfl rfl rfl ?_
      refine .v (pkT rfl rfl rfl) rfl rfl rfl ?_
      refine .v (mv rfl) rfl rfl rfl ?_
      refine .gS rfl rfl rfl rfl rfl rfl ?_
      refine .gS rfl rfl rfl rfl rfl rfl ?_
      refine .gS rfl rfl rfl rfl rfl rfl ?_
      refine .gS rfl rfl rfl rfl rfl rfl ?_
      refine .gS rfl rfl rfl rfl rfl rfl ?_
      refine .gS rfl rfl rfl rfl rfl rfl ?_
      refine .v (pkT rfl rfl rfl) rfl rfl rfl ?_
      refine .nil ?_
      refine .sel0 [1, 2, 0] (by decide) rfl ?_
      exact .use q1378 true hF (.cons rfl (.cons rfl (.cons rfl (.cons rfl (.cons rfl (.nil)))))) rfl (FH.le_refl _)
    replace hF := hF.2 q1394
    refine .gv (fa rfl tF41_3) rfl rfl rfl q1394 rfl rfl ?_
    refine .gv (ld1 rfl tO22 (cellB (off := 3) (k := 0) rfl rfl)) rfl rfl rfl q1394 rfl rfl ?_
    refine .gv (mv rfl) rfl rfl rfl q1394 rfl rfl ?_
    obtain ⟨q1395, hF⟩ := hF
    obtain ⟨r15, q1396⟩ : ∃ y_ : Bool, y_ = sp_isSet ((gt t.ops i).addStart) t.facts := ⟨_, rfl⟩
    replace hF := hF r15 q1396
    refine .gc (cl (v := .bool r15) Try.call30 rfl rfl (fun w S => (by rw [q1396]; exact c_rIsSet S.sub ((gt t.ops i).addStart) a4 c4 q1344 q1343 t.facts q1395))) rfl rfl rfl q1394 rfl rfl ?_
    refine .gv (nt rfl) rfl rfl rfl q1394 rfl rfl ?_
    refine .v (pkF rfl q1394 rfl) rfl rfl rfl ?_
    refine .v (mv rfl) rfl rfl rfl ?_
    rcases Bool.eq_false_or_eq_true (!r15) with q1397 | q1397
    · replace hF := hF.1 q1397
      refine .gS rfl rfl rfl q1397 rfl rfl ?_
      refine .gS rfl rfl rfl q1397 rfl rfl ?_
      refine .gS rfl rfl rfl q1397 rfl rfl ?_
      refine .gS rfl rfl rfl q1397 rfl rfl ?_
      refine .gS rfl rfl rfl q1397 rfl rfl ?_
      refine .v (pkT rfl q1397 rfl) rfl rfl rfl ?_
      refine .v (mv rfl) rfl rfl rfl ?_
      refine .gS rfl rfl rfl rfl rfl rfl ?_
      refine .gS rfl rfl rfl rfl rfl rfl ?_
      refine .gS rfl rfl rfl rfl rfl rfl ?_
      refine .gS rfl rfl rfl rfl rfl rfl ?_
      refine .gS rfl rfl rfl rfl rfl rfl ?_
      refine .v (pkT rfl rfl rfl) rfl rfl rfl ?_
      refine .v (mv rfl) rfl rfl rfl ?_
      refine .gS rfl rfl rfl rfl rfl rfl ?_
      refine .gS rfl rfl rfl rfl rfl rfl ?_
      refine .gS rfl rfl rfl rfl rfl rfl ?_
      refine .gS rfl rfl rfl rfl rfl rfl ?_
      refine .gS rfl rfl rfl rfl rfl rfl ?_
      refine .v (pkT rfl rfl rfl) rfl rfl rfl ?_
      refine .v (mv rfl) rfl rfl rfl ?_
      refine .gS rfl rfl rfl rfl rfl rfl ?_
      refine .gS rfl rfl rfl rfl rfl rfl ?_
      refine .gS rfl rfl rfl rfl rfl rfl ?_
      refine .gS rfl rfl rfl rfl rfl rfl ?_
      refine .gS rfl rfl rfl rfl rfl rfl ?_
      refine .gS rfl rfl rfl rfl rfl rfl ?_
      refine .v (pkT rfl rfl rfl) rfl rfl rfl ?_
      refine .v (mv rfl) rfl rfl rfl ?_
      refine .gS rfl rfl rfl rfl rfl rfl ?_
      refine .gS rfl rfl rfl rfl rfl rfl ?_
      refine .gS rfl rfl rfl rfl rfl rfl ?_
      refine .gS rfl rfl rfl rfl rfl rfl ?_
      refine .gS rfl rfl rfl rfl rfl rfl ?_
      refine .gS rfl rfl rfl rfl rfl rfl ?_
      refine .v (pkT rfl rfl rfl) rfl rfl rfl ?_
      refine .nil ?_
      refine .sel0 [1, 2, 0] (by decide) rfl ?_
      exact .use q1378 true hF (.cons rfl (.cons rfl (.cons rfl (.cons rfl (.cons rfl (.nil)))))) rfl (FH.le_refl _)
    replace hF := hF.2 q1397
    refine .gv (fa rfl tF41_4) rfl rfl rfl q1397 rfl rfl ?_
    refine .gv (ld1 rfl tO22 (cellB (off := 4) (k := 0) rfl rfl)) rfl rfl rfl q1397 rfl rfl ?_
    refine .gv (mv rfl) rfl rfl rfl q1397 rfl rfl ?_
    obtain ⟨q1398, hF⟩ := hF
    obtain ⟨r16, q1399⟩ : ∃ y_ : Bool, y_ = sp_isSet ((gt t.ops i).delStart) t.facts := ⟨_, rfl⟩
    replace hF := hF r16 q1399
    refine .gc (cl (v := .bool r16) Try.call30 rfl rfl (fun w S => (by rw [q1399]; exact c_rIsSet S.sub ((gt t.ops i).delStart) a5 c5 q1346 q1345 t.facts q1398))) rfl rfl rfl q1397 rfl rfl ?_
    refine .gv (nt rfl) rfl rfl rfl q1397 rfl rfl ?_
    refine .v (pkF rfl q1397 rfl) rfl rfl rfl ?_
    refine .v (mv rfl) rfl rfl rfl ?_
    rcases Bool.eq_false_or_eq_true (!r16) with q1400 | q1400
    · replace hF := hF.1 q1400
      refine .gS rfl rfl rfl q1400 rfl rfl ?_
      refine .gS rfl rfl rfl q1400 rfl rfl ?_
      refine .gS rfl rfl rfl q1400 rfl rfl ?_
      refine .gS rfl rfl rfl q1400 rfl rfl ?_
      refine .gS rfl rfl rfl q1400 rfl rfl ?_
      refine .v (pkT rfl q1400 rfl) rfl rfl rfl ?_
      refine .v (mv rfl) rfl rfl rfl ?_
      refine .gS rfl rfl rfl rfl rfl rfl ?_
      refine .gS rfl rfl rfl rfl rfl rfl ?_
      refine .gS rfl rfl rfl rfl rfl rfl ?_
      refine .gS rfl rfl rfl rfl rfl rfl ?_
      refine .gS rfl rfl rfl rfl rfl rfl ?_
      refine .v (pkT rfl rfl rfl) rfl rfl rfl ?_
      refine .v (mv rfl) rfl rfl rfl ?_
      refine .gS rfl rfl rfl rfl rfl rfl ?_
      refine .gS rfl rfl rfl rfl rfl rfl ?_
      refine .gS rfl rfl rfl rfl rfl rfl ?_
      refine .gS rfl rfl rfl rfl rfl rfl ?_
      refine .gS rfl rfl rfl rfl rfl rfl ?_
      refine .gS rfl rfl rfl rfl rfl rfl ?_
      refine .v (pkT rfl rfl rfl) rfl rfl rfl ?_
      refine .v (mv rfl) rfl rfl rfl ?_
      refine .gS rfl rfl rfl rfl rfl rfl ?_
      refine .gS rfl rfl rfl rfl rfl rfl ?_
      refine .gS rfl rfl rfl rfl rfl rfl ?_
      refine .gS rfl rfl rfl rfl rfl rfl ?_
      refine .gS rfl rfl rfl rfl rfl rfl ?_
      refine .gS rfl rfl rfl rfl rfl rfl ?_
      refine .v (pkT rfl rfl rfl) rfl rfl rfl ?_
      refine .nil ?_
      refine .sel0 [1, 2, 0] (by decide) rfl ?_
      exact .use q1378 true hF (.cons rfl (.cons rfl (.cons rfl (.cons rfl (.cons rfl (.nil)))))) rfl (FH.le_refl _)
    replace hF := hF.2 q1400
    refine .gv (fa rfl tF41_5) rfl rfl rfl q1400 rfl rfl ?_
    refine .gv (ld1 rfl tO22 (cellB (off := 5) (k := 0) rfl rfl)) rfl rfl rfl q1400 rfl rfl ?_
    refine .gv (mv rfl) rfl rfl rfl q1400 rfl rfl ?_
    obtain ⟨q1401, hF⟩ := hF
    obtain ⟨r17, q1402⟩ : ∃ y_ : Bool, y_ = sp_isSet ((gt t.ops i).addEnd) t.facts := ⟨_, rfl⟩
    replace hF := hF r17 q1402
    refine .gc (cl (v := .bool r17) Try.call30 rfl rfl (fun w S => (by rw [q1402]; exact c_rIsSet S.sub ((gt t.ops i).addEnd) a6 c6 q1348 q1347 t.facts q1401))) rfl rfl rfl q1400 rfl rfl ?_
    refine .gv (nt rfl) rfl rfl rfl q1400 rfl rfl ?_
    refine .v (pkF rfl q1400 rfl) rfl rfl rfl ?_
    refine .v (mv rfl) rfl rfl rfl ?_
    rcases Bool.eq_false_or_eq_true (!r17) with q1403 | q1403
    · replace hF := hF.1 q1403
      refine .gS rfl rfl rfl q1403 rfl rfl ?_
      refine .gS rfl rfl rfl q1403 rfl rfl ?_
      refine .gS rfl rfl rfl q1403 rfl rfl ?_
      refine .gS rfl rfl rfl q1403 rfl rfl ?_
      refine .gS rfl rfl rfl q1403 rfl rfl ?_
      refine .v (pkT rfl q1403 rfl) rfl rfl rfl ?_
      refine .v (mv rfl) rfl rfl rfl ?_
      refine .gS rfl rfl rfl rfl rfl rfl ?_
      refine .gS rfl rfl rfl rfl rfl rfl ?_
      refine .gS rfl rfl rfl rfl rfl rfl ?_
      refine .gS rfl rfl rfl rfl rfl rfl ?_
      refine .gS rfl rfl rfl rfl rfl rfl ?_
      refine .gS rfl rfl rfl rfl rfl rfl ?_
      refine .v (pkT rfl rfl rfl) rfl rfl rfl ?_
      refine .v (mv rfl) rfl rfl rfl ?_
      refine .gS rfl rfl rfl rfl rfl rfl ?_
      refine .gS rfl rfl rfl rfl rfl rfl ?_
      refine .gS rfl rfl rfl rfl rfl rfl ?_
      refine .gS rfl rfl rfl rfl rfl rfl ?_
      refine .gS rfl rfl rfl rfl rfl rfl ?_
      refine .gS rfl rfl rfl rfl rfl rfl ?_
      refine .v (pkT rfl rfl rfl) rfl rfl rfl ?_
      refine .nil ?_
      refine .sel0 [1, 2, 0] (by decide) rfl ?_
      exact .use q1378 true hF (.cons rfl (.cons rfl (.cons rfl (.cons rfl (.cons rfl (.nil)))))) rfl (FH.le_refl _)
    replace hF := hF.2 q1403
    refine .gv (fa rfl tF41_6) rfl rfl rfl q1403 rfl rfl ?_
    refine .gv (ld1 rfl tO22 (cellB (off := 6) (k := 0) rfl rfl)) rfl rfl rfl q1403 rfl rfl ?_
    refine .gv (mv rfl) rfl rfl rfl q1403 rfl rfl ?_
    obtain ⟨q1404, hF⟩ := hF
    obtain ⟨r18, q1405⟩ : ∃ y_ : Bool, y_ = sp_isSet ((gt t.ops i).delEnd) t.facts := ⟨_, rfl⟩
    replace hF := hF r18 q1405
    refine .gc (cl (v := .bool r18) Try.call30 rfl rfl (fun w S => (by rw [q1405]; exact c_rIsSet S.sub ((gt t.ops i).delEnd) a7 c7 q1350 q1349 t.facts q1404))) rfl rfl rfl q1403 rfl rfl ?_
    refine .gv (nt rfl) rfl rfl rfl q1403 rfl rfl ?_
    refine .v (pkF rfl q1403 rfl) rfl rfl rfl ?_
    refine .v (mv rfl) rfl rfl rfl ?_
    rcases Bool.eq_false_or_eq_true (!r18) with q1406 | q1406
    · replace hF := hF.1 q1406
      refine .gS rfl rfl rfl q1406 rfl rfl ?_
      refine .gS rfl rfl rfl q1406 rfl rfl ?_
      refine .gS rfl rfl rfl q1406 rfl rfl ?_
      refine .gS rfl rfl rfl q1406 rfl rfl ?_
      refine .gS rfl rfl rfl q1406 rfl rfl ?_
      refine .gS rfl rfl rfl q1406 rfl rfl ?_
      refine .v (pkT rfl q1406 rfl) rfl rfl rfl ?_
      refine .v (mv rfl) rfl rfl rfl ?_
      refine .gS rfl rfl rfl rfl rfl rfl ?_
      refine .gS rfl rfl rfl rfl rfl rfl ?_
      refine .gS rfl rfl rfl rfl rfl rfl ?_
      refine .gS rfl rfl rfl rfl rfl rfl ?_
      refine .gS rfl rfl rfl rfl rfl rfl ?_
      refine .gS rfl rfl rfl rfl rfl rfl ?_
      refine .v (pkT rfl rfl rfl) rfl rfl rfl ?_
      refine .nil ?_
      refine .sel0 [1, 2, 0] (by decide) rfl ?_
      exact .use q1378 true hF (.cons rfl (.cons rfl (.cons rfl (.cons rfl (.cons rfl (.nil)))))) rfl (FH.le_refl _)
    replace hF := hF.2 q1406
    refine .gv (fa rfl tF41_3) rfl rfl rfl q1406 rfl rfl ?_
    refine .gv (ld1 rfl tO22 (cellB (off := 3) (k := 0) rfl rfl)) rfl rfl rfl q1406 rfl rfl ?_
    refine .gv (fa rfl tF41_4) rfl rfl rfl q1406 rfl rfl ?_
    refine .gv (ld1 rfl tO22 (cellB (off := 4) (k := 0) rfl rfl)) rfl rfl rfl q1406 rfl rfl ?_
    obtain ⟨q1407, hF⟩ := hF
    obtain ⟨r19, q1408⟩ : ∃ y_ : Bool, y_ = sp_disjoint ((gt t.ops i).addStart) ((gt t.ops i).delStart) := ⟨_, rfl⟩
    replace hF := hF r19 q1408
    refine .gc (cl (v := .bool r19) Try.call31 rfl rfl (fun w S => (by rw [q1408]; exact c_disjoint S.sub ((gt t.ops i).addStart) a4 c4 q1344 q1343 ((gt t.ops i).delStart) a5 c5 q1346 q1345 q1407))) rfl rfl rfl q1406 rfl rfl ?_
    refine .gv (nt rfl) rfl rfl rfl q1406 rfl rfl ?_
    refine .v (pkF rfl q1406 rfl) rfl rfl rfl ?_
    refine .v (mv rfl) rfl rfl rfl ?_
    rcases Bool.eq_false_or_eq_true (!r19) with q1409 | q1409
    · replace hF := hF.1 q1409
      refine .gS rfl rfl rfl q1409 rfl rfl ?_
      refine .gS rfl rfl rfl q1409 rfl rfl ?_
      refine .gS rfl rfl rfl q1409 rfl rfl ?_
      refine .gS rfl rfl rfl q1409 rfl rfl ?_
      refine .gS rfl rfl rfl q1409 rfl rfl ?_
      refine .gS rfl rfl rfl q1409 rfl rfl ?_
      refine .v (pkT rfl q1409 rfl) rfl rfl rfl ?_
      refine .nil ?_
      refine .sel0 [1, 2, 0] (by decide) rfl ?_
      exact .use q1378 true hF (.cons rfl (.cons rfl (.cons rfl (.cons rfl (.cons rfl (.nil)))))) rfl (FH.le_refl _)
    replace hF := hF.2 q1409
    refine .gv (fa rfl tF41_5) rfl rfl rfl q1409 rfl rfl ?_
    refine .gv (ld1 rfl tO22 (cellB (off := 5) (k := 0) rfl rfl)) rfl rfl rfl q1409 rfl rfl ?_
    refine .gv (fa rfl tF41_6) rfl rfl rfl q1409 rfl rfl ?_
    refine .gv (ld1 rfl tO22 (cellB (off := 6) (k := 0) rfl rfl)) rfl rfl rfl q1409 rfl rfl ?_
    obtain ⟨q1410, hF⟩ := hF
    obtain ⟨r20, q1411⟩ : ∃ y_ : Bool, y_ = sp_disjoint ((gt t.ops i).addEnd) ((gt t.ops i).delEnd) := ⟨_, rfl⟩
    replace hF := hF r20 q1411
    refine .gc (cl (v := .bool r20) Try.call31 rfl rfl (fun w S => (by rw [q1411]; exact c_disjoint S.sub ((gt t.ops i).addEnd) a6 c6 q1348 q1347 ((gt t.ops i).delEnd) a7 c7 q1350 q1349 q1410))) rfl rfl rfl q1409 rfl rfl ?_
    refine .gv (nt rfl) rfl rfl rfl q1409 rfl rfl ?_
    refine .v (pkF rfl q1409 rfl) rfl rfl rfl ?_
    refine .nil ?_
    refine .sel0 [1, 2, 0] (by decide) rfl ?_
    exact .use q1378 (!r20) hF (.cons rfl (.cons rfl (.cons rfl (.cons rfl (.cons rfl (.nil)))))) rfl (FH.le_refl _)
  replace hF := hF.2 q1183
  refine .exit ?_
  refine .seqX ?_
  refine .seqX ?_
  refine .blkX ?_
  refine .seqN ?_
  refine .seq ?_
  refine .region ?_
  refine .v (bld (cs := #[.int .i64 0, .int .i64 0]) (pv := []) tB28 rfl rfl) rfl rfl rfl ?_
  refine st (p := pv) (off := 0) (k := 1) (vs := [.int .i64 0, .int .i64 0]) rfl rfl rfl (fun w => (tA28 w).2) rfl rfl rfl rfl ?_
  refine .cast (A' := [Box pt [.int .i64 t.facts, .slice at_ t.init.length ct, .slice at_2 t.goal.length ct2, .slice at_3 t.ops.length ct3], Box pv [.int .i64 0, .int .i64 0]]) rfl ?_
  refine .nil ?_
  refine .seqN ?_
  refine .ret ?_
  refine .res1 rfl (rvC rfl tA28 (k := 1) rfl rfl) (fun w' S => ⟨(⟨0, 0⟩ : Fault), hF, rfl, S.below⟩)

theorem c_timedFault {h : FH} {w : World} (hs : Sub h w) (t : TTask) (at_ : Option Addr) (ct : Nat) (_q1 : RSl h at_ t.init) (_q2 : t.init.length ≤ ct) (at_2 : Option Addr) (ct2 : Nat) (_q3 : RSl h at_2 t.goal) (_q4 : t.goal.length ≤ ct2) (at_3 : Option Addr) (ct3 : Nat) (_q5 : RSl h at_3 t.ops) (_q6 : t.ops.length ≤ ct3) : Calls Try.prog 12 #[.agg #[.int .i64 t.facts, .slice at_ t.init.length ct, .slice at_2 t.goal.length ct2, .slice at_3 t.ops.length ct3]] w fun e w' => e = .returned (.agg #[.int .i64 (sp_tvalidate t).code, .int .i64 (sp_tvalidate t).index]) ∧ Below w.heap.size w w' :=
  (w_timedFault hs t at_ ct _q1 _q2 at_2 ct2 _q3 _q4 at_3 ct3 _q5 _q6 (fun r => r = sp_tvalidate t) (ok_timedFault t)).mono fun _ _ ⟨_, hk, he, hb⟩ => ⟨by rw [he, hk], hb⟩

set_option maxHeartbeats 8000000 in
theorem w_scheduleFault {h : FH} {w : World} (hs : Sub h w) (t : TTask) (at_ : Option Addr) (ct : Nat) (_q1 : RSl h at_ t.init) (_q2 : t.init.length ≤ ct) (at_2 : Option Addr) (ct2 : Nat) (_q3 : RSl h at_2 t.goal) (_q4 : t.goal.length ≤ ct2) (at_3 : Option Addr) (ct3 : Nat) (_q5 : RSl h at_3 t.ops) (_q6 : t.ops.length ≤ ct3) (l : List Occ) (al2 : Option Addr) (cl2 : Nat) (_q7 : RSl h al2 l) (_q8 : l.length ≤ cl2) (K : Fault → Prop) (hF : F_scheduleFault t l K) : Calls Try.prog 24 #[.agg #[.int .i64 t.facts, .slice at_ t.init.length ct, .slice at_2 t.goal.length ct2, .slice at_3 t.ops.length ct3], .slice al2 l.length cl2] w fun e w' => ∃ r : Fault, K r ∧ e = .returned (.agg #[.int .i64 r.code, .int .i64 r.index]) ∧ Below w.heap.size w w' := by
  refine enter (args := [.agg #[.int .i64 t.facts, .slice at_ t.init.length ct, .slice at_2 t.goal.length ct2, .slice at_3 t.ops.length ct3], .slice al2 l.length cl2]) Try.func24 rfl Try.ntmps24 rfl hs ?_
  refine .seq ?_
  refine .region ?_
  refine bx (vs := [.int .i64 t.facts, .slice at_ t.init.length ct, .slice at_2 t.goal.length ct2, .slice at_3 t.ops.length ct3]) rfl rfl rfl (fun pt => ?_)
  refine al tZ28 rfl (fun pv => ?_)
  refine .nil ?_
  refine .seqN ?_
  refine .seq ?_
  refine .seq ?_
  refine .region ?_
  refine .v (ldA (cs := [.int .i64 t.facts, .slice at_ t.init.length ct, .slice at_2 t.goal.length ct2, .slice at_3 t.ops.length ct3]) rfl tA25 rfl (cellsB (off := 0) (k := 1) rfl (m := 4) rfl)) rfl rfl rfl ?_
  obtain ⟨r2, q9⟩ : ∃ y_ : Fault, y_ = sp_tvalidate t := ⟨_, rfl⟩
  replace hF := hF r2 q9
  refine .c (cl (v := .agg #[.int .i64 r2.code, .int .i64 r2.index]) Try.call11 rfl rfl (fun w S => (by rw [q9]; exact c_tvalidate S.sub t at_ ct _q1 _q2 at_2 ct2 _q3 _q4 at_3 ct3 _q5 _q6 ))) rfl rfl rfl ?_
  refine al tZ28 rfl (fun pf => ?_)
  refine st (p := pf) (off := 0) (k := 0) (vs := [.int .i64 r2.code, .int .i64 r2.index]) rfl rfl rfl (fun w => (tA28 w).2) rfl rfl rfl rfl ?_
  refine .cast (A' := [Box pf [.int .i64 r2.code, .int .i64 r2.index], Box pv [.int .i64 0, .int .i64 0], Box pt [.int .i64 t.facts, .slice at_ t.init.length ct, .slice at_2 t.goal.length ct2, .slice at_3 t.ops.length ct3]]) rfl ?_
  refine .nil ?_
  refine .seqN ?_
  refine .seq ?_
  refine .region ?_
  refine .v (ldA (cs := [.int .i64 r2.code, .int .i64 r2.index]) rfl tA28 rfl (cellsB (off := 0) (k := 0) rfl (m := 2) rfl)) rfl rfl rfl ?_
  refine .v (bld (cs := #[.int .i64 0, .int .i64 0]) (pv := []) tB28 rfl rfl) rfl rfl rfl ?_
  refine .v (ne2 tE28 rfl rfl) rfl rfl rfl ?_
  refine .nil ?_
  refine .seqN ?_
  refine .cond rfl (fun q11 => ?_) (fun q11 => ?_)
  · replace hF := hF.1 q11
    refine .seq ?_
    refine .region ?_
    refine .v (ldA (cs := [.int .i64 r2.code, .int .i64 r2.index]) rfl tA28 rfl (cellsB (off := 0) (k := 0) rfl (m := 2) rfl)) rfl rfl rfl ?_
    refine st (p := pv) (off := 0) (k := 1) (vs := [.int .i64 r2.code, .int .i64 r2.index]) rfl rfl rfl (fun w => (tA28 w).2) rfl rfl rfl rfl ?_
    refine .cast (A' := [Box pf [.int .i64 r2.code, .int .i64 r2.index], Box pv [.int .i64 r2.code, .int .i64 r2.index], Box pt [.int .i64 t.facts, .slice at_ t.init.length ct, .slice at_2 t.goal.length ct2, .slice at_3 t.ops.length ct3]]) rfl ?_
    refine .nil ?_
    refine .seqN ?_
    refine .ret ?_
    refine .seqR ?_
    refine .res1 rfl (rvC rfl tA28 (k := 1) rfl rfl) (fun w' S => ⟨r2, hF, rfl, S.below⟩)
  replace hF := hF.2 q11
  refine .skip ?_
  refine .seqN ?_
  refine .seq ?_
  refine .seq ?_
  refine .region ?_
  refine .v (mv rfl) rfl rfl rfl ?_
  refine .v (ln rfl tS26.is) rfl rfl rfl ?_
  refine .v (bi rfl rfl rfl) rfl rfl rfl ?_
  refine .nil ?_
  refine .seqN ?_
  refine .cond rfl (fun q13 => ?_) (fun q13 => ?_)
  · replace hF := hF.1 q13
    refine .seq ?_
    refine .region ?_
    refine .v (bld (cs := #[.int .i64 2, .int .i64 (-5)]) (pv := [(0, .int .i64 2), (1, .int .i64 (-5))]) tB28 rfl rfl) rfl rfl rfl ?_
    refine st (p := pv) (off := 0) (k := 1) (vs := [.int .i64 2, .int .i64 (-5)]) rfl rfl rfl (fun w => (tA28 w).2) rfl rfl rfl rfl ?_
    refine .cast (A' := [Box pf [.int .i64 r2.code, .int .i64 r2.index], Box pv [.int .i64 2, .int .i64 (-5)], Box pt [.int .i64 t.facts, .slice at_ t.init.length ct, .slice at_2 t.goal.length ct2, .slice at_3 t.ops.length ct3]]) rfl ?_
    refine .nil ?_
    refine .seqN ?_
    refine .ret ?_
    refine .seqR ?_
    refine .res1 rfl (rvC rfl tA28 (k := 1) rfl rfl) (fun w' S => ⟨(⟨2, (-5)⟩ : Fault), hF, rfl, S.below⟩)
  replace hF := hF.2 q13
  refine .skip ?_
  refine .seqN ?_
  refine .seq ?_
  refine .seq ?_
  refine .region ?_
  refine .v (mv rfl) rfl rfl rfl ?_
  refine .v (ln rfl tS26.is) rfl rfl rfl ?_
  refine .v (mv rfl) rfl rfl rfl ?_
  refine .nil ?_
  refine .seqN ?_
  refine .block ?_
  refine .sel0 [2, 1] (by decide) rfl ?_
  obtain ⟨I1, μ1, q166, q167⟩ := hF
  refine .loop' (σ := Int) (fun z => I1 z) (fun z => μ1 z) (fun z => [(2, .pointer (some pt)), (4, .pointer (some pv)), (18, .slice al2 l.length cl2), (19, .int .i64 ((l.length : Nat) : Int)), (20, .int .i64 z)]) (fun _ => [Box pt [.int .i64 t.facts, .slice at_ t.init.length ct, .slice at_2 t.goal.length ct2, .slice at_3 t.ops.length ct3], Box pv [.int .i64 0, .int .i64 0]]) (fun _ => h) 0 q166 (.cons rfl (.cons rfl (.cons rfl (.cons rfl (.cons rfl (.nil)))))) rfl (FH.le_refl _) ?_
  rintro t20 q166
  have hF := q167 t20 q166
  show J _ _ _ _ _ [(2, .pointer (some pt)), (4, .pointer (some pv)), (18, .slice al2 l.length cl2), (19, .int .i64 ((l.length : Nat) : Int)), (20, .int .i64 t20)] [Box pt [.int .i64 t.facts, .slice at_ t.init.length ct, .slice at_2 t.goal.length ct2, .slice at_3 t.ops.length ct3], Box pv [.int .i64 0, .int .i64 0]] h
  refine .seq ?_
  refine .region ?_
  refine .v (bi rfl rfl rfl) rfl rfl rfl ?_
  refine .nil ?_
  refine .seqN ?_
  refine .seq ?_
  refine .cond rfl (fun q170 => ?_) (fun q170 => ?_)
  · replace hF := hF.1 q170
    refine .skip ?_
    refine .seqN ?_
    refine .seq ?_
    refine .block ?_
    refine .seq ?_
    refine .region ?_
    refine .v (mv rfl) rfl rfl rfl ?_
    obtain ⟨q189, hF⟩ := hF
    refine .v (ix rfl rfl tS26 (_q7.ne (by decide) (inb_pos q189)) q189) rfl rfl rfl ?_
    refine .v (ldA (cs := [.int .i64 ((gt l t20).op), .int .i64 ((gt l t20).start)]) rfl tA38 rfl (cellsH (_q7.elemF q189 (by decide)))) rfl rfl rfl ?_
    refine al tZ38 rfl (fun px => ?_)
    refine .v (asg rfl) rfl rfl rfl ?_
    refine st (p := px) (off := 0) (k := 0) (vs := [.int .i64 ((gt l t20).op), .int .i64 ((gt l t20).start)]) rfl rfl rfl (fun w => (tA38 w).2) rfl rfl rfl rfl ?_
    refine .cast (A' := [Box px [.int .i64 ((gt l t20).op), .int .i64 ((gt l t20).start)], Box pt [.int .i64 t.facts, .slice at_ t.init.length ct, .slice at_2 t.goal.length ct2, .slice at_3 t.ops.length ct3], Box pv [.int .i64 0, .int .i64 0]]) rfl ?_
    refine .nil ?_
    refine .seqN ?_
    refine .share (σ := Bool) (fun z => F_scheduleFault_J1 K z t20 I1 μ1) (fun z => [(2, .pointer (some pt)), (4, .pointer (some pv)), (6, .int .i64 t20), (18, .slice al2 l.length cl2), (19, .int .i64 ((l.length : Nat) : Int)), (20, .int .i64 t20), (45, .bool z)]) (fun _ => [Box pt [.int .i64 t.facts, .slice at_ t.init.length ct, .slice at_2 t.goal.length ct2, .slice at_3 t.ops.length ct3], Box pv [.int .i64 0, .int .i64 0]]) (fun _ => h) ?_ (fun q193 => ?_)
    · rintro t45 hF
      show J _ _ _ _ _ [(2, .pointer (some pt)), (4, .pointer (some pv)), (6, .int .i64 t20), (18, .slice al2 l.length cl2), (19, .int .i64 ((l.length : Nat) : Int)), (20, .int .i64 t20), (45, .bool t45)] [Box pt [.int .i64 t.facts, .slice at_ t.init.length ct, .slice at_2 t.goal.length ct2, .slice at_3 t.ops.length ct3], Box pv [.int .i64 0, .int .i64 0]] h
      refine .cond rfl (fun q194 => ?_) (fun q194 => ?_)
      · replace hF := hF.1 q194
        refine .seq ?_
        refine .region ?_
        refine .v (mv rfl) rfl rfl rfl ?_
        refine .v (bi rfl rfl rfl) rfl rfl rfl ?_
        refine .v (bld (cs := #[.int .i64 3, .int .i64 (IntKind.i64.wrap ((-6) - t20))]) (pv := [(0, .int .i64 3), (1, .int .i64 (IntKind.i64.wrap ((-6) - t20)))]) tB28 rfl rfl) rfl rfl rfl ?_
        refine st (p := pv) (off := 0) (k := 1) (vs := [.int .i64 3, .int .i64 (IntKind.i64.wrap ((-6) - t20))]) rfl rfl rfl (fun w => (tA28 w).2) rfl rfl rfl rfl ?_
        refine .cast (A' := [Box pt [.int .i64 t.facts, .slice at_ t.init.length ct, .slice at_2 t.goal.length ct2, .slice at_3 t.ops.length ct3], Box pv [.int .i64 3, .int .i64 (IntKind.i64.wrap ((-6) - t20))]]) rfl ?_
        refine .nil ?_
        refine .seqN ?_
        refine .ret ?_
        refine .blkR ?_
        refine .seqR ?_
        refine .seqR ?_
        refine .blkR ?_
        refine .seqR ?_
        refine .res1 rfl (rvC rfl tA28 (k := 1) rfl rfl) (fun w' S => ⟨(⟨3, IntKind.i64.wrap ((-6) - t20)⟩ : Fault), hF, rfl, S.below⟩)
      replace hF := hF.2 q194
      refine .skip ?_
      refine .blkN ?_
      refine .seqN ?_
      refine .region ?_
      refine .v (bi rfl rfl rfl) rfl rfl rfl ?_
      refine .v (mv rfl) rfl rfl rfl ?_
      refine .nil ?_
      exact .round (IntKind.i64.wrap (t20 + 1)) hF.1 hF.2 (.cons rfl (.cons rfl (.cons rfl (.cons rfl (.cons rfl (.nil)))))) rfl (FH.le_refl _)
    refine .region ?_
    refine .v (fa rfl tF38_0) rfl rfl rfl ?_
    refine .v (ld1 rfl tO3 (cellB (off := 0) (k := 0) rfl rfl)) rfl rfl rfl ?_
    refine .v (bi rfl rfl rfl) rfl rfl rfl ?_
    refine .v (mv rfl) rfl rfl rfl ?_
    rcases Bool.eq_false_or_eq_true (decide (((gt l t20).op) < 0)) with q195 | q195
    · replace hF := hF.1 q195
      refine .gS rfl rfl rfl q195 rfl rfl ?_
      refine .gS rfl rfl rfl q195 rfl rfl ?_
      refine .gS rfl rfl rfl q195 rfl rfl ?_
      refine .gS rfl rfl rfl q195 rfl rfl ?_
      refine .gS rfl rfl rfl q195 rfl rfl ?_
      refine .gS rfl rfl rfl q195 rfl rfl ?_
      refine .v (pkT rfl q195 rfl) rfl rfl rfl ?_
      refine .v (mv rfl) rfl rfl rfl ?_
      refine .gS rfl rfl rfl rfl rfl rfl ?_
      refine .gS rfl rfl rfl rfl rfl rfl ?_
      refine .gS rfl rfl rfl rfl rfl rfl ?_
      refine .v (pkT rfl rfl rfl) rfl rfl rfl ?_
      refine .v (mv rfl) rfl rfl rfl ?_
      refine .gS rfl rfl rfl rfl rfl rfl ?_
      refine .gS rfl rfl rfl rfl rfl rfl ?_
      refine .gS rfl rfl rfl rfl rfl rfl ?_
      refine .v (pkT rfl rfl rfl) rfl rfl rfl ?_
      refine .nil ?_
      refine .sel0 [1, 2] (by decide) rfl ?_
      exact .use q193 true hF (.cons rfl (.cons rfl (.cons rfl (.cons rfl (.cons rfl (.cons rfl (.cons rfl (.nil)))))))) rfl (FH.le_refl _)
    replace hF := hF.2 q195
    refine .gv (fa rfl tF38_0) rfl rfl rfl q195 rfl rfl ?_
    refine .gv (ld1 rfl tO3 (cellB (off := 0) (k := 0) rfl rfl)) rfl rfl rfl q195 rfl rfl ?_
    refine .gv (fa rfl tF25_3) rfl rfl rfl q195 rfl rfl ?_
    refine .gv (ld1 rfl tO23 (cellB (off := 3) (k := 1) rfl rfl)) rfl rfl rfl q195 rfl rfl ?_
    refine .gv (ln rfl tS23.is) rfl rfl rfl q195 rfl rfl ?_
    refine .gv (bi rfl rfl rfl) rfl rfl rfl q195 rfl rfl ?_
    refine .v (pkF rfl q195 rfl) rfl rfl rfl ?_
    refine .v (mv rfl) rfl rfl rfl ?_
    rcases Bool.eq_false_or_eq_true (decide (((t.ops.length : Nat) : Int) ≤ ((gt l t20).op))) with q196 | q196
    · replace hF := hF.1 q196
      refine .gS rfl rfl rfl q196 rfl rfl ?_
      refine .gS rfl rfl rfl q196 rfl rfl ?_
      refine .gS rfl rfl rfl q196 rfl rfl ?_
      refine .v (pkT rfl q196 rfl) rfl rfl rfl ?_
      refine .v (mv rfl) rfl rfl rfl ?_
      refine .gS rfl rfl rfl rfl rfl rfl ?_
      refine .gS rfl rfl rfl rfl rfl rfl ?_
      refine .gS rfl rfl rfl rfl rfl rfl ?_
      refine .v (pkT rfl rfl rfl) rfl rfl rfl ?_
      refine .nil ?_
      refine .sel0 [1, 2] (by decide) rfl ?_
      exact .use q193 true hF (.cons rfl (.cons rfl (.cons rfl (.cons rfl (.cons rfl (.cons rfl (.cons rfl (.nil)))))))) rfl (FH.le_refl _)
    replace hF := hF.2 q196
    refine .gv (fa rfl tF38_1) rfl rfl rfl q196 rfl rfl ?_
    refine .gv (ld1 rfl tO3 (cellB (off := 1) (k := 0) rfl rfl)) rfl rfl rfl q196 rfl rfl ?_
    refine .gv (bi rfl rfl rfl) rfl rfl rfl q196 rfl rfl ?_
    refine .v (pkF rfl q196 rfl) rfl rfl rfl ?_
    refine .v (mv rfl) rfl rfl rfl ?_
    rcases Bool.eq_false_or_eq_true (decide (((gt l t20).start) < 0)) with q197 | q197
    · replace hF := hF.1 q197
      refine .gS rfl rfl rfl q197 rfl rfl ?_
      refine .gS rfl rfl rfl q197 rfl rfl ?_
      refine .gS rfl rfl rfl q197 rfl rfl ?_
      refine .v (pkT rfl q197 rfl) rfl rfl rfl ?_
      refine .nil ?_
      refine .sel0 [1, 2] (by decide) rfl ?_
      exact .use q193 true hF (.cons rfl (.cons rfl (.cons rfl (.cons rfl (.cons rfl (.cons rfl (.cons rfl (.nil)))))))) rfl (FH.le_refl _)
    replace hF := hF.2 q197
    refine .gv (fa rfl tF38_1) rfl rfl rfl q197 rfl rfl ?_
    refine .gv (ld1 rfl tO3 (cellB (off := 1) (k := 0) rfl rfl)) rfl rfl rfl q197 rfl rfl ?_
    refine .gv (bi rfl rfl rfl) rfl rfl rfl q197 rfl rfl ?_
    refine .v (pkF rfl q197 rfl) rfl rfl rfl ?_
    refine .nil ?_
    refine .sel0 [1, 2] (by decide) rfl ?_
    exact .use q193 (decide (1000000 < ((gt l t20).start))) hF (.cons rfl (.cons rfl (.cons rfl (.cons rfl (.cons rfl (.cons rfl (.cons rfl (.nil)))))))) rfl (FH.le_refl _)
  replace hF := hF.2 q170
  refine .exit ?_
  refine .seqX ?_
  refine .seqX ?_
  refine .blkX ?_
  refine .seqN ?_
  refine .seq ?_
  refine .region ?_
  refine .v (bld (cs := #[.int .i64 0, .int .i64 0]) (pv := []) tB28 rfl rfl) rfl rfl rfl ?_
  refine st (p := pv) (off := 0) (k := 1) (vs := [.int .i64 0, .int .i64 0]) rfl rfl rfl (fun w => (tA28 w).2) rfl rfl rfl rfl ?_
  refine .cast (A' := [Box pt [.int .i64 t.facts, .slice at_ t.init.length ct, .slice at_2 t.goal.length ct2, .slice at_3 t.ops.length ct3], Box pv [.int .i64 0, .int .i64 0]]) rfl ?_
  refine .nil ?_
  refine .seqN ?_
  refine .ret ?_
  refine .res1 rfl (rvC rfl tA28 (k := 1) rfl rfl) (fun w' S => ⟨(⟨0, 0⟩ : Fault), hF, rfl, S.below⟩)

theorem c_scheduleFault {h : FH} {w : World} (hs : Sub h w) (t : TTask) (at_ : Option Addr) (ct : Nat) (_q1 : RSl h at_ t.init) (_q2 : t.init.length ≤ ct) (at_2 : Option Addr) (ct2 : Nat) (_q3 : RSl h at_2 t.goal) (_q4 : t.goal.length ≤ ct2) (at_3 : Option Addr) (ct3 : Nat) (_q5 : RSl h at_3 t.ops) (_q6 : t.ops.length ≤ ct3) (l : List Occ) (al2 : Option Addr) (cl2 : Nat) (_q7 : RSl h al2 l) (_q8 : l.length ≤ cl2) : Calls Try.prog 24 #[.agg #[.int .i64 t.facts, .slice at_ t.init.length ct, .slice at_2 t.goal.length ct2, .slice at_3 t.ops.length ct3], .slice al2 l.length cl2] w fun e w' => e = .returned (.agg #[.int .i64 (sp_scheduleFault t l).code, .int .i64 (sp_scheduleFault t l).index]) ∧ Below w.heap.size w w' :=
  (w_scheduleFault hs t at_ ct _q1 _q2 at_2 ct2 _q3 _q4 at_3 ct3 _q5 _q6 l al2 cl2 _q7 _q8 (fun r => r = sp_scheduleFault t l) (ok_scheduleFault t l)).mono fun _ _ ⟨_, hk, he, hb⟩ => ⟨by rw [he, hk], hb⟩

set_option maxHeartbeats 8000000 in
theorem w_occurFault {h : FH} {w : World} (hs : Sub h w) (t : TTask) (at_ : Option Addr) (ct : Nat) (_q1 : RSl h at_ t.init) (_q2 : t.init.length ≤ ct) (at_2 : Option Addr) (ct2 : Nat) (_q3 : RSl h at_2 t.goal) (_q4 : t.goal.length ≤ ct2) (at_3 : Option Addr) (ct3 : Nat) (_q5 : RSl h at_3 t.ops) (_q6 : t.ops.length ≤ ct3) (l : List Occ) (al2 : Option Addr) (cl2 : Nat) (_q7 : RSl h al2 l) (_q8 : l.length ≤ cl2) (K : Fault → Prop) (hF : F_occurFault t l K) : Calls Try.prog 10 #[.agg #[.int .i64 t.facts, .slice at_ t.init.length ct, .slice at_2 t.goal.length ct2, .slice at_3 t.ops.length ct3], .slice al2 l.length cl2] w fun e w' => ∃ r : Fault, K r ∧ e = .returned (.agg #[.int .i64 r.code, .int .i64 r.index]) ∧ Below w.heap.size w w' := by
  refine enter (args := [.agg #[.int .i64 t.facts, .slice at_ t.init.length ct, .slice at_2 t.goal.length ct2, .slice at_3 t.ops.length ct3], .slice al2 l.length cl2]) Try.func10 rfl Try.ntmps10 rfl hs ?_
  refine .seq ?_
  refine .region ?_
  refine bx (vs := [.int .i64 t.facts, .slice at_ t.init.length ct, .slice at_2 t.goal.length ct2, .slice at_3 t.ops.length ct3]) rfl rfl rfl (fun pt => ?_)
  refine al tZ28 rfl (fun pv => ?_)
  refine .nil ?_
  refine .seqN ?_
  refine .seq ?_
  refine .seq ?_
  refine .region ?_
  refine .v (ldA (cs := [.int .i64 t.facts, .slice at_ t.init.length ct, .slice at_2 t.goal.length ct2, .slice at_3 t.ops.length ct3]) rfl tA25 rfl (cellsB (off := 0) (k := 1) rfl (m := 4) rfl)) rfl rfl rfl ?_
  obtain ⟨r2, q9⟩ : ∃ y_ : Fault, y_ = sp_tvalidate t := ⟨_, rfl⟩
  replace hF := hF r2 q9
  refine .c (cl (v := .agg #[.int .i64 r2.code, .int .i64 r2.index]) Try.call12 rfl rfl (fun w S => (by rw [q9]; exact c_timedFault S.sub t at_ ct _q1 _q2 at_2 ct2 _q3 _q4 at_3 ct3 _q5 _q6 ))) rfl rfl rfl ?_
  refine al tZ28 rfl (fun pf => ?_)
  refine st (p := pf) (off := 0) (k := 0) (vs := [.int .i64 r2.code, .int .i64 r2.index]) rfl rfl rfl (fun w => (tA28 w).2) rfl rfl rfl rfl ?_
  refine .cast (A' := [Box pf [.int .i64 r2.code, .int .i64 r2.index], Box pv [.int .i64 0, .int .i64 0], Box pt [.int .i64 t.facts, .slice at_ t.init.length ct, .slice at_2 t.goal.length ct2, .slice at_3 t.ops.length ct3]]) rfl ?_
  refine .nil ?_
  refine .seqN ?_
  refine .seq ?_
  refine .region ?_
  refine .v (fa rfl tF28_0) rfl rfl rfl ?_
  refine .v (ld1 rfl tO3 (cellB (off := 0) (k := 0) rfl rfl)) rfl rfl rfl ?_
  refine .v (bi rfl rfl rfl) rfl rfl rfl ?_
  refine .nil ?_
  refine .seqN ?_
  refine .cond rfl (fun q11 => ?_) (fun q11 => ?_)
  · replace hF := hF.1 q11
    refine .seq ?_
    refine .region ?_
    refine .v (ldA (cs := [.int .i64 r2.code, .int .i64 r2.index]) rfl tA28 rfl (cellsB (off := 0) (k := 0) rfl (m := 2) rfl)) rfl rfl rfl ?_
    refine st (p := pv) (off := 0) (k := 1) (vs := [.int .i64 r2.code, .int .i64 r2.index]) rfl rfl rfl (fun w => (tA28 w).2) rfl rfl rfl rfl ?_
    refine .cast (A' := [Box pf [.int .i64 r2.code, .int .i64 r2.index], Box pv [.int .i64 r2.code, .int .i64 r2.index], Box pt [.int .i64 t.facts, .slice at_ t.init.length ct, .slice at_2 t.goal.length ct2, .slice at_3 t.ops.length ct3]]) rfl ?_
    refine .nil ?_
    refine .seqN ?_
    refine .ret ?_
    refine .seqR ?_
    refine .res1 rfl (rvC rfl tA28 (k := 1) rfl rfl) (fun w' S => ⟨r2, hF, rfl, S.below⟩)
  replace hF := hF.2 q11
  refine .skip ?_
  refine .seqN ?_
  refine .seq ?_
  refine .seq ?_
  refine .region ?_
  refine .v (mv rfl) rfl rfl rfl ?_
  refine .v (ln rfl tS26.is) rfl rfl rfl ?_
  refine .v (bi rfl rfl rfl) rfl rfl rfl ?_
  refine .nil ?_
  refine .seqN ?_
  refine .cond rfl (fun q14 => ?_) (fun q14 => ?_)
  · replace hF := hF.1 q14
    refine .seq ?_
    refine .region ?_
    obtain ⟨r3, q15⟩ : ∃ y_ : Fault, y_ = sp_at_ 2 (-5) := ⟨_, rfl⟩
    replace hF := hF r3 q15
    refine .c (cl (v := .agg #[.int .i64 r3.code, .int .i64 r3.index]) Try.call16 rfl rfl (fun w S => (by rw [q15]; exact c_at_ S.sub 2 (-5) ))) rfl rfl rfl ?_
    refine st (p := pv) (off := 0) (k := 1) (vs := [.int .i64 r3.code, .int .i64 r3.index]) rfl rfl rfl (fun w => (tA28 w).2) rfl rfl rfl rfl ?_
    refine .cast (A' := [Box pf [.int .i64 r2.code, .int .i64 r2.index], Box pv [.int .i64 r3.code, .int .i64 r3.index], Box pt [.int .i64 t.facts, .slice at_ t.init.length ct, .slice at_2 t.goal.length ct2, .slice at_3 t.ops.length ct3]]) rfl ?_
    refine .nil ?_
    refine .seqN ?_
    refine .ret ?_
    refine .seqR ?_
    refine .res1 rfl (rvC rfl tA28 (k := 1) rfl rfl) (fun w' S => ⟨r3, hF, rfl, S.below⟩)
  replace hF := hF.2 q14
  refine .skip ?_
  refine .seqN ?_
  refine .seq ?_
  refine .seq ?_
  refine .region ?_
  refine .v (asg rfl) rfl rfl rfl ?_
  refine .nil ?_
  refine .seqN ?_
  refine .block ?_
  refine .sel0 [2, 1] (by decide) rfl ?_
  obtain ⟨I1, μ1, q193, q194⟩ := hF
  refine .loop' (σ := Int) (fun z => I1 z) (fun z => μ1 z) (fun z => [(1, .slice al2 l.length cl2), (2, .pointer (some pt)), (4, .pointer (some pv)), (6, .int .i64 z)]) (fun _ => [Box pt [.int .i64 t.facts, .slice at_ t.init.length ct, .slice at_2 t.goal.length ct2, .slice at_3 t.ops.length ct3], Box pv [.int .i64 0, .int .i64 0]]) (fun _ => h) 0 q193 (.cons rfl (.cons rfl (.cons rfl (.cons rfl (.nil))))) rfl (FH.le_refl _) ?_
  rintro i q193
  have hF := q194 i q193
  show J _ _ _ _ _ [(1, .slice al2 l.length cl2), (2, .pointer (some pt)), (4, .pointer (some pv)), (6, .int .i64 i)] [Box pt [.int .i64 t.facts, .slice at_ t.init.length ct, .slice at_2 t.goal.length ct2, .slice at_3 t.ops.length ct3], Box pv [.int .i64 0, .int .i64 0]] h
  refine .seq ?_
  refine .seq ?_
  refine .region ?_
  refine .v (mv rfl) rfl rfl rfl ?_
  refine .v (mv rfl) rfl rfl rfl ?_
  refine .v (ln rfl tS26.is) rfl rfl rfl ?_
  refine .v (bi rfl rfl rfl) rfl rfl rfl ?_
  refine .nil ?_
  refine .seqN ?_
  refine .cond rfl (fun q196 => ?_) (fun q196 => ?_)
  · replace hF := hF.1 q196
    refine .skip ?_
    refine .seqN ?_
    refine .seq ?_
    refine .block ?_
    refine .share (σ := Bool) (fun z => F_occurFault_J1 K z i I1 μ1) (fun z => [(1, .slice al2 l.length cl2), (2, .pointer (some pt)), (4, .pointer (some pv)), (6, .int .i64 i), (42, .bool z)]) (fun _ => [Box pt [.int .i64 t.facts, .slice at_ t.init.length ct, .slice at_2 t.goal.length ct2, .slice at_3 t.ops.length ct3], Box pv [.int .i64 0, .int .i64 0]]) (fun _ => h) ?_ (fun q223 => ?_)
    · rintro t42 hF
      show J _ _ _ _ _ [(1, .slice al2 l.length cl2), (2, .pointer (some pt)), (4, .pointer (some pv)), (6, .int .i64 i), (42, .bool t42)] [Box pt [.int .i64 t.facts, .slice at_ t.init.length ct, .slice at_2 t.goal.length ct2, .slice at_3 t.ops.length ct3], Box pv [.int .i64 0, .int .i64 0]] h
      refine .cond rfl (fun q224 => ?_) (fun q224 => ?_)
      · replace hF := hF.1 q224
        refine .seq ?_
        refine .region ?_
        refine .v (mv rfl) rfl rfl rfl ?_
        refine .v (bi rfl rfl rfl) rfl rfl rfl ?_
        obtain ⟨r4, q225⟩ : ∃ y_ : Fault, y_ = sp_at_ 3 (IntKind.i64.wrap ((-6) - i)) := ⟨_, rfl⟩
        replace hF := hF r4 q225
        refine .c (cl (v := .agg #[.int .i64 r4.code, .int .i64 r4.index]) Try.call16 rfl rfl (fun w S => (by rw [q225]; exact c_at_ S.sub 3 (IntKind.i64.wrap ((-6) - i)) ))) rfl rfl rfl ?_
        refine st (p := pv) (off := 0) (k := 1) (vs := [.int .i64 r4.code, .int .i64 r4.index]) rfl rfl rfl (fun w => (tA28 w).2) rfl rfl rfl rfl ?_
        refine .cast (A' := [Box pt [.int .i64 t.facts, .slice at_ t.init.length ct, .slice at_2 t.goal.length ct2, .slice at_3 t.ops.length ct3], Box pv [.int .i64 r4.code, .int .i64 r4.index]]) rfl ?_
        refine .nil ?_
        refine .seqN ?_
        refine .ret ?_
        refine .blkR ?_
        refine .seqR ?_
        refine .seqR ?_
        refine .blkR ?_
        refine .seqR ?_
        refine .res1 rfl (rvC rfl tA28 (k := 1) rfl rfl) (fun w' S => ⟨r4, hF, rfl, S.below⟩)
      replace hF := hF.2 q224
      refine .skip ?_
      refine .blkN ?_
      refine .seqN ?_
      refine .region ?_
      refine .v (mv rfl) rfl rfl rfl ?_
      refine .v (bi rfl rfl rfl) rfl rfl rfl ?_
      refine .v (asg rfl) rfl rfl rfl ?_
      refine .nil ?_
      exact .round (IntKind.i64.wrap (i + 1)) hF.1 hF.2 (.cons rfl (.cons rfl (.cons rfl (.cons rfl (.nil))))) rfl (FH.le_refl _)
    refine .open_ (by kernel_rfl) (by kernel_rfl) ?_
    refine .v (mv rfl) rfl rfl rfl ?_
    refine .v (mv rfl) rfl rfl rfl ?_
    obtain ⟨q226, hF⟩ := hF
    refine .v (ix rfl rfl tS26 (_q7.ne (by decide) (inb_pos q226)) q226) rfl rfl rfl ?_
    refine .v (fa rfl tF38_0) rfl rfl rfl ?_
    refine .v (ld1 (v := .int .i64 ((gt l i).op)) rfl tO3 (cellH (_q7.elemF q226 (by decide) 0 _ rfl))) rfl rfl rfl ?_
    refine .v (fa rfl tF25_3) rfl rfl rfl ?_
    refine .v (ld1 rfl tO23 (cellB (off := 3) (k := 0) rfl rfl)) rfl rfl rfl ?_
    refine .v (ln rfl tS23.is) rfl rfl rfl ?_
    refine .v (bi rfl rfl rfl) rfl rfl rfl ?_
    obtain ⟨r5, q227⟩ : ∃ y_ : Bool, y_ = sp_in_ ((gt l i).op) 0 (IntKind.i64.wrap (((t.ops.length : Nat) : Int) - 1)) := ⟨_, rfl⟩
    replace hF := hF r5 q227
    refine .c (cl (v := .bool r5) Try.call17 rfl rfl (fun w S => (by rw [q227]; exact c_in_ S.sub ((gt l i).op) 0 (IntKind.i64.wrap (((t.ops.length : Nat) : Int) - 1)) ))) rfl rfl rfl ?_
    refine .v (nt rfl) rfl rfl rfl ?_
    refine .v (mv rfl) rfl rfl rfl ?_
    rcases Bool.eq_false_or_eq_true (!r5) with q228 | q228
    · replace hF := hF.1 q228
      refine .gS rfl rfl rfl q228 rfl rfl ?_
      refine .gS rfl rfl rfl q228 rfl rfl ?_
      refine .gS rfl rfl rfl q228 rfl rfl ?_
      refine .gS rfl rfl rfl q228 rfl rfl ?_
      refine .gS rfl rfl rfl q228 rfl rfl ?_
      refine .gS rfl rfl rfl q228 rfl rfl ?_
      refine .gS rfl rfl rfl q228 rfl rfl ?_
      refine .v (pkT rfl q228 rfl) rfl rfl rfl ?_
      refine .fin ?_
      exact .use q223 true hF (.cons rfl (.cons rfl (.cons rfl (.cons rfl (.cons rfl (.nil)))))) rfl (FH.le_refl _)
    replace hF := hF.2 q228
    refine .gv (mv rfl) rfl rfl rfl q228 rfl rfl ?_
    refine .gv (mv rfl) rfl rfl rfl q228 rfl rfl ?_
    refine .gv (ix rfl rfl tS26 (_q7.ne (by decide) (inb_pos q226)) q226) rfl rfl rfl q228 rfl rfl ?_
    refine .gv (fa rfl tF38_1) rfl rfl rfl q228 rfl rfl ?_
    refine .gv (ld1 (v := .int .i64 ((gt l i).start)) rfl tO3 (cellH (_q7.elemF q226 (by decide) 1 _ rfl))) rfl rfl rfl q228 rfl rfl ?_
    obtain ⟨r6, q229⟩ : ∃ y_ : Bool, y_ = sp_in_ ((gt l i).start) 0 1000000 := ⟨_, rfl⟩
    replace hF := hF r6 q229
    refine .gc (cl (v := .bool r6) Try.call17 rfl rfl (fun w S => (by rw [q229]; exact c_in_ S.sub ((gt l i).start) 0 1000000 ))) rfl rfl rfl q228 rfl rfl ?_
    refine .gv (nt rfl) rfl rfl rfl q228 rfl rfl ?_
    refine .v (pkF rfl q228 rfl) rfl rfl rfl ?_
    refine .fin ?_
    exact .use q223 (!r6) hF (.cons rfl (.cons rfl (.cons rfl (.cons rfl (.cons rfl (.nil)))))) rfl (FH.le_refl _)
  replace hF := hF.2 q196
  refine .exit ?_
  refine .seqX ?_
  refine .seqX ?_
  refine .blkX ?_
  refine .seqN ?_
  refine .seq ?_
  refine .region ?_
  refine .v (bld (cs := #[.int .i64 0, .int .i64 0]) (pv := []) tB28 rfl rfl) rfl rfl rfl ?_
  refine st (p := pv) (off := 0) (k := 1) (vs := [.int .i64 0, .int .i64 0]) rfl rfl rfl (fun w => (tA28 w).2) rfl rfl rfl rfl ?_
  refine .cast (A' := [Box pt [.int .i64 t.facts, .slice at_ t.init.length ct, .slice at_2 t.goal.length ct2, .slice at_3 t.ops.length ct3], Box pv [.int .i64 0, .int .i64 0]]) rfl ?_
  refine .nil ?_
  refine .seqN ?_
  refine .ret ?_
  refine .res1 rfl (rvC rfl tA28 (k := 1) rfl rfl) (fun w' S => ⟨(⟨0, 0⟩ : Fault), hF, rfl, S.below⟩)

theorem c_occurFault {h : FH} {w : World} (hs : Sub h w) (t : TTask) (at_ : Option Addr) (ct : Nat) (_q1 : RSl h at_ t.init) (_q2 : t.init.length ≤ ct) (at_2 : Option Addr) (ct2 : Nat) (_q3 : RSl h at_2 t.goal) (_q4 : t.goal.length ≤ ct2) (at_3 : Option Addr) (ct3 : Nat) (_q5 : RSl h at_3 t.ops) (_q6 : t.ops.length ≤ ct3) (l : List Occ) (al2 : Option Addr) (cl2 : Nat) (_q7 : RSl h al2 l) (_q8 : l.length ≤ cl2) : Calls Try.prog 10 #[.agg #[.int .i64 t.facts, .slice at_ t.init.length ct, .slice at_2 t.goal.length ct2, .slice at_3 t.ops.length ct3], .slice al2 l.length cl2] w fun e w' => e = .returned (.agg #[.int .i64 (sp_scheduleFault t l).code, .int .i64 (sp_scheduleFault t l).index]) ∧ Below w.heap.size w w' :=
  (w_occurFault hs t at_ ct _q1 _q2 at_2 ct2 _q3 _q4 at_3 ct3 _q5 _q6 l al2 cl2 _q7 _q8 (fun r => r = sp_scheduleFault t l) (ok_occurFault t l)).mono fun _ _ ⟨_, hk, he, hb⟩ => ⟨by rw [he, hk], hb⟩

theorem w_happenings {h : FH} {w : World} (hs : Sub h w) (t : TTask) (at_ : Option Addr) (ct : Nat) (_q1 : RSl h at_ t.init) (_q2 : t.init.length ≤ ct) (at_2 : Option Addr) (ct2 : Nat) (_q3 : RSl h at_2 t.goal) (_q4 : t.goal.length ≤ ct2) (at_3 : Option Addr) (ct3 : Nat) (_q5 : RSl h at_3 t.ops) (_q6 : t.ops.length ≤ ct3) (l : List Occ) (al2 : Option Addr) (cl2 : Nat) (_q7 : RSl h al2 l) (_q8 : l.length ≤ cl2) (K : (List Hap) → Prop) (hF : F_happenings t l K) : Calls Try.prog 25 #[.agg #[.int .i64 t.facts, .slice at_ t.init.length ct, .slice at_2 t.goal.length ct2, .slice at_3 t.ops.length ct3], .slice al2 l.length cl2] w fun e w' => ∃ (r : List Hap) (z : Option Addr × Nat) (h1 : FH), K r ∧ e = .returned (.slice z.1 r.length z.2) ∧ FH.le h h1 ∧ (RSl h1 z.1 r ∧ r.length ≤ z.2) ∧ SH (Kp.all w h) h1 w' [] := by
  refine enter (args := [.agg #[.int .i64 t.facts, .slice at_ t.init.length ct, .slice at_2 t.goal.length ct2, .slice at_3 t.ops.length ct3], .slice al2 l.length cl2]) Try.func25 rfl Try.ntmps25 rfl hs ?_
  refine .seq ?_
  refine .region ?_
  refine bx (vs := [.int .i64 t.facts, .slice at_ t.init.length ct, .slice at_2 t.goal.length ct2, .slice at_3 t.ops.length ct3]) rfl rfl rfl (fun pt => ?_)
  refine .v (asg rfl) rfl rfl rfl ?_
  refine .nil ?_
  refine .seqN ?_
  refine .seq ?_
  refine .region ?_
  refine .v (asg rfl) rfl rfl rfl ?_
  refine .nil ?_
  refine .seqN ?_
  refine .seq ?_
  refine .seq ?_
  refine .region ?_
  refine .v (mv rfl) rfl rfl rfl ?_
  refine .v (ln rfl tS26.is) rfl rfl rfl ?_
  refine .v (mv rfl) rfl rfl rfl ?_
  refine .nil ?_
  refine .seqN ?_
  refine .block ?_
  refine .nilSl 63 3 ?_
  refine .cast (A' := [OwnSl 63 3 none (([] : List Hap).length) 0 (flL ([] : List Hap)), Box pt [.int .i64 t.facts, .slice at_ t.init.length ct, .slice at_2 t.goal.length ct2, .slice at_3 t.ops.length ct3]]) rfl ?_
  refine .sel0 [1, 0] (by decide) rfl ?_
  obtain ⟨I1, μ1, q326, q327⟩ := hF
  refine .loop' (σ := Int × List Hap × Option Addr × Nat) (fun z => I1 z.1 z.2.1) (fun z => μ1 z.1 z.2.1) (fun z => [(2, .pointer (some pt)), (5, .slice z.2.2.1 z.2.1.length z.2.2.2), (9, .slice al2 l.length cl2), (10, .int .i64 ((l.length : Nat) : Int)), (11, .int .i64 z.1)]) (fun z => [Box pt [.int .i64 t.facts, .slice at_ t.init.length ct, .slice at_2 t.goal.length ct2, .slice at_3 t.ops.length ct3], OwnSl 63 3 z.2.2.1 z.2.1.length z.2.2.2 (flL z.2.1)]) (fun _ => h) (0, ([] : List Hap), none, 0) q326 (.cons rfl (.cons rfl (.cons rfl (.cons rfl (.cons rfl (.nil)))))) rfl (FH.le_refl _) ?_
  rintro ⟨t11, out, aout, cout⟩ q326
  have hF := q327 t11 out q326
  show J _ _ _ _ _ [(2, .pointer (some pt)), (5, .slice aout out.length cout), (9, .slice al2 l.length cl2), (10, .int .i64 ((l.length : Nat) : Int)), (11, .int .i64 t11)] [Box pt [.int .i64 t.facts, .slice at_ t.init.length ct, .slice at_2 t.goal.length ct2, .slice at_3 t.ops.length ct3], OwnSl 63 3 aout out.length cout (flL out)] h
  refine .seq ?_
  refine .region ?_
  refine .v (bi rfl rfl rfl) rfl rfl rfl ?_
  refine .nil ?_
  refine .seqN ?_
  refine .seq ?_
  refine .cond rfl (fun q330 => ?_) (fun q330 => ?_)
  · replace hF := hF.1 q330
    refine .skip ?_
    refine .seqN ?_
    refine .seq ?_
    refine .block ?_
    refine .seq ?_
    refine .region ?_
    refine .v (mv rfl) rfl rfl rfl ?_
    obtain ⟨q371, hF⟩ := hF
    refine .v (ix rfl rfl tS26 (_q7.ne (by decide) (inb_pos q371)) q371) rfl rfl rfl ?_
    refine .v (ldA (cs := [.int .i64 ((gt l t11).op), .int .i64 ((gt l t11).start)]) rfl tA38 rfl (cellsH (_q7.elemF q371 (by decide)))) rfl rfl rfl ?_
    refine al tZ38 rfl (fun px => ?_)
    refine .v (asg rfl) rfl rfl rfl ?_
    refine st (p := px) (off := 0) (k := 0) (vs := [.int .i64 ((gt l t11).op), .int .i64 ((gt l t11).start)]) rfl rfl rfl (fun w => (tA38 w).2) rfl rfl rfl rfl ?_
    refine .cast (A' := [Box px [.int .i64 ((gt l t11).op), .int .i64 ((gt l t11).start)], Box pt [.int .i64 t.facts, .slice at_ t.init.length ct, .slice at_2 t.goal.length ct2, .slice at_3 t.ops.length ct3], OwnSl 63 3 aout out.length cout (flL out)]) rfl ?_
    refine .nil ?_
    refine .seqN ?_
    obtain ⟨q372, hF⟩ := hF
    obtain ⟨_, ⟨a, c, a2, c2, a3, c3, a4, c4, a5, c5, a6, c6, a7, c7, rfl, ⟨q373, q374⟩, ⟨q375, q376⟩, ⟨q377, q378⟩, ⟨q379, q380⟩, ⟨q381, q382⟩, ⟨q383, q384⟩, q385, q386⟩, q387⟩ := _q5.elem q372
    refine .openA (s0 := [(2, .pointer (some pt)), (5, .slice aout out.length cout), (6, .int .i64 t11), (7, .pointer (some px)), (9, .slice al2 l.length cl2), (10, .int .i64 ((l.length : Nat) : Int)), (11, .int .i64 t11)]) [0, 1, 2, 3, 4, 5, 6, 7, 8, 9, 10, 11, 12, 13, 14, 15, 16] [(0, .slice aout out.length cout), (1, .pointer (some (px.add 1))), (2, .int .i64 ((gt l t11).start)), (3, .int .i64 t11), (4, .agg #[.int .i64 ((gt l t11).start), .int .i64 t11, .bool false]), (5, .pointer (some (px.add 1))), (6, .int .i64 ((gt l t11).start)), (7, .pointer (some (pt.add 3))), (8, .slice at_3 t.ops.length ct3), (9, .pointer (some (px.add 0))), (10, .int .i64 ((gt l t11).op)), (11, .pointer (some (ead at_3 (((gt l t11).op).toNat * 8)))), (12, .pointer (some ((ead at_3 (((gt l t11).op).toNat * 8)).add 7))), (13, .int .i64 ((gt t.ops ((gt l t11).op)).dur)), (14, .int .i64 (IntKind.i64.wrap (((gt l t11).start) + ((gt t.ops ((gt l t11).op)).dur)))), (15, .int .i64 t11), (16, .agg #[.int .i64 (IntKind.i64.wrap (((gt l t11).start) + ((gt t.ops ((gt l t11).op)).dur))), .int .i64 t11, .bool true])] (by kernel_rfl) (.cons rfl (.cons rfl (.cons rfl (.cons rfl (.cons rfl (.cons rfl (.cons rfl (.nil)))))))) [2, 5, 6, 7, 9, 10, 11] [19] rfl (by kernel_rfl) ?_
    refine .step [17] 17 rfl (by kernel_rfl) (by kernel_rfl) (.v [] rfl rfl rfl rfl rfl rfl (fun _ => mv rfl) (.v [] rfl rfl rfl rfl rfl rfl (fun _ => fa rfl tF38_1) (.v [(17, .pointer (some (px.add 1)))] rfl rfl rfl rfl rfl rfl (fun _ => ld1 rfl tO3 (cellB (off := 1) (k := 0) rfl rfl)) (.v [] rfl rfl rfl rfl rfl rfl (fun _ => mv rfl) (.v [(18, .int .i64 ((gt l t11).start)), (19, .int .i64 t11)] rfl rfl rfl rfl rfl rfl (fun _ => bld (cs := #[.int .i64 ((gt l t11).start), .int .i64 t11, .bool false]) (pv := [(0, .int .i64 ((gt l t11).start)), (1, .int .i64 t11), (2, .bool false)]) tB63 rfl rfl) (.v [] rfl rfl rfl rfl rfl rfl (fun _ => fa rfl tF38_1) (.v [(21, .pointer (some (px.add 1)))] rfl rfl rfl rfl rfl rfl (fun _ => ld1 rfl tO3 (cellB (off := 1) (k := 0) rfl rfl)) (.v [] rfl rfl rfl rfl rfl rfl (fun _ => fa rfl tF25_3) (.v [(23, .pointer (some (pt.add 3)))] rfl rfl rfl rfl rfl rfl (fun _ => ld1 rfl tO23 (cellB (off := 3) (k := 1) rfl rfl)) (.v [] rfl rfl rfl rfl rfl rfl (fun _ => fa rfl tF38_0) (.v [(25, .pointer (some (px.add 0)))] rfl rfl rfl rfl rfl rfl (fun _ => ld1 rfl tO3 (cellB (off := 0) (k := 0) rfl rfl)) (.v [(24, .slice at_3 t.ops.length ct3), (26, .int .i64 ((gt l t11).op))] rfl rfl rfl rfl rfl rfl (fun _ => ix rfl rfl tS23 (_q5.ne (by decide) (inb_pos q372)) q372) (.v [(27, .pointer (some (ead at_3 (((gt l t11).op).toNat * 8))))] rfl rfl rfl rfl rfl rfl (fun _ => fa rfl tF41_7) (.v [(28, .pointer (some ((ead at_3 (((gt l t11).op).toNat * 8)).add 7)))] rfl rfl rfl rfl rfl rfl (fun _ => ld1 (v := .int .i64 ((gt t.ops ((gt l t11).op)).dur)) rfl tO3 (cellH (q387 (by decide) 7 _ rfl))) (.v [(22, .int .i64 ((gt l t11).start)), (29, .int .i64 ((gt t.ops ((gt l t11).op)).dur))] rfl rfl rfl rfl rfl rfl (fun _ => bi rfl rfl rfl) (.v [] rfl rfl rfl rfl rfl rfl (fun _ => mv rfl) (.v [(30, .int .i64 (IntKind.i64.wrap (((gt l t11).start) + ((gt t.ops ((gt l t11).op)).dur)))), (31, .int .i64 t11)] rfl rfl rfl rfl rfl rfl (fun _ => bld (cs := #[.int .i64 (IntKind.i64.wrap (((gt l t11).start) + ((gt t.ops ((gt l t11).op)).dur))), .int .i64 t11, .bool true]) (pv := [(0, .int .i64 (IntKind.i64.wrap (((gt l t11).start) + ((gt t.ops ((gt l t11).op)).dur)))), (1, .int .i64 t11), (2, .bool true)]) tB63 rfl rfl) (.nil)))))))))))))))))) (.cons [(20, .agg #[.int .i64 ((gt l t11).start), .int .i64 t11, .bool false]), (32, .agg #[.int .i64 (IntKind.i64.wrap (((gt l t11).start) + ((gt t.ops ((gt l t11).op)).dur))), .int .i64 t11, .bool true])] rfl rfl (fun sL hL => ?_) (.nil))
    refine bs2 (cs := #[.int .i64 ((gt l t11).start), .int .i64 t11, .bool false, .int .i64 (IntKind.i64.wrap (((gt l t11).start) + ((gt t.ops ((gt l t11).op)).dur))), .int .i64 t11, .bool true]) (pv := [(0, .agg #[.int .i64 ((gt l t11).start), .int .i64 t11, .bool false]), (1, .agg #[.int .i64 (IntKind.i64.wrap (((gt l t11).start) + ((gt t.ops ((gt l t11).op)).dur))), .int .i64 t11, .bool true])]) tS60 rfl rfl (by decide) (by decide) rfl rfl rfl (fun a8 _ => ?_)
    refine .cast (A' := [OwnSl 63 3 a8 (([(⟨(gt l t11).start, t11, false⟩ : Hap), (⟨IntKind.i64.wrap (((gt l t11).start) + ((gt t.ops ((gt l t11).op)).dur)), t11, true⟩ : Hap)] : List Hap).length) 2 (flL ([(⟨(gt l t11).start, t11, false⟩ : Hap), (⟨IntKind.i64.wrap (((gt l t11).start) + ((gt t.ops ((gt l t11).op)).dur)), t11, true⟩ : Hap)] : List Hap)), Box px [.int .i64 ((gt l t11).op), .int .i64 ((gt l t11).start)], Box pt [.int .i64 t.facts, .slice at_ t.init.length ct, .slice at_2 t.goal.length ct2, .slice at_3 t.ops.length ct3], OwnSl 63 3 aout out.length cout (flL out)]) rfl ?_
    refine .nil ?_
    refine .ja (M := [4, 16, 2, 3, 14, 15, 1, 6, 13, 5, 12, 11, 8, 10, 7, 9]) (C' := [0]) (pre := [(17, .slice a8 (([(⟨(gt l t11).start, t11, false⟩ : Hap), (⟨IntKind.i64.wrap (((gt l t11).start) + ((gt t.ops ((gt l t11).op)).dur)), t11, true⟩ : Hap)] : List Hap).length) 2)]) [(2, .pointer (some pt)), (5, .slice aout out.length cout), (6, .int .i64 t11), (7, .pointer (some px)), (9, .slice al2 l.length cl2), (10, .int .i64 ((l.length : Nat) : Int)), (11, .int .i64 t11)] [2, 5, 6, 7, 9, 10, 11] hL rfl rfl rfl rfl rfl (.cons rfl (.cons rfl (.cons rfl (.cons rfl (.cons rfl (.cons rfl (.cons rfl (.nil)))))))) rfl rfl (by kernel_rfl) ?_
    refine .step [18] 18 rfl (by kernel_rfl) (by kernel_rfl) (.v [] rfl rfl rfl rfl rfl rfl (fun _ => mv rfl) (.nil)) (.cons [(16, .slice aout out.length cout), (33, .slice a8 (([(⟨(gt l t11).start, t11, false⟩ : Hap), (⟨IntKind.i64.wrap (((gt l t11).start) + ((gt t.ops ((gt l t11).op)).dur)), t11, true⟩ : Hap)] : List Hap).length) 2)] rfl rfl (fun sL hL => ?_) (.nil))
    obtain ⟨q389, hF⟩ := hF
    have q390 : out.length + ([(⟨(gt l t11).start, t11, false⟩ : Hap), (⟨IntKind.i64.wrap (((gt l t11).start) + ((gt t.ops ((gt l t11).op)).dur)), t11, true⟩ : Hap)] : List Hap).length = ((out ++ ([(⟨(gt l t11).start, t11, false⟩ : Hap), (⟨IntKind.i64.wrap (((gt l t11).start) + ((gt t.ops ((gt l t11).op)).dur)), t11, true⟩ : Hap)] : List Hap))).length := len_app rfl rfl
    refine app (k := 3) (news := flL ([(⟨(gt l t11).start, t11, false⟩ : Hap), (⟨IntKind.i64.wrap (((gt l t11).start) + ((gt t.ops ((gt l t11).op)).dur)), t11, true⟩ : Hap)] : List Hap)) (cs' := flL (out ++ ([(⟨(gt l t11).start, t11, false⟩ : Hap), (⟨IntKind.i64.wrap (((gt l t11).start) + ((gt t.ops ((gt l t11).op)).dur)), t11, true⟩ : Hap)] : List Hap))) (nm := ((out ++ ([(⟨(gt l t11).start, t11, false⟩ : Hap), (⟨IntKind.i64.wrap (((gt l t11).start) + ((gt t.ops ((gt l t11).op)).dur)), t11, true⟩ : Hap)] : List Hap))).length) tS60 rfl (by decide) rfl rfl rfl (by rw [flL_len]; rfl) (srcS (k := 0) rfl) (flL_one _) (room_of q390 q389).1 (room_of q390 q389).2 q390 (flL_append _ _).symm rfl (fun a9 c8 => ?_)
    refine .cast (A' := [OwnSl 63 3 a8 (([(⟨(gt l t11).start, t11, false⟩ : Hap), (⟨IntKind.i64.wrap (((gt l t11).start) + ((gt t.ops ((gt l t11).op)).dur)), t11, true⟩ : Hap)] : List Hap).length) 2 (flL ([(⟨(gt l t11).start, t11, false⟩ : Hap), (⟨IntKind.i64.wrap (((gt l t11).start) + ((gt t.ops ((gt l t11).op)).dur)), t11, true⟩ : Hap)] : List Hap)), Box px [.int .i64 ((gt l t11).op), .int .i64 ((gt l t11).start)], Box pt [.int .i64 t.facts, .slice at_ t.init.length ct, .slice at_2 t.goal.length ct2, .slice at_3 t.ops.length ct3], OwnSl 63 3 a9 ((out ++ ([(⟨(gt l t11).start, t11, false⟩ : Hap), (⟨IntKind.i64.wrap (((gt l t11).start) + ((gt t.ops ((gt l t11).op)).dur)), t11, true⟩ : Hap)] : List Hap)).length) c8 (flL (out ++ ([(⟨(gt l t11).start, t11, false⟩ : Hap), (⟨IntKind.i64.wrap (((gt l t11).start) + ((gt t.ops ((gt l t11).op)).dur)), t11, true⟩ : Hap)] : List Hap)))]) rfl ?_
    refine .nil ?_
    refine .ja (M := [0]) (C' := []) (pre := [(18, .slice a9 ((out ++ ([(⟨(gt l t11).start, t11, false⟩ : Hap), (⟨IntKind.i64.wrap (((gt l t11).start) + ((gt t.ops ((gt l t11).op)).dur)), t11, true⟩ : Hap)] : List Hap)).length) c8)]) [(2, .pointer (some pt)), (5, .slice aout out.length cout), (6, .int .i64 t11), (7, .pointer (some px)), (9, .slice al2 l.length cl2), (10, .int .i64 ((l.length : Nat) : Int)), (11, .int .i64 t11)] [2, 5, 6, 7, 9, 10, 11] hL rfl rfl rfl rfl rfl (.cons rfl (.cons rfl (.cons rfl (.cons rfl (.cons rfl (.cons rfl (.cons rfl (.nil)))))))) rfl rfl (by kernel_rfl) ?_
    refine .step [19] 19 rfl (by kernel_rfl) (by kernel_rfl) (.nil) (.cons [(34, .slice a9 ((out ++ ([(⟨(gt l t11).start, t11, false⟩ : Hap), (⟨IntKind.i64.wrap (((gt l t11).start) + ((gt t.ops ((gt l t11).op)).dur)), t11, true⟩ : Hap)] : List Hap)).length) c8), (34, .slice a9 ((out ++ ([(⟨(gt l t11).start, t11, false⟩ : Hap), (⟨IntKind.i64.wrap (((gt l t11).start) + ((gt t.ops ((gt l t11).op)).dur)), t11, true⟩ : Hap)] : List Hap)).length) c8), (16, .slice aout out.length cout), (17, .pointer (some (px.add 1))), (18, .int .i64 ((gt l t11).start)), (19, .int .i64 t11), (20, .agg #[.int .i64 ((gt l t11).start), .int .i64 t11, .bool false]), (21, .pointer (some (px.add 1))), (22, .int .i64 ((gt l t11).start)), (23, .pointer (some (pt.add 3))), (24, .slice at_3 t.ops.length ct3), (25, .pointer (some (px.add 0))), (26, .int .i64 ((gt l t11).op)), (27, .pointer (some (ead at_3 (((gt l t11).op).toNat * 8)))), (28, .pointer (some ((ead at_3 (((gt l t11).op).toNat * 8)).add 7))), (29, .int .i64 ((gt t.ops ((gt l t11).op)).dur)), (30, .int .i64 (IntKind.i64.wrap (((gt l t11).start) + ((gt t.ops ((gt l t11).op)).dur)))), (31, .int .i64 t11), (32, .agg #[.int .i64 (IntKind.i64.wrap (((gt l t11).start) + ((gt t.ops ((gt l t11).op)).dur))), .int .i64 t11, .bool true]), (33, .slice a8 (([(⟨(gt l t11).start, t11, false⟩ : Hap), (⟨IntKind.i64.wrap (((gt l t11).start) + ((gt t.ops ((gt l t11).op)).dur)), t11, true⟩ : Hap)] : List Hap).length) 2), (34, .slice a9 ((out ++ ([(⟨(gt l t11).start, t11, false⟩ : Hap), (⟨IntKind.i64.wrap (((gt l t11).start) + ((gt t.ops ((gt l t11).op)).dur)), t11, true⟩ : Hap)] : List Hap)).length) c8)] rfl rfl (fun sL hL => ?_) (.nil))
    refine .v (asg rfl) rfl rfl rfl ?_
    refine .nil ?_
    refine .ja (M := []) (C' := []) (pre := [(19, .slice a9 ((out ++ ([(⟨(gt l t11).start, t11, false⟩ : Hap), (⟨IntKind.i64.wrap (((gt l t11).start) + ((gt t.ops ((gt l t11).op)).dur)), t11, true⟩ : Hap)] : List Hap)).length) c8)]) [(2, .pointer (some pt)), (6, .int .i64 t11), (7, .pointer (some px)), (9, .slice al2 l.length cl2), (10, .int .i64 ((l.length : Nat) : Int)), (11, .int .i64 t11)] [2, 6, 7, 9, 10, 11] hL rfl rfl rfl rfl rfl (.cons rfl (.cons rfl (.cons rfl (.cons rfl (.cons rfl (.cons rfl (.nil))))))) rfl rfl (by kernel_rfl) ?_
    refine .last [(16, .slice aout out.length cout), (17, .pointer (some (px.add 1))), (18, .int .i64 ((gt l t11).start)), (19, .int .i64 t11), (20, .agg #[.int .i64 ((gt l t11).start), .int .i64 t11, .bool false]), (21, .pointer (some (px.add 1))), (22, .int .i64 ((gt l t11).start)), (23, .pointer (some (pt.add 3))), (24, .slice at_3 t.ops.length ct3), (25, .pointer (some (px.add 0))), (26, .int .i64 ((gt l t11).op)), (27, .pointer (some (ead at_3 (((gt l t11).op).toNat * 8)))), (28, .pointer (some ((ead at_3 (((gt l t11).op).toNat * 8)).add 7))), (29, .int .i64 ((gt t.ops ((gt l t11).op)).dur)), (30, .int .i64 (IntKind.i64.wrap (((gt l t11).start) + ((gt t.ops ((gt l t11).op)).dur)))), (31, .int .i64 t11), (32, .agg #[.int .i64 (IntKind.i64.wrap (((gt l t11).start) + ((gt t.ops ((gt l t11).op)).dur))), .int .i64 t11, .bool true]), (33, .slice a8 (([(⟨(gt l t11).start, t11, false⟩ : Hap), (⟨IntKind.i64.wrap (((gt l t11).start) + ((gt t.ops ((gt l t11).op)).dur)), t11, true⟩ : Hap)] : List Hap).length) 2), (34, .slice a9 ((out ++ ([(⟨(gt l t11).start, t11, false⟩ : Hap), (⟨IntKind.i64.wrap (((gt l t11).start) + ((gt t.ops ((gt l t11).op)).dur)), t11, true⟩ : Hap)] : List Hap)).length) c8), (5, .slice a9 ((out ++ ([(⟨(gt l t11).start, t11, false⟩ : Hap), (⟨IntKind.i64.wrap (((gt l t11).start) + ((gt t.ops ((gt l t11).op)).dur)), t11, true⟩ : Hap)] : List Hap)).length) c8)] rfl (by kernel_rfl) (.nil) rfl ?_
    refine .blkN ?_
    refine .seqN ?_
    refine .region ?_
    refine .v (bi rfl rfl rfl) rfl rfl rfl ?_
    refine .v (mv rfl) rfl rfl rfl ?_
    refine .nil ?_
    refine .sel0 [2, 3] (by decide) rfl ?_
    exact .round (IntKind.i64.wrap (t11 + 1), (out ++ ([(⟨(gt l t11).start, t11, false⟩ : Hap), (⟨IntKind.i64.wrap (((gt l t11).start) + ((gt t.ops ((gt l t11).op)).dur)), t11, true⟩ : Hap)] : List Hap)), a9, c8) hF.1 hF.2 (.cons rfl (.cons rfl (.cons rfl (.cons rfl (.cons rfl (.nil)))))) rfl (FH.le_refl _)
  replace hF := hF.2 q330
  refine .exit ?_
  refine .seqX ?_
  refine .seqX ?_
  refine .blkX ?_
  refine .seqN ?_
  refine .seq ?_
  refine .region ?_
  refine al tZ77 rfl (fun prank => ?_)
  refine st (p := prank) (off := 0) (k := 0) (vs := [.func (.func 44) #[] #[]]) rfl rfl rfl (fun w => (tO77 w).2) rfl rfl rfl rfl ?_
  refine .cast (A' := [Box prank [.func (.func 44) #[] #[]], Box pt [.int .i64 t.facts, .slice at_ t.init.length ct, .slice at_2 t.goal.length ct2, .slice at_3 t.ops.length ct3], OwnSl 63 3 aout out.length cout (flL out)]) rfl ?_
  refine .nil ?_
  refine .seqN ?_
  refine .seq ?_
  refine .region ?_
  refine .v (mv rfl) rfl rfl rfl ?_
  refine .v (mkf (vf := []) (vc := [.pointer (some prank)]) rfl rfl) rfl rfl rfl ?_
  refine .freezeBx (k := 0) rfl (fun h1 le1 q391 => ?_)
  refine .cast (A' := [tru, Box pt [.int .i64 t.facts, .slice at_ t.init.length ct, .slice at_2 t.goal.length ct2, .slice at_3 t.ops.length ct3], OwnSl 63 3 aout out.length cout (flL out)]) rfl ?_
  obtain ⟨q392, hF⟩ := hF
  obtain ⟨r2, q393⟩ : ∃ y_ : List Hap, y_ = sp_sortHap out := ⟨_, rfl⟩
  replace hF := hF r2 q393
  refine callX (k := 2) (v := .tuple #[]) (X' := OwnSl 63 3 aout out.length cout (flL r2)) rfl Try.call45 rfl rfl (fun w g hx sg hd hs' => ?_) rfl ?_
  · rw [q393]; exact c_sortHap hs' out aout cout hx sg hd prank q391 q392
  have q394 : r2.length = out.length := by rw [q393]; exact (sortHap_len out).trans rfl
  refine .cast (A' := [tru, Box pt [.int .i64 t.facts, .slice at_ t.init.length ct, .slice at_2 t.goal.length ct2, .slice at_3 t.ops.length ct3], OwnSl 63 3 aout out.length cout (flL r2)]) rfl ?_
  refine .nil ?_
  refine .seqN ?_
  refine .seq ?_
  refine .region ?_
  refine .v (mv rfl) rfl rfl rfl ?_
  refine .v (asg rfl) rfl rfl rfl ?_
  refine .nil ?_
  refine .seqN ?_
  refine .freezeL (k := 2) rfl (fun h2 le2 q396 q395 => ?_)
  refine .cast (A' := [tru, Box pt [.int .i64 t.facts, .slice at_ t.init.length ct, .slice at_2 t.goal.length ct2, .slice at_3 t.ops.length ct3], tru]) rfl ?_
  refine .ret ?_
  refine .res1 rfl (rvT rfl) (fun w' S => ⟨r2, (aout, cout), h2, hF, (by simp only [q394]), (FH.le_trans (le1) (le2)), ⟨(RSl.of q395), (by rw [q394]; exact q396)⟩, S.none⟩)

theorem c_happenings {h : FH} {w : World} (hs : Sub h w) (t : TTask) (at_ : Option Addr) (ct : Nat) (_q1 : RSl h at_ t.init) (_q2 : t.init.length ≤ ct) (at_2 : Option Addr) (ct2 : Nat) (_q3 : RSl h at_2 t.goal) (_q4 : t.goal.length ≤ ct2) (at_3 : Option Addr) (ct3 : Nat) (_q5 : RSl h at_3 t.ops) (_q6 : t.ops.length ≤ ct3) (l : List Occ) (al2 : Option Addr) (cl2 : Nat) (_q7 : RSl h al2 l) (_q8 : l.length ≤ cl2) (hp : pre_happenings t l) : Calls Try.prog 25 #[.agg #[.int .i64 t.facts, .slice at_ t.init.length ct, .slice at_2 t.goal.length ct2, .slice at_3 t.ops.length ct3], .slice al2 l.length cl2] w fun e w' => ∃ (z : Option Addr × Nat) (h1 : FH), e = .returned (.slice z.1 (sp_happenings t l).length z.2) ∧ FH.le h h1 ∧ (RSl h1 z.1 (sp_happenings t l) ∧ (sp_happenings t l).length ≤ z.2) ∧ SH (Kp.all w h) h1 w' [] :=
  (w_happenings hs t at_ ct _q1 _q2 at_2 ct2 _q3 _q4 at_3 ct3 _q5 _q6 l al2 cl2 _q7 _q8 (fun r => r = sp_happenings t l) (ok_happenings t l hp)).mono fun _ _ ⟨r, z, h1, hk, he, hl, hf, hS⟩ => by subst hk; exact ⟨z, h1, he, hl, hf, hS⟩

set_option maxHeartbeats 8000000 in
theorem w_tcheck {h : FH} {w : World} (hs : Sub h w) (t : TTask) (at_ : Option Addr) (ct : Nat) (_q1 : RSl h at_ t.init) (_q2 : t.init.length ≤ ct) (at_2 : Option Addr) (ct2 : Nat) (_q3 : RSl h at_2 t.goal) (_q4 : t.goal.length ≤ ct2) (at_3 : Option Addr) (ct3 : Nat) (_q5 : RSl h at_3 t.ops) (_q6 : t.ops.length ≤ ct3) (l : List Occ) (al2 : Option Addr) (cl2 : Nat) (_q7 : RSl h al2 l) (_q8 : l.length ≤ cl2) (K : (Int × Bool × Fault) → Prop) (hF : F_tcheck t l K) : Calls Try.prog 9 #[.agg #[.int .i64 t.facts, .slice at_ t.init.length ct, .slice at_2 t.goal.length ct2, .slice at_3 t.ops.length ct3], .slice al2 l.length cl2] w fun e w' => ∃ r : Int × Bool × Fault, K r ∧ e = .returned (.tuple #[.int .i64 r.1, .bool r.2.1, .agg #[.int .i64 r.2.2.code, .int .i64 r.2.2.index]]) ∧ Below w.heap.size w w' := by
  refine enter (args := [.agg #[.int .i64 t.facts, .slice at_ t.init.length ct, .slice at_2 t.goal.length ct2, .slice at_3 t.ops.length ct3], .slice al2 l.length cl2]) Try.func9 rfl Try.ntmps9 rfl hs ?_
  refine .seq ?_
  refine .region ?_
  refine bx (vs := [.int .i64 t.facts, .slice at_ t.init.length ct, .slice at_2 t.goal.length ct2, .slice at_3 t.ops.length ct3]) rfl rfl rfl (fun pt => ?_)
  refine .v (asg rfl) rfl rfl rfl ?_
  refine .v (asg rfl) rfl rfl rfl ?_
  refine al tZ28 rfl (fun pv => ?_)
  refine .nil ?_
  refine .seqN ?_
  refine .seq ?_
  refine .seq ?_
  refine .region ?_
  refine .v (ldA (cs := [.int .i64 t.facts, .slice at_ t.init.length ct, .slice at_2 t.goal.length ct2, .slice at_3 t.ops.length ct3]) rfl tA25 rfl (cellsB (off := 0) (k := 1) rfl (m := 4) rfl)) rfl rfl rfl ?_
  refine .v (mv rfl) rfl rfl rfl ?_
  obtain ⟨r2, q9⟩ : ∃ y_ : Fault, y_ = sp_scheduleFault t l := ⟨_, rfl⟩
  replace hF := hF r2 q9
  refine .c (cl (v := .agg #[.int .i64 r2.code, .int .i64 r2.index]) Try.call24 rfl rfl (fun w S => (by rw [q9]; exact c_scheduleFault S.sub t at_ ct _q1 _q2 at_2 ct2 _q3 _q4 at_3 ct3 _q5 _q6 l al2 cl2 _q7 _q8 ))) rfl rfl rfl ?_
  refine al tZ28 rfl (fun pf => ?_)
  refine st (p := pf) (off := 0) (k := 0) (vs := [.int .i64 r2.code, .int .i64 r2.index]) rfl rfl rfl (fun w => (tA28 w).2) rfl rfl rfl rfl ?_
  refine .cast (A' := [Box pf [.int .i64 r2.code, .int .i64 r2.index], Box pv [.int .i64 0, .int .i64 0], Box pt [.int .i64 t.facts, .slice at_ t.init.length ct, .slice at_2 t.goal.length ct2, .slice at_3 t.ops.length ct3]]) rfl ?_
  refine .nil ?_
  refine .seqN ?_
  refine .seq ?_
  refine .region ?_
  refine .v (ldA (cs := [.int .i64 r2.code, .int .i64 r2.index]) rfl tA28 rfl (cellsB (off := 0) (k := 0) rfl (m := 2) rfl)) rfl rfl rfl ?_
  refine .v (bld (cs := #[.int .i64 0, .int .i64 0]) (pv := []) tB28 rfl rfl) rfl rfl rfl ?_
  refine .v (ne2 tE28 rfl rfl) rfl rfl rfl ?_
  refine .nil ?_
  refine .seqN ?_
  refine .cond rfl (fun q11 => ?_) (fun q11 => ?_)
  · replace hF := hF.1 q11
    refine .seq ?_
    refine .openL (by kernel_rfl) rfl (by kernel_rfl) (by kernel_rfl) ?_
    refine .v (ldA (cs := [.int .i64 r2.code, .int .i64 r2.index]) rfl tA28 rfl (cellsB (off := 0) (k := 0) rfl (m := 2) rfl)) rfl rfl rfl ?_
    refine .v (asg rfl) rfl rfl rfl ?_
    refine .v (asg rfl) rfl rfl rfl ?_
    refine .tail ?_
    refine st (p := pv) (off := 0) (k := 1) (vs := [.int .i64 r2.code, .int .i64 r2.index]) rfl rfl rfl (fun w => (tA28 w).2) rfl rfl rfl rfl ?_
    refine .cast (A' := [Box pf [.int .i64 r2.code, .int .i64 r2.index], Box pv [.int .i64 r2.code, .int .i64 r2.index], Box pt [.int .i64 t.facts, .slice at_ t.init.length ct, .slice at_2 t.goal.length ct2, .slice at_3 t.ops.length ct3]]) rfl ?_
    refine .nil ?_
    refine .seqN ?_
    refine .ret ?_
    refine .seqR ?_
    refine .res3 rfl (rvT rfl) (rvT rfl) (rvC rfl tA28 (k := 1) rfl rfl) (fun w' S => ⟨(0, false, r2), hF, rfl, S.below⟩)
  replace hF := hF.2 q11
  refine .skip ?_
  refine .seqN ?_
  refine .seq ?_
  refine .region ?_
  refine .v (fa rfl tF25_1) rfl rfl rfl ?_
  refine .v (ld1 rfl tO22 (cellB (off := 1) (k := 2) rfl rfl)) rfl rfl rfl ?_
  refine .v (asg rfl) rfl rfl rfl ?_
  refine .nil ?_
  refine .seqN ?_
  refine .seq ?_
  refine .region ?_
  refine .v (mv rfl) rfl rfl rfl ?_
  refine .v (ln rfl tS26.is) rfl rfl rfl ?_
  obtain ⟨q12, hF⟩ := hF
  refine mk (m := (((l.length : Nat) : Int)).toNat) (cs' := flL (List.replicate (((l.length : Nat) : Int)).toNat (false : Bool))) tS59 rfl rfl (Int.toNat_of_nonneg q12.1).symm q12.2.1 q12.2.2 (flL_rep1 rfl _) rfl (fun a c => ?_)
  have q13 : (List.replicate (((l.length : Nat) : Int)).toNat (false : Bool)).length = (((l.length : Nat) : Int)).toNat := List.length_replicate
  refine .cast (A' := [OwnSl 4 1 a ((((l.length : Nat) : Int)).toNat) c (flL (List.replicate (((l.length : Nat) : Int)).toNat (false : Bool))), Box pf [.int .i64 r2.code, .int .i64 r2.index], Box pv [.int .i64 0, .int .i64 0], Box pt [.int .i64 t.facts, .slice at_ t.init.length ct, .slice at_2 t.goal.length ct2, .slice at_3 t.ops.length ct3]]) rfl ?_
  refine .v (asg rfl) rfl rfl rfl ?_
  refine .nil ?_
  refine .seqN ?_
  refine .seq ?_
  refine .region ?_
  refine .v (asg rfl) rfl rfl rfl ?_
  refine .nil ?_
  refine .seqN ?_
  refine .seq ?_
  refine .seq ?_
  refine .region ?_
  refine .v (ldA (cs := [.int .i64 t.facts, .slice at_ t.init.length ct, .slice at_2 t.goal.length ct2, .slice at_3 t.ops.length ct3]) rfl tA25 rfl (cellsB (off := 0) (k := 3) rfl (m := 4) rfl)) rfl rfl rfl ?_
  refine .v (mv rfl) rfl rfl rfl ?_
  obtain ⟨q14, hF⟩ := hF
  obtain ⟨r3, q15⟩ : ∃ y_ : List Hap, y_ = sp_happenings t l := ⟨_, rfl⟩
  replace hF := hF r3 q15
  refine clR (α := Option Addr × Nat) (Φ := fun h1 z => RSl h1 z.1 r3 ∧ r3.length ≤ z.2) (V := fun z => .slice z.1 r3.length z.2) Try.call25 rfl rfl (fun w S => (by rw [q15]; exact c_happenings S.sub t at_ ct _q1 _q2 at_2 ct2 _q3 _q4 at_3 ct3 _q5 _q6 l al2 cl2 _q7 _q8 q14)) rfl (fun z h1 le1 hz => ?_)
  obtain ⟨a2, c2⟩ := z
  obtain ⟨q16, q17⟩ := hz
  refine .v (ln rfl tS60.is) rfl rfl rfl ?_
  refine .v (mv rfl) rfl rfl rfl ?_
  refine .nil ?_
  refine .seqN ?_
  refine .block ?_
  refine .sel0 [3, 2, 0] (by decide) rfl ?_
  obtain ⟨I1, μ1, q6862, q6863⟩ := hF
  refine .loop' (σ := List Int × Int × Int × List Bool × Option Addr × Nat × FH) (fun z => I1 z.1 z.2.1 z.2.2.1 z.2.2.2.1 ∧ RSl z.2.2.2.2.2.2 z.2.2.2.2.1 z.1 ∧ z.1.length ≤ z.2.2.2.2.2.1 ∧ z.2.2.2.1.length = (((l.length : Nat) : Int)).toNat ∧ FH.le h1 z.2.2.2.2.2.2) (fun z => μ1 z.1 z.2.1 z.2.2.1 z.2.2.2.1) (fun z => [(1, .slice al2 l.length cl2), (2, .pointer (some pt)), (6, .pointer (some pv)), (8, .slice z.2.2.2.2.1 z.1.length z.2.2.2.2.2.1), (9, .slice a ((((l.length : Nat) : Int)).toNat) c), (10, .int .i64 z.2.1), (33, .slice a2 r3.length c2), (34, .int .i64 ((r3.length : Nat) : Int)), (35, .int .i64 z.2.2.1)]) (fun z => [Box pt [.int .i64 t.facts, .slice at_ t.init.length ct, .slice at_2 t.goal.length ct2, .slice at_3 t.ops.length ct3], Box pv [.int .i64 0, .int .i64 0], OwnSl 4 1 a ((((l.length : Nat) : Int)).toNat) c (flL z.2.2.2.1)]) (fun z => z.2.2.2.2.2.2) (t.init, 0, 0, (List.replicate (((l.length : Nat) : Int)).toNat (false : Bool)), at_, ct, h1) ⟨q6862, (_q1.mono (le1)), _q2, q13, (FH.le_refl _)⟩ (.cons rfl (.cons rfl (.cons rfl (.cons rfl (.cons rfl (.cons rfl (.cons rfl (.cons rfl (.cons rfl (.nil)))))))))) rfl (FH.le_refl _) ?_
  rintro ⟨s_, last, t35, running, as2, cs, h20⟩ ⟨q6862, q5492, q5493, q5494, q5495⟩
  have hF := q6863 s_ last t35 running q6862
  show J _ _ _ _ _ [(1, .slice al2 l.length cl2), (2, .pointer (some pt)), (6, .pointer (some pv)), (8, .slice as2 s_.length cs), (9, .slice a ((((l.length : Nat) : Int)).toNat) c), (10, .int .i64 last), (33, .slice a2 r3.length c2), (34, .int .i64 ((r3.length : Nat) : Int)), (35, .int .i64 t35)] [Box pt [.int .i64 t.facts, .slice at_ t.init.length ct, .slice at_2 t.goal.length ct2, .slice at_3 t.ops.length ct3], Box pv [.int .i64 0, .int .i64 0], OwnSl 4 1 a ((((l.length : Nat) : Int)).toNat) c (flL running)] h20
  refine .seq ?_
  refine .region ?_
  refine .v (bi rfl rfl rfl) rfl rfl rfl ?_
  refine .nil ?_
  refine .seqN ?_
  refine .seq ?_
  refine .cond rfl (fun q6866 => ?_) (fun q6866 => ?_)
  · replace hF := hF.1 q6866
    refine .skip ?_
    refine .seqN ?_
    refine .seq ?_
    refine .block ?_
    refine .seq ?_
    refine .region ?_
    obtain ⟨q7773, hF⟩ := hF
    refine .v (ix rfl rfl tS60 (q16.ne (by decide) (inb_pos q7773)) q7773) rfl rfl rfl ?_
    refine .v (ldA (cs := [.int .i64 ((gt r3 t35).time), .int .i64 ((gt r3 t35).index), .bool ((gt r3 t35).ending)]) rfl tA63 rfl (cellsH ((q16.mono (q5495)).elemF q7773 (by decide)))) rfl rfl rfl ?_
    refine al tZ63 rfl (fun ph => ?_)
    refine st (p := ph) (off := 0) (k := 0) (vs := [.int .i64 ((gt r3 t35).time), .int .i64 ((gt r3 t35).index), .bool ((gt r3 t35).ending)]) rfl rfl rfl (fun w => (tA63 w).2) rfl rfl rfl rfl ?_
    refine .cast (A' := [Box ph [.int .i64 ((gt r3 t35).time), .int .i64 ((gt r3 t35).index), .bool ((gt r3 t35).ending)], Box pt [.int .i64 t.facts, .slice at_ t.init.length ct, .slice at_2 t.goal.length ct2, .slice at_3 t.ops.length ct3], Box pv [.int .i64 0, .int .i64 0], OwnSl 4 1 a ((((l.length : Nat) : Int)).toNat) c (flL running)]) rfl ?_
    refine .nil ?_
    refine .seqN ?_
    refine .seq ?_
    obtain ⟨q7791, hF⟩ := hF
    obtain ⟨q7792, hF⟩ := hF
    obtain ⟨_, ⟨a3, c3, a4, c4, a5, c5, a6, c6, a7, c7, a8, c8, a9, c9, rfl, ⟨q7793, q7794⟩, ⟨q7795, q7796⟩, ⟨q7797, q7798⟩, ⟨q7799, q7800⟩, ⟨q7801, q7802⟩, ⟨q7803, q7804⟩, q7805, q7806⟩, q7807⟩ := _q5.elem q7792
    refine .openA (s0 := [(1, .slice al2 l.length cl2), (2, .pointer (some pt)), (6, .pointer (some pv)), (8, .slice as2 s_.length cs), (9, .slice a ((((l.length : Nat) : Int)).toNat) c), (12, .pointer (some ph)), (33, .slice a2 r3.length c2), (34, .int .i64 ((r3.length : Nat) : Int)), (35, .int .i64 t35)]) [0, 1, 2, 3, 4, 5, 6, 7, 8, 9] [(0, .pointer (some (pt.add 3))), (1, .slice at_3 t.ops.length ct3), (2, .slice al2 l.length cl2), (3, .pointer (some (ph.add 1))), (4, .int .i64 ((gt r3 t35).index)), (5, .pointer (some (ead al2 (((gt r3 t35).index).toNat * 2)))), (6, .pointer (some ((ead al2 (((gt r3 t35).index).toNat * 2)).add 0))), (7, .int .i64 ((gt l ((gt r3 t35).index)).op)), (8, .pointer (some (ead at_3 (((gt l ((gt r3 t35).index)).op).toNat * 8)))), (9, .agg #[.slice a3 ((gt t.ops ((gt l ((gt r3 t35).index)).op)).atStart.length) c3, .slice a4 ((gt t.ops ((gt l ((gt r3 t35).index)).op)).over.length) c4, .slice a5 ((gt t.ops ((gt l ((gt r3 t35).index)).op)).atEnd.length) c5, .slice a6 ((gt t.ops ((gt l ((gt r3 t35).index)).op)).addStart.length) c6, .slice a7 ((gt t.ops ((gt l ((gt r3 t35).index)).op)).delStart.length) c7, .slice a8 ((gt t.ops ((gt l ((gt r3 t35).index)).op)).addEnd.length) c8, .slice a9 ((gt t.ops ((gt l ((gt r3 t35).index)).op)).delEnd.length) c9, .int .i64 ((gt t.ops ((gt l ((gt r3 t35).index)).op)).dur)])] (by kernel_rfl) (.cons rfl (.cons rfl (.cons rfl (.cons rfl (.cons rfl (.cons rfl (.cons rfl (.cons rfl (.cons rfl (.nil)))))))))) [1, 2, 6, 8, 9, 12, 33, 34, 35] [] rfl (by kernel_rfl) ?_
    refine .step [10] 10 rfl (by kernel_rfl) (by kernel_rfl) (.v [] rfl rfl rfl rfl rfl rfl (fun _ => fa rfl tF25_3) (.v [(39, .pointer (some (pt.add 3)))] rfl rfl rfl rfl rfl rfl (fun _ => ld1 rfl tO23 (cellB (off := 3) (k := 1) rfl rfl)) (.v [] rfl rfl rfl rfl rfl rfl (fun _ => mv rfl) (.v [] rfl rfl rfl rfl rfl rfl (fun _ => fa rfl tF63_1) (.v [(42, .pointer (some (ph.add 1)))] rfl rfl rfl rfl rfl rfl (fun _ => ld1 rfl tO3 (cellB (off := 1) (k := 0) rfl rfl)) (.v [(41, .slice al2 l.length cl2), (43, .int .i64 ((gt r3 t35).index))] rfl rfl rfl rfl rfl rfl (fun _ => ix rfl rfl tS26 (_q7.ne (by decide) (inb_pos q7791)) q7791) (.v [(44, .pointer (some (ead al2 (((gt r3 t35).index).toNat * 2))))] rfl rfl rfl rfl rfl rfl (fun _ => fa rfl tF38_0) (.v [(45, .pointer (some ((ead al2 (((gt r3 t35).index).toNat * 2)).add 0)))] rfl rfl rfl rfl rfl rfl (fun _ => ld1 (v := .int .i64 ((gt l ((gt r3 t35).index)).op)) rfl tO3 (cellH ((_q7.mono (FH.le_trans (le1) (q5495))).elemF q7791 (by decide) 0 _ rfl))) (.v [(40, .slice at_3 t.ops.length ct3), (46, .int .i64 ((gt l ((gt r3 t35).index)).op))] rfl rfl rfl rfl rfl rfl (fun _ => ix rfl rfl tS23 (_q5.ne (by decide) (inb_pos q7792)) q7792) (.v [(47, .pointer (some (ead at_3 (((gt l ((gt r3 t35).index)).op).toNat * 8))))] rfl rfl rfl rfl rfl rfl (fun _ => ldA (cs := [.slice a3 ((gt t.ops ((gt l ((gt r3 t35).index)).op)).atStart.length) c3, .slice a4 ((gt t.ops ((gt l ((gt r3 t35).index)).op)).over.length) c4, .slice a5 ((gt t.ops ((gt l ((gt r3 t35).index)).op)).atEnd.length) c5, .slice a6 ((gt t.ops ((gt l ((gt r3 t35).index)).op)).addStart.length) c6, .slice a7 ((gt t.ops ((gt l ((gt r3 t35).index)).op)).delStart.length) c7, .slice a8 ((gt t.ops ((gt l ((gt r3 t35).index)).op)).addEnd.length) c8, .slice a9 ((gt t.ops ((gt l ((gt r3 t35).index)).op)).delEnd.length) c9, .int .i64 ((gt t.ops ((gt l ((gt r3 t35).index)).op)).dur)]) rfl tA41 rfl (cellsH ((fun q => (q7807 q).mono (FH.le_trans (le1) (q5495))) (by decide)))) (.nil))))))))))) (.cons [] rfl rfl (fun sL hL => ?_) (.nil))
    refine al tZ41 rfl (fun po => ?_)
    refine .nil ?_
    refine .ja (M := []) (C' := [0, 1, 2, 3, 4, 5, 6, 7, 8, 9]) (pre := [(10, .pointer (some po))]) [(1, .slice al2 l.length cl2), (2, .pointer (some pt)), (6, .pointer (some pv)), (8, .slice as2 s_.length cs), (9, .slice a ((((l.length : Nat) : Int)).toNat) c), (12, .pointer (some ph)), (33, .slice a2 r3.length c2), (34, .int .i64 ((r3.length : Nat) : Int)), (35, .int .i64 t35)] [1, 2, 6, 8, 9, 12, 33, 34, 35] hL rfl rfl rfl rfl rfl (.cons rfl (.cons rfl (.cons rfl (.cons rfl (.cons rfl (.cons rfl (.cons rfl (.cons rfl (.cons rfl (.nil)))))))))) rfl rfl (by kernel_rfl) ?_
    refine .step [11] 11 rfl (by kernel_rfl) (by kernel_rfl) (.v [] rfl rfl rfl rfl rfl rfl (fun _ => fa rfl tF25_3) (.v [(39, .pointer (some (pt.add 3)))] rfl rfl rfl rfl rfl rfl (fun _ => ld1 rfl tO23 (cellB (off := 3) (k := 2) rfl rfl)) (.v [] rfl rfl rfl rfl rfl rfl (fun _ => mv rfl) (.v [] rfl rfl rfl rfl rfl rfl (fun _ => fa rfl tF63_1) (.v [(42, .pointer (some (ph.add 1)))] rfl rfl rfl rfl rfl rfl (fun _ => ld1 rfl tO3 (cellB (off := 1) (k := 1) rfl rfl)) (.v [(41, .slice al2 l.length cl2), (43, .int .i64 ((gt r3 t35).index))] rfl rfl rfl rfl rfl rfl (fun _ => ix rfl rfl tS26 (_q7.ne (by decide) (inb_pos q7791)) q7791) (.v [(44, .pointer (some (ead al2 (((gt r3 t35).index).toNat * 2))))] rfl rfl rfl rfl rfl rfl (fun _ => fa rfl tF38_0) (.v [(45, .pointer (some ((ead al2 (((gt r3 t35).index).toNat * 2)).add 0)))] rfl rfl rfl rfl rfl rfl (fun _ => ld1 (v := .int .i64 ((gt l ((gt r3 t35).index)).op)) rfl tO3 (cellH ((_q7.mono (FH.le_trans (le1) (q5495))).elemF q7791 (by decide) 0 _ rfl))) (.v [(40, .slice at_3 t.ops.length ct3), (46, .int .i64 ((gt l ((gt r3 t35).index)).op))] rfl rfl rfl rfl rfl rfl (fun _ => ix rfl rfl tS23 (_q5.ne (by decide) (inb_pos q7792)) q7792) (.v [(47, .pointer (some (ead at_3 (((gt l ((gt r3 t35).index)).op).toNat * 8))))] rfl rfl rfl rfl rfl rfl (fun _ => ldA (cs := [.slice a3 ((gt t.ops ((gt l ((gt r3 t35).index)).op)).atStart.length) c3, .slice a4 ((gt t.ops ((gt l ((gt r3 t35).index)).op)).over.length) c4, .slice a5 ((gt t.ops ((gt l ((gt r3 t35).index)).op)).atEnd.length) c5, .slice a6 ((gt t.ops ((gt l ((gt r3 t35).index)).op)).addStart.length) c6, .slice a7 ((gt t.ops ((gt l ((gt r3 t35).index)).op)).delStart.length) c7, .slice a8 ((gt t.ops ((gt l ((gt r3 t35).index)).op)).addEnd.length) c8, .slice a9 ((gt t.ops ((gt l ((gt r3 t35).index)).op)).delEnd.length) c9, .int .i64 ((gt t.ops ((gt l ((gt r3 t35).index)).op)).dur)]) rfl tA41 rfl (cellsH ((fun q => (q7807 q).mono (FH.le_trans (le1) (q5495))) (by decide)))) (.nil))))))))))) (.cons [(13, .pointer (some po)), (48, .agg #[.slice a3 ((gt t.ops ((gt l ((gt r3 t35).index)).op)).atStart.length) c3, .slice a4 ((gt t.ops ((gt l ((gt r3 t35).index)).op)).over.length) c4, .slice a5 ((gt t.ops ((gt l ((gt r3 t35).index)).op)).atEnd.length) c5, .slice a6 ((gt t.ops ((gt l ((gt r3 t35).index)).op)).addStart.length) c6, .slice a7 ((gt t.ops ((gt l ((gt r3 t35).index)).op)).delStart.length) c7, .slice a8 ((gt t.ops ((gt l ((gt r3 t35).index)).op)).addEnd.length) c8, .slice a9 ((gt t.ops ((gt l ((gt r3 t35).index)).op)).delEnd.length) c9, .int .i64 ((gt t.ops ((gt l ((gt r3 t35).index)).op)).dur)]), (39, .pointer (some (pt.add 3))), (40, .slice at_3 t.ops.length ct3), (41, .slice al2 l.length cl2), (42, .pointer (some (ph.add 1))), (43, .int .i64 ((gt r3 t35).index)), (44, .pointer (some (ead al2 (((gt r3 t35).index).toNat * 2)))), (45, .pointer (some ((ead al2 (((gt r3 t35).index).toNat * 2)).add 0))), (46, .int .i64 ((gt l ((gt r3 t35).index)).op)), (47, .pointer (some (ead at_3 (((gt l ((gt r3 t35).index)).op).toNat * 8)))), (48, .agg #[.slice a3 ((gt t.ops ((gt l ((gt r3 t35).index)).op)).atStart.length) c3, .slice a4 ((gt t.ops ((gt l ((gt r3 t35).index)).op)).over.length) c4, .slice a5 ((gt t.ops ((gt l ((gt r3 t35).index)).op)).atEnd.length) c5, .slice a6 ((gt t.ops ((gt l ((gt r3 t35).index)).op)).addStart.length) c6, .slice a7 ((gt t.ops ((gt l ((gt r3 t35).index)).op)).delStart.length) c7, .slice a8 ((gt t.ops ((gt l ((gt r3 t35).index)).op)).addEnd.length) c8, .slice a9 ((gt t.ops ((gt l ((gt r3 t35).index)).op)).delEnd.length) c9, .int .i64 ((gt t.ops ((gt l ((gt r3 t35).index)).op)).dur)]), (13, .pointer (some po))] rfl rfl (fun sL hL => ?_) (.nil))
    refine st (p := po) (off := 0) (k := 0) (vs := [.slice a3 ((gt t.ops ((gt l ((gt r3 t35).index)).op)).atStart.length) c3, .slice a4 ((gt t.ops ((gt l ((gt r3 t35).index)).op)).over.length) c4, .slice a5 ((gt t.ops ((gt l ((gt r3 t35).index)).op)).atEnd.length) c5, .slice a6 ((gt t.ops ((gt l ((gt r3 t35).index)).op)).addStart.length) c6, .slice a7 ((gt t.ops ((gt l ((gt r3 t35).index)).op)).delStart.length) c7, .slice a8 ((gt t.ops ((gt l ((gt r3 t35).index)).op)).addEnd.length) c8, .slice a9 ((gt t.ops ((gt l ((gt r3 t35).index)).op)).delEnd.length) c9, .int .i64 ((gt t.ops ((gt l ((gt r3 t35).index)).op)).dur)]) rfl rfl rfl (fun w => (tA41 w).2) rfl rfl rfl rfl ?_
    refine .cast (A' := [Box po [.slice a3 ((gt t.ops ((gt l ((gt r3 t35).index)).op)).atStart.length) c3, .slice a4 ((gt t.ops ((gt l ((gt r3 t35).index)).op)).over.length) c4, .slice a5 ((gt t.ops ((gt l ((gt r3 t35).index)).op)).atEnd.length) c5, .slice a6 ((gt t.ops ((gt l ((gt r3 t35).index)).op)).addStart.length) c6, .slice a7 ((gt t.ops ((gt l ((gt r3 t35).index)).op)).delStart.length) c7, .slice a8 ((gt t.ops ((gt l ((gt r3 t35).index)).op)).addEnd.length) c8, .slice a9 ((gt t.ops ((gt l ((gt r3 t35).index)).op)).delEnd.length) c9, .int .i64 ((gt t.ops ((gt l ((gt r3 t35).index)).op)).dur)], Box ph [.int .i64 ((gt r3 t35).time), .int .i64 ((gt r3 t35).index), .bool ((gt r3 t35).ending)], Box pt [.int .i64 t.facts, .slice at_ t.init.length ct, .slice at_2 t.goal.length ct2, .slice at_3 t.ops.length ct3], Box pv [.int .i64 0, .int .i64 0], OwnSl 4 1 a ((((l.length : Nat) : Int)).toNat) c (flL running)]) rfl ?_
    refine .nil ?_
    refine .jaN (M := [9, 0, 1, 2, 3, 4, 5, 6, 7, 8]) (C' := []) (pre := []) [1, 2, 6, 8, 9, 12, 33, 34, 35] hL rfl rfl rfl rfl rfl (by kernel_rfl) ?_
    refine .last [(39, .pointer (some (pt.add 3))), (40, .slice at_3 t.ops.length ct3), (41, .slice al2 l.length cl2), (42, .pointer (some (ph.add 1))), (43, .int .i64 ((gt r3 t35).index)), (44, .pointer (some (ead al2 (((gt r3 t35).index).toNat * 2)))), (45, .pointer (some ((ead al2 (((gt r3 t35).index).toNat * 2)).add 0))), (46, .int .i64 ((gt l ((gt r3 t35).index)).op)), (47, .pointer (some (ead at_3 (((gt l ((gt r3 t35).index)).op).toNat * 8)))), (48, .agg #[.slice a3 ((gt t.ops ((gt l ((gt r3 t35).index)).op)).atStart.length) c3, .slice a4 ((gt t.ops ((gt l ((gt r3 t35).index)).op)).over.length) c4, .slice a5 ((gt t.ops ((gt l ((gt r3 t35).index)).op)).atEnd.length) c5, .slice a6 ((gt t.ops ((gt l ((gt r3 t35).index)).op)).addStart.length) c6, .slice a7 ((gt t.ops ((gt l ((gt r3 t35).index)).op)).delStart.length) c7, .slice a8 ((gt t.ops ((gt l ((gt r3 t35).index)).op)).addEnd.length) c8, .slice a9 ((gt t.ops ((gt l ((gt r3 t35).index)).op)).delEnd.length) c9, .int .i64 ((gt t.ops ((gt l ((gt r3 t35).index)).op)).dur)]), (13, .pointer (some po))] rfl (by kernel_rfl) (.nil) rfl ?_
    refine .seqN ?_
    refine .seq ?_
    refine .open_ (by kernel_rfl) (by kernel_rfl) ?_
    refine .v (fa rfl tF41_0) rfl rfl rfl ?_
    refine .v (ld1 rfl tO22 (cellB (off := 0) (k := 0) rfl rfl)) rfl rfl rfl ?_
    refine .v (fa rfl tF41_3) rfl rfl rfl ?_
    refine .v (ld1 rfl tO22 (cellB (off := 3) (k := 0) rfl rfl)) rfl rfl rfl ?_
    refine .v (fa rfl tF41_4) rfl rfl rfl ?_
    refine .v (ld1 rfl tO22 (cellB (off := 4) (k := 0) rfl rfl)) rfl rfl rfl ?_
    refine .v (asg rfl) rfl rfl rfl ?_
    refine .v (asg rfl) rfl rfl rfl ?_
    refine .v (asg rfl) rfl rfl rfl ?_
    refine .fin ?_
    refine .seqN ?_
    refine .seq ?_
    refine .seq ?_
    refine .region ?_
    refine .v (fa rfl tF63_2) rfl rfl rfl ?_
    refine .v (ld1 rfl tO4 (cellB (off := 2) (k := 1) rfl rfl)) rfl rfl rfl ?_
    refine .nil ?_
    refine .seqN ?_
    refine .shareT (σ := List Int × List Int × List Int × Option Addr × Nat × Option Addr × Nat × Option Addr × Nat) (fun z => F_tcheck_J1 t l K r3 z.1 z.2.1 z.2.2.1 s_ last t35 running I1 μ1 ∧ RSl h20 z.2.2.2.1 z.1 ∧ z.1.length ≤ z.2.2.2.2.1 ∧ RSl h20 z.2.2.2.2.2.1 z.2.1 ∧ z.2.1.length ≤ z.2.2.2.2.2.2.1 ∧ RSl h20 z.2.2.2.2.2.2.2.1 z.2.2.1 ∧ z.2.2.1.length ≤ z.2.2.2.2.2.2.2.2) (fun z => [(1, .slice al2 l.length cl2), (2, .pointer (some pt)), (6, .pointer (some pv)), (8, .slice as2 s_.length cs), (9, .slice a ((((l.length : Nat) : Int)).toNat) c), (12, .pointer (some ph)), (14, .slice z.2.2.2.1 z.1.length z.2.2.2.2.1), (15, .slice z.2.2.2.2.2.1 z.2.1.length z.2.2.2.2.2.2.1), (16, .slice z.2.2.2.2.2.2.2.1 z.2.2.1.length z.2.2.2.2.2.2.2.2), (33, .slice a2 r3.length c2), (34, .int .i64 ((r3.length : Nat) : Int)), (35, .int .i64 t35)]) (fun _ => [Box pt [.int .i64 t.facts, .slice at_ t.init.length ct, .slice at_2 t.goal.length ct2, .slice at_3 t.ops.length ct3], Box pv [.int .i64 0, .int .i64 0], OwnSl 4 1 a ((((l.length : Nat) : Int)).toNat) c (flL running), Box ph [.int .i64 ((gt r3 t35).time), .int .i64 ((gt r3 t35).index), .bool ((gt r3 t35).ending)]]) (fun _ => h20) ?_ (fun q7815 => ?_)
    · rintro ⟨pre, add, del, apre, cpre, aadd, cadd, adel, cdel⟩ ⟨hF, q7809, q7810, q7811, q7812, q7813, q7814⟩
      show J _ _ _ _ _ [(1, .slice al2 l.length cl2), (2, .pointer (some pt)), (6, .pointer (some pv)), (8, .slice as2 s_.length cs), (9, .slice a ((((l.length : Nat) : Int)).toNat) c), (12, .pointer (some ph)), (14, .slice apre pre.length cpre), (15, .slice aadd add.length cadd), (16, .slice adel del.length cdel), (33, .slice a2 r3.length c2), (34, .int .i64 ((r3.length : Nat) : Int)), (35, .int .i64 t35)] [Box pt [.int .i64 t.facts, .slice at_ t.init.length ct, .slice at_2 t.goal.length ct2, .slice at_3 t.ops.length ct3], Box pv [.int .i64 0, .int .i64 0], OwnSl 4 1 a ((((l.length : Nat) : Int)).toNat) c (flL running), Box ph [.int .i64 ((gt r3 t35).time), .int .i64 ((gt r3 t35).index), .bool ((gt r3 t35).ending)]] h20
      refine .seq ?_
      refine .seq ?_
      refine .region ?_
      refine .v (mv rfl) rfl rfl rfl ?_
      refine .v (mv rfl) rfl rfl rfl ?_
      obtain ⟨q7816, hF⟩ := hF
      obtain ⟨r4, q7817⟩ : ∃ y_ : Bool, y_ = sp_contains2 s_ pre := ⟨_, rfl⟩
      replace hF := hF r4 q7817
      refine .c (cl (v := .bool r4) Try.call26 rfl rfl (fun w S => (by rw [q7817]; exact c_contains2 S.sub s_ as2 cs q5492 q5493 pre apre cpre q7809 q7810 q7816))) rfl rfl rfl ?_
      refine .v (nt rfl) rfl rfl rfl ?_
      refine .nil ?_
      refine .seqN ?_
      refine .cond rfl (fun q7819 => ?_) (fun q7819 => ?_)
      · replace hF := hF.1 q7819
        refine .seq ?_
        refine .region ?_
        refine .v (bld (cs := #[.int .i64 0, .int .i64 0]) (pv := []) tB28 rfl rfl) rfl rfl rfl ?_
        refine .v (asg rfl) rfl rfl rfl ?_
        refine .v (asg rfl) rfl rfl rfl ?_
        refine st (p := pv) (off := 0) (k := 1) (vs := [.int .i64 0, .int .i64 0]) rfl rfl rfl (fun w => (tA28 w).2) rfl rfl rfl rfl ?_
        refine .cast (A' := [Box pt [.int .i64 t.facts, .slice at_ t.init.length ct, .slice at_2 t.goal.length ct2, .slice at_3 t.ops.length ct3], Box pv [.int .i64 0, .int .i64 0], OwnSl 4 1 a ((((l.length : Nat) : Int)).toNat) c (flL running), Box ph [.int .i64 ((gt r3 t35).time), .int .i64 ((gt r3 t35).index), .bool ((gt r3 t35).ending)]]) rfl ?_
        refine .nil ?_
        refine .seqN ?_
        refine .ret ?_
        refine .seqR ?_
        refine .blkR ?_
        refine .seqR ?_
        refine .seqR ?_
        refine .blkR ?_
        refine .seqR ?_
        refine .res3 rfl (rvT rfl) (rvT rfl) (rvC rfl tA28 (k := 1) rfl rfl) (fun w' S => ⟨(0, false, (⟨0, 0⟩ : Fault)), hF, rfl, S.below⟩)
      replace hF := hF.2 q7819
      refine .skip ?_
      refine .seqN ?_
      refine .seq ?_
      refine .region ?_
      refine .v (mv rfl) rfl rfl rfl ?_
      refine .v (mv rfl) rfl rfl rfl ?_
      refine .v (mv rfl) rfl rfl rfl ?_
      obtain ⟨q7820, hF⟩ := hF
      obtain ⟨r5, q7821⟩ : ∃ y_ : List Int, y_ = sp_update s_ add del := ⟨_, rfl⟩
      replace hF := hF r5 q7821
      refine clO (α := Option Addr × Nat) (V := fun z => .slice z.1 r5.length z.2) (Ψ := fun z => True) (B := fun z => [OwnSl 3 1 z.1 r5.length z.2 (flL r5)]) Try.call27 rfl rfl (fun w S => (by rw [q7821]; exact c_update S.sub s_ as2 cs q5492 q5493 add aadd cadd q7811 q7812 del adel cdel q7813 q7814 q7820)) rfl (fun z _ => ?_)
      obtain ⟨a10, c10⟩ := z
      refine .cast (A' := [OwnSl 3 1 a10 r5.length c10 (flL r5), Box pt [.int .i64 t.facts, .slice at_ t.init.length ct, .slice at_2 t.goal.length ct2, .slice at_3 t.ops.length ct3], Box pv [.int .i64 0, .int .i64 0], OwnSl 4 1 a ((((l.length : Nat) : Int)).toNat) c (flL running), Box ph [.int .i64 ((gt r3 t35).time), .int .i64 ((gt r3 t35).index), .bool ((gt r3 t35).ending)]]) rfl ?_
      refine .freezeL (k := 0) rfl (fun h27 le27 q7823 q7822 => ?_)
      refine .cast (A' := [tru, Box pt [.int .i64 t.facts, .slice at_ t.init.length ct, .slice at_2 t.goal.length ct2, .slice at_3 t.ops.length ct3], Box pv [.int .i64 0, .int .i64 0], OwnSl 4 1 a ((((l.length : Nat) : Int)).toNat) c (flL running), Box ph [.int .i64 ((gt r3 t35).time), .int .i64 ((gt r3 t35).index), .bool ((gt r3 t35).ending)]]) rfl ?_
      refine .v (asg rfl) rfl rfl rfl ?_
      refine .nil ?_
      refine .seqN ?_
      refine .seq ?_
      refine .region ?_
      refine .v (mv rfl) rfl rfl rfl ?_
      refine .v (fa rfl tF63_1) rfl rfl rfl ?_
      refine .v (ld1 rfl tO3 (cellB (off := 1) (k := 4) rfl rfl)) rfl rfl rfl ?_
      refine .v (fa rfl tF63_2) rfl rfl rfl ?_
      refine .v (ld1 rfl tO4 (cellB (off := 2) (k := 4) rfl rfl)) rfl rfl rfl ?_
      refine .v (nt rfl) rfl rfl rfl ?_
      obtain ⟨q7824, hF⟩ := hF
      refine .v (ixS rfl rfl tS59 (k := 3) rfl (inb_n q7824 q5494)) rfl rfl rfl ?_
      obtain ⟨d, q7825⟩ : ∃ y_ : List Bool, y_ = (running.set ((gt r3 t35).index).toNat (!((gt r3 t35).ending))) := ⟨_, rfl⟩
      replace hF := hF d q7825
      refine stS (k := 3) (cs' := flL d) rfl (fun _ => rfl) rfl rfl (fun w => (tO4 w).2) rfl rfl rfl (by rw [← q5494]; exact inb_pos q7824) (fl_room q7824) (by rw [q7825]; exact flL_set q7824 (!((gt r3 t35).ending))) ?_
      have q7826 : d.length = (((l.length : Nat) : Int)).toNat := by rw [q7825]; exact List.length_set.trans q5494
      refine .cast (A' := [tru, Box pt [.int .i64 t.facts, .slice at_ t.init.length ct, .slice at_2 t.goal.length ct2, .slice at_3 t.ops.length ct3], Box pv [.int .i64 0, .int .i64 0], OwnSl 4 1 a ((((l.length : Nat) : Int)).toNat) c (flL d), Box ph [.int .i64 ((gt r3 t35).time), .int .i64 ((gt r3 t35).index), .bool ((gt r3 t35).ending)]]) rfl ?_
      refine .nil ?_
      refine .seqN ?_
      refine .seq ?_
      refine .region ?_
      refine .v (fa rfl tF63_0) rfl rfl rfl ?_
      refine .v (ld1 rfl tO3 (cellB (off := 0) (k := 4) rfl rfl)) rfl rfl rfl ?_
      refine .v (asg rfl) rfl rfl rfl ?_
      refine .nil ?_
      refine .seqN ?_
      refine .seq ?_
      refine .region ?_
      refine .v (mv rfl) rfl rfl rfl ?_
      refine .v (ln rfl tS59.is) rfl rfl rfl ?_
      refine .v (mv rfl) rfl rfl rfl ?_
      refine .nil ?_
      refine .seqN ?_
      refine .block ?_
      refine .sel0 [1, 2, 3] (by decide) rfl ?_
      obtain ⟨I2, μ2, q8091, q8092⟩ := hF
      refine .loop' (σ := Int) (fun z => I2 z) (fun z => μ2 z) (fun z => [(1, .slice al2 l.length cl2), (2, .pointer (some pt)), (6, .pointer (some pv)), (8, .slice a10 r5.length c10), (9, .slice a ((((l.length : Nat) : Int)).toNat) c), (10, .int .i64 ((gt r3 t35).time)), (33, .slice a2 r3.length c2), (34, .int .i64 ((r3.length : Nat) : Int)), (35, .int .i64 t35), (81, .slice a ((((l.length : Nat) : Int)).toNat) c), (82, .int .i64 (((((l.length : Nat) : Int)).toNat : Nat) : Int)), (83, .int .i64 z)]) (fun _ => [Box pt [.int .i64 t.facts, .slice at_ t.init.length ct, .slice at_2 t.goal.length ct2, .slice at_3 t.ops.length ct3], Box pv [.int .i64 0, .int .i64 0], OwnSl 4 1 a ((((l.length : Nat) : Int)).toNat) c (flL d)]) (fun _ => h27) 0 q8091 (.cons rfl (.cons rfl (.cons rfl (.cons rfl (.cons rfl (.cons rfl (.cons rfl (.cons rfl (.cons rfl (.cons rfl (.cons rfl (.cons rfl (.nil))))))))))))) rfl (FH.le_refl _) ?_
      rintro t83 q8091
      have hF := q8092 t83 q8091
      show J _ _ _ _ _ [(1, .slice al2 l.length cl2), (2, .pointer (some pt)), (6, .pointer (some pv)), (8, .slice a10 r5.length c10), (9, .slice a ((((l.length : Nat) : Int)).toNat) c), (10, .int .i64 ((gt r3 t35).time)), (33, .slice a2 r3.length c2), (34, .int .i64 ((r3.length : Nat) : Int)), (35, .int .i64 t35), (81, .slice a ((((l.length : Nat) : Int)).toNat) c), (82, .int .i64 (((((l.length : Nat) : Int)).toNat : Nat) : Int)), (83, .int .i64 t83)] [Box pt [.int .i64 t.facts, .slice at_ t.init.length ct, .slice at_2 t.goal.length ct2, .slice at_3 t.ops.length ct3], Box pv [.int .i64 0, .int .i64 0], OwnSl 4 1 a ((((l.length : Nat) : Int)).toNat) c (flL d)] h27
      refine .seq ?_
      refine .region ?_
      refine .v (bi rfl rfl rfl) rfl rfl rfl ?_
      refine .nil ?_
      refine .seqN ?_
      refine .seq ?_
      refine .cond rfl (fun q8095 => ?_) (fun q8095 => ?_)
      · replace hF := hF.1 q8095
        refine .skip ?_
        refine .seqN ?_
        refine .seq ?_
        refine .block ?_
        refine .seq ?_
        refine .region ?_
        refine .v (mv rfl) rfl rfl rfl ?_
        obtain ⟨q8182, hF⟩ := hF
        refine .v (ixS rfl rfl tS59 (k := 2) rfl (inb_n q8182 q7826)) rfl rfl rfl ?_
        refine .v (ld1 (v := .bool (gt d t83)) rfl tO4 (cellS (k := 2) rfl (flL_get q8182 (j := 0) rfl))) rfl rfl rfl ?_
        refine .v (asg rfl) rfl rfl rfl ?_
        refine .v (asg rfl) rfl rfl rfl ?_
        refine .nil ?_
        refine .seqN ?_
        refine .share (σ := Bool) (fun z => F_tcheck_J2 K z t83 I2 μ2) (fun z => [(1, .slice al2 l.length cl2), (2, .pointer (some pt)), (6, .pointer (some pv)), (8, .slice a10 r5.length c10), (9, .slice a ((((l.length : Nat) : Int)).toNat) c), (10, .int .i64 ((gt r3 t35).time)), (33, .slice a2 r3.length c2), (34, .int .i64 ((r3.length : Nat) : Int)), (35, .int .i64 t35), (81, .slice a ((((l.length : Nat) : Int)).toNat) c), (82, .int .i64 (((((l.length : Nat) : Int)).toNat : Nat) : Int)), (83, .int .i64 t83), (103, .bool z)]) (fun _ => [Box pt [.int .i64 t.facts, .slice at_ t.init.length ct, .slice at_2 t.goal.length ct2, .slice at_3 t.ops.length ct3], Box pv [.int .i64 0, .int .i64 0], OwnSl 4 1 a ((((l.length : Nat) : Int)).toNat) c (flL d)]) (fun _ => h27) ?_ (fun q8203 => ?_)
        · rintro t103 hF
          show J _ _ _ _ _ [(1, .slice al2 l.length cl2), (2, .pointer (some pt)), (6, .pointer (some pv)), (8, .slice a10 r5.length c10), (9, .slice a ((((l.length : Nat) : Int)).toNat) c), (10, .int .i64 ((gt r3 t35).time)), (33, .slice a2 r3.length c2), (34, .int .i64 ((r3.length : Nat) : Int)), (35, .int .i64 t35), (81, .slice a ((((l.length : Nat) : Int)).toNat) c), (82, .int .i64 (((((l.length : Nat) : Int)).toNat : Nat) : Int)), (83, .int .i64 t83), (103, .bool t103)] [Box pt [.int .i64 t.facts, .slice at_ t.init.length ct, .slice at_2 t.goal.length ct2, .slice at_3 t.ops.length ct3], Box pv [.int .i64 0, .int .i64 0], OwnSl 4 1 a ((((l.length : Nat) : Int)).toNat) c (flL d)] h27
          refine .cond rfl (fun q8204 => ?_) (fun q8204 => ?_)
          · replace hF := hF.1 q8204
            refine .seq ?_
            refine .region ?_
            refine .v (bld (cs := #[.int .i64 0, .int .i64 0]) (pv := []) tB28 rfl rfl) rfl rfl rfl ?_
            refine .v (asg rfl) rfl rfl rfl ?_
            refine .v (asg rfl) rfl rfl rfl ?_
            refine st (p := pv) (off := 0) (k := 1) (vs := [.int .i64 0, .int .i64 0]) rfl rfl rfl (fun w => (tA28 w).2) rfl rfl rfl rfl ?_
            refine .cast (A' := [Box pt [.int .i64 t.facts, .slice at_ t.init.length ct, .slice at_2 t.goal.length ct2, .slice at_3 t.ops.length ct3], Box pv [.int .i64 0, .int .i64 0], OwnSl 4 1 a ((((l.length : Nat) : Int)).toNat) c (flL d)]) rfl ?_
            refine .nil ?_
            refine .seqN ?_
            refine .ret ?_
            refine .blkR ?_
            refine .seqR ?_
            refine .seqR ?_
            refine .blkR ?_
            refine .blkR ?_
            refine .seqR ?_
            refine .seqR ?_
            refine .blkR ?_
            refine .seqR ?_
            refine .res3 rfl (rvT rfl) (rvT rfl) (rvC rfl tA28 (k := 1) rfl rfl) (fun w' S => ⟨(0, false, (⟨0, 0⟩ : Fault)), hF, rfl, S.below⟩)
          replace hF := hF.2 q8204
          refine .skip ?_
          refine .blkN ?_
          refine .seqN ?_
          refine .region ?_
          refine .v (bi rfl rfl rfl) rfl rfl rfl ?_
          refine .v (mv rfl) rfl rfl rfl ?_
          refine .nil ?_
          exact .round (IntKind.i64.wrap (t83 + 1)) hF.1 hF.2 (.cons rfl (.cons rfl (.cons rfl (.cons rfl (.cons rfl (.cons rfl (.cons rfl (.cons rfl (.cons rfl (.cons rfl (.cons rfl (.cons rfl (.nil))))))))))))) rfl (FH.le_refl _)
        refine .open_ (by kernel_rfl) (by kernel_rfl) ?_
        refine .v (mv rfl) rfl rfl rfl ?_
        refine .v (mv rfl) rfl rfl rfl ?_
        rcases Bool.eq_false_or_eq_true ((gt d t83)) with q8205 | q8205
        · replace hF := hF.1 q8205
          refine .gv (mv rfl) rfl rfl rfl q8205 rfl rfl ?_
          refine .gv (fa rfl tF25_3) rfl rfl rfl q8205 rfl rfl ?_
          refine .gv (ld1 rfl tO23 (cellB (off := 3) (k := 0) rfl rfl)) rfl rfl rfl q8205 rfl rfl ?_
          refine .gv (mv rfl) rfl rfl rfl q8205 rfl rfl ?_
          refine .gv (mv rfl) rfl rfl rfl q8205 rfl rfl ?_
          obtain ⟨q8206, hF⟩ := hF
          refine .gv (ix rfl rfl tS26 (_q7.ne (by decide) (inb_pos q8206)) q8206) rfl rfl rfl q8205 rfl rfl ?_
          refine .gv (fa rfl tF38_0) rfl rfl rfl q8205 rfl rfl ?_
          refine .gv (ld1 (v := .int .i64 ((gt l t83).op)) rfl tO3 (cellH ((_q7.mono (FH.le_trans (FH.le_trans (le1) (q5495)) (le27))).elemF q8206 (by decide) 0 _ rfl))) rfl rfl rfl q8205 rfl rfl ?_
          obtain ⟨q8207, hF⟩ := hF
          refine .gv (ix rfl rfl tS23 (_q5.ne (by decide) (inb_pos q8207)) q8207) rfl rfl rfl q8205 rfl rfl ?_
          refine .gv (fa rfl tF41_1) rfl rfl rfl q8205 rfl rfl ?_
          obtain ⟨_, ⟨a11, c11, a12, c12, a13, c13, a14, c14, a15, c15, a16, c16, a17, c17, rfl, ⟨q8208, q8209⟩, ⟨q8210, q8211⟩, ⟨q8212, q8213⟩, ⟨q8214, q8215⟩, ⟨q8216, q8217⟩, ⟨q8218, q8219⟩, q8220, q8221⟩, q8222⟩ := _q5.elem q8207
          refine .gv (ld1 (v := .slice a12 ((gt t.ops ((gt l t83).op)).over.length) c12) rfl tO22 (cellH ((fun q => (q8222 q).mono (FH.le_trans (FH.le_trans (le1) (q5495)) (le27))) (by decide) 1 _ rfl))) rfl rfl rfl q8205 rfl rfl ?_
          obtain ⟨q8223, hF⟩ := hF
          obtain ⟨r6, q8224⟩ : ∃ y_ : Bool, y_ = sp_contains2 r5 ((gt t.ops ((gt l t83).op)).over) := ⟨_, rfl⟩
          replace hF := hF r6 q8224
          refine .gc (cl (v := .bool r6) Try.call26 rfl rfl (fun w S => (by rw [q8224]; exact c_contains2 S.sub r5 a10 c10 (RSl.of q7822) (q7823) ((gt t.ops ((gt l t83).op)).over) a12 c12 (q8211.mono (FH.le_trans (FH.le_trans (le1) (q5495)) (le27))) q8210 q8223))) rfl rfl rfl q8205 rfl rfl ?_
          refine .gv (nt rfl) rfl rfl rfl q8205 rfl rfl ?_
          refine .v (pkT rfl q8205 rfl) rfl rfl rfl ?_
          refine .fin ?_
          exact .use q8203 (!r6) hF (.cons rfl (.cons rfl (.cons rfl (.cons rfl (.cons rfl (.cons rfl (.cons rfl (.cons rfl (.cons rfl (.cons rfl (.cons rfl (.cons rfl (.cons rfl (.nil)))))))))))))) rfl (FH.le_refl _)
        replace hF := hF.2 q8205
        refine .gS rfl rfl rfl q8205 rfl rfl ?_
        refine .gS rfl rfl rfl q8205 rfl rfl ?_
        refine .gS rfl rfl rfl q8205 rfl rfl ?_
        refine .gS rfl rfl rfl q8205 rfl rfl ?_
        refine .gS rfl rfl rfl q8205 rfl rfl ?_
        refine .gS rfl rfl rfl q8205 rfl rfl ?_
        refine .gS rfl rfl rfl q8205 rfl rfl ?_
        refine .gS rfl rfl rfl q8205 rfl rfl ?_
        refine .gS rfl rfl rfl q8205 rfl rfl ?_
        refine .gS rfl rfl rfl q8205 rfl rfl ?_
        refine .gS rfl rfl rfl q8205 rfl rfl ?_
        refine .gS rfl rfl rfl q8205 rfl rfl ?_
        refine .gS rfl rfl rfl q8205 rfl rfl ?_
        refine .v (pkF rfl q8205 rfl) rfl rfl rfl ?_
        refine .fin ?_
        exact .use q8203 false hF (.cons rfl (.cons rfl (.cons rfl (.cons rfl (.cons rfl (.cons rfl (.cons rfl (.cons rfl (.cons rfl (.cons rfl (.cons rfl (.cons rfl (.cons rfl (.nil)))))))))))))) rfl (FH.le_refl _)
      replace hF := hF.2 q8095
      refine .exit ?_
      refine .seqX ?_
      refine .seqX ?_
      refine .blkX ?_
      refine .blkN ?_
      refine .seqN ?_
      refine .region ?_
      refine .v (bi rfl rfl rfl) rfl rfl rfl ?_
      refine .v (mv rfl) rfl rfl rfl ?_
      refine .nil ?_
      exact .round (r5, (gt r3 t35).time, IntKind.i64.wrap (t35 + 1), d, a10, c10, h27) ⟨hF.1, (RSl.of q7822), (q7823), q7826, (FH.le_trans (q5495) (le27))⟩ hF.2 (.cons rfl (.cons rfl (.cons rfl (.cons rfl (.cons rfl (.cons rfl (.cons rfl (.cons rfl (.cons rfl (.nil)))))))))) rfl (FH.le_refl _)
    refine .cond rfl (fun q8225 => ?_) (fun q8225 => ?_)
    · replace hF := hF.1 q8225
      refine .open_ (by kernel_rfl) (by kernel_rfl) ?_
      refine .v (fa rfl tF41_2) rfl rfl rfl ?_
      refine .v (ld1 rfl tO22 (cellB (off := 2) (k := 0) rfl rfl)) rfl rfl rfl ?_
      refine .v (fa rfl tF41_5) rfl rfl rfl ?_
      refine .v (ld1 rfl tO22 (cellB (off := 5) (k := 0) rfl rfl)) rfl rfl rfl ?_
      refine .v (fa rfl tF41_6) rfl rfl rfl ?_
      refine .v (ld1 rfl tO22 (cellB (off := 6) (k := 0) rfl rfl)) rfl rfl rfl ?_
      refine .v (asg rfl) rfl rfl rfl ?_
      refine .v (asg rfl) rfl rfl rfl ?_
      refine .v (asg rfl) rfl rfl rfl ?_
      refine .fin ?_
      refine .sel0 [2, 3, 4, 1] (by decide) rfl ?_
      exact .use q7815 ((gt t.ops ((gt l ((gt r3 t35).index)).op)).atEnd, (gt t.ops ((gt l ((gt r3 t35).index)).op)).addEnd, (gt t.ops ((gt l ((gt r3 t35).index)).op)).delEnd, a5, c5, a8, c8, a9, c9) ⟨hF, (q7798.mono (FH.le_trans (le1) (q5495))), q7797, (q7804.mono (FH.le_trans (le1) (q5495))), q7803, (q7806.mono (FH.le_trans (le1) (q5495))), q7805⟩ (.cons rfl (.cons rfl (.cons rfl (.cons rfl (.cons rfl (.cons rfl (.cons rfl (.cons rfl (.cons rfl (.cons rfl (.cons rfl (.cons rfl (.nil))))))))))))) rfl (FH.le_refl _)
    replace hF := hF.2 q8225
    refine .skip ?_
    refine .sel0 [2, 3, 4, 1] (by decide) rfl ?_
    exact .use q7815 ((gt t.ops ((gt l ((gt r3 t35).index)).op)).atStart, (gt t.ops ((gt l ((gt r3 t35).index)).op)).addStart, (gt t.ops ((gt l ((gt r3 t35).index)).op)).delStart, a3, c3, a6, c6, a7, c7) ⟨hF, (q7794.mono (FH.le_trans (le1) (q5495))), q7793, (q7800.mono (FH.le_trans (le1) (q5495))), q7799, (q7802.mono (FH.le_trans (le1) (q5495))), q7801⟩ (.cons rfl (.cons rfl (.cons rfl (.cons rfl (.cons rfl (.cons rfl (.cons rfl (.cons rfl (.cons rfl (.cons rfl (.cons rfl (.cons rfl (.nil))))))))))))) rfl (FH.le_refl _)
  replace hF := hF.2 q6866
  refine .exit ?_
  refine .seqX ?_
  refine .seqX ?_
  refine .blkX ?_
  refine .seqN ?_
  refine .seq ?_
  refine .seq ?_
  refine .region ?_
  refine .v (mv rfl) rfl rfl rfl ?_
  refine .v (fa rfl tF25_2) rfl rfl rfl ?_
  refine .v (ld1 rfl tO22 (cellB (off := 2) (k := 0) rfl rfl)) rfl rfl rfl ?_
  obtain ⟨q8226, hF⟩ := hF
  obtain ⟨r7, q8227⟩ : ∃ y_ : Bool, y_ = sp_contains2 s_ t.goal := ⟨_, rfl⟩
  replace hF := hF r7 q8227
  refine .c (cl (v := .bool r7) Try.call26 rfl rfl (fun w S => (by rw [q8227]; exact c_contains2 S.sub s_ as2 cs q5492 q5493 t.goal at_2 ct2 (_q3.mono (FH.le_trans (le1) (q5495))) _q4 q8226))) rfl rfl rfl ?_
  refine .v (nt rfl) rfl rfl rfl ?_
  refine .nil ?_
  refine .seqN ?_
  refine .cond rfl (fun q8229 => ?_) (fun q8229 => ?_)
  · replace hF := hF.1 q8229
    refine .seq ?_
    refine .region ?_
    refine .v (bld (cs := #[.int .i64 0, .int .i64 0]) (pv := []) tB28 rfl rfl) rfl rfl rfl ?_
    refine .v (asg rfl) rfl rfl rfl ?_
    refine .v (asg rfl) rfl rfl rfl ?_
    refine st (p := pv) (off := 0) (k := 1) (vs := [.int .i64 0, .int .i64 0]) rfl rfl rfl (fun w => (tA28 w).2) rfl rfl rfl rfl ?_
    refine .cast (A' := [Box pt [.int .i64 t.facts, .slice at_ t.init.length ct, .slice at_2 t.goal.length ct2, .slice at_3 t.ops.length ct3], Box pv [.int .i64 0, .int .i64 0], OwnSl 4 1 a ((((l.length : Nat) : Int)).toNat) c (flL running)]) rfl ?_
    refine .nil ?_
    refine .seqN ?_
    refine .ret ?_
    refine .seqR ?_
    refine .res3 rfl (rvT rfl) (rvT rfl) (rvC rfl tA28 (k := 1) rfl rfl) (fun w' S => ⟨(0, false, (⟨0, 0⟩ : Fault)), hF, rfl, S.below⟩)
  replace hF := hF.2 q8229
  refine .skip ?_
  refine .seqN ?_
  refine .seq ?_
  refine .region ?_
  refine .v (mv rfl) rfl rfl rfl ?_
  refine .v (bld (cs := #[.int .i64 0, .int .i64 0]) (pv := []) tB28 rfl rfl) rfl rfl rfl ?_
  refine .v (asg rfl) rfl rfl rfl ?_
  refine .v (asg rfl) rfl rfl rfl ?_
  refine st (p := pv) (off := 0) (k := 1) (vs := [.int .i64 0, .int .i64 0]) rfl rfl rfl (fun w => (tA28 w).2) rfl rfl rfl rfl ?_
  refine .cast (A' := [Box pt [.int .i64 t.facts, .slice at_ t.init.length ct, .slice at_2 t.goal.length ct2, .slice at_3 t.ops.length ct3], Box pv [.int .i64 0, .int .i64 0], OwnSl 4 1 a ((((l.length : Nat) : Int)).toNat) c (flL running)]) rfl ?_
  refine .nil ?_
  refine .seqN ?_
  refine .ret ?_
  refine .res3 rfl (rvT rfl) (rvT rfl) (rvC rfl tA28 (k := 1) rfl rfl) (fun w' S => ⟨(last, true, (⟨0, 0⟩ : Fault)), hF, rfl, S.below⟩)

theorem c_tcheck {h : FH} {w : World} (hs : Sub h w) (t : TTask) (at_ : Option Addr) (ct : Nat) (_q1 : RSl h at_ t.init) (_q2 : t.init.length ≤ ct) (at_2 : Option Addr) (ct2 : Nat) (_q3 : RSl h at_2 t.goal) (_q4 : t.goal.length ≤ ct2) (at_3 : Option Addr) (ct3 : Nat) (_q5 : RSl h at_3 t.ops) (_q6 : t.ops.length ≤ ct3) (l : List Occ) (al2 : Option Addr) (cl2 : Nat) (_q7 : RSl h al2 l) (_q8 : l.length ≤ cl2) : Calls Try.prog 9 #[.agg #[.int .i64 t.facts, .slice at_ t.init.length ct, .slice at_2 t.goal.length ct2, .slice at_3 t.ops.length ct3], .slice al2 l.length cl2] w fun e w' => e = .returned (.tuple #[.int .i64 (sp_tcheck t l).1, .bool (sp_tcheck t l).2.1, .agg #[.int .i64 (sp_tcheck t l).2.2.code, .int .i64 (sp_tcheck t l).2.2.index]]) ∧ Below w.heap.size w w' :=
  (w_tcheck hs t at_ ct _q1 _q2 at_2 ct2 _q3 _q4 at_3 ct3 _q5 _q6 l al2 cl2 _q7 _q8 (fun r => r = sp_tcheck t l) (ok_tcheck t l)).mono fun _ _ ⟨_, hk, he, hb⟩ => ⟨by rw [he, hk], hb⟩

end Go.Proofs.Ytaenggfmpagjgaa.Pl
