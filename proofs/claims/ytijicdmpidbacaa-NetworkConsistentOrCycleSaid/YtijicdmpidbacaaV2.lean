/- The walks: from what each function asks to what it does; printed from the code. No condition. -/
import Derived.Test.YtijicdmpidbacaaV1
namespace Go.Proofs.Ytijicdmpidbacaa.Pl
open Go Go.RowKit
theorem w_fits {h : FH} {w : World} (hs : Sub h w) (n_ : Network) (an_ : Option Addr) (cn_ : Nat) (_q1 : RSl h an_ n_.links) (_q2 : n_.links.length ≤ cn_) (times : List Int) (atimes : Option Addr) (ctimes : Nat) (_q3 : RSl h atimes times) (_q4 : times.length ≤ ctimes) (K : Bool → Prop) (hF : F_fits n_ times K) : Calls Try.prog 47 #[.agg #[.int .i64 n_.events, .slice an_ n_.links.length cn_], .slice atimes times.length ctimes] w fun e w' => ∃ r : Bool, K r ∧ e = .returned (.bool r) ∧ Below w.heap.size w w' := by
  refine enter (args := [.agg #[.int .i64 n_.events, .slice an_ n_.links.length cn_], .slice atimes times.length ctimes]) Try.func47 rfl Try.ntmps47 rfl hs ?_
  refine .seq ?_
  refine .region ?_
  refine bx (vs := [.int .i64 n_.events, .slice an_ n_.links.length cn_]) rfl rfl rfl (fun pn => ?_)
  refine bx (vs := [.slice atimes times.length ctimes]) rfl rfl rfl (fun ptimes => ?_)
  refine .v (asg rfl) rfl rfl rfl ?_
  refine .nil ?_
  refine .seqN ?_
  refine .seq ?_
  refine .share (σ := Bool) (fun z => F_fits_J1 n_ times K z) (fun z => [(2, .pointer (some pn)), (3, .pointer (some ptimes)), (13, .bool z)]) (fun _ => [Box pn [.int .i64 n_.events, .slice an_ n_.links.length cn_], Box ptimes [.slice atimes times.length ctimes]]) (fun _ => h) ?_ (fun q9 => ?_)
  · rintro t13 hF
    show J _ _ _ _ _ [(2, .pointer (some pn)), (3, .pointer (some ptimes)), (13, .bool t13)] [Box pn [.int .i64 n_.events, .slice an_ n_.links.length cn_], Box ptimes [.slice atimes times.length ctimes]] h
    refine .cond rfl (fun q10 => ?_) (fun q10 => ?_)
    · replace hF := hF.1 q10
      refine .seq ?_
      refine .region ?_
      refine .v (asg rfl) rfl rfl rfl ?_
      refine .nil ?_
      refine .seqN ?_
      refine .ret ?_
      refine .seqR ?_
      refine .res1 rfl (rvT rfl) (fun w' S => ⟨false, hF, rfl, S.below⟩)
    replace hF := hF.2 q10
    refine .skip ?_
    refine .seqN ?_
    refine .seq ?_
    refine .region ?_
    refine .v (fa rfl tF24_1) rfl rfl rfl ?_
    refine .v (ld1 rfl tO22 (cellB (off := 1) (k := 0) rfl rfl)) rfl rfl rfl ?_
    refine .v (mkf (vf := []) (vc := [.pointer (some ptimes)]) rfl rfl) rfl rfl rfl ?_
    obtain ⟨q11, hF⟩ := hF
    obtain ⟨r2, q12⟩ : ∃ y_ : Bool, y_ = sp_any n_.links (fun y_ : Link => sp_fits1 y_ times) (fun y_ : Link => pre_fits1 y_ times) := ⟨_, rfl⟩
    replace hF := hF r2 q12
    refine .c (cl (v := .bool r2) Try.call60 rfl rfl (fun w S => (by rw [q12]; obtain ⟨h_, hl_, hs_, hb_⟩ := lookB S (k := 1) rfl; exact c_containsL hs_ n_.links an_ cn_ (RSl.mono hl_ _q1) _q2 (fun y_ : Link => sp_fits1 y_ times) (fun y_ : Link => pre_fits1 y_ times) 66 #[] #[.pointer (some ptimes)] Try.call66 (fun x w' hD hs' => c_fits1 hs' x times atimes ctimes (RSl.mono hl_ _q3) _q4 ptimes hb_ hD) q11))) rfl rfl rfl ?_
    refine .v (nt rfl) rfl rfl rfl ?_
    refine .v (asg rfl) rfl rfl rfl ?_
    refine .nil ?_
    refine .seqN ?_
    refine .ret ?_
    refine .res1 rfl (rvT rfl) (fun w' S => ⟨!r2, hF, rfl, S.below⟩)
  refine .region ?_
  refine .v (ld1 rfl tO32 (cellB (off := 0) (k := 0) rfl rfl)) rfl rfl rfl ?_
  obtain ⟨q13, hF⟩ := hF
  refine .v (ix rfl rfl tS32 (_q3.ne (by decide) (inb_pos q13)) q13) rfl rfl rfl ?_
  refine .v (ld1 (v := .int .i64 (gt times (0 : Int))) rfl tO3 (cellH (_q3.elemF q13 (by decide) 0 _ rfl))) rfl rfl rfl ?_
  refine .v (bi rfl rfl rfl) rfl rfl rfl ?_
  refine .v (mv rfl) rfl rfl rfl ?_
  rcases Bool.eq_false_or_eq_true ((gt times (0 : Int)) != 0) with q14 | q14
  · replace hF := hF.1 q14
    refine .gS rfl rfl rfl q14 rfl rfl ?_
    refine .gS rfl rfl rfl q14 rfl rfl ?_
    refine .gS rfl rfl rfl q14 rfl rfl ?_
    refine .v (pkT rfl q14 rfl) rfl rfl rfl ?_
    refine .nil ?_
    refine .sel0 [1, 0] (by decide) rfl ?_
    exact .use q9 true hF (.cons rfl (.cons rfl (.cons rfl (.nil)))) rfl (FH.le_refl _)
  replace hF := hF.2 q14
  refine .gv (ld1 rfl tO32 (cellB (off := 0) (k := 0) rfl rfl)) rfl rfl rfl q14 rfl rfl ?_
  obtain ⟨q15, hF⟩ := hF
  obtain ⟨r3, q16⟩ : ∃ y_ : Int, y_ = sp_min_ times := ⟨_, rfl⟩
  replace hF := hF r3 q16
  refine .gc (cl (v := .int .i64 r3) Try.call65 rfl rfl (fun w S => (by rw [q16]; exact c_min_ S.sub times atimes ctimes _q3 _q4 q15))) rfl rfl rfl q14 rfl rfl ?_
  refine .gv (bi rfl rfl rfl) rfl rfl rfl q14 rfl rfl ?_
  refine .v (pkF rfl q14 rfl) rfl rfl rfl ?_
  refine .nil ?_
  refine .sel0 [1, 0] (by decide) rfl ?_
  exact .use q9 (decide (r3 < 0)) hF (.cons rfl (.cons rfl (.cons rfl (.nil)))) rfl (FH.le_refl _)

theorem c_fits {h : FH} {w : World} (hs : Sub h w) (n_ : Network) (an_ : Option Addr) (cn_ : Nat) (_q1 : RSl h an_ n_.links) (_q2 : n_.links.length ≤ cn_) (times : List Int) (atimes : Option Addr) (ctimes : Nat) (_q3 : RSl h atimes times) (_q4 : times.length ≤ ctimes) (hp : pre_fits n_ times) : Calls Try.prog 47 #[.agg #[.int .i64 n_.events, .slice an_ n_.links.length cn_], .slice atimes times.length ctimes] w fun e w' => e = .returned (.bool (sp_fits n_ times)) ∧ Below w.heap.size w w' :=
  (w_fits hs n_ an_ cn_ _q1 _q2 times atimes ctimes _q3 _q4 (fun r => r = sp_fits n_ times) (ok_fits n_ times hp)).mono fun _ _ ⟨_, hk, he, hb⟩ => ⟨by rw [he, hk], hb⟩

theorem w_respects {h : FH} {w : World} (hs : Sub h w) (n_ : Network) (an_ : Option Addr) (cn_ : Nat) (_q1 : RSl h an_ n_.links) (_q2 : n_.links.length ≤ cn_) (times : List Int) (atimes : Option Addr) (ctimes : Nat) (_q3 : RSl h atimes times) (_q4 : times.length ≤ ctimes) (K : (Bool × Fault) → Prop) (hF : F_respects n_ times K) : Calls Try.prog 18 #[.agg #[.int .i64 n_.events, .slice an_ n_.links.length cn_], .slice atimes times.length ctimes] w fun e w' => ∃ r : Bool × Fault, K r ∧ e = .returned (.tuple #[.bool r.1, .agg #[.int .i64 r.2.code, .int .i64 r.2.index]]) ∧ Below w.heap.size w w' := by
  refine enter (args := [.agg #[.int .i64 n_.events, .slice an_ n_.links.length cn_], .slice atimes times.length ctimes]) Try.func18 rfl Try.ntmps18 rfl hs ?_
  refine .seq ?_
  refine .region ?_
  refine bx (vs := [.int .i64 n_.events, .slice an_ n_.links.length cn_]) rfl rfl rfl (fun pn => ?_)
  refine .v (asg rfl) rfl rfl rfl ?_
  refine al tZ27 rfl (fun pv => ?_)
  refine .nil ?_
  refine .seqN ?_
  refine .seq ?_
  refine .seq ?_
  refine .region ?_
  refine .v (ldA (cs := [.int .i64 n_.events, .slice an_ n_.links.length cn_]) rfl tA24 rfl (cellsB (off := 0) (k := 1) rfl (m := 2) rfl)) rfl rfl rfl ?_
  obtain ⟨r2, q5⟩ : ∃ y_ : Fault, y_ = sp_validate n_ := ⟨_, rfl⟩
  replace hF := hF r2 q5
  refine .c (cl (v := .agg #[.int .i64 r2.code, .int .i64 r2.index]) Try.call22 rfl rfl (fun w S => (by rw [q5]; exact c_validate S.sub n_ an_ cn_ _q1 _q2 ))) rfl rfl rfl ?_
  refine al tZ27 rfl (fun pf => ?_)
  refine st (p := pf) (off := 0) (k := 0) (vs := [.int .i64 r2.code, .int .i64 r2.index]) rfl rfl rfl (fun w => (tA27 w).2) rfl rfl rfl rfl ?_
  refine .cast (A' := [Box pf [.int .i64 r2.code, .int .i64 r2.index], Box pv [.int .i64 0, .int .i64 0], Box pn [.int .i64 n_.events, .slice an_ n_.links.length cn_]]) rfl ?_
  refine .nil ?_
  refine .seqN ?_
  refine .seq ?_
  refine .region ?_
  refine .v (ldA (cs := [.int .i64 r2.code, .int .i64 r2.index]) rfl tA27 rfl (cellsB (off := 0) (k := 0) rfl (m := 2) rfl)) rfl rfl rfl ?_
  refine .v (bld (cs := #[.int .i64 0, .int .i64 0]) (pv := []) tB27 rfl rfl) rfl rfl rfl ?_
  refine .v (ne2 tE27 rfl rfl) rfl rfl rfl ?_
  refine .nil ?_
  refine .seqN ?_
  refine .cond rfl (fun q6 => ?_) (fun q6 => ?_)
  · replace hF := hF.1 q6
    refine .seq ?_
    refine .openL (by kernel_rfl) rfl (by kernel_rfl) (by kernel_rfl) ?_
    refine .v (ldA (cs := [.int .i64 r2.code, .int .i64 r2.index]) rfl tA27 rfl (cellsB (off := 0) (k := 0) rfl (m := 2) rfl)) rfl rfl rfl ?_
    refine .v (asg rfl) rfl rfl rfl ?_
    refine .tail ?_
    refine st (p := pv) (off := 0) (k := 1) (vs := [.int .i64 r2.code, .int .i64 r2.index]) rfl rfl rfl (fun w => (tA27 w).2) rfl rfl rfl rfl ?_
    refine .cast (A' := [Box pf [.int .i64 r2.code, .int .i64 r2.index], Box pv [.int .i64 r2.code, .int .i64 r2.index], Box pn [.int .i64 n_.events, .slice an_ n_.links.length cn_]]) rfl ?_
    refine .nil ?_
    refine .seqN ?_
    refine .ret ?_
    refine .seqR ?_
    refine .res2 rfl (rvT rfl) (rvC rfl tA27 (k := 1) rfl rfl) (fun w' S => ⟨(false, r2), hF, rfl, S.below⟩)
  replace hF := hF.2 q6
  refine .skip ?_
  refine .seqN ?_
  refine .seq ?_
  refine .seq ?_
  refine .region ?_
  refine .v (mv rfl) rfl rfl rfl ?_
  refine .v (ln rfl tS32.is) rfl rfl rfl ?_
  refine .v (fa rfl tF24_0) rfl rfl rfl ?_
  refine .v (ld1 rfl tO3 (cellB (off := 0) (k := 2) rfl rfl)) rfl rfl rfl ?_
  refine .v (bi rfl rfl rfl) rfl rfl rfl ?_
  refine .nil ?_
  refine .seqN ?_
  refine .cond rfl (fun q7 => ?_) (fun q7 => ?_)
  · replace hF := hF.1 q7
    refine .seq ?_
    refine .region ?_
    refine .v (bld (cs := #[.int .i64 9, .int .i64 (-2)]) (pv := [(0, .int .i64 9), (1, .int .i64 (-2))]) tB27 rfl rfl) rfl rfl rfl ?_
    refine .v (asg rfl) rfl rfl rfl ?_
    refine st (p := pv) (off := 0) (k := 1) (vs := [.int .i64 9, .int .i64 (-2)]) rfl rfl rfl (fun w => (tA27 w).2) rfl rfl rfl rfl ?_
    refine .cast (A' := [Box pf [.int .i64 r2.code, .int .i64 r2.index], Box pv [.int .i64 9, .int .i64 (-2)], Box pn [.int .i64 n_.events, .slice an_ n_.links.length cn_]]) rfl ?_
    refine .nil ?_
    refine .seqN ?_
    refine .ret ?_
    refine .seqR ?_
    refine .res2 rfl (rvT rfl) (rvC rfl tA27 (k := 1) rfl rfl) (fun w' S => ⟨(false, (⟨9, (-2)⟩ : Fault)), hF, rfl, S.below⟩)
  replace hF := hF.2 q7
  refine .skip ?_
  refine .seqN ?_
  refine .seq ?_
  refine .seq ?_
  refine .region ?_
  refine .v (mv rfl) rfl rfl rfl ?_
  refine .v (ln rfl tS32.is) rfl rfl rfl ?_
  refine .v (mv rfl) rfl rfl rfl ?_
  refine .nil ?_
  refine .seqN ?_
  refine .block ?_
  refine .sel0 [2, 1] (by decide) rfl ?_
  obtain ⟨I1, μ1, q32, q33⟩ := hF
  refine .loop' (σ := Int) (fun z => I1 z) (fun z => μ1 z) (fun z => [(1, .slice atimes times.length ctimes), (2, .pointer (some pn)), (5, .pointer (some pv)), (21, .slice atimes times.length ctimes), (22, .int .i64 ((times.length : Nat) : Int)), (23, .int .i64 z)]) (fun _ => [Box pn [.int .i64 n_.events, .slice an_ n_.links.length cn_], Box pv [.int .i64 0, .int .i64 0]]) (fun _ => h) 0 q32 (.cons rfl (.cons rfl (.cons rfl (.cons rfl (.cons rfl (.cons rfl (.nil))))))) rfl (FH.le_refl _) ?_
  rintro t23 q32
  have hF := q33 t23 q32
  show J _ _ _ _ _ [(1, .slice atimes times.length ctimes), (2, .pointer (some pn)), (5, .pointer (some pv)), (21, .slice atimes times.length ctimes), (22, .int .i64 ((times.length : Nat) : Int)), (23, .int .i64 t23)] [Box pn [.int .i64 n_.events, .slice an_ n_.links.length cn_], Box pv [.int .i64 0, .int .i64 0]] h
  refine .seq ?_
  refine .region ?_
  refine .v (bi rfl rfl rfl) rfl rfl rfl ?_
  refine .nil ?_
  refine .seqN ?_
  refine .seq ?_
  refine .cond rfl (fun q35 => ?_) (fun q35 => ?_)
  · replace hF := hF.1 q35
    refine .skip ?_
    refine .seqN ?_
    refine .seq ?_
    refine .block ?_
    refine .seq ?_
    refine .region ?_
    refine .v (mv rfl) rfl rfl rfl ?_
    obtain ⟨q41, hF⟩ := hF
    refine .v (ix rfl rfl tS32 (_q3.ne (by decide) (inb_pos q41)) q41) rfl rfl rfl ?_
    refine .v (ld1 (v := .int .i64 (gt times t23)) rfl tO3 (cellH (_q3.elemF q41 (by decide) 0 _ rfl))) rfl rfl rfl ?_
    refine .v (asg rfl) rfl rfl rfl ?_
    refine .v (asg rfl) rfl rfl rfl ?_
    refine .nil ?_
    refine .seqN ?_
    refine .share (σ := Bool) (fun z => F_respects_J1 K z t23 I1 μ1) (fun z => [(1, .slice atimes times.length ctimes), (2, .pointer (some pn)), (5, .pointer (some pv)), (7, .int .i64 t23), (21, .slice atimes times.length ctimes), (22, .int .i64 ((times.length : Nat) : Int)), (23, .int .i64 t23), (33, .bool z)]) (fun _ => [Box pn [.int .i64 n_.events, .slice an_ n_.links.length cn_], Box pv [.int .i64 0, .int .i64 0]]) (fun _ => h) ?_ (fun q43 => ?_)
    · rintro t33 hF
      show J _ _ _ _ _ [(1, .slice atimes times.length ctimes), (2, .pointer (some pn)), (5, .pointer (some pv)), (7, .int .i64 t23), (21, .slice atimes times.length ctimes), (22, .int .i64 ((times.length : Nat) : Int)), (23, .int .i64 t23), (33, .bool t33)] [Box pn [.int .i64 n_.events, .slice an_ n_.links.length cn_], Box pv [.int .i64 0, .int .i64 0]] h
      refine .cond rfl (fun q44 => ?_) (fun q44 => ?_)
      · replace hF := hF.1 q44
        refine .seq ?_
        refine .region ?_
        refine .v (mv rfl) rfl rfl rfl ?_
        refine .v (bi rfl rfl rfl) rfl rfl rfl ?_
        refine .v (bld (cs := #[.int .i64 3, .int .i64 (IntKind.i64.wrap ((-3) - t23))]) (pv := [(0, .int .i64 3), (1, .int .i64 (IntKind.i64.wrap ((-3) - t23)))]) tB27 rfl rfl) rfl rfl rfl ?_
        refine .v (asg rfl) rfl rfl rfl ?_
        refine st (p := pv) (off := 0) (k := 1) (vs := [.int .i64 3, .int .i64 (IntKind.i64.wrap ((-3) - t23))]) rfl rfl rfl (fun w => (tA27 w).2) rfl rfl rfl rfl ?_
        refine .cast (A' := [Box pn [.int .i64 n_.events, .slice an_ n_.links.length cn_], Box pv [.int .i64 3, .int .i64 (IntKind.i64.wrap ((-3) - t23))]]) rfl ?_
        refine .nil ?_
        refine .seqN ?_
        refine .ret ?_
        refine .blkR ?_
        refine .seqR ?_
        refine .seqR ?_
        refine .blkR ?_
        refine .seqR ?_
        refine .res2 rfl (rvT rfl) (rvC rfl tA27 (k := 1) rfl rfl) (fun w' S => ⟨(false, (⟨3, IntKind.i64.wrap ((-3) - t23)⟩ : Fault)), hF, rfl, S.below⟩)
      replace hF := hF.2 q44
      refine .skip ?_
      refine .blkN ?_
      refine .seqN ?_
      refine .region ?_
      refine .v (bi rfl rfl rfl) rfl rfl rfl ?_
      refine .v (mv rfl) rfl rfl rfl ?_
      refine .nil ?_
      exact .round (IntKind.i64.wrap (t23 + 1)) hF.1 hF.2 (.cons rfl (.cons rfl (.cons rfl (.cons rfl (.cons rfl (.cons rfl (.nil))))))) rfl (FH.le_refl _)
    refine .region ?_
    refine .v (mv rfl) rfl rfl rfl ?_
    refine .v (bi rfl rfl rfl) rfl rfl rfl ?_
    refine .v (mv rfl) rfl rfl rfl ?_
    rcases Bool.eq_false_or_eq_true (decide ((gt times t23) < (-1000000))) with q45 | q45
    · replace hF := hF.1 q45
      refine .gS rfl rfl rfl q45 rfl rfl ?_
      refine .gS rfl rfl rfl q45 rfl rfl ?_
      refine .v (pkT rfl q45 rfl) rfl rfl rfl ?_
      refine .nil ?_
      exact .use q43 true hF (.cons rfl (.cons rfl (.cons rfl (.cons rfl (.cons rfl (.cons rfl (.cons rfl (.cons rfl (.nil))))))))) rfl (FH.le_refl _)
    replace hF := hF.2 q45
    refine .gv (mv rfl) rfl rfl rfl q45 rfl rfl ?_
    refine .gv (bi rfl rfl rfl) rfl rfl rfl q45 rfl rfl ?_
    refine .v (pkF rfl q45 rfl) rfl rfl rfl ?_
    refine .nil ?_
    exact .use q43 (decide (1000000 < (gt times t23))) hF (.cons rfl (.cons rfl (.cons rfl (.cons rfl (.cons rfl (.cons rfl (.cons rfl (.cons rfl (.nil))))))))) rfl (FH.le_refl _)
  replace hF := hF.2 q35
  refine .exit ?_
  refine .seqX ?_
  refine .seqX ?_
  refine .blkX ?_
  refine .seqN ?_
  refine .seq ?_
  refine .region ?_
  refine .v (ldA (cs := [.int .i64 n_.events, .slice an_ n_.links.length cn_]) rfl tA24 rfl (cellsB (off := 0) (k := 0) rfl (m := 2) rfl)) rfl rfl rfl ?_
  refine .v (mv rfl) rfl rfl rfl ?_
  obtain ⟨q46, hF⟩ := hF
  obtain ⟨r3, q47⟩ : ∃ y_ : Bool, y_ = sp_fits n_ times := ⟨_, rfl⟩
  replace hF := hF r3 q47
  refine .c (cl (v := .bool r3) Try.call47 rfl rfl (fun w S => (by rw [q47]; exact c_fits S.sub n_ an_ cn_ _q1 _q2 times atimes ctimes _q3 _q4 q46))) rfl rfl rfl ?_
  refine .v (bld (cs := #[.int .i64 0, .int .i64 0]) (pv := []) tB27 rfl rfl) rfl rfl rfl ?_
  refine .v (asg rfl) rfl rfl rfl ?_
  refine st (p := pv) (off := 0) (k := 1) (vs := [.int .i64 0, .int .i64 0]) rfl rfl rfl (fun w => (tA27 w).2) rfl rfl rfl rfl ?_
  refine .cast (A' := [Box pn [.int .i64 n_.events, .slice an_ n_.links.length cn_], Box pv [.int .i64 0, .int .i64 0]]) rfl ?_
  refine .nil ?_
  refine .seqN ?_
  refine .ret ?_
  refine .res2 rfl (rvT rfl) (rvC rfl tA27 (k := 1) rfl rfl) (fun w' S => ⟨(r3, (⟨0, 0⟩ : Fault)), hF, rfl, S.below⟩)

theorem c_respects {h : FH} {w : World} (hs : Sub h w) (n_ : Network) (an_ : Option Addr) (cn_ : Nat) (_q1 : RSl h an_ n_.links) (_q2 : n_.links.length ≤ cn_) (times : List Int) (atimes : Option Addr) (ctimes : Nat) (_q3 : RSl h atimes times) (_q4 : times.length ≤ ctimes) : Calls Try.prog 18 #[.agg #[.int .i64 n_.events, .slice an_ n_.links.length cn_], .slice atimes times.length ctimes] w fun e w' => e = .returned (.tuple #[.bool (sp_respects n_ times).1, .agg #[.int .i64 (sp_respects n_ times).2.code, .int .i64 (sp_respects n_ times).2.index]]) ∧ Below w.heap.size w w' :=
  (w_respects hs n_ an_ cn_ _q1 _q2 times atimes ctimes _q3 _q4 (fun r => r = sp_respects n_ times) (ok_respects n_ times)).mono fun _ _ ⟨_, hk, he, hb⟩ => ⟨by rw [he, hk], hb⟩

theorem w_earliest {h : FH} {w : World} (hs : Sub h w) (n_ : Network) (an_ : Option Addr) (cn_ : Nat) (_q1 : RSl h an_ n_.links) (_q2 : n_.links.length ≤ cn_) (K : (List Int × Bool × Fault) → Prop) (hF : F_earliest n_ K) : Calls Try.prog 19 #[.agg #[.int .i64 n_.events, .slice an_ n_.links.length cn_]] w fun e w' => ∃ (r : List Int × Bool × Fault) (z : Option Addr × Nat) (h1 : FH), K r ∧ e = .returned (.tuple #[.slice z.1 r.1.length z.2, .bool r.2.1, .agg #[.int .i64 r.2.2.code, .int .i64 r.2.2.index]]) ∧ FH.le h h1 ∧ (RSl h1 z.1 r.1 ∧ r.1.length ≤ z.2) ∧ SH (Kp.all w h) h1 w' [] := by
  refine enter (args := [.agg #[.int .i64 n_.events, .slice an_ n_.links.length cn_]]) Try.func19 rfl Try.ntmps19 rfl hs ?_
  refine .seq ?_
  refine .region ?_
  refine bx (vs := [.int .i64 n_.events, .slice an_ n_.links.length cn_]) rfl rfl rfl (fun pn => ?_)
  refine .v (asg rfl) rfl rfl rfl ?_
  refine .v (asg rfl) rfl rfl rfl ?_
  refine al tZ27 rfl (fun pv => ?_)
  refine .nil ?_
  refine .seqN ?_
  refine .seq ?_
  refine .region ?_
  refine .v (ldA (cs := [.int .i64 n_.events, .slice an_ n_.links.length cn_]) rfl tA24 rfl (cellsB (off := 0) (k := 1) rfl (m := 2) rfl)) rfl rfl rfl ?_
  obtain ⟨r2, q3⟩ : ∃ y_ : List (List Int) × Bool × Fault, y_ = sp_minimal n_ := ⟨_, rfl⟩
  replace hF := hF r2 q3
  refine clR (α := Option Addr × Nat) (Φ := fun h1 z => RSl h1 z.1 r2.1 ∧ r2.1.length ≤ z.2) (V := fun z => .tuple #[.slice z.1 r2.1.length z.2, .bool r2.2.1, .agg #[.int .i64 r2.2.2.code, .int .i64 r2.2.2.index]]) Try.call15 rfl rfl (fun w S => (by rw [q3]; exact c_minimal S.sub n_ an_ cn_ _q1 _q2 )) rfl (fun z h1 le1 hz => ?_)
  obtain ⟨a, c⟩ := z
  obtain ⟨q4, q5⟩ := hz
  refine .v (mv rfl) rfl rfl rfl ?_
  refine .v (ext rfl rfl) rfl rfl rfl ?_
  refine .v (ext rfl rfl) rfl rfl rfl ?_
  refine .v (ext rfl rfl) rfl rfl rfl ?_
  refine al tZ27 rfl (fun pf => ?_)
  refine .v (asg rfl) rfl rfl rfl ?_
  refine .v (asg rfl) rfl rfl rfl ?_
  refine st (p := pf) (off := 0) (k := 0) (vs := [.int .i64 r2.2.2.code, .int .i64 r2.2.2.index]) rfl rfl rfl (fun w => (tA27 w).2) rfl rfl rfl rfl ?_
  refine .cast (A' := [Box pf [.int .i64 r2.2.2.code, .int .i64 r2.2.2.index], Box pv [.int .i64 0, .int .i64 0], Box pn [.int .i64 n_.events, .slice an_ n_.links.length cn_]]) rfl ?_
  refine .nil ?_
  refine .seqN ?_
  refine .seq ?_
  refine .seq ?_
  refine .region ?_
  refine .v (mv rfl) rfl rfl rfl ?_
  refine .v (nt rfl) rfl rfl rfl ?_
  refine .nil ?_
  refine .seqN ?_
  refine .cond rfl (fun q6 => ?_) (fun q6 => ?_)
  · replace hF := hF.1 q6
    refine .seq ?_
    refine .openL (by kernel_rfl) rfl (by kernel_rfl) (by kernel_rfl) ?_
    refine .v (ldA (cs := [.int .i64 r2.2.2.code, .int .i64 r2.2.2.index]) rfl tA27 rfl (cellsB (off := 0) (k := 0) rfl (m := 2) rfl)) rfl rfl rfl ?_
    refine .v (asg rfl) rfl rfl rfl ?_
    refine .v (asg rfl) rfl rfl rfl ?_
    refine .tail ?_
    refine st (p := pv) (off := 0) (k := 1) (vs := [.int .i64 r2.2.2.code, .int .i64 r2.2.2.index]) rfl rfl rfl (fun w => (tA27 w).2) rfl rfl rfl rfl ?_
    refine .cast (A' := [Box pf [.int .i64 r2.2.2.code, .int .i64 r2.2.2.index], Box pv [.int .i64 r2.2.2.code, .int .i64 r2.2.2.index], Box pn [.int .i64 n_.events, .slice an_ n_.links.length cn_]]) rfl ?_
    refine .nil ?_
    refine .seqN ?_
    refine .ret ?_
    refine .seqR ?_
    refine .res3 rfl (rvT rfl) (rvT rfl) (rvC rfl tA27 (k := 1) rfl rfl) (fun w' S => ⟨(([] : List Int), false, r2.2.2), (none, 0), h1, hF, rfl, (le1), ⟨RSl.nil_, (Nat.le_refl 0)⟩, S.none⟩)
  replace hF := hF.2 q6
  refine .skip ?_
  refine .seqN ?_
  refine .seq ?_
  refine .region ?_
  refine .v (asg rfl) rfl rfl rfl ?_
  refine .nil ?_
  refine .seqN ?_
  refine .seq ?_
  refine .seq ?_
  refine .region ?_
  refine .v (mv rfl) rfl rfl rfl ?_
  refine .v (ln rfl tS25.is) rfl rfl rfl ?_
  refine .v (mv rfl) rfl rfl rfl ?_
  refine .nil ?_
  refine .seqN ?_
  refine .block ?_
  refine .nilSl 3 1 ?_
  refine .cast (A' := [OwnSl 3 1 none (([] : List Int).length) 0 (flL ([] : List Int)), Box pf [.int .i64 r2.2.2.code, .int .i64 r2.2.2.index], Box pv [.int .i64 0, .int .i64 0], Box pn [.int .i64 n_.events, .slice an_ n_.links.length cn_]]) rfl ?_
  refine .sel0 [2, 1, 0] (by decide) rfl ?_
  obtain ⟨I1, μ1, q43, q44⟩ := hF
  refine .loop' (σ := Int × List Int × Option Addr × Nat) (fun z => I1 z.1 z.2.1) (fun z => μ1 z.1 z.2.1) (fun z => [(4, .pointer (some pv)), (5, .slice a r2.1.length c), (7, .pointer (some pf)), (8, .slice z.2.2.1 z.2.1.length z.2.2.2), (20, .int .i64 ((r2.1.length : Nat) : Int)), (21, .int .i64 z.1)]) (fun z => [Box pv [.int .i64 0, .int .i64 0], Box pf [.int .i64 r2.2.2.code, .int .i64 r2.2.2.index], OwnSl 3 1 z.2.2.1 z.2.1.length z.2.2.2 (flL z.2.1)]) (fun _ => h1) (0, ([] : List Int), none, 0) q43 (.cons rfl (.cons rfl (.cons rfl (.cons rfl (.cons rfl (.cons rfl (.nil))))))) rfl (FH.le_refl _) ?_
  rintro ⟨t21, out, aout, cout⟩ q43
  have hF := q44 t21 out q43
  show J _ _ _ _ _ [(4, .pointer (some pv)), (5, .slice a r2.1.length c), (7, .pointer (some pf)), (8, .slice aout out.length cout), (20, .int .i64 ((r2.1.length : Nat) : Int)), (21, .int .i64 t21)] [Box pv [.int .i64 0, .int .i64 0], Box pf [.int .i64 r2.2.2.code, .int .i64 r2.2.2.index], OwnSl 3 1 aout out.length cout (flL out)] h1
  refine .seq ?_
  refine .region ?_
  refine .v (bi rfl rfl rfl) rfl rfl rfl ?_
  refine .nil ?_
  refine .seqN ?_
  refine .seq ?_
  refine .cond rfl (fun q46 => ?_) (fun q46 => ?_)
  · replace hF := hF.1 q46
    refine .skip ?_
    refine .seqN ?_
    refine .seq ?_
    refine .block ?_
    refine .seq ?_
    refine .region ?_
    refine .v (mv rfl) rfl rfl rfl ?_
    refine .v (asg rfl) rfl rfl rfl ?_
    refine .nil ?_
    refine .seqN ?_
    refine .region ?_
    refine .v (mv rfl) rfl rfl rfl ?_
    refine .v (mv rfl) rfl rfl rfl ?_
    refine .v (mv rfl) rfl rfl rfl ?_
    obtain ⟨q55, hF⟩ := hF
    refine .v (ix rfl rfl tS25 (q4.ne (by decide) (inb_pos q55)) q55) rfl rfl rfl ?_
    obtain ⟨_, ⟨a2, c2, rfl, q56, q57⟩, q58⟩ := q4.elem q55
    refine .v (ld1 (v := .slice a2 ((gt r2.1 t21).length) c2) rfl tO32 (cellH (q58 (by decide) 0 _ rfl))) rfl rfl rfl ?_
    obtain ⟨q59, hF⟩ := hF
    refine .v (ix rfl rfl tS32 (q57.ne (by decide) (inb_pos q59)) q59) rfl rfl rfl ?_
    refine .v (ld1 (v := .int .i64 (gt (gt r2.1 t21) (0 : Int))) rfl tO3 (cellH (q57.elemF q59 (by decide) 0 _ rfl))) rfl rfl rfl ?_
    refine .v (un rfl) rfl rfl rfl ?_
    refine bs2 (cs := #[.int .i64 (IntKind.i64.wrap (0 - (gt (gt r2.1 t21) (0 : Int))))]) (pv := [(0, .int .i64 (IntKind.i64.wrap (0 - (gt (gt r2.1 t21) (0 : Int)))))]) tS32 rfl rfl (by decide) (by decide) rfl rfl rfl (fun a3 _ => ?_)
    refine .cast (A' := [OwnSl 3 1 a3 (([IntKind.i64.wrap (0 - (gt (gt r2.1 t21) (0 : Int)))] : List Int).length) 1 (flL ([IntKind.i64.wrap (0 - (gt (gt r2.1 t21) (0 : Int)))] : List Int)), Box pv [.int .i64 0, .int .i64 0], Box pf [.int .i64 r2.2.2.code, .int .i64 r2.2.2.index], OwnSl 3 1 aout out.length cout (flL out)]) rfl ?_
    obtain ⟨q61, hF⟩ := hF
    have q62 : out.length + ([IntKind.i64.wrap (0 - (gt (gt r2.1 t21) (0 : Int)))] : List Int).length = ((out ++ ([IntKind.i64.wrap (0 - (gt (gt r2.1 t21) (0 : Int)))] : List Int))).length := len_app rfl rfl
    refine app (k := 3) (news := flL ([IntKind.i64.wrap (0 - (gt (gt r2.1 t21) (0 : Int)))] : List Int)) (cs' := flL (out ++ ([IntKind.i64.wrap (0 - (gt (gt r2.1 t21) (0 : Int)))] : List Int))) (nm := ((out ++ ([IntKind.i64.wrap (0 - (gt (gt r2.1 t21) (0 : Int)))] : List Int))).length) tS32 rfl (by decide) rfl rfl rfl (by rw [flL_len]; rfl) (srcS (k := 0) rfl) (flL_one _) (room_of q62 q61).1 (room_of q62 q61).2 q62 (flL_append _ _).symm rfl (fun a4 c3 => ?_)
    refine .cast (A' := [OwnSl 3 1 a3 (([IntKind.i64.wrap (0 - (gt (gt r2.1 t21) (0 : Int)))] : List Int).length) 1 (flL ([IntKind.i64.wrap (0 - (gt (gt r2.1 t21) (0 : Int)))] : List Int)), Box pv [.int .i64 0, .int .i64 0], Box pf [.int .i64 r2.2.2.code, .int .i64 r2.2.2.index], OwnSl 3 1 a4 ((out ++ ([IntKind.i64.wrap (0 - (gt (gt r2.1 t21) (0 : Int)))] : List Int)).length) c3 (flL (out ++ ([IntKind.i64.wrap (0 - (gt (gt r2.1 t21) (0 : Int)))] : List Int)))]) rfl ?_
    refine .v (asg rfl) rfl rfl rfl ?_
    refine .nil ?_
    refine .blkN ?_
    refine .seqN ?_
    refine .region ?_
    refine .v (bi rfl rfl rfl) rfl rfl rfl ?_
    refine .v (mv rfl) rfl rfl rfl ?_
    refine .nil ?_
    refine .sel0 [1, 2, 3] (by decide) rfl ?_
    exact .round (IntKind.i64.wrap (t21 + 1), (out ++ ([IntKind.i64.wrap (0 - (gt (gt r2.1 t21) (0 : Int)))] : List Int)), a4, c3) hF.1 hF.2 (.cons rfl (.cons rfl (.cons rfl (.cons rfl (.cons rfl (.cons rfl (.nil))))))) rfl (FH.le_refl _)
  replace hF := hF.2 q46
  refine .exit ?_
  refine .seqX ?_
  refine .seqX ?_
  refine .blkX ?_
  refine .seqN ?_
  refine .seq ?_
  refine .openL (by kernel_rfl) rfl (by kernel_rfl) (by kernel_rfl) ?_
  refine .v (mv rfl) rfl rfl rfl ?_
  refine .v (ldA (cs := [.int .i64 r2.2.2.code, .int .i64 r2.2.2.index]) rfl tA27 rfl (cellsB (off := 0) (k := 1) rfl (m := 2) rfl)) rfl rfl rfl ?_
  refine .v (asg rfl) rfl rfl rfl ?_
  refine .v (asg rfl) rfl rfl rfl ?_
  refine .tail ?_
  refine st (p := pv) (off := 0) (k := 0) (vs := [.int .i64 r2.2.2.code, .int .i64 r2.2.2.index]) rfl rfl rfl (fun w => (tA27 w).2) rfl rfl rfl rfl ?_
  refine .cast (A' := [Box pv [.int .i64 r2.2.2.code, .int .i64 r2.2.2.index], Box pf [.int .i64 r2.2.2.code, .int .i64 r2.2.2.index], OwnSl 3 1 aout out.length cout (flL out)]) rfl ?_
  refine .nil ?_
  refine .seqN ?_
  refine .freezeL (k := 2) rfl (fun h2 le2 q64 q63 => ?_)
  refine .cast (A' := [Box pv [.int .i64 r2.2.2.code, .int .i64 r2.2.2.index], Box pf [.int .i64 r2.2.2.code, .int .i64 r2.2.2.index], tru]) rfl ?_
  refine .ret ?_
  refine .res3 rfl (rvT rfl) (rvT rfl) (rvC rfl tA27 (k := 0) rfl rfl) (fun w' S => ⟨(out, true, r2.2.2), (aout, cout), h2, hF, rfl, (FH.le_trans (le1) (le2)), ⟨(RSl.of q63), (q64)⟩, S.none⟩)

theorem c_earliest {h : FH} {w : World} (hs : Sub h w) (n_ : Network) (an_ : Option Addr) (cn_ : Nat) (_q1 : RSl h an_ n_.links) (_q2 : n_.links.length ≤ cn_) : Calls Try.prog 19 #[.agg #[.int .i64 n_.events, .slice an_ n_.links.length cn_]] w fun e w' => ∃ (z : Option Addr × Nat) (h1 : FH), e = .returned (.tuple #[.slice z.1 (sp_earliest n_).1.length z.2, .bool (sp_earliest n_).2.1, .agg #[.int .i64 (sp_earliest n_).2.2.code, .int .i64 (sp_earliest n_).2.2.index]]) ∧ FH.le h h1 ∧ (RSl h1 z.1 (sp_earliest n_).1 ∧ (sp_earliest n_).1.length ≤ z.2) ∧ SH (Kp.all w h) h1 w' [] :=
  (w_earliest hs n_ an_ cn_ _q1 _q2 (fun r => r = sp_earliest n_) (ok_earliest n_)).mono fun _ _ ⟨r, z, h1, hk, he, hl, hf, hS⟩ => by subst hk; exact ⟨z, h1, he, hl, hf, hS⟩

set_option maxHeartbeats 8000000 in
theorem w_negative {h : FH} {w : World} (hs : Sub h w) (n_ : Network) (an_ : Option Addr) (cn_ : Nat) (_q1 : RSl h an_ n_.links) (_q2 : n_.links.length ≤ cn_) (cycle : List Int) (acycle : Option Addr) (ccycle : Nat) (_q3 : RSl h acycle cycle) (_q4 : cycle.length ≤ ccycle) (K : (Bool × Fault) → Prop) (hF : F_negative n_ cycle K) : Calls Try.prog 21 #[.agg #[.int .i64 n_.events, .slice an_ n_.links.length cn_], .slice acycle cycle.length ccycle] w fun e w' => ∃ r : Bool × Fault, K r ∧ e = .returned (.tuple #[.bool r.1, .agg #[.int .i64 r.2.code, .int .i64 r.2.index]]) ∧ Below w.heap.size w w' := by
  refine enter (args := [.agg #[.int .i64 n_.events, .slice an_ n_.links.length cn_], .slice acycle cycle.length ccycle]) Try.func21 rfl Try.ntmps21 rfl hs ?_
  refine .seq ?_
  refine .region ?_
  refine bx (vs := [.int .i64 n_.events, .slice an_ n_.links.length cn_]) rfl rfl rfl (fun pn => ?_)
  refine .v (asg rfl) rfl rfl rfl ?_
  refine al tZ27 rfl (fun pv => ?_)
  refine .nil ?_
  refine .seqN ?_
  refine .seq ?_
  refine .seq ?_
  refine .region ?_
  refine .v (ldA (cs := [.int .i64 n_.events, .slice an_ n_.links.length cn_]) rfl tA24 rfl (cellsB (off := 0) (k := 1) rfl (m := 2) rfl)) rfl rfl rfl ?_
  obtain ⟨r2, q5⟩ : ∃ y_ : Fault, y_ = sp_validate n_ := ⟨_, rfl⟩
  replace hF := hF r2 q5
  refine .c (cl (v := .agg #[.int .i64 r2.code, .int .i64 r2.index]) Try.call22 rfl rfl (fun w S => (by rw [q5]; exact c_validate S.sub n_ an_ cn_ _q1 _q2 ))) rfl rfl rfl ?_
  refine al tZ27 rfl (fun pf => ?_)
  refine st (p := pf) (off := 0) (k := 0) (vs := [.int .i64 r2.code, .int .i64 r2.index]) rfl rfl rfl (fun w => (tA27 w).2) rfl rfl rfl rfl ?_
  refine .cast (A' := [Box pf [.int .i64 r2.code, .int .i64 r2.index], Box pv [.int .i64 0, .int .i64 0], Box pn [.int .i64 n_.events, .slice an_ n_.links.length cn_]]) rfl ?_
  refine .nil ?_
  refine .seqN ?_
  refine .seq ?_
  refine .region ?_
  refine .v (ldA (cs := [.int .i64 r2.code, .int .i64 r2.index]) rfl tA27 rfl (cellsB (off := 0) (k := 0) rfl (m := 2) rfl)) rfl rfl rfl ?_
  refine .v (bld (cs := #[.int .i64 0, .int .i64 0]) (pv := []) tB27 rfl rfl) rfl rfl rfl ?_
  refine .v (ne2 tE27 rfl rfl) rfl rfl rfl ?_
  refine .nil ?_
  refine .seqN ?_
  refine .cond rfl (fun q7 => ?_) (fun q7 => ?_)
  · replace hF := hF.1 q7
    refine .seq ?_
    refine .openL (by kernel_rfl) rfl (by kernel_rfl) (by kernel_rfl) ?_
    refine .v (ldA (cs := [.int .i64 r2.code, .int .i64 r2.index]) rfl tA27 rfl (cellsB (off := 0) (k := 0) rfl (m := 2) rfl)) rfl rfl rfl ?_
    refine .v (asg rfl) rfl rfl rfl ?_
    refine .tail ?_
    refine st (p := pv) (off := 0) (k := 1) (vs := [.int .i64 r2.code, .int .i64 r2.index]) rfl rfl rfl (fun w => (tA27 w).2) rfl rfl rfl rfl ?_
    refine .cast (A' := [Box pf [.int .i64 r2.code, .int .i64 r2.index], Box pv [.int .i64 r2.code, .int .i64 r2.index], Box pn [.int .i64 n_.events, .slice an_ n_.links.length cn_]]) rfl ?_
    refine .nil ?_
    refine .seqN ?_
    refine .ret ?_
    refine .seqR ?_
    refine .res2 rfl (rvT rfl) (rvC rfl tA27 (k := 1) rfl rfl) (fun w' S => ⟨(false, r2), hF, rfl, S.below⟩)
  replace hF := hF.2 q7
  refine .skip ?_
  refine .seqN ?_
  refine .seq ?_
  refine .share (σ := Bool) (fun z => F_negative_J1 n_ cycle K z) (fun z => [(1, .slice acycle cycle.length ccycle), (2, .pointer (some pn)), (5, .pointer (some pv)), (27, .bool z)]) (fun _ => [Box pn [.int .i64 n_.events, .slice an_ n_.links.length cn_], Box pv [.int .i64 0, .int .i64 0]]) (fun _ => h) ?_ (fun q9 => ?_)
  · rintro t27 hF
    show J _ _ _ _ _ [(1, .slice acycle cycle.length ccycle), (2, .pointer (some pn)), (5, .pointer (some pv)), (27, .bool t27)] [Box pn [.int .i64 n_.events, .slice an_ n_.links.length cn_], Box pv [.int .i64 0, .int .i64 0]] h
    refine .cond rfl (fun q11 => ?_) (fun q11 => ?_)
    · replace hF := hF.1 q11
      refine .seq ?_
      refine .region ?_
      refine .v (bld (cs := #[.int .i64 9, .int .i64 (-2)]) (pv := [(0, .int .i64 9), (1, .int .i64 (-2))]) tB27 rfl rfl) rfl rfl rfl ?_
      refine .v (asg rfl) rfl rfl rfl ?_
      refine st (p := pv) (off := 0) (k := 1) (vs := [.int .i64 9, .int .i64 (-2)]) rfl rfl rfl (fun w => (tA27 w).2) rfl rfl rfl rfl ?_
      refine .cast (A' := [Box pn [.int .i64 n_.events, .slice an_ n_.links.length cn_], Box pv [.int .i64 9, .int .i64 (-2)]]) rfl ?_
      refine .nil ?_
      refine .seqN ?_
      refine .ret ?_
      refine .seqR ?_
      refine .res2 rfl (rvT rfl) (rvC rfl tA27 (k := 1) rfl rfl) (fun w' S => ⟨(false, (⟨9, (-2)⟩ : Fault)), hF, rfl, S.below⟩)
    replace hF := hF.2 q11
    refine .skip ?_
    refine .seqN ?_
    refine .seq ?_
    refine .seq ?_
    refine .region ?_
    refine .v (mv rfl) rfl rfl rfl ?_
    refine .v (ln rfl tS32.is) rfl rfl rfl ?_
    refine .v (mv rfl) rfl rfl rfl ?_
    refine .nil ?_
    refine .seqN ?_
    refine .block ?_
    obtain ⟨I1, μ1, q104, q105⟩ := hF
    refine .loop' (σ := Int) (fun z => I1 z) (fun z => μ1 z) (fun z => [(1, .slice acycle cycle.length ccycle), (2, .pointer (some pn)), (5, .pointer (some pv)), (29, .slice acycle cycle.length ccycle), (30, .int .i64 ((cycle.length : Nat) : Int)), (31, .int .i64 z)]) (fun _ => [Box pn [.int .i64 n_.events, .slice an_ n_.links.length cn_], Box pv [.int .i64 0, .int .i64 0]]) (fun _ => h) 0 q104 (.cons rfl (.cons rfl (.cons rfl (.cons rfl (.cons rfl (.cons rfl (.nil))))))) rfl (FH.le_refl _) ?_
    rintro t31 q104
    have hF := q105 t31 q104
    show J _ _ _ _ _ [(1, .slice acycle cycle.length ccycle), (2, .pointer (some pn)), (5, .pointer (some pv)), (29, .slice acycle cycle.length ccycle), (30, .int .i64 ((cycle.length : Nat) : Int)), (31, .int .i64 t31)] [Box pn [.int .i64 n_.events, .slice an_ n_.links.length cn_], Box pv [.int .i64 0, .int .i64 0]] h
    refine .seq ?_
    refine .region ?_
    refine .v (bi rfl rfl rfl) rfl rfl rfl ?_
    refine .nil ?_
    refine .seqN ?_
    refine .seq ?_
    refine .cond rfl (fun q108 => ?_) (fun q108 => ?_)
    · replace hF := hF.1 q108
      refine .skip ?_
      refine .seqN ?_
      refine .seq ?_
      refine .block ?_
      refine .seq ?_
      refine .region ?_
      refine .v (mv rfl) rfl rfl rfl ?_
      obtain ⟨q119, hF⟩ := hF
      refine .v (ix rfl rfl tS32 (_q3.ne (by decide) (inb_pos q119)) q119) rfl rfl rfl ?_
      refine .v (ld1 (v := .int .i64 (gt cycle t31)) rfl tO3 (cellH (_q3.elemF q119 (by decide) 0 _ rfl))) rfl rfl rfl ?_
      refine .v (asg rfl) rfl rfl rfl ?_
      refine .v (asg rfl) rfl rfl rfl ?_
      refine .nil ?_
      refine .seqN ?_
      refine .share (σ := Bool) (fun z => F_negative_J2 K z t31 I1 μ1) (fun z => [(1, .slice acycle cycle.length ccycle), (2, .pointer (some pn)), (5, .pointer (some pv)), (7, .int .i64 t31), (29, .slice acycle cycle.length ccycle), (30, .int .i64 ((cycle.length : Nat) : Int)), (31, .int .i64 t31), (43, .bool z)]) (fun _ => [Box pn [.int .i64 n_.events, .slice an_ n_.links.length cn_], Box pv [.int .i64 0, .int .i64 0]]) (fun _ => h) ?_ (fun q121 => ?_)
      · rintro t43 hF
        show J _ _ _ _ _ [(1, .slice acycle cycle.length ccycle), (2, .pointer (some pn)), (5, .pointer (some pv)), (7, .int .i64 t31), (29, .slice acycle cycle.length ccycle), (30, .int .i64 ((cycle.length : Nat) : Int)), (31, .int .i64 t31), (43, .bool t43)] [Box pn [.int .i64 n_.events, .slice an_ n_.links.length cn_], Box pv [.int .i64 0, .int .i64 0]] h
        refine .cond rfl (fun q122 => ?_) (fun q122 => ?_)
        · replace hF := hF.1 q122
          refine .seq ?_
          refine .region ?_
          refine .v (mv rfl) rfl rfl rfl ?_
          refine .v (bi rfl rfl rfl) rfl rfl rfl ?_
          refine .v (bld (cs := #[.int .i64 3, .int .i64 (IntKind.i64.wrap ((-3) - t31))]) (pv := [(0, .int .i64 3), (1, .int .i64 (IntKind.i64.wrap ((-3) - t31)))]) tB27 rfl rfl) rfl rfl rfl ?_
          refine .v (asg rfl) rfl rfl rfl ?_
          refine st (p := pv) (off := 0) (k := 1) (vs := [.int .i64 3, .int .i64 (IntKind.i64.wrap ((-3) - t31))]) rfl rfl rfl (fun w => (tA27 w).2) rfl rfl rfl rfl ?_
          refine .cast (A' := [Box pn [.int .i64 n_.events, .slice an_ n_.links.length cn_], Box pv [.int .i64 3, .int .i64 (IntKind.i64.wrap ((-3) - t31))]]) rfl ?_
          refine .nil ?_
          refine .seqN ?_
          refine .ret ?_
          refine .blkR ?_
          refine .seqR ?_
          refine .seqR ?_
          refine .blkR ?_
          refine .seqR ?_
          refine .res2 rfl (rvT rfl) (rvC rfl tA27 (k := 1) rfl rfl) (fun w' S => ⟨(false, (⟨3, IntKind.i64.wrap ((-3) - t31)⟩ : Fault)), hF, rfl, S.below⟩)
        replace hF := hF.2 q122
        refine .skip ?_
        refine .blkN ?_
        refine .seqN ?_
        refine .region ?_
        refine .v (bi rfl rfl rfl) rfl rfl rfl ?_
        refine .v (mv rfl) rfl rfl rfl ?_
        refine .nil ?_
        exact .round (IntKind.i64.wrap (t31 + 1)) hF.1 hF.2 (.cons rfl (.cons rfl (.cons rfl (.cons rfl (.cons rfl (.cons rfl (.nil))))))) rfl (FH.le_refl _)
      refine .region ?_
      refine .v (mv rfl) rfl rfl rfl ?_
      refine .v (bi rfl rfl rfl) rfl rfl rfl ?_
      refine .v (mv rfl) rfl rfl rfl ?_
      rcases Bool.eq_false_or_eq_true (decide ((gt cycle t31) < 0)) with q123 | q123
      · replace hF := hF.1 q123
        refine .gS rfl rfl rfl q123 rfl rfl ?_
        refine .gS rfl rfl rfl q123 rfl rfl ?_
        refine .gS rfl rfl rfl q123 rfl rfl ?_
        refine .gS rfl rfl rfl q123 rfl rfl ?_
        refine .v (pkT rfl q123 rfl) rfl rfl rfl ?_
        refine .nil ?_
        exact .use q121 true hF (.cons rfl (.cons rfl (.cons rfl (.cons rfl (.cons rfl (.cons rfl (.cons rfl (.cons rfl (.nil))))))))) rfl (FH.le_refl _)
      replace hF := hF.2 q123
      refine .gv (mv rfl) rfl rfl rfl q123 rfl rfl ?_
      refine .gv (fa rfl tF24_0) rfl rfl rfl q123 rfl rfl ?_
      refine .gv (ld1 rfl tO3 (cellB (off := 0) (k := 0) rfl rfl)) rfl rfl rfl q123 rfl rfl ?_
      refine .gv (bi rfl rfl rfl) rfl rfl rfl q123 rfl rfl ?_
      refine .v (pkF rfl q123 rfl) rfl rfl rfl ?_
      refine .nil ?_
      exact .use q121 (decide (n_.events ≤ (gt cycle t31))) hF (.cons rfl (.cons rfl (.cons rfl (.cons rfl (.cons rfl (.cons rfl (.cons rfl (.cons rfl (.nil))))))))) rfl (FH.le_refl _)
    replace hF := hF.2 q108
    refine .exit ?_
    refine .seqX ?_
    refine .seqX ?_
    refine .blkX ?_
    refine .seqN ?_
    refine .seq ?_
    refine .region ?_
    refine .v (ldA (cs := [.int .i64 n_.events, .slice an_ n_.links.length cn_]) rfl tA24 rfl (cellsB (off := 0) (k := 0) rfl (m := 2) rfl)) rfl rfl rfl ?_
    obtain ⟨q124, hF⟩ := hF
    obtain ⟨r3, q125⟩ : ∃ y_ : List (List Int), y_ = sp_bounds n_ := ⟨_, rfl⟩
    replace hF := hF r3 q125
    refine clO (α := Option Addr × Nat × List RowV) (V := fun z => .slice z.1 r3.length z.2.1) (Ψ := fun z => z.2.2.length = r3.length) (B := fun z => OwnSl 32 1 z.1 r3.length z.2.1 (rowsV z.2.2 r3) :: rowsA 3 z.2.2 r3) Try.call49 rfl rfl (fun w S => (by rw [q125]; exact c_bounds S.sub n_ an_ cn_ _q1 _q2 q124)) rfl (fun z q126 => ?_)
    obtain ⟨a, c, vs⟩ := z
    refine .perm ?_
    refine .cast (A' := ([Box pn [.int .i64 n_.events, .slice an_ n_.links.length cn_], Box pv [.int .i64 0, .int .i64 0], OwnSl 32 1 a r3.length c (rowsV vs r3)] ++ rowsA 3 vs r3)) rfl ?_
    refine .v (asg rfl) rfl rfl rfl ?_
    refine .nil ?_
    refine .seqN ?_
    refine .seq ?_
    refine .region ?_
    refine .v (asg rfl) rfl rfl rfl ?_
    refine .nil ?_
    refine .seqN ?_
    refine .seq ?_
    refine .seq ?_
    refine .region ?_
    refine .v (mv rfl) rfl rfl rfl ?_
    refine .v (ln rfl tS32.is) rfl rfl rfl ?_
    refine .v (mv rfl) rfl rfl rfl ?_
    refine .nil ?_
    refine .seqN ?_
    refine .block ?_
    refine .sel (L := [Box pn [.int .i64 n_.events, .slice an_ n_.links.length cn_], Box pv [.int .i64 0, .int .i64 0], OwnSl 32 1 a r3.length c (rowsV vs r3)]) (L' := [Box pv [.int .i64 0, .int .i64 0], OwnSl 32 1 a r3.length c (rowsV vs r3)]) [1, 2] rfl (by decide) rfl rfl ?_
    obtain ⟨I2, μ2, q279, q280⟩ := hF
    refine .loop' (σ := Int × Int) (fun z => I2 z.1 z.2) (fun z => μ2 z.1 z.2) (fun z => [(1, .slice acycle cycle.length ccycle), (5, .pointer (some pv)), (9, .slice a r3.length c), (10, .int .i64 z.1), (50, .slice acycle cycle.length ccycle), (51, .int .i64 ((cycle.length : Nat) : Int)), (52, .int .i64 z.2)]) (fun _ => ([Box pv [.int .i64 0, .int .i64 0], OwnSl 32 1 a r3.length c (rowsV vs r3)] ++ rowsA 3 vs r3)) (fun _ => h) (0, 0) q279 (.cons rfl (.cons rfl (.cons rfl (.cons rfl (.cons rfl (.cons rfl (.cons rfl (.nil)))))))) rfl (FH.le_refl _) ?_
    rintro ⟨sum, t52⟩ q279
    have hF := q280 sum t52 q279
    show J _ _ _ _ _ [(1, .slice acycle cycle.length ccycle), (5, .pointer (some pv)), (9, .slice a r3.length c), (10, .int .i64 sum), (50, .slice acycle cycle.length ccycle), (51, .int .i64 ((cycle.length : Nat) : Int)), (52, .int .i64 t52)] ([Box pv [.int .i64 0, .int .i64 0], OwnSl 32 1 a r3.length c (rowsV vs r3)] ++ rowsA 3 vs r3) h
    refine .seq ?_
    refine .region ?_
    refine .v (bi rfl rfl rfl) rfl rfl rfl ?_
    refine .nil ?_
    refine .seqN ?_
    refine .seq ?_
    refine .cond rfl (fun q283 => ?_) (fun q283 => ?_)
    · replace hF := hF.1 q283
      refine .skip ?_
      refine .seqN ?_
      refine .seq ?_
      refine .block ?_
      refine .seq ?_
      refine .region ?_
      refine .v (mv rfl) rfl rfl rfl ?_
      obtain ⟨q302, hF⟩ := hF
      refine .v (ix rfl rfl tS32 (_q3.ne (by decide) (inb_pos q302)) q302) rfl rfl rfl ?_
      refine .v (ld1 (v := .int .i64 (gt cycle t52)) rfl tO3 (cellH (_q3.elemF q302 (by decide) 0 _ rfl))) rfl rfl rfl ?_
      refine .v (asg rfl) rfl rfl rfl ?_
      refine .v (asg rfl) rfl rfl rfl ?_
      refine .nil ?_
      refine .seqN ?_
      refine .seq ?_
      refine .open_ (by kernel_rfl) (by kernel_rfl) ?_
      refine .v (mv rfl) rfl rfl rfl ?_
      refine .v (mv rfl) rfl rfl rfl ?_
      obtain ⟨q303, hF⟩ := hF
      refine .v (ixS rfl rfl tS25 (k := 1) rfl q303) rfl rfl rfl ?_
      refine .v (ld1 (v := .slice ((gt vs (gt cycle t52)).1) ((gt r3 (gt cycle t52)).length) ((gt vs (gt cycle t52)).2)) rfl tO32 (cell1 (k := 1) rfl (rowsV_get (gt_get (inb_of q126 q303)) (gt_get q303)))) rfl rfl rfl ?_
      refine .v (mv rfl) rfl rfl rfl ?_
      refine .v (mv rfl) rfl rfl rfl ?_
      refine .v (bi rfl rfl rfl) rfl rfl rfl ?_
      refine .v (mv rfl) rfl rfl rfl ?_
      refine .v (ln rfl tS32.is) rfl rfl rfl ?_
      obtain ⟨q304, hF⟩ := hF
      obtain ⟨x, q305⟩ : ∃ y_ : Int, y_ = (Int.tmod (IntKind.i64.wrap (t52 + 1)) ((cycle.length : Nat) : Int)) := ⟨_, rfl⟩
      replace hF := hF x q305
      refine .v (v := .int .i64 x) (by rw [q305]; exact br rfl rfl q304) rfl rfl rfl ?_
      obtain ⟨q306, hF⟩ := hF
      refine .v (ix rfl rfl tS32 (_q3.ne (by decide) (inb_pos q306)) q306) rfl rfl rfl ?_
      refine .v (ld1 (v := .int .i64 (gt cycle x)) rfl tO3 (cellH (_q3.elemF q306 (by decide) 0 _ rfl))) rfl rfl rfl ?_
      obtain ⟨q307, hF⟩ := hF
      refine .v (ixS rfl rfl tS32 (k := ((gt cycle t52)).toNat + 2) (rowsA_get (gt_get (inb_of q126 q303)) (gt_get q303)) q307) rfl rfl rfl ?_
      refine .v (ld1 (v := .int .i64 (gt (gt r3 (gt cycle t52)) (gt cycle x))) rfl tO3 (cellS (k := ((gt cycle t52)).toNat + 2) (rowsA_get (gt_get (inb_of q126 q303)) (gt_get q303)) (flL_get q307 (j := 0) rfl))) rfl rfl rfl ?_
      refine .v (asg rfl) rfl rfl rfl ?_
      refine .fin ?_
      refine .seqN ?_
      refine .seq ?_
      refine .seq ?_
      refine .region ?_
      refine .v (mv rfl) rfl rfl rfl ?_
      refine .v (bi rfl rfl rfl) rfl rfl rfl ?_
      refine .nil ?_
      refine .seqN ?_
      refine .cond rfl (fun q309 => ?_) (fun q309 => ?_)
      · replace hF := hF.1 q309
        refine .seq ?_
        refine .region ?_
        refine .v (bld (cs := #[.int .i64 0, .int .i64 0]) (pv := []) tB27 rfl rfl) rfl rfl rfl ?_
        refine .v (asg rfl) rfl rfl rfl ?_
        refine st (p := pv) (off := 0) (k := 0) (vs := [.int .i64 0, .int .i64 0]) rfl rfl rfl (fun w => (tA27 w).2) rfl rfl rfl rfl ?_
        refine .cast (A' := ([Box pv [.int .i64 0, .int .i64 0], OwnSl 32 1 a r3.length c (rowsV vs r3)] ++ rowsA 3 vs r3)) rfl ?_
        refine .nil ?_
        refine .seqN ?_
        refine .ret ?_
        refine .seqR ?_
        refine .blkR ?_
        refine .seqR ?_
        refine .seqR ?_
        refine .blkR ?_
        refine .seqR ?_
        refine .res2 rfl (rvT rfl) (rvC rfl tA27 (k := 0) rfl rfl) (fun w' S => ⟨(false, (⟨0, 0⟩ : Fault)), hF, rfl, S.below⟩)
      replace hF := hF.2 q309
      refine .skip ?_
      refine .seqN ?_
      refine .region ?_
      refine .v (mv rfl) rfl rfl rfl ?_
      refine .v (mv rfl) rfl rfl rfl ?_
      obtain ⟨x2, q310⟩ : ∃ y_ : Int, y_ = (IntKind.i64.wrap (sum + (gt (gt r3 (gt cycle t52)) (gt cycle x)))) := ⟨_, rfl⟩
      replace hF := hF x2 q310
      refine .v (v := .int .i64 x2) (by rw [q310]; exact bi rfl rfl rfl) rfl rfl rfl ?_
      refine .v (asg rfl) rfl rfl rfl ?_
      refine .nil ?_
      refine .blkN ?_
      refine .seqN ?_
      refine .region ?_
      refine .v (bi rfl rfl rfl) rfl rfl rfl ?_
      refine .v (mv rfl) rfl rfl rfl ?_
      refine .nil ?_
      exact .round (x2, IntKind.i64.wrap (t52 + 1)) hF.1 hF.2 (.cons rfl (.cons rfl (.cons rfl (.cons rfl (.cons rfl (.cons rfl (.cons rfl (.nil)))))))) rfl (FH.le_refl _)
    replace hF := hF.2 q283
    refine .exit ?_
    refine .seqX ?_
    refine .seqX ?_
    refine .blkX ?_
    refine .seqN ?_
    refine .seq ?_
    refine .region ?_
    refine .v (mv rfl) rfl rfl rfl ?_
    refine .v (bi rfl rfl rfl) rfl rfl rfl ?_
    refine .v (bld (cs := #[.int .i64 0, .int .i64 0]) (pv := []) tB27 rfl rfl) rfl rfl rfl ?_
    refine .v (asg rfl) rfl rfl rfl ?_
    refine st (p := pv) (off := 0) (k := 0) (vs := [.int .i64 0, .int .i64 0]) rfl rfl rfl (fun w => (tA27 w).2) rfl rfl rfl rfl ?_
    refine .cast (A' := ([Box pv [.int .i64 0, .int .i64 0], OwnSl 32 1 a r3.length c (rowsV vs r3)] ++ rowsA 3 vs r3)) rfl ?_
    refine .nil ?_
    refine .seqN ?_
    refine .ret ?_
    refine .res2 rfl (rvT rfl) (rvC rfl tA27 (k := 0) rfl rfl) (fun w' S => ⟨(decide (sum < 0), (⟨0, 0⟩ : Fault)), hF, rfl, S.below⟩)
  refine .region ?_
  refine .v (mv rfl) rfl rfl rfl ?_
  refine .v (ln rfl tS32.is) rfl rfl rfl ?_
  refine .v (bi rfl rfl rfl) rfl rfl rfl ?_
  refine .v (mv rfl) rfl rfl rfl ?_
  rcases Bool.eq_false_or_eq_true (decide (((cycle.length : Nat) : Int) < 2)) with q311 | q311
  · replace hF := hF.1 q311
    refine .gS rfl rfl rfl q311 rfl rfl ?_
    refine .gS rfl rfl rfl q311 rfl rfl ?_
    refine .gS rfl rfl rfl q311 rfl rfl ?_
    refine .v (pkT rfl q311 rfl) rfl rfl rfl ?_
    refine .nil ?_
    refine .sel0 [2, 1] (by decide) rfl ?_
    exact .use q9 true hF (.cons rfl (.cons rfl (.cons rfl (.cons rfl (.nil))))) rfl (FH.le_refl _)
  replace hF := hF.2 q311
  refine .gv (mv rfl) rfl rfl rfl q311 rfl rfl ?_
  refine .gv (ln rfl tS32.is) rfl rfl rfl q311 rfl rfl ?_
  refine .gv (bi rfl rfl rfl) rfl rfl rfl q311 rfl rfl ?_
  refine .v (pkF rfl q311 rfl) rfl rfl rfl ?_
  refine .nil ?_
  refine .sel0 [2, 1] (by decide) rfl ?_
  exact .use q9 (decide (10 < ((cycle.length : Nat) : Int))) hF (.cons rfl (.cons rfl (.cons rfl (.cons rfl (.nil))))) rfl (FH.le_refl _)

theorem c_negative {h : FH} {w : World} (hs : Sub h w) (n_ : Network) (an_ : Option Addr) (cn_ : Nat) (_q1 : RSl h an_ n_.links) (_q2 : n_.links.length ≤ cn_) (cycle : List Int) (acycle : Option Addr) (ccycle : Nat) (_q3 : RSl h acycle cycle) (_q4 : cycle.length ≤ ccycle) : Calls Try.prog 21 #[.agg #[.int .i64 n_.events, .slice an_ n_.links.length cn_], .slice acycle cycle.length ccycle] w fun e w' => e = .returned (.tuple #[.bool (sp_negative n_ cycle).1, .agg #[.int .i64 (sp_negative n_ cycle).2.code, .int .i64 (sp_negative n_ cycle).2.index]]) ∧ Below w.heap.size w w' :=
  (w_negative hs n_ an_ cn_ _q1 _q2 cycle acycle ccycle _q3 _q4 (fun r => r = sp_negative n_ cycle) (ok_negative n_ cycle)).mono fun _ _ ⟨_, hk, he, hb⟩ => ⟨by rw [he, hk], hb⟩

theorem w_has {h : FH} {w : World} (hs : Sub h w) (l : List Int) (al2 : Option Addr) (cl2 : Nat) (_q1 : RSl h al2 l) (_q2 : l.length ≤ cl2) (n_ : Int) (K : Bool → Prop) (hF : F_has l n_ K) : Calls Try.prog 35 #[.slice al2 l.length cl2, .int .i64 n_] w fun e w' => ∃ r : Bool, K r ∧ e = .returned (.bool r) ∧ Below w.heap.size w w' := by
  refine enter (args := [.slice al2 l.length cl2, .int .i64 n_]) Try.func35 rfl Try.ntmps35 rfl hs ?_
  refine .seq ?_
  refine .region ?_
  refine .v (asg rfl) rfl rfl rfl ?_
  refine .nil ?_
  refine .seqN ?_
  refine .seq ?_
  refine .seq ?_
  refine .region ?_
  refine .v (asg rfl) rfl rfl rfl ?_
  refine .nil ?_
  refine .seqN ?_
  refine .block ?_
  obtain ⟨I1, μ1, q13, q14⟩ := hF
  refine .loop' (σ := Int) (fun z => I1 z) (fun z => μ1 z) (fun z => [(0, .slice al2 l.length cl2), (1, .int .i64 n_), (5, .int .i64 z)]) (fun _ => []) (fun _ => h) 0 q13 (.cons rfl (.cons rfl (.cons rfl (.nil)))) rfl (FH.le_refl _) ?_
  rintro i q13
  have hF := q14 i q13
  show J _ _ _ _ _ [(0, .slice al2 l.length cl2), (1, .int .i64 n_), (5, .int .i64 i)] [] h
  refine .seq ?_
  refine .seq ?_
  refine .region ?_
  refine .v (mv rfl) rfl rfl rfl ?_
  refine .v (mv rfl) rfl rfl rfl ?_
  refine .v (ln rfl tS32.is) rfl rfl rfl ?_
  refine .v (bi rfl rfl rfl) rfl rfl rfl ?_
  refine .nil ?_
  refine .seqN ?_
  refine .cond rfl (fun q15 => ?_) (fun q15 => ?_)
  · replace hF := hF.1 q15
    refine .skip ?_
    refine .seqN ?_
    refine .seq ?_
    refine .block ?_
    refine .seq ?_
    refine .region ?_
    refine .v (mv rfl) rfl rfl rfl ?_
    refine .v (mv rfl) rfl rfl rfl ?_
    obtain ⟨q18, hF⟩ := hF
    refine .v (ix rfl rfl tS32 (_q1.ne (by decide) (inb_pos q18)) q18) rfl rfl rfl ?_
    refine .v (ld1 (v := .int .i64 (gt l i)) rfl tO3 (cellH (_q1.elemF q18 (by decide) 0 _ rfl))) rfl rfl rfl ?_
    refine .v (mv rfl) rfl rfl rfl ?_
    refine .v (bi rfl rfl rfl) rfl rfl rfl ?_
    refine .nil ?_
    refine .seqN ?_
    refine .cond rfl (fun q19 => ?_) (fun q19 => ?_)
    · replace hF := hF.1 q19
      refine .seq ?_
      refine .region ?_
      refine .v (asg rfl) rfl rfl rfl ?_
      refine .nil ?_
      refine .seqN ?_
      refine .ret ?_
      refine .blkR ?_
      refine .seqR ?_
      refine .seqR ?_
      refine .blkR ?_
      refine .seqR ?_
      refine .res1 rfl (rvT rfl) (fun w' S => ⟨true, hF, rfl, S.below⟩)
    replace hF := hF.2 q19
    refine .skip ?_
    refine .blkN ?_
    refine .seqN ?_
    refine .region ?_
    refine .v (mv rfl) rfl rfl rfl ?_
    refine .v (bi rfl rfl rfl) rfl rfl rfl ?_
    refine .v (asg rfl) rfl rfl rfl ?_
    refine .nil ?_
    exact .round (IntKind.i64.wrap (i + 1)) hF.1 hF.2 (.cons rfl (.cons rfl (.cons rfl (.nil)))) rfl (FH.le_refl _)
  replace hF := hF.2 q15
  refine .exit ?_
  refine .seqX ?_
  refine .seqX ?_
  refine .blkX ?_
  refine .seqN ?_
  refine .seq ?_
  refine .region ?_
  refine .v (asg rfl) rfl rfl rfl ?_
  refine .nil ?_
  refine .seqN ?_
  refine .ret ?_
  refine .res1 rfl (rvT rfl) (fun w' S => ⟨false, hF, rfl, S.below⟩)

theorem c_has {h : FH} {w : World} (hs : Sub h w) (l : List Int) (al2 : Option Addr) (cl2 : Nat) (_q1 : RSl h al2 l) (_q2 : l.length ≤ cl2) (n_ : Int) (hp : pre_has l n_) : Calls Try.prog 35 #[.slice al2 l.length cl2, .int .i64 n_] w fun e w' => e = .returned (.bool (sp_has l n_)) ∧ Below w.heap.size w w' :=
  (w_has hs l al2 cl2 _q1 _q2 n_ (fun r => r = sp_has l n_) (ok_has l n_ hp)).mono fun _ _ ⟨_, hk, he, hb⟩ => ⟨by rw [he, hk], hb⟩

theorem w_reverse {h : FH} {w : World} (hs : Sub h w) (s_ : List Int) (as_ : Option Addr) (cs_ : Nat) {gX : FH} (ownX : OwnSl 3 1 as_ s_.length cs_ (flL s_) gX) (subX : Sub gX w) (disX : Disj h gX) (K : (List Int) → Prop) (hF : F_reverse s_ K) : Calls Try.prog 56 #[.slice as_ s_.length cs_] w fun e w' => ∃ r : List Int, K r ∧ e = .returned (.tuple #[]) ∧ SH (Kp.ex w h gX) h w' [OwnSl 3 1 as_ s_.length cs_ (flL r)] := by
  refine enterX (X := OwnSl 3 1 as_ s_.length cs_ (flL s_)) (args := [.slice as_ s_.length cs_]) Try.func56 rfl Try.ntmps56 rfl hs subX disX ownX ?_
  refine .seq ?_
  refine .region ?_
  refine .v (mv rfl) rfl rfl rfl ?_
  refine .v (ln rfl tS32.is) rfl rfl rfl ?_
  refine .v (bi rfl rfl rfl) rfl rfl rfl ?_
  refine .v (asg rfl) rfl rfl rfl ?_
  refine .v (asg rfl) rfl rfl rfl ?_
  refine .nil ?_
  refine .seqN ?_
  refine .block ?_
  obtain ⟨I1, μ1, q52, q53⟩ := hF
  refine .loop' (σ := Int × Int × List Int) (fun z => I1 z.1 z.2.1 z.2.2 ∧ z.2.2.length = s_.length) (fun z => μ1 z.1 z.2.1 z.2.2) (fun z => [(0, .slice as_ s_.length cs_), (2, .int .i64 z.1), (3, .int .i64 z.2.1)]) (fun z => [OwnSl 3 1 as_ s_.length cs_ (flL z.2.2)]) (fun _ => h) (0, IntKind.i64.wrap (((s_.length : Nat) : Int) - 1), s_) ⟨q52, rfl⟩ (.cons rfl (.cons rfl (.cons rfl (.nil)))) rfl (FH.le_refl _) ?_
  rintro ⟨i, j, s_2⟩ ⟨q52, q27⟩
  have hF := q53 i j s_2 q52
  show J _ _ _ _ _ [(0, .slice as_ s_.length cs_), (2, .int .i64 i), (3, .int .i64 j)] [OwnSl 3 1 as_ s_.length cs_ (flL s_2)] h
  refine .seq ?_
  refine .seq ?_
  refine .region ?_
  refine .v (mv rfl) rfl rfl rfl ?_
  refine .v (mv rfl) rfl rfl rfl ?_
  refine .v (bi rfl rfl rfl) rfl rfl rfl ?_
  refine .nil ?_
  refine .seqN ?_
  refine .cond rfl (fun q55 => ?_) (fun q55 => ?_)
  · replace hF := hF.1 q55
    refine .skip ?_
    refine .seqN ?_
    refine .seq ?_
    refine .block ?_
    obtain ⟨q70, hF⟩ := hF
    obtain ⟨q71, hF⟩ := hF
    refine .openA (s0 := [(0, .slice as_ s_.length cs_), (2, .int .i64 i), (3, .int .i64 j)]) [0, 1, 2, 3, 4, 5, 6, 7, 8, 9, 10, 11, 12] [(0, .slice as_ s_.length cs_), (1, .int .i64 i), (2, .slice as_ s_.length cs_), (3, .int .i64 j), (4, .slice as_ s_.length cs_), (5, .int .i64 j), (6, .pointer (some (ead as_ (j.toNat * 1)))), (7, .int .i64 (gt s_2 j)), (8, .slice as_ s_.length cs_), (9, .int .i64 i), (10, .pointer (some (ead as_ (i.toNat * 1)))), (11, .int .i64 (gt s_2 i)), (12, .pointer (some (ead as_ (i.toNat * 1))))] (by kernel_rfl) (.cons rfl (.cons rfl (.cons rfl (.nil)))) [0, 2, 3] [] rfl (by kernel_rfl) ?_
    refine .step [13] 13 rfl (by kernel_rfl) (by kernel_rfl) (.v [] rfl rfl rfl rfl rfl rfl (fun _ => mv rfl) (.v [] rfl rfl rfl rfl rfl rfl (fun _ => mv rfl) (.v [] rfl rfl rfl rfl rfl rfl (fun _ => mv rfl) (.v [] rfl rfl rfl rfl rfl rfl (fun _ => mv rfl) (.v [] rfl rfl rfl rfl rfl rfl (fun _ => mv rfl) (.v [] rfl rfl rfl rfl rfl rfl (fun _ => mv rfl) (.v [(18, .slice as_ s_.length cs_), (19, .int .i64 j)] rfl rfl rfl rfl rfl rfl (fun _ => ixS rfl rfl tS32 (k := 0) rfl (inb_n q70 q27)) (.v [(20, .pointer (some (ead as_ (j.toNat * 1))))] rfl rfl rfl rfl rfl rfl (fun _ => ld1 (v := .int .i64 (gt s_2 j)) rfl tO3 (cellS (k := 0) rfl (flL_get q70 (j := 0) rfl))) (.v [] rfl rfl rfl rfl rfl rfl (fun _ => mv rfl) (.v [] rfl rfl rfl rfl rfl rfl (fun _ => mv rfl) (.v [(22, .slice as_ s_.length cs_), (23, .int .i64 i)] rfl rfl rfl rfl rfl rfl (fun _ => ixS rfl rfl tS32 (k := 0) rfl (inb_n q71 q27)) (.v [(24, .pointer (some (ead as_ (i.toNat * 1))))] rfl rfl rfl rfl rfl rfl (fun _ => ld1 (v := .int .i64 (gt s_2 i)) rfl tO3 (cellS (k := 0) rfl (flL_get q71 (j := 0) rfl))) (.v [(14, .slice as_ s_.length cs_), (15, .int .i64 i), (14, .slice as_ s_.length cs_), (15, .int .i64 i), (18, .slice as_ s_.length cs_), (19, .int .i64 j), (20, .pointer (some (ead as_ (j.toNat * 1)))), (21, .int .i64 (gt s_2 j)), (25, .int .i64 (gt s_2 i))] rfl rfl rfl rfl rfl rfl (fun _ => ixS rfl rfl tS32 (k := 0) rfl (inb_n q71 q27)) (.nil)))))))))))))) (.cons [(26, .pointer (some (ead as_ (i.toNat * 1)))), (21, .int .i64 (gt s_2 j)), (14, .slice as_ s_.length cs_), (15, .int .i64 i), (18, .slice as_ s_.length cs_), (19, .int .i64 j), (20, .pointer (some (ead as_ (j.toNat * 1)))), (21, .int .i64 (gt s_2 j)), (25, .int .i64 (gt s_2 i))] rfl rfl (fun sL hL => ?_) (.nil))
    obtain ⟨d, q72⟩ : ∃ y_ : List Int, y_ = (s_2.set (i).toNat (gt s_2 j)) := ⟨_, rfl⟩
    replace hF := hF d q72
    refine stS (k := 0) (cs' := flL d) rfl (fun _ => rfl) rfl rfl (fun w => (tO3 w).2) rfl rfl rfl (by rw [← q27]; exact inb_pos q71) (fl_room q71) (by rw [q72]; exact flL_set q71 (gt s_2 j)) ?_
    have q73 : d.length = s_.length := by rw [q72]; exact List.length_set.trans q27
    refine .cast (A' := [OwnSl 3 1 as_ s_.length cs_ (flL d)]) rfl ?_
    refine .nil ?_
    obtain ⟨q74, hF⟩ := hF
    refine .jaN (M := [12, 7, 0, 1, 4, 5, 6, 11, 10, 8, 9]) (C' := [2, 3, 14]) (pre := [(14, .pointer (some (ead as_ (j.toNat * 1))))]) [0, 2, 3] hL rfl rfl rfl rfl rfl (by kernel_rfl) ?_
    refine .step [15] 15 rfl (by kernel_rfl) (by kernel_rfl) (.v [] rfl rfl rfl rfl rfl rfl (fun _ => mv rfl) (.v [] rfl rfl rfl rfl rfl rfl (fun _ => mv rfl) (.v [(16, .slice as_ s_.length cs_), (17, .int .i64 j), (14, .slice as_ s_.length cs_), (15, .int .i64 i), (16, .slice as_ s_.length cs_), (17, .int .i64 j), (18, .slice as_ s_.length cs_), (19, .int .i64 j), (20, .pointer (some (ead as_ (j.toNat * 1)))), (21, .int .i64 (gt s_2 j)), (22, .slice as_ s_.length cs_), (23, .int .i64 i), (24, .pointer (some (ead as_ (i.toNat * 1)))), (25, .int .i64 (gt s_2 i)), (26, .pointer (some (ead as_ (i.toNat * 1))))] rfl rfl rfl rfl rfl rfl (fun _ => ixS rfl rfl tS32 (k := 0) rfl (inb_n q74 q73)) (.nil)))) (.cons [(27, .pointer (some (ead as_ (j.toNat * 1)))), (25, .int .i64 (gt s_2 i)), (14, .slice as_ s_.length cs_), (15, .int .i64 i), (16, .slice as_ s_.length cs_), (17, .int .i64 j), (18, .slice as_ s_.length cs_), (19, .int .i64 j), (20, .pointer (some (ead as_ (j.toNat * 1)))), (21, .int .i64 (gt s_2 j)), (22, .slice as_ s_.length cs_), (23, .int .i64 i), (24, .pointer (some (ead as_ (i.toNat * 1)))), (25, .int .i64 (gt s_2 i)), (26, .pointer (some (ead as_ (i.toNat * 1))))] rfl rfl (fun sL hL => ?_) (.nil))
    obtain ⟨d2, q75⟩ : ∃ y_ : List Int, y_ = (d.set (j).toNat (gt s_2 i)) := ⟨_, rfl⟩
    replace hF := hF d2 q75
    refine stS (k := 0) (cs' := flL d2) rfl (fun _ => rfl) rfl rfl (fun w => (tO3 w).2) rfl rfl rfl (by rw [← q73]; exact inb_pos q74) (fl_room q74) (by rw [q75]; exact flL_set q74 (gt s_2 i)) ?_
    have q76 : d2.length = s_.length := by rw [q75]; exact List.length_set.trans q73
    refine .cast (A' := [OwnSl 3 1 as_ s_.length cs_ (flL d2)]) rfl ?_
    refine .nil ?_
    refine .jaN (M := [14, 2, 3]) (C' := []) (pre := []) [0, 2, 3] hL rfl rfl rfl rfl rfl (by kernel_rfl) ?_
    refine .last [(14, .slice as_ s_.length cs_), (15, .int .i64 i), (16, .slice as_ s_.length cs_), (17, .int .i64 j), (18, .slice as_ s_.length cs_), (19, .int .i64 j), (20, .pointer (some (ead as_ (j.toNat * 1)))), (21, .int .i64 (gt s_2 j)), (22, .slice as_ s_.length cs_), (23, .int .i64 i), (24, .pointer (some (ead as_ (i.toNat * 1)))), (25, .int .i64 (gt s_2 i)), (26, .pointer (some (ead as_ (i.toNat * 1)))), (27, .pointer (some (ead as_ (j.toNat * 1))))] rfl (by kernel_rfl) (.nil) rfl ?_
    refine .blkN ?_
    refine .seqN ?_
    refine .region ?_
    refine .v (mv rfl) rfl rfl rfl ?_
    refine .v (bi rfl rfl rfl) rfl rfl rfl ?_
    refine .v (mv rfl) rfl rfl rfl ?_
    refine .v (bi rfl rfl rfl) rfl rfl rfl ?_
    refine .v (asg rfl) rfl rfl rfl ?_
    refine .v (asg rfl) rfl rfl rfl ?_
    refine .nil ?_
    exact .round (IntKind.i64.wrap (i + 1), IntKind.i64.wrap (j - 1), d2) ⟨hF.1, q76⟩ hF.2 (.cons rfl (.cons rfl (.cons rfl (.nil)))) rfl (FH.le_refl _)
  replace hF := hF.2 q55
  refine .exit ?_
  refine .seqX ?_
  refine .seqX ?_
  refine .blkX ?_
  refine .res0 (.inr rfl) rfl (fun w' S => ⟨s_2, hF, rfl, S.pick (k := 0) rfl⟩)

theorem c_reverse {h : FH} {w : World} (hs : Sub h w) (s_ : List Int) (as_ : Option Addr) (cs_ : Nat) {gX : FH} (ownX : OwnSl 3 1 as_ s_.length cs_ (flL s_) gX) (subX : Sub gX w) (disX : Disj h gX) (hp : pre_reverse s_) : Calls Try.prog 56 #[.slice as_ s_.length cs_] w fun e w' => e = .returned (.tuple #[]) ∧ SH (Kp.ex w h gX) h w' [OwnSl 3 1 as_ s_.length cs_ (flL (sp_reverse s_))] :=
  (w_reverse hs s_ as_ cs_ ownX subX disX (fun r => r = sp_reverse s_) (ok_reverse s_ hp)).mono fun _ _ ⟨r, hk, he, hS⟩ => ⟨he, by rw [← hk]; exact hS⟩

set_option maxHeartbeats 8000000 in
theorem w_cycle {h : FH} {w : World} (hs : Sub h w) (n_ : Network) (an_ : Option Addr) (cn_ : Nat) (_q1 : RSl h an_ n_.links) (_q2 : n_.links.length ≤ cn_) (K : (List Int × Bool × Fault) → Prop) (hF : F_cycle n_ K) : Calls Try.prog 34 #[.agg #[.int .i64 n_.events, .slice an_ n_.links.length cn_]] w fun e w' => ∃ (r : List Int × Bool × Fault) (z : Option Addr × Nat) (h1 : FH), K r ∧ e = .returned (.tuple #[.slice z.1 r.1.length z.2, .bool r.2.1, .agg #[.int .i64 r.2.2.code, .int .i64 r.2.2.index]]) ∧ FH.le h h1 ∧ (RSl h1 z.1 r.1 ∧ r.1.length ≤ z.2) ∧ SH (Kp.all w h) h1 w' [] := by
  refine enter (args := [.agg #[.int .i64 n_.events, .slice an_ n_.links.length cn_]]) Try.func34 rfl Try.ntmps34 rfl hs ?_
  refine .seq ?_
  refine .region ?_
  refine bx (vs := [.int .i64 n_.events, .slice an_ n_.links.length cn_]) rfl rfl rfl (fun pn => ?_)
  refine .v (asg rfl) rfl rfl rfl ?_
  refine .v (asg rfl) rfl rfl rfl ?_
  refine al tZ27 rfl (fun pv => ?_)
  refine .nil ?_
  refine .seqN ?_
  refine .seq ?_
  refine .seq ?_
  refine .region ?_
  refine .v (ldA (cs := [.int .i64 n_.events, .slice an_ n_.links.length cn_]) rfl tA24 rfl (cellsB (off := 0) (k := 1) rfl (m := 2) rfl)) rfl rfl rfl ?_
  obtain ⟨r2, q3⟩ : ∃ y_ : Fault, y_ = sp_validate n_ := ⟨_, rfl⟩
  replace hF := hF r2 q3
  refine .c (cl (v := .agg #[.int .i64 r2.code, .int .i64 r2.index]) Try.call22 rfl rfl (fun w S => (by rw [q3]; exact c_validate S.sub n_ an_ cn_ _q1 _q2 ))) rfl rfl rfl ?_
  refine al tZ27 rfl (fun pf => ?_)
  refine st (p := pf) (off := 0) (k := 0) (vs := [.int .i64 r2.code, .int .i64 r2.index]) rfl rfl rfl (fun w => (tA27 w).2) rfl rfl rfl rfl ?_
  refine .cast (A' := [Box pf [.int .i64 r2.code, .int .i64 r2.index], Box pv [.int .i64 0, .int .i64 0], Box pn [.int .i64 n_.events, .slice an_ n_.links.length cn_]]) rfl ?_
  refine .nil ?_
  refine .seqN ?_
  refine .seq ?_
  refine .region ?_
  refine .v (ldA (cs := [.int .i64 r2.code, .int .i64 r2.index]) rfl tA27 rfl (cellsB (off := 0) (k := 0) rfl (m := 2) rfl)) rfl rfl rfl ?_
  refine .v (bld (cs := #[.int .i64 0, .int .i64 0]) (pv := []) tB27 rfl rfl) rfl rfl rfl ?_
  refine .v (ne2 tE27 rfl rfl) rfl rfl rfl ?_
  refine .nil ?_
  refine .seqN ?_
  refine .cond rfl (fun q5 => ?_) (fun q5 => ?_)
  · replace hF := hF.1 q5
    refine .seq ?_
    refine .openL (by kernel_rfl) rfl (by kernel_rfl) (by kernel_rfl) ?_
    refine .v (ldA (cs := [.int .i64 r2.code, .int .i64 r2.index]) rfl tA27 rfl (cellsB (off := 0) (k := 0) rfl (m := 2) rfl)) rfl rfl rfl ?_
    refine .v (asg rfl) rfl rfl rfl ?_
    refine .v (asg rfl) rfl rfl rfl ?_
    refine .tail ?_
    refine st (p := pv) (off := 0) (k := 1) (vs := [.int .i64 r2.code, .int .i64 r2.index]) rfl rfl rfl (fun w => (tA27 w).2) rfl rfl rfl rfl ?_
    refine .cast (A' := [Box pf [.int .i64 r2.code, .int .i64 r2.index], Box pv [.int .i64 r2.code, .int .i64 r2.index], Box pn [.int .i64 n_.events, .slice an_ n_.links.length cn_]]) rfl ?_
    refine .nil ?_
    refine .seqN ?_
    refine .ret ?_
    refine .seqR ?_
    refine .res3 rfl (rvT rfl) (rvT rfl) (rvC rfl tA27 (k := 1) rfl rfl) (fun w' S => ⟨(([] : List Int), false, r2), (none, 0), h, hF, rfl, (FH.le_refl _), ⟨RSl.nil_, (Nat.le_refl 0)⟩, S.none⟩)
  replace hF := hF.2 q5
  refine .skip ?_
  refine .seqN ?_
  refine .seq ?_
  refine .region ?_
  refine .v (ldA (cs := [.int .i64 n_.events, .slice an_ n_.links.length cn_]) rfl tA24 rfl (cellsB (off := 0) (k := 2) rfl (m := 2) rfl)) rfl rfl rfl ?_
  obtain ⟨q6, hF⟩ := hF
  obtain ⟨r3, q7⟩ : ∃ y_ : List (List Int), y_ = sp_bounds n_ := ⟨_, rfl⟩
  replace hF := hF r3 q7
  refine clO (α := Option Addr × Nat × List RowV) (V := fun z => .slice z.1 r3.length z.2.1) (Ψ := fun z => z.2.2.length = r3.length) (B := fun z => OwnSl 32 1 z.1 r3.length z.2.1 (rowsV z.2.2 r3) :: rowsA 3 z.2.2 r3) Try.call49 rfl rfl (fun w S => (by rw [q7]; exact c_bounds S.sub n_ an_ cn_ _q1 _q2 q6)) rfl (fun z q8 => ?_)
  obtain ⟨a, c, vs⟩ := z
  refine .perm ?_
  refine .cast (A' := ([Box pf [.int .i64 r2.code, .int .i64 r2.index], Box pv [.int .i64 0, .int .i64 0], Box pn [.int .i64 n_.events, .slice an_ n_.links.length cn_], OwnSl 32 1 a r3.length c (rowsV vs r3)] ++ rowsA 3 vs r3)) rfl ?_
  refine .v (asg rfl) rfl rfl rfl ?_
  refine .nil ?_
  refine .seqN ?_
  refine .seq ?_
  refine .region ?_
  refine .v (fa rfl tF24_0) rfl rfl rfl ?_
  refine .v (ld1 rfl tO3 (cellB (off := 0) (k := 2) rfl rfl)) rfl rfl rfl ?_
  obtain ⟨q9, hF⟩ := hF
  refine mk (m := (n_.events).toNat) (cs' := flL (List.replicate (n_.events).toNat (0 : Int))) tS32 rfl rfl (Int.toNat_of_nonneg q9.1).symm q9.2.1 q9.2.2 (flL_rep1 rfl _) rfl (fun a2 c2 => ?_)
  have q10 : (List.replicate (n_.events).toNat (0 : Int)).length = (n_.events).toNat := List.length_replicate
  refine .cast (A' := ([OwnSl 3 1 a2 ((n_.events).toNat) c2 (flL (List.replicate (n_.events).toNat (0 : Int))), Box pf [.int .i64 r2.code, .int .i64 r2.index], Box pv [.int .i64 0, .int .i64 0], Box pn [.int .i64 n_.events, .slice an_ n_.links.length cn_], OwnSl 32 1 a r3.length c (rowsV vs r3)] ++ rowsA 3 vs r3)) rfl ?_
  refine .v (asg rfl) rfl rfl rfl ?_
  refine .nil ?_
  refine .seqN ?_
  refine .seq ?_
  refine .region ?_
  refine bs2 (cs := #[.int .i64 (-1)]) (pv := [(0, .int .i64 (-1))]) tS32 rfl rfl (by decide) (by decide) rfl rfl rfl (fun a3 _ => ?_)
  refine .cast (A' := ([OwnSl 3 1 a3 (([(-1)] : List Int).length) 1 (flL ([(-1)] : List Int)), OwnSl 3 1 a2 ((n_.events).toNat) c2 (flL (List.replicate (n_.events).toNat (0 : Int))), Box pf [.int .i64 r2.code, .int .i64 r2.index], Box pv [.int .i64 0, .int .i64 0], Box pn [.int .i64 n_.events, .slice an_ n_.links.length cn_], OwnSl 32 1 a r3.length c (rowsV vs r3)] ++ rowsA 3 vs r3)) rfl ?_
  refine .v (fa rfl tF24_0) rfl rfl rfl ?_
  refine .v (ld1 rfl tO3 (cellB (off := 0) (k := 4) rfl rfl)) rfl rfl rfl ?_
  obtain ⟨q12, hF⟩ := hF
  obtain ⟨r4, q13⟩ : ∃ y_ : List Int, y_ = sp_repeat ([(-1)] : List Int) n_.events := ⟨_, rfl⟩
  replace hF := hF r4 q13
  refine clO (α := Option Addr × Nat) (V := fun z => .slice z.1 r4.length z.2) (Ψ := fun z => True) (B := fun z => [OwnSl 3 1 z.1 r4.length z.2 (flL r4)]) Try.call55 rfl rfl (fun w S => (by rw [q13]; obtain ⟨h_, hl_, hs_, hne_, hr_⟩ := look S (k := 0) rfl; exact (c_repeat hs_ ([(-1)] : List Int) a3 1 (RSl.of hr_) (look_len S (k := 0) rfl) n_.events q12).mono fun _ _ ⟨z, h0, h1, e1, e2, e3, e4⟩ => ⟨z, h0, h1, e1, e2, FH.le_trans hl_ e3, e4⟩)) rfl (fun z _ => ?_)
  obtain ⟨a4, c3⟩ := z
  refine .cast (A' := ([OwnSl 3 1 a4 r4.length c3 (flL r4), OwnSl 3 1 a3 (([(-1)] : List Int).length) 1 (flL ([(-1)] : List Int)), OwnSl 3 1 a2 ((n_.events).toNat) c2 (flL (List.replicate (n_.events).toNat (0 : Int))), Box pf [.int .i64 r2.code, .int .i64 r2.index], Box pv [.int .i64 0, .int .i64 0], Box pn [.int .i64 n_.events, .slice an_ n_.links.length cn_], OwnSl 32 1 a r3.length c (rowsV vs r3)] ++ rowsA 3 vs r3)) rfl ?_
  refine .v (asg rfl) rfl rfl rfl ?_
  refine .nil ?_
  refine .seqN ?_
  refine .seq ?_
  refine .region ?_
  refine .v (asg rfl) rfl rfl rfl ?_
  refine .nil ?_
  refine .seqN ?_
  refine .seq ?_
  refine .seq ?_
  refine .region ?_
  refine .v (fa rfl tF24_0) rfl rfl rfl ?_
  refine .v (ld1 rfl tO3 (cellB (off := 0) (k := 5) rfl rfl)) rfl rfl rfl ?_
  refine .v (mv rfl) rfl rfl rfl ?_
  refine .nil ?_
  refine .seqN ?_
  refine .block ?_
  refine .sel (L := [OwnSl 3 1 a4 r4.length c3 (flL r4), OwnSl 3 1 a3 (([(-1)] : List Int).length) 1 (flL ([(-1)] : List Int)), OwnSl 3 1 a2 ((n_.events).toNat) c2 (flL (List.replicate (n_.events).toNat (0 : Int))), Box pf [.int .i64 r2.code, .int .i64 r2.index], Box pv [.int .i64 0, .int .i64 0], Box pn [.int .i64 n_.events, .slice an_ n_.links.length cn_], OwnSl 32 1 a r3.length c (rowsV vs r3)]) (L' := [Box pn [.int .i64 n_.events, .slice an_ n_.links.length cn_], Box pv [.int .i64 0, .int .i64 0], OwnSl 3 1 a2 ((n_.events).toNat) c2 (flL (List.replicate (n_.events).toNat (0 : Int))), OwnSl 3 1 a4 r4.length c3 (flL r4), OwnSl 32 1 a r3.length c (rowsV vs r3)]) [5, 4, 2, 0, 6] rfl (by decide) rfl rfl ?_
  obtain ⟨I1, μ1, q24299, q24300⟩ := hF
  refine .loop' (σ := Int × Int × List Int × List Int) (fun z => I1 z.1 z.2.1 z.2.2.1 z.2.2.2 ∧ z.2.2.1.length = (n_.events).toNat ∧ z.2.2.2.length = r4.length) (fun z => μ1 z.1 z.2.1 z.2.2.1 z.2.2.2) (fun z => [(1, .pointer (some pn)), (4, .pointer (some pv)), (6, .slice a r3.length c), (7, .slice a2 ((n_.events).toNat) c2), (8, .slice a4 r4.length c3), (9, .int .i64 z.1), (30, .int .i64 n_.events), (31, .int .i64 z.2.1)]) (fun z => ([Box pn [.int .i64 n_.events, .slice an_ n_.links.length cn_], Box pv [.int .i64 0, .int .i64 0], OwnSl 3 1 a2 ((n_.events).toNat) c2 (flL z.2.2.1), OwnSl 3 1 a4 r4.length c3 (flL z.2.2.2), OwnSl 32 1 a r3.length c (rowsV vs r3)] ++ rowsA 3 vs r3)) (fun _ => h) ((-1), 0, (List.replicate (n_.events).toNat (0 : Int)), r4) ⟨q24299, q10, rfl⟩ (.cons rfl (.cons rfl (.cons rfl (.cons rfl (.cons rfl (.cons rfl (.cons rfl (.cons rfl (.nil))))))))) rfl (FH.le_refl _) ?_
  rintro ⟨last, t31, dist, from_⟩ ⟨q24299, q19456, q19457⟩
  have hF := q24300 last t31 dist from_ q24299
  show J _ _ _ _ _ [(1, .pointer (some pn)), (4, .pointer (some pv)), (6, .slice a r3.length c), (7, .slice a2 ((n_.events).toNat) c2), (8, .slice a4 r4.length c3), (9, .int .i64 last), (30, .int .i64 n_.events), (31, .int .i64 t31)] ([Box pn [.int .i64 n_.events, .slice an_ n_.links.length cn_], Box pv [.int .i64 0, .int .i64 0], OwnSl 3 1 a2 ((n_.events).toNat) c2 (flL dist), OwnSl 3 1 a4 r4.length c3 (flL from_), OwnSl 32 1 a r3.length c (rowsV vs r3)] ++ rowsA 3 vs r3) h
  refine .seq ?_
  refine .region ?_
  refine .v (bi rfl rfl rfl) rfl rfl rfl ?_
  refine .nil ?_
  refine .seqN ?_
  refine .seq ?_
  refine .cond rfl (fun q24303 => ?_) (fun q24303 => ?_)
  · replace hF := hF.1 q24303
    refine .skip ?_
    refine .seqN ?_
    refine .seq ?_
    refine .block ?_
    refine .seq ?_
    refine .region ?_
    refine .v (asg rfl) rfl rfl rfl ?_
    refine .nil ?_
    refine .seqN ?_
    refine .seq ?_
    refine .region ?_
    refine .v (mv rfl) rfl rfl rfl ?_
    refine .v (ln rfl tS25.is) rfl rfl rfl ?_
    refine .v (mv rfl) rfl rfl rfl ?_
    refine .nil ?_
    refine .seqN ?_
    refine .block ?_
    obtain ⟨I2, μ2, q28601, q28602⟩ := hF
    refine .loop' (σ := Int × Int × List Int × List Int) (fun z => I2 z.1 z.2.1 z.2.2.1 z.2.2.2 ∧ z.2.2.1.length = (n_.events).toNat ∧ z.2.2.2.length = r4.length) (fun z => μ2 z.1 z.2.1 z.2.2.1 z.2.2.2) (fun z => [(1, .pointer (some pn)), (4, .pointer (some pv)), (6, .slice a r3.length c), (7, .slice a2 ((n_.events).toNat) c2), (8, .slice a4 r4.length c3), (9, .int .i64 z.1), (30, .int .i64 n_.events), (31, .int .i64 t31), (34, .int .i64 ((r3.length : Nat) : Int)), (35, .int .i64 z.2.1)]) (fun z => ([Box pn [.int .i64 n_.events, .slice an_ n_.links.length cn_], Box pv [.int .i64 0, .int .i64 0], OwnSl 3 1 a2 ((n_.events).toNat) c2 (flL z.2.2.1), OwnSl 3 1 a4 r4.length c3 (flL z.2.2.2), OwnSl 32 1 a r3.length c (rowsV vs r3)] ++ rowsA 3 vs r3)) (fun _ => h) ((-1), 0, dist, from_) ⟨q28601, q19456, q19457⟩ (.cons rfl (.cons rfl (.cons rfl (.cons rfl (.cons rfl (.cons rfl (.cons rfl (.cons rfl (.cons rfl (.cons rfl (.nil))))))))))) rfl (FH.le_refl _) ?_
    rintro ⟨last3, t35, dist3, from_3⟩ ⟨q28601, q28060, q28061⟩
    have hF := q28602 last3 t35 dist3 from_3 q28601
    show J _ _ _ _ _ [(1, .pointer (some pn)), (4, .pointer (some pv)), (6, .slice a r3.length c), (7, .slice a2 ((n_.events).toNat) c2), (8, .slice a4 r4.length c3), (9, .int .i64 last3), (30, .int .i64 n_.events), (31, .int .i64 t31), (34, .int .i64 ((r3.length : Nat) : Int)), (35, .int .i64 t35)] ([Box pn [.int .i64 n_.events, .slice an_ n_.links.length cn_], Box pv [.int .i64 0, .int .i64 0], OwnSl 3 1 a2 ((n_.events).toNat) c2 (flL dist3), OwnSl 3 1 a4 r4.length c3 (flL from_3), OwnSl 32 1 a r3.length c (rowsV vs r3)] ++ rowsA 3 vs r3) h
    refine .seq ?_
    refine .region ?_
    refine .v (bi rfl rfl rfl) rfl rfl rfl ?_
    refine .nil ?_
    refine .seqN ?_
    refine .seq ?_
    refine .cond rfl (fun q28605 => ?_) (fun q28605 => ?_)
    · replace hF := hF.1 q28605
      refine .skip ?_
      refine .seqN ?_
      refine .seq ?_
      refine .block ?_
      refine .seq ?_
      refine .region ?_
      refine .v (mv rfl) rfl rfl rfl ?_
      refine .v (asg rfl) rfl rfl rfl ?_
      refine .nil ?_
      refine .seqN ?_
      refine .seq ?_
      refine .region ?_
      refine .v (mv rfl) rfl rfl rfl ?_
      refine .v (ln rfl tS25.is) rfl rfl rfl ?_
      refine .v (mv rfl) rfl rfl rfl ?_
      refine .nil ?_
      refine .seqN ?_
      refine .block ?_
      obtain ⟨I3, μ3, q29082, q29083⟩ := hF
      refine .loop' (σ := Int × Int × List Int × List Int) (fun z => I3 z.1 z.2.1 z.2.2.1 z.2.2.2 ∧ z.2.2.1.length = (n_.events).toNat ∧ z.2.2.2.length = r4.length) (fun z => μ3 z.1 z.2.1 z.2.2.1 z.2.2.2) (fun z => [(1, .pointer (some pn)), (4, .pointer (some pv)), (6, .slice a r3.length c), (7, .slice a2 ((n_.events).toNat) c2), (8, .slice a4 r4.length c3), (9, .int .i64 z.1), (10, .int .i64 t35), (30, .int .i64 n_.events), (31, .int .i64 t31), (34, .int .i64 ((r3.length : Nat) : Int)), (35, .int .i64 t35), (39, .int .i64 ((r3.length : Nat) : Int)), (40, .int .i64 z.2.1)]) (fun z => ([Box pn [.int .i64 n_.events, .slice an_ n_.links.length cn_], Box pv [.int .i64 0, .int .i64 0], OwnSl 3 1 a2 ((n_.events).toNat) c2 (flL z.2.2.1), OwnSl 3 1 a4 r4.length c3 (flL z.2.2.2), OwnSl 32 1 a r3.length c (rowsV vs r3)] ++ rowsA 3 vs r3)) (fun _ => h) (last3, 0, dist3, from_3) ⟨q29082, q28060, q28061⟩ (.cons rfl (.cons rfl (.cons rfl (.cons rfl (.cons rfl (.cons rfl (.cons rfl (.cons rfl (.cons rfl (.cons rfl (.cons rfl (.cons rfl (.cons rfl (.nil)))))))))))))) rfl (FH.le_refl _) ?_
      rintro ⟨last5, t40, dist5, from_5⟩ ⟨q29082, q29022, q29023⟩
      have hF := q29083 last5 t40 dist5 from_5 q29082
      show J _ _ _ _ _ [(1, .pointer (some pn)), (4, .pointer (some pv)), (6, .slice a r3.length c), (7, .slice a2 ((n_.events).toNat) c2), (8, .slice a4 r4.length c3), (9, .int .i64 last5), (10, .int .i64 t35), (30, .int .i64 n_.events), (31, .int .i64 t31), (34, .int .i64 ((r3.length : Nat) : Int)), (35, .int .i64 t35), (39, .int .i64 ((r3.length : Nat) : Int)), (40, .int .i64 t40)] ([Box pn [.int .i64 n_.events, .slice an_ n_.links.length cn_], Box pv [.int .i64 0, .int .i64 0], OwnSl 3 1 a2 ((n_.events).toNat) c2 (flL dist5), OwnSl 3 1 a4 r4.length c3 (flL from_5), OwnSl 32 1 a r3.length c (rowsV vs r3)] ++ rowsA 3 vs r3) h
      refine .seq ?_
      refine .region ?_
      refine .v (bi rfl rfl rfl) rfl rfl rfl ?_
      refine .nil ?_
      refine .seqN ?_
      refine .seq ?_
      refine .cond rfl (fun q29086 => ?_) (fun q29086 => ?_)
      · replace hF := hF.1 q29086
        refine .skip ?_
        refine .seqN ?_
        refine .share (σ := Int × List Int × List Int) (fun z => F_cycle_J1 t40 I3 μ3 last5 dist5 from_5 z.1 z.2.1 z.2.2 ∧ z.2.1.length = (n_.events).toNat ∧ z.2.2.length = r4.length) (fun z => [(1, .pointer (some pn)), (4, .pointer (some pv)), (6, .slice a r3.length c), (7, .slice a2 ((n_.events).toNat) c2), (8, .slice a4 r4.length c3), (9, .int .i64 z.1), (10, .int .i64 t35), (30, .int .i64 n_.events), (31, .int .i64 t31), (34, .int .i64 ((r3.length : Nat) : Int)), (35, .int .i64 t35), (39, .int .i64 ((r3.length : Nat) : Int)), (40, .int .i64 t40)]) (fun z => ([Box pn [.int .i64 n_.events, .slice an_ n_.links.length cn_], Box pv [.int .i64 0, .int .i64 0], OwnSl 3 1 a2 ((n_.events).toNat) c2 (flL z.2.1), OwnSl 3 1 a4 r4.length c3 (flL z.2.2), OwnSl 32 1 a r3.length c (rowsV vs r3)] ++ rowsA 3 vs r3)) (fun _ => h) ?_ (fun q29114 => ?_)
        · rintro ⟨last7, dist7, from_7⟩ ⟨hF, q29112, q29113⟩
          show J _ _ _ _ _ [(1, .pointer (some pn)), (4, .pointer (some pv)), (6, .slice a r3.length c), (7, .slice a2 ((n_.events).toNat) c2), (8, .slice a4 r4.length c3), (9, .int .i64 last7), (10, .int .i64 t35), (30, .int .i64 n_.events), (31, .int .i64 t31), (34, .int .i64 ((r3.length : Nat) : Int)), (35, .int .i64 t35), (39, .int .i64 ((r3.length : Nat) : Int)), (40, .int .i64 t40)] ([Box pn [.int .i64 n_.events, .slice an_ n_.links.length cn_], Box pv [.int .i64 0, .int .i64 0], OwnSl 3 1 a2 ((n_.events).toNat) c2 (flL dist7), OwnSl 3 1 a4 r4.length c3 (flL from_7), OwnSl 32 1 a r3.length c (rowsV vs r3)] ++ rowsA 3 vs r3) h
          refine .region ?_
          refine .v (bi rfl rfl rfl) rfl rfl rfl ?_
          refine .v (mv rfl) rfl rfl rfl ?_
          refine .nil ?_
          exact .round (last7, IntKind.i64.wrap (t40 + 1), dist7, from_7) ⟨hF.1, q29112, q29113⟩ hF.2 (.cons rfl (.cons rfl (.cons rfl (.cons rfl (.cons rfl (.cons rfl (.cons rfl (.cons rfl (.cons rfl (.cons rfl (.cons rfl (.cons rfl (.cons rfl (.nil)))))))))))))) rfl (FH.le_refl _)
        refine .block ?_
        refine .seq ?_
        refine .region ?_
        refine .v (mv rfl) rfl rfl rfl ?_
        refine .v (asg rfl) rfl rfl rfl ?_
        refine .nil ?_
        refine .seqN ?_
        refine .share (σ := Bool) (fun z => F_cycle_J2 r3 z t40 I3 μ3 t35 last5 dist5 from_5) (fun z => [(1, .pointer (some pn)), (4, .pointer (some pv)), (6, .slice a r3.length c), (7, .slice a2 ((n_.events).toNat) c2), (8, .slice a4 r4.length c3), (9, .int .i64 last5), (10, .int .i64 t35), (11, .int .i64 t40), (30, .int .i64 n_.events), (31, .int .i64 t31), (34, .int .i64 ((r3.length : Nat) : Int)), (35, .int .i64 t35), (39, .int .i64 ((r3.length : Nat) : Int)), (40, .int .i64 t40), (74, .bool z)]) (fun _ => ([Box pn [.int .i64 n_.events, .slice an_ n_.links.length cn_], Box pv [.int .i64 0, .int .i64 0], OwnSl 3 1 a2 ((n_.events).toNat) c2 (flL dist5), OwnSl 3 1 a4 r4.length c3 (flL from_5), OwnSl 32 1 a r3.length c (rowsV vs r3)] ++ rowsA 3 vs r3)) (fun _ => h) ?_ (fun q29122 => ?_)
        · rintro t74 hF
          show J _ _ _ _ _ [(1, .pointer (some pn)), (4, .pointer (some pv)), (6, .slice a r3.length c), (7, .slice a2 ((n_.events).toNat) c2), (8, .slice a4 r4.length c3), (9, .int .i64 last5), (10, .int .i64 t35), (11, .int .i64 t40), (30, .int .i64 n_.events), (31, .int .i64 t31), (34, .int .i64 ((r3.length : Nat) : Int)), (35, .int .i64 t35), (39, .int .i64 ((r3.length : Nat) : Int)), (40, .int .i64 t40), (74, .bool t74)] ([Box pn [.int .i64 n_.events, .slice an_ n_.links.length cn_], Box pv [.int .i64 0, .int .i64 0], OwnSl 3 1 a2 ((n_.events).toNat) c2 (flL dist5), OwnSl 3 1 a4 r4.length c3 (flL from_5), OwnSl 32 1 a r3.length c (rowsV vs r3)] ++ rowsA 3 vs r3) h
          refine .cond rfl (fun q29123 => ?_) (fun q29123 => ?_)
          · replace hF := hF.1 q29123
            refine .seq ?_
            refine .openL (by kernel_rfl) rfl (by kernel_rfl) (by kernel_rfl) ?_
            refine .v (mv rfl) rfl rfl rfl ?_
            refine .v (mv rfl) rfl rfl rfl ?_
            refine .v (mv rfl) rfl rfl rfl ?_
            refine .v (mv rfl) rfl rfl rfl ?_
            obtain ⟨q29124, hF⟩ := hF
            refine .v (ixS rfl rfl tS32 (k := 2) rfl (inb_n q29124 q29022)) rfl rfl rfl ?_
            refine .v (ld1 (v := .int .i64 (gt dist5 t35)) rfl tO3 (cellS (k := 2) rfl (flL_get q29124 (j := 0) rfl))) rfl rfl rfl ?_
            refine .v (mv rfl) rfl rfl rfl ?_
            refine .v (mv rfl) rfl rfl rfl ?_
            obtain ⟨q29125, hF⟩ := hF
            refine .v (ixS rfl rfl tS25 (k := 4) rfl q29125) rfl rfl rfl ?_
            refine .v (ld1 (v := .slice ((gt vs t35).1) ((gt r3 t35).length) ((gt vs t35).2)) rfl tO32 (cell1 (k := 4) rfl (rowsV_get (gt_get (inb_of q8 q29125)) (gt_get q29125)))) rfl rfl rfl ?_
            refine .v (mv rfl) rfl rfl rfl ?_
            obtain ⟨q29126, hF⟩ := hF
            refine .v (ixS rfl rfl tS32 (k := (t35).toNat + 5) (rowsA_get (gt_get (inb_of q8 q29125)) (gt_get q29125)) q29126) rfl rfl rfl ?_
            refine .v (ld1 (v := .int .i64 (gt (gt r3 t35) t40)) rfl tO3 (cellS (k := (t35).toNat + 5) (rowsA_get (gt_get (inb_of q8 q29125)) (gt_get q29125)) (flL_get q29126 (j := 0) rfl))) rfl rfl rfl ?_
            refine .v (bi rfl rfl rfl) rfl rfl rfl ?_
            obtain ⟨q29127, hF⟩ := hF
            refine .v (ixS rfl rfl tS32 (k := 2) rfl (inb_n q29127 q29022)) rfl rfl rfl ?_
            refine .tail ?_
            obtain ⟨d, q29128⟩ : ∃ y_ : List Int, y_ = (dist5.set (t40).toNat (IntKind.i64.wrap ((gt dist5 t35) + (gt (gt r3 t35) t40)))) := ⟨_, rfl⟩
            replace hF := hF d q29128
            refine stS (k := 2) (cs' := flL d) rfl (fun _ => rfl) rfl rfl (fun w => (tO3 w).2) rfl rfl rfl (by rw [← q29022]; exact inb_pos q29127) (fl_room q29127) (by rw [q29128]; exact flL_set q29127 (IntKind.i64.wrap ((gt dist5 t35) + (gt (gt r3 t35) t40)))) ?_
            have q29129 : d.length = (n_.events).toNat := by rw [q29128]; exact List.length_set.trans q29022
            refine .cast (A' := ([Box pn [.int .i64 n_.events, .slice an_ n_.links.length cn_], Box pv [.int .i64 0, .int .i64 0], OwnSl 3 1 a2 ((n_.events).toNat) c2 (flL d), OwnSl 3 1 a4 r4.length c3 (flL from_5), OwnSl 32 1 a r3.length c (rowsV vs r3)] ++ rowsA 3 vs r3)) rfl ?_
            refine .nil ?_
            refine .seqN ?_
            refine .seq ?_
            refine .region ?_
            refine .v (mv rfl) rfl rfl rfl ?_
            refine .v (mv rfl) rfl rfl rfl ?_
            refine .v (mv rfl) rfl rfl rfl ?_
            obtain ⟨q29130, hF⟩ := hF
            refine .v (ixS rfl rfl tS32 (k := 3) rfl (inb_n q29130 q29023)) rfl rfl rfl ?_
            obtain ⟨d2, q29131⟩ : ∃ y_ : List Int, y_ = (from_5.set (t40).toNat t35) := ⟨_, rfl⟩
            replace hF := hF d2 q29131
            refine stS (k := 3) (cs' := flL d2) rfl (fun _ => rfl) rfl rfl (fun w => (tO3 w).2) rfl rfl rfl (by rw [← q29023]; exact inb_pos q29130) (fl_room q29130) (by rw [q29131]; exact flL_set q29130 t35) ?_
            have q29132 : d2.length = r4.length := by rw [q29131]; exact List.length_set.trans q29023
            refine .cast (A' := ([Box pn [.int .i64 n_.events, .slice an_ n_.links.length cn_], Box pv [.int .i64 0, .int .i64 0], OwnSl 3 1 a2 ((n_.events).toNat) c2 (flL d), OwnSl 3 1 a4 r4.length c3 (flL d2), OwnSl 32 1 a r3.length c (rowsV vs r3)] ++ rowsA 3 vs r3)) rfl ?_
            refine .nil ?_
            refine .seqN ?_
            refine .region ?_
            refine .v (mv rfl) rfl rfl rfl ?_
            refine .v (asg rfl) rfl rfl rfl ?_
            refine .nil ?_
            refine .blkN ?_
            exact .use q29114 (t40, d, d2) ⟨hF, q29129, q29132⟩ (.cons rfl (.cons rfl (.cons rfl (.cons rfl (.cons rfl (.cons rfl (.cons rfl (.cons rfl (.cons rfl (.cons rfl (.cons rfl (.cons rfl (.cons rfl (.nil)))))))))))))) rfl (FH.le_refl _)
          replace hF := hF.2 q29123
          refine .skip ?_
          refine .blkN ?_
          exact .use q29114 (last5, dist5, from_5) ⟨hF, q29022, q29023⟩ (.cons rfl (.cons rfl (.cons rfl (.cons rfl (.cons rfl (.cons rfl (.cons rfl (.cons rfl (.cons rfl (.cons rfl (.cons rfl (.cons rfl (.cons rfl (.nil)))))))))))))) rfl (FH.le_refl _)
        refine .open_ (by kernel_rfl) (by kernel_rfl) ?_
        refine .v (mv rfl) rfl rfl rfl ?_
        refine .v (mv rfl) rfl rfl rfl ?_
        refine .v (bi rfl rfl rfl) rfl rfl rfl ?_
        refine .v (mv rfl) rfl rfl rfl ?_
        rcases Bool.eq_false_or_eq_true (t35 != t40) with q29133 | q29133
        · replace hF := hF.1 q29133
          refine .gv (mv rfl) rfl rfl rfl q29133 rfl rfl ?_
          refine .gv (mv rfl) rfl rfl rfl q29133 rfl rfl ?_
          obtain ⟨q29134, hF⟩ := hF
          refine .gv (ixS rfl rfl tS25 (k := 4) rfl q29134) rfl rfl rfl q29133 rfl rfl ?_
          refine .gv (ld1 (v := .slice ((gt vs t35).1) ((gt r3 t35).length) ((gt vs t35).2)) rfl tO32 (cell1 (k := 4) rfl (rowsV_get (gt_get (inb_of q8 q29134)) (gt_get q29134)))) rfl rfl rfl q29133 rfl rfl ?_
          refine .gv (mv rfl) rfl rfl rfl q29133 rfl rfl ?_
          obtain ⟨q29135, hF⟩ := hF
          refine .gv (ixS rfl rfl tS32 (k := (t35).toNat + 5) (rowsA_get (gt_get (inb_of q8 q29134)) (gt_get q29134)) q29135) rfl rfl rfl q29133 rfl rfl ?_
          refine .gv (ld1 (v := .int .i64 (gt (gt r3 t35) t40)) rfl tO3 (cellS (k := (t35).toNat + 5) (rowsA_get (gt_get (inb_of q8 q29134)) (gt_get q29134)) (flL_get q29135 (j := 0) rfl))) rfl rfl rfl q29133 rfl rfl ?_
          refine .gv (bi rfl rfl rfl) rfl rfl rfl q29133 rfl rfl ?_
          refine .v (pkT rfl q29133 rfl) rfl rfl rfl ?_
          refine .v (mv rfl) rfl rfl rfl ?_
          rcases Bool.eq_false_or_eq_true (decide ((gt (gt r3 t35) t40) < 1000000000)) with q29136 | q29136
          · replace hF := hF.1 q29136
            refine .gv (mv rfl) rfl rfl rfl q29136 rfl rfl ?_
            refine .gv (mv rfl) rfl rfl rfl q29136 rfl rfl ?_
            obtain ⟨q29137, hF⟩ := hF
            refine .gv (ixS rfl rfl tS32 (k := 2) rfl (inb_n q29137 q29022)) rfl rfl rfl q29136 rfl rfl ?_
            refine .gv (ld1 (v := .int .i64 (gt dist5 t35)) rfl tO3 (cellS (k := 2) rfl (flL_get q29137 (j := 0) rfl))) rfl rfl rfl q29136 rfl rfl ?_
            refine .gv (mv rfl) rfl rfl rfl q29136 rfl rfl ?_
            refine .gv (mv rfl) rfl rfl rfl q29136 rfl rfl ?_
            refine .gv (ixS rfl rfl tS25 (k := 4) rfl q29134) rfl rfl rfl q29136 rfl rfl ?_
            refine .gv (ld1 (v := .slice ((gt vs t35).1) ((gt r3 t35).length) ((gt vs t35).2)) rfl tO32 (cell1 (k := 4) rfl (rowsV_get (gt_get (inb_of q8 q29134)) (gt_get q29134)))) rfl rfl rfl q29136 rfl rfl ?_
            refine .gv (mv rfl) rfl rfl rfl q29136 rfl rfl ?_
            refine .gv (ixS rfl rfl tS32 (k := (t35).toNat + 5) (rowsA_get (gt_get (inb_of q8 q29134)) (gt_get q29134)) q29135) rfl rfl rfl q29136 rfl rfl ?_
            refine .gv (ld1 (v := .int .i64 (gt (gt r3 t35) t40)) rfl tO3 (cellS (k := (t35).toNat + 5) (rowsA_get (gt_get (inb_of q8 q29134)) (gt_get q29134)) (flL_get q29135 (j := 0) rfl))) rfl rfl rfl q29136 rfl rfl ?_
            refine .gv (bi rfl rfl rfl) rfl rfl rfl q29136 rfl rfl ?_
            refine .gv (mv rfl) rfl rfl rfl q29136 rfl rfl ?_
            refine .gv (mv rfl) rfl rfl rfl q29136 rfl rfl ?_
            obtain ⟨q29138, hF⟩ := hF
            refine .gv (ixS rfl rfl tS32 (k := 2) rfl (inb_n q29138 q29022)) rfl rfl rfl q29136 rfl rfl ?_
            refine .gv (ld1 (v := .int .i64 (gt dist5 t40)) rfl tO3 (cellS (k := 2) rfl (flL_get q29138 (j := 0) rfl))) rfl rfl rfl q29136 rfl rfl ?_
            obtain ⟨x, q29139⟩ : ∃ y_ : Bool, y_ = (decide ((IntKind.i64.wrap ((gt dist5 t35) + (gt (gt r3 t35) t40))) < (gt dist5 t40))) := ⟨_, rfl⟩
            replace hF := hF x q29139
            refine .gv (v := .bool x) (by rw [q29139]; exact bi rfl rfl rfl) rfl rfl rfl q29136 rfl rfl ?_
            refine .v (pkT rfl q29136 rfl) rfl rfl rfl ?_
            refine .fin ?_
            exact .use q29122 x hF (.cons rfl (.cons rfl (.cons rfl (.cons rfl (.cons rfl (.cons rfl (.cons rfl (.cons rfl (.cons rfl (.cons rfl (.cons rfl (.cons rfl (.cons rfl (.cons rfl (.cons rfl (.nil)))))))))))))))) rfl (FH.le_refl _)
          replace hF := hF.2 q29136
          refine .gS rfl rfl rfl q29136 rfl rfl ?_
          refine .gS rfl rfl rfl q29136 rfl rfl ?_
          refine .gS rfl rfl rfl q29136 rfl rfl ?_
          refine .gS rfl rfl rfl q29136 rfl rfl ?_
          refine .gS rfl rfl rfl q29136 rfl rfl ?_
          refine .gS rfl rfl rfl q29136 rfl rfl ?_
          refine .gS rfl rfl rfl q29136 rfl rfl ?_
          refine .gS rfl rfl rfl q29136 rfl rfl ?_
          refine .gS rfl rfl rfl q29136 rfl rfl ?_
          refine .gS rfl rfl rfl q29136 rfl rfl ?_
          refine .gS rfl rfl rfl q29136 rfl rfl ?_
          refine .gS rfl rfl rfl q29136 rfl rfl ?_
          refine .gS rfl rfl rfl q29136 rfl rfl ?_
          refine .gS rfl rfl rfl q29136 rfl rfl ?_
          refine .gS rfl rfl rfl q29136 rfl rfl ?_
          refine .gS rfl rfl rfl q29136 rfl rfl ?_
          refine .gS rfl rfl rfl q29136 rfl rfl ?_
          refine .v (pkF rfl q29136 rfl) rfl rfl rfl ?_
          refine .fin ?_
          exact .use q29122 false hF (.cons rfl (.cons rfl (.cons rfl (.cons rfl (.cons rfl (.cons rfl (.cons rfl (.cons rfl (.cons rfl (.cons rfl (.cons rfl (.cons rfl (.cons rfl (.cons rfl (.cons rfl (.nil)))))))))))))))) rfl (FH.le_refl _)
        replace hF := hF.2 q29133
        refine .gS rfl rfl rfl q29133 rfl rfl ?_
        refine .gS rfl rfl rfl q29133 rfl rfl ?_
        refine .gS rfl rfl rfl q29133 rfl rfl ?_
        refine .gS rfl rfl rfl q29133 rfl rfl ?_
        refine .gS rfl rfl rfl q29133 rfl rfl ?_
        refine .gS rfl rfl rfl q29133 rfl rfl ?_
        refine .gS rfl rfl rfl q29133 rfl rfl ?_
        refine .gS rfl rfl rfl q29133 rfl rfl ?_
        refine .v (pkF rfl q29133 rfl) rfl rfl rfl ?_
        refine .v (mv rfl) rfl rfl rfl ?_
        refine .gS rfl rfl rfl rfl rfl rfl ?_
        refine .gS rfl rfl rfl rfl rfl rfl ?_
        refine .gS rfl rfl rfl rfl rfl rfl ?_
        refine .gS rfl rfl rfl rfl rfl rfl ?_
        refine .gS rfl rfl rfl rfl rfl rfl ?_
        refine .gS rfl rfl rfl rfl rfl rfl ?_
        refine .gS rfl rfl rfl rfl rfl rfl ?_
        refine .gS rfl rfl rfl rfl rfl rfl ?_
        refine .gS rfl rfl rfl rfl rfl rfl ?_
        refine .gS rfl rfl rfl rfl rfl rfl ?_
        refine .gS rfl rfl rfl rfl rfl rfl ?_
        refine .gS rfl rfl rfl rfl rfl rfl ?_
        refine .gS rfl rfl rfl rfl rfl rfl ?_
        refine .gS rfl rfl rfl rfl rfl rfl ?_
        refine .gS rfl rfl rfl rfl rfl rfl ?_
        refine .gS rfl rfl rfl rfl rfl rfl ?_
        refine .gS rfl rfl rfl rfl rfl rfl ?_
        refine .v (pkF rfl rfl rfl) rfl rfl rfl ?_
        refine .fin ?_
        exact .use q29122 false hF (.cons rfl (.cons rfl (.cons rfl (.cons rfl (.cons rfl (.cons rfl (.cons rfl (.cons rfl (.cons rfl (.cons rfl (.cons rfl (.cons rfl (.cons rfl (.cons rfl (.cons rfl (.nil)))))))))))))))) rfl (FH.le_refl _)
      replace hF := hF.2 q29086
      refine .exit ?_
      refine .seqX ?_
      refine .seqX ?_
      refine .blkX ?_
      refine .blkN ?_
      refine .seqN ?_
      refine .region ?_
      refine .v (bi rfl rfl rfl) rfl rfl rfl ?_
      refine .v (mv rfl) rfl rfl rfl ?_
      refine .nil ?_
      exact .round (last5, IntKind.i64.wrap (t35 + 1), dist5, from_5) ⟨hF.1, q29022, q29023⟩ hF.2 (.cons rfl (.cons rfl (.cons rfl (.cons rfl (.cons rfl (.cons rfl (.cons rfl (.cons rfl (.cons rfl (.cons rfl (.nil))))))))))) rfl (FH.le_refl _)
    replace hF := hF.2 q28605
    refine .exit ?_
    refine .seqX ?_
    refine .seqX ?_
    refine .blkX ?_
    refine .blkN ?_
    refine .seqN ?_
    refine .region ?_
    refine .v (bi rfl rfl rfl) rfl rfl rfl ?_
    refine .v (mv rfl) rfl rfl rfl ?_
    refine .nil ?_
    exact .round (last3, IntKind.i64.wrap (t31 + 1), dist3, from_3) ⟨hF.1, q28060, q28061⟩ hF.2 (.cons rfl (.cons rfl (.cons rfl (.cons rfl (.cons rfl (.cons rfl (.cons rfl (.cons rfl (.nil))))))))) rfl (FH.le_refl _)
  replace hF := hF.2 q24303
  refine .exit ?_
  refine .seqX ?_
  refine .seqX ?_
  refine .blkX ?_
  refine .seqN ?_
  refine .seq ?_
  refine .seq ?_
  refine .region ?_
  refine .v (mv rfl) rfl rfl rfl ?_
  refine .v (bi rfl rfl rfl) rfl rfl rfl ?_
  refine .nil ?_
  refine .seqN ?_
  refine .cond rfl (fun q29141 => ?_) (fun q29141 => ?_)
  · replace hF := hF.1 q29141
    refine .seq ?_
    refine .region ?_
    refine .v (bld (cs := #[.int .i64 0, .int .i64 0]) (pv := []) tB27 rfl rfl) rfl rfl rfl ?_
    refine .v (asg rfl) rfl rfl rfl ?_
    refine .v (asg rfl) rfl rfl rfl ?_
    refine st (p := pv) (off := 0) (k := 1) (vs := [.int .i64 0, .int .i64 0]) rfl rfl rfl (fun w => (tA27 w).2) rfl rfl rfl rfl ?_
    refine .cast (A' := ([Box pn [.int .i64 n_.events, .slice an_ n_.links.length cn_], Box pv [.int .i64 0, .int .i64 0], OwnSl 3 1 a2 ((n_.events).toNat) c2 (flL dist), OwnSl 3 1 a4 r4.length c3 (flL from_), OwnSl 32 1 a r3.length c (rowsV vs r3)] ++ rowsA 3 vs r3)) rfl ?_
    refine .nil ?_
    refine .seqN ?_
    refine .ret ?_
    refine .seqR ?_
    refine .res3 rfl (rvT rfl) (rvT rfl) (rvC rfl tA27 (k := 1) rfl rfl) (fun w' S => ⟨(([] : List Int), false, (⟨0, 0⟩ : Fault)), (none, 0), h, hF, rfl, (FH.le_refl _), ⟨RSl.nil_, (Nat.le_refl 0)⟩, S.none⟩)
  replace hF := hF.2 q29141
  refine .skip ?_
  refine .seqN ?_
  refine .seq ?_
  refine .seq ?_
  refine .region ?_
  refine .v (fa rfl tF24_0) rfl rfl rfl ?_
  refine .v (ld1 rfl tO3 (cellB (off := 0) (k := 0) rfl rfl)) rfl rfl rfl ?_
  refine .v (mv rfl) rfl rfl rfl ?_
  refine .nil ?_
  refine .seqN ?_
  refine .block ?_
  refine .selD (L := [Box pn [.int .i64 n_.events, .slice an_ n_.links.length cn_], Box pv [.int .i64 0, .int .i64 0], OwnSl 3 1 a2 ((n_.events).toNat) c2 (flL dist), OwnSl 3 1 a4 r4.length c3 (flL from_), OwnSl 32 1 a r3.length c (rowsV vs r3)]) [1, 3] rfl (by decide) rfl ?_
  obtain ⟨I4, μ4, q29174, q29175⟩ := hF
  refine .loop' (σ := Int × Int) (fun z => I4 z.1 z.2) (fun z => μ4 z.1 z.2) (fun z => [(4, .pointer (some pv)), (8, .slice a4 r4.length c3), (9, .int .i64 z.1), (102, .int .i64 n_.events), (103, .int .i64 z.2)]) (fun _ => [Box pv [.int .i64 0, .int .i64 0], OwnSl 3 1 a4 r4.length c3 (flL from_)]) (fun _ => h) (last, 0) q29174 (.cons rfl (.cons rfl (.cons rfl (.cons rfl (.cons rfl (.nil)))))) rfl (FH.le_refl _) ?_
  rintro ⟨last8, t103⟩ q29174
  have hF := q29175 last8 t103 q29174
  show J _ _ _ _ _ [(4, .pointer (some pv)), (8, .slice a4 r4.length c3), (9, .int .i64 last8), (102, .int .i64 n_.events), (103, .int .i64 t103)] [Box pv [.int .i64 0, .int .i64 0], OwnSl 3 1 a4 r4.length c3 (flL from_)] h
  refine .seq ?_
  refine .region ?_
  refine .v (bi rfl rfl rfl) rfl rfl rfl ?_
  refine .nil ?_
  refine .seqN ?_
  refine .seq ?_
  refine .cond rfl (fun q29178 => ?_) (fun q29178 => ?_)
  · replace hF := hF.1 q29178
    refine .skip ?_
    refine .seqN ?_
    refine .seq ?_
    refine .block ?_
    refine .region ?_
    refine .v (mv rfl) rfl rfl rfl ?_
    refine .v (mv rfl) rfl rfl rfl ?_
    obtain ⟨q29181, hF⟩ := hF
    refine .v (ixS rfl rfl tS32 (k := 1) rfl (inb_n q29181 q19457)) rfl rfl rfl ?_
    refine .v (ld1 (v := .int .i64 (gt from_ last8)) rfl tO3 (cellS (k := 1) rfl (flL_get q29181 (j := 0) rfl))) rfl rfl rfl ?_
    refine .v (asg rfl) rfl rfl rfl ?_
    refine .nil ?_
    refine .blkN ?_
    refine .seqN ?_
    refine .region ?_
    refine .v (bi rfl rfl rfl) rfl rfl rfl ?_
    refine .v (mv rfl) rfl rfl rfl ?_
    refine .nil ?_
    exact .round ((gt from_ last8), IntKind.i64.wrap (t103 + 1)) hF.1 hF.2 (.cons rfl (.cons rfl (.cons rfl (.cons rfl (.cons rfl (.nil)))))) rfl (FH.le_refl _)
  replace hF := hF.2 q29178
  refine .exit ?_
  refine .seqX ?_
  refine .seqX ?_
  refine .blkX ?_
  refine .seqN ?_
  refine .seq ?_
  refine .region ?_
  refine .v (mv rfl) rfl rfl rfl ?_
  refine bs2 (cs := #[.int .i64 last8]) (pv := [(0, .int .i64 last8)]) tS32 rfl rfl (by decide) (by decide) rfl rfl rfl (fun a5 _ => ?_)
  refine .cast (A' := [OwnSl 3 1 a5 (([last8] : List Int).length) 1 (flL ([last8] : List Int)), Box pv [.int .i64 0, .int .i64 0], OwnSl 3 1 a4 r4.length c3 (flL from_)]) rfl ?_
  refine .v (asg rfl) rfl rfl rfl ?_
  refine .nil ?_
  refine .seqN ?_
  refine .seq ?_
  refine .seq ?_
  refine .region ?_
  refine .v (mv rfl) rfl rfl rfl ?_
  refine .v (mv rfl) rfl rfl rfl ?_
  obtain ⟨q29183, hF⟩ := hF
  refine .v (ixS rfl rfl tS32 (k := 2) rfl (inb_n q29183 q19457)) rfl rfl rfl ?_
  refine .v (ld1 (v := .int .i64 (gt from_ last8)) rfl tO3 (cellS (k := 2) rfl (flL_get q29183 (j := 0) rfl))) rfl rfl rfl ?_
  refine .v (asg rfl) rfl rfl rfl ?_
  refine .nil ?_
  refine .seqN ?_
  refine .block ?_
  refine .sel0 [1, 2, 0] (by decide) rfl ?_
  obtain ⟨I5, μ5, q29246, q29247⟩ := hF
  refine .loop' (σ := Int × List Int × Option Addr × Nat) (fun z => I5 z.1 z.2.1) (fun z => μ5 z.1 z.2.1) (fun z => [(4, .pointer (some pv)), (8, .slice a4 r4.length c3), (9, .int .i64 last8), (12, .slice z.2.2.1 z.2.1.length z.2.2.2), (13, .int .i64 z.1)]) (fun z => [Box pv [.int .i64 0, .int .i64 0], OwnSl 3 1 a4 r4.length c3 (flL from_), OwnSl 3 1 z.2.2.1 z.2.1.length z.2.2.2 (flL z.2.1)]) (fun _ => h) ((gt from_ last8), ([last8] : List Int), a5, 1) q29246 (.cons rfl (.cons rfl (.cons rfl (.cons rfl (.cons rfl (.nil)))))) rfl (FH.le_refl _) ?_
  rintro ⟨e_, out, aout, cout⟩ q29246
  have hF := q29247 e_ out q29246
  show J _ _ _ _ _ [(4, .pointer (some pv)), (8, .slice a4 r4.length c3), (9, .int .i64 last8), (12, .slice aout out.length cout), (13, .int .i64 e_)] [Box pv [.int .i64 0, .int .i64 0], OwnSl 3 1 a4 r4.length c3 (flL from_), OwnSl 3 1 aout out.length cout (flL out)] h
  refine .seq ?_
  refine .seq ?_
  refine .region ?_
  refine .v (mv rfl) rfl rfl rfl ?_
  refine .v (mv rfl) rfl rfl rfl ?_
  refine .v (bi rfl rfl rfl) rfl rfl rfl ?_
  refine .nil ?_
  refine .seqN ?_
  refine .cond rfl (fun q29249 => ?_) (fun q29249 => ?_)
  · replace hF := hF.1 q29249
    refine .skip ?_
    refine .seqN ?_
    refine .seq ?_
    refine .block ?_
    refine .region ?_
    refine .v (mv rfl) rfl rfl rfl ?_
    refine .v (mv rfl) rfl rfl rfl ?_
    refine bs2 (cs := #[.int .i64 e_]) (pv := [(0, .int .i64 e_)]) tS32 rfl rfl (by decide) (by decide) rfl rfl rfl (fun a6 _ => ?_)
    refine .cast (A' := [OwnSl 3 1 a6 (([e_] : List Int).length) 1 (flL ([e_] : List Int)), Box pv [.int .i64 0, .int .i64 0], OwnSl 3 1 a4 r4.length c3 (flL from_), OwnSl 3 1 aout out.length cout (flL out)]) rfl ?_
    obtain ⟨q29257, hF⟩ := hF
    have q29258 : out.length + ([e_] : List Int).length = ((out ++ ([e_] : List Int))).length := len_app rfl rfl
    refine app (k := 3) (news := flL ([e_] : List Int)) (cs' := flL (out ++ ([e_] : List Int))) (nm := ((out ++ ([e_] : List Int))).length) tS32 rfl (by decide) rfl rfl rfl (by rw [flL_len]; rfl) (srcS (k := 0) rfl) (flL_one _) (room_of q29258 q29257).1 (room_of q29258 q29257).2 q29258 (flL_append _ _).symm rfl (fun a7 c4 => ?_)
    refine .cast (A' := [OwnSl 3 1 a6 (([e_] : List Int).length) 1 (flL ([e_] : List Int)), Box pv [.int .i64 0, .int .i64 0], OwnSl 3 1 a4 r4.length c3 (flL from_), OwnSl 3 1 a7 ((out ++ ([e_] : List Int)).length) c4 (flL (out ++ ([e_] : List Int)))]) rfl ?_
    refine .v (asg rfl) rfl rfl rfl ?_
    refine .nil ?_
    refine .blkN ?_
    refine .seqN ?_
    refine .region ?_
    refine .v (mv rfl) rfl rfl rfl ?_
    refine .v (mv rfl) rfl rfl rfl ?_
    obtain ⟨q29259, hF⟩ := hF
    refine .v (ixS rfl rfl tS32 (k := 2) rfl (inb_n q29259 q19457)) rfl rfl rfl ?_
    refine .v (ld1 (v := .int .i64 (gt from_ e_)) rfl tO3 (cellS (k := 2) rfl (flL_get q29259 (j := 0) rfl))) rfl rfl rfl ?_
    refine .v (asg rfl) rfl rfl rfl ?_
    refine .nil ?_
    refine .sel0 [1, 2, 3] (by decide) rfl ?_
    exact .round ((gt from_ e_), (out ++ ([e_] : List Int)), a7, c4) hF.1 hF.2 (.cons rfl (.cons rfl (.cons rfl (.cons rfl (.cons rfl (.nil)))))) rfl (FH.le_refl _)
  replace hF := hF.2 q29249
  refine .exit ?_
  refine .seqX ?_
  refine .seqX ?_
  refine .blkX ?_
  refine .seqN ?_
  refine .seq ?_
  refine .region ?_
  refine .v (mv rfl) rfl rfl rfl ?_
  obtain ⟨q29260, hF⟩ := hF
  obtain ⟨r5, q29261⟩ : ∃ y_ : List Int, y_ = sp_reverse out := ⟨_, rfl⟩
  replace hF := hF r5 q29261
  refine callX (k := 2) (v := .tuple #[]) (X' := OwnSl 3 1 aout out.length cout (flL r5)) rfl Try.call56 rfl rfl (fun w g hx sg hd hs' => ?_) rfl ?_
  · rw [q29261]; exact c_reverse hs' out aout cout hx sg hd q29260
  have q29262 : r5.length = out.length := by rw [q29261]; exact (sp_reverse_len out).trans rfl
  refine .cast (A' := [Box pv [.int .i64 0, .int .i64 0], OwnSl 3 1 a4 r4.length c3 (flL from_), OwnSl 3 1 aout out.length cout (flL r5)]) rfl ?_
  refine .nil ?_
  refine .seqN ?_
  refine .seq ?_
  refine .region ?_
  refine .v (mv rfl) rfl rfl rfl ?_
  refine .v (bld (cs := #[.int .i64 0, .int .i64 0]) (pv := []) tB27 rfl rfl) rfl rfl rfl ?_
  refine .v (asg rfl) rfl rfl rfl ?_
  refine .v (asg rfl) rfl rfl rfl ?_
  refine st (p := pv) (off := 0) (k := 0) (vs := [.int .i64 0, .int .i64 0]) rfl rfl rfl (fun w => (tA27 w).2) rfl rfl rfl rfl ?_
  refine .cast (A' := [Box pv [.int .i64 0, .int .i64 0], OwnSl 3 1 a4 r4.length c3 (flL from_), OwnSl 3 1 aout out.length cout (flL r5)]) rfl ?_
  refine .nil ?_
  refine .seqN ?_
  refine .freezeL (k := 2) rfl (fun h1 le1 q29264 q29263 => ?_)
  refine .cast (A' := [Box pv [.int .i64 0, .int .i64 0], OwnSl 3 1 a4 r4.length c3 (flL from_), tru]) rfl ?_
  refine .ret ?_
  refine .res3 rfl (rvT rfl) (rvT rfl) (rvC rfl tA27 (k := 0) rfl rfl) (fun w' S => ⟨(r5, true, (⟨0, 0⟩ : Fault)), (aout, cout), h1, hF, (by simp only [q29262]), (le1), ⟨(RSl.of q29263), (by rw [q29262]; exact q29264)⟩, S.none⟩)

theorem c_cycle {h : FH} {w : World} (hs : Sub h w) (n_ : Network) (an_ : Option Addr) (cn_ : Nat) (_q1 : RSl h an_ n_.links) (_q2 : n_.links.length ≤ cn_) : Calls Try.prog 34 #[.agg #[.int .i64 n_.events, .slice an_ n_.links.length cn_]] w fun e w' => ∃ (z : Option Addr × Nat) (h1 : FH), e = .returned (.tuple #[.slice z.1 (sp_cycle n_).1.length z.2, .bool (sp_cycle n_).2.1, .agg #[.int .i64 (sp_cycle n_).2.2.code, .int .i64 (sp_cycle n_).2.2.index]]) ∧ FH.le h h1 ∧ (RSl h1 z.1 (sp_cycle n_).1 ∧ (sp_cycle n_).1.length ≤ z.2) ∧ SH (Kp.all w h) h1 w' [] :=
  (w_cycle hs n_ an_ cn_ _q1 _q2 (fun r => r = sp_cycle n_) (ok_cycle n_)).mono fun _ _ ⟨r, z, h1, hk, he, hl, hf, hS⟩ => by subst hk; exact ⟨z, h1, he, hl, hf, hS⟩

set_option maxHeartbeats 8000000 in
theorem w_lawConsistentOrCycle {h : FH} {w : World} (hs : Sub h w) (n_ : Network) (an_ : Option Addr) (cn_ : Nat) (_q1 : RSl h an_ n_.links) (_q2 : n_.links.length ≤ cn_) (K : Bool → Prop) (hF : F_lawConsistentOrCycle n_ K) : Calls Try.prog 9 #[.agg #[.int .i64 n_.events, .slice an_ n_.links.length cn_]] w fun e w' => ∃ r : Bool, K r ∧ e = .returned (.bool r) ∧ Below w.heap.size w w' := by
  refine enter (args := [.agg #[.int .i64 n_.events, .slice an_ n_.links.length cn_]]) Try.func9 rfl Try.ntmps9 rfl hs ?_
  refine .seq ?_
  refine .region ?_
  refine bx (vs := [.int .i64 n_.events, .slice an_ n_.links.length cn_]) rfl rfl rfl (fun pn => ?_)
  refine .v (asg rfl) rfl rfl rfl ?_
  refine .nil ?_
  refine .seqN ?_
  refine .seq ?_
  refine .region ?_
  refine .v (ldA (cs := [.int .i64 n_.events, .slice an_ n_.links.length cn_]) rfl tA24 rfl (cellsB (off := 0) (k := 0) rfl (m := 2) rfl)) rfl rfl rfl ?_
  obtain ⟨r2, q3⟩ : ∃ y_ : List Int × Bool × Fault, y_ = sp_earliest n_ := ⟨_, rfl⟩
  replace hF := hF r2 q3
  refine clR (α := Option Addr × Nat) (Φ := fun h1 z => RSl h1 z.1 r2.1 ∧ r2.1.length ≤ z.2) (V := fun z => .tuple #[.slice z.1 r2.1.length z.2, .bool r2.2.1, .agg #[.int .i64 r2.2.2.code, .int .i64 r2.2.2.index]]) Try.call19 rfl rfl (fun w S => (by rw [q3]; exact c_earliest S.sub n_ an_ cn_ _q1 _q2 )) rfl (fun z h1 le1 hz => ?_)
  obtain ⟨a, c⟩ := z
  obtain ⟨q4, q5⟩ := hz
  refine .v (mv rfl) rfl rfl rfl ?_
  refine .v (ext rfl rfl) rfl rfl rfl ?_
  refine .v (ext rfl rfl) rfl rfl rfl ?_
  refine .v (ext rfl rfl) rfl rfl rfl ?_
  refine al tZ27 rfl (fun pf => ?_)
  refine .v (asg rfl) rfl rfl rfl ?_
  refine .v (asg rfl) rfl rfl rfl ?_
  refine st (p := pf) (off := 0) (k := 0) (vs := [.int .i64 r2.2.2.code, .int .i64 r2.2.2.index]) rfl rfl rfl (fun w => (tA27 w).2) rfl rfl rfl rfl ?_
  refine .cast (A' := [Box pf [.int .i64 r2.2.2.code, .int .i64 r2.2.2.index], Box pn [.int .i64 n_.events, .slice an_ n_.links.length cn_]]) rfl ?_
  refine .nil ?_
  refine .seqN ?_
  refine .seq ?_
  refine .region ?_
  refine .v (ldA (cs := [.int .i64 n_.events, .slice an_ n_.links.length cn_]) rfl tA24 rfl (cellsB (off := 0) (k := 1) rfl (m := 2) rfl)) rfl rfl rfl ?_
  obtain ⟨r3, q6⟩ : ∃ y_ : List Int × Bool × Fault, y_ = sp_cycle n_ := ⟨_, rfl⟩
  replace hF := hF r3 q6
  refine clR (α := Option Addr × Nat) (Φ := fun h1 z => RSl h1 z.1 r3.1 ∧ r3.1.length ≤ z.2) (V := fun z => .tuple #[.slice z.1 r3.1.length z.2, .bool r3.2.1, .agg #[.int .i64 r3.2.2.code, .int .i64 r3.2.2.index]]) Try.call34 rfl rfl (fun w S => (by rw [q6]; exact c_cycle S.sub n_ an_ cn_ (_q1.mono (le1)) _q2 )) rfl (fun z h2 le2 hz => ?_)
  obtain ⟨a2, c2⟩ := z
  obtain ⟨q7, q8⟩ := hz
  refine .v (mv rfl) rfl rfl rfl ?_
  refine .v (ext rfl rfl) rfl rfl rfl ?_
  refine .v (ext rfl rfl) rfl rfl rfl ?_
  refine .v (ext rfl rfl) rfl rfl rfl ?_
  refine al tZ27 rfl (fun pg => ?_)
  refine .v (asg rfl) rfl rfl rfl ?_
  refine .v (asg rfl) rfl rfl rfl ?_
  refine st (p := pg) (off := 0) (k := 0) (vs := [.int .i64 r3.2.2.code, .int .i64 r3.2.2.index]) rfl rfl rfl (fun w => (tA27 w).2) rfl rfl rfl rfl ?_
  refine .cast (A' := [Box pg [.int .i64 r3.2.2.code, .int .i64 r3.2.2.index], Box pf [.int .i64 r2.2.2.code, .int .i64 r2.2.2.index], Box pn [.int .i64 n_.events, .slice an_ n_.links.length cn_]]) rfl ?_
  refine .nil ?_
  refine .seqN ?_
  refine .seq ?_
  refine .share (σ := Bool) (fun z => F_lawConsistentOrCycle_J1 n_ K r2 r3 z) (fun z => [(1, .pointer (some pn)), (3, .slice a r2.1.length c), (4, .bool r2.2.1), (5, .pointer (some pf)), (6, .slice a2 r3.1.length c2), (7, .bool r3.2.1), (8, .pointer (some pg)), (33, .bool z)]) (fun _ => [Box pn [.int .i64 n_.events, .slice an_ n_.links.length cn_], Box pf [.int .i64 r2.2.2.code, .int .i64 r2.2.2.index], Box pg [.int .i64 r3.2.2.code, .int .i64 r3.2.2.index]]) (fun _ => h2) ?_ (fun q10 => ?_)
  · rintro t33 hF
    show J _ _ _ _ _ [(1, .pointer (some pn)), (3, .slice a r2.1.length c), (4, .bool r2.2.1), (5, .pointer (some pf)), (6, .slice a2 r3.1.length c2), (7, .bool r3.2.1), (8, .pointer (some pg)), (33, .bool t33)] [Box pn [.int .i64 n_.events, .slice an_ n_.links.length cn_], Box pf [.int .i64 r2.2.2.code, .int .i64 r2.2.2.index], Box pg [.int .i64 r3.2.2.code, .int .i64 r3.2.2.index]] h2
    refine .cond rfl (fun q16 => ?_) (fun q16 => ?_)
    · replace hF := hF.1 q16
      refine .seq ?_
      refine .region ?_
      refine .v (ldA (cs := [.int .i64 r2.2.2.code, .int .i64 r2.2.2.index]) rfl tA27 rfl (cellsB (off := 0) (k := 1) rfl (m := 2) rfl)) rfl rfl rfl ?_
      refine .v (ldA (cs := [.int .i64 r3.2.2.code, .int .i64 r3.2.2.index]) rfl tA27 rfl (cellsB (off := 0) (k := 2) rfl (m := 2) rfl)) rfl rfl rfl ?_
      refine .v (eq2 tE27 rfl rfl) rfl rfl rfl ?_
      refine .v (mv rfl) rfl rfl rfl ?_
      rcases Bool.eq_false_or_eq_true ((r2.2.2.code == r3.2.2.code) && (r2.2.2.index == r3.2.2.index)) with q19 | q19
      · replace hF := hF.1 q19
        obtain ⟨r4, q20⟩ : ∃ y_ : Bool, y_ = sp_bounded := ⟨_, rfl⟩
        replace hF := hF r4 q20
        refine .gc (cl (v := .bool r4) Try.call17 rfl rfl (fun w S => (by rw [q20]; exact c_bounded S.sub  ))) rfl rfl rfl q19 rfl rfl ?_
        refine .v (pkT rfl q19 rfl) rfl rfl rfl ?_
        refine .v (asg rfl) rfl rfl rfl ?_
        refine .nil ?_
        refine .seqN ?_
        refine .ret ?_
        refine .seqR ?_
        refine .res1 rfl (rvT rfl) (fun w' S => ⟨r4, hF, rfl, S.below⟩)
      replace hF := hF.2 q19
      refine .gS rfl rfl rfl q19 rfl rfl ?_
      refine .v (pkF rfl q19 rfl) rfl rfl rfl ?_
      refine .v (asg rfl) rfl rfl rfl ?_
      refine .nil ?_
      refine .seqN ?_
      refine .ret ?_
      refine .seqR ?_
      refine .res1 rfl (rvT rfl) (fun w' S => ⟨false, hF, rfl, S.below⟩)
    replace hF := hF.2 q16
    refine .skip ?_
    refine .seqN ?_
    refine .seq ?_
    refine .seq ?_
    refine .region ?_
    refine .v (mv rfl) rfl rfl rfl ?_
    refine .v (mv rfl) rfl rfl rfl ?_
    refine .v (beql Try.underlying4 rfl rfl) rfl rfl rfl ?_
    refine .nil ?_
    refine .seqN ?_
    refine .cond rfl (fun q22 => ?_) (fun q22 => ?_)
    · replace hF := hF.1 q22
      refine .seq ?_
      refine .region ?_
      refine .v (asg rfl) rfl rfl rfl ?_
      refine .nil ?_
      refine .seqN ?_
      refine .ret ?_
      refine .seqR ?_
      refine .res1 rfl (rvT rfl) (fun w' S => ⟨false, hF, rfl, S.below⟩)
    replace hF := hF.2 q22
    refine .skip ?_
    refine .seqN ?_
    refine .seq ?_
    refine .seq ?_
    refine .region ?_
    refine .v (mv rfl) rfl rfl rfl ?_
    refine .nil ?_
    refine .seqN ?_
    refine .cond rfl (fun q33 => ?_) (fun q33 => ?_)
    · replace hF := hF.1 q33
      refine .seq ?_
      refine .region ?_
      refine .v (ldA (cs := [.int .i64 n_.events, .slice an_ n_.links.length cn_]) rfl tA24 rfl (cellsB (off := 0) (k := 0) rfl (m := 2) rfl)) rfl rfl rfl ?_
      refine .v (mv rfl) rfl rfl rfl ?_
      obtain ⟨r5, q34⟩ : ∃ y_ : Bool × Fault, y_ = sp_respects n_ r2.1 := ⟨_, rfl⟩
      replace hF := hF r5 q34
      refine .c (cl (v := .tuple #[.bool r5.1, .agg #[.int .i64 r5.2.code, .int .i64 r5.2.index]]) Try.call18 rfl rfl (fun w S => (by rw [q34]; exact c_respects S.sub n_ an_ cn_ (_q1.mono (FH.le_trans (le1) (le2))) _q2 r2.1 a c (q4.mono (le2)) q5 ))) rfl rfl rfl ?_
      refine .v (mv rfl) rfl rfl rfl ?_
      refine .v (ext rfl rfl) rfl rfl rfl ?_
      refine .v (ext rfl rfl) rfl rfl rfl ?_
      refine al tZ27 rfl (fun ph => ?_)
      refine .v (asg rfl) rfl rfl rfl ?_
      refine st (p := ph) (off := 0) (k := 0) (vs := [.int .i64 r5.2.code, .int .i64 r5.2.index]) rfl rfl rfl (fun w => (tA27 w).2) rfl rfl rfl rfl ?_
      refine .cast (A' := [Box ph [.int .i64 r5.2.code, .int .i64 r5.2.index], Box pn [.int .i64 n_.events, .slice an_ n_.links.length cn_], Box pf [.int .i64 r2.2.2.code, .int .i64 r2.2.2.index], Box pg [.int .i64 r3.2.2.code, .int .i64 r3.2.2.index]]) rfl ?_
      refine .nil ?_
      refine .seqN ?_
      refine .seq ?_
      refine .region ?_
      refine .v (fa rfl tF27_0) rfl rfl rfl ?_
      refine .v (ld1 rfl tO3 (cellB (off := 0) (k := 0) rfl rfl)) rfl rfl rfl ?_
      refine .v (bi rfl rfl rfl) rfl rfl rfl ?_
      refine .v (mv rfl) rfl rfl rfl ?_
      rcases Bool.eq_false_or_eq_true (r5.2.code == 0) with q39 | q39
      · replace hF := hF.1 q39
        refine .gv (mv rfl) rfl rfl rfl q39 rfl rfl ?_
        refine .v (pkT rfl q39 rfl) rfl rfl rfl ?_
        refine .v (mv rfl) rfl rfl rfl ?_
        rcases Bool.eq_false_or_eq_true (r5.1) with q40 | q40
        · replace hF := hF.1 q40
          refine .gv (mv rfl) rfl rfl rfl q40 rfl rfl ?_
          refine .gv (ln rfl tS32.is) rfl rfl rfl q40 rfl rfl ?_
          refine .gv (bi rfl rfl rfl) rfl rfl rfl q40 rfl rfl ?_
          refine .v (pkT rfl q40 rfl) rfl rfl rfl ?_
          refine .v (mv rfl) rfl rfl rfl ?_
          rcases Bool.eq_false_or_eq_true (((r3.1.length : Nat) : Int) == 0) with q41 | q41
          · replace hF := hF.1 q41
            obtain ⟨r6, q42⟩ : ∃ y_ : Bool, y_ = sp_bounded := ⟨_, rfl⟩
            replace hF := hF r6 q42
            refine .gc (cl (v := .bool r6) Try.call17 rfl rfl (fun w S => (by rw [q42]; exact c_bounded S.sub  ))) rfl rfl rfl q41 rfl rfl ?_
            refine .v (pkT rfl q41 rfl) rfl rfl rfl ?_
            refine .v (asg rfl) rfl rfl rfl ?_
            refine .nil ?_
            refine .seqN ?_
            refine .ret ?_
            refine .seqR ?_
            refine .res1 rfl (rvT rfl) (fun w' S => ⟨r6, hF, rfl, S.below⟩)
          replace hF := hF.2 q41
          refine .gS rfl rfl rfl q41 rfl rfl ?_
          refine .v (pkF rfl q41 rfl) rfl rfl rfl ?_
          refine .v (asg rfl) rfl rfl rfl ?_
          refine .nil ?_
          refine .seqN ?_
          refine .ret ?_
          refine .seqR ?_
          refine .res1 rfl (rvT rfl) (fun w' S => ⟨false, hF, rfl, S.below⟩)
        replace hF := hF.2 q40
        refine .gS rfl rfl rfl q40 rfl rfl ?_
        refine .gS rfl rfl rfl q40 rfl rfl ?_
        refine .gS rfl rfl rfl q40 rfl rfl ?_
        refine .v (pkF rfl q40 rfl) rfl rfl rfl ?_
        refine .v (mv rfl) rfl rfl rfl ?_
        refine .gS rfl rfl rfl rfl rfl rfl ?_
        refine .v (pkF rfl rfl rfl) rfl rfl rfl ?_
        refine .v (asg rfl) rfl rfl rfl ?_
        refine .nil ?_
        refine .seqN ?_
        refine .ret ?_
        refine .seqR ?_
        refine .res1 rfl (rvT rfl) (fun w' S => ⟨false, hF, rfl, S.below⟩)
      replace hF := hF.2 q39
      refine .gS rfl rfl rfl q39 rfl rfl ?_
      refine .v (pkF rfl q39 rfl) rfl rfl rfl ?_
      refine .v (mv rfl) rfl rfl rfl ?_
      refine .gS rfl rfl rfl rfl rfl rfl ?_
      refine .gS rfl rfl rfl rfl rfl rfl ?_
      refine .gS rfl rfl rfl rfl rfl rfl ?_
      refine .v (pkF rfl rfl rfl) rfl rfl rfl ?_
      refine .v (mv rfl) rfl rfl rfl ?_
      refine .gS rfl rfl rfl rfl rfl rfl ?_
      refine .v (pkF rfl rfl rfl) rfl rfl rfl ?_
      refine .v (asg rfl) rfl rfl rfl ?_
      refine .nil ?_
      refine .seqN ?_
      refine .ret ?_
      refine .seqR ?_
      refine .res1 rfl (rvT rfl) (fun w' S => ⟨false, hF, rfl, S.below⟩)
    replace hF := hF.2 q33
    refine .skip ?_
    refine .seqN ?_
    refine .seq ?_
    refine .seq ?_
    refine .region ?_
    refine .v (asg rfl) rfl rfl rfl ?_
    refine .nil ?_
    refine .seqN ?_
    refine .block ?_
    refine .sel0 [0] (by decide) rfl ?_
    obtain ⟨I1, μ1, q130, q131⟩ := hF
    refine .loop' (σ := Int) (fun z => I1 z) (fun z => μ1 z) (fun z => [(1, .pointer (some pn)), (6, .slice a2 r3.1.length c2), (11, .int .i64 z)]) (fun _ => [Box pn [.int .i64 n_.events, .slice an_ n_.links.length cn_]]) (fun _ => h2) 0 q130 (.cons rfl (.cons rfl (.cons rfl (.nil)))) rfl (FH.le_refl _) ?_
    rintro i q130
    have hF := q131 i q130
    show J _ _ _ _ _ [(1, .pointer (some pn)), (6, .slice a2 r3.1.length c2), (11, .int .i64 i)] [Box pn [.int .i64 n_.events, .slice an_ n_.links.length cn_]] h2
    refine .seq ?_
    refine .seq ?_
    refine .region ?_
    refine .v (mv rfl) rfl rfl rfl ?_
    refine .v (mv rfl) rfl rfl rfl ?_
    refine .v (ln rfl tS32.is) rfl rfl rfl ?_
    refine .v (bi rfl rfl rfl) rfl rfl rfl ?_
    refine .nil ?_
    refine .seqN ?_
    refine .cond rfl (fun q133 => ?_) (fun q133 => ?_)
    · replace hF := hF.1 q133
      refine .skip ?_
      refine .seqN ?_
      refine .seq ?_
      refine .block ?_
      refine .seq ?_
      refine .open_ (by kernel_rfl) (by kernel_rfl) ?_
      refine .v (mv rfl) rfl rfl rfl ?_
      refine .v (mv rfl) rfl rfl rfl ?_
      obtain ⟨q144, hF⟩ := hF
      refine .v (slH tS32 rfl rfl q144.1 (take_len q144).symm (take_cap q8)) rfl rfl rfl ?_
      refine .v (mv rfl) rfl rfl rfl ?_
      refine .v (mv rfl) rfl rfl rfl ?_
      obtain ⟨q145, hF⟩ := hF
      refine .v (ix rfl rfl tS32 (q7.ne (by decide) (inb_pos q145)) q145) rfl rfl rfl ?_
      refine .v (ld1 (v := .int .i64 (gt r3.1 i)) rfl tO3 (cellH (q7.elemF q145 (by decide) 0 _ rfl))) rfl rfl rfl ?_
      obtain ⟨q146, hF⟩ := hF
      obtain ⟨r7, q147⟩ : ∃ y_ : Bool, y_ = sp_has (r3.1.take (i).toNat) (gt r3.1 i) := ⟨_, rfl⟩
      replace hF := hF r7 q147
      refine .c (cl (v := .bool r7) Try.call35 rfl rfl (fun w S => (by rw [q147]; exact c_has S.sub (r3.1.take (i).toNat) a2 c2 (RSl.take_ q7) (take_cap q8) (gt r3.1 i) q146))) rfl rfl rfl ?_
      refine .fin ?_
      refine .seqN ?_
      refine .cond rfl (fun q148 => ?_) (fun q148 => ?_)
      · replace hF := hF.1 q148
        refine .seq ?_
        refine .region ?_
        refine .v (asg rfl) rfl rfl rfl ?_
        refine .nil ?_
        refine .seqN ?_
        refine .ret ?_
        refine .blkR ?_
        refine .seqR ?_
        refine .seqR ?_
        refine .blkR ?_
        refine .seqR ?_
        refine .res1 rfl (rvT rfl) (fun w' S => ⟨false, hF, rfl, S.below⟩)
      replace hF := hF.2 q148
      refine .skip ?_
      refine .blkN ?_
      refine .seqN ?_
      refine .region ?_
      refine .v (mv rfl) rfl rfl rfl ?_
      refine .v (bi rfl rfl rfl) rfl rfl rfl ?_
      refine .v (asg rfl) rfl rfl rfl ?_
      refine .nil ?_
      exact .round (IntKind.i64.wrap (i + 1)) hF.1 hF.2 (.cons rfl (.cons rfl (.cons rfl (.nil)))) rfl (FH.le_refl _)
    replace hF := hF.2 q133
    refine .exit ?_
    refine .seqX ?_
    refine .seqX ?_
    refine .blkX ?_
    refine .seqN ?_
    refine .seq ?_
    refine .region ?_
    refine .v (ldA (cs := [.int .i64 n_.events, .slice an_ n_.links.length cn_]) rfl tA24 rfl (cellsB (off := 0) (k := 0) rfl (m := 2) rfl)) rfl rfl rfl ?_
    refine .v (mv rfl) rfl rfl rfl ?_
    obtain ⟨r8, q149⟩ : ∃ y_ : Bool × Fault, y_ = sp_negative n_ r3.1 := ⟨_, rfl⟩
    replace hF := hF r8 q149
    refine .c (cl (v := .tuple #[.bool r8.1, .agg #[.int .i64 r8.2.code, .int .i64 r8.2.index]]) Try.call21 rfl rfl (fun w S => (by rw [q149]; exact c_negative S.sub n_ an_ cn_ (_q1.mono (FH.le_trans (le1) (le2))) _q2 r3.1 a2 c2 q7 q8 ))) rfl rfl rfl ?_
    refine .v (mv rfl) rfl rfl rfl ?_
    refine .v (ext rfl rfl) rfl rfl rfl ?_
    refine .v (ext rfl rfl) rfl rfl rfl ?_
    refine al tZ27 rfl (fun ph2 => ?_)
    refine .v (asg rfl) rfl rfl rfl ?_
    refine st (p := ph2) (off := 0) (k := 0) (vs := [.int .i64 r8.2.code, .int .i64 r8.2.index]) rfl rfl rfl (fun w => (tA27 w).2) rfl rfl rfl rfl ?_
    refine .cast (A' := [Box ph2 [.int .i64 r8.2.code, .int .i64 r8.2.index], Box pn [.int .i64 n_.events, .slice an_ n_.links.length cn_]]) rfl ?_
    refine .nil ?_
    refine .seqN ?_
    refine .seq ?_
    refine .region ?_
    refine .v (fa rfl tF27_0) rfl rfl rfl ?_
    refine .v (ld1 rfl tO3 (cellB (off := 0) (k := 0) rfl rfl)) rfl rfl rfl ?_
    refine .v (bi rfl rfl rfl) rfl rfl rfl ?_
    refine .v (mv rfl) rfl rfl rfl ?_
    rcases Bool.eq_false_or_eq_true (r8.2.code == 0) with q153 | q153
    · replace hF := hF.1 q153
      refine .gv (mv rfl) rfl rfl rfl q153 rfl rfl ?_
      refine .v (pkT rfl q153 rfl) rfl rfl rfl ?_
      refine .v (mv rfl) rfl rfl rfl ?_
      rcases Bool.eq_false_or_eq_true (r8.1) with q154 | q154
      · replace hF := hF.1 q154
        obtain ⟨r9, q155⟩ : ∃ y_ : Bool, y_ = sp_bounded := ⟨_, rfl⟩
        replace hF := hF r9 q155
        refine .gc (cl (v := .bool r9) Try.call17 rfl rfl (fun w S => (by rw [q155]; exact c_bounded S.sub  ))) rfl rfl rfl q154 rfl rfl ?_
        refine .v (pkT rfl q154 rfl) rfl rfl rfl ?_
        refine .v (asg rfl) rfl rfl rfl ?_
        refine .nil ?_
        refine .seqN ?_
        refine .ret ?_
        refine .res1 rfl (rvT rfl) (fun w' S => ⟨r9, hF, rfl, S.below⟩)
      replace hF := hF.2 q154
      refine .gS rfl rfl rfl q154 rfl rfl ?_
      refine .v (pkF rfl q154 rfl) rfl rfl rfl ?_
      refine .v (asg rfl) rfl rfl rfl ?_
      refine .nil ?_
      refine .seqN ?_
      refine .ret ?_
      refine .res1 rfl (rvT rfl) (fun w' S => ⟨false, hF, rfl, S.below⟩)
    replace hF := hF.2 q153
    refine .gS rfl rfl rfl q153 rfl rfl ?_
    refine .v (pkF rfl q153 rfl) rfl rfl rfl ?_
    refine .v (mv rfl) rfl rfl rfl ?_
    refine .gS rfl rfl rfl rfl rfl rfl ?_
    refine .v (pkF rfl rfl rfl) rfl rfl rfl ?_
    refine .v (asg rfl) rfl rfl rfl ?_
    refine .nil ?_
    refine .seqN ?_
    refine .ret ?_
    refine .res1 rfl (rvT rfl) (fun w' S => ⟨false, hF, rfl, S.below⟩)
  refine .region ?_
  refine .v (fa rfl tF27_0) rfl rfl rfl ?_
  refine .v (ld1 rfl tO3 (cellB (off := 0) (k := 1) rfl rfl)) rfl rfl rfl ?_
  refine .v (bi rfl rfl rfl) rfl rfl rfl ?_
  refine .v (mv rfl) rfl rfl rfl ?_
  rcases Bool.eq_false_or_eq_true (r2.2.2.code != 0) with q156 | q156
  · replace hF := hF.1 q156
    refine .gS rfl rfl rfl q156 rfl rfl ?_
    refine .gS rfl rfl rfl q156 rfl rfl ?_
    refine .gS rfl rfl rfl q156 rfl rfl ?_
    refine .v (pkT rfl q156 rfl) rfl rfl rfl ?_
    refine .nil ?_
    refine .sel0 [2, 1, 0] (by decide) rfl ?_
    exact .use q10 true hF (.cons rfl (.cons rfl (.cons rfl (.cons rfl (.cons rfl (.cons rfl (.cons rfl (.cons rfl (.nil))))))))) rfl (FH.le_refl _)
  replace hF := hF.2 q156
  refine .gv (fa rfl tF27_0) rfl rfl rfl q156 rfl rfl ?_
  refine .gv (ld1 rfl tO3 (cellB (off := 0) (k := 0) rfl rfl)) rfl rfl rfl q156 rfl rfl ?_
  refine .gv (bi rfl rfl rfl) rfl rfl rfl q156 rfl rfl ?_
  refine .v (pkF rfl q156 rfl) rfl rfl rfl ?_
  refine .nil ?_
  refine .sel0 [2, 1, 0] (by decide) rfl ?_
  exact .use q10 (r3.2.2.code != 0) hF (.cons rfl (.cons rfl (.cons rfl (.cons rfl (.cons rfl (.cons rfl (.cons rfl (.cons rfl (.nil))))))))) rfl (FH.le_refl _)

theorem c_lawConsistentOrCycle {h : FH} {w : World} (hs : Sub h w) (n_ : Network) (an_ : Option Addr) (cn_ : Nat) (_q1 : RSl h an_ n_.links) (_q2 : n_.links.length ≤ cn_) : Calls Try.prog 9 #[.agg #[.int .i64 n_.events, .slice an_ n_.links.length cn_]] w fun e w' => e = .returned (.bool (sp_lawConsistentOrCycle n_)) ∧ Below w.heap.size w w' :=
  (w_lawConsistentOrCycle hs n_ an_ cn_ _q1 _q2 (fun r => r = sp_lawConsistentOrCycle n_) (ok_lawConsistentOrCycle n_)).mono fun _ _ ⟨_, hk, he, hb⟩ => ⟨by rw [he, hk], hb⟩

end Go.Proofs.Ytijicdmpidbacaa.Pl
