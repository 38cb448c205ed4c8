/- The walks: from what each function asks to what it does; printed from the code. No condition. -/
import Derived.Test.YtijicdmpidbacaaW1
namespace Go.Proofs.Ytijicdmpidbacaa.Pl
open Go Go.RowKit
theorem w_minimal {h : FH} {w : World} (hs : Sub h w) (n_ : Network) (an_ : Option Addr) (cn_ : Nat) (_q1 : RSl h an_ n_.links) (_q2 : n_.links.length ≤ cn_) (K : (List (List Int) × Bool × Fault) → Prop) (hF : F_minimal n_ K) : Calls Try.prog 15 #[.agg #[.int .i64 n_.events, .slice an_ n_.links.length cn_]] w fun e w' => ∃ (r : List (List Int) × Bool × Fault) (z : Option Addr × Nat) (h1 : FH), K r ∧ e = .returned (.tuple #[.slice z.1 r.1.length z.2, .bool r.2.1, .agg #[.int .i64 r.2.2.code, .int .i64 r.2.2.index]]) ∧ FH.le h h1 ∧ (RSl h1 z.1 r.1 ∧ r.1.length ≤ z.2) ∧ SH (Kp.all w h) h1 w' [] := by
  refine enter (args := [.agg #[.int .i64 n_.events, .slice an_ n_.links.length cn_]]) Try.func15 rfl Try.ntmps15 rfl hs ?_
  refine .seq ?_
  refine .region ?_
  refine bx (vs := [.int .i64 n_.events, .slice an_ n_.links.length cn_]) rfl rfl rfl (fun pn => ?_)
  refine .v (asg rfl) rfl rfl rfl ?_
  refine .v (asg rfl) rfl rfl rfl ?_
  refine al tZ27 rfl (fun pv => ?_)
  refine .nil ?_
  refine .seqN ?_
  refine .seq ?_
  refine .seq ?_
  refine .region ?_
  refine .v (ldA (cs := [.int .i64 n_.events, .slice an_ n_.links.length cn_]) rfl tA24 rfl (cellsB (off := 0) (k := 1) rfl (m := 2) rfl)) rfl rfl rfl ?_
  obtain ⟨r2, q3⟩ : ∃ y_ : Fault, y_ = sp_validate n_ := ⟨_, rfl⟩
  replace hF := hF r2 q3
  refine .c (cl (v := .agg #[.int .i64 r2.code, .int .i64 r2.index]) Try.call22 rfl rfl (fun w S => (by rw [q3]; exact c_validate S.sub n_ an_ cn_ _q1 _q2 ))) rfl rfl rfl ?_
  refine al tZ27 rfl (fun pf => ?_)
  refine st (p := pf) (off := 0) (k := 0) (vs := [.int .i64 r2.code, .int .i64 r2.index]) rfl rfl rfl (fun w => (tA27 w).2) rfl rfl rfl rfl ?_
  refine .cast (A' := [Box pf [.int .i64 r2.code, .int .i64 r2.index], Box pv [.int .i64 0, .int .i64 0], Box pn [.int .i64 n_.events, .slice an_ n_.links.length cn_]]) rfl ?_
  refine .nil ?_
  refine .seqN ?_
  refine .seq ?_
  refine .region ?_
  refine .v (ldA (cs := [.int .i64 r2.code, .int .i64 r2.index]) rfl tA27 rfl (cellsB (off := 0) (k := 0) rfl (m := 2) rfl)) rfl rfl rfl ?_
  refine .v (bld (cs := #[.int .i64 0, .int .i64 0]) (pv := []) tB27 rfl rfl) rfl rfl rfl ?_
  refine .v (ne2 tE27 rfl rfl) rfl rfl rfl ?_
  refine .nil ?_
  refine .seqN ?_
  refine .cond rfl (fun q4 => ?_) (fun q4 => ?_)
  · replace hF := hF.1 q4
    refine .seq ?_
    refine .openL (by kernel_rfl) rfl (by kernel_rfl) (by kernel_rfl) ?_
    refine .v (ldA (cs := [.int .i64 r2.code, .int .i64 r2.index]) rfl tA27 rfl (cellsB (off := 0) (k := 0) rfl (m := 2) rfl)) rfl rfl rfl ?_
    refine .v (asg rfl) rfl rfl rfl ?_
    refine .v (asg rfl) rfl rfl rfl ?_
    refine .tail ?_
    refine st (p := pv) (off := 0) (k := 1) (vs := [.int .i64 r2.code, .int .i64 r2.index]) rfl rfl rfl (fun w => (tA27 w).2) rfl rfl rfl rfl ?_
    refine .cast (A' := [Box pf [.int .i64 r2.code, .int .i64 r2.index], Box pv [.int .i64 r2.code, .int .i64 r2.index], Box pn [.int .i64 n_.events, .slice an_ n_.links.length cn_]]) rfl ?_
    refine .nil ?_
    refine .seqN ?_
    refine .ret ?_
    refine .seqR ?_
    refine .res3 rfl (rvT rfl) (rvT rfl) (rvC rfl tA27 (k := 1) rfl rfl) (fun w' S => ⟨(([] : List (List Int)), false, r2), (none, 0), h, hF, rfl, (FH.le_refl _), ⟨RSl.nil_, (Nat.le_refl 0)⟩, S.none⟩)
  replace hF := hF.2 q4
  refine .skip ?_
  refine .seqN ?_
  refine .seq ?_
  refine .region ?_
  refine .v (ldA (cs := [.int .i64 n_.events, .slice an_ n_.links.length cn_]) rfl tA24 rfl (cellsB (off := 0) (k := 2) rfl (m := 2) rfl)) rfl rfl rfl ?_
  obtain ⟨q5, hF⟩ := hF
  obtain ⟨r3, q6⟩ : ∃ y_ : List (List Int) × Bool, y_ = sp_tighten n_ := ⟨_, rfl⟩
  replace hF := hF r3 q6
  refine clR (α := Option Addr × Nat) (Φ := fun h1 z => RSl h1 z.1 r3.1 ∧ r3.1.length ≤ z.2) (V := fun z => .tuple #[.slice z.1 r3.1.length z.2, .bool r3.2]) Try.call45 rfl rfl (fun w S => (by rw [q6]; exact c_tighten S.sub n_ an_ cn_ _q1 _q2 q5)) rfl (fun z h1 le1 hz => ?_)
  obtain ⟨a, c⟩ := z
  obtain ⟨q7, q8⟩ := hz
  refine .v (mv rfl) rfl rfl rfl ?_
  refine .v (ext rfl rfl) rfl rfl rfl ?_
  refine .v (ext rfl rfl) rfl rfl rfl ?_
  refine .v (asg rfl) rfl rfl rfl ?_
  refine .v (asg rfl) rfl rfl rfl ?_
  refine .nil ?_
  refine .seqN ?_
  refine .seq ?_
  refine .region ?_
  refine .v (mv rfl) rfl rfl rfl ?_
  refine .v (mv rfl) rfl rfl rfl ?_
  refine .v (bld (cs := #[.int .i64 0, .int .i64 0]) (pv := []) tB27 rfl rfl) rfl rfl rfl ?_
  refine .v (asg rfl) rfl rfl rfl ?_
  refine .v (asg rfl) rfl rfl rfl ?_
  refine st (p := pv) (off := 0) (k := 1) (vs := [.int .i64 0, .int .i64 0]) rfl rfl rfl (fun w => (tA27 w).2) rfl rfl rfl rfl ?_
  refine .cast (A' := [Box pf [.int .i64 r2.code, .int .i64 r2.index], Box pv [.int .i64 0, .int .i64 0], Box pn [.int .i64 n_.events, .slice an_ n_.links.length cn_]]) rfl ?_
  refine .nil ?_
  refine .seqN ?_
  refine .ret ?_
  refine .res3 rfl (rvT rfl) (rvT rfl) (rvC rfl tA27 (k := 1) rfl rfl) (fun w' S => ⟨(r3.1, r3.2, (⟨0, 0⟩ : Fault)), (a, c), h1, hF, rfl, (le1), ⟨q7, q8⟩, S.none⟩)

theorem c_minimal {h : FH} {w : World} (hs : Sub h w) (n_ : Network) (an_ : Option Addr) (cn_ : Nat) (_q1 : RSl h an_ n_.links) (_q2 : n_.links.length ≤ cn_) : Calls Try.prog 15 #[.agg #[.int .i64 n_.events, .slice an_ n_.links.length cn_]] w fun e w' => ∃ (z : Option Addr × Nat) (h1 : FH), e = .returned (.tuple #[.slice z.1 (sp_minimal n_).1.length z.2, .bool (sp_minimal n_).2.1, .agg #[.int .i64 (sp_minimal n_).2.2.code, .int .i64 (sp_minimal n_).2.2.index]]) ∧ FH.le h h1 ∧ (RSl h1 z.1 (sp_minimal n_).1 ∧ (sp_minimal n_).1.length ≤ z.2) ∧ SH (Kp.all w h) h1 w' [] :=
  (w_minimal hs n_ an_ cn_ _q1 _q2 (fun r => r = sp_minimal n_) (ok_minimal n_)).mono fun _ _ ⟨r, z, h1, hk, he, hl, hf, hS⟩ => by subst hk; exact ⟨z, h1, he, hl, hf, hS⟩

theorem w_earliest {h : FH} {w : World} (hs : Sub h w) (n_ : Network) (an_ : Option Addr) (cn_ : Nat) (_q1 : RSl h an_ n_.links) (_q2 : n_.links.length ≤ cn_) (K : (List Int × Bool × Fault) → Prop) (hF : F_earliest n_ K) : Calls Try.prog 19 #[.agg #[.int .i64 n_.events, .slice an_ n_.links.length cn_]] w fun e w' => ∃ (r : List Int × Bool × Fault) (z : Option Addr × Nat) (h1 : FH), K r ∧ e = .returned (.tuple #[.slice z.1 r.1.length z.2, .bool r.2.1, .agg #[.int .i64 r.2.2.code, .int .i64 r.2.2.index]]) ∧ FH.le h h1 ∧ (RSl h1 z.1 r.1 ∧ r.1.length ≤ z.2) ∧ SH (Kp.all w h) h1 w' [] := by
  refine enter (args := [.agg #[.int .i64 n_.events, .slice an_ n_.links.length cn_]]) Try.func19 rfl Try.ntmps19 rfl hs ?_
  refine .seq ?_
  refine .region ?_
  refine bx (vs := [.int .i64 n_.events, .slice an_ n_.links.length cn_]) rfl rfl rfl (fun pn => ?_)
  refine .v (asg rfl) rfl rfl rfl ?_
  refine .v (asg rfl) rfl rfl rfl ?_
  refine al tZ27 rfl (fun pv => ?_)
  refine .nil ?_
  refine .seqN ?_
  refine .seq ?_
  refine .region ?_
  refine .v (ldA (cs := [.int .i64 n_.events, .slice an_ n_.links.length cn_]) rfl tA24 rfl (cellsB (off := 0) (k := 1) rfl (m := 2) rfl)) rfl rfl rfl ?_
  obtain ⟨r2, q3⟩ : ∃ y_ : List (List Int) × Bool × Fault, y_ = sp_minimal n_ := ⟨_, rfl⟩
  replace hF := hF r2 q3
  refine clR (α := Option Addr × Nat) (Φ := fun h1 z => RSl h1 z.1 r2.1 ∧ r2.1.length ≤ z.2) (V := fun z => .tuple #[.slice z.1 r2.1.length z.2, .bool r2.2.1, .agg #[.int .i64 r2.2.2.code, .int .i64 r2.2.2.index]]) Try.call15 rfl rfl (fun w S => (by rw [q3]; exact c_minimal S.sub n_ an_ cn_ _q1 _q2 )) rfl (fun z h1 le1 hz => ?_)
  obtain ⟨a, c⟩ := z
  obtain ⟨q4, q5⟩ := hz
  refine .v (mv rfl) rfl rfl rfl ?_
  refine .v (ext rfl rfl) rfl rfl rfl ?_
  refine .v (ext rfl rfl) rfl rfl rfl ?_
  refine .v (ext rfl rfl) rfl rfl rfl ?_
  refine al tZ27 rfl (fun pf => ?_)
  refine .v (asg rfl) rfl rfl rfl ?_
  refine .v (asg rfl) rfl rfl rfl ?_
  refine st (p := pf) (off := 0) (k := 0) (vs := [.int .i64 r2.2.2.code, .int .i64 r2.2.2.index]) rfl rfl rfl (fun w => (tA27 w).2) rfl rfl rfl rfl ?_
  refine .cast (A' := [Box pf [.int .i64 r2.2.2.code, .int .i64 r2.2.2.index], Box pv [.int .i64 0, .int .i64 0], Box pn [.int .i64 n_.events, .slice an_ n_.links.length cn_]]) rfl ?_
  refine .nil ?_
  refine .seqN ?_
  refine .seq ?_
  refine .seq ?_
  refine .region ?_
  refine .v (mv rfl) rfl rfl rfl ?_
  refine .v (nt rfl) rfl rfl rfl ?_
  refine .nil ?_
  refine .seqN ?_
  refine .cond rfl (fun q6 => ?_) (fun q6 => ?_)
  · replace hF := hF.1 q6
    refine .seq ?_
    refine .openL (by kernel_rfl) rfl (by kernel_rfl) (by kernel_rfl) ?_
    refine .v (ldA (cs := [.int .i64 r2.2.2.code, .int .i64 r2.2.2.index]) rfl tA27 rfl (cellsB (off := 0) (k := 0) rfl (m := 2) rfl)) rfl rfl rfl ?_
    refine .v (asg rfl) rfl rfl rfl ?_
    refine .v (asg rfl) rfl rfl rfl ?_
    refine .tail ?_
    refine st (p := pv) (off := 0) (k := 1) (vs := [.int .i64 r2.2.2.code, .int .i64 r2.2.2.index]) rfl rfl rfl (fun w => (tA27 w).2) rfl rfl rfl rfl ?_
    refine .cast (A' := [Box pf [.int .i64 r2.2.2.code, .int .i64 r2.2.2.index], Box pv [.int .i64 r2.2.2.code, .int .i64 r2.2.2.index], Box pn [.int .i64 n_.events, .slice an_ n_.links.length cn_]]) rfl ?_
    refine .nil ?_
    refine .seqN ?_
    refine .ret ?_
    refine .seqR ?_
    refine .res3 rfl (rvT rfl) (rvT rfl) (rvC rfl tA27 (k := 1) rfl rfl) (fun w' S => ⟨(([] : List Int), false, r2.2.2), (none, 0), h1, hF, rfl, (le1), ⟨RSl.nil_, (Nat.le_refl 0)⟩, S.none⟩)
  replace hF := hF.2 q6
  refine .skip ?_
  refine .seqN ?_
  refine .seq ?_
  refine .region ?_
  refine .v (asg rfl) rfl rfl rfl ?_
  refine .nil ?_
  refine .seqN ?_
  refine .seq ?_
  refine .seq ?_
  refine .region ?_
  refine .v (mv rfl) rfl rfl rfl ?_
  refine .v (ln rfl tS25.is) rfl rfl rfl ?_
  refine .v (mv rfl) rfl rfl rfl ?_
  refine .nil ?_
  refine .seqN ?_
  refine .block ?_
  refine .nilSl 3 1 ?_
  refine .cast (A' := [OwnSl 3 1 none (([] : List Int).length) 0 (flL ([] : List Int)), Box pf [.int .i64 r2.2.2.code, .int .i64 r2.2.2.index], Box pv [.int .i64 0, .int .i64 0], Box pn [.int .i64 n_.events, .slice an_ n_.links.length cn_]]) rfl ?_
  refine .sel0 [2, 1, 0] (by decide) rfl ?_
  obtain ⟨I1, μ1, q43, q44⟩ := hF
  refine .loop' (σ := Int × List Int × Option Addr × Nat) (fun z => I1 z.1 z.2.1) (fun z => μ1 z.1 z.2.1) (fun z => [(4, .pointer (some pv)), (5, .slice a r2.1.length c), (7, .pointer (some pf)), (8, .slice z.2.2.1 z.2.1.length z.2.2.2), (20, .int .i64 ((r2.1.length : Nat) : Int)), (21, .int .i64 z.1)]) (fun z => [Box pv [.int .i64 0, .int .i64 0], Box pf [.int .i64 r2.2.2.code, .int .i64 r2.2.2.index], OwnSl 3 1 z.2.2.1 z.2.1.length z.2.2.2 (flL z.2.1)]) (fun _ => h1) (0, ([] : List Int), none, 0) q43 (.cons rfl (.cons rfl (.cons rfl (.cons rfl (.cons rfl (.cons rfl (.nil))))))) rfl (FH.le_refl _) ?_
  rintro ⟨t21, out, aout, cout⟩ q43
  have hF := q44 t21 out q43
  show J _ _ _ _ _ [(4, .pointer (some pv)), (5, .slice a r2.1.length c), (7, .pointer (some pf)), (8, .slice aout out.length cout), (20, .int .i64 ((r2.1.length : Nat) : Int)), (21, .int .i64 t21)] [Box pv [.int .i64 0, .int .i64 0], Box pf [.int .i64 r2.2.2.code, .int .i64 r2.2.2.index], OwnSl 3 1 aout out.length cout (flL out)] h1
  refine .seq ?_
  refine .region ?_
  refine .v (bi rfl rfl rfl) rfl rfl rfl ?_
  refine .nil ?_
  refine .seqN ?_
  refine .seq ?_
  refine .cond rfl (fun q46 => ?_) (fun q46 => ?_)
  · replace hF := hF.1 q46
    refine .skip ?_
    refine .seqN ?_
    refine .seq ?_
    refine .block ?_
    refine .seq ?_
    refine .region ?_
    refine .v (mv rfl) rfl rfl rfl ?_
    refine .v (asg rfl) rfl rfl rfl ?_
    refine .nil ?_
    refine .seqN ?_
    refine .region ?_
    refine .v (mv rfl) rfl rfl rfl ?_
    refine .v (mv rfl) rfl rfl rfl ?_
    refine .v (mv rfl) rfl rfl rfl ?_
    obtain ⟨q55, hF⟩ := hF
    refine .v (ix rfl rfl tS25 (q4.ne (by decide) (inb_pos q55)) q55) rfl rfl rfl ?_
    obtain ⟨_, ⟨a2, c2, rfl, q56, q57⟩, q58⟩ := q4.elem q55
    refine .v (ld1 (v := .slice a2 ((gt r2.1 t21).length) c2) rfl tO32 (cellH (q58 (by decide) 0 _ rfl))) rfl rfl rfl ?_
    obtain ⟨q59, hF⟩ := hF
    refine .v (ix rfl rfl tS32 (q57.ne (by decide) (inb_pos q59)) q59) rfl rfl rfl ?_
    refine .v (ld1 (v := .int .i64 (gt (gt r2.1 t21) (0 : Int))) rfl tO3 (cellH (q57.elemF q59 (by decide) 0 _ rfl))) rfl rfl rfl ?_
    refine .v (un rfl) rfl rfl rfl ?_
    refine bs2 (cs := #[.int .i64 (IntKind.i64.wrap (0 - (gt (gt r2.1 t21) (0 : Int))))]) (pv := [(0, .int .i64 (IntKind.i64.wrap (0 - (gt (gt r2.1 t21) (0 : Int)))))]) tS32 rfl rfl (by decide) (by decide) rfl rfl rfl (fun a3 _ => ?_)
    refine .cast (A' := [OwnSl 3 1 a3 (([IntKind.i64.wrap (0 - (gt (gt r2.1 t21) (0 : Int)))] : List Int).length) 1 (flL ([IntKind.i64.wrap (0 - (gt (gt r2.1 t21) (0 : Int)))] : List Int)), Box pv [.int .i64 0, .int .i64 0], Box pf [.int .i64 r2.2.2.code, .int .i64 r2.2.2.index], OwnSl 3 1 aout out.length cout (flL out)]) rfl ?_
    obtain ⟨q61, hF⟩ := hF
    have q62 : out.length + ([IntKind.i64.wrap (0 - (gt (gt r2.1 t21) (0 : Int)))] : List Int).length = ((out ++ ([IntKind.i64.wrap (0 - (gt (gt r2.1 t21) (0 : Int)))] : List Int))).length := len_app rfl rfl
    refine app (k := 3) (news := flL ([IntKind.i64.wrap (0 - (gt (gt r2.1 t21) (0 : Int)))] : List Int)) (cs' := flL (out ++ ([IntKind.i64.wrap (0 - (gt (gt r2.1 t21) (0 : Int)))] : List Int))) (nm := ((out ++ ([IntKind.i64.wrap (0 - (gt (gt r2.1 t21) (0 : Int)))] : List Int))).length) tS32 rfl (by decide) rfl rfl rfl (by rw [flL_len]; rfl) (srcS (k := 0) rfl) (flL_one _) (room_of q62 q61).1 (room_of q62 q61).2 q62 (flL_append _ _).symm rfl (fun a4 c3 => ?_)
    refine .cast (A' := [OwnSl 3 1 a3 (([IntKind.i64.wrap (0 - (gt (gt r2.1 t21) (0 : Int)))] : List Int).length) 1 (flL ([IntKind.i64.wrap (0 - (gt (gt r2.1 t21) (0 : Int)))] : List Int)), Box pv [.int .i64 0, .int .i64 0], Box pf [.int .i64 r2.2.2.code, .int .i64 r2.2.2.index], OwnSl 3 1 a4 ((out ++ ([IntKind.i64.wrap (0 - (gt (gt r2.1 t21) (0 : Int)))] : List Int)).length) c3 (flL (out ++ ([IntKind.i64.wrap (0 - (gt (gt r2.1 t21) (0 : Int)))] : List Int)))]) rfl ?_
    refine .v (asg rfl) rfl rfl rfl ?_
    refine .nil ?_
    refine .blkN ?_
    refine .seqN ?_
    refine .region ?_
    refine .v (bi rfl rfl rfl) rfl rfl rfl ?_
    refine .v (mv rfl) rfl rfl rfl ?_
    refine .nil ?_
    refine .sel0 [1, 2, 3] (by decide) rfl ?_
    exact .round (IntKind.i64.wrap (t21 + 1), (out ++ ([IntKind.i64.wrap (0 - (gt (gt r2.1 t21) (0 : Int)))] : List Int)), a4, c3) hF.1 hF.2 (.cons rfl (.cons rfl (.cons rfl (.cons rfl (.cons rfl (.cons rfl (.nil))))))) rfl (FH.le_refl _)
  replace hF := hF.2 q46
  refine .exit ?_
  refine .seqX ?_
  refine .seqX ?_
  refine .blkX ?_
  refine .seqN ?_
  refine .seq ?_
  refine .openL (by kernel_rfl) rfl (by kernel_rfl) (by kernel_rfl) ?_
  refine .v (mv rfl) rfl rfl rfl ?_
  refine .v (ldA (cs := [.int .i64 r2.2.2.code, .int .i64 r2.2.2.index]) rfl tA27 rfl (cellsB (off := 0) (k := 1) rfl (m := 2) rfl)) rfl rfl rfl ?_
  refine .v (asg rfl) rfl rfl rfl ?_
  refine .v (asg rfl) rfl rfl rfl ?_
  refine .tail ?_
  refine st (p := pv) (off := 0) (k := 0) (vs := [.int .i64 r2.2.2.code, .int .i64 r2.2.2.index]) rfl rfl rfl (fun w => (tA27 w).2) rfl rfl rfl rfl ?_
  refine .cast (A' := [Box pv [.int .i64 r2.2.2.code, .int .i64 r2.2.2.index], Box pf [.int .i64 r2.2.2.code, .int .i64 r2.2.2.index], OwnSl 3 1 aout out.length cout (flL out)]) rfl ?_
  refine .nil ?_
  refine .seqN ?_
  refine .freezeL (k := 2) rfl (fun h2 le2 q64 q63 => ?_)
  refine .cast (A' := [Box pv [.int .i64 r2.2.2.code, .int .i64 r2.2.2.index], Box pf [.int .i64 r2.2.2.code, .int .i64 r2.2.2.index], tru]) rfl ?_
  refine .ret ?_
  refine .res3 rfl (rvT rfl) (rvT rfl) (rvC rfl tA27 (k := 0) rfl rfl) (fun w' S => ⟨(out, true, r2.2.2), (aout, cout), h2, hF, rfl, (FH.le_trans (le1) (le2)), ⟨(RSl.of q63), (q64)⟩, S.none⟩)

theorem c_earliest {h : FH} {w : World} (hs : Sub h w) (n_ : Network) (an_ : Option Addr) (cn_ : Nat) (_q1 : RSl h an_ n_.links) (_q2 : n_.links.length ≤ cn_) : Calls Try.prog 19 #[.agg #[.int .i64 n_.events, .slice an_ n_.links.length cn_]] w fun e w' => ∃ (z : Option Addr × Nat) (h1 : FH), e = .returned (.tuple #[.slice z.1 (sp_earliest n_).1.length z.2, .bool (sp_earliest n_).2.1, .agg #[.int .i64 (sp_earliest n_).2.2.code, .int .i64 (sp_earliest n_).2.2.index]]) ∧ FH.le h h1 ∧ (RSl h1 z.1 (sp_earliest n_).1 ∧ (sp_earliest n_).1.length ≤ z.2) ∧ SH (Kp.all w h) h1 w' [] :=
  (w_earliest hs n_ an_ cn_ _q1 _q2 (fun r => r = sp_earliest n_) (ok_earliest n_)).mono fun _ _ ⟨r, z, h1, hk, he, hl, hf, hS⟩ => by subst hk; exact ⟨z, h1, he, hl, hf, hS⟩

theorem w_fits1 {h : FH} {w : World} (hs : Sub h w) (l : Link) (x : List Int) (ax : Option Addr) (cx : Nat) (_q1 : RSl h ax x) (_q2 : x.length ≤ cx) (px : Addr) (_q3 : CellsAt h px [.slice ax x.length cx]) (K : Bool → Prop) (hF : F_fits1 l x K) : Calls Try.prog 66 #[.agg #[.int .i64 l.src, .int .i64 l.dst, .int .i64 l.low, .int .i64 l.high], .pointer (some px)] w fun e w' => ∃ r : Bool, K r ∧ e = .returned (.bool r) ∧ Below w.heap.size w w' := by
  refine enter (args := [.agg #[.int .i64 l.src, .int .i64 l.dst, .int .i64 l.low, .int .i64 l.high], .pointer (some px)]) Try.func66 rfl Try.ntmps66 rfl hs ?_
  refine .seq ?_
  refine .region ?_
  refine bx (vs := [.int .i64 l.src, .int .i64 l.dst, .int .i64 l.low, .int .i64 l.high]) rfl rfl rfl (fun pl => ?_)
  refine .v (asg rfl) rfl rfl rfl ?_
  refine .nil ?_
  refine .seqN ?_
  refine .seq ?_
  refine .open_ (by kernel_rfl) (by kernel_rfl) ?_
  refine .v (ld1 (v := .slice ax x.length cx) rfl tO32 (cellH (CellsAt.mono (FH.le_refl _) _q3 0 _ rfl))) rfl rfl rfl ?_
  refine .v (fa rfl tF35_1) rfl rfl rfl ?_
  refine .v (ld1 rfl tO3 (cellB (off := 1) (k := 0) rfl rfl)) rfl rfl rfl ?_
  obtain ⟨q4, hF⟩ := hF
  refine .v (ix rfl rfl tS32 (_q1.ne (by decide) (inb_pos q4)) q4) rfl rfl rfl ?_
  refine .v (ld1 (v := .int .i64 (gt x l.dst)) rfl tO3 (cellH (_q1.elemF q4 (by decide) 0 _ rfl))) rfl rfl rfl ?_
  refine .v (ld1 (v := .slice ax x.length cx) rfl tO32 (cellH (CellsAt.mono (FH.le_refl _) _q3 0 _ rfl))) rfl rfl rfl ?_
  refine .v (fa rfl tF35_0) rfl rfl rfl ?_
  refine .v (ld1 rfl tO3 (cellB (off := 0) (k := 0) rfl rfl)) rfl rfl rfl ?_
  obtain ⟨q5, hF⟩ := hF
  refine .v (ix rfl rfl tS32 (_q1.ne (by decide) (inb_pos q5)) q5) rfl rfl rfl ?_
  refine .v (ld1 (v := .int .i64 (gt x l.src)) rfl tO3 (cellH (_q1.elemF q5 (by decide) 0 _ rfl))) rfl rfl rfl ?_
  refine .v (bi rfl rfl rfl) rfl rfl rfl ?_
  refine .v (asg rfl) rfl rfl rfl ?_
  refine .fin ?_
  refine .seqN ?_
  refine .seq ?_
  refine .region ?_
  refine .v (mv rfl) rfl rfl rfl ?_
  refine .v (fa rfl tF35_2) rfl rfl rfl ?_
  refine .v (ld1 rfl tO3 (cellB (off := 2) (k := 0) rfl rfl)) rfl rfl rfl ?_
  obtain ⟨x2, q9⟩ : ∃ y_ : Bool, y_ = (decide ((IntKind.i64.wrap ((gt x l.dst) - (gt x l.src))) < l.low)) := ⟨_, rfl⟩
  replace hF := hF x2 q9
  refine .v (v := .bool x2) (by rw [q9]; exact bi rfl rfl rfl) rfl rfl rfl ?_
  refine .v (mv rfl) rfl rfl rfl ?_
  rcases Bool.eq_false_or_eq_true (x2) with q10 | q10
  · replace hF := hF.1 q10
    refine .gS rfl rfl rfl q10 rfl rfl ?_
    refine .gS rfl rfl rfl q10 rfl rfl ?_
    refine .gS rfl rfl rfl q10 rfl rfl ?_
    refine .gS rfl rfl rfl q10 rfl rfl ?_
    refine .v (pkT rfl q10 rfl) rfl rfl rfl ?_
    refine .v (asg rfl) rfl rfl rfl ?_
    refine .nil ?_
    refine .seqN ?_
    refine .ret ?_
    refine .res1 rfl (rvT rfl) (fun w' S => ⟨true, hF, rfl, S.below⟩)
  replace hF := hF.2 q10
  refine .gv (mv rfl) rfl rfl rfl q10 rfl rfl ?_
  refine .gv (fa rfl tF35_3) rfl rfl rfl q10 rfl rfl ?_
  refine .gv (ld1 rfl tO3 (cellB (off := 3) (k := 0) rfl rfl)) rfl rfl rfl q10 rfl rfl ?_
  obtain ⟨x3, q11⟩ : ∃ y_ : Bool, y_ = (decide (l.high < (IntKind.i64.wrap ((gt x l.dst) - (gt x l.src))))) := ⟨_, rfl⟩
  replace hF := hF x3 q11
  refine .gv (v := .bool x3) (by rw [q11]; exact bi rfl rfl rfl) rfl rfl rfl q10 rfl rfl ?_
  refine .v (pkF rfl q10 rfl) rfl rfl rfl ?_
  refine .v (asg rfl) rfl rfl rfl ?_
  refine .nil ?_
  refine .seqN ?_
  refine .ret ?_
  refine .res1 rfl (rvT rfl) (fun w' S => ⟨x3, hF, rfl, S.below⟩)

theorem c_fits1 {h : FH} {w : World} (hs : Sub h w) (l : Link) (x : List Int) (ax : Option Addr) (cx : Nat) (_q1 : RSl h ax x) (_q2 : x.length ≤ cx) (px : Addr) (_q3 : CellsAt h px [.slice ax x.length cx]) (hp : pre_fits1 l x) : Calls Try.prog 66 #[.agg #[.int .i64 l.src, .int .i64 l.dst, .int .i64 l.low, .int .i64 l.high], .pointer (some px)] w fun e w' => e = .returned (.bool (sp_fits1 l x)) ∧ Below w.heap.size w w' :=
  (w_fits1 hs l x ax cx _q1 _q2 px _q3 (fun r => r = sp_fits1 l x) (ok_fits1 l x hp)).mono fun _ _ ⟨_, hk, he, hb⟩ => ⟨by rw [he, hk], hb⟩

theorem w_fits {h : FH} {w : World} (hs : Sub h w) (n_ : Network) (an_ : Option Addr) (cn_ : Nat) (_q1 : RSl h an_ n_.links) (_q2 : n_.links.length ≤ cn_) (times : List Int) (atimes : Option Addr) (ctimes : Nat) (_q3 : RSl h atimes times) (_q4 : times.length ≤ ctimes) (K : Bool → Prop) (hF : F_fits n_ times K) : Calls Try.prog 47 #[.agg #[.int .i64 n_.events, .slice an_ n_.links.length cn_], .slice atimes times.length ctimes] w fun e w' => ∃ r : Bool, K r ∧ e = .returned (.bool r) ∧ Below w.heap.size w w' := by
  refine enter (args := [.agg #[.int .i64 n_.events, .slice an_ n_.links.length cn_], .slice atimes times.length ctimes]) Try.func47 rfl Try.ntmps47 rfl hs ?_
  refine .seq ?_
  refine .region ?_
  refine bx (vs := [.int .i64 n_.events, .slice an_ n_.links.length cn_]) rfl rfl rfl (fun pn => ?_)
  refine bx (vs := [.slice atimes times.length ctimes]) rfl rfl rfl (fun ptimes => ?_)
  refine .v (asg rfl) rfl rfl rfl ?_
  refine .nil ?_
  refine .seqN ?_
  refine .seq ?_
  refine .share (σ := Bool) (fun z => F_fits_J1 n_ times K z) (fun z => [(2, .pointer (some pn)), (3, .pointer (some ptimes)), (13, .bool z)]) (fun _ => [Box pn [.int .i64 n_.events, .slice an_ n_.links.length cn_], Box ptimes [.slice atimes times.length ctimes]]) (fun _ => h) ?_ (fun q9 => ?_)
  · rintro t13 hF
    show J _ _ _ _ _ [(2, .pointer (some pn)), (3, .pointer (some ptimes)), (13, .bool t13)] [Box pn [.int .i64 n_.events, .slice an_ n_.links.length cn_], Box ptimes [.slice atimes times.length ctimes]] h
    refine .cond rfl (fun q10 => ?_) (fun q10 => ?_)
    · replace hF := hF.1 q10
      refine .seq ?_
      refine .region ?_
      refine .v (asg rfl) rfl rfl rfl ?_
      refine .nil ?_
      refine .seqN ?_
      refine .ret ?_
      refine .seqR ?_
      refine .res1 rfl (rvT rfl) (fun w' S => ⟨false, hF, rfl, S.below⟩)
    replace hF := hF.2 q10
    refine .skip ?_
    refine .seqN ?_
    refine .seq ?_
    refine .region ?_
    refine .v (fa rfl tF24_1) rfl rfl rfl ?_
    refine .v (ld1 rfl tO22 (cellB (off := 1) (k := 0) rfl rfl)) rfl rfl rfl ?_
    refine .v (mkf (vf := []) (vc := [.pointer (some ptimes)]) rfl rfl) rfl rfl rfl ?_
    obtain ⟨q11, hF⟩ := hF
    obtain ⟨r2, q12⟩ : ∃ y_ : Bool, y_ = sp_any n_.links (fun y_ : Link => sp_fits1 y_ times) (fun y_ : Link => pre_fits1 y_ times) := ⟨_, rfl⟩
    replace hF := hF r2 q12
    refine .c (cl (v := .bool r2) Try.call60 rfl rfl (fun w S => (by rw [q12]; obtain ⟨h_, hl_, hs_, hb_⟩ := lookB S (k := 1) rfl; exact c_containsL hs_ n_.links an_ cn_ (RSl.mono hl_ _q1) _q2 (fun y_ : Link => sp_fits1 y_ times) (fun y_ : Link => pre_fits1 y_ times) 66 #[] #[.pointer (some ptimes)] Try.call66 (fun x w' hD hs' => c_fits1 hs' x times atimes ctimes (RSl.mono hl_ _q3) _q4 ptimes hb_ hD) q11))) rfl rfl rfl ?_
    refine .v (nt rfl) rfl rfl rfl ?_
    refine .v (asg rfl) rfl rfl rfl ?_
    refine .nil ?_
    refine .seqN ?_
    refine .ret ?_
    refine .res1 rfl (rvT rfl) (fun w' S => ⟨!r2, hF, rfl, S.below⟩)
  refine .region ?_
  refine .v (ld1 rfl tO32 (cellB (off := 0) (k := 0) rfl rfl)) rfl rfl rfl ?_
  obtain ⟨q13, hF⟩ := hF
  refine .v (ix rfl rfl tS32 (_q3.ne (by decide) (inb_pos q13)) q13) rfl rfl rfl ?_
  refine .v (ld1 (v := .int .i64 (gt times (0 : Int))) rfl tO3 (cellH (_q3.elemF q13 (by decide) 0 _ rfl))) rfl rfl rfl ?_
  refine .v (bi rfl rfl rfl) rfl rfl rfl ?_
  refine .v (mv rfl) rfl rfl rfl ?_
  rcases Bool.eq_false_or_eq_true ((gt times (0 : Int)) != 0) with q14 | q14
  · replace hF := hF.1 q14
    refine .gS rfl rfl rfl q14 rfl rfl ?_
    refine .gS rfl rfl rfl q14 rfl rfl ?_
    refine .gS rfl rfl rfl q14 rfl rfl ?_
    refine .v (pkT rfl q14 rfl) rfl rfl rfl ?_
    refine .nil ?_
    refine .sel0 [1, 0] (by decide) rfl ?_
    exact .use q9 true hF (.cons rfl (.cons rfl (.cons rfl (.nil)))) rfl (FH.le_refl _)
  replace hF := hF.2 q14
  refine .gv (ld1 rfl tO32 (cellB (off := 0) (k := 0) rfl rfl)) rfl rfl rfl q14 rfl rfl ?_
  obtain ⟨q15, hF⟩ := hF
  obtain ⟨r3, q16⟩ : ∃ y_ : Int, y_ = sp_min_ times := ⟨_, rfl⟩
  replace hF := hF r3 q16
  refine .gc (cl (v := .int .i64 r3) Try.call65 rfl rfl (fun w S => (by rw [q16]; exact c_min_ S.sub times atimes ctimes _q3 _q4 q15))) rfl rfl rfl q14 rfl rfl ?_
  refine .gv (bi rfl rfl rfl) rfl rfl rfl q14 rfl rfl ?_
  refine .v (pkF rfl q14 rfl) rfl rfl rfl ?_
  refine .nil ?_
  refine .sel0 [1, 0] (by decide) rfl ?_
  exact .use q9 (decide (r3 < 0)) hF (.cons rfl (.cons rfl (.cons rfl (.nil)))) rfl (FH.le_refl _)

theorem c_fits {h : FH} {w : World} (hs : Sub h w) (n_ : Network) (an_ : Option Addr) (cn_ : Nat) (_q1 : RSl h an_ n_.links) (_q2 : n_.links.length ≤ cn_) (times : List Int) (atimes : Option Addr) (ctimes : Nat) (_q3 : RSl h atimes times) (_q4 : times.length ≤ ctimes) (hp : pre_fits n_ times) : Calls Try.prog 47 #[.agg #[.int .i64 n_.events, .slice an_ n_.links.length cn_], .slice atimes times.length ctimes] w fun e w' => e = .returned (.bool (sp_fits n_ times)) ∧ Below w.heap.size w w' :=
  (w_fits hs n_ an_ cn_ _q1 _q2 times atimes ctimes _q3 _q4 (fun r => r = sp_fits n_ times) (ok_fits n_ times hp)).mono fun _ _ ⟨_, hk, he, hb⟩ => ⟨by rw [he, hk], hb⟩

theorem w_respects {h : FH} {w : World} (hs : Sub h w) (n_ : Network) (an_ : Option Addr) (cn_ : Nat) (_q1 : RSl h an_ n_.links) (_q2 : n_.links.length ≤ cn_) (times : List Int) (atimes : Option Addr) (ctimes : Nat) (_q3 : RSl h atimes times) (_q4 : times.length ≤ ctimes) (K : (Bool × Fault) → Prop) (hF : F_respects n_ times K) : Calls Try.prog 18 #[.agg #[.int .i64 n_.events, .slice an_ n_.links.length cn_], .slice atimes times.length ctimes] w fun e w' => ∃ r : Bool × Fault, K r ∧ e = .returned (.tuple #[.bool r.1, .agg #[.int .i64 r.2.code, .int .i64 r.2.index]]) ∧ Below w.heap.size w w' := by
  refine enter (args := [.agg #[.int .i64 n_.events, .slice an_ n_.links.length cn_], .slice atimes times.length ctimes]) Try.func18 rfl Try.ntmps18 rfl hs ?_
  refine .seq ?_
  refine .region ?_
  refine bx (vs := [.int .i64 n_.events, .slice an_ n_.links.length cn_]) rfl rfl rfl (fun pn => ?_)
  refine .v (asg rfl) rfl rfl rfl ?_
  refine al tZ27 rfl (fun pv => ?_)
  refine .nil ?_
  refine .seqN ?_
  refine .seq ?_
  refine .seq ?_
  refine .region ?_
  refine .v (ldA (cs := [.int .i64 n_.events, .slice an_ n_.links.length cn_]) rfl tA24 rfl (cellsB (off := 0) (k := 1) rfl (m := 2) rfl)) rfl rfl rfl ?_
  obtain ⟨r2, q5⟩ : ∃ y_ : Fault, y_ = sp_validate n_ := ⟨_, rfl⟩
  replace hF := hF r2 q5
  refine .c (cl (v := .agg #[.int .i64 r2.code, .int .i64 r2.index]) Try.call22 rfl rfl (fun w S => (by rw [q5]; exact c_validate S.sub n_ an_ cn_ _q1 _q2 ))) rfl rfl rfl ?_
  refine al tZ27 rfl (fun pf => ?_)
  refine st (p := pf) (off := 0) (k := 0) (vs := [.int .i64 r2.code, .int .i64 r2.index]) rfl rfl rfl (fun w => (tA27 w).2) rfl rfl rfl rfl ?_
  refine .cast (A' := [Box pf [.int .i64 r2.code, .int .i64 r2.index], Box pv [.int .i64 0, .int .i64 0], Box pn [.int .i64 n_.events, .slice an_ n_.links.length cn_]]) rfl ?_
  refine .nil ?_
  refine .seqN ?_
  refine .seq ?_
  refine .region ?_
  refine .v (ldA (cs := [.int .i64 r2.code, .int .i64 r2.index]) rfl tA27 rfl (cellsB (off := 0) (k := 0) rfl (m := 2) rfl)) rfl rfl rfl ?_
  refine .v (bld (cs := #[.int .i64 0, .int .i64 0]) (pv := []) tB27 rfl rfl) rfl rfl rfl ?_
  refine .v (ne2 tE27 rfl rfl) rfl rfl rfl ?_
  refine .nil ?_
  refine .seqN ?_
  refine .cond rfl (fun q6 => ?_) (fun q6 => ?_)
  · replace hF := hF.1 q6
    refine .seq ?_
    refine .openL (by kernel_rfl) rfl (by kernel_rfl) (by kernel_rfl) ?_
    refine .v (ldA (cs := [.int .i64 r2.code, .int .i64 r2.index]) rfl tA27 rfl (cellsB (off := 0) (k := 0) rfl (m := 2) rfl)) rfl rfl rfl ?_
    refine .v (asg rfl) rfl rfl rfl ?_
    refine .tail ?_
    refine st (p := pv) (off := 0) (k := 1) (vs := [.int .i64 r2.code, .int .i64 r2.index]) rfl rfl rfl (fun w => (tA27 w).2) rfl rfl rfl rfl ?_
    refine .cast (A' := [Box pf [.int .i64 r2.code, .int .i64 r2.index], Box pv [.int .i64 r2.code, .int .i64 r2.index], Box pn [.int .i64 n_.events, .slice an_ n_.links.length cn_]]) rfl ?_
    refine .nil ?_
    refine .seqN ?_
    refine .ret ?_
    refine .seqR ?_
    refine .res2 rfl (rvT rfl) (rvC rfl tA27 (k := 1) rfl rfl) (fun w' S => ⟨(false, r2), hF, rfl, S.below⟩)
  replace hF := hF.2 q6
  refine .skip ?_
  refine .seqN ?_
  refine .seq ?_
  refine .seq ?_
  refine .region ?_
  refine .v (mv rfl) rfl rfl rfl ?_
  refine .v (ln rfl tS32.is) rfl rfl rfl ?_
  refine .v (fa rfl tF24_0) rfl rfl rfl ?_
  refine .v (ld1 rfl tO3 (cellB (off := 0) (k := 2) rfl rfl)) rfl rfl rfl ?_
  refine .v (bi rfl rfl rfl) rfl rfl rfl ?_
  refine .nil ?_
  refine .seqN ?_
  refine .cond rfl (fun q7 => ?_) (fun q7 => ?_)
  · replace hF := hF.1 q7
    refine .seq ?_
    refine .region ?_
    refine .v (bld (cs := #[.int .i64 9, .int .i64 (-2)]) (pv := [(0, .int .i64 9), (1, .int .i64 (-2))]) tB27 rfl rfl) rfl rfl rfl ?_
    refine .v (asg rfl) rfl rfl rfl ?_
    refine st (p := pv) (off := 0) (k := 1) (vs := [.int .i64 9, .int .i64 (-2)]) rfl rfl rfl (fun w => (tA27 w).2) rfl rfl rfl rfl ?_
    refine .cast (A' := [Box pf [.int .i64 r2.code, .int .i64 r2.index], Box pv [.int .i64 9, .int .i64 (-2)], Box pn [.int .i64 n_.events, .slice an_ n_.links.length cn_]]) rfl ?_
    refine .nil ?_
    refine .seqN ?_
    refine .ret ?_
    refine .seqR ?_
    refine .res2 rfl (rvT rfl) (rvC rfl tA27 (k := 1) rfl rfl) (fun w' S => ⟨(false, (⟨9, (-2)⟩ : Fault)), hF, rfl, S.below⟩)
  replace hF := hF.2 q7
  refine .skip ?_
  refine .seqN ?_
  refine .seq ?_
  refine .seq ?_
  refine .region ?_
  refine .v (mv rfl) rfl rfl rfl ?_
  refine .v (ln rfl tS32.is) rfl rfl rfl ?_
  refine .v (mv rfl) rfl rfl rfl ?_
  refine .nil ?_
  refine .seqN ?_
  refine .block ?_
  refine .sel0 [2, 1] (by decide) rfl ?_
  obtain ⟨I1, μ1, q32, q33⟩ := hF
  refine .loop' (σ := Int) (fun z => I1 z) (fun z => μ1 z) (fun z => [(1, .slice atimes times.length ctimes), (2, .pointer (some pn)), (5, .pointer (some pv)), (21, .slice atimes times.length ctimes), (22, .int .i64 ((times.length : Nat) : Int)), (23, .int .i64 z)]) (fun _ => [Box pn [.int .i64 n_.events, .slice an_ n_.links.length cn_], Box pv [.int .i64 0, .int .i64 0]]) (fun _ => h) 0 q32 (.cons rfl (.cons rfl (.cons rfl (.cons rfl (.cons rfl (.cons rfl (.nil))))))) rfl (FH.le_refl _) ?_
  rintro t23 q32
  have hF := q33 t23 q32
  show J _ _ _ _ _ [(1, .slice atimes times.length ctimes), (2, .pointer (some pn)), (5, .pointer (some pv)), (21, .slice atimes times.length ctimes), (22, .int .i64 ((times.length : Nat) : Int)), (23, .int .i64 t23)] [Box pn [.int .i64 n_.events, .slice an_ n_.links.length cn_], Box pv [.int .i64 0, .int .i64 0]] h
  refine .seq ?_
  refine .region ?_
  refine .v (bi rfl rfl rfl) rfl rfl rfl ?_
  refine .nil ?_
  refine .seqN ?_
  refine .seq ?_
  refine .cond rfl (fun q35 => ?_) (fun q35 => ?_)
  · replace hF := hF.1 q35
    refine .skip ?_
    refine .seqN ?_
    refine .seq ?_
    refine .block ?_
    refine .seq ?_
    refine .region ?_
    refine .v (mv rfl) rfl rfl rfl ?_
    obtain ⟨q41, hF⟩ := hF
    refine .v (ix rfl rfl tS32 (_q3.ne (by decide) (inb_pos q41)) q41) rfl rfl rfl ?_
    refine .v (ld1 (v := .int .i64 (gt times t23)) rfl tO3 (cellH (_q3.elemF q41 (by decide) 0 _ rfl))) rfl rfl rfl ?_
    refine .v (asg rfl) rfl rfl rfl ?_
    refine .v (asg rfl) rfl rfl rfl ?_
    refine .nil ?_
    refine .seqN ?_
    refine .share (σ := Bool) (fun z => F_respects_J1 K z t23 I1 μ1) (fun z => [(1, .slice atimes times.length ctimes), (2, .pointer (some pn)), (5, .pointer (some pv)), (7, .int .i64 t23), (21, .slice atimes times.length ctimes), (22, .int .i64 ((times.length : Nat) : Int)), (23, .int .i64 t23), (33, .bool z)]) (fun _ => [Box pn [.int .i64 n_.events, .slice an_ n_.links.length cn_], Box pv [.int .i64 0, .int .i64 0]]) (fun _ => h) ?_ (fun q43 => ?_)
    · rintro t33 hF
      show J _ _ _ _ _ [(1, .slice atimes times.length ctimes), (2, .pointer (some pn)), (5, .pointer (some pv)), (7, .int .i64 t23), (21, .slice atimes times.length ctimes), (22, .int .i64 ((times.length : Nat) : Int)), (23, .int .i64 t23), (33, .bool t33)] [Box pn [.int .i64 n_.events, .slice an_ n_.links.length cn_], Box pv [.int .i64 0, .int .i64 0]] h
      refine .cond rfl (fun q44 => ?_) (fun q44 => ?_)
      · replace hF := hF.1 q44
        refine .seq ?_
        refine .region ?_
        refine .v (mv rfl) rfl rfl rfl ?_
        refine .v (bi rfl rfl rfl) rfl rfl rfl ?_
        refine .v (bld (cs := #[.int .i64 3, .int .i64 (IntKind.i64.wrap ((-3) - t23))]) (pv := [(0, .int .i64 3), (1, .int .i64 (IntKind.i64.wrap ((-3) - t23)))]) tB27 rfl rfl) rfl rfl rfl ?_
        refine .v (asg rfl) rfl rfl rfl ?_
        refine st (p := pv) (off := 0) (k := 1) (vs := [.int .i64 3, .int .i64 (IntKind.i64.wrap ((-3) - t23))]) rfl rfl rfl (fun w => (tA27 w).2) rfl rfl rfl rfl ?_
        refine .cast (A' := [Box pn [.int .i64 n_.events, .slice an_ n_.links.length cn_], Box pv [.int .i64 3, .int .i64 (IntKind.i64.wrap ((-3) - t23))]]) rfl ?_
        refine .nil ?_
        refine .seqN ?_
        refine .ret ?_
        refine .blkR ?_
        refine .seqR ?_
        refine .seqR ?_
        refine .blkR ?_
        refine .seqR ?_
        refine .res2 rfl (rvT rfl) (rvC rfl tA27 (k := 1) rfl rfl) (fun w' S => ⟨(false, (⟨3, IntKind.i64.wrap ((-3) - t23)⟩ : Fault)), hF, rfl, S.below⟩)
      replace hF := hF.2 q44
      refine .skip ?_
      refine .blkN ?_
      refine .seqN ?_
      refine .region ?_
      refine .v (bi rfl rfl rfl) rfl rfl rfl ?_
      refine .v (mv rfl) rfl rfl rfl ?_
      refine .nil ?_
      exact .round (IntKind.i64.wrap (t23 + 1)) hF.1 hF.2 (.cons rfl (.cons rfl (.cons rfl (.cons rfl (.cons rfl (.cons rfl (.nil))))))) rfl (FH.le_refl _)
    refine .region ?_
    refine .v (mv rfl) rfl rfl rfl ?_
    refine .v (bi rfl rfl rfl) rfl rfl rfl ?_
    refine .v (mv rfl) rfl rfl rfl ?_
    rcases Bool.eq_false_or_eq_true (decide ((gt times t23) < (-1000000))) with q45 | q45
    · replace hF := hF.1 q45
      refine .gS rfl rfl rfl q45 rfl rfl ?_
      refine .gS rfl rfl rfl q45 rfl rfl ?_
      refine .v (pkT rfl q45 rfl) rfl rfl rfl ?_
      refine .nil ?_
      exact .use q43 true hF (.cons rfl (.cons rfl (.cons rfl (.cons rfl (.cons rfl (.cons rfl (.cons rfl (.cons rfl (.nil))))))))) rfl (FH.le_refl _)
    replace hF := hF.2 q45
    refine .gv (mv rfl) rfl rfl rfl q45 rfl rfl ?_
    refine .gv (bi rfl rfl rfl) rfl rfl rfl q45 rfl rfl ?_
    refine .v (pkF rfl q45 rfl) rfl rfl rfl ?_
    refine .nil ?_
    exact .use q43 (decide (1000000 < (gt times t23))) hF (.cons rfl (.cons rfl (.cons rfl (.cons rfl (.cons rfl (.cons rfl (.cons rfl (.cons rfl (.nil))))))))) rfl (FH.le_refl _)
  replace hF := hF.2 q35
  refine .exit ?_
  refine .seqX ?_
  refine .seqX ?_
  refine .blkX ?_
  refine .seqN ?_
  refine .seq ?_
  refine .region ?_
  refine .v (ldA (cs := [.int .i64 n_.events, .slice an_ n_.links.length cn_]) rfl tA24 rfl (cellsB (off := 0) (k := 0) rfl (m := 2) rfl)) rfl rfl rfl ?_
  refine .v (mv rfl) rfl rfl rfl ?_
  obtain ⟨q46, hF⟩ := hF
  obtain ⟨r3, q47⟩ : ∃ y_ : Bool, y_ = sp_fits n_ times := ⟨_, rfl⟩
  replace hF := hF r3 q47
  refine .c (cl (v := .bool r3) Try.call47 rfl rfl (fun w S => (by rw [q47]; exact c_fits S.sub n_ an_ cn_ _q1 _q2 times atimes ctimes _q3 _q4 q46))) rfl rfl rfl ?_
  refine .v (bld (cs := #[.int .i64 0, .int .i64 0]) (pv := []) tB27 rfl rfl) rfl rfl rfl ?_
  refine .v (asg rfl) rfl rfl rfl ?_
  refine st (p := pv) (off := 0) (k := 1) (vs := [.int .i64 0, .int .i64 0]) rfl rfl rfl (fun w => (tA27 w).2) rfl rfl rfl rfl ?_
  refine .cast (A' := [Box pn [.int .i64 n_.events, .slice an_ n_.links.length cn_], Box pv [.int .i64 0, .int .i64 0]]) rfl ?_
  refine .nil ?_
  refine .seqN ?_
  refine .ret ?_
  refine .res2 rfl (rvT rfl) (rvC rfl tA27 (k := 1) rfl rfl) (fun w' S => ⟨(r3, (⟨0, 0⟩ : Fault)), hF, rfl, S.below⟩)

theorem c_respects {h : FH} {w : World} (hs : Sub h w) (n_ : Network) (an_ : Option Addr) (cn_ : Nat) (_q1 : RSl h an_ n_.links) (_q2 : n_.links.length ≤ cn_) (times : List Int) (atimes : Option Addr) (ctimes : Nat) (_q3 : RSl h atimes times) (_q4 : times.length ≤ ctimes) : Calls Try.prog 18 #[.agg #[.int .i64 n_.events, .slice an_ n_.links.length cn_], .slice atimes times.length ctimes] w fun e w' => e = .returned (.tuple #[.bool (sp_respects n_ times).1, .agg #[.int .i64 (sp_respects n_ times).2.code, .int .i64 (sp_respects n_ times).2.index]]) ∧ Below w.heap.size w w' :=
  (w_respects hs n_ an_ cn_ _q1 _q2 times atimes ctimes _q3 _q4 (fun r => r = sp_respects n_ times) (ok_respects n_ times)).mono fun _ _ ⟨_, hk, he, hb⟩ => ⟨by rw [he, hk], hb⟩

theorem w_bounded {h : FH} {w : World} (hs : Sub h w) (K : Bool → Prop) (hF : F_bounded  K) : Calls Try.prog 17 #[] w fun e w' => ∃ r : Bool, K r ∧ e = .returned (.bool r) ∧ Below w.heap.size w w' := by
  refine enter (args := []) Try.func17 rfl Try.ntmps17 rfl hs ?_
  refine .seq ?_
  refine .region ?_
  refine .v (asg rfl) rfl rfl rfl ?_
  refine .nil ?_
  refine .seqN ?_
  refine .seq ?_
  refine .region ?_
  obtain ⟨r2, q1⟩ : ∃ y_ : Network, y_ = sp_pair 2 5 := ⟨_, rfl⟩
  replace hF := hF r2 q1
  refine clR (α := Option Addr × Nat) (Φ := fun h1 z => RSl h1 z.1 r2.links ∧ r2.links.length ≤ z.2) (V := fun z => .agg #[.int .i64 r2.events, .slice z.1 r2.links.length z.2]) Try.call46 rfl rfl (fun w S => (by rw [q1]; exact c_pair S.sub 2 5 )) rfl (fun z h1 le1 hz => ?_)
  obtain ⟨a, c⟩ := z
  obtain ⟨q2, q3⟩ := hz
  obtain ⟨r3, q4⟩ : ∃ y_ : List (List Int) × Bool × Fault, y_ = sp_minimal r2 := ⟨_, rfl⟩
  replace hF := hF r3 q4
  refine clR (α := Option Addr × Nat) (Φ := fun h1 z => RSl h1 z.1 r3.1 ∧ r3.1.length ≤ z.2) (V := fun z => .tuple #[.slice z.1 r3.1.length z.2, .bool r3.2.1, .agg #[.int .i64 r3.2.2.code, .int .i64 r3.2.2.index]]) Try.call15 rfl rfl (fun w S => (by rw [q4]; exact c_minimal S.sub r2 a c q2 q3 )) rfl (fun z h2 le2 hz => ?_)
  obtain ⟨a2, c2⟩ := z
  obtain ⟨q5, q6⟩ := hz
  refine .v (mv rfl) rfl rfl rfl ?_
  refine .v (ext rfl rfl) rfl rfl rfl ?_
  refine .v (ext rfl rfl) rfl rfl rfl ?_
  refine .v (ext rfl rfl) rfl rfl rfl ?_
  refine al tZ27 rfl (fun pf => ?_)
  refine .v (asg rfl) rfl rfl rfl ?_
  refine .v (asg rfl) rfl rfl rfl ?_
  refine st (p := pf) (off := 0) (k := 0) (vs := [.int .i64 r3.2.2.code, .int .i64 r3.2.2.index]) rfl rfl rfl (fun w => (tA27 w).2) rfl rfl rfl rfl ?_
  refine .cast (A' := [Box pf [.int .i64 r3.2.2.code, .int .i64 r3.2.2.index]]) rfl ?_
  refine .nil ?_
  refine .seqN ?_
  refine .seq ?_
  refine .region ?_
  refine .v (fa rfl tF27_0) rfl rfl rfl ?_
  refine .v (ld1 rfl tO3 (cellB (off := 0) (k := 0) rfl rfl)) rfl rfl rfl ?_
  refine .v (bi rfl rfl rfl) rfl rfl rfl ?_
  refine .v (mv rfl) rfl rfl rfl ?_
  rcases Bool.eq_false_or_eq_true (r3.2.2.code == 0) with q20 | q20
  · replace hF := hF.1 q20
    refine .gv (mv rfl) rfl rfl rfl q20 rfl rfl ?_
    refine .v (pkT rfl q20 rfl) rfl rfl rfl ?_
    refine .v (mv rfl) rfl rfl rfl ?_
    rcases Bool.eq_false_or_eq_true (r3.2.1) with q21 | q21
    · replace hF := hF.1 q21
      refine .gv (mv rfl) rfl rfl rfl q21 rfl rfl ?_
      refine .gR rfl rfl rfl q21 ?_
      refine bs2 (cs := #[.int .i64 0, .int .i64 5]) (pv := [(0, .int .i64 0), (1, .int .i64 5)]) tS32 rfl rfl (by decide) (by decide) rfl rfl rfl (fun a3 _ => ?_)
      refine .cast (A' := [OwnSl 3 1 a3 (([0, 5] : List Int).length) 2 (flL ([0, 5] : List Int)), Box pf [.int .i64 r3.2.2.code, .int .i64 r3.2.2.index]]) rfl ?_
      refine .gR rfl rfl rfl q21 ?_
      refine bs2 (cs := #[.int .i64 (-2), .int .i64 0]) (pv := [(0, .int .i64 (-2)), (1, .int .i64 0)]) tS32 rfl rfl (by decide) (by decide) rfl rfl rfl (fun a4 _ => ?_)
      refine .cast (A' := [OwnSl 3 1 a4 (([(-2), 0] : List Int).length) 2 (flL ([(-2), 0] : List Int)), OwnSl 3 1 a3 (([0, 5] : List Int).length) 2 (flL ([0, 5] : List Int)), Box pf [.int .i64 r3.2.2.code, .int .i64 r3.2.2.index]]) rfl ?_
      refine .gR rfl rfl rfl q21 ?_
      refine .freezeL (k := 1) rfl (fun h6 le6 q25 q24 => ?_)
      refine .cast (A' := [OwnSl 3 1 a4 (([(-2), 0] : List Int).length) 2 (flL ([(-2), 0] : List Int)), tru, Box pf [.int .i64 r3.2.2.code, .int .i64 r3.2.2.index]]) rfl ?_
      refine .freezeL (k := 0) rfl (fun h7 le7 q27 q26 => ?_)
      refine .cast (A' := [tru, tru, Box pf [.int .i64 r3.2.2.code, .int .i64 r3.2.2.index]]) rfl ?_
      refine bs2 (cs := #[.slice a3 (([0, 5] : List Int).length) 2, .slice a4 (([(-2), 0] : List Int).length) 2]) (pv := [(0, .slice a3 (([0, 5] : List Int).length) 2), (1, .slice a4 (([(-2), 0] : List Int).length) 2)]) tS25 rfl rfl (by decide) (by decide) rfl rfl rfl (fun a5 _ => ?_)
      refine .cast (A' := [OwnSl 32 1 a5 (([([0, 5] : List Int), ([(-2), 0] : List Int)] : List (List Int)).length) 2 [.slice a3 (([0, 5] : List Int).length) 2, .slice a4 (([(-2), 0] : List Int).length) 2], tru, tru, Box pf [.int .i64 r3.2.2.code, .int .i64 r3.2.2.index]]) rfl ?_
      refine .freezeL (k := 0) rfl (fun h8 le8 q30 q29 => ?_)
      refine .cast (A' := [tru, tru, tru, Box pf [.int .i64 r3.2.2.code, .int .i64 r3.2.2.index]]) rfl ?_
      obtain ⟨q31, hF⟩ := hF
      obtain ⟨r4, q32⟩ : ∃ y_ : Bool, y_ = sp_sets r3.1 ([([0, 5] : List Int), ([(-2), 0] : List Int)] : List (List Int)) := ⟨_, rfl⟩
      replace hF := hF r4 q32
      refine .gc (cl (v := .bool r4) Try.call24 rfl rfl (fun w S => (by rw [q32]; exact c_sets S.sub r3.1 a2 c2 (q5.mono (FH.le_trans (FH.le_trans (le6) (le7)) (le8))) q6 ([([0, 5] : List Int), ([(-2), 0] : List Int)] : List (List Int)) a5 2 (⟨_, (show RepL h7 ([([0, 5] : List Int), ([(-2), 0] : List Int)] : List (List Int)) [.slice a3 (([0, 5] : List Int).length) 2, .slice a4 (([(-2), 0] : List Int).length) 2] from ⟨[.slice a3 (([0, 5] : List Int).length) 2], _, rfl, ⟨a3, 2, rfl, (q25), ((RSl.of q24).mono (le7))⟩, ⟨[.slice a4 (([(-2), 0] : List Int).length) 2], _, rfl, ⟨a4, 2, rfl, (q27), (RSl.of q26)⟩, rfl⟩⟩).mono (le8), q29⟩ : RSl h8 a5 ([([0, 5] : List Int), ([(-2), 0] : List Int)] : List (List Int))) (q30) q31))) rfl rfl rfl q21 rfl rfl ?_
      refine .v (pkT rfl q21 rfl) rfl rfl rfl ?_
      refine .v (asg rfl) rfl rfl rfl ?_
      refine .nil ?_
      refine .seqN ?_
      refine .ret ?_
      refine .res1 rfl (rvT rfl) (fun w' S => ⟨r4, hF, rfl, S.below⟩)
    replace hF := hF.2 q21
    refine .gS rfl rfl rfl q21 rfl rfl ?_
    refine .gS rfl rfl rfl q21 rfl rfl ?_
    refine .gS rfl rfl rfl q21 rfl rfl ?_
    refine .gS rfl rfl rfl q21 rfl rfl ?_
    refine .gS rfl rfl rfl q21 rfl rfl ?_
    refine .v (pkF rfl q21 rfl) rfl rfl rfl ?_
    refine .v (asg rfl) rfl rfl rfl ?_
    refine .nil ?_
    refine .seqN ?_
    refine .ret ?_
    refine .res1 rfl (rvT rfl) (fun w' S => ⟨false, hF, rfl, S.below⟩)
  replace hF := hF.2 q20
  refine .gS rfl rfl rfl q20 rfl rfl ?_
  refine .v (pkF rfl q20 rfl) rfl rfl rfl ?_
  refine .v (mv rfl) rfl rfl rfl ?_
  refine .gS rfl rfl rfl rfl rfl rfl ?_
  refine .gS rfl rfl rfl rfl rfl rfl ?_
  refine .gS rfl rfl rfl rfl rfl rfl ?_
  refine .gS rfl rfl rfl rfl rfl rfl ?_
  refine .gS rfl rfl rfl rfl rfl rfl ?_
  refine .v (pkF rfl rfl rfl) rfl rfl rfl ?_
  refine .v (asg rfl) rfl rfl rfl ?_
  refine .nil ?_
  refine .seqN ?_
  refine .ret ?_
  refine .res1 rfl (rvT rfl) (fun w' S => ⟨false, hF, rfl, S.below⟩)

theorem c_bounded {h : FH} {w : World} (hs : Sub h w) : Calls Try.prog 17 #[] w fun e w' => e = .returned (.bool (sp_bounded)) ∧ Below w.heap.size w w' :=
  (w_bounded hs  (fun r => r = sp_bounded) (ok_bounded )).mono fun _ _ ⟨_, hk, he, hb⟩ => ⟨by rw [he, hk], hb⟩

set_option maxHeartbeats 8000000 in
theorem w_lawTriangle {h : FH} {w : World} (hs : Sub h w) (n_ : Network) (an_ : Option Addr) (cn_ : Nat) (_q1 : RSl h an_ n_.links) (_q2 : n_.links.length ≤ cn_) (i : Int) (j : Int) (k : Int) (K : Bool → Prop) (hF : F_lawTriangle n_ i j k K) : Calls Try.prog 3 #[.agg #[.int .i64 n_.events, .slice an_ n_.links.length cn_], .int .i64 i, .int .i64 j, .int .i64 k] w fun e w' => ∃ r : Bool, K r ∧ e = .returned (.bool r) ∧ Below w.heap.size w w' := by
  refine enter (args := [.agg #[.int .i64 n_.events, .slice an_ n_.links.length cn_], .int .i64 i, .int .i64 j, .int .i64 k]) Try.func3 rfl Try.ntmps3 rfl hs ?_
  refine .seq ?_
  refine .region ?_
  refine bx (vs := [.int .i64 n_.events, .slice an_ n_.links.length cn_]) rfl rfl rfl (fun pn => ?_)
  refine .v (asg rfl) rfl rfl rfl ?_
  refine .nil ?_
  refine .seqN ?_
  refine .seq ?_
  refine .region ?_
  refine .v (ldA (cs := [.int .i64 n_.events, .slice an_ n_.links.length cn_]) rfl tA24 rfl (cellsB (off := 0) (k := 0) rfl (m := 2) rfl)) rfl rfl rfl ?_
  obtain ⟨r2, q3⟩ : ∃ y_ : List (List Int) × Bool × Fault, y_ = sp_minimal n_ := ⟨_, rfl⟩
  replace hF := hF r2 q3
  refine clR (α := Option Addr × Nat) (Φ := fun h1 z => RSl h1 z.1 r2.1 ∧ r2.1.length ≤ z.2) (V := fun z => .tuple #[.slice z.1 r2.1.length z.2, .bool r2.2.1, .agg #[.int .i64 r2.2.2.code, .int .i64 r2.2.2.index]]) Try.call15 rfl rfl (fun w S => (by rw [q3]; exact c_minimal S.sub n_ an_ cn_ _q1 _q2 )) rfl (fun z h1 le1 hz => ?_)
  obtain ⟨a, c⟩ := z
  obtain ⟨q4, q5⟩ := hz
  refine .v (mv rfl) rfl rfl rfl ?_
  refine .v (ext rfl rfl) rfl rfl rfl ?_
  refine .v (ext rfl rfl) rfl rfl rfl ?_
  refine .v (ext rfl rfl) rfl rfl rfl ?_
  refine al tZ27 rfl (fun pf => ?_)
  refine .v (asg rfl) rfl rfl rfl ?_
  refine .v (asg rfl) rfl rfl rfl ?_
  refine st (p := pf) (off := 0) (k := 0) (vs := [.int .i64 r2.2.2.code, .int .i64 r2.2.2.index]) rfl rfl rfl (fun w => (tA27 w).2) rfl rfl rfl rfl ?_
  refine .cast (A' := [Box pf [.int .i64 r2.2.2.code, .int .i64 r2.2.2.index], Box pn [.int .i64 n_.events, .slice an_ n_.links.length cn_]]) rfl ?_
  refine .nil ?_
  refine .seqN ?_
  refine .seq ?_
  refine .share (σ := Bool) (fun z => F_lawTriangle_J1 n_ i j k K r2 z) (fun z => [(1, .int .i64 i), (2, .int .i64 j), (3, .int .i64 k), (4, .pointer (some pn)), (9, .slice a r2.1.length c), (48, .bool z)]) (fun _ => [Box pn [.int .i64 n_.events, .slice an_ n_.links.length cn_]]) (fun _ => h1) ?_ (fun q13 => ?_)
  · rintro t48 hF
    show J _ _ _ _ _ [(1, .int .i64 i), (2, .int .i64 j), (3, .int .i64 k), (4, .pointer (some pn)), (9, .slice a r2.1.length c), (48, .bool t48)] [Box pn [.int .i64 n_.events, .slice an_ n_.links.length cn_]] h1
    refine .cond rfl (fun q14 => ?_) (fun q14 => ?_)
    · replace hF := hF.1 q14
      refine .seq ?_
      refine .region ?_
      obtain ⟨r3, q15⟩ : ∃ y_ : Bool, y_ = sp_bounded := ⟨_, rfl⟩
      replace hF := hF r3 q15
      refine .c (cl (v := .bool r3) Try.call17 rfl rfl (fun w S => (by rw [q15]; exact c_bounded S.sub  ))) rfl rfl rfl ?_
      refine .v (asg rfl) rfl rfl rfl ?_
      refine .nil ?_
      refine .seqN ?_
      refine .ret ?_
      refine .seqR ?_
      refine .res1 rfl (rvT rfl) (fun w' S => ⟨r3, hF, rfl, S.below⟩)
    replace hF := hF.2 q14
    refine .skip ?_
    refine .seqN ?_
    refine .seq ?_
    refine .share (σ := Bool) (fun z => F_lawTriangle_J2 i j k K r2 z) (fun z => [(1, .int .i64 i), (2, .int .i64 j), (3, .int .i64 k), (9, .slice a r2.1.length c), (74, .bool z)]) (fun _ => []) (fun _ => h1) ?_ (fun q26 => ?_)
    · rintro t74 hF
      show J _ _ _ _ _ [(1, .int .i64 i), (2, .int .i64 j), (3, .int .i64 k), (9, .slice a r2.1.length c), (74, .bool t74)] [] h1
      refine .cond rfl (fun q27 => ?_) (fun q27 => ?_)
      · replace hF := hF.1 q27
        refine .seq ?_
        refine .region ?_
        refine .v (asg rfl) rfl rfl rfl ?_
        refine .nil ?_
        refine .seqN ?_
        refine .ret ?_
        refine .seqR ?_
        refine .res1 rfl (rvT rfl) (fun w' S => ⟨false, hF, rfl, S.below⟩)
      replace hF := hF.2 q27
      refine .skip ?_
      refine .seqN ?_
      refine .seq ?_
      refine .open_ (by kernel_rfl) (by kernel_rfl) ?_
      refine .v (mv rfl) rfl rfl rfl ?_
      refine .v (mv rfl) rfl rfl rfl ?_
      obtain ⟨q48, hF⟩ := hF
      refine .v (ix rfl rfl tS25 (q4.ne (by decide) (inb_pos q48)) q48) rfl rfl rfl ?_
      obtain ⟨_, ⟨a2, c2, rfl, q49, q50⟩, q51⟩ := q4.elem q48
      refine .v (ld1 (v := .slice a2 ((gt r2.1 i).length) c2) rfl tO32 (cellH (q51 (by decide) 0 _ rfl))) rfl rfl rfl ?_
      refine .v (mv rfl) rfl rfl rfl ?_
      obtain ⟨q52, hF⟩ := hF
      refine .v (ix rfl rfl tS32 (q50.ne (by decide) (inb_pos q52)) q52) rfl rfl rfl ?_
      refine .v (ld1 (v := .int .i64 (gt (gt r2.1 i) i)) rfl tO3 (cellH (q50.elemF q52 (by decide) 0 _ rfl))) rfl rfl rfl ?_
      refine .v (bi rfl rfl rfl) rfl rfl rfl ?_
      refine .v (mv rfl) rfl rfl rfl ?_
      rcases Bool.eq_false_or_eq_true ((gt (gt r2.1 i) i) == 0) with q53 | q53
      · replace hF := hF.1 q53
        refine .gv (mv rfl) rfl rfl rfl q53 rfl rfl ?_
        refine .gv (mv rfl) rfl rfl rfl q53 rfl rfl ?_
        refine .gv (ix rfl rfl tS25 (q4.ne (by decide) (inb_pos q48)) q48) rfl rfl rfl q53 rfl rfl ?_
        refine .gv (ld1 (v := .slice a2 ((gt r2.1 i).length) c2) rfl tO32 (cellH (q51 (by decide) 0 _ rfl))) rfl rfl rfl q53 rfl rfl ?_
        refine .gv (mv rfl) rfl rfl rfl q53 rfl rfl ?_
        obtain ⟨q54, hF⟩ := hF
        refine .gv (ix rfl rfl tS32 (q50.ne (by decide) (inb_pos q54)) q54) rfl rfl rfl q53 rfl rfl ?_
        refine .gv (ld1 (v := .int .i64 (gt (gt r2.1 i) j)) rfl tO3 (cellH (q50.elemF q54 (by decide) 0 _ rfl))) rfl rfl rfl q53 rfl rfl ?_
        refine .gv (bi rfl rfl rfl) rfl rfl rfl q53 rfl rfl ?_
        refine .gv (mv rfl) rfl rfl rfl q53 rfl rfl ?_
        rcases Bool.eq_false_or_eq_true ((gt (gt r2.1 i) j) == 1000000000) with q55 | q55
        · replace hF := hF.1 q55
          refine .gS rfl rfl rfl q55 rfl rfl ?_
          refine .gS rfl rfl rfl q55 rfl rfl ?_
          refine .gS rfl rfl rfl q55 rfl rfl ?_
          refine .gS rfl rfl rfl q55 rfl rfl ?_
          refine .gS rfl rfl rfl q55 rfl rfl ?_
          refine .gS rfl rfl rfl q55 rfl rfl ?_
          refine .gS rfl rfl rfl q55 rfl rfl ?_
          refine .gS rfl rfl rfl q55 rfl rfl ?_
          refine .gv (pkT rfl q55 rfl) rfl rfl rfl q53 rfl rfl ?_
          refine .gv (mv rfl) rfl rfl rfl q53 rfl rfl ?_
          refine .gS rfl rfl rfl rfl rfl rfl ?_
          refine .gS rfl rfl rfl rfl rfl rfl ?_
          refine .gS rfl rfl rfl rfl rfl rfl ?_
          refine .gS rfl rfl rfl rfl rfl rfl ?_
          refine .gS rfl rfl rfl rfl rfl rfl ?_
          refine .gS rfl rfl rfl rfl rfl rfl ?_
          refine .gS rfl rfl rfl rfl rfl rfl ?_
          refine .gS rfl rfl rfl rfl rfl rfl ?_
          refine .gS rfl rfl rfl rfl rfl rfl ?_
          refine .gS rfl rfl rfl rfl rfl rfl ?_
          refine .gS rfl rfl rfl rfl rfl rfl ?_
          refine .gS rfl rfl rfl rfl rfl rfl ?_
          refine .gS rfl rfl rfl rfl rfl rfl ?_
          refine .gS rfl rfl rfl rfl rfl rfl ?_
          refine .gS rfl rfl rfl rfl rfl rfl ?_
          refine .gS rfl rfl rfl rfl rfl rfl ?_
          refine .gS rfl rfl rfl rfl rfl rfl ?_
          refine .gS rfl rfl rfl rfl rfl rfl ?_
          refine .gS rfl rfl rfl rfl rfl rfl ?_
          refine .gS rfl rfl rfl rfl rfl rfl ?_
          refine .gS rfl rfl rfl rfl rfl rfl ?_
          refine .gS rfl rfl rfl rfl rfl rfl ?_
          refine .gS rfl rfl rfl rfl rfl rfl ?_
          refine .gv (pkT rfl rfl rfl) rfl rfl rfl q53 rfl rfl ?_
          refine .v (pkT rfl q53 rfl) rfl rfl rfl ?_
          refine .v (mv rfl) rfl rfl rfl ?_
          obtain ⟨r4, q56⟩ : ∃ y_ : Bool, y_ = sp_bounded := ⟨_, rfl⟩
          replace hF := hF r4 q56
          refine .gc (cl (v := .bool r4) Try.call17 rfl rfl (fun w S => (by rw [q56]; exact c_bounded S.sub  ))) rfl rfl rfl rfl rfl rfl ?_
          refine .v (pkT rfl rfl rfl) rfl rfl rfl ?_
          refine .v (asg rfl) rfl rfl rfl ?_
          refine .fin ?_
          refine .seqN ?_
          refine .ret ?_
          refine .res1 rfl (rvT rfl) (fun w' S => ⟨r4, hF, rfl, S.below⟩)
        replace hF := hF.2 q55
        refine .gv (mv rfl) rfl rfl rfl q55 rfl rfl ?_
        refine .gv (mv rfl) rfl rfl rfl q55 rfl rfl ?_
        obtain ⟨q57, hF⟩ := hF
        refine .gv (ix rfl rfl tS25 (q4.ne (by decide) (inb_pos q57)) q57) rfl rfl rfl q55 rfl rfl ?_
        obtain ⟨_, ⟨a3, c3, rfl, q58, q59⟩, q60⟩ := q4.elem q57
        refine .gv (ld1 (v := .slice a3 ((gt r2.1 j).length) c3) rfl tO32 (cellH (q60 (by decide) 0 _ rfl))) rfl rfl rfl q55 rfl rfl ?_
        refine .gv (mv rfl) rfl rfl rfl q55 rfl rfl ?_
        obtain ⟨q61, hF⟩ := hF
        refine .gv (ix rfl rfl tS32 (q59.ne (by decide) (inb_pos q61)) q61) rfl rfl rfl q55 rfl rfl ?_
        refine .gv (ld1 (v := .int .i64 (gt (gt r2.1 j) k)) rfl tO3 (cellH (q59.elemF q61 (by decide) 0 _ rfl))) rfl rfl rfl q55 rfl rfl ?_
        refine .gv (bi rfl rfl rfl) rfl rfl rfl q55 rfl rfl ?_
        refine .gv (pkF rfl q55 rfl) rfl rfl rfl q53 rfl rfl ?_
        refine .gv (mv rfl) rfl rfl rfl q53 rfl rfl ?_
        rcases Bool.eq_false_or_eq_true ((gt (gt r2.1 j) k) == 1000000000) with q62 | q62
        · replace hF := hF.1 q62
          refine .gS rfl rfl rfl q62 rfl rfl ?_
          refine .gS rfl rfl rfl q62 rfl rfl ?_
          refine .gS rfl rfl rfl q62 rfl rfl ?_
          refine .gS rfl rfl rfl q62 rfl rfl ?_
          refine .gS rfl rfl rfl q62 rfl rfl ?_
          refine .gS rfl rfl rfl q62 rfl rfl ?_
          refine .gS rfl rfl rfl q62 rfl rfl ?_
          refine .gS rfl rfl rfl q62 rfl rfl ?_
          refine .gS rfl rfl rfl q62 rfl rfl ?_
          refine .gS rfl rfl rfl q62 rfl rfl ?_
          refine .gS rfl rfl rfl q62 rfl rfl ?_
          refine .gS rfl rfl rfl q62 rfl rfl ?_
          refine .gS rfl rfl rfl q62 rfl rfl ?_
          refine .gS rfl rfl rfl q62 rfl rfl ?_
          refine .gS rfl rfl rfl q62 rfl rfl ?_
          refine .gS rfl rfl rfl q62 rfl rfl ?_
          refine .gS rfl rfl rfl q62 rfl rfl ?_
          refine .gS rfl rfl rfl q62 rfl rfl ?_
          refine .gS rfl rfl rfl q62 rfl rfl ?_
          refine .gS rfl rfl rfl q62 rfl rfl ?_
          refine .gS rfl rfl rfl q62 rfl rfl ?_
          refine .gS rfl rfl rfl q62 rfl rfl ?_
          refine .gS rfl rfl rfl q62 rfl rfl ?_
          refine .gv (pkT rfl q62 rfl) rfl rfl rfl q53 rfl rfl ?_
          refine .v (pkT rfl q53 rfl) rfl rfl rfl ?_
          refine .v (mv rfl) rfl rfl rfl ?_
          obtain ⟨r5, q63⟩ : ∃ y_ : Bool, y_ = sp_bounded := ⟨_, rfl⟩
          replace hF := hF r5 q63
          refine .gc (cl (v := .bool r5) Try.call17 rfl rfl (fun w S => (by rw [q63]; exact c_bounded S.sub  ))) rfl rfl rfl rfl rfl rfl ?_
          refine .v (pkT rfl rfl rfl) rfl rfl rfl ?_
          refine .v (asg rfl) rfl rfl rfl ?_
          refine .fin ?_
          refine .seqN ?_
          refine .ret ?_
          refine .res1 rfl (rvT rfl) (fun w' S => ⟨r5, hF, rfl, S.below⟩)
        replace hF := hF.2 q62
        refine .gv (mv rfl) rfl rfl rfl q62 rfl rfl ?_
        refine .gv (mv rfl) rfl rfl rfl q62 rfl rfl ?_
        refine .gv (ix rfl rfl tS25 (q4.ne (by decide) (inb_pos q48)) q48) rfl rfl rfl q62 rfl rfl ?_
        refine .gv (ld1 (v := .slice a2 ((gt r2.1 i).length) c2) rfl tO32 (cellH (q51 (by decide) 0 _ rfl))) rfl rfl rfl q62 rfl rfl ?_
        refine .gv (mv rfl) rfl rfl rfl q62 rfl rfl ?_
        obtain ⟨q64, hF⟩ := hF
        refine .gv (ix rfl rfl tS32 (q50.ne (by decide) (inb_pos q64)) q64) rfl rfl rfl q62 rfl rfl ?_
        refine .gv (ld1 (v := .int .i64 (gt (gt r2.1 i) k)) rfl tO3 (cellH (q50.elemF q64 (by decide) 0 _ rfl))) rfl rfl rfl q62 rfl rfl ?_
        refine .gv (mv rfl) rfl rfl rfl q62 rfl rfl ?_
        refine .gv (mv rfl) rfl rfl rfl q62 rfl rfl ?_
        refine .gv (ix rfl rfl tS25 (q4.ne (by decide) (inb_pos q48)) q48) rfl rfl rfl q62 rfl rfl ?_
        refine .gv (ld1 (v := .slice a2 ((gt r2.1 i).length) c2) rfl tO32 (cellH (q51 (by decide) 0 _ rfl))) rfl rfl rfl q62 rfl rfl ?_
        refine .gv (mv rfl) rfl rfl rfl q62 rfl rfl ?_
        refine .gv (ix rfl rfl tS32 (q50.ne (by decide) (inb_pos q54)) q54) rfl rfl rfl q62 rfl rfl ?_
        refine .gv (ld1 (v := .int .i64 (gt (gt r2.1 i) j)) rfl tO3 (cellH (q50.elemF q54 (by decide) 0 _ rfl))) rfl rfl rfl q62 rfl rfl ?_
        refine .gv (mv rfl) rfl rfl rfl q62 rfl rfl ?_
        refine .gv (mv rfl) rfl rfl rfl q62 rfl rfl ?_
        refine .gv (ix rfl rfl tS25 (q4.ne (by decide) (inb_pos q57)) q57) rfl rfl rfl q62 rfl rfl ?_
        refine .gv (ld1 (v := .slice a3 ((gt r2.1 j).length) c3) rfl tO32 (cellH (q60 (by decide) 0 _ rfl))) rfl rfl rfl q62 rfl rfl ?_
        refine .gv (mv rfl) rfl rfl rfl q62 rfl rfl ?_
        refine .gv (ix rfl rfl tS32 (q59.ne (by decide) (inb_pos q61)) q61) rfl rfl rfl q62 rfl rfl ?_
        refine .gv (ld1 (v := .int .i64 (gt (gt r2.1 j) k)) rfl tO3 (cellH (q59.elemF q61 (by decide) 0 _ rfl))) rfl rfl rfl q62 rfl rfl ?_
        refine .gv (bi rfl rfl rfl) rfl rfl rfl q62 rfl rfl ?_
        obtain ⟨x, q65⟩ : ∃ y_ : Bool, y_ = (decide ((gt (gt r2.1 i) k) ≤ (IntKind.i64.wrap ((gt (gt r2.1 i) j) + (gt (gt r2.1 j) k))))) := ⟨_, rfl⟩
        replace hF := hF x q65
        refine .gv (v := .bool x) (by rw [q65]; exact bi rfl rfl rfl) rfl rfl rfl q62 rfl rfl ?_
        refine .gv (pkF rfl q62 rfl) rfl rfl rfl q53 rfl rfl ?_
        refine .v (pkT rfl q53 rfl) rfl rfl rfl ?_
        refine .v (mv rfl) rfl rfl rfl ?_
        rcases Bool.eq_false_or_eq_true (x) with q66 | q66
        · replace hF := hF.1 q66
          obtain ⟨r6, q67⟩ : ∃ y_ : Bool, y_ = sp_bounded := ⟨_, rfl⟩
          replace hF := hF r6 q67
          refine .gc (cl (v := .bool r6) Try.call17 rfl rfl (fun w S => (by rw [q67]; exact c_bounded S.sub  ))) rfl rfl rfl q66 rfl rfl ?_
          refine .v (pkT rfl q66 rfl) rfl rfl rfl ?_
          refine .v (asg rfl) rfl rfl rfl ?_
          refine .fin ?_
          refine .seqN ?_
          refine .ret ?_
          refine .res1 rfl (rvT rfl) (fun w' S => ⟨r6, hF, rfl, S.below⟩)
        replace hF := hF.2 q66
        refine .gS rfl rfl rfl q66 rfl rfl ?_
        refine .v (pkF rfl q66 rfl) rfl rfl rfl ?_
        refine .v (asg rfl) rfl rfl rfl ?_
        refine .fin ?_
        refine .seqN ?_
        refine .ret ?_
        refine .res1 rfl (rvT rfl) (fun w' S => ⟨false, hF, rfl, S.below⟩)
      replace hF := hF.2 q53
      refine .gS rfl rfl rfl q53 rfl rfl ?_
      refine .gS rfl rfl rfl q53 rfl rfl ?_
      refine .gS rfl rfl rfl q53 rfl rfl ?_
      refine .gS rfl rfl rfl q53 rfl rfl ?_
      refine .gS rfl rfl rfl q53 rfl rfl ?_
      refine .gS rfl rfl rfl q53 rfl rfl ?_
      refine .gS rfl rfl rfl q53 rfl rfl ?_
      refine .gS rfl rfl rfl q53 rfl rfl ?_
      refine .gS rfl rfl rfl q53 rfl rfl ?_
      refine .gU rfl rfl rfl rfl rfl ?_
      refine .gU rfl rfl rfl rfl rfl ?_
      refine .gU rfl rfl rfl rfl rfl ?_
      refine .gU rfl rfl rfl rfl rfl ?_
      refine .gU rfl rfl rfl rfl rfl ?_
      refine .gU rfl rfl rfl rfl rfl ?_
      refine .gU rfl rfl rfl rfl rfl ?_
      refine .gU rfl rfl rfl rfl rfl ?_
      refine .gS rfl rfl rfl q53 rfl rfl ?_
      refine .gS rfl rfl rfl q53 rfl rfl ?_
      refine .gU rfl rfl rfl rfl rfl ?_
      refine .gU rfl rfl rfl rfl rfl ?_
      refine .gU rfl rfl rfl rfl rfl ?_
      refine .gU rfl rfl rfl rfl rfl ?_
      refine .gU rfl rfl rfl rfl rfl ?_
      refine .gU rfl rfl rfl rfl rfl ?_
      refine .gU rfl rfl rfl rfl rfl ?_
      refine .gU rfl rfl rfl rfl rfl ?_
      refine .gU rfl rfl rfl rfl rfl ?_
      refine .gU rfl rfl rfl rfl rfl ?_
      refine .gU rfl rfl rfl rfl rfl ?_
      refine .gU rfl rfl rfl rfl rfl ?_
      refine .gU rfl rfl rfl rfl rfl ?_
      refine .gU rfl rfl rfl rfl rfl ?_
      refine .gU rfl rfl rfl rfl rfl ?_
      refine .gU rfl rfl rfl rfl rfl ?_
      refine .gU rfl rfl rfl rfl rfl ?_
      refine .gU rfl rfl rfl rfl rfl ?_
      refine .gU rfl rfl rfl rfl rfl ?_
      refine .gU rfl rfl rfl rfl rfl ?_
      refine .gU rfl rfl rfl rfl rfl ?_
      refine .gU rfl rfl rfl rfl rfl ?_
      refine .gU rfl rfl rfl rfl rfl ?_
      refine .gS rfl rfl rfl q53 rfl rfl ?_
      refine .v (pkF rfl q53 rfl) rfl rfl rfl ?_
      refine .v (mv rfl) rfl rfl rfl ?_
      refine .gS rfl rfl rfl rfl rfl rfl ?_
      refine .v (pkF rfl rfl rfl) rfl rfl rfl ?_
      refine .v (asg rfl) rfl rfl rfl ?_
      refine .fin ?_
      refine .seqN ?_
      refine .ret ?_
      refine .res1 rfl (rvT rfl) (fun w' S => ⟨false, hF, rfl, S.below⟩)
    refine .open_ (by kernel_rfl) (by kernel_rfl) ?_
    refine .v (mv rfl) rfl rfl rfl ?_
    refine .v (ln rfl tS25.is) rfl rfl rfl ?_
    refine .v (fa rfl tF24_0) rfl rfl rfl ?_
    refine .v (ld1 rfl tO3 (cellB (off := 0) (k := 0) rfl rfl)) rfl rfl rfl ?_
    refine .v (bi rfl rfl rfl) rfl rfl rfl ?_
    refine .v (mv rfl) rfl rfl rfl ?_
    rcases Bool.eq_false_or_eq_true (((r2.1.length : Nat) : Int) != n_.events) with q68 | q68
    · replace hF := hF.1 q68
      refine .gS rfl rfl rfl q68 rfl rfl ?_
      refine .gS rfl rfl rfl q68 rfl rfl ?_
      refine .gS rfl rfl rfl q68 rfl rfl ?_
      refine .gS rfl rfl rfl q68 rfl rfl ?_
      refine .gS rfl rfl rfl q68 rfl rfl ?_
      refine .gS rfl rfl rfl q68 rfl rfl ?_
      refine .gS rfl rfl rfl q68 rfl rfl ?_
      refine .gS rfl rfl rfl q68 rfl rfl ?_
      refine .v (pkT rfl q68 rfl) rfl rfl rfl ?_
      refine .v (mv rfl) rfl rfl rfl ?_
      refine .gS rfl rfl rfl rfl rfl rfl ?_
      refine .gS rfl rfl rfl rfl rfl rfl ?_
      refine .gS rfl rfl rfl rfl rfl rfl ?_
      refine .gS rfl rfl rfl rfl rfl rfl ?_
      refine .gS rfl rfl rfl rfl rfl rfl ?_
      refine .gS rfl rfl rfl rfl rfl rfl ?_
      refine .gS rfl rfl rfl rfl rfl rfl ?_
      refine .gS rfl rfl rfl rfl rfl rfl ?_
      refine .v (pkT rfl rfl rfl) rfl rfl rfl ?_
      refine .fin ?_
      refine .sel0 [] (by decide) rfl ?_
      exact .use q26 true hF (.cons rfl (.cons rfl (.cons rfl (.cons rfl (.cons rfl (.nil)))))) rfl (FH.le_refl _)
    replace hF := hF.2 q68
    refine .gv (mv rfl) rfl rfl rfl q68 rfl rfl ?_
    refine .gv (mv rfl) rfl rfl rfl q68 rfl rfl ?_
    obtain ⟨q69, hF⟩ := hF
    refine .gv (ix rfl rfl tS25 (q4.ne (by decide) (inb_pos q69)) q69) rfl rfl rfl q68 rfl rfl ?_
    obtain ⟨_, ⟨a4, c4, rfl, q70, q71⟩, q72⟩ := q4.elem q69
    refine .gv (ld1 (v := .slice a4 ((gt r2.1 i).length) c4) rfl tO32 (cellH (q72 (by decide) 0 _ rfl))) rfl rfl rfl q68 rfl rfl ?_
    refine .gv (ln rfl tS32.is) rfl rfl rfl q68 rfl rfl ?_
    refine .gv (fa rfl tF24_0) rfl rfl rfl q68 rfl rfl ?_
    refine .gv (ld1 rfl tO3 (cellB (off := 0) (k := 0) rfl rfl)) rfl rfl rfl q68 rfl rfl ?_
    refine .gv (bi rfl rfl rfl) rfl rfl rfl q68 rfl rfl ?_
    refine .v (pkF rfl q68 rfl) rfl rfl rfl ?_
    refine .v (mv rfl) rfl rfl rfl ?_
    rcases Bool.eq_false_or_eq_true ((((gt r2.1 i).length : Nat) : Int) != n_.events) with q73 | q73
    · replace hF := hF.1 q73
      refine .gS rfl rfl rfl q73 rfl rfl ?_
      refine .gS rfl rfl rfl q73 rfl rfl ?_
      refine .gS rfl rfl rfl q73 rfl rfl ?_
      refine .gS rfl rfl rfl q73 rfl rfl ?_
      refine .gS rfl rfl rfl q73 rfl rfl ?_
      refine .gS rfl rfl rfl q73 rfl rfl ?_
      refine .gS rfl rfl rfl q73 rfl rfl ?_
      refine .gS rfl rfl rfl q73 rfl rfl ?_
      refine .v (pkT rfl q73 rfl) rfl rfl rfl ?_
      refine .fin ?_
      refine .sel0 [] (by decide) rfl ?_
      exact .use q26 true hF (.cons rfl (.cons rfl (.cons rfl (.cons rfl (.cons rfl (.nil)))))) rfl (FH.le_refl _)
    replace hF := hF.2 q73
    refine .gv (mv rfl) rfl rfl rfl q73 rfl rfl ?_
    refine .gv (mv rfl) rfl rfl rfl q73 rfl rfl ?_
    obtain ⟨q74, hF⟩ := hF
    refine .gv (ix rfl rfl tS25 (q4.ne (by decide) (inb_pos q74)) q74) rfl rfl rfl q73 rfl rfl ?_
    obtain ⟨_, ⟨a5, c5, rfl, q75, q76⟩, q77⟩ := q4.elem q74
    refine .gv (ld1 (v := .slice a5 ((gt r2.1 j).length) c5) rfl tO32 (cellH (q77 (by decide) 0 _ rfl))) rfl rfl rfl q73 rfl rfl ?_
    refine .gv (ln rfl tS32.is) rfl rfl rfl q73 rfl rfl ?_
    refine .gv (fa rfl tF24_0) rfl rfl rfl q73 rfl rfl ?_
    refine .gv (ld1 rfl tO3 (cellB (off := 0) (k := 0) rfl rfl)) rfl rfl rfl q73 rfl rfl ?_
    refine .gv (bi rfl rfl rfl) rfl rfl rfl q73 rfl rfl ?_
    refine .v (pkF rfl q73 rfl) rfl rfl rfl ?_
    refine .fin ?_
    refine .sel0 [] (by decide) rfl ?_
    exact .use q26 ((((gt r2.1 j).length : Nat) : Int) != n_.events) hF (.cons rfl (.cons rfl (.cons rfl (.cons rfl (.cons rfl (.nil)))))) rfl (FH.le_refl _)
  refine .region ?_
  refine .v (fa rfl tF27_0) rfl rfl rfl ?_
  refine .v (ld1 rfl tO3 (cellB (off := 0) (k := 0) rfl rfl)) rfl rfl rfl ?_
  refine .v (bi rfl rfl rfl) rfl rfl rfl ?_
  refine .v (mv rfl) rfl rfl rfl ?_
  rcases Bool.eq_false_or_eq_true (r2.2.2.code != 0) with q78 | q78
  · replace hF := hF.1 q78
    refine .gS rfl rfl rfl q78 rfl rfl ?_
    refine .gS rfl rfl rfl q78 rfl rfl ?_
    refine .v (pkT rfl q78 rfl) rfl rfl rfl ?_
    refine .v (mv rfl) rfl rfl rfl ?_
    refine .gS rfl rfl rfl rfl rfl rfl ?_
    refine .gS rfl rfl rfl rfl rfl rfl ?_
    refine .gS rfl rfl rfl rfl rfl rfl ?_
    refine .gS rfl rfl rfl rfl rfl rfl ?_
    refine .gS rfl rfl rfl rfl rfl rfl ?_
    refine .gS rfl rfl rfl rfl rfl rfl ?_
    refine .v (pkT rfl rfl rfl) rfl rfl rfl ?_
    refine .v (mv rfl) rfl rfl rfl ?_
    refine .gS rfl rfl rfl rfl rfl rfl ?_
    refine .gS rfl rfl rfl rfl rfl rfl ?_
    refine .gS rfl rfl rfl rfl rfl rfl ?_
    refine .gS rfl rfl rfl rfl rfl rfl ?_
    refine .gS rfl rfl rfl rfl rfl rfl ?_
    refine .gS rfl rfl rfl rfl rfl rfl ?_
    refine .v (pkT rfl rfl rfl) rfl rfl rfl ?_
    refine .v (mv rfl) rfl rfl rfl ?_
    refine .gS rfl rfl rfl rfl rfl rfl ?_
    refine .gS rfl rfl rfl rfl rfl rfl ?_
    refine .gS rfl rfl rfl rfl rfl rfl ?_
    refine .gS rfl rfl rfl rfl rfl rfl ?_
    refine .gS rfl rfl rfl rfl rfl rfl ?_
    refine .gS rfl rfl rfl rfl rfl rfl ?_
    refine .v (pkT rfl rfl rfl) rfl rfl rfl ?_
    refine .nil ?_
    refine .sel0 [1] (by decide) rfl ?_
    exact .use q13 true hF (.cons rfl (.cons rfl (.cons rfl (.cons rfl (.cons rfl (.cons rfl (.nil))))))) rfl (FH.le_refl _)
  replace hF := hF.2 q78
  refine .gv (mv rfl) rfl rfl rfl q78 rfl rfl ?_
  refine .gv (nt rfl) rfl rfl rfl q78 rfl rfl ?_
  refine .v (pkF rfl q78 rfl) rfl rfl rfl ?_
  refine .v (mv rfl) rfl rfl rfl ?_
  rcases Bool.eq_false_or_eq_true (!r2.2.1) with q79 | q79
  · replace hF := hF.1 q79
    refine .gS rfl rfl rfl q79 rfl rfl ?_
    refine .gS rfl rfl rfl q79 rfl rfl ?_
    refine .gS rfl rfl rfl q79 rfl rfl ?_
    refine .gS rfl rfl rfl q79 rfl rfl ?_
    refine .gS rfl rfl rfl q79 rfl rfl ?_
    refine .gS rfl rfl rfl q79 rfl rfl ?_
    refine .v (pkT rfl q79 rfl) rfl rfl rfl ?_
    refine .v (mv rfl) rfl rfl rfl ?_
    refine .gS rfl rfl rfl rfl rfl rfl ?_
    refine .gS rfl rfl rfl rfl rfl rfl ?_
    refine .gS rfl rfl rfl rfl rfl rfl ?_
    refine .gS rfl rfl rfl rfl rfl rfl ?_
    refine .gS rfl rfl rfl rfl rfl rfl ?_
    refine .gS rfl rfl rfl rfl rfl rfl ?_
    refine .v (pkT rfl rfl rfl) rfl rfl rfl ?_
    refine .v (mv rfl) rfl rfl rfl ?_
    refine .gS rfl rfl rfl rfl rfl rfl ?_
    refine .gS rfl rfl rfl rfl rfl rfl ?_
    refine .gS rfl rfl rfl rfl rfl rfl ?_
    refine .gS rfl rfl rfl rfl rfl rfl ?_
    refine .gS rfl rfl rfl rfl rfl rfl ?_
    refine .gS rfl rfl rfl rfl rfl rfl ?_
    refine .v (pkT rfl rfl rfl) rfl rfl rfl ?_
    refine .nil ?_
    refine .sel0 [1] (by decide) rfl ?_
    exact .use q13 true hF (.cons rfl (.cons rfl (.cons rfl (.cons rfl (.cons rfl (.cons rfl (.nil))))))) rfl (FH.le_refl _)
  replace hF := hF.2 q79
  refine .gv (mv rfl) rfl rfl rfl q79 rfl rfl ?_
  refine .gv (fa rfl tF24_0) rfl rfl rfl q79 rfl rfl ?_
  refine .gv (ld1 rfl tO3 (cellB (off := 0) (k := 1) rfl rfl)) rfl rfl rfl q79 rfl rfl ?_
  refine .gv (bi rfl rfl rfl) rfl rfl rfl q79 rfl rfl ?_
  obtain ⟨r7, q80⟩ : ∃ y_ : Bool, y_ = sp_in_ i 0 (IntKind.i64.wrap (n_.events - 1)) := ⟨_, rfl⟩
  replace hF := hF r7 q80
  refine .gc (cl (v := .bool r7) Try.call16 rfl rfl (fun w S => (by rw [q80]; exact c_in_ S.sub i 0 (IntKind.i64.wrap (n_.events - 1)) ))) rfl rfl rfl q79 rfl rfl ?_
  refine .gv (nt rfl) rfl rfl rfl q79 rfl rfl ?_
  refine .v (pkF rfl q79 rfl) rfl rfl rfl ?_
  refine .v (mv rfl) rfl rfl rfl ?_
  rcases Bool.eq_false_or_eq_true (!r7) with q81 | q81
  · replace hF := hF.1 q81
    refine .gS rfl rfl rfl q81 rfl rfl ?_
    refine .gS rfl rfl rfl q81 rfl rfl ?_
    refine .gS rfl rfl rfl q81 rfl rfl ?_
    refine .gS rfl rfl rfl q81 rfl rfl ?_
    refine .gS rfl rfl rfl q81 rfl rfl ?_
    refine .gS rfl rfl rfl q81 rfl rfl ?_
    refine .v (pkT rfl q81 rfl) rfl rfl rfl ?_
    refine .v (mv rfl) rfl rfl rfl ?_
    refine .gS rfl rfl rfl rfl rfl rfl ?_
    refine .gS rfl rfl rfl rfl rfl rfl ?_
    refine .gS rfl rfl rfl rfl rfl rfl ?_
    refine .gS rfl rfl rfl rfl rfl rfl ?_
    refine .gS rfl rfl rfl rfl rfl rfl ?_
    refine .gS rfl rfl rfl rfl rfl rfl ?_
    refine .v (pkT rfl rfl rfl) rfl rfl rfl ?_
    refine .nil ?_
    refine .sel0 [1] (by decide) rfl ?_
    exact .use q13 true hF (.cons rfl (.cons rfl (.cons rfl (.cons rfl (.cons rfl (.cons rfl (.nil))))))) rfl (FH.le_refl _)
  replace hF := hF.2 q81
  refine .gv (mv rfl) rfl rfl rfl q81 rfl rfl ?_
  refine .gv (fa rfl tF24_0) rfl rfl rfl q81 rfl rfl ?_
  refine .gv (ld1 rfl tO3 (cellB (off := 0) (k := 1) rfl rfl)) rfl rfl rfl q81 rfl rfl ?_
  refine .gv (bi rfl rfl rfl) rfl rfl rfl q81 rfl rfl ?_
  obtain ⟨r8, q82⟩ : ∃ y_ : Bool, y_ = sp_in_ j 0 (IntKind.i64.wrap (n_.events - 1)) := ⟨_, rfl⟩
  replace hF := hF r8 q82
  refine .gc (cl (v := .bool r8) Try.call16 rfl rfl (fun w S => (by rw [q82]; exact c_in_ S.sub j 0 (IntKind.i64.wrap (n_.events - 1)) ))) rfl rfl rfl q81 rfl rfl ?_
  refine .gv (nt rfl) rfl rfl rfl q81 rfl rfl ?_
  refine .v (pkF rfl q81 rfl) rfl rfl rfl ?_
  refine .v (mv rfl) rfl rfl rfl ?_
  rcases Bool.eq_false_or_eq_true (!r8) with q83 | q83
  · replace hF := hF.1 q83
    refine .gS rfl rfl rfl q83 rfl rfl ?_
    refine .gS rfl rfl rfl q83 rfl rfl ?_
    refine .gS rfl rfl rfl q83 rfl rfl ?_
    refine .gS rfl rfl rfl q83 rfl rfl ?_
    refine .gS rfl rfl rfl q83 rfl rfl ?_
    refine .gS rfl rfl rfl q83 rfl rfl ?_
    refine .v (pkT rfl q83 rfl) rfl rfl rfl ?_
    refine .nil ?_
    refine .sel0 [1] (by decide) rfl ?_
    exact .use q13 true hF (.cons rfl (.cons rfl (.cons rfl (.cons rfl (.cons rfl (.cons rfl (.nil))))))) rfl (FH.le_refl _)
  replace hF := hF.2 q83
  refine .gv (mv rfl) rfl rfl rfl q83 rfl rfl ?_
  refine .gv (fa rfl tF24_0) rfl rfl rfl q83 rfl rfl ?_
  refine .gv (ld1 rfl tO3 (cellB (off := 0) (k := 1) rfl rfl)) rfl rfl rfl q83 rfl rfl ?_
  refine .gv (bi rfl rfl rfl) rfl rfl rfl q83 rfl rfl ?_
  obtain ⟨r9, q84⟩ : ∃ y_ : Bool, y_ = sp_in_ k 0 (IntKind.i64.wrap (n_.events - 1)) := ⟨_, rfl⟩
  replace hF := hF r9 q84
  refine .gc (cl (v := .bool r9) Try.call16 rfl rfl (fun w S => (by rw [q84]; exact c_in_ S.sub k 0 (IntKind.i64.wrap (n_.events - 1)) ))) rfl rfl rfl q83 rfl rfl ?_
  refine .gv (nt rfl) rfl rfl rfl q83 rfl rfl ?_
  refine .v (pkF rfl q83 rfl) rfl rfl rfl ?_
  refine .nil ?_
  refine .sel0 [1] (by decide) rfl ?_
  exact .use q13 (!r9) hF (.cons rfl (.cons rfl (.cons rfl (.cons rfl (.cons rfl (.cons rfl (.nil))))))) rfl (FH.le_refl _)

theorem c_lawTriangle {h : FH} {w : World} (hs : Sub h w) (n_ : Network) (an_ : Option Addr) (cn_ : Nat) (_q1 : RSl h an_ n_.links) (_q2 : n_.links.length ≤ cn_) (i : Int) (j : Int) (k : Int) : Calls Try.prog 3 #[.agg #[.int .i64 n_.events, .slice an_ n_.links.length cn_], .int .i64 i, .int .i64 j, .int .i64 k] w fun e w' => e = .returned (.bool (sp_lawTriangle n_ i j k)) ∧ Below w.heap.size w w' :=
  (w_lawTriangle hs n_ an_ cn_ _q1 _q2 i j k (fun r => r = sp_lawTriangle n_ i j k) (ok_lawTriangle n_ i j k)).mono fun _ _ ⟨_, hk, he, hb⟩ => ⟨by rw [he, hk], hb⟩

set_option maxHeartbeats 8000000 in
theorem w_lawBoundsHold {h : FH} {w : World} (hs : Sub h w) (n_ : Network) (an_ : Option Addr) (cn_ : Nat) (_q1 : RSl h an_ n_.links) (_q2 : n_.links.length ≤ cn_) (times : List Int) (atimes : Option Addr) (ctimes : Nat) (_q3 : RSl h atimes times) (_q4 : times.length ≤ ctimes) (i : Int) (j : Int) (K : Bool → Prop) (hF : F_lawBoundsHold n_ times i j K) : Calls Try.prog 5 #[.agg #[.int .i64 n_.events, .slice an_ n_.links.length cn_], .slice atimes times.length ctimes, .int .i64 i, .int .i64 j] w fun e w' => ∃ r : Bool, K r ∧ e = .returned (.bool r) ∧ Below w.heap.size w w' := by
  refine enter (args := [.agg #[.int .i64 n_.events, .slice an_ n_.links.length cn_], .slice atimes times.length ctimes, .int .i64 i, .int .i64 j]) Try.func5 rfl Try.ntmps5 rfl hs ?_
  refine .seq ?_
  refine .region ?_
  refine bx (vs := [.int .i64 n_.events, .slice an_ n_.links.length cn_]) rfl rfl rfl (fun pn => ?_)
  refine .v (asg rfl) rfl rfl rfl ?_
  refine .nil ?_
  refine .seqN ?_
  refine .seq ?_
  refine .region ?_
  refine .v (ldA (cs := [.int .i64 n_.events, .slice an_ n_.links.length cn_]) rfl tA24 rfl (cellsB (off := 0) (k := 0) rfl (m := 2) rfl)) rfl rfl rfl ?_
  refine .v (mv rfl) rfl rfl rfl ?_
  obtain ⟨r2, q5⟩ : ∃ y_ : Bool × Fault, y_ = sp_respects n_ times := ⟨_, rfl⟩
  replace hF := hF r2 q5
  refine .c (cl (v := .tuple #[.bool r2.1, .agg #[.int .i64 r2.2.code, .int .i64 r2.2.index]]) Try.call18 rfl rfl (fun w S => (by rw [q5]; exact c_respects S.sub n_ an_ cn_ _q1 _q2 times atimes ctimes _q3 _q4 ))) rfl rfl rfl ?_
  refine .v (mv rfl) rfl rfl rfl ?_
  refine .v (ext rfl rfl) rfl rfl rfl ?_
  refine .v (ext rfl rfl) rfl rfl rfl ?_
  refine al tZ27 rfl (fun pf => ?_)
  refine .v (asg rfl) rfl rfl rfl ?_
  refine st (p := pf) (off := 0) (k := 0) (vs := [.int .i64 r2.2.code, .int .i64 r2.2.index]) rfl rfl rfl (fun w => (tA27 w).2) rfl rfl rfl rfl ?_
  refine .cast (A' := [Box pf [.int .i64 r2.2.code, .int .i64 r2.2.index], Box pn [.int .i64 n_.events, .slice an_ n_.links.length cn_]]) rfl ?_
  refine .nil ?_
  refine .seqN ?_
  refine .seq ?_
  refine .share (σ := Bool) (fun z => F_lawBoundsHold_J1 n_ times i j K z) (fun z => [(1, .slice atimes times.length ctimes), (2, .int .i64 i), (3, .int .i64 j), (4, .pointer (some pn)), (42, .bool z)]) (fun _ => [Box pn [.int .i64 n_.events, .slice an_ n_.links.length cn_]]) (fun _ => h) ?_ (fun q11 => ?_)
  · rintro t42 hF
    show J _ _ _ _ _ [(1, .slice atimes times.length ctimes), (2, .int .i64 i), (3, .int .i64 j), (4, .pointer (some pn)), (42, .bool t42)] [Box pn [.int .i64 n_.events, .slice an_ n_.links.length cn_]] h
    refine .cond rfl (fun q12 => ?_) (fun q12 => ?_)
    · replace hF := hF.1 q12
      refine .seq ?_
      refine .region ?_
      obtain ⟨r3, q13⟩ : ∃ y_ : Bool, y_ = sp_bounded := ⟨_, rfl⟩
      replace hF := hF r3 q13
      refine .c (cl (v := .bool r3) Try.call17 rfl rfl (fun w S => (by rw [q13]; exact c_bounded S.sub  ))) rfl rfl rfl ?_
      refine .v (asg rfl) rfl rfl rfl ?_
      refine .nil ?_
      refine .seqN ?_
      refine .ret ?_
      refine .seqR ?_
      refine .res1 rfl (rvT rfl) (fun w' S => ⟨r3, hF, rfl, S.below⟩)
    replace hF := hF.2 q12
    refine .skip ?_
    refine .seqN ?_
    refine .seq ?_
    refine .region ?_
    refine .v (ldA (cs := [.int .i64 n_.events, .slice an_ n_.links.length cn_]) rfl tA24 rfl (cellsB (off := 0) (k := 0) rfl (m := 2) rfl)) rfl rfl rfl ?_
    obtain ⟨r4, q14⟩ : ∃ y_ : List (List Int) × Bool × Fault, y_ = sp_minimal n_ := ⟨_, rfl⟩
    replace hF := hF r4 q14
    refine clR (α := Option Addr × Nat) (Φ := fun h1 z => RSl h1 z.1 r4.1 ∧ r4.1.length ≤ z.2) (V := fun z => .tuple #[.slice z.1 r4.1.length z.2, .bool r4.2.1, .agg #[.int .i64 r4.2.2.code, .int .i64 r4.2.2.index]]) Try.call15 rfl rfl (fun w S => (by rw [q14]; exact c_minimal S.sub n_ an_ cn_ _q1 _q2 )) rfl (fun z h1 le1 hz => ?_)
    obtain ⟨a, c⟩ := z
    obtain ⟨q15, q16⟩ := hz
    refine .v (mv rfl) rfl rfl rfl ?_
    refine .v (ext rfl rfl) rfl rfl rfl ?_
    refine .v (ext rfl rfl) rfl rfl rfl ?_
    refine .v (ext rfl rfl) rfl rfl rfl ?_
    refine al tZ27 rfl (fun pg => ?_)
    refine .v (asg rfl) rfl rfl rfl ?_
    refine .v (asg rfl) rfl rfl rfl ?_
    refine st (p := pg) (off := 0) (k := 0) (vs := [.int .i64 r4.2.2.code, .int .i64 r4.2.2.index]) rfl rfl rfl (fun w => (tA27 w).2) rfl rfl rfl rfl ?_
    refine .cast (A' := [Box pg [.int .i64 r4.2.2.code, .int .i64 r4.2.2.index], Box pn [.int .i64 n_.events, .slice an_ n_.links.length cn_]]) rfl ?_
    refine .nil ?_
    refine .seqN ?_
    refine .seq ?_
    refine .open_ (by kernel_rfl) (by kernel_rfl) ?_
    refine .v (fa rfl tF27_0) rfl rfl rfl ?_
    refine .v (ld1 rfl tO3 (cellB (off := 0) (k := 0) rfl rfl)) rfl rfl rfl ?_
    refine .v (bi rfl rfl rfl) rfl rfl rfl ?_
    refine .v (mv rfl) rfl rfl rfl ?_
    rcases Bool.eq_false_or_eq_true (r4.2.2.code == 0) with q31 | q31
    · replace hF := hF.1 q31
      refine .gv (mv rfl) rfl rfl rfl q31 rfl rfl ?_
      refine .v (pkT rfl q31 rfl) rfl rfl rfl ?_
      refine .v (mv rfl) rfl rfl rfl ?_
      rcases Bool.eq_false_or_eq_true (r4.2.1) with q32 | q32
      · replace hF := hF.1 q32
        refine .gv (mv rfl) rfl rfl rfl q32 rfl rfl ?_
        refine .gv (ln rfl tS25.is) rfl rfl rfl q32 rfl rfl ?_
        refine .gv (fa rfl tF24_0) rfl rfl rfl q32 rfl rfl ?_
        refine .gv (ld1 rfl tO3 (cellB (off := 0) (k := 1) rfl rfl)) rfl rfl rfl q32 rfl rfl ?_
        refine .gv (bi rfl rfl rfl) rfl rfl rfl q32 rfl rfl ?_
        refine .v (pkT rfl q32 rfl) rfl rfl rfl ?_
        refine .v (mv rfl) rfl rfl rfl ?_
        rcases Bool.eq_false_or_eq_true (((r4.1.length : Nat) : Int) == n_.events) with q33 | q33
        · replace hF := hF.1 q33
          refine .gv (mv rfl) rfl rfl rfl q33 rfl rfl ?_
          refine .gv (mv rfl) rfl rfl rfl q33 rfl rfl ?_
          obtain ⟨q34, hF⟩ := hF
          refine .gv (ix rfl rfl tS25 (q15.ne (by decide) (inb_pos q34)) q34) rfl rfl rfl q33 rfl rfl ?_
          obtain ⟨_, ⟨a2, c2, rfl, q35, q36⟩, q37⟩ := q15.elem q34
          refine .gv (ld1 (v := .slice a2 ((gt r4.1 i).length) c2) rfl tO32 (cellH (q37 (by decide) 0 _ rfl))) rfl rfl rfl q33 rfl rfl ?_
          refine .gv (ln rfl tS32.is) rfl rfl rfl q33 rfl rfl ?_
          refine .gv (fa rfl tF24_0) rfl rfl rfl q33 rfl rfl ?_
          refine .gv (ld1 rfl tO3 (cellB (off := 0) (k := 1) rfl rfl)) rfl rfl rfl q33 rfl rfl ?_
          refine .gv (bi rfl rfl rfl) rfl rfl rfl q33 rfl rfl ?_
          refine .v (pkT rfl q33 rfl) rfl rfl rfl ?_
          refine .v (mv rfl) rfl rfl rfl ?_
          rcases Bool.eq_false_or_eq_true ((((gt r4.1 i).length : Nat) : Int) == n_.events) with q38 | q38
          · replace hF := hF.1 q38
            refine .gv (mv rfl) rfl rfl rfl q38 rfl rfl ?_
            refine .gv (mv rfl) rfl rfl rfl q38 rfl rfl ?_
            obtain ⟨q39, hF⟩ := hF
            refine .gv (ix rfl rfl tS32 (_q3.ne (by decide) (inb_pos q39)) q39) rfl rfl rfl q38 rfl rfl ?_
            refine .gv (ld1 (v := .int .i64 (gt times j)) rfl tO3 (cellH ((_q3.mono (le1)).elemF q39 (by decide) 0 _ rfl))) rfl rfl rfl q38 rfl rfl ?_
            refine .gv (mv rfl) rfl rfl rfl q38 rfl rfl ?_
            refine .gv (mv rfl) rfl rfl rfl q38 rfl rfl ?_
            obtain ⟨q40, hF⟩ := hF
            refine .gv (ix rfl rfl tS32 (_q3.ne (by decide) (inb_pos q40)) q40) rfl rfl rfl q38 rfl rfl ?_
            refine .gv (ld1 (v := .int .i64 (gt times i)) rfl tO3 (cellH ((_q3.mono (le1)).elemF q40 (by decide) 0 _ rfl))) rfl rfl rfl q38 rfl rfl ?_
            refine .gv (bi rfl rfl rfl) rfl rfl rfl q38 rfl rfl ?_
            refine .gv (mv rfl) rfl rfl rfl q38 rfl rfl ?_
            refine .gv (mv rfl) rfl rfl rfl q38 rfl rfl ?_
            refine .gv (ix rfl rfl tS25 (q15.ne (by decide) (inb_pos q34)) q34) rfl rfl rfl q38 rfl rfl ?_
            refine .gv (ld1 (v := .slice a2 ((gt r4.1 i).length) c2) rfl tO32 (cellH (q37 (by decide) 0 _ rfl))) rfl rfl rfl q38 rfl rfl ?_
            refine .gv (mv rfl) rfl rfl rfl q38 rfl rfl ?_
            obtain ⟨q41, hF⟩ := hF
            refine .gv (ix rfl rfl tS32 (q36.ne (by decide) (inb_pos q41)) q41) rfl rfl rfl q38 rfl rfl ?_
            refine .gv (ld1 (v := .int .i64 (gt (gt r4.1 i) j)) rfl tO3 (cellH (q36.elemF q41 (by decide) 0 _ rfl))) rfl rfl rfl q38 rfl rfl ?_
            obtain ⟨x, q42⟩ : ∃ y_ : Bool, y_ = (decide ((IntKind.i64.wrap ((gt times j) - (gt times i))) ≤ (gt (gt r4.1 i) j))) := ⟨_, rfl⟩
            replace hF := hF x q42
            refine .gv (v := .bool x) (by rw [q42]; exact bi rfl rfl rfl) rfl rfl rfl q38 rfl rfl ?_
            refine .v (pkT rfl q38 rfl) rfl rfl rfl ?_
            refine .v (mv rfl) rfl rfl rfl ?_
            rcases Bool.eq_false_or_eq_true (x) with q43 | q43
            · replace hF := hF.1 q43
              obtain ⟨r5, q44⟩ : ∃ y_ : Bool, y_ = sp_bounded := ⟨_, rfl⟩
              replace hF := hF r5 q44
              refine .gc (cl (v := .bool r5) Try.call17 rfl rfl (fun w S => (by rw [q44]; exact c_bounded S.sub  ))) rfl rfl rfl q43 rfl rfl ?_
              refine .v (pkT rfl q43 rfl) rfl rfl rfl ?_
              refine .v (asg rfl) rfl rfl rfl ?_
              refine .fin ?_
              refine .seqN ?_
              refine .ret ?_
              refine .res1 rfl (rvT rfl) (fun w' S => ⟨r5, hF, rfl, S.below⟩)
            replace hF := hF.2 q43
            refine .gS rfl rfl rfl q43 rfl rfl ?_
            refine .v (pkF rfl q43 rfl) rfl rfl rfl ?_
            refine .v (asg rfl) rfl rfl rfl ?_
            refine .fin ?_
            refine .seqN ?_
            refine .ret ?_
            refine .res1 rfl (rvT rfl) (fun w' S => ⟨false, hF, rfl, S.below⟩)
          replace hF := hF.2 q38
          refine .gS rfl rfl rfl q38 rfl rfl ?_
          refine .gS rfl rfl rfl q38 rfl rfl ?_
          refine .gS rfl rfl rfl q38 rfl rfl ?_
          refine .gS rfl rfl rfl q38 rfl rfl ?_
          refine .gS rfl rfl rfl q38 rfl rfl ?_
          refine .gS rfl rfl rfl q38 rfl rfl ?_
          refine .gS rfl rfl rfl q38 rfl rfl ?_
          refine .gS rfl rfl rfl q38 rfl rfl ?_
          refine .gS rfl rfl rfl q38 rfl rfl ?_
          refine .gS rfl rfl rfl q38 rfl rfl ?_
          refine .gS rfl rfl rfl q38 rfl rfl ?_
          refine .gS rfl rfl rfl q38 rfl rfl ?_
          refine .gS rfl rfl rfl q38 rfl rfl ?_
          refine .gS rfl rfl rfl q38 rfl rfl ?_
          refine .gS rfl rfl rfl q38 rfl rfl ?_
          refine .gS rfl rfl rfl q38 rfl rfl ?_
          refine .gS rfl rfl rfl q38 rfl rfl ?_
          refine .v (pkF rfl q38 rfl) rfl rfl rfl ?_
          refine .v (mv rfl) rfl rfl rfl ?_
          refine .gS rfl rfl rfl rfl rfl rfl ?_
          refine .v (pkF rfl rfl rfl) rfl rfl rfl ?_
          refine .v (asg rfl) rfl rfl rfl ?_
          refine .fin ?_
          refine .seqN ?_
          refine .ret ?_
          refine .res1 rfl (rvT rfl) (fun w' S => ⟨false, hF, rfl, S.below⟩)
        replace hF := hF.2 q33
        refine .gS rfl rfl rfl q33 rfl rfl ?_
        refine .gS rfl rfl rfl q33 rfl rfl ?_
        refine .gS rfl rfl rfl q33 rfl rfl ?_
        refine .gS rfl rfl rfl q33 rfl rfl ?_
        refine .gS rfl rfl rfl q33 rfl rfl ?_
        refine .gS rfl rfl rfl q33 rfl rfl ?_
        refine .gS rfl rfl rfl q33 rfl rfl ?_
        refine .gS rfl rfl rfl q33 rfl rfl ?_
        refine .v (pkF rfl q33 rfl) rfl rfl rfl ?_
        refine .v (mv rfl) rfl rfl rfl ?_
        refine .gS rfl rfl rfl rfl rfl rfl ?_
        refine .gS rfl rfl rfl rfl rfl rfl ?_
        refine .gS rfl rfl rfl rfl rfl rfl ?_
        refine .gS rfl rfl rfl rfl rfl rfl ?_
        refine .gS rfl rfl rfl rfl rfl rfl ?_
        refine .gS rfl rfl rfl rfl rfl rfl ?_
        refine .gS rfl rfl rfl rfl rfl rfl ?_
        refine .gS rfl rfl rfl rfl rfl rfl ?_
        refine .gS rfl rfl rfl rfl rfl rfl ?_
        refine .gS rfl rfl rfl rfl rfl rfl ?_
        refine .gS rfl rfl rfl rfl rfl rfl ?_
        refine .gS rfl rfl rfl rfl rfl rfl ?_
        refine .gS rfl rfl rfl rfl rfl rfl ?_
        refine .gS rfl rfl rfl rfl rfl rfl ?_
        refine .gS rfl rfl rfl rfl rfl rfl ?_
        refine .gS rfl rfl rfl rfl rfl rfl ?_
        refine .gS rfl rfl rfl rfl rfl rfl ?_
        refine .v (pkF rfl rfl rfl) rfl rfl rfl ?_
        refine .v (mv rfl) rfl rfl rfl ?_
        refine .gS rfl rfl rfl rfl rfl rfl ?_
        refine .v (pkF rfl rfl rfl) rfl rfl rfl ?_
        refine .v (asg rfl) rfl rfl rfl ?_
        refine .fin ?_
        refine .seqN ?_
        refine .ret ?_
        refine .res1 rfl (rvT rfl) (fun w' S => ⟨false, hF, rfl, S.below⟩)
      replace hF := hF.2 q32
      refine .gS rfl rfl rfl q32 rfl rfl ?_
      refine .gS rfl rfl rfl q32 rfl rfl ?_
      refine .gS rfl rfl rfl q32 rfl rfl ?_
      refine .gS rfl rfl rfl q32 rfl rfl ?_
      refine .gS rfl rfl rfl q32 rfl rfl ?_
      refine .v (pkF rfl q32 rfl) rfl rfl rfl ?_
      refine .v (mv rfl) rfl rfl rfl ?_
      refine .gS rfl rfl rfl rfl rfl rfl ?_
      refine .gS rfl rfl rfl rfl rfl rfl ?_
      refine .gS rfl rfl rfl rfl rfl rfl ?_
      refine .gS rfl rfl rfl rfl rfl rfl ?_
      refine .gS rfl rfl rfl rfl rfl rfl ?_
      refine .gS rfl rfl rfl rfl rfl rfl ?_
      refine .gS rfl rfl rfl rfl rfl rfl ?_
      refine .gS rfl rfl rfl rfl rfl rfl ?_
      refine .v (pkF rfl rfl rfl) rfl rfl rfl ?_
      refine .v (mv rfl) rfl rfl rfl ?_
      refine .gS rfl rfl rfl rfl rfl rfl ?_
      refine .gS rfl rfl rfl rfl rfl rfl ?_
      refine .gS rfl rfl rfl rfl rfl rfl ?_
      refine .gS rfl rfl rfl rfl rfl rfl ?_
      refine .gS rfl rfl rfl rfl rfl rfl ?_
      refine .gS rfl rfl rfl rfl rfl rfl ?_
      refine .gS rfl rfl rfl rfl rfl rfl ?_
      refine .gS rfl rfl rfl rfl rfl rfl ?_
      refine .gS rfl rfl rfl rfl rfl rfl ?_
      refine .gS rfl rfl rfl rfl rfl rfl ?_
      refine .gS rfl rfl rfl rfl rfl rfl ?_
      refine .gS rfl rfl rfl rfl rfl rfl ?_
      refine .gS rfl rfl rfl rfl rfl rfl ?_
      refine .gS rfl rfl rfl rfl rfl rfl ?_
      refine .gS rfl rfl rfl rfl rfl rfl ?_
      refine .gS rfl rfl rfl rfl rfl rfl ?_
      refine .gS rfl rfl rfl rfl rfl rfl ?_
      refine .v (pkF rfl rfl rfl) rfl rfl rfl ?_
      refine .v (mv rfl) rfl rfl rfl ?_
      refine .gS rfl rfl rfl rfl rfl rfl ?_
      refine .v (pkF rfl rfl rfl) rfl rfl rfl ?_
      refine .v (asg rfl) rfl rfl rfl ?_
      refine .fin ?_
      refine .seqN ?_
      refine .ret ?_
      refine .res1 rfl (rvT rfl) (fun w' S => ⟨false, hF, rfl, S.below⟩)
    replace hF := hF.2 q31
    refine .gS rfl rfl rfl q31 rfl rfl ?_
    refine .v (pkF rfl q31 rfl) rfl rfl rfl ?_
    refine .v (mv rfl) rfl rfl rfl ?_
    refine .gS rfl rfl rfl rfl rfl rfl ?_
    refine .gS rfl rfl rfl rfl rfl rfl ?_
    refine .gS rfl rfl rfl rfl rfl rfl ?_
    refine .gS rfl rfl rfl rfl rfl rfl ?_
    refine .gS rfl rfl rfl rfl rfl rfl ?_
    refine .v (pkF rfl rfl rfl) rfl rfl rfl ?_
    refine .v (mv rfl) rfl rfl rfl ?_
    refine .gS rfl rfl rfl rfl rfl rfl ?_
    refine .gS rfl rfl rfl rfl rfl rfl ?_
    refine .gS rfl rfl rfl rfl rfl rfl ?_
    refine .gS rfl rfl rfl rfl rfl rfl ?_
    refine .gS rfl rfl rfl rfl rfl rfl ?_
    refine .gS rfl rfl rfl rfl rfl rfl ?_
    refine .gS rfl rfl rfl rfl rfl rfl ?_
    refine .gS rfl rfl rfl rfl rfl rfl ?_
    refine .v (pkF rfl rfl rfl) rfl rfl rfl ?_
    refine .v (mv rfl) rfl rfl rfl ?_
    refine .gS rfl rfl rfl rfl rfl rfl ?_
    refine .gS rfl rfl rfl rfl rfl rfl ?_
    refine .gS rfl rfl rfl rfl rfl rfl ?_
    refine .gS rfl rfl rfl rfl rfl rfl ?_
    refine .gS rfl rfl rfl rfl rfl rfl ?_
    refine .gS rfl rfl rfl rfl rfl rfl ?_
    refine .gS rfl rfl rfl rfl rfl rfl ?_
    refine .gS rfl rfl rfl rfl rfl rfl ?_
    refine .gS rfl rfl rfl rfl rfl rfl ?_
    refine .gS rfl rfl rfl rfl rfl rfl ?_
    refine .gS rfl rfl rfl rfl rfl rfl ?_
    refine .gS rfl rfl rfl rfl rfl rfl ?_
    refine .gS rfl rfl rfl rfl rfl rfl ?_
    refine .gS rfl rfl rfl rfl rfl rfl ?_
    refine .gS rfl rfl rfl rfl rfl rfl ?_
    refine .gS rfl rfl rfl rfl rfl rfl ?_
    refine .gS rfl rfl rfl rfl rfl rfl ?_
    refine .v (pkF rfl rfl rfl) rfl rfl rfl ?_
    refine .v (mv rfl) rfl rfl rfl ?_
    refine .gS rfl rfl rfl rfl rfl rfl ?_
    refine .v (pkF rfl rfl rfl) rfl rfl rfl ?_
    refine .v (asg rfl) rfl rfl rfl ?_
    refine .fin ?_
    refine .seqN ?_
    refine .ret ?_
    refine .res1 rfl (rvT rfl) (fun w' S => ⟨false, hF, rfl, S.below⟩)
  refine .region ?_
  refine .v (fa rfl tF27_0) rfl rfl rfl ?_
  refine .v (ld1 rfl tO3 (cellB (off := 0) (k := 0) rfl rfl)) rfl rfl rfl ?_
  refine .v (bi rfl rfl rfl) rfl rfl rfl ?_
  refine .v (mv rfl) rfl rfl rfl ?_
  rcases Bool.eq_false_or_eq_true (r2.2.code != 0) with q45 | q45
  · replace hF := hF.1 q45
    refine .gS rfl rfl rfl q45 rfl rfl ?_
    refine .gS rfl rfl rfl q45 rfl rfl ?_
    refine .v (pkT rfl q45 rfl) rfl rfl rfl ?_
    refine .v (mv rfl) rfl rfl rfl ?_
    refine .gS rfl rfl rfl rfl rfl rfl ?_
    refine .gS rfl rfl rfl rfl rfl rfl ?_
    refine .gS rfl rfl rfl rfl rfl rfl ?_
    refine .gS rfl rfl rfl rfl rfl rfl ?_
    refine .gS rfl rfl rfl rfl rfl rfl ?_
    refine .gS rfl rfl rfl rfl rfl rfl ?_
    refine .v (pkT rfl rfl rfl) rfl rfl rfl ?_
    refine .v (mv rfl) rfl rfl rfl ?_
    refine .gS rfl rfl rfl rfl rfl rfl ?_
    refine .gS rfl rfl rfl rfl rfl rfl ?_
    refine .gS rfl rfl rfl rfl rfl rfl ?_
    refine .gS rfl rfl rfl rfl rfl rfl ?_
    refine .gS rfl rfl rfl rfl rfl rfl ?_
    refine .gS rfl rfl rfl rfl rfl rfl ?_
    refine .v (pkT rfl rfl rfl) rfl rfl rfl ?_
    refine .nil ?_
    refine .sel0 [1] (by decide) rfl ?_
    exact .use q11 true hF (.cons rfl (.cons rfl (.cons rfl (.cons rfl (.cons rfl (.nil)))))) rfl (FH.le_refl _)
  replace hF := hF.2 q45
  refine .gv (mv rfl) rfl rfl rfl q45 rfl rfl ?_
  refine .gv (nt rfl) rfl rfl rfl q45 rfl rfl ?_
  refine .v (pkF rfl q45 rfl) rfl rfl rfl ?_
  refine .v (mv rfl) rfl rfl rfl ?_
  rcases Bool.eq_false_or_eq_true (!r2.1) with q46 | q46
  · replace hF := hF.1 q46
    refine .gS rfl rfl rfl q46 rfl rfl ?_
    refine .gS rfl rfl rfl q46 rfl rfl ?_
    refine .gS rfl rfl rfl q46 rfl rfl ?_
    refine .gS rfl rfl rfl q46 rfl rfl ?_
    refine .gS rfl rfl rfl q46 rfl rfl ?_
    refine .gS rfl rfl rfl q46 rfl rfl ?_
    refine .v (pkT rfl q46 rfl) rfl rfl rfl ?_
    refine .v (mv rfl) rfl rfl rfl ?_
    refine .gS rfl rfl rfl rfl rfl rfl ?_
    refine .gS rfl rfl rfl rfl rfl rfl ?_
    refine .gS rfl rfl rfl rfl rfl rfl ?_
    refine .gS rfl rfl rfl rfl rfl rfl ?_
    refine .gS rfl rfl rfl rfl rfl rfl ?_
    refine .gS rfl rfl rfl rfl rfl rfl ?_
    refine .v (pkT rfl rfl rfl) rfl rfl rfl ?_
    refine .nil ?_
    refine .sel0 [1] (by decide) rfl ?_
    exact .use q11 true hF (.cons rfl (.cons rfl (.cons rfl (.cons rfl (.cons rfl (.nil)))))) rfl (FH.le_refl _)
  replace hF := hF.2 q46
  refine .gv (mv rfl) rfl rfl rfl q46 rfl rfl ?_
  refine .gv (fa rfl tF24_0) rfl rfl rfl q46 rfl rfl ?_
  refine .gv (ld1 rfl tO3 (cellB (off := 0) (k := 1) rfl rfl)) rfl rfl rfl q46 rfl rfl ?_
  refine .gv (bi rfl rfl rfl) rfl rfl rfl q46 rfl rfl ?_
  obtain ⟨r6, q47⟩ : ∃ y_ : Bool, y_ = sp_in_ i 0 (IntKind.i64.wrap (n_.events - 1)) := ⟨_, rfl⟩
  replace hF := hF r6 q47
  refine .gc (cl (v := .bool r6) Try.call16 rfl rfl (fun w S => (by rw [q47]; exact c_in_ S.sub i 0 (IntKind.i64.wrap (n_.events - 1)) ))) rfl rfl rfl q46 rfl rfl ?_
  refine .gv (nt rfl) rfl rfl rfl q46 rfl rfl ?_
  refine .v (pkF rfl q46 rfl) rfl rfl rfl ?_
  refine .v (mv rfl) rfl rfl rfl ?_
  rcases Bool.eq_false_or_eq_true (!r6) with q48 | q48
  · replace hF := hF.1 q48
    refine .gS rfl rfl rfl q48 rfl rfl ?_
    refine .gS rfl rfl rfl q48 rfl rfl ?_
    refine .gS rfl rfl rfl q48 rfl rfl ?_
    refine .gS rfl rfl rfl q48 rfl rfl ?_
    refine .gS rfl rfl rfl q48 rfl rfl ?_
    refine .gS rfl rfl rfl q48 rfl rfl ?_
    refine .v (pkT rfl q48 rfl) rfl rfl rfl ?_
    refine .nil ?_
    refine .sel0 [1] (by decide) rfl ?_
    exact .use q11 true hF (.cons rfl (.cons rfl (.cons rfl (.cons rfl (.cons rfl (.nil)))))) rfl (FH.le_refl _)
  replace hF := hF.2 q48
  refine .gv (mv rfl) rfl rfl rfl q48 rfl rfl ?_
  refine .gv (fa rfl tF24_0) rfl rfl rfl q48 rfl rfl ?_
  refine .gv (ld1 rfl tO3 (cellB (off := 0) (k := 1) rfl rfl)) rfl rfl rfl q48 rfl rfl ?_
  refine .gv (bi rfl rfl rfl) rfl rfl rfl q48 rfl rfl ?_
  obtain ⟨r7, q49⟩ : ∃ y_ : Bool, y_ = sp_in_ j 0 (IntKind.i64.wrap (n_.events - 1)) := ⟨_, rfl⟩
  replace hF := hF r7 q49
  refine .gc (cl (v := .bool r7) Try.call16 rfl rfl (fun w S => (by rw [q49]; exact c_in_ S.sub j 0 (IntKind.i64.wrap (n_.events - 1)) ))) rfl rfl rfl q48 rfl rfl ?_
  refine .gv (nt rfl) rfl rfl rfl q48 rfl rfl ?_
  refine .v (pkF rfl q48 rfl) rfl rfl rfl ?_
  refine .nil ?_
  refine .sel0 [1] (by decide) rfl ?_
  exact .use q11 (!r7) hF (.cons rfl (.cons rfl (.cons rfl (.cons rfl (.cons rfl (.nil)))))) rfl (FH.le_refl _)

theorem c_lawBoundsHold {h : FH} {w : World} (hs : Sub h w) (n_ : Network) (an_ : Option Addr) (cn_ : Nat) (_q1 : RSl h an_ n_.links) (_q2 : n_.links.length ≤ cn_) (times : List Int) (atimes : Option Addr) (ctimes : Nat) (_q3 : RSl h atimes times) (_q4 : times.length ≤ ctimes) (i : Int) (j : Int) : Calls Try.prog 5 #[.agg #[.int .i64 n_.events, .slice an_ n_.links.length cn_], .slice atimes times.length ctimes, .int .i64 i, .int .i64 j] w fun e w' => e = .returned (.bool (sp_lawBoundsHold n_ times i j)) ∧ Below w.heap.size w w' :=
  (w_lawBoundsHold hs n_ an_ cn_ _q1 _q2 times atimes ctimes _q3 _q4 i j (fun r => r = sp_lawBoundsHold n_ times i j) (ok_lawBoundsHold n_ times i j)).mono fun _ _ ⟨_, hk, he, hb⟩ => ⟨by rw [he, hk], hb⟩

theorem w_lawEarliestIsLeast {h : FH} {w : World} (hs : Sub h w) (n_ : Network) (an_ : Option Addr) (cn_ : Nat) (_q1 : RSl h an_ n_.links) (_q2 : n_.links.length ≤ cn_) (times : List Int) (atimes : Option Addr) (ctimes : Nat) (_q3 : RSl h atimes times) (_q4 : times.length ≤ ctimes) (K : Bool → Prop) (hF : F_lawEarliestIsLeast n_ times K) : Calls Try.prog 6 #[.agg #[.int .i64 n_.events, .slice an_ n_.links.length cn_], .slice atimes times.length ctimes] w fun e w' => ∃ r : Bool, K r ∧ e = .returned (.bool r) ∧ Below w.heap.size w w' := by
  refine enter (args := [.agg #[.int .i64 n_.events, .slice an_ n_.links.length cn_], .slice atimes times.length ctimes]) Try.func6 rfl Try.ntmps6 rfl hs ?_
  refine .seq ?_
  refine .region ?_
  refine bx (vs := [.int .i64 n_.events, .slice an_ n_.links.length cn_]) rfl rfl rfl (fun pn => ?_)
  refine .v (asg rfl) rfl rfl rfl ?_
  refine .nil ?_
  refine .seqN ?_
  refine .seq ?_
  refine .region ?_
  refine .v (ldA (cs := [.int .i64 n_.events, .slice an_ n_.links.length cn_]) rfl tA24 rfl (cellsB (off := 0) (k := 0) rfl (m := 2) rfl)) rfl rfl rfl ?_
  refine .v (mv rfl) rfl rfl rfl ?_
  obtain ⟨r2, q5⟩ : ∃ y_ : Bool × Fault, y_ = sp_respects n_ times := ⟨_, rfl⟩
  replace hF := hF r2 q5
  refine .c (cl (v := .tuple #[.bool r2.1, .agg #[.int .i64 r2.2.code, .int .i64 r2.2.index]]) Try.call18 rfl rfl (fun w S => (by rw [q5]; exact c_respects S.sub n_ an_ cn_ _q1 _q2 times atimes ctimes _q3 _q4 ))) rfl rfl rfl ?_
  refine .v (mv rfl) rfl rfl rfl ?_
  refine .v (ext rfl rfl) rfl rfl rfl ?_
  refine .v (ext rfl rfl) rfl rfl rfl ?_
  refine al tZ27 rfl (fun pf => ?_)
  refine .v (asg rfl) rfl rfl rfl ?_
  refine st (p := pf) (off := 0) (k := 0) (vs := [.int .i64 r2.2.code, .int .i64 r2.2.index]) rfl rfl rfl (fun w => (tA27 w).2) rfl rfl rfl rfl ?_
  refine .cast (A' := [Box pf [.int .i64 r2.2.code, .int .i64 r2.2.index], Box pn [.int .i64 n_.events, .slice an_ n_.links.length cn_]]) rfl ?_
  refine .nil ?_
  refine .seqN ?_
  refine .seq ?_
  refine .share (σ := Bool) (fun z => F_lawEarliestIsLeast_J1 n_ times K z) (fun z => [(1, .slice atimes times.length ctimes), (2, .pointer (some pn)), (23, .bool z)]) (fun _ => [Box pn [.int .i64 n_.events, .slice an_ n_.links.length cn_]]) (fun _ => h) ?_ (fun q7 => ?_)
  · rintro t23 hF
    show J _ _ _ _ _ [(1, .slice atimes times.length ctimes), (2, .pointer (some pn)), (23, .bool t23)] [Box pn [.int .i64 n_.events, .slice an_ n_.links.length cn_]] h
    refine .cond rfl (fun q8 => ?_) (fun q8 => ?_)
    · replace hF := hF.1 q8
      refine .seq ?_
      refine .region ?_
      obtain ⟨r3, q9⟩ : ∃ y_ : Bool, y_ = sp_bounded := ⟨_, rfl⟩
      replace hF := hF r3 q9
      refine .c (cl (v := .bool r3) Try.call17 rfl rfl (fun w S => (by rw [q9]; exact c_bounded S.sub  ))) rfl rfl rfl ?_
      refine .v (asg rfl) rfl rfl rfl ?_
      refine .nil ?_
      refine .seqN ?_
      refine .ret ?_
      refine .seqR ?_
      refine .res1 rfl (rvT rfl) (fun w' S => ⟨r3, hF, rfl, S.below⟩)
    replace hF := hF.2 q8
    refine .skip ?_
    refine .seqN ?_
    refine .seq ?_
    refine .region ?_
    refine .v (ldA (cs := [.int .i64 n_.events, .slice an_ n_.links.length cn_]) rfl tA24 rfl (cellsB (off := 0) (k := 0) rfl (m := 2) rfl)) rfl rfl rfl ?_
    obtain ⟨r4, q10⟩ : ∃ y_ : List Int × Bool × Fault, y_ = sp_earliest n_ := ⟨_, rfl⟩
    replace hF := hF r4 q10
    refine clR (α := Option Addr × Nat) (Φ := fun h1 z => RSl h1 z.1 r4.1 ∧ r4.1.length ≤ z.2) (V := fun z => .tuple #[.slice z.1 r4.1.length z.2, .bool r4.2.1, .agg #[.int .i64 r4.2.2.code, .int .i64 r4.2.2.index]]) Try.call19 rfl rfl (fun w S => (by rw [q10]; exact c_earliest S.sub n_ an_ cn_ _q1 _q2 )) rfl (fun z h1 le1 hz => ?_)
    obtain ⟨a, c⟩ := z
    obtain ⟨q11, q12⟩ := hz
    refine .v (mv rfl) rfl rfl rfl ?_
    refine .v (ext rfl rfl) rfl rfl rfl ?_
    refine .v (ext rfl rfl) rfl rfl rfl ?_
    refine .v (ext rfl rfl) rfl rfl rfl ?_
    refine al tZ27 rfl (fun pg => ?_)
    refine .v (asg rfl) rfl rfl rfl ?_
    refine .v (asg rfl) rfl rfl rfl ?_
    refine st (p := pg) (off := 0) (k := 0) (vs := [.int .i64 r4.2.2.code, .int .i64 r4.2.2.index]) rfl rfl rfl (fun w => (tA27 w).2) rfl rfl rfl rfl ?_
    refine .cast (A' := [Box pg [.int .i64 r4.2.2.code, .int .i64 r4.2.2.index], Box pn [.int .i64 n_.events, .slice an_ n_.links.length cn_]]) rfl ?_
    refine .nil ?_
    refine .seqN ?_
    refine .seq ?_
    refine .share (σ := Bool) (fun z => F_lawEarliestIsLeast_J2 times K r4 z) (fun z => [(1, .slice atimes times.length ctimes), (7, .slice a r4.1.length c), (44, .bool z)]) (fun _ => []) (fun _ => h1) ?_ (fun q15 => ?_)
    · rintro t44 hF
      show J _ _ _ _ _ [(1, .slice atimes times.length ctimes), (7, .slice a r4.1.length c), (44, .bool t44)] [] h1
      refine .cond rfl (fun q16 => ?_) (fun q16 => ?_)
      · replace hF := hF.1 q16
        refine .seq ?_
        refine .region ?_
        refine .v (asg rfl) rfl rfl rfl ?_
        refine .nil ?_
        refine .seqN ?_
        refine .ret ?_
        refine .seqR ?_
        refine .res1 rfl (rvT rfl) (fun w' S => ⟨false, hF, rfl, S.below⟩)
      replace hF := hF.2 q16
      refine .skip ?_
      refine .seqN ?_
      refine .seq ?_
      refine .seq ?_
      refine .region ?_
      refine .v (asg rfl) rfl rfl rfl ?_
      refine .nil ?_
      refine .seqN ?_
      refine .block ?_
      obtain ⟨I1, μ1, q31, q32⟩ := hF
      refine .loop' (σ := Int) (fun z => I1 z) (fun z => μ1 z) (fun z => [(1, .slice atimes times.length ctimes), (7, .slice a r4.1.length c), (10, .int .i64 z)]) (fun _ => []) (fun _ => h1) 0 q31 (.cons rfl (.cons rfl (.cons rfl (.nil)))) rfl (FH.le_refl _) ?_
      rintro i q31
      have hF := q32 i q31
      show J _ _ _ _ _ [(1, .slice atimes times.length ctimes), (7, .slice a r4.1.length c), (10, .int .i64 i)] [] h1
      refine .seq ?_
      refine .seq ?_
      refine .region ?_
      refine .v (mv rfl) rfl rfl rfl ?_
      refine .v (mv rfl) rfl rfl rfl ?_
      refine .v (ln rfl tS32.is) rfl rfl rfl ?_
      refine .v (bi rfl rfl rfl) rfl rfl rfl ?_
      refine .nil ?_
      refine .seqN ?_
      refine .cond rfl (fun q33 => ?_) (fun q33 => ?_)
      · replace hF := hF.1 q33
        refine .skip ?_
        refine .seqN ?_
        refine .seq ?_
        refine .block ?_
        refine .seq ?_
        refine .open_ (by kernel_rfl) (by kernel_rfl) ?_
        refine .v (mv rfl) rfl rfl rfl ?_
        refine .v (mv rfl) rfl rfl rfl ?_
        obtain ⟨q37, hF⟩ := hF
        refine .v (ix rfl rfl tS32 (q11.ne (by decide) (inb_pos q37)) q37) rfl rfl rfl ?_
        refine .v (ld1 (v := .int .i64 (gt r4.1 i)) rfl tO3 (cellH (q11.elemF q37 (by decide) 0 _ rfl))) rfl rfl rfl ?_
        refine .v (mv rfl) rfl rfl rfl ?_
        refine .v (mv rfl) rfl rfl rfl ?_
        obtain ⟨q38, hF⟩ := hF
        refine .v (ix rfl rfl tS32 (_q3.ne (by decide) (inb_pos q38)) q38) rfl rfl rfl ?_
        refine .v (ld1 (v := .int .i64 (gt times i)) rfl tO3 (cellH ((_q3.mono (le1)).elemF q38 (by decide) 0 _ rfl))) rfl rfl rfl ?_
        refine .v (bi rfl rfl rfl) rfl rfl rfl ?_
        refine .fin ?_
        refine .seqN ?_
        refine .cond rfl (fun q39 => ?_) (fun q39 => ?_)
        · replace hF := hF.1 q39
          refine .seq ?_
          refine .region ?_
          refine .v (asg rfl) rfl rfl rfl ?_
          refine .nil ?_
          refine .seqN ?_
          refine .ret ?_
          refine .blkR ?_
          refine .seqR ?_
          refine .seqR ?_
          refine .blkR ?_
          refine .seqR ?_
          refine .res1 rfl (rvT rfl) (fun w' S => ⟨false, hF, rfl, S.below⟩)
        replace hF := hF.2 q39
        refine .skip ?_
        refine .blkN ?_
        refine .seqN ?_
        refine .region ?_
        refine .v (mv rfl) rfl rfl rfl ?_
        refine .v (bi rfl rfl rfl) rfl rfl rfl ?_
        refine .v (asg rfl) rfl rfl rfl ?_
        refine .nil ?_
        exact .round (IntKind.i64.wrap (i + 1)) hF.1 hF.2 (.cons rfl (.cons rfl (.cons rfl (.nil)))) rfl (FH.le_refl _)
      replace hF := hF.2 q33
      refine .exit ?_
      refine .seqX ?_
      refine .seqX ?_
      refine .blkX ?_
      refine .seqN ?_
      refine .seq ?_
      refine .region ?_
      obtain ⟨r5, q40⟩ : ∃ y_ : Bool, y_ = sp_bounded := ⟨_, rfl⟩
      replace hF := hF r5 q40
      refine .c (cl (v := .bool r5) Try.call17 rfl rfl (fun w S => (by rw [q40]; exact c_bounded S.sub  ))) rfl rfl rfl ?_
      refine .v (asg rfl) rfl rfl rfl ?_
      refine .nil ?_
      refine .seqN ?_
      refine .ret ?_
      refine .res1 rfl (rvT rfl) (fun w' S => ⟨r5, hF, rfl, S.below⟩)
    refine .region ?_
    refine .v (fa rfl tF27_0) rfl rfl rfl ?_
    refine .v (ld1 rfl tO3 (cellB (off := 0) (k := 0) rfl rfl)) rfl rfl rfl ?_
    refine .v (bi rfl rfl rfl) rfl rfl rfl ?_
    refine .v (mv rfl) rfl rfl rfl ?_
    rcases Bool.eq_false_or_eq_true (r4.2.2.code != 0) with q41 | q41
    · replace hF := hF.1 q41
      refine .gS rfl rfl rfl q41 rfl rfl ?_
      refine .gS rfl rfl rfl q41 rfl rfl ?_
      refine .v (pkT rfl q41 rfl) rfl rfl rfl ?_
      refine .v (mv rfl) rfl rfl rfl ?_
      refine .gS rfl rfl rfl rfl rfl rfl ?_
      refine .gS rfl rfl rfl rfl rfl rfl ?_
      refine .gS rfl rfl rfl rfl rfl rfl ?_
      refine .gS rfl rfl rfl rfl rfl rfl ?_
      refine .gS rfl rfl rfl rfl rfl rfl ?_
      refine .v (pkT rfl rfl rfl) rfl rfl rfl ?_
      refine .nil ?_
      refine .sel0 [] (by decide) rfl ?_
      exact .use q15 true hF (.cons rfl (.cons rfl (.cons rfl (.nil)))) rfl (FH.le_refl _)
    replace hF := hF.2 q41
    refine .gv (mv rfl) rfl rfl rfl q41 rfl rfl ?_
    refine .gv (nt rfl) rfl rfl rfl q41 rfl rfl ?_
    refine .v (pkF rfl q41 rfl) rfl rfl rfl ?_
    refine .v (mv rfl) rfl rfl rfl ?_
    rcases Bool.eq_false_or_eq_true (!r4.2.1) with q42 | q42
    · replace hF := hF.1 q42
      refine .gS rfl rfl rfl q42 rfl rfl ?_
      refine .gS rfl rfl rfl q42 rfl rfl ?_
      refine .gS rfl rfl rfl q42 rfl rfl ?_
      refine .gS rfl rfl rfl q42 rfl rfl ?_
      refine .gS rfl rfl rfl q42 rfl rfl ?_
      refine .v (pkT rfl q42 rfl) rfl rfl rfl ?_
      refine .nil ?_
      refine .sel0 [] (by decide) rfl ?_
      exact .use q15 true hF (.cons rfl (.cons rfl (.cons rfl (.nil)))) rfl (FH.le_refl _)
    replace hF := hF.2 q42
    refine .gv (mv rfl) rfl rfl rfl q42 rfl rfl ?_
    refine .gv (ln rfl tS32.is) rfl rfl rfl q42 rfl rfl ?_
    refine .gv (mv rfl) rfl rfl rfl q42 rfl rfl ?_
    refine .gv (ln rfl tS32.is) rfl rfl rfl q42 rfl rfl ?_
    refine .gv (bi rfl rfl rfl) rfl rfl rfl q42 rfl rfl ?_
    refine .v (pkF rfl q42 rfl) rfl rfl rfl ?_
    refine .nil ?_
    refine .sel0 [] (by decide) rfl ?_
    exact .use q15 (((r4.1.length : Nat) : Int) != ((times.length : Nat) : Int)) hF (.cons rfl (.cons rfl (.cons rfl (.nil)))) rfl (FH.le_refl _)
  refine .region ?_
  refine .v (fa rfl tF27_0) rfl rfl rfl ?_
  refine .v (ld1 rfl tO3 (cellB (off := 0) (k := 0) rfl rfl)) rfl rfl rfl ?_
  refine .v (bi rfl rfl rfl) rfl rfl rfl ?_
  refine .v (mv rfl) rfl rfl rfl ?_
  rcases Bool.eq_false_or_eq_true (r2.2.code != 0) with q43 | q43
  · replace hF := hF.1 q43
    refine .gS rfl rfl rfl q43 rfl rfl ?_
    refine .gS rfl rfl rfl q43 rfl rfl ?_
    refine .v (pkT rfl q43 rfl) rfl rfl rfl ?_
    refine .nil ?_
    refine .sel0 [1] (by decide) rfl ?_
    exact .use q7 true hF (.cons rfl (.cons rfl (.cons rfl (.nil)))) rfl (FH.le_refl _)
  replace hF := hF.2 q43
  refine .gv (mv rfl) rfl rfl rfl q43 rfl rfl ?_
  refine .gv (nt rfl) rfl rfl rfl q43 rfl rfl ?_
  refine .v (pkF rfl q43 rfl) rfl rfl rfl ?_
  refine .nil ?_
  refine .sel0 [1] (by decide) rfl ?_
  exact .use q7 (!r2.1) hF (.cons rfl (.cons rfl (.cons rfl (.nil)))) rfl (FH.le_refl _)

theorem c_lawEarliestIsLeast {h : FH} {w : World} (hs : Sub h w) (n_ : Network) (an_ : Option Addr) (cn_ : Nat) (_q1 : RSl h an_ n_.links) (_q2 : n_.links.length ≤ cn_) (times : List Int) (atimes : Option Addr) (ctimes : Nat) (_q3 : RSl h atimes times) (_q4 : times.length ≤ ctimes) : Calls Try.prog 6 #[.agg #[.int .i64 n_.events, .slice an_ n_.links.length cn_], .slice atimes times.length ctimes] w fun e w' => e = .returned (.bool (sp_lawEarliestIsLeast n_ times)) ∧ Below w.heap.size w w' :=
  (w_lawEarliestIsLeast hs n_ an_ cn_ _q1 _q2 times atimes ctimes _q3 _q4 (fun r => r = sp_lawEarliestIsLeast n_ times) (ok_lawEarliestIsLeast n_ times)).mono fun _ _ ⟨_, hk, he, hb⟩ => ⟨by rw [he, hk], hb⟩

end Go.Proofs.Ytijicdmpidbacaa.Pl
