/- The walks: from what each function asks to what it does; printed from the code. No condition. -/
import Derived.Test.YtijicdmpidbacaaW3
namespace Go.Proofs.Ytijicdmpidbacaa.Pl
open Go Go.RowKit
set_option maxHeartbeats 8000000 in
theorem w_lawBoundsHold {h : FH} {w : World} (hs : Sub h w) (n_ : Network) (an_ : Option Addr) (cn_ : Nat) (_q1 : RSl h an_ n_.links) (_q2 : n_.links.length ≤ cn_) (times : List Int) (atimes : Option Addr) (ctimes : Nat) (_q3 : RSl h atimes times) (_q4 : times.length ≤ ctimes) (i : Int) (j : Int) (K : Bool → Prop) (hF : F_lawBoundsHold n_ times i j K) : Calls Try.prog 5 #[.agg #[.int .i64 n_.events, .slice an_ n_.links.length cn_], .slice atimes times.length ctimes, .int .i64 i, .int .i64 j] w fun e w' => ∃ r : Bool, K r ∧ e = .returned (.bool r) ∧ Below w.heap.size w w' := by
  refine enter (args := [.agg #[.int .i64 n_.events, .slice an_ n_.links.length cn_], .slice atimes times.length ctimes, .int .i64 i, .int .i64 j]) Try.func5 rfl Try.ntmps5 rfl hs ?_
  refine .seq ?_
  refine .region ?_
  refine bx (vs := [.int .i64 n_.events, .slice an_ n_.links.length cn_]) rfl rfl rfl (fun pn => ?_)
  refine .v (asg rfl) rfl rfl rfl ?_
  refine .nil ?_
  refine .seqN ?_
  refine .seq ?_
  refine .region ?_
  refine .v (ldA (cs := [.int .i64 n_.events, .slice an_ n_.links.length cn_]) rfl tA24 rfl (cellsB (off := 0) (k := 0) rfl (m := 2) rfl)) rfl rfl rfl ?_
  refine .v (mv rfl) rfl rfl rfl ?_
  obtain ⟨r2, q5⟩ : ∃ y_ : Bool × Fault, y_ = sp_respects n_ times := ⟨_, rfl⟩
  replace hF := hF r2 q5
  refine .c (cl (v := .tuple #[.bool r2.1, .agg #[.int .i64 r2.2.code, .int .i64 r2.2.index]]) Try.call18 rfl rfl (fun w S => (by rw [q5]; exact c_respects S.sub n_ an_ cn_ _q1 _q2 times atimes ctimes _q3 _q4 ))) rfl rfl rfl ?_
  refine .v (mv rfl) rfl rfl rfl ?_
  refine .v (ext rfl rfl) rfl rfl rfl ?_
  refine .v (ext rfl rfl) rfl rfl rfl ?_
  refine al tZ27 rfl (fun pf => ?_)
  refine .v (asg rfl) rfl rfl rfl ?_
  refine st (p := pf) (off := 0) (k := 0) (vs := [.int .i64 r2.2.code, .int .i64 r2.2.index]) rfl rfl rfl (fun w => (tA27 w).2) rfl rfl rfl rfl ?_
  refine .cast (A' := [Box pf [.int .i64 r2.2.code, .int .i64 r2.2.index], Box pn [.int .i64 n_.events, .slice an_ n_.links.length cn_]]) rfl ?_
  refine .nil ?_
  refine .seqN ?_
  refine .seq ?_
  refine .share (σ := Bool) (fun z => F_lawBoundsHold_J1 n_ times i j K z) (fun z => [(1, .slice atimes times.length ctimes), (2, .int .i64 i), (3, .int .i64 j), (4, .pointer (some pn)), (42, .bool z)]) (fun _ => [Box pn [.int .i64 n_.events, .slice an_ n_.links.length cn_]]) (fun _ => h) ?_ (fun q11 => ?_)
  · rintro t42 hF
    show J _ _ _ _ _ [(1, .slice atimes times.length ctimes), (2, .int .i64 i), (3, .int .i64 j), (4, .pointer (some pn)), (42, .bool t42)] [Box pn [.int .i64 n_.events, .slice an_ n_.links.length cn_]] h
    refine .cond rfl (fun q12 => ?_) (fun q12 => ?_)
    · replace hF := hF.1 q12
      refine .seq ?_
      refine .region ?_
      obtain ⟨r3, q13⟩ : ∃ y_ : Bool, y_ = sp_bounded := ⟨_, rfl⟩
      replace hF := hF r3 q13
      refine .c (cl (v := .bool r3) Try.call17 rfl rfl (fun w S => (by rw [q13]; exact c_bounded S.sub  ))) rfl rfl rfl ?_
      refine .v (asg rfl) rfl rfl rfl ?_
      refine .nil ?_
      refine .seqN ?_
      refine .ret ?_
      refine .seqR ?_
      refine .res1 rfl (rvT rfl) (fun w' S => ⟨r3, hF, rfl, S.below⟩)
    replace hF := hF.2 q12
    refine .skip ?_
    refine .seqN ?_
    refine .seq ?_
    refine .region ?_
    refine .v (ldA (cs := [.int .i64 n_.events, .slice an_ n_.links.length cn_]) rfl tA24 rfl (cellsB (off := 0) (k := 0) rfl (m := 2) rfl)) rfl rfl rfl ?_
    obtain ⟨r4, q14⟩ : ∃ y_ : List (List Int) × Bool × Fault, y_ = sp_minimal n_ := ⟨_, rfl⟩
    replace hF := hF r4 q14
    refine clR (α := Option Addr × Nat) (Φ := fun h1 z => RSl h1 z.1 r4.1 ∧ r4.1.length ≤ z.2) (V := fun z => .tuple #[.slice z.1 r4.1.length z.2, .bool r4.2.1, .agg #[.int .i64 r4.2.2.code, .int .i64 r4.2.2.index]]) Try.call15 rfl rfl (fun w S => (by rw [q14]; exact c_minimal S.sub n_ an_ cn_ _q1 _q2 )) rfl (fun z h1 le1 hz => ?_)
    obtain ⟨a, c⟩ := z
    obtain ⟨q15, q16⟩ := hz
    refine .v (mv rfl) rfl rfl rfl ?_
    refine .v (ext rfl rfl) rfl rfl rfl ?_
    refine .v (ext rfl rfl) rfl rfl rfl ?_
    refine .v (ext rfl rfl) rfl rfl rfl ?_
    refine al tZ27 rfl (fun pg => ?_)
    refine .v (asg rfl) rfl rfl rfl ?_
    refine .v (asg rfl) rfl rfl rfl ?_
    refine st (p := pg) (off := 0) (k := 0) (vs := [.int .i64 r4.2.2.code, .int .i64 r4.2.2.index]) rfl rfl rfl (fun w => (tA27 w).2) rfl rfl rfl rfl ?_
    refine .cast (A' := [Box pg [.int .i64 r4.2.2.code, .int .i64 r4.2.2.index], Box pn [.int .i64 n_.events, .slice an_ n_.links.length cn_]]) rfl ?_
    refine .nil ?_
    refine .seqN ?_
    refine .seq ?_
    refine .open_ (by kernel_rfl) (by kernel_rfl) ?_
    refine .v (fa rfl tF27_0) rfl rfl rfl ?_
    refine .v (ld1 rfl tO3 (cellB (off := 0) (k := 0) rfl rfl)) rfl rfl rfl ?_
    refine .v (bi rfl rfl rfl) rfl rfl rfl ?_
    refine .v (mv rfl) rfl rfl rfl ?_
    rcases Bool.eq_false_or_eq_true (r4.2.2.code == 0) with q31 | q31
    · replace hF := hF.1 q31
      refine .gv (mv rfl) rfl rfl rfl q31 rfl rfl ?_
      refine .v (pkT rfl q31 rfl) rfl rfl rfl ?_
      refine .v (mv rfl) rfl rfl rfl ?_
      rcases Bool.eq_false_or_eq_true (r4.2.1) with q32 | q32
      · replace hF := hF.1 q32
        refine .gv (mv rfl) rfl rfl rfl q32 rfl rfl ?_
        refine .gv (ln rfl tS25.is) rfl rfl rfl q32 rfl rfl ?_
        refine .gv (fa rfl tF24_0) rfl rfl rfl q32 rfl rfl ?_
        refine .gv (ld1 rfl tO3 (cellB (off := 0) (k := 1) rfl rfl)) rfl rfl rfl q32 rfl rfl ?_
        refine .gv (bi rfl rfl rfl) rfl rfl rfl q32 rfl rfl ?_
        refine .v (pkT rfl q32 rfl) rfl rfl rfl ?_
        refine .v (mv rfl) rfl rfl rfl ?_
        rcases Bool.eq_false_or_eq_true (((r4.1.length : Nat) : Int) == n_.events) with q33 | q33
        · replace hF := hF.1 q33
          refine .gv (mv rfl) rfl rfl rfl q33 rfl rfl ?_
          refine .gv (mv rfl) rfl rfl rfl q33 rfl rfl ?_
          obtain ⟨q34, hF⟩ := hF
          refine .gv (ix rfl rfl tS25 (q15.ne (by decide) (inb_pos q34)) q34) rfl rfl rfl q33 rfl rfl ?_
          obtain ⟨_, ⟨a2, c2, rfl, q35, q36⟩, q37⟩ := q15.elem q34
          refine .gv (ld1 (v := .slice a2 ((gt r4.1 i).length) c2) rfl tO32 (cellH (q37 (by decide) 0 _ rfl))) rfl rfl rfl q33 rfl rfl ?_
          refine .gv (ln rfl tS32.is) rfl rfl rfl q33 rfl rfl ?_
          refine .gv (fa rfl tF24_0) rfl rfl rfl q33 rfl rfl ?_
          refine .gv (ld1 rfl tO3 (cellB (off := 0) (k := 1) rfl rfl)) rfl rfl rfl q33 rfl rfl ?_
          refine .gv (bi rfl rfl rfl) rfl rfl rfl q33 rfl rfl ?_
          refine .v (pkT rfl q33 rfl) rfl rfl rfl ?_
          refine .v (mv rfl) rfl rfl rfl ?_
          rcases Bool.eq_false_or_eq_true ((((gt r4.1 i).length : Nat) : Int) == n_.events) with q38 | q38
          · replace hF := hF.1 q38
            refine .gv (mv rfl) rfl rfl rfl q38 rfl rfl ?_
            refine .gv (mv rfl) rfl rfl rfl q38 rfl rfl ?_
            obtain ⟨q39, hF⟩ := hF
            refine .gv (ix rfl rfl tS32 (_q3.ne (by decide) (inb_pos q39)) q39) rfl rfl rfl q38 rfl rfl ?_
            refine .gv (ld1 (v := .int .i64 (gt times j)) rfl tO3 (cellH ((_q3.mono (le1)).elemF q39 (by decide) 0 _ rfl))) rfl rfl rfl q38 rfl rfl ?_
            refine .gv (mv rfl) rfl rfl rfl q38 rfl rfl ?_
            refine .gv (mv rfl) rfl rfl rfl q38 rfl rfl ?_
            obtain ⟨q40, hF⟩ := hF
            refine .gv (ix rfl rfl tS32 (_q3.ne (by decide) (inb_pos q40)) q40) rfl rfl rfl q38 rfl rfl ?_
            refine .gv (ld1 (v := .int .i64 (gt times i)) rfl tO3 (cellH ((_q3.mono (le1)).elemF q40 (by decide) 0 _ rfl))) rfl rfl rfl q38 rfl rfl ?_
            refine .gv (bi rfl rfl rfl) rfl rfl rfl q38 rfl rfl ?_
            refine .gv (mv rfl) rfl rfl rfl q38 rfl rfl ?_
            refine .gv (mv rfl) rfl rfl rfl q38 rfl rfl ?_
            refine .gv (ix rfl rfl tS25 (q15.ne (by decide) (inb_pos q34)) q34) rfl rfl rfl q38 rfl rfl ?_
            refine .gv (ld1 (v := .slice a2 ((gt r4.1 i).length) c2) rfl tO32 (cellH (q37 (by decide) 0 _ rfl))) rfl rfl rfl q38 rfl rfl ?_
            refine .gv (mv rfl) rfl rfl rfl q38 rfl rfl ?_
            obtain ⟨q41, hF⟩ := hF
            refine .gv (ix rfl rfl tS32 (q36.ne (by decide) (inb_pos q41)) q41) rfl rfl rfl q38 rfl rfl ?_
            refine .gv (ld1 (v := .int .i64 (gt (gt r4.1 i) j)) rfl tO3 (cellH (q36.elemF q41 (by decide) 0 _ rfl))) rfl rfl rfl q38 rfl rfl ?_
            obtain ⟨x, q42⟩ : ∃ y_ : Bool, y_ = (decide ((IntKind.i64.wrap ((gt times j) - (gt times i))) ≤ (gt (gt r4.1 i) j))) := ⟨_, rfl⟩
            replace hF := hF x q42
            refine .gv (v := .bool x) (by rw [q42]; exact bi rfl rfl rfl) rfl rfl rfl q38 rfl rfl ?_
            refine .v (pkT rfl q38 rfl) rfl rfl rfl ?_
            refine .v (mv rfl) rfl rfl rfl ?_
            rcases Bool.eq_false_or_eq_true (x) with q43 | q43
            · replace hF := hF.1 q43
              obtain ⟨r5, q44⟩ : ∃ y_ : Bool, y_ = sp_bounded := ⟨_, rfl⟩
              replace hF := hF r5 q44
              refine .gc (cl (v := .bool r5) Try.call17 rfl rfl (fun w S => (by rw [q44]; exact c_bounded S.sub  ))) rfl rfl rfl q43 rfl rfl ?_
              refine .v (pkT rfl q43 rfl) rfl rfl rfl ?_
              refine .v (asg rfl) rfl rfl rfl ?_
              refine .fin ?_
              refine .seqN ?_
              refine .ret ?_
              refine .res1 rfl (rvT rfl) (fun w' S => ⟨r5, hF, rfl, S.below⟩)
            replace hF := hF.2 q43
            refine .gS rfl rfl rfl q43 rfl rfl ?_
            refine .v (pkF rfl q43 rfl) rfl rfl rfl ?_
            refine .v (asg rfl) rfl rfl rfl ?_
            refine .fin ?_
            refine .seqN ?_
            refine .ret ?_
            refine .res1 rfl (rvT rfl) (fun w' S => ⟨false, hF, rfl, S.below⟩)
          replace hF := hF.2 q38
          refine .gS rfl rfl rfl q38 rfl rfl ?_
          refine .gS rfl rfl rfl q38 rfl rfl ?_
          refine .gS rfl rfl rfl q38 rfl rfl ?_
          refine .gS rfl rfl rfl q38 rfl rfl ?_
          refine .gS rfl rfl rfl q38 rfl rfl ?_
          refine .gS rfl rfl rfl q38 rfl rfl ?_
          refine .gS rfl rfl rfl q38 rfl rfl ?_
          refine .gS rfl rfl rfl q38 rfl rfl ?_
          refine .gS rfl rfl rfl q38 rfl rfl ?_
          refine .gS rfl rfl rfl q38 rfl rfl ?_
          refine .gS rfl rfl rfl q38 rfl rfl ?_
          refine .gS rfl rfl rfl q38 rfl rfl ?_
          refine .gS rfl rfl rfl q38 rfl rfl ?_
          refine .gS rfl rfl rfl q38 rfl rfl ?_
          refine .gS rfl rfl rfl q38 rfl rfl ?_
          refine .gS rfl rfl rfl q38 rfl rfl ?_
          refine .gS rfl rfl rfl q38 rfl rfl ?_
          refine .v (pkF rfl q38 rfl) rfl rfl rfl ?_
          refine .v (mv rfl) rfl rfl rfl ?_
          refine .gS rfl rfl rfl rfl rfl rfl ?_
          refine .v (pkF rfl rfl rfl) rfl rfl rfl ?_
          refine .v (asg rfl) rfl rfl rfl ?_
          refine .fin ?_
          refine .seqN ?_
          refine .ret ?_
          refine .res1 rfl (rvT rfl) (fun w' S => ⟨false, hF, rfl, S.below⟩)
        replace hF := hF.2 q33
        refine .gS rfl rfl rfl q33 rfl rfl ?_
        refine .gS rfl rfl rfl q33 rfl rfl ?_
        refine .gS rfl rfl rfl q33 rfl rfl ?_
        refine .gS rfl rfl rfl q33 rfl rfl ?_
        refine .gS rfl rfl rfl q33 rfl rfl ?_
        refine .gS rfl rfl rfl q33 rfl rfl ?_
        refine .gS rfl rfl rfl q33 rfl rfl ?_
        refine .gS rfl rfl rfl q33 rfl rfl ?_
        refine .v (pkF rfl q33 rfl) rfl rfl rfl ?_
        refine .v (mv rfl) rfl rfl rfl ?_
        refine .gS rfl rfl rfl rfl rfl rfl ?_
        refine .gS rfl rfl rfl rfl rfl rfl ?_
        refine .gS rfl rfl rfl rfl rfl rfl ?_
        refine .gS rfl rfl rfl rfl rfl rfl ?_
        refine .gS rfl rfl rfl rfl rfl rfl ?_
        refine .gS rfl rfl rfl rfl rfl rfl ?_
        refine .gS rfl rfl rfl rfl rfl rfl ?_
        refine .gS rfl rfl rfl rfl rfl rfl ?_
        refine .gS rfl rfl rfl rfl rfl rfl ?_
        refine .gS rfl rfl rfl rfl rfl rfl ?_
        refine .gS rfl rfl rfl rfl rfl rfl ?_
        refine .gS rfl rfl rfl rfl rfl rfl ?_
        refine .gS rfl rfl rfl rfl rfl rfl ?_
        refine .gS rfl rfl rfl rfl rfl rfl ?_
        refine .gS rfl rfl rfl rfl rfl rfl ?_
        refine .gS rfl rfl rfl rfl rfl rfl ?_
        refine .gS rfl rfl rfl rfl rfl rfl ?_
        refine .v (pkF rfl rfl rfl) rfl rfl rfl ?_
        refine .v (mv rfl) rfl rfl rfl ?_
        refine .gS rfl rfl rfl rfl rfl rfl ?_
        refine .v (pkF rfl rfl rfl) rfl rfl rfl ?_
        refine .v (asg rfl) rfl rfl rfl ?_
        refine .fin ?_
        refine .seqN ?_
        refine .ret ?_
        refine .res1 rfl (rvT rfl) (fun w' S => ⟨false, hF, rfl, S.below⟩)
      replace hF := hF.2 q32
      refine .gS rfl rfl rfl q32 rfl rfl ?_
      refine .gS rfl rfl rfl q32 rfl rfl ?_
      refine .gS rfl rfl rfl q32 rfl rfl ?_
      refine .gS rfl rfl rfl q32 rfl rfl ?_
      refine .gS rfl rfl rfl q32 rfl rfl ?_
      refine .v (pkF rfl q32 rfl) rfl rfl rfl ?_
      refine .v (mv rfl) rfl rfl rfl ?_
      refine .gS rfl rfl rfl rfl rfl rfl ?_
      refine .gS rfl rfl rfl rfl rfl rfl ?_
      refine .gS rfl rfl rfl rfl rfl rfl ?_
      refine .gS rfl rfl rfl rfl rfl rfl ?_
      refine .gS rfl rfl rfl rfl rfl rfl ?_
      refine .gS rfl rfl rfl rfl rfl rfl ?_
      refine .gS rfl rfl rfl rfl rfl rfl ?_
      refine .gS rfl rfl rfl rfl rfl rfl ?_
      refine .v (pkF rfl rfl rfl) rfl rfl rfl ?_
      refine .v (mv rfl) rfl rfl rfl ?_
      refine .gS rfl rfl rfl rfl rfl rfl ?_
      refine .gS rfl rfl rfl rfl rfl rfl ?_
      refine .gS rfl rfl rfl rfl rfl rfl ?_
      refine .gS rfl rfl rfl rfl rfl rfl ?_
      refine .gS rfl rfl rfl rfl rfl rfl ?_
      refine .gS rfl rfl rfl rfl rfl rfl ?_
      refine .gS rfl rfl rfl rfl rfl rfl ?_
      refine .gS rfl rfl rfl rfl rfl rfl ?_
      refine .gS rfl rfl rfl rfl rfl rfl ?_
      refine .gS rfl rfl rfl rfl rfl rfl ?_
      refine .gS rfl rfl rfl rfl rfl rfl ?_
      refine .gS rfl rfl rfl rfl rfl rfl ?_
      refine .gS rfl rfl rfl rfl rfl rfl ?_
      refine .gS rfl rfl rfl rfl rfl rfl ?_
      refine .gS rfl rfl rfl rfl rfl rfl ?_
      refine .gS rfl rfl rfl rfl rfl rfl ?_
      refine .gS rfl rfl rfl rfl rfl rfl ?_
      refine .v (pkF rfl rfl rfl) rfl rfl rfl ?_
      refine .v (mv rfl) rfl rfl rfl ?_
      refine .gS rfl rfl rfl rfl rfl rfl ?_
      refine .v (pkF rfl rfl rfl) rfl rfl rfl ?_
      refine .v (asg rfl) rfl rfl rfl ?_
      refine .fin ?_
      refine .seqN ?_
      refine .ret ?_
      refine .res1 rfl (rvT rfl) (fun w' S => ⟨false, hF, rfl, S.below⟩)
    replace hF := hF.2 q31
    refine .gS rfl rfl rfl q31 rfl rfl ?_
    refine .v (pkF rfl q31 rfl) rfl rfl rfl ?_
    refine .v (mv rfl) rfl rfl rfl ?_
    refine .gS rfl rfl rfl rfl rfl rfl ?_
    refine .gS rfl rfl rfl rfl rfl rfl ?_
    refine .gS rfl rfl rfl rfl rfl rfl ?_
    refine .gS rfl rfl rfl rfl rfl rfl ?_
    refine .gS rfl rfl rfl rfl rfl rfl ?_
    refine .v (pkF rfl rfl rfl) rfl rfl rfl ?_
    refine .v (mv rfl) rfl rfl rfl ?_
    refine .gS rfl rfl rfl rfl rfl rfl ?_
    refine .gS rfl rfl rfl rfl rfl rfl ?_
    refine .gS rfl rfl rfl rfl rfl rfl ?_
    refine .gS rfl rfl rfl rfl rfl rfl ?_
    refine .gS rfl rfl rfl rfl rfl rfl ?_
    refine .gS rfl rfl rfl rfl rfl rfl ?_
    refine .gS rfl rfl rfl rfl rfl rfl ?_
    refine .gS rfl rfl rfl rfl rfl rfl ?_
    refine .v (pkF rfl rfl rfl) rfl rfl rfl ?_
    refine .v (mv rfl) rfl rfl rfl ?_
    refine .gS rfl rfl rfl rfl rfl rfl ?_
    refine .gS rfl rfl rfl rfl rfl rfl ?_
    refine .gS rfl rfl rfl rfl rfl rfl ?_
    refine .gS rfl rfl rfl rfl rfl rfl ?_
    refine .gS rfl rfl rfl rfl rfl rfl ?_
    refine .gS rfl rfl rfl rfl rfl rfl ?_
    refine .gS rfl rfl rfl rfl rfl rfl ?_
    refine .gS rfl rfl rfl rfl rfl rfl ?_
    refine .gS rfl rfl rfl rfl rfl rfl ?_
    refine .gS rfl rfl rfl rfl rfl rfl ?_
    refine .gS rfl rfl rfl rfl rfl rfl ?_
    refine .gS rfl rfl rfl rfl rfl rfl ?_
    refine .gS rfl rfl rfl rfl rfl rfl ?_
    refine .gS rfl rfl rfl rfl rfl rfl ?_
    refine .gS rfl rfl rfl rfl rfl rfl ?_
    refine .gS rfl rfl rfl rfl rfl rfl ?_
    refine .gS rfl rfl rfl rfl rfl rfl ?_
    refine .v (pkF rfl rfl rfl) rfl rfl rfl ?_
    refine .v (mv rfl) rfl rfl rfl ?_
    refine .gS rfl rfl rfl rfl rfl rfl ?_
    refine .v (pkF rfl rfl rfl) rfl rfl rfl ?_
    refine .v (asg rfl) rfl rfl rfl ?_
    refine .fin ?_
    refine .seqN ?_
    refine .ret ?_
    refine .res1 rfl (rvT rfl) (fun w' S => ⟨false, hF, rfl, S.below⟩)
  refine .region ?_
  refine .v (fa rfl tF27_0) rfl rfl rfl ?_
  refine .v (ld1 rfl tO3 (cellB (off := 0) (k := 0) rfl rfl)) rfl rfl rfl ?_
  refine .v (bi rfl rfl rfl) rfl rfl rfl ?_
  refine .v (mv rfl) rfl rfl rfl ?_
  rcases Bool.eq_false_or_eq_true (r2.2.code != 0) with q45 | q45
  · replace hF := hF.1 q45
    refine .gS rfl rfl rfl q45 rfl rfl ?_
    refine .gS rfl rfl rfl q45 rfl rfl ?_
    refine .v (pkT rfl q45 rfl) rfl rfl rfl ?_
    refine .v (mv rfl) rfl rfl rfl ?_
    refine .gS rfl rfl rfl rfl rfl rfl ?_
    refine .gS rfl rfl rfl rfl rfl rfl ?_
    refine .gS rfl rfl rfl rfl rfl rfl ?_
    refine .gS rfl rfl rfl rfl rfl rfl ?_
    refine .gS rfl rfl rfl rfl rfl rfl ?_
    refine .gS rfl rfl rfl rfl rfl rfl ?_
    refine .v (pkT rfl rfl rfl) rfl rfl rfl ?_
    refine .v (mv rfl) rfl rfl rfl ?_
    refine .gS rfl rfl rfl rfl rfl rfl ?_
    refine .gS rfl rfl rfl rfl rfl rfl ?_
    refine .gS rfl rfl rfl rfl rfl rfl ?_
    refine .gS rfl rfl rfl rfl rfl rfl ?_
    refine .gS rfl rfl rfl rfl rfl rfl ?_
    refine .gS rfl rfl rfl rfl rfl rfl ?_
    refine .v (pkT rfl rfl rfl) rfl rfl rfl ?_
    refine .nil ?_
    refine .sel0 [1] (by decide) rfl ?_
    exact .use q11 true hF (.cons rfl (.cons rfl (.cons rfl (.cons rfl (.cons rfl (.nil)))))) rfl (FH.le_refl _)
  replace hF := hF.2 q45
  refine .gv (mv rfl) rfl rfl rfl q45 rfl rfl ?_
  refine .gv (nt rfl) rfl rfl rfl q45 rfl rfl ?_
  refine .v (pkF rfl q45 rfl) rfl rfl rfl ?_
  refine .v (mv rfl) rfl rfl rfl ?_
  rcases Bool.eq_false_or_eq_true (!r2.1) with q46 | q46
  · replace hF := hF.1 q46
    refine .gS rfl rfl rfl q46 rfl rfl ?_
    refine .gS rfl rfl rfl q46 rfl rfl ?_
    refine .gS rfl rfl rfl q46 rfl rfl ?_
    refine .gS rfl rfl rfl q46 rfl rfl ?_
    refine .gS rfl rfl rfl q46 rfl rfl ?_
    refine .gS rfl rfl rfl q46 rfl rfl ?_
    refine .v (pkT rfl q46 rfl) rfl rfl rfl ?_
    refine .v (mv rfl) rfl rfl rfl ?_
    refine .gS rfl rfl rfl rfl rfl rfl ?_
    refine .gS rfl rfl rfl rfl rfl rfl ?_
    refine .gS rfl rfl rfl rfl rfl rfl ?_
    refine .gS rfl rfl rfl rfl rfl rfl ?_
    refine .gS rfl rfl rfl rfl rfl rfl ?_
    refine .gS rfl rfl rfl rfl rfl rfl ?_
    refine .v (pkT rfl rfl rfl) rfl rfl rfl ?_
    refine .nil ?_
    refine .sel0 [1] (by decide) rfl ?_
    exact .use q11 true hF (.cons rfl (.cons rfl (.cons rfl (.cons rfl (.cons rfl (.nil)))))) rfl (FH.le_refl _)
  replace hF := hF.2 q46
  refine .gv (mv rfl) rfl rfl rfl q46 rfl rfl ?_
  refine .gv (fa rfl tF24_0) rfl rfl rfl q46 rfl rfl ?_
  refine .gv (ld1 rfl tO3 (cellB (off := 0) (k := 1) rfl rfl)) rfl rfl rfl q46 rfl rfl ?_
  refine .gv (bi rfl rfl rfl) rfl rfl rfl q46 rfl rfl ?_
  obtain ⟨r6, q47⟩ : ∃ y_ : Bool, y_ = sp_in_ i 0 (IntKind.i64.wrap (n_.events - 1)) := ⟨_, rfl⟩
  replace hF := hF r6 q47
  refine .gc (cl (v := .bool r6) Try.call16 rfl rfl (fun w S => (by rw [q47]; exact c_in_ S.sub i 0 (IntKind.i64.wrap (n_.events - 1)) ))) rfl rfl rfl q46 rfl rfl ?_
  refine .gv (nt rfl) rfl rfl rfl q46 rfl rfl ?_
  refine .v (pkF rfl q46 rfl) rfl rfl rfl ?_
  refine .v (mv rfl) rfl rfl rfl ?_
  rcases Bool.eq_false_or_eq_true (!r6) with q48 | q48
  · replace hF := hF.1 q48
    refine .gS rfl rfl rfl q48 rfl rfl ?_
    refine .gS rfl rfl rfl q48 rfl rfl ?_
    refine .gS rfl rfl rfl q48 rfl rfl ?_
    refine .gS rfl rfl rfl q48 rfl rfl ?_
    refine .gS rfl rfl rfl q48 rfl rfl ?_
    refine .gS rfl rfl rfl q48 rfl rfl ?_
    refine .v (pkT rfl q48 rfl) rfl rfl rfl ?_
    refine .nil ?_
    refine .sel0 [1] (by decide) rfl ?_
    exact .use q11 true hF (.cons rfl (.cons rfl (.cons rfl (.cons rfl (.cons rfl (.nil)))))) rfl (FH.le_refl _)
  replace hF := hF.2 q48
  refine .gv (mv rfl) rfl rfl rfl q48 rfl rfl ?_
  refine .gv (fa rfl tF24_0) rfl rfl rfl q48 rfl rfl ?_
  refine .gv (ld1 rfl tO3 (cellB (off := 0) (k := 1) rfl rfl)) rfl rfl rfl q48 rfl rfl ?_
  refine .gv (bi rfl rfl rfl) rfl rfl rfl q48 rfl rfl ?_
  obtain ⟨r7, q49⟩ : ∃ y_ : Bool, y_ = sp_in_ j 0 (IntKind.i64.wrap (n_.events - 1)) := ⟨_, rfl⟩
  replace hF := hF r7 q49
  refine .gc (cl (v := .bool r7) Try.call16 rfl rfl (fun w S => (by rw [q49]; exact c_in_ S.sub j 0 (IntKind.i64.wrap (n_.events - 1)) ))) rfl rfl rfl q48 rfl rfl ?_
  refine .gv (nt rfl) rfl rfl rfl q48 rfl rfl ?_
  refine .v (pkF rfl q48 rfl) rfl rfl rfl ?_
  refine .nil ?_
  refine .sel0 [1] (by decide) rfl ?_
  exact .use q11 (!r7) hF (.cons rfl (.cons rfl (.cons rfl (.cons rfl (.cons rfl (.nil)))))) rfl (FH.le_refl _)

theorem c_lawBoundsHold {h : FH} {w : World} (hs : Sub h w) (n_ : Network) (an_ : Option Addr) (cn_ : Nat) (_q1 : RSl h an_ n_.links) (_q2 : n_.links.length ≤ cn_) (times : List Int) (atimes : Option Addr) (ctimes : Nat) (_q3 : RSl h atimes times) (_q4 : times.length ≤ ctimes) (i : Int) (j : Int) : Calls Try.prog 5 #[.agg #[.int .i64 n_.events, .slice an_ n_.links.length cn_], .slice atimes times.length ctimes, .int .i64 i, .int .i64 j] w fun e w' => e = .returned (.bool (sp_lawBoundsHold n_ times i j)) ∧ Below w.heap.size w w' :=
  (w_lawBoundsHold hs n_ an_ cn_ _q1 _q2 times atimes ctimes _q3 _q4 i j (fun r => r = sp_lawBoundsHold n_ times i j) (ok_lawBoundsHold n_ times i j)).mono fun _ _ ⟨_, hk, he, hb⟩ => ⟨by rw [he, hk], hb⟩

theorem w_lawEarliestIsLeast {h : FH} {w : World} (hs : Sub h w) (n_ : Network) (an_ : Option Addr) (cn_ : Nat) (_q1 : RSl h an_ n_.links) (_q2 : n_.links.length ≤ cn_) (times : List Int) (atimes : Option Addr) (ctimes : Nat) (_q3 : RSl h atimes times) (_q4 : times.length ≤ ctimes) (K : Bool → Prop) (hF : F_lawEarliestIsLeast n_ times K) : Calls Try.prog 6 #[.agg #[.int .i64 n_.events, .slice an_ n_.links.length cn_], .slice atimes times.length ctimes] w fun e w' => ∃ r : Bool, K r ∧ e = .returned (.bool r) ∧ Below w.heap.size w w' := by
  refine enter (args := [.agg #[.int .i64 n_.events, .slice an_ n_.links.length cn_], .slice atimes times.length ctimes]) Try.func6 rfl Try.ntmps6 rfl hs ?_
  refine .seq ?_
  refine .region ?_
  refine bx (vs := [.int .i64 n_.events, .slice an_ n_.links.length cn_]) rfl rfl rfl (fun pn => ?_)
  refine .v (asg rfl) rfl rfl rfl ?_
  refine .nil ?_
  refine .seqN ?_
  refine .seq ?_
  refine .region ?_
  refine .v (ldA (cs := [.int .i64 n_.events, .slice an_ n_.links.length cn_]) rfl tA24 rfl (cellsB (off := 0) (k := 0) rfl (m := 2) rfl)) rfl rfl rfl ?_
  refine .v (mv rfl) rfl rfl rfl ?_
  obtain ⟨r2, q5⟩ : ∃ y_ : Bool × Fault, y_ = sp_respects n_ times := ⟨_, rfl⟩
  replace hF := hF r2 q5
  refine .c (cl (v := .tuple #[.bool r2.1, .agg #[.int .i64 r2.2.code, .int .i64 r2.2.index]]) Try.call18 rfl rfl (fun w S => (by rw [q5]; exact c_respects S.sub n_ an_ cn_ _q1 _q2 times atimes ctimes _q3 _q4 ))) rfl rfl rfl ?_
  refine .v (mv rfl) rfl rfl rfl ?_
  refine .v (ext rfl rfl) rfl rfl rfl ?_
  refine .v (ext rfl rfl) rfl rfl rfl ?_
  refine al tZ27 rfl (fun pf => ?_)
  refine .v (asg rfl) rfl rfl rfl ?_
  refine st (p := pf) (off := 0) (k := 0) (vs := [.int .i64 r2.2.code, .int .i64 r2.2.index]) rfl rfl rfl (fun w => (tA27 w).2) rfl rfl rfl rfl ?_
  refine .cast (A' := [Box pf [.int .i64 r2.2.code, .int .i64 r2.2.index], Box pn [.int .i64 n_.events, .slice an_ n_.links.length cn_]]) rfl ?_
  refine .nil ?_
  refine .seqN ?_
  refine .seq ?_
  refine .share (σ := Bool) (fun z => F_lawEarliestIsLeast_J1 n_ times K z) (fun z => [(1, .slice atimes times.length ctimes), (2, .pointer (some pn)), (23, .bool z)]) (fun _ => [Box pn [.int .i64 n_.events, .slice an_ n_.links.length cn_]]) (fun _ => h) ?_ (fun q7 => ?_)
  · rintro t23 hF
    show J _ _ _ _ _ [(1, .slice atimes times.length ctimes), (2, .pointer (some pn)), (23, .bool t23)] [Box pn [.int .i64 n_.events, .slice an_ n_.links.length cn_]] h
    refine .cond rfl (fun q8 => ?_) (fun q8 => ?_)
    · replace hF := hF.1 q8
      refine .seq ?_
      refine .region ?_
      obtain ⟨r3, q9⟩ : ∃ y_ : Bool, y_ = sp_bounded := ⟨_, rfl⟩
      replace hF := hF r3 q9
      refine .c (cl (v := .bool r3) Try.call17 rfl rfl (fun w S => (by rw [q9]; exact c_bounded S.sub  ))) rfl rfl rfl ?_
      refine .v (asg rfl) rfl rfl rfl ?_
      refine .nil ?_
      refine .seqN ?_
      refine .ret ?_
      refine .seqR ?_
      refine .res1 rfl (rvT rfl) (fun w' S => ⟨r3, hF, rfl, S.below⟩)
    replace hF := hF.2 q8
    refine .skip ?_
    refine .seqN ?_
    refine .seq ?_
    refine .region ?_
    refine .v (ldA (cs := [.int .i64 n_.events, .slice an_ n_.links.length cn_]) rfl tA24 rfl (cellsB (off := 0) (k := 0) rfl (m := 2) rfl)) rfl rfl rfl ?_
    obtain ⟨r4, q10⟩ : ∃ y_ : List Int × Bool × Fault, y_ = sp_earliest n_ := ⟨_, rfl⟩
    replace hF := hF r4 q10
    refine clR (α := Option Addr × Nat) (Φ := fun h1 z => RSl h1 z.1 r4.1 ∧ r4.1.length ≤ z.2) (V := fun z => .tuple #[.slice z.1 r4.1.length z.2, .bool r4.2.1, .agg #[.int .i64 r4.2.2.code, .int .i64 r4.2.2.index]]) Try.call19 rfl rfl (fun w S => (by rw [q10]; exact c_earliest S.sub n_ an_ cn_ _q1 _q2 )) rfl (fun z h1 le1 hz => ?_)
    obtain ⟨a, c⟩ := z
    obtain ⟨q11, q12⟩ := hz
    refine .v (mv rfl) rfl rfl rfl ?_
    refine .v (ext rfl rfl) rfl rfl rfl ?_
    refine .v (ext rfl rfl) rfl rfl rfl ?_
    refine .v (ext rfl rfl) rfl rfl rfl ?_
    refine al tZ27 rfl (fun pg => ?_)
    refine .v (asg rfl) rfl rfl rfl ?_
    refine .v (asg rfl) rfl rfl rfl ?_
    refine st (p := pg) (off := 0) (k := 0) (vs := [.int .i64 r4.2.2.code, .int .i64 r4.2.2.index]) rfl rfl rfl (fun w => (tA27 w).2) rfl rfl rfl rfl ?_
    refine .cast (A' := [Box pg [.int .i64 r4.2.2.code, .int .i64 r4.2.2.index], Box pn [.int .i64 n_.events, .slice an_ n_.links.length cn_]]) rfl ?_
    refine .nil ?_
    refine .seqN ?_
    refine .seq ?_
    refine .share (σ := Bool) (fun z => F_lawEarliestIsLeast_J2 times K r4 z) (fun z => [(1, .slice atimes times.length ctimes), (7, .slice a r4.1.length c), (44, .bool z)]) (fun _ => []) (fun _ => h1) ?_ (fun q15 => ?_)
    · rintro t44 hF
      show J _ _ _ _ _ [(1, .slice atimes times.length ctimes), (7, .slice a r4.1.length c), (44, .bool t44)] [] h1
      refine .cond rfl (fun q16 => ?_) (fun q16 => ?_)
      · replace hF := hF.1 q16
        refine .seq ?_
        refine .region ?_
        refine .v (asg rfl) rfl rfl rfl ?_
        refine .nil ?_
        refine .seqN ?_
        refine .ret ?_
        refine .seqR ?_
        refine .res1 rfl (rvT rfl) (fun w' S => ⟨false, hF, rfl, S.below⟩)
      replace hF := hF.2 q16
      refine .skip ?_
      refine .seqN ?_
      refine .seq ?_
      refine .seq ?_
      refine .region ?_
      refine .v (asg rfl) rfl rfl rfl ?_
      refine .nil ?_
      refine .seqN ?_
      refine .block ?_
      obtain ⟨I1, μ1, q31, q32⟩ := hF
      refine .loop' (σ := Int) (fun z => I1 z) (fun z => μ1 z) (fun z => [(1, .slice atimes times.length ctimes), (7, .slice a r4.1.length c), (10, .int .i64 z)]) (fun _ => []) (fun _ => h1) 0 q31 (.cons rfl (.cons rfl (.cons rfl (.nil)))) rfl (FH.le_refl _) ?_
      rintro i q31
      have hF := q32 i q31
      show J _ _ _ _ _ [(1, .slice atimes times.length ctimes), (7, .slice a r4.1.length c), (10, .int .i64 i)] [] h1
      refine .seq ?_
      refine .seq ?_
      refine .region ?_
      refine .v (mv rfl) rfl rfl rfl ?_
      refine .v (mv rfl) rfl rfl rfl ?_
      refine .v (ln rfl tS32.is) rfl rfl rfl ?_
      refine .v (bi rfl rfl rfl) rfl rfl rfl ?_
      refine .nil ?_
      refine .seqN ?_
      refine .cond rfl (fun q33 => ?_) (fun q33 => ?_)
      · replace hF := hF.1 q33
        refine .skip ?_
        refine .seqN ?_
        refine .seq ?_
        refine .block ?_
        refine .seq ?_
        refine .open_ (by kernel_rfl) (by kernel_rfl) ?_
        refine .v (mv rfl) rfl rfl rfl ?_
        refine .v (mv rfl) rfl rfl rfl ?_
        obtain ⟨q37, hF⟩ := hF
        refine .v (ix rfl rfl tS32 (q11.ne (by decide) (inb_pos q37)) q37) rfl rfl rfl ?_
        refine .v (ld1 (v := .int .i64 (gt r4.1 i)) rfl tO3 (cellH (q11.elemF q37 (by decide) 0 _ rfl))) rfl rfl rfl ?_
        refine .v (mv rfl) rfl rfl rfl ?_
        refine .v (mv rfl) rfl rfl rfl ?_
        obtain ⟨q38, hF⟩ := hF
        refine .v (ix rfl rfl tS32 (_q3.ne (by decide) (inb_pos q38)) q38) rfl rfl rfl ?_
        refine .v (ld1 (v := .int .i64 (gt times i)) rfl tO3 (cellH ((_q3.mono (le1)).elemF q38 (by decide) 0 _ rfl))) rfl rfl rfl ?_
        refine .v (bi rfl rfl rfl) rfl rfl rfl ?_
        refine .fin ?_
        refine .seqN ?_
        refine .cond rfl (fun q39 => ?_) (fun q39 => ?_)
        · replace hF := hF.1 q39
          refine .seq ?_
          refine .region ?_
          refine .v (asg rfl) rfl rfl rfl ?_
          refine .nil ?_
          refine .seqN ?_
          refine .ret ?_
          refine .blkR ?_
          refine .seqR ?_
          refine .seqR ?_
          refine .blkR ?_
          refine .seqR ?_
          refine .res1 rfl (rvT rfl) (fun w' S => ⟨false, hF, rfl, S.below⟩)
        replace hF := hF.2 q39
        refine .skip ?_
        refine .blkN ?_
        refine .seqN ?_
        refine .region ?_
        refine .v (mv rfl) rfl rfl rfl ?_
        refine .v (bi rfl rfl rfl) rfl rfl rfl ?_
        refine .v (asg rfl) rfl rfl rfl ?_
        refine .nil ?_
        exact .round (IntKind.i64.wrap (i + 1)) hF.1 hF.2 (.cons rfl (.cons rfl (.cons rfl (.nil)))) rfl (FH.le_refl _)
      replace hF := hF.2 q33
      refine .exit ?_
      refine .seqX ?_
      refine .seqX ?_
      refine .blkX ?_
      refine .seqN ?_
      refine .seq ?_
      refine .region ?_
      obtain ⟨r5, q40⟩ : ∃ y_ : Bool, y_ = sp_bounded := ⟨_, rfl⟩
      replace hF := hF r5 q40
      refine .c (cl (v := .bool r5) Try.call17 rfl rfl (fun w S => (by rw [q40]; exact c_bounded S.sub  ))) rfl rfl rfl ?_
      refine .v (asg rfl) rfl rfl rfl ?_
      refine .nil ?_
      refine .seqN ?_
      refine .ret ?_
      refine .res1 rfl (rvT rfl) (fun w' S => ⟨r5, hF, rfl, S.below⟩)
    refine .region ?_
    refine .v (fa rfl tF27_0) rfl rfl rfl ?_
    refine .v (ld1 rfl tO3 (cellB (off := 0) (k := 0) rfl rfl)) rfl rfl rfl ?_
    refine .v (bi rfl rfl rfl) rfl rfl rfl ?_
    refine .v (mv rfl) rfl rfl rfl ?_
    rcases Bool.eq_false_or_eq_true (r4.2.2.code != 0) with q41 | q41
    · replace hF := hF.1 q41
      refine .gS rfl rfl rfl q41 rfl rfl ?_
      refine .gS rfl rfl rfl q41 rfl rfl ?_
      refine .v (pkT rfl q41 rfl) rfl rfl rfl ?_
      refine .v (mv rfl) rfl rfl rfl ?_
      refine .gS rfl rfl rfl rfl rfl rfl ?_
      refine .gS rfl rfl rfl rfl rfl rfl ?_
      refine .gS rfl rfl rfl rfl rfl rfl ?_
      refine .gS rfl rfl rfl rfl rfl rfl ?_
      refine .gS rfl rfl rfl rfl rfl rfl ?_
      refine .v (pkT rfl rfl rfl) rfl rfl rfl ?_
      refine .nil ?_
      refine .sel0 [] (by decide) rfl ?_
      exact .use q15 true hF (.cons rfl (.cons rfl (.cons rfl (.nil)))) rfl (FH.le_refl _)
    replace hF := hF.2 q41
    refine .gv (mv rfl) rfl rfl rfl q41 rfl rfl ?_
    refine .gv (nt rfl) rfl rfl rfl q41 rfl rfl ?_
    refine .v (pkF rfl q41 rfl) rfl rfl rfl ?_
    refine .v (mv rfl) rfl rfl rfl ?_
    rcases Bool.eq_false_or_eq_true (!r4.2.1) with q42 | q42
    · replace hF := hF.1 q42
      refine .gS rfl rfl rfl q42 rfl rfl ?_
      refine .gS rfl rfl rfl q42 rfl rfl ?_
      refine .gS rfl rfl rfl q42 rfl rfl ?_
      refine .gS rfl rfl rfl q42 rfl rfl ?_
      refine .gS rfl rfl rfl q42 rfl rfl ?_
      refine .v (pkT rfl q42 rfl) rfl rfl rfl ?_
      refine .nil ?_
      refine .sel0 [] (by decide) rfl ?_
      exact .use q15 true hF (.cons rfl (.cons rfl (.cons rfl (.nil)))) rfl (FH.le_refl _)
    replace hF := hF.2 q42
    refine .gv (mv rfl) rfl rfl rfl q42 rfl rfl ?_
    refine .gv (ln rfl tS32.is) rfl rfl rfl q42 rfl rfl ?_
    refine .gv (mv rfl) rfl rfl rfl q42 rfl rfl ?_
    refine .gv (ln rfl tS32.is) rfl rfl rfl q42 rfl rfl ?_
    refine .gv (bi rfl rfl rfl) rfl rfl rfl q42 rfl rfl ?_
    refine .v (pkF rfl q42 rfl) rfl rfl rfl ?_
    refine .nil ?_
    refine .sel0 [] (by decide) rfl ?_
    exact .use q15 (((r4.1.length : Nat) : Int) != ((times.length : Nat) : Int)) hF (.cons rfl (.cons rfl (.cons rfl (.nil)))) rfl (FH.le_refl _)
  refine .region ?_
  refine .v (fa rfl tF27_0) rfl rfl rfl ?_
  refine .v (ld1 rfl tO3 (cellB (off := 0) (k := 0) rfl rfl)) rfl rfl rfl ?_
  refine .v (bi rfl rfl rfl) rfl rfl rfl ?_
  refine .v (mv rfl) rfl rfl rfl ?_
  rcases Bool.eq_false_or_eq_true (r2.2.code != 0) with q43 | q43
  · replace hF := hF.1 q43
    refine .gS rfl rfl rfl q43 rfl rfl ?_
    refine .gS rfl rfl rfl q43 rfl rfl ?_
    refine .v (pkT rfl q43 rfl) rfl rfl rfl ?_
    refine .nil ?_
    refine .sel0 [1] (by decide) rfl ?_
    exact .use q7 true hF (.cons rfl (.cons rfl (.cons rfl (.nil)))) rfl (FH.le_refl _)
  replace hF := hF.2 q43
  refine .gv (mv rfl) rfl rfl rfl q43 rfl rfl ?_
  refine .gv (nt rfl) rfl rfl rfl q43 rfl rfl ?_
  refine .v (pkF rfl q43 rfl) rfl rfl rfl ?_
  refine .nil ?_
  refine .sel0 [1] (by decide) rfl ?_
  exact .use q7 (!r2.1) hF (.cons rfl (.cons rfl (.cons rfl (.nil)))) rfl (FH.le_refl _)

theorem c_lawEarliestIsLeast {h : FH} {w : World} (hs : Sub h w) (n_ : Network) (an_ : Option Addr) (cn_ : Nat) (_q1 : RSl h an_ n_.links) (_q2 : n_.links.length ≤ cn_) (times : List Int) (atimes : Option Addr) (ctimes : Nat) (_q3 : RSl h atimes times) (_q4 : times.length ≤ ctimes) : Calls Try.prog 6 #[.agg #[.int .i64 n_.events, .slice an_ n_.links.length cn_], .slice atimes times.length ctimes] w fun e w' => e = .returned (.bool (sp_lawEarliestIsLeast n_ times)) ∧ Below w.heap.size w w' :=
  (w_lawEarliestIsLeast hs n_ an_ cn_ _q1 _q2 times atimes ctimes _q3 _q4 (fun r => r = sp_lawEarliestIsLeast n_ times) (ok_lawEarliestIsLeast n_ times)).mono fun _ _ ⟨_, hk, he, hb⟩ => ⟨by rw [he, hk], hb⟩

set_option maxHeartbeats 8000000 in
theorem w_lawMatchesSpec {h : FH} {w : World} (hs : Sub h w) (n_ : Network) (an_ : Option Addr) (cn_ : Nat) (_q1 : RSl h an_ n_.links) (_q2 : n_.links.length ≤ cn_) (times : List Int) (atimes : Option Addr) (ctimes : Nat) (_q3 : RSl h atimes times) (_q4 : times.length ≤ ctimes) (cycle : List Int) (acycle : Option Addr) (ccycle : Nat) (_q5 : RSl h acycle cycle) (_q6 : cycle.length ≤ ccycle) (K : Bool → Prop) (hF : F_lawMatchesSpec n_ times cycle K) : Calls Try.prog 7 #[.agg #[.int .i64 n_.events, .slice an_ n_.links.length cn_], .slice atimes times.length ctimes, .slice acycle cycle.length ccycle] w fun e w' => ∃ r : Bool, K r ∧ e = .returned (.bool r) ∧ Below w.heap.size w w' := by
  refine enter (args := [.agg #[.int .i64 n_.events, .slice an_ n_.links.length cn_], .slice atimes times.length ctimes, .slice acycle cycle.length ccycle]) Try.func7 rfl Try.ntmps7 rfl hs ?_
  refine .seq ?_
  refine .region ?_
  refine bx (vs := [.int .i64 n_.events, .slice an_ n_.links.length cn_]) rfl rfl rfl (fun pn => ?_)
  refine .v (asg rfl) rfl rfl rfl ?_
  refine .nil ?_
  refine .seqN ?_
  refine .seq ?_
  refine .region ?_
  refine .v (ldA (cs := [.int .i64 n_.events, .slice an_ n_.links.length cn_]) rfl tA24 rfl (cellsB (off := 0) (k := 0) rfl (m := 2) rfl)) rfl rfl rfl ?_
  obtain ⟨r2, q7⟩ : ∃ y_ : Fault, y_ = sp_validate n_ := ⟨_, rfl⟩
  replace hF := hF r2 q7
  refine .c (cl (v := .agg #[.int .i64 r2.code, .int .i64 r2.index]) Try.call20 rfl rfl (fun w S => (by rw [q7]; exact c_networkFault S.sub n_ an_ cn_ _q1 _q2 ))) rfl rfl rfl ?_
  refine al tZ27 rfl (fun pe => ?_)
  refine st (p := pe) (off := 0) (k := 0) (vs := [.int .i64 r2.code, .int .i64 r2.index]) rfl rfl rfl (fun w => (tA27 w).2) rfl rfl rfl rfl ?_
  refine .cast (A' := [Box pe [.int .i64 r2.code, .int .i64 r2.index], Box pn [.int .i64 n_.events, .slice an_ n_.links.length cn_]]) rfl ?_
  refine .nil ?_
  refine .seqN ?_
  refine .seq ?_
  refine .region ?_
  refine .v (ldA (cs := [.int .i64 n_.events, .slice an_ n_.links.length cn_]) rfl tA24 rfl (cellsB (off := 0) (k := 1) rfl (m := 2) rfl)) rfl rfl rfl ?_
  obtain ⟨r3, q8⟩ : ∃ y_ : List (List Int) × Bool × Fault, y_ = sp_minimal n_ := ⟨_, rfl⟩
  replace hF := hF r3 q8
  refine clR (α := Option Addr × Nat) (Φ := fun h1 z => RSl h1 z.1 r3.1 ∧ r3.1.length ≤ z.2) (V := fun z => .tuple #[.slice z.1 r3.1.length z.2, .bool r3.2.1, .agg #[.int .i64 r3.2.2.code, .int .i64 r3.2.2.index]]) Try.call15 rfl rfl (fun w S => (by rw [q8]; exact c_minimal S.sub n_ an_ cn_ _q1 _q2 )) rfl (fun z h1 le1 hz => ?_)
  obtain ⟨a, c⟩ := z
  obtain ⟨q9, q10⟩ := hz
  refine .v (mv rfl) rfl rfl rfl ?_
  refine .v (ext rfl rfl) rfl rfl rfl ?_
  refine .v (ext rfl rfl) rfl rfl rfl ?_
  refine .v (ext rfl rfl) rfl rfl rfl ?_
  refine al tZ27 rfl (fun pf => ?_)
  refine .v (asg rfl) rfl rfl rfl ?_
  refine .v (asg rfl) rfl rfl rfl ?_
  refine st (p := pf) (off := 0) (k := 0) (vs := [.int .i64 r3.2.2.code, .int .i64 r3.2.2.index]) rfl rfl rfl (fun w => (tA27 w).2) rfl rfl rfl rfl ?_
  refine .cast (A' := [Box pf [.int .i64 r3.2.2.code, .int .i64 r3.2.2.index], Box pe [.int .i64 r2.code, .int .i64 r2.index], Box pn [.int .i64 n_.events, .slice an_ n_.links.length cn_]]) rfl ?_
  refine .nil ?_
  refine .seqN ?_
  refine .seq ?_
  refine .region ?_
  refine .v (ldA (cs := [.int .i64 n_.events, .slice an_ n_.links.length cn_]) rfl tA24 rfl (cellsB (off := 0) (k := 2) rfl (m := 2) rfl)) rfl rfl rfl ?_
  obtain ⟨r4, q11⟩ : ∃ y_ : List Int × Bool × Fault, y_ = sp_earliest n_ := ⟨_, rfl⟩
  replace hF := hF r4 q11
  refine clR (α := Option Addr × Nat) (Φ := fun h1 z => RSl h1 z.1 r4.1 ∧ r4.1.length ≤ z.2) (V := fun z => .tuple #[.slice z.1 r4.1.length z.2, .bool r4.2.1, .agg #[.int .i64 r4.2.2.code, .int .i64 r4.2.2.index]]) Try.call19 rfl rfl (fun w S => (by rw [q11]; exact c_earliest S.sub n_ an_ cn_ (_q1.mono (le1)) _q2 )) rfl (fun z h2 le2 hz => ?_)
  obtain ⟨a2, c2⟩ := z
  obtain ⟨q12, q13⟩ := hz
  refine .v (mv rfl) rfl rfl rfl ?_
  refine .v (ext rfl rfl) rfl rfl rfl ?_
  refine .v (ext rfl rfl) rfl rfl rfl ?_
  refine .v (ext rfl rfl) rfl rfl rfl ?_
  refine al tZ27 rfl (fun pg => ?_)
  refine .v (asg rfl) rfl rfl rfl ?_
  refine .v (asg rfl) rfl rfl rfl ?_
  refine st (p := pg) (off := 0) (k := 0) (vs := [.int .i64 r4.2.2.code, .int .i64 r4.2.2.index]) rfl rfl rfl (fun w => (tA27 w).2) rfl rfl rfl rfl ?_
  refine .cast (A' := [Box pg [.int .i64 r4.2.2.code, .int .i64 r4.2.2.index], Box pf [.int .i64 r3.2.2.code, .int .i64 r3.2.2.index], Box pe [.int .i64 r2.code, .int .i64 r2.index], Box pn [.int .i64 n_.events, .slice an_ n_.links.length cn_]]) rfl ?_
  refine .nil ?_
  refine .seqN ?_
  refine .seq ?_
  refine .region ?_
  refine .v (ldA (cs := [.int .i64 n_.events, .slice an_ n_.links.length cn_]) rfl tA24 rfl (cellsB (off := 0) (k := 3) rfl (m := 2) rfl)) rfl rfl rfl ?_
  refine .v (mv rfl) rfl rfl rfl ?_
  obtain ⟨r5, q14⟩ : ∃ y_ : Bool × Fault, y_ = sp_respects n_ times := ⟨_, rfl⟩
  replace hF := hF r5 q14
  refine .c (cl (v := .tuple #[.bool r5.1, .agg #[.int .i64 r5.2.code, .int .i64 r5.2.index]]) Try.call18 rfl rfl (fun w S => (by rw [q14]; exact c_respects S.sub n_ an_ cn_ (_q1.mono (FH.le_trans (le1) (le2))) _q2 times atimes ctimes (_q3.mono (FH.le_trans (le1) (le2))) _q4 ))) rfl rfl rfl ?_
  refine .v (mv rfl) rfl rfl rfl ?_
  refine .v (ext rfl rfl) rfl rfl rfl ?_
  refine .v (ext rfl rfl) rfl rfl rfl ?_
  refine al tZ27 rfl (fun ph => ?_)
  refine .v (asg rfl) rfl rfl rfl ?_
  refine st (p := ph) (off := 0) (k := 0) (vs := [.int .i64 r5.2.code, .int .i64 r5.2.index]) rfl rfl rfl (fun w => (tA27 w).2) rfl rfl rfl rfl ?_
  refine .cast (A' := [Box ph [.int .i64 r5.2.code, .int .i64 r5.2.index], Box pg [.int .i64 r4.2.2.code, .int .i64 r4.2.2.index], Box pf [.int .i64 r3.2.2.code, .int .i64 r3.2.2.index], Box pe [.int .i64 r2.code, .int .i64 r2.index], Box pn [.int .i64 n_.events, .slice an_ n_.links.length cn_]]) rfl ?_
  refine .nil ?_
  refine .seqN ?_
  refine .seq ?_
  refine .region ?_
  refine .v (ldA (cs := [.int .i64 n_.events, .slice an_ n_.links.length cn_]) rfl tA24 rfl (cellsB (off := 0) (k := 4) rfl (m := 2) rfl)) rfl rfl rfl ?_
  refine .v (mv rfl) rfl rfl rfl ?_
  obtain ⟨r6, q15⟩ : ∃ y_ : Bool × Fault, y_ = sp_negative n_ cycle := ⟨_, rfl⟩
  replace hF := hF r6 q15
  refine .c (cl (v := .tuple #[.bool r6.1, .agg #[.int .i64 r6.2.code, .int .i64 r6.2.index]]) Try.call21 rfl rfl (fun w S => (by rw [q15]; exact c_negative S.sub n_ an_ cn_ (_q1.mono (FH.le_trans (le1) (le2))) _q2 cycle acycle ccycle (_q5.mono (FH.le_trans (le1) (le2))) _q6 ))) rfl rfl rfl ?_
  refine .v (mv rfl) rfl rfl rfl ?_
  refine .v (ext rfl rfl) rfl rfl rfl ?_
  refine .v (ext rfl rfl) rfl rfl rfl ?_
  refine al tZ27 rfl (fun pi => ?_)
  refine .v (asg rfl) rfl rfl rfl ?_
  refine st (p := pi) (off := 0) (k := 0) (vs := [.int .i64 r6.2.code, .int .i64 r6.2.index]) rfl rfl rfl (fun w => (tA27 w).2) rfl rfl rfl rfl ?_
  refine .cast (A' := [Box pi [.int .i64 r6.2.code, .int .i64 r6.2.index], Box ph [.int .i64 r5.2.code, .int .i64 r5.2.index], Box pg [.int .i64 r4.2.2.code, .int .i64 r4.2.2.index], Box pf [.int .i64 r3.2.2.code, .int .i64 r3.2.2.index], Box pe [.int .i64 r2.code, .int .i64 r2.index], Box pn [.int .i64 n_.events, .slice an_ n_.links.length cn_]]) rfl ?_
  refine .nil ?_
  refine .seqN ?_
  refine .seq ?_
  refine .share (σ := Bool) (fun z => F_lawMatchesSpec_J1 n_ times cycle K r2 r3 r4 r5 r6 z) (fun z => [(1, .slice atimes times.length ctimes), (2, .slice acycle cycle.length ccycle), (3, .pointer (some pn)), (7, .pointer (some pe)), (8, .slice a r3.1.length c), (9, .bool r3.2.1), (11, .slice a2 r4.1.length c2), (12, .bool r4.2.1), (14, .bool r5.1), (15, .pointer (some ph)), (16, .bool r6.1), (17, .pointer (some pi)), (65, .bool z)]) (fun _ => [Box pn [.int .i64 n_.events, .slice an_ n_.links.length cn_], Box pe [.int .i64 r2.code, .int .i64 r2.index], Box ph [.int .i64 r5.2.code, .int .i64 r5.2.index], Box pi [.int .i64 r6.2.code, .int .i64 r6.2.index]]) (fun _ => h2) ?_ (fun q19 => ?_)
  · rintro t65 hF
    show J _ _ _ _ _ [(1, .slice atimes times.length ctimes), (2, .slice acycle cycle.length ccycle), (3, .pointer (some pn)), (7, .pointer (some pe)), (8, .slice a r3.1.length c), (9, .bool r3.2.1), (11, .slice a2 r4.1.length c2), (12, .bool r4.2.1), (14, .bool r5.1), (15, .pointer (some ph)), (16, .bool r6.1), (17, .pointer (some pi)), (65, .bool t65)] [Box pn [.int .i64 n_.events, .slice an_ n_.links.length cn_], Box pe [.int .i64 r2.code, .int .i64 r2.index], Box ph [.int .i64 r5.2.code, .int .i64 r5.2.index], Box pi [.int .i64 r6.2.code, .int .i64 r6.2.index]] h2
    refine .cond rfl (fun q21 => ?_) (fun q21 => ?_)
    · replace hF := hF.1 q21
      refine .seq ?_
      refine .region ?_
      refine .v (asg rfl) rfl rfl rfl ?_
      refine .nil ?_
      refine .seqN ?_
      refine .ret ?_
      refine .seqR ?_
      refine .res1 rfl (rvT rfl) (fun w' S => ⟨false, hF, rfl, S.below⟩)
    replace hF := hF.2 q21
    refine .skip ?_
    refine .seqN ?_
    refine .seq ?_
    refine .seq ?_
    refine .region ?_
    refine .v (fa rfl tF27_0) rfl rfl rfl ?_
    refine .v (ld1 rfl tO3 (cellB (off := 0) (k := 1) rfl rfl)) rfl rfl rfl ?_
    refine .v (bi rfl rfl rfl) rfl rfl rfl ?_
    refine .nil ?_
    refine .seqN ?_
    refine .cond rfl (fun q41 => ?_) (fun q41 => ?_)
    · replace hF := hF.1 q41
      refine .seq ?_
      refine .region ?_
      refine .v (mv rfl) rfl rfl rfl ?_
      refine .v (nt rfl) rfl rfl rfl ?_
      refine .v (mv rfl) rfl rfl rfl ?_
      rcases Bool.eq_false_or_eq_true (!r3.2.1) with q51 | q51
      · replace hF := hF.1 q51
        refine .gv (mv rfl) rfl rfl rfl q51 rfl rfl ?_
        refine .gv (nt rfl) rfl rfl rfl q51 rfl rfl ?_
        refine .v (pkT rfl q51 rfl) rfl rfl rfl ?_
        refine .v (mv rfl) rfl rfl rfl ?_
        rcases Bool.eq_false_or_eq_true (!r4.2.1) with q52 | q52
        · replace hF := hF.1 q52
          refine .gv (mv rfl) rfl rfl rfl q52 rfl rfl ?_
          refine .gv (nt rfl) rfl rfl rfl q52 rfl rfl ?_
          refine .v (pkT rfl q52 rfl) rfl rfl rfl ?_
          refine .v (mv rfl) rfl rfl rfl ?_
          rcases Bool.eq_false_or_eq_true (!r5.1) with q53 | q53
          · replace hF := hF.1 q53
            refine .gv (mv rfl) rfl rfl rfl q53 rfl rfl ?_
            refine .gv (nt rfl) rfl rfl rfl q53 rfl rfl ?_
            refine .v (pkT rfl q53 rfl) rfl rfl rfl ?_
            refine .v (mv rfl) rfl rfl rfl ?_
            rcases Bool.eq_false_or_eq_true (!r6.1) with q54 | q54
            · replace hF := hF.1 q54
              refine .gv (ldA (cs := [.int .i64 r5.2.code, .int .i64 r5.2.index]) rfl tA27 rfl (cellsB (off := 0) (k := 2) rfl (m := 2) rfl)) rfl rfl rfl q54 rfl rfl ?_
              refine .gv (ldA (cs := [.int .i64 r2.code, .int .i64 r2.index]) rfl tA27 rfl (cellsB (off := 0) (k := 1) rfl (m := 2) rfl)) rfl rfl rfl q54 rfl rfl ?_
              refine .gv (eq2 tE27 rfl rfl) rfl rfl rfl q54 rfl rfl ?_
              refine .v (pkT rfl q54 rfl) rfl rfl rfl ?_
              refine .v (mv rfl) rfl rfl rfl ?_
              rcases Bool.eq_false_or_eq_true ((r5.2.code == r2.code) && (r5.2.index == r2.index)) with q55 | q55
              · replace hF := hF.1 q55
                refine .gv (ldA (cs := [.int .i64 r6.2.code, .int .i64 r6.2.index]) rfl tA27 rfl (cellsB (off := 0) (k := 3) rfl (m := 2) rfl)) rfl rfl rfl q55 rfl rfl ?_
                refine .gv (ldA (cs := [.int .i64 r2.code, .int .i64 r2.index]) rfl tA27 rfl (cellsB (off := 0) (k := 1) rfl (m := 2) rfl)) rfl rfl rfl q55 rfl rfl ?_
                refine .gv (eq2 tE27 rfl rfl) rfl rfl rfl q55 rfl rfl ?_
                refine .v (pkT rfl q55 rfl) rfl rfl rfl ?_
                refine .v (mv rfl) rfl rfl rfl ?_
                rcases Bool.eq_false_or_eq_true ((r6.2.code == r2.code) && (r6.2.index == r2.index)) with q56 | q56
                · replace hF := hF.1 q56
                  refine .gv (mv rfl) rfl rfl rfl q56 rfl rfl ?_
                  refine .gv (ln rfl tS25.is) rfl rfl rfl q56 rfl rfl ?_
                  refine .gv (mv rfl) rfl rfl rfl q56 rfl rfl ?_
                  refine .gv (ln rfl tS32.is) rfl rfl rfl q56 rfl rfl ?_
                  obtain ⟨x, q57⟩ : ∃ y_ : Int, y_ = (IntKind.i64.wrap (((r3.1.length : Nat) : Int) + ((r4.1.length : Nat) : Int))) := ⟨_, rfl⟩
                  replace hF := hF x q57
                  refine .gv (v := .int .i64 x) (by rw [q57]; exact bi rfl rfl rfl) rfl rfl rfl q56 rfl rfl ?_
                  refine .gv (bi rfl rfl rfl) rfl rfl rfl q56 rfl rfl ?_
                  refine .v (pkT rfl q56 rfl) rfl rfl rfl ?_
                  refine .v (mv rfl) rfl rfl rfl ?_
                  rcases Bool.eq_false_or_eq_true (x == 0) with q58 | q58
                  · replace hF := hF.1 q58
                    obtain ⟨r7, q59⟩ : ∃ y_ : Bool, y_ = sp_bounded := ⟨_, rfl⟩
                    replace hF := hF r7 q59
                    refine .gc (cl (v := .bool r7) Try.call17 rfl rfl (fun w S => (by rw [q59]; exact c_bounded S.sub  ))) rfl rfl rfl q58 rfl rfl ?_
                    refine .v (pkT rfl q58 rfl) rfl rfl rfl ?_
                    refine .v (asg rfl) rfl rfl rfl ?_
                    refine .nil ?_
                    refine .seqN ?_
                    refine .ret ?_
                    refine .seqR ?_
                    refine .res1 rfl (rvT rfl) (fun w' S => ⟨r7, hF, rfl, S.below⟩)
                  replace hF := hF.2 q58
                  refine .gS rfl rfl rfl q58 rfl rfl ?_
                  refine .v (pkF rfl q58 rfl) rfl rfl rfl ?_
                  refine .v (asg rfl) rfl rfl rfl ?_
                  refine .nil ?_
                  refine .seqN ?_
                  refine .ret ?_
                  refine .seqR ?_
                  refine .res1 rfl (rvT rfl) (fun w' S => ⟨false, hF, rfl, S.below⟩)
                replace hF := hF.2 q56
                refine .gS rfl rfl rfl q56 rfl rfl ?_
                refine .gS rfl rfl rfl q56 rfl rfl ?_
                refine .gS rfl rfl rfl q56 rfl rfl ?_
                refine .gS rfl rfl rfl q56 rfl rfl ?_
                refine .gS rfl rfl rfl q56 rfl rfl ?_
                refine .gS rfl rfl rfl q56 rfl rfl ?_
                refine .v (pkF rfl q56 rfl) rfl rfl rfl ?_
                refine .v (mv rfl) rfl rfl rfl ?_
                refine .gS rfl rfl rfl rfl rfl rfl ?_
                refine .v (pkF rfl rfl rfl) rfl rfl rfl ?_
                refine .v (asg rfl) rfl rfl rfl ?_
                refine .nil ?_
                refine .seqN ?_
                refine .ret ?_
                refine .seqR ?_
                refine .res1 rfl (rvT rfl) (fun w' S => ⟨false, hF, rfl, S.below⟩)
              replace hF := hF.2 q55
              refine .gS rfl rfl rfl q55 rfl rfl ?_
              refine .gS rfl rfl rfl q55 rfl rfl ?_
              refine .gS rfl rfl rfl q55 rfl rfl ?_
              refine .v (pkF rfl q55 rfl) rfl rfl rfl ?_
              refine .v (mv rfl) rfl rfl rfl ?_
              refine .gS rfl rfl rfl rfl rfl rfl ?_
              refine .gS rfl rfl rfl rfl rfl rfl ?_
              refine .gS rfl rfl rfl rfl rfl rfl ?_
              refine .gS rfl rfl rfl rfl rfl rfl ?_
              refine .gS rfl rfl rfl rfl rfl rfl ?_
              refine .gS rfl rfl rfl rfl rfl rfl ?_
              refine .v (pkF rfl rfl rfl) rfl rfl rfl ?_
              refine .v (mv rfl) rfl rfl rfl ?_
              refine .gS rfl rfl rfl rfl rfl rfl ?_
              refine .v (pkF rfl rfl rfl) rfl rfl rfl ?_
              refine .v (asg rfl) rfl rfl rfl ?_
              refine .nil ?_
              refine .seqN ?_
              refine .ret ?_
              refine .seqR ?_
              refine .res1 rfl (rvT rfl) (fun w' S => ⟨false, hF, rfl, S.below⟩)
            replace hF := hF.2 q54
            refine .gS rfl rfl rfl q54 rfl rfl ?_
            refine .gS rfl rfl rfl q54 rfl rfl ?_
            refine .gS rfl rfl rfl q54 rfl rfl ?_
            refine .v (pkF rfl q54 rfl) rfl rfl rfl ?_
            refine .v (mv rfl) rfl rfl rfl ?_
            refine .gS rfl rfl rfl rfl rfl rfl ?_
            refine .gS rfl rfl rfl rfl rfl rfl ?_
            refine .gS rfl rfl rfl rfl rfl rfl ?_
            refine .v (pkF rfl rfl rfl) rfl rfl rfl ?_
            refine .v (mv rfl) rfl rfl rfl ?_
            refine .gS rfl rfl rfl rfl rfl rfl ?_
            refine .gS rfl rfl rfl rfl rfl rfl ?_
            refine .gS rfl rfl rfl rfl rfl rfl ?_
            refine .gS rfl rfl rfl rfl rfl rfl ?_
            refine .gS rfl rfl rfl rfl rfl rfl ?_
            refine .gS rfl rfl rfl rfl rfl rfl ?_
            refine .v (pkF rfl rfl rfl) rfl rfl rfl ?_
            refine .v (mv rfl) rfl rfl rfl ?_
            refine .gS rfl rfl rfl rfl rfl rfl ?_
            refine .v (pkF rfl rfl rfl) rfl rfl rfl ?_
            refine .v (asg rfl) rfl rfl rfl ?_
            refine .nil ?_
            refine .seqN ?_
            refine .ret ?_
            refine .seqR ?_
            refine .res1 rfl (rvT rfl) (fun w' S => ⟨false, hF, rfl, S.below⟩)
          replace hF := hF.2 q53
          refine .gS rfl rfl rfl q53 rfl rfl ?_
          refine .gS rfl rfl rfl q53 rfl rfl ?_
          refine .v (pkF rfl q53 rfl) rfl rfl rfl ?_
          refine .v (mv rfl) rfl rfl rfl ?_
          refine .gS rfl rfl rfl rfl rfl rfl ?_
          refine .gS rfl rfl rfl rfl rfl rfl ?_
          refine .gS rfl rfl rfl rfl rfl rfl ?_
          refine .v (pkF rfl rfl rfl) rfl rfl rfl ?_
          refine .v (mv rfl) rfl rfl rfl ?_
          refine .gS rfl rfl rfl rfl rfl rfl ?_
          refine .gS rfl rfl rfl rfl rfl rfl ?_
          refine .gS rfl rfl rfl rfl rfl rfl ?_
          refine .v (pkF rfl rfl rfl) rfl rfl rfl ?_
          refine .v (mv rfl) rfl rfl rfl ?_
          refine .gS rfl rfl rfl rfl rfl rfl ?_
          refine .gS rfl rfl rfl rfl rfl rfl ?_
          refine .gS rfl rfl rfl rfl rfl rfl ?_
          refine .gS rfl rfl rfl rfl rfl rfl ?_
          refine .gS rfl rfl rfl rfl rfl rfl ?_
          refine .gS rfl rfl rfl rfl rfl rfl ?_
          refine .v (pkF rfl rfl rfl) rfl rfl rfl ?_
          refine .v (mv rfl) rfl rfl rfl ?_
          refine .gS rfl rfl rfl rfl rfl rfl ?_
          refine .v (pkF rfl rfl rfl) rfl rfl rfl ?_
          refine .v (asg rfl) rfl rfl rfl ?_
          refine .nil ?_
          refine .seqN ?_
          refine .ret ?_
          refine .seqR ?_
          refine .res1 rfl (rvT rfl) (fun w' S => ⟨false, hF, rfl, S.below⟩)
        replace hF := hF.2 q52
        refine .gS rfl rfl rfl q52 rfl rfl ?_
        refine .gS rfl rfl rfl q52 rfl rfl ?_
        refine .v (pkF rfl q52 rfl) rfl rfl rfl ?_
        refine .v (mv rfl) rfl rfl rfl ?_
        refine .gS rfl rfl rfl rfl rfl rfl ?_
        refine .gS rfl rfl rfl rfl rfl rfl ?_
        refine .v (pkF rfl rfl rfl) rfl rfl rfl ?_
        refine .v (mv rfl) rfl rfl rfl ?_
        refine .gS rfl rfl rfl rfl rfl rfl ?_
        refine .gS rfl rfl rfl rfl rfl rfl ?_
        refine .gS rfl rfl rfl rfl rfl rfl ?_
        refine .v (pkF rfl rfl rfl) rfl rfl rfl ?_
        refine .v (mv rfl) rfl rfl rfl ?_
        refine .gS rfl rfl rfl rfl rfl rfl ?_
        refine .gS rfl rfl rfl rfl rfl rfl ?_
        refine .gS rfl rfl rfl rfl rfl rfl ?_
        refine .v (pkF rfl rfl rfl) rfl rfl rfl ?_
        refine .v (mv rfl) rfl rfl rfl ?_
        refine .gS rfl rfl rfl rfl rfl rfl ?_
        refine .gS rfl rfl rfl rfl rfl rfl ?_
        refine .gS rfl rfl rfl rfl rfl rfl ?_
        refine .gS rfl rfl rfl rfl rfl rfl ?_
        refine .gS rfl rfl rfl rfl rfl rfl ?_
        refine .gS rfl rfl rfl rfl rfl rfl ?_
        refine .v (pkF rfl rfl rfl) rfl rfl rfl ?_
        refine .v (mv rfl) rfl rfl rfl ?_
        refine .gS rfl rfl rfl rfl rfl rfl ?_
        refine .v (pkF rfl rfl rfl) rfl rfl rfl ?_
        refine .v (asg rfl) rfl rfl rfl ?_
        refine .nil ?_
        refine .seqN ?_
        refine .ret ?_
        refine .seqR ?_
        refine .res1 rfl (rvT rfl) (fun w' S => ⟨false, hF, rfl, S.below⟩)
      replace hF := hF.2 q51
      refine .gS rfl rfl rfl q51 rfl rfl ?_
      refine .gS rfl rfl rfl q51 rfl rfl ?_
      refine .v (pkF rfl q51 rfl) rfl rfl rfl ?_
      refine .v (mv rfl) rfl rfl rfl ?_
      refine .gS rfl rfl rfl rfl rfl rfl ?_
      refine .gS rfl rfl rfl rfl rfl rfl ?_
      refine .v (pkF rfl rfl rfl) rfl rfl rfl ?_
      refine .v (mv rfl) rfl rfl rfl ?_
      refine .gS rfl rfl rfl rfl rfl rfl ?_
      refine .gS rfl rfl rfl rfl rfl rfl ?_
      refine .v (pkF rfl rfl rfl) rfl rfl rfl ?_
      refine .v (mv rfl) rfl rfl rfl ?_
      refine .gS rfl rfl rfl rfl rfl rfl ?_
      refine .gS rfl rfl rfl rfl rfl rfl ?_
      refine .gS rfl rfl rfl rfl rfl rfl ?_
      refine .v (pkF rfl rfl rfl) rfl rfl rfl ?_
      refine .v (mv rfl) rfl rfl rfl ?_
      refine .gS rfl rfl rfl rfl rfl rfl ?_
      refine .gS rfl rfl rfl rfl rfl rfl ?_
      refine .gS rfl rfl rfl rfl rfl rfl ?_
      refine .v (pkF rfl rfl rfl) rfl rfl rfl ?_
      refine .v (mv rfl) rfl rfl rfl ?_
      refine .gS rfl rfl rfl rfl rfl rfl ?_
      refine .gS rfl rfl rfl rfl rfl rfl ?_
      refine .gS rfl rfl rfl rfl rfl rfl ?_
      refine .gS rfl rfl rfl rfl rfl rfl ?_
      refine .gS rfl rfl rfl rfl rfl rfl ?_
      refine .gS rfl rfl rfl rfl rfl rfl ?_
      refine .v (pkF rfl rfl rfl) rfl rfl rfl ?_
      refine .v (mv rfl) rfl rfl rfl ?_
      refine .gS rfl rfl rfl rfl rfl rfl ?_
      refine .v (pkF rfl rfl rfl) rfl rfl rfl ?_
      refine .v (asg rfl) rfl rfl rfl ?_
      refine .nil ?_
      refine .seqN ?_
      refine .ret ?_
      refine .seqR ?_
      refine .res1 rfl (rvT rfl) (fun w' S => ⟨false, hF, rfl, S.below⟩)
    replace hF := hF.2 q41
    refine .skip ?_
    refine .seqN ?_
    refine .seq ?_
    refine .region ?_
    refine .v (ldA (cs := [.int .i64 n_.events, .slice an_ n_.links.length cn_]) rfl tA24 rfl (cellsB (off := 0) (k := 0) rfl (m := 2) rfl)) rfl rfl rfl ?_
    obtain ⟨q60, hF⟩ := hF
    obtain ⟨r8, q61⟩ : ∃ y_ : List (List Int) × Bool, y_ = sp_tighten n_ := ⟨_, rfl⟩
    replace hF := hF r8 q61
    refine clR (α := Option Addr × Nat) (Φ := fun h1 z => RSl h1 z.1 r8.1 ∧ r8.1.length ≤ z.2) (V := fun z => .tuple #[.slice z.1 r8.1.length z.2, .bool r8.2]) Try.call23 rfl rfl (fun w S => (by rw [q61]; exact c_tightest S.sub n_ an_ cn_ (_q1.mono (FH.le_trans (le1) (le2))) _q2 q60)) rfl (fun z h3 le3 hz => ?_)
    obtain ⟨a3, c3⟩ := z
    obtain ⟨q62, q63⟩ := hz
    refine .v (mv rfl) rfl rfl rfl ?_
    refine .v (ext rfl rfl) rfl rfl rfl ?_
    refine .v (ext rfl rfl) rfl rfl rfl ?_
    refine .v (asg rfl) rfl rfl rfl ?_
    refine .v (asg rfl) rfl rfl rfl ?_
    refine .nil ?_
    refine .seqN ?_
    refine .seq ?_
    refine .share (σ := Bool) (fun z => F_lawMatchesSpec_J2 n_ times cycle K r4 r5 r6 r8 z) (fun z => [(1, .slice atimes times.length ctimes), (2, .slice acycle cycle.length ccycle), (3, .pointer (some pn)), (7, .pointer (some pe)), (11, .slice a2 r4.1.length c2), (14, .bool r5.1), (15, .pointer (some ph)), (16, .bool r6.1), (17, .pointer (some pi)), (18, .slice a3 r8.1.length c3), (19, .bool r8.2), (122, .bool z)]) (fun _ => [Box pn [.int .i64 n_.events, .slice an_ n_.links.length cn_], Box pe [.int .i64 r2.code, .int .i64 r2.index], Box ph [.int .i64 r5.2.code, .int .i64 r5.2.index], Box pi [.int .i64 r6.2.code, .int .i64 r6.2.index]]) (fun _ => h3) ?_ (fun q68 => ?_)
    · rintro t122 hF
      show J _ _ _ _ _ [(1, .slice atimes times.length ctimes), (2, .slice acycle cycle.length ccycle), (3, .pointer (some pn)), (7, .pointer (some pe)), (11, .slice a2 r4.1.length c2), (14, .bool r5.1), (15, .pointer (some ph)), (16, .bool r6.1), (17, .pointer (some pi)), (18, .slice a3 r8.1.length c3), (19, .bool r8.2), (122, .bool t122)] [Box pn [.int .i64 n_.events, .slice an_ n_.links.length cn_], Box pe [.int .i64 r2.code, .int .i64 r2.index], Box ph [.int .i64 r5.2.code, .int .i64 r5.2.index], Box pi [.int .i64 r6.2.code, .int .i64 r6.2.index]] h3
      refine .cond rfl (fun q70 => ?_) (fun q70 => ?_)
      · replace hF := hF.1 q70
        refine .seq ?_
        refine .region ?_
        refine .v (asg rfl) rfl rfl rfl ?_
        refine .nil ?_
        refine .seqN ?_
        refine .ret ?_
        refine .seqR ?_
        refine .res1 rfl (rvT rfl) (fun w' S => ⟨false, hF, rfl, S.below⟩)
      replace hF := hF.2 q70
      refine .skip ?_
      refine .seqN ?_
      refine .seq ?_
      refine .seq ?_
      refine .region ?_
      refine .v (mv rfl) rfl rfl rfl ?_
      refine .nil ?_
      refine .seqN ?_
      refine .shareT (σ := Unit) (fun _ => F_lawMatchesSpec_J3 n_ times cycle K r5 r6) (fun _ => [(1, .slice atimes times.length ctimes), (2, .slice acycle cycle.length ccycle), (3, .pointer (some pn)), (7, .pointer (some pe)), (14, .bool r5.1), (15, .pointer (some ph)), (16, .bool r6.1), (17, .pointer (some pi))]) (fun _ => [Box pn [.int .i64 n_.events, .slice an_ n_.links.length cn_], Box pe [.int .i64 r2.code, .int .i64 r2.index], Box ph [.int .i64 r5.2.code, .int .i64 r5.2.index], Box pi [.int .i64 r6.2.code, .int .i64 r6.2.index]]) (fun _ => h3) ?_ (fun q243 => ?_)
      · rintro ⟨⟩ hF
        show J _ _ _ _ _ [(1, .slice atimes times.length ctimes), (2, .slice acycle cycle.length ccycle), (3, .pointer (some pn)), (7, .pointer (some pe)), (14, .bool r5.1), (15, .pointer (some ph)), (16, .bool r6.1), (17, .pointer (some pi))] [Box pn [.int .i64 n_.events, .slice an_ n_.links.length cn_], Box pe [.int .i64 r2.code, .int .i64 r2.index], Box ph [.int .i64 r5.2.code, .int .i64 r5.2.index], Box pi [.int .i64 r6.2.code, .int .i64 r6.2.index]] h3
        refine .seq ?_
        refine .region ?_
        refine .v (bld (cs := #[.int .i64 0, .int .i64 0]) (pv := []) tB27 rfl rfl) rfl rfl rfl ?_
        refine st (p := pe) (off := 0) (k := 1) (vs := [.int .i64 0, .int .i64 0]) rfl rfl rfl (fun w => (tA27 w).2) rfl rfl rfl rfl ?_
        refine .cast (A' := [Box pn [.int .i64 n_.events, .slice an_ n_.links.length cn_], Box pe [.int .i64 0, .int .i64 0], Box ph [.int .i64 r5.2.code, .int .i64 r5.2.index], Box pi [.int .i64 r6.2.code, .int .i64 r6.2.index]]) rfl ?_
        refine .nil ?_
        refine .seqN ?_
        refine .seq ?_
        refine .seq ?_
        refine .region ?_
        refine .v (mv rfl) rfl rfl rfl ?_
        refine .v (ln rfl tS32.is) rfl rfl rfl ?_
        refine .v (fa rfl tF24_0) rfl rfl rfl ?_
        refine .v (ld1 rfl tO3 (cellB (off := 0) (k := 0) rfl rfl)) rfl rfl rfl ?_
        refine .v (bi rfl rfl rfl) rfl rfl rfl ?_
        refine .nil ?_
        refine .seqN ?_
        refine .shareT (σ := Int × Int) (fun z => F_lawMatchesSpec_J4 n_ times cycle K r5 r6 z.1 z.2) (fun _ => [(1, .slice atimes times.length ctimes), (2, .slice acycle cycle.length ccycle), (3, .pointer (some pn)), (7, .pointer (some pe)), (14, .bool r5.1), (15, .pointer (some ph)), (16, .bool r6.1), (17, .pointer (some pi))]) (fun z => [Box pn [.int .i64 n_.events, .slice an_ n_.links.length cn_], Box pe [.int .i64 z.1, .int .i64 z.2], Box ph [.int .i64 r5.2.code, .int .i64 r5.2.index], Box pi [.int .i64 r6.2.code, .int .i64 r6.2.index]]) (fun _ => h3) ?_ (fun q246 => ?_)
        · rintro ⟨x2, x3⟩ hF
          show J _ _ _ _ _ [(1, .slice atimes times.length ctimes), (2, .slice acycle cycle.length ccycle), (3, .pointer (some pn)), (7, .pointer (some pe)), (14, .bool r5.1), (15, .pointer (some ph)), (16, .bool r6.1), (17, .pointer (some pi))] [Box pn [.int .i64 n_.events, .slice an_ n_.links.length cn_], Box pe [.int .i64 x2, .int .i64 x3], Box ph [.int .i64 r5.2.code, .int .i64 r5.2.index], Box pi [.int .i64 r6.2.code, .int .i64 r6.2.index]] h3
          refine .seq ?_
          refine .seq ?_
          refine .region ?_
          refine .v (asg rfl) rfl rfl rfl ?_
          refine .nil ?_
          refine .seqN ?_
          refine .block ?_
          obtain ⟨I1, μ1, q319, q320⟩ := hF
          refine .loop' (σ := Int × Int × Int) (fun z => I1 z.1 z.2.1 z.2.2) (fun z => μ1 z.1 z.2.1 z.2.2) (fun z => [(1, .slice atimes times.length ctimes), (2, .slice acycle cycle.length ccycle), (3, .pointer (some pn)), (7, .pointer (some pe)), (14, .bool r5.1), (15, .pointer (some ph)), (16, .bool r6.1), (17, .pointer (some pi)), (21, .int .i64 z.1)]) (fun z => [Box pn [.int .i64 n_.events, .slice an_ n_.links.length cn_], Box pe [.int .i64 z.2.1, .int .i64 z.2.2], Box ph [.int .i64 r5.2.code, .int .i64 r5.2.index], Box pi [.int .i64 r6.2.code, .int .i64 r6.2.index]]) (fun _ => h3) (0, x2, x3) q319 (.cons rfl (.cons rfl (.cons rfl (.cons rfl (.cons rfl (.cons rfl (.cons rfl (.cons rfl (.cons rfl (.nil)))))))))) rfl (FH.le_refl _) ?_
          rintro ⟨k, x4, x5⟩ q319
          have hF := q320 k x4 x5 q319
          show J _ _ _ _ _ [(1, .slice atimes times.length ctimes), (2, .slice acycle cycle.length ccycle), (3, .pointer (some pn)), (7, .pointer (some pe)), (14, .bool r5.1), (15, .pointer (some ph)), (16, .bool r6.1), (17, .pointer (some pi)), (21, .int .i64 k)] [Box pn [.int .i64 n_.events, .slice an_ n_.links.length cn_], Box pe [.int .i64 x4, .int .i64 x5], Box ph [.int .i64 r5.2.code, .int .i64 r5.2.index], Box pi [.int .i64 r6.2.code, .int .i64 r6.2.index]] h3
          refine .seq ?_
          refine .share (σ := Bool) (fun z => F_lawMatchesSpec_J5 n_ times cycle K r5 r6 k I1 μ1 z x4 x5) (fun z => [(1, .slice atimes times.length ctimes), (2, .slice acycle cycle.length ccycle), (3, .pointer (some pn)), (7, .pointer (some pe)), (14, .bool r5.1), (15, .pointer (some ph)), (16, .bool r6.1), (17, .pointer (some pi)), (21, .int .i64 k), (167, .bool z)]) (fun _ => [Box pn [.int .i64 n_.events, .slice an_ n_.links.length cn_], Box pe [.int .i64 x4, .int .i64 x5], Box ph [.int .i64 r5.2.code, .int .i64 r5.2.index], Box pi [.int .i64 r6.2.code, .int .i64 r6.2.index]]) (fun _ => h3) ?_ (fun q322 => ?_)
          · rintro t167 hF
            show J _ _ _ _ _ [(1, .slice atimes times.length ctimes), (2, .slice acycle cycle.length ccycle), (3, .pointer (some pn)), (7, .pointer (some pe)), (14, .bool r5.1), (15, .pointer (some ph)), (16, .bool r6.1), (17, .pointer (some pi)), (21, .int .i64 k), (167, .bool t167)] [Box pn [.int .i64 n_.events, .slice an_ n_.links.length cn_], Box pe [.int .i64 x4, .int .i64 x5], Box ph [.int .i64 r5.2.code, .int .i64 r5.2.index], Box pi [.int .i64 r6.2.code, .int .i64 r6.2.index]] h3
            refine .cond rfl (fun q324 => ?_) (fun q324 => ?_)
            · replace hF := hF.1 q324
              refine .skip ?_
              refine .seqN ?_
              refine .share (σ := Int × Int) (fun z => F_lawMatchesSpec_J6 k I1 μ1 x4 x5 z.1 z.2) (fun _ => [(1, .slice atimes times.length ctimes), (2, .slice acycle cycle.length ccycle), (3, .pointer (some pn)), (7, .pointer (some pe)), (14, .bool r5.1), (15, .pointer (some ph)), (16, .bool r6.1), (17, .pointer (some pi)), (21, .int .i64 k)]) (fun z => [Box pn [.int .i64 n_.events, .slice an_ n_.links.length cn_], Box pe [.int .i64 z.1, .int .i64 z.2], Box ph [.int .i64 r5.2.code, .int .i64 r5.2.index], Box pi [.int .i64 r6.2.code, .int .i64 r6.2.index]]) (fun _ => h3) ?_ (fun q329 => ?_)
              · rintro ⟨x8, x9⟩ hF
                show J _ _ _ _ _ [(1, .slice atimes times.length ctimes), (2, .slice acycle cycle.length ccycle), (3, .pointer (some pn)), (7, .pointer (some pe)), (14, .bool r5.1), (15, .pointer (some ph)), (16, .bool r6.1), (17, .pointer (some pi)), (21, .int .i64 k)] [Box pn [.int .i64 n_.events, .slice an_ n_.links.length cn_], Box pe [.int .i64 x8, .int .i64 x9], Box ph [.int .i64 r5.2.code, .int .i64 r5.2.index], Box pi [.int .i64 r6.2.code, .int .i64 r6.2.index]] h3
                refine .region ?_
                refine .v (mv rfl) rfl rfl rfl ?_
                refine .v (bi rfl rfl rfl) rfl rfl rfl ?_
                refine .v (asg rfl) rfl rfl rfl ?_
                refine .nil ?_
                exact .round (IntKind.i64.wrap (k + 1), x8, x9) hF.1 hF.2 (.cons rfl (.cons rfl (.cons rfl (.cons rfl (.cons rfl (.cons rfl (.cons rfl (.cons rfl (.cons rfl (.nil)))))))))) rfl (FH.le_refl _)
              refine .block ?_
              refine .seq ?_
              refine .region ?_
              refine .v (mv rfl) rfl rfl rfl ?_
              refine .v (mv rfl) rfl rfl rfl ?_
              obtain ⟨q330, hF⟩ := hF
              refine .v (ix rfl rfl tS32 (_q3.ne (by decide) (inb_pos q330)) q330) rfl rfl rfl ?_
              refine .v (ld1 (v := .int .i64 (gt times k)) rfl tO3 (cellH ((_q3.mono (FH.le_trans (FH.le_trans (le1) (le2)) (le3))).elemF q330 (by decide) 0 _ rfl))) rfl rfl rfl ?_
              obtain ⟨r9, q331⟩ : ∃ y_ : Bool, y_ = sp_in_ (gt times k) (-1000000) 1000000 := ⟨_, rfl⟩
              replace hF := hF r9 q331
              refine .c (cl (v := .bool r9) Try.call16 rfl rfl (fun w S => (by rw [q331]; exact c_in_ S.sub (gt times k) (-1000000) 1000000 ))) rfl rfl rfl ?_
              refine .v (nt rfl) rfl rfl rfl ?_
              refine .nil ?_
              refine .seqN ?_
              refine .cond rfl (fun q332 => ?_) (fun q332 => ?_)
              · replace hF := hF.1 q332
                refine .region ?_
                refine .v (mv rfl) rfl rfl rfl ?_
                refine .v (bi rfl rfl rfl) rfl rfl rfl ?_
                obtain ⟨r10, q333⟩ : ∃ y_ : Fault, y_ = sp_at_ 3 (IntKind.i64.wrap ((-3) - k)) := ⟨_, rfl⟩
                replace hF := hF r10 q333
                refine .c (cl (v := .agg #[.int .i64 r10.code, .int .i64 r10.index]) Try.call25 rfl rfl (fun w S => (by rw [q333]; exact c_at_ S.sub 3 (IntKind.i64.wrap ((-3) - k)) ))) rfl rfl rfl ?_
                refine st (p := pe) (off := 0) (k := 1) (vs := [.int .i64 r10.code, .int .i64 r10.index]) rfl rfl rfl (fun w => (tA27 w).2) rfl rfl rfl rfl ?_
                refine .cast (A' := [Box pn [.int .i64 n_.events, .slice an_ n_.links.length cn_], Box pe [.int .i64 r10.code, .int .i64 r10.index], Box ph [.int .i64 r5.2.code, .int .i64 r5.2.index], Box pi [.int .i64 r6.2.code, .int .i64 r6.2.index]]) rfl ?_
                refine .nil ?_
                refine .blkN ?_
                exact .use q329 (r10.code, r10.index) hF (.cons rfl (.cons rfl (.cons rfl (.cons rfl (.cons rfl (.cons rfl (.cons rfl (.cons rfl (.cons rfl (.nil)))))))))) rfl (FH.le_refl _)
              replace hF := hF.2 q332
              refine .skip ?_
              refine .blkN ?_
              exact .use q329 (x4, x5) hF (.cons rfl (.cons rfl (.cons rfl (.cons rfl (.cons rfl (.cons rfl (.cons rfl (.cons rfl (.cons rfl (.nil)))))))))) rfl (FH.le_refl _)
            replace hF := hF.2 q324
            refine .exit ?_
            refine .seqX ?_
            refine .seqX ?_
            refine .blkX ?_
            refine .seqN ?_
            refine .seq ?_
            refine .share (σ := Bool) (fun z => F_lawMatchesSpec_J7 n_ cycle K r6 z) (fun z => [(2, .slice acycle cycle.length ccycle), (3, .pointer (some pn)), (7, .pointer (some pe)), (16, .bool r6.1), (17, .pointer (some pi)), (193, .bool z)]) (fun _ => [Box pn [.int .i64 n_.events, .slice an_ n_.links.length cn_], Box pe [.int .i64 x4, .int .i64 x5], Box pi [.int .i64 r6.2.code, .int .i64 r6.2.index]]) (fun _ => h3) ?_ (fun q338 => ?_)
            · rintro t193 hF
              show J _ _ _ _ _ [(2, .slice acycle cycle.length ccycle), (3, .pointer (some pn)), (7, .pointer (some pe)), (16, .bool r6.1), (17, .pointer (some pi)), (193, .bool t193)] [Box pn [.int .i64 n_.events, .slice an_ n_.links.length cn_], Box pe [.int .i64 x4, .int .i64 x5], Box pi [.int .i64 r6.2.code, .int .i64 r6.2.index]] h3
              refine .cond rfl (fun q340 => ?_) (fun q340 => ?_)
              · replace hF := hF.1 q340
                refine .seq ?_
                refine .region ?_
                refine .v (asg rfl) rfl rfl rfl ?_
                refine .nil ?_
                refine .seqN ?_
                refine .ret ?_
                refine .seqR ?_
                refine .res1 rfl (rvT rfl) (fun w' S => ⟨false, hF, rfl, S.below⟩)
              replace hF := hF.2 q340
              refine .skip ?_
              refine .seqN ?_
              refine .seq ?_
              refine .region ?_
              refine .v (bld (cs := #[.int .i64 0, .int .i64 0]) (pv := []) tB27 rfl rfl) rfl rfl rfl ?_
              refine st (p := pe) (off := 0) (k := 1) (vs := [.int .i64 0, .int .i64 0]) rfl rfl rfl (fun w => (tA27 w).2) rfl rfl rfl rfl ?_
              refine .cast (A' := [Box pn [.int .i64 n_.events, .slice an_ n_.links.length cn_], Box pe [.int .i64 0, .int .i64 0], Box pi [.int .i64 r6.2.code, .int .i64 r6.2.index]]) rfl ?_
              refine .nil ?_
              refine .seqN ?_
              refine .seq ?_
              refine .seq ?_
              refine .region ?_
              refine .v (mv rfl) rfl rfl rfl ?_
              refine .v (ln rfl tS32.is) rfl rfl rfl ?_
              obtain ⟨r11, q341⟩ : ∃ y_ : Bool, y_ = sp_in_ ((cycle.length : Nat) : Int) 2 10 := ⟨_, rfl⟩
              replace hF := hF r11 q341
              refine .c (cl (v := .bool r11) Try.call16 rfl rfl (fun w S => (by rw [q341]; exact c_in_ S.sub ((cycle.length : Nat) : Int) 2 10 ))) rfl rfl rfl ?_
              refine .v (nt rfl) rfl rfl rfl ?_
              refine .nil ?_
              refine .seqN ?_
              refine .shareT (σ := Int × Int) (fun z => F_lawMatchesSpec_J8 n_ cycle K r6 z.1 z.2) (fun _ => [(2, .slice acycle cycle.length ccycle), (3, .pointer (some pn)), (7, .pointer (some pe)), (16, .bool r6.1), (17, .pointer (some pi))]) (fun z => [Box pn [.int .i64 n_.events, .slice an_ n_.links.length cn_], Box pe [.int .i64 z.1, .int .i64 z.2], Box pi [.int .i64 r6.2.code, .int .i64 r6.2.index]]) (fun _ => h3) ?_ (fun q344 => ?_)
              · rintro ⟨x10, x11⟩ hF
                show J _ _ _ _ _ [(2, .slice acycle cycle.length ccycle), (3, .pointer (some pn)), (7, .pointer (some pe)), (16, .bool r6.1), (17, .pointer (some pi))] [Box pn [.int .i64 n_.events, .slice an_ n_.links.length cn_], Box pe [.int .i64 x10, .int .i64 x11], Box pi [.int .i64 r6.2.code, .int .i64 r6.2.index]] h3
                refine .seq ?_
                refine .seq ?_
                refine .region ?_
                refine .v (asg rfl) rfl rfl rfl ?_
                refine .nil ?_
                refine .seqN ?_
                refine .block ?_
                obtain ⟨I2, μ2, q417, q418⟩ := hF
                refine .loop' (σ := Int × Int × Int) (fun z => I2 z.1 z.2.1 z.2.2) (fun z => μ2 z.1 z.2.1 z.2.2) (fun z => [(2, .slice acycle cycle.length ccycle), (3, .pointer (some pn)), (7, .pointer (some pe)), (16, .bool r6.1), (17, .pointer (some pi)), (22, .int .i64 z.1)]) (fun z => [Box pn [.int .i64 n_.events, .slice an_ n_.links.length cn_], Box pe [.int .i64 z.2.1, .int .i64 z.2.2], Box pi [.int .i64 r6.2.code, .int .i64 r6.2.index]]) (fun _ => h3) (0, x10, x11) q417 (.cons rfl (.cons rfl (.cons rfl (.cons rfl (.cons rfl (.cons rfl (.nil))))))) rfl (FH.le_refl _) ?_
                rintro ⟨k3, x12, x13⟩ q417
                have hF := q418 k3 x12 x13 q417
                show J _ _ _ _ _ [(2, .slice acycle cycle.length ccycle), (3, .pointer (some pn)), (7, .pointer (some pe)), (16, .bool r6.1), (17, .pointer (some pi)), (22, .int .i64 k3)] [Box pn [.int .i64 n_.events, .slice an_ n_.links.length cn_], Box pe [.int .i64 x12, .int .i64 x13], Box pi [.int .i64 r6.2.code, .int .i64 r6.2.index]] h3
                refine .seq ?_
                refine .share (σ := Bool) (fun z => F_lawMatchesSpec_J9 n_ cycle K r6 z x12 x13 k3 I2 μ2) (fun z => [(2, .slice acycle cycle.length ccycle), (3, .pointer (some pn)), (7, .pointer (some pe)), (16, .bool r6.1), (17, .pointer (some pi)), (22, .int .i64 k3), (208, .bool z)]) (fun _ => [Box pn [.int .i64 n_.events, .slice an_ n_.links.length cn_], Box pe [.int .i64 x12, .int .i64 x13], Box pi [.int .i64 r6.2.code, .int .i64 r6.2.index]]) (fun _ => h3) ?_ (fun q420 => ?_)
                · rintro t208 hF
                  show J _ _ _ _ _ [(2, .slice acycle cycle.length ccycle), (3, .pointer (some pn)), (7, .pointer (some pe)), (16, .bool r6.1), (17, .pointer (some pi)), (22, .int .i64 k3), (208, .bool t208)] [Box pn [.int .i64 n_.events, .slice an_ n_.links.length cn_], Box pe [.int .i64 x12, .int .i64 x13], Box pi [.int .i64 r6.2.code, .int .i64 r6.2.index]] h3
                  refine .cond rfl (fun q422 => ?_) (fun q422 => ?_)
                  · replace hF := hF.1 q422
                    refine .skip ?_
                    refine .seqN ?_
                    refine .share (σ := Int × Int) (fun z => F_lawMatchesSpec_J10 x12 x13 k3 I2 μ2 z.1 z.2) (fun _ => [(2, .slice acycle cycle.length ccycle), (3, .pointer (some pn)), (7, .pointer (some pe)), (16, .bool r6.1), (17, .pointer (some pi)), (22, .int .i64 k3)]) (fun z => [Box pn [.int .i64 n_.events, .slice an_ n_.links.length cn_], Box pe [.int .i64 z.1, .int .i64 z.2], Box pi [.int .i64 r6.2.code, .int .i64 r6.2.index]]) (fun _ => h3) ?_ (fun q427 => ?_)
                    · rintro ⟨x16, x17⟩ hF
                      show J _ _ _ _ _ [(2, .slice acycle cycle.length ccycle), (3, .pointer (some pn)), (7, .pointer (some pe)), (16, .bool r6.1), (17, .pointer (some pi)), (22, .int .i64 k3)] [Box pn [.int .i64 n_.events, .slice an_ n_.links.length cn_], Box pe [.int .i64 x16, .int .i64 x17], Box pi [.int .i64 r6.2.code, .int .i64 r6.2.index]] h3
                      refine .region ?_
                      refine .v (mv rfl) rfl rfl rfl ?_
                      refine .v (bi rfl rfl rfl) rfl rfl rfl ?_
                      refine .v (asg rfl) rfl rfl rfl ?_
                      refine .nil ?_
                      exact .round (IntKind.i64.wrap (k3 + 1), x16, x17) hF.1 hF.2 (.cons rfl (.cons rfl (.cons rfl (.cons rfl (.cons rfl (.cons rfl (.nil))))))) rfl (FH.le_refl _)
                    refine .block ?_
                    refine .seq ?_
                    refine .open_ (by kernel_rfl) (by kernel_rfl) ?_
                    refine .v (mv rfl) rfl rfl rfl ?_
                    refine .v (mv rfl) rfl rfl rfl ?_
                    obtain ⟨q428, hF⟩ := hF
                    refine .v (ix rfl rfl tS32 (_q5.ne (by decide) (inb_pos q428)) q428) rfl rfl rfl ?_
                    refine .v (ld1 (v := .int .i64 (gt cycle k3)) rfl tO3 (cellH ((_q5.mono (FH.le_trans (FH.le_trans (le1) (le2)) (le3))).elemF q428 (by decide) 0 _ rfl))) rfl rfl rfl ?_
                    refine .v (fa rfl tF24_0) rfl rfl rfl ?_
                    refine .v (ld1 rfl tO3 (cellB (off := 0) (k := 0) rfl rfl)) rfl rfl rfl ?_
                    refine .v (bi rfl rfl rfl) rfl rfl rfl ?_
                    obtain ⟨r12, q429⟩ : ∃ y_ : Bool, y_ = sp_in_ (gt cycle k3) 0 (IntKind.i64.wrap (n_.events - 1)) := ⟨_, rfl⟩
                    replace hF := hF r12 q429
                    refine .c (cl (v := .bool r12) Try.call16 rfl rfl (fun w S => (by rw [q429]; exact c_in_ S.sub (gt cycle k3) 0 (IntKind.i64.wrap (n_.events - 1)) ))) rfl rfl rfl ?_
                    refine .v (nt rfl) rfl rfl rfl ?_
                    refine .fin ?_
                    refine .seqN ?_
                    refine .cond rfl (fun q430 => ?_) (fun q430 => ?_)
                    · replace hF := hF.1 q430
                      refine .region ?_
                      refine .v (mv rfl) rfl rfl rfl ?_
                      refine .v (bi rfl rfl rfl) rfl rfl rfl ?_
                      obtain ⟨r13, q431⟩ : ∃ y_ : Fault, y_ = sp_at_ 3 (IntKind.i64.wrap ((-3) - k3)) := ⟨_, rfl⟩
                      replace hF := hF r13 q431
                      refine .c (cl (v := .agg #[.int .i64 r13.code, .int .i64 r13.index]) Try.call25 rfl rfl (fun w S => (by rw [q431]; exact c_at_ S.sub 3 (IntKind.i64.wrap ((-3) - k3)) ))) rfl rfl rfl ?_
                      refine st (p := pe) (off := 0) (k := 1) (vs := [.int .i64 r13.code, .int .i64 r13.index]) rfl rfl rfl (fun w => (tA27 w).2) rfl rfl rfl rfl ?_
                      refine .cast (A' := [Box pn [.int .i64 n_.events, .slice an_ n_.links.length cn_], Box pe [.int .i64 r13.code, .int .i64 r13.index], Box pi [.int .i64 r6.2.code, .int .i64 r6.2.index]]) rfl ?_
                      refine .nil ?_
                      refine .blkN ?_
                      exact .use q427 (r13.code, r13.index) hF (.cons rfl (.cons rfl (.cons rfl (.cons rfl (.cons rfl (.cons rfl (.nil))))))) rfl (FH.le_refl _)
                    replace hF := hF.2 q430
                    refine .skip ?_
                    refine .blkN ?_
                    exact .use q427 (x12, x13) hF (.cons rfl (.cons rfl (.cons rfl (.cons rfl (.cons rfl (.cons rfl (.nil))))))) rfl (FH.le_refl _)
                  replace hF := hF.2 q422
                  refine .exit ?_
                  refine .seqX ?_
                  refine .seqX ?_
                  refine .blkX ?_
                  refine .seqN ?_
                  refine .seq ?_
                  refine .seq ?_
                  refine .region ?_
                  refine .v (fa rfl tF27_0) rfl rfl rfl ?_
                  refine .v (ld1 rfl tO3 (cellB (off := 0) (k := 1) rfl rfl)) rfl rfl rfl ?_
                  refine .v (bi rfl rfl rfl) rfl rfl rfl ?_
                  refine .nil ?_
                  refine .seqN ?_
                  refine .cond rfl (fun q439 => ?_) (fun q439 => ?_)
                  · replace hF := hF.1 q439
                    refine .seq ?_
                    refine .region ?_
                    refine .v (ldA (cs := [.int .i64 r6.2.code, .int .i64 r6.2.index]) rfl tA27 rfl (cellsB (off := 0) (k := 2) rfl (m := 2) rfl)) rfl rfl rfl ?_
                    refine .v (ldA (cs := [.int .i64 x12, .int .i64 x13]) rfl tA27 rfl (cellsB (off := 0) (k := 1) rfl (m := 2) rfl)) rfl rfl rfl ?_
                    refine .v (eq2 tE27 rfl rfl) rfl rfl rfl ?_
                    refine .v (mv rfl) rfl rfl rfl ?_
                    rcases Bool.eq_false_or_eq_true ((r6.2.code == x12) && (r6.2.index == x13)) with q443 | q443
                    · replace hF := hF.1 q443
                      refine .gv (mv rfl) rfl rfl rfl q443 rfl rfl ?_
                      refine .gv (nt rfl) rfl rfl rfl q443 rfl rfl ?_
                      refine .v (pkT rfl q443 rfl) rfl rfl rfl ?_
                      refine .v (mv rfl) rfl rfl rfl ?_
                      rcases Bool.eq_false_or_eq_true (!r6.1) with q444 | q444
                      · replace hF := hF.1 q444
                        obtain ⟨r14, q445⟩ : ∃ y_ : Bool, y_ = sp_bounded := ⟨_, rfl⟩
                        replace hF := hF r14 q445
                        refine .gc (cl (v := .bool r14) Try.call17 rfl rfl (fun w S => (by rw [q445]; exact c_bounded S.sub  ))) rfl rfl rfl q444 rfl rfl ?_
                        refine .v (pkT rfl q444 rfl) rfl rfl rfl ?_
                        refine .v (asg rfl) rfl rfl rfl ?_
                        refine .nil ?_
                        refine .seqN ?_
                        refine .ret ?_
                        refine .seqR ?_
                        refine .res1 rfl (rvT rfl) (fun w' S => ⟨r14, hF, rfl, S.below⟩)
                      replace hF := hF.2 q444
                      refine .gS rfl rfl rfl q444 rfl rfl ?_
                      refine .v (pkF rfl q444 rfl) rfl rfl rfl ?_
                      refine .v (asg rfl) rfl rfl rfl ?_
                      refine .nil ?_
                      refine .seqN ?_
                      refine .ret ?_
                      refine .seqR ?_
                      refine .res1 rfl (rvT rfl) (fun w' S => ⟨false, hF, rfl, S.below⟩)
                    replace hF := hF.2 q443
                    refine .gS rfl rfl rfl q443 rfl rfl ?_
                    refine .gS rfl rfl rfl q443 rfl rfl ?_
                    refine .v (pkF rfl q443 rfl) rfl rfl rfl ?_
                    refine .v (mv rfl) rfl rfl rfl ?_
                    refine .gS rfl rfl rfl rfl rfl rfl ?_
                    refine .v (pkF rfl rfl rfl) rfl rfl rfl ?_
                    refine .v (asg rfl) rfl rfl rfl ?_
                    refine .nil ?_
                    refine .seqN ?_
                    refine .ret ?_
                    refine .seqR ?_
                    refine .res1 rfl (rvT rfl) (fun w' S => ⟨false, hF, rfl, S.below⟩)
                  replace hF := hF.2 q439
                  refine .skip ?_
                  refine .seqN ?_
                  refine .seq ?_
                  refine .region ?_
                  refine .v (asg rfl) rfl rfl rfl ?_
                  refine .nil ?_
                  refine .seqN ?_
                  refine .seq ?_
                  refine .seq ?_
                  refine .region ?_
                  refine .v (asg rfl) rfl rfl rfl ?_
                  refine .nil ?_
                  refine .seqN ?_
                  refine .block ?_
                  refine .sel0 [0, 2] (by decide) rfl ?_
                  obtain ⟨I3, μ3, q602, q603⟩ := hF
                  refine .loop' (σ := Int × Int) (fun z => I3 z.1 z.2) (fun z => μ3 z.1 z.2) (fun z => [(2, .slice acycle cycle.length ccycle), (3, .pointer (some pn)), (16, .bool r6.1), (17, .pointer (some pi)), (23, .int .i64 z.1), (24, .int .i64 z.2)]) (fun _ => [Box pn [.int .i64 n_.events, .slice an_ n_.links.length cn_], Box pi [.int .i64 r6.2.code, .int .i64 r6.2.index]]) (fun _ => h3) (0, 0) q602 (.cons rfl (.cons rfl (.cons rfl (.cons rfl (.cons rfl (.cons rfl (.nil))))))) rfl (FH.le_refl _) ?_
                  rintro ⟨sum, k5⟩ q602
                  have hF := q603 sum k5 q602
                  show J _ _ _ _ _ [(2, .slice acycle cycle.length ccycle), (3, .pointer (some pn)), (16, .bool r6.1), (17, .pointer (some pi)), (23, .int .i64 sum), (24, .int .i64 k5)] [Box pn [.int .i64 n_.events, .slice an_ n_.links.length cn_], Box pi [.int .i64 r6.2.code, .int .i64 r6.2.index]] h3
                  refine .seq ?_
                  refine .seq ?_
                  refine .region ?_
                  refine .v (mv rfl) rfl rfl rfl ?_
                  refine .v (mv rfl) rfl rfl rfl ?_
                  refine .v (ln rfl tS32.is) rfl rfl rfl ?_
                  refine .v (bi rfl rfl rfl) rfl rfl rfl ?_
                  refine .nil ?_
                  refine .seqN ?_
                  refine .cond rfl (fun q605 => ?_) (fun q605 => ?_)
                  · replace hF := hF.1 q605
                    refine .skip ?_
                    refine .seqN ?_
                    refine .seq ?_
                    refine .block ?_
                    refine .seq ?_
                    refine .region ?_
                    refine .v (mv rfl) rfl rfl rfl ?_
                    obtain ⟨q626, hF⟩ := hF
                    refine .v (ix rfl rfl tS32 (_q5.ne (by decide) (inb_pos q626)) q626) rfl rfl rfl ?_
                    refine .v (ld1 (v := .int .i64 (gt cycle (0 : Int))) rfl tO3 (cellH ((_q5.mono (FH.le_trans (FH.le_trans (le1) (le2)) (le3))).elemF q626 (by decide) 0 _ rfl))) rfl rfl rfl ?_
                    refine .v (asg rfl) rfl rfl rfl ?_
                    refine .nil ?_
                    refine .seqN ?_
                    refine .seq ?_
                    refine .seq ?_
                    refine .region ?_
                    refine .v (mv rfl) rfl rfl rfl ?_
                    refine .v (bi rfl rfl rfl) rfl rfl rfl ?_
                    refine .v (mv rfl) rfl rfl rfl ?_
                    refine .v (ln rfl tS32.is) rfl rfl rfl ?_
                    obtain ⟨x18, q627⟩ : ∃ y_ : Bool, y_ = (decide ((IntKind.i64.wrap (k5 + 1)) < ((cycle.length : Nat) : Int))) := ⟨_, rfl⟩
                    replace hF := hF x18 q627
                    refine .v (v := .bool x18) (by rw [q627]; exact bi rfl rfl rfl) rfl rfl rfl ?_
                    refine .nil ?_
                    refine .seqN ?_
                    refine .shareT (σ := Int) (fun z => F_lawMatchesSpec_J11 n_ cycle z sum k5 I3 μ3) (fun z => [(2, .slice acycle cycle.length ccycle), (3, .pointer (some pn)), (16, .bool r6.1), (17, .pointer (some pi)), (23, .int .i64 sum), (24, .int .i64 k5), (25, .int .i64 z)]) (fun _ => [Box pn [.int .i64 n_.events, .slice an_ n_.links.length cn_], Box pi [.int .i64 r6.2.code, .int .i64 r6.2.index]]) (fun _ => h3) ?_ (fun q630 => ?_)
                    · rintro next hF
                      show J _ _ _ _ _ [(2, .slice acycle cycle.length ccycle), (3, .pointer (some pn)), (16, .bool r6.1), (17, .pointer (some pi)), (23, .int .i64 sum), (24, .int .i64 k5), (25, .int .i64 next)] [Box pn [.int .i64 n_.events, .slice an_ n_.links.length cn_], Box pi [.int .i64 r6.2.code, .int .i64 r6.2.index]] h3
                      refine .open_ (by kernel_rfl) (by kernel_rfl) ?_
                      refine .v (mv rfl) rfl rfl rfl ?_
                      refine .v (ldA (cs := [.int .i64 n_.events, .slice an_ n_.links.length cn_]) rfl tA24 rfl (cellsB (off := 0) (k := 0) rfl (m := 2) rfl)) rfl rfl rfl ?_
                      refine .v (mv rfl) rfl rfl rfl ?_
                      refine .v (mv rfl) rfl rfl rfl ?_
                      obtain ⟨q631, hF⟩ := hF
                      refine .v (ix rfl rfl tS32 (_q5.ne (by decide) (inb_pos q631)) q631) rfl rfl rfl ?_
                      refine .v (ld1 (v := .int .i64 (gt cycle k5)) rfl tO3 (cellH ((_q5.mono (FH.le_trans (FH.le_trans (le1) (le2)) (le3))).elemF q631 (by decide) 0 _ rfl))) rfl rfl rfl ?_
                      refine .v (mv rfl) rfl rfl rfl ?_
                      obtain ⟨q632, hF⟩ := hF
                      obtain ⟨r15, q633⟩ : ∃ y_ : Int, y_ = sp_direct n_ (gt cycle k5) next := ⟨_, rfl⟩
                      replace hF := hF r15 q633
                      refine .c (cl (v := .int .i64 r15) Try.call27 rfl rfl (fun w S => (by rw [q633]; exact c_direct S.sub n_ an_ cn_ (_q1.mono (FH.le_trans (FH.le_trans (le1) (le2)) (le3))) _q2 (gt cycle k5) next q632))) rfl rfl rfl ?_
                      refine .v (bi rfl rfl rfl) rfl rfl rfl ?_
                      refine .v (asg rfl) rfl rfl rfl ?_
                      refine .fin ?_
                      refine .blkN ?_
                      refine .seqN ?_
                      refine .region ?_
                      refine .v (mv rfl) rfl rfl rfl ?_
                      refine .v (bi rfl rfl rfl) rfl rfl rfl ?_
                      refine .v (asg rfl) rfl rfl rfl ?_
                      refine .nil ?_
                      exact .round (IntKind.i64.wrap (sum + r15), IntKind.i64.wrap (k5 + 1)) hF.1 hF.2 (.cons rfl (.cons rfl (.cons rfl (.cons rfl (.cons rfl (.cons rfl (.nil))))))) rfl (FH.le_refl _)
                    refine .cond rfl (fun q634 => ?_) (fun q634 => ?_)
                    · replace hF := hF.1 q634
                      refine .region ?_
                      refine .v (mv rfl) rfl rfl rfl ?_
                      refine .v (mv rfl) rfl rfl rfl ?_
                      refine .v (bi rfl rfl rfl) rfl rfl rfl ?_
                      obtain ⟨q635, hF⟩ := hF
                      refine .v (ix rfl rfl tS32 (_q5.ne (by decide) (inb_pos q635)) q635) rfl rfl rfl ?_
                      refine .v (ld1 (v := .int .i64 (gt cycle (IntKind.i64.wrap (k5 + 1)))) rfl tO3 (cellH ((_q5.mono (FH.le_trans (FH.le_trans (le1) (le2)) (le3))).elemF q635 (by decide) 0 _ rfl))) rfl rfl rfl ?_
                      refine .v (asg rfl) rfl rfl rfl ?_
                      refine .nil ?_
                      exact .use q630 (gt cycle (IntKind.i64.wrap (k5 + 1))) hF (.cons rfl (.cons rfl (.cons rfl (.cons rfl (.cons rfl (.cons rfl (.cons rfl (.nil)))))))) rfl (FH.le_refl _)
                    replace hF := hF.2 q634
                    refine .skip ?_
                    exact .use q630 (gt cycle (0 : Int)) hF (.cons rfl (.cons rfl (.cons rfl (.cons rfl (.cons rfl (.cons rfl (.cons rfl (.nil)))))))) rfl (FH.le_refl _)
                  replace hF := hF.2 q605
                  refine .exit ?_
                  refine .seqX ?_
                  refine .seqX ?_
                  refine .blkX ?_
                  refine .seqN ?_
                  refine .seq ?_
                  refine .region ?_
                  refine .v (fa rfl tF27_0) rfl rfl rfl ?_
                  refine .v (ld1 rfl tO3 (cellB (off := 0) (k := 1) rfl rfl)) rfl rfl rfl ?_
                  refine .v (bi rfl rfl rfl) rfl rfl rfl ?_
                  refine .v (mv rfl) rfl rfl rfl ?_
                  rcases Bool.eq_false_or_eq_true (r6.2.code == 0) with q639 | q639
                  · replace hF := hF.1 q639
                    refine .gv (mv rfl) rfl rfl rfl q639 rfl rfl ?_
                    refine .gv (mv rfl) rfl rfl rfl q639 rfl rfl ?_
                    refine .gv (bi rfl rfl rfl) rfl rfl rfl q639 rfl rfl ?_
                    refine .gv (beql Try.underlying4 rfl rfl) rfl rfl rfl q639 rfl rfl ?_
                    refine .v (pkT rfl q639 rfl) rfl rfl rfl ?_
                    refine .v (mv rfl) rfl rfl rfl ?_
                    rcases Bool.eq_false_or_eq_true (r6.1 == (decide (sum < 0))) with q640 | q640
                    · replace hF := hF.1 q640
                      obtain ⟨r16, q641⟩ : ∃ y_ : Bool, y_ = sp_bounded := ⟨_, rfl⟩
                      replace hF := hF r16 q641
                      refine .gc (cl (v := .bool r16) Try.call17 rfl rfl (fun w S => (by rw [q641]; exact c_bounded S.sub  ))) rfl rfl rfl q640 rfl rfl ?_
                      refine .v (pkT rfl q640 rfl) rfl rfl rfl ?_
                      refine .v (asg rfl) rfl rfl rfl ?_
                      refine .nil ?_
                      refine .seqN ?_
                      refine .ret ?_
                      refine .res1 rfl (rvT rfl) (fun w' S => ⟨r16, hF, rfl, S.below⟩)
                    replace hF := hF.2 q640
                    refine .gS rfl rfl rfl q640 rfl rfl ?_
                    refine .v (pkF rfl q640 rfl) rfl rfl rfl ?_
                    refine .v (asg rfl) rfl rfl rfl ?_
                    refine .nil ?_
                    refine .seqN ?_
                    refine .ret ?_
                    refine .res1 rfl (rvT rfl) (fun w' S => ⟨false, hF, rfl, S.below⟩)
                  replace hF := hF.2 q639
                  refine .gS rfl rfl rfl q639 rfl rfl ?_
                  refine .gS rfl rfl rfl q639 rfl rfl ?_
                  refine .gS rfl rfl rfl q639 rfl rfl ?_
                  refine .gS rfl rfl rfl q639 rfl rfl ?_
                  refine .v (pkF rfl q639 rfl) rfl rfl rfl ?_
                  refine .v (mv rfl) rfl rfl rfl ?_
                  refine .gS rfl rfl rfl rfl rfl rfl ?_
                  refine .v (pkF rfl rfl rfl) rfl rfl rfl ?_
                  refine .v (asg rfl) rfl rfl rfl ?_
                  refine .nil ?_
                  refine .seqN ?_
                  refine .ret ?_
                  refine .res1 rfl (rvT rfl) (fun w' S => ⟨false, hF, rfl, S.below⟩)
                refine .region ?_
                refine .v (mv rfl) rfl rfl rfl ?_
                refine .v (mv rfl) rfl rfl rfl ?_
                refine .v (ln rfl tS32.is) rfl rfl rfl ?_
                refine .v (bi rfl rfl rfl) rfl rfl rfl ?_
                refine .v (mv rfl) rfl rfl rfl ?_
                rcases Bool.eq_false_or_eq_true (decide (k3 < ((cycle.length : Nat) : Int))) with q642 | q642
                · replace hF := hF.1 q642
                  refine .gv (fa rfl tF27_0) rfl rfl rfl q642 rfl rfl ?_
                  refine .gv (ld1 rfl tO3 (cellB (off := 0) (k := 1) rfl rfl)) rfl rfl rfl q642 rfl rfl ?_
                  refine .gv (bi rfl rfl rfl) rfl rfl rfl q642 rfl rfl ?_
                  refine .v (pkT rfl q642 rfl) rfl rfl rfl ?_
                  refine .nil ?_
                  exact .use q420 (x12 == 0) hF (.cons rfl (.cons rfl (.cons rfl (.cons rfl (.cons rfl (.cons rfl (.cons rfl (.nil)))))))) rfl (FH.le_refl _)
                replace hF := hF.2 q642
                refine .gS rfl rfl rfl q642 rfl rfl ?_
                refine .gS rfl rfl rfl q642 rfl rfl ?_
                refine .gS rfl rfl rfl q642 rfl rfl ?_
                refine .v (pkF rfl q642 rfl) rfl rfl rfl ?_
                refine .nil ?_
                exact .use q420 false hF (.cons rfl (.cons rfl (.cons rfl (.cons rfl (.cons rfl (.cons rfl (.cons rfl (.nil)))))))) rfl (FH.le_refl _)
              refine .cond rfl (fun q643 => ?_) (fun q643 => ?_)
              · replace hF := hF.1 q643
                refine .region ?_
                obtain ⟨r17, q644⟩ : ∃ y_ : Fault, y_ = sp_at_ 9 (-2) := ⟨_, rfl⟩
                replace hF := hF r17 q644
                refine .c (cl (v := .agg #[.int .i64 r17.code, .int .i64 r17.index]) Try.call25 rfl rfl (fun w S => (by rw [q644]; exact c_at_ S.sub 9 (-2) ))) rfl rfl rfl ?_
                refine st (p := pe) (off := 0) (k := 1) (vs := [.int .i64 r17.code, .int .i64 r17.index]) rfl rfl rfl (fun w => (tA27 w).2) rfl rfl rfl rfl ?_
                refine .cast (A' := [Box pn [.int .i64 n_.events, .slice an_ n_.links.length cn_], Box pe [.int .i64 r17.code, .int .i64 r17.index], Box pi [.int .i64 r6.2.code, .int .i64 r6.2.index]]) rfl ?_
                refine .nil ?_
                exact .use q344 (r17.code, r17.index) hF (.cons rfl (.cons rfl (.cons rfl (.cons rfl (.cons rfl (.nil)))))) rfl (FH.le_refl _)
              replace hF := hF.2 q643
              refine .skip ?_
              exact .use q344 (0, 0) hF (.cons rfl (.cons rfl (.cons rfl (.cons rfl (.cons rfl (.nil)))))) rfl (FH.le_refl _)
            refine .region ?_
            refine .v (ldA (cs := [.int .i64 r5.2.code, .int .i64 r5.2.index]) rfl tA27 rfl (cellsB (off := 0) (k := 2) rfl (m := 2) rfl)) rfl rfl rfl ?_
            refine .v (ldA (cs := [.int .i64 x4, .int .i64 x5]) rfl tA27 rfl (cellsB (off := 0) (k := 1) rfl (m := 2) rfl)) rfl rfl rfl ?_
            refine .v (ne2 tE27 rfl rfl) rfl rfl rfl ?_
            refine .v (mv rfl) rfl rfl rfl ?_
            rcases Bool.eq_false_or_eq_true (!((r5.2.code == x4) && (r5.2.index == x5))) with q645 | q645
            · replace hF := hF.1 q645
              refine .gS rfl rfl rfl q645 rfl rfl ?_
              refine .gS rfl rfl rfl q645 rfl rfl ?_
              refine .gS rfl rfl rfl q645 rfl rfl ?_
              refine .gS rfl rfl rfl q645 rfl rfl ?_
              refine .gS rfl rfl rfl q645 rfl rfl ?_
              refine .gU rfl rfl rfl rfl rfl ?_
              refine .gU rfl rfl rfl rfl rfl ?_
              refine .gU rfl rfl rfl rfl rfl ?_
              refine .gS rfl rfl rfl q645 rfl rfl ?_
              refine .gS rfl rfl rfl q645 rfl rfl ?_
              refine .v (pkT rfl q645 rfl) rfl rfl rfl ?_
              refine .nil ?_
              refine .sel0 [0, 1, 3] (by decide) rfl ?_
              exact .use q338 true hF (.cons rfl (.cons rfl (.cons rfl (.cons rfl (.cons rfl (.cons rfl (.nil))))))) rfl (FH.le_refl _)
            replace hF := hF.2 q645
            refine .gv (mv rfl) rfl rfl rfl q645 rfl rfl ?_
            refine .gv (fa rfl tF27_0) rfl rfl rfl q645 rfl rfl ?_
            refine .gv (ld1 rfl tO3 (cellB (off := 0) (k := 1) rfl rfl)) rfl rfl rfl q645 rfl rfl ?_
            refine .gv (bi rfl rfl rfl) rfl rfl rfl q645 rfl rfl ?_
            refine .gv (mv rfl) rfl rfl rfl q645 rfl rfl ?_
            rcases Bool.eq_false_or_eq_true (x4 == 0) with q646 | q646
            · replace hF := hF.1 q646
              refine .gv (ldA (cs := [.int .i64 n_.events, .slice an_ n_.links.length cn_]) rfl tA24 rfl (cellsB (off := 0) (k := 0) rfl (m := 2) rfl)) rfl rfl rfl q646 rfl rfl ?_
              refine .gv (mv rfl) rfl rfl rfl q646 rfl rfl ?_
              obtain ⟨q647, hF⟩ := hF
              obtain ⟨r18, q648⟩ : ∃ y_ : Bool, y_ = sp_isSchedule n_ times := ⟨_, rfl⟩
              replace hF := hF r18 q648
              refine .gc (cl (v := .bool r18) Try.call26 rfl rfl (fun w S => (by rw [q648]; exact c_isSchedule S.sub n_ an_ cn_ (_q1.mono (FH.le_trans (FH.le_trans (le1) (le2)) (le3))) _q2 times atimes ctimes (_q3.mono (FH.le_trans (FH.le_trans (le1) (le2)) (le3))) _q4 q647))) rfl rfl rfl q646 rfl rfl ?_
              refine .gv (pkT rfl q646 rfl) rfl rfl rfl q645 rfl rfl ?_
              refine .gv (bneq Try.underlying4 rfl rfl) rfl rfl rfl q645 rfl rfl ?_
              refine .v (pkF rfl q645 rfl) rfl rfl rfl ?_
              refine .nil ?_
              refine .sel0 [0, 1, 3] (by decide) rfl ?_
              exact .use q338 (r5.1 != r18) hF (.cons rfl (.cons rfl (.cons rfl (.cons rfl (.cons rfl (.cons rfl (.nil))))))) rfl (FH.le_refl _)
            replace hF := hF.2 q646
            refine .gS rfl rfl rfl q646 rfl rfl ?_
            refine .gS rfl rfl rfl q646 rfl rfl ?_
            refine .gS rfl rfl rfl q646 rfl rfl ?_
            refine .gv (pkF rfl q646 rfl) rfl rfl rfl q645 rfl rfl ?_
            refine .gv (bneq Try.underlying4 rfl rfl) rfl rfl rfl q645 rfl rfl ?_
            refine .v (pkF rfl q645 rfl) rfl rfl rfl ?_
            refine .nil ?_
            refine .sel0 [0, 1, 3] (by decide) rfl ?_
            exact .use q338 (r5.1 != false) hF (.cons rfl (.cons rfl (.cons rfl (.cons rfl (.cons rfl (.cons rfl (.nil))))))) rfl (FH.le_refl _)
          refine .region ?_
          refine .v (mv rfl) rfl rfl rfl ?_
          refine .v (mv rfl) rfl rfl rfl ?_
          refine .v (ln rfl tS32.is) rfl rfl rfl ?_
          refine .v (bi rfl rfl rfl) rfl rfl rfl ?_
          refine .v (mv rfl) rfl rfl rfl ?_
          rcases Bool.eq_false_or_eq_true (decide (k < ((times.length : Nat) : Int))) with q649 | q649
          · replace hF := hF.1 q649
            refine .gv (fa rfl tF27_0) rfl rfl rfl q649 rfl rfl ?_
            refine .gv (ld1 rfl tO3 (cellB (off := 0) (k := 1) rfl rfl)) rfl rfl rfl q649 rfl rfl ?_
            refine .gv (bi rfl rfl rfl) rfl rfl rfl q649 rfl rfl ?_
            refine .v (pkT rfl q649 rfl) rfl rfl rfl ?_
            refine .nil ?_
            exact .use q322 (x4 == 0) hF (.cons rfl (.cons rfl (.cons rfl (.cons rfl (.cons rfl (.cons rfl (.cons rfl (.cons rfl (.cons rfl (.cons rfl (.nil))))))))))) rfl (FH.le_refl _)
          replace hF := hF.2 q649
          refine .gS rfl rfl rfl q649 rfl rfl ?_
          refine .gS rfl rfl rfl q649 rfl rfl ?_
          refine .gS rfl rfl rfl q649 rfl rfl ?_
          refine .v (pkF rfl q649 rfl) rfl rfl rfl ?_
          refine .nil ?_
          exact .use q322 false hF (.cons rfl (.cons rfl (.cons rfl (.cons rfl (.cons rfl (.cons rfl (.cons rfl (.cons rfl (.cons rfl (.cons rfl (.nil))))))))))) rfl (FH.le_refl _)
        refine .cond rfl (fun q650 => ?_) (fun q650 => ?_)
        · replace hF := hF.1 q650
          refine .region ?_
          obtain ⟨r19, q651⟩ : ∃ y_ : Fault, y_ = sp_at_ 9 (-2) := ⟨_, rfl⟩
          replace hF := hF r19 q651
          refine .c (cl (v := .agg #[.int .i64 r19.code, .int .i64 r19.index]) Try.call25 rfl rfl (fun w S => (by rw [q651]; exact c_at_ S.sub 9 (-2) ))) rfl rfl rfl ?_
          refine st (p := pe) (off := 0) (k := 1) (vs := [.int .i64 r19.code, .int .i64 r19.index]) rfl rfl rfl (fun w => (tA27 w).2) rfl rfl rfl rfl ?_
          refine .cast (A' := [Box pn [.int .i64 n_.events, .slice an_ n_.links.length cn_], Box pe [.int .i64 r19.code, .int .i64 r19.index], Box ph [.int .i64 r5.2.code, .int .i64 r5.2.index], Box pi [.int .i64 r6.2.code, .int .i64 r6.2.index]]) rfl ?_
          refine .nil ?_
          exact .use q246 (r19.code, r19.index) hF (.cons rfl (.cons rfl (.cons rfl (.cons rfl (.cons rfl (.cons rfl (.cons rfl (.cons rfl (.nil))))))))) rfl (FH.le_refl _)
        replace hF := hF.2 q650
        refine .skip ?_
        exact .use q246 (0, 0) hF (.cons rfl (.cons rfl (.cons rfl (.cons rfl (.cons rfl (.cons rfl (.cons rfl (.cons rfl (.nil))))))))) rfl (FH.le_refl _)
      refine .cond rfl (fun q652 => ?_) (fun q652 => ?_)
      · replace hF := hF.1 q652
        refine .seq ?_
        refine .region ?_
        refine .v (asg rfl) rfl rfl rfl ?_
        refine .nil ?_
        refine .seqN ?_
        refine .block ?_
        obtain ⟨I4, μ4, q765, q766⟩ := hF
        refine .loop' (σ := Int) (fun z => I4 z) (fun z => μ4 z) (fun z => [(1, .slice atimes times.length ctimes), (2, .slice acycle cycle.length ccycle), (3, .pointer (some pn)), (7, .pointer (some pe)), (11, .slice a2 r4.1.length c2), (14, .bool r5.1), (15, .pointer (some ph)), (16, .bool r6.1), (17, .pointer (some pi)), (18, .slice a3 r8.1.length c3), (20, .int .i64 z)]) (fun _ => [Box pn [.int .i64 n_.events, .slice an_ n_.links.length cn_], Box pe [.int .i64 r2.code, .int .i64 r2.index], Box ph [.int .i64 r5.2.code, .int .i64 r5.2.index], Box pi [.int .i64 r6.2.code, .int .i64 r6.2.index]]) (fun _ => h3) 0 q765 (.cons rfl (.cons rfl (.cons rfl (.cons rfl (.cons rfl (.cons rfl (.cons rfl (.cons rfl (.cons rfl (.cons rfl (.cons rfl (.nil)))))))))))) rfl (FH.le_refl _) ?_
        rintro k7 q765
        have hF := q766 k7 q765
        show J _ _ _ _ _ [(1, .slice atimes times.length ctimes), (2, .slice acycle cycle.length ccycle), (3, .pointer (some pn)), (7, .pointer (some pe)), (11, .slice a2 r4.1.length c2), (14, .bool r5.1), (15, .pointer (some ph)), (16, .bool r6.1), (17, .pointer (some pi)), (18, .slice a3 r8.1.length c3), (20, .int .i64 k7)] [Box pn [.int .i64 n_.events, .slice an_ n_.links.length cn_], Box pe [.int .i64 r2.code, .int .i64 r2.index], Box ph [.int .i64 r5.2.code, .int .i64 r5.2.index], Box pi [.int .i64 r6.2.code, .int .i64 r6.2.index]] h3
        refine .seq ?_
        refine .seq ?_
        refine .region ?_
        refine .v (mv rfl) rfl rfl rfl ?_
        refine .v (fa rfl tF24_0) rfl rfl rfl ?_
        refine .v (ld1 rfl tO3 (cellB (off := 0) (k := 0) rfl rfl)) rfl rfl rfl ?_
        refine .v (bi rfl rfl rfl) rfl rfl rfl ?_
        refine .nil ?_
        refine .seqN ?_
        refine .cond rfl (fun q768 => ?_) (fun q768 => ?_)
        · replace hF := hF.1 q768
          refine .skip ?_
          refine .seqN ?_
          refine .seq ?_
          refine .block ?_
          refine .share (σ := Bool) (fun z => F_lawMatchesSpec_J12 K z k7 I4 μ4) (fun z => [(1, .slice atimes times.length ctimes), (2, .slice acycle cycle.length ccycle), (3, .pointer (some pn)), (7, .pointer (some pe)), (11, .slice a2 r4.1.length c2), (14, .bool r5.1), (15, .pointer (some ph)), (16, .bool r6.1), (17, .pointer (some pi)), (18, .slice a3 r8.1.length c3), (20, .int .i64 k7), (148, .bool z)]) (fun _ => [Box pn [.int .i64 n_.events, .slice an_ n_.links.length cn_], Box pe [.int .i64 r2.code, .int .i64 r2.index], Box ph [.int .i64 r5.2.code, .int .i64 r5.2.index], Box pi [.int .i64 r6.2.code, .int .i64 r6.2.index]]) (fun _ => h3) ?_ (fun q813 => ?_)
          · rintro t148 hF
            show J _ _ _ _ _ [(1, .slice atimes times.length ctimes), (2, .slice acycle cycle.length ccycle), (3, .pointer (some pn)), (7, .pointer (some pe)), (11, .slice a2 r4.1.length c2), (14, .bool r5.1), (15, .pointer (some ph)), (16, .bool r6.1), (17, .pointer (some pi)), (18, .slice a3 r8.1.length c3), (20, .int .i64 k7), (148, .bool t148)] [Box pn [.int .i64 n_.events, .slice an_ n_.links.length cn_], Box pe [.int .i64 r2.code, .int .i64 r2.index], Box ph [.int .i64 r5.2.code, .int .i64 r5.2.index], Box pi [.int .i64 r6.2.code, .int .i64 r6.2.index]] h3
            refine .cond rfl (fun q814 => ?_) (fun q814 => ?_)
            · replace hF := hF.1 q814
              refine .seq ?_
              refine .region ?_
              refine .v (asg rfl) rfl rfl rfl ?_
              refine .nil ?_
              refine .seqN ?_
              refine .ret ?_
              refine .blkR ?_
              refine .seqR ?_
              refine .seqR ?_
              refine .blkR ?_
              refine .seqR ?_
              refine .res1 rfl (rvT rfl) (fun w' S => ⟨false, hF, rfl, S.below⟩)
            replace hF := hF.2 q814
            refine .skip ?_
            refine .blkN ?_
            refine .seqN ?_
            refine .region ?_
            refine .v (mv rfl) rfl rfl rfl ?_
            refine .v (bi rfl rfl rfl) rfl rfl rfl ?_
            refine .v (asg rfl) rfl rfl rfl ?_
            refine .nil ?_
            exact .round (IntKind.i64.wrap (k7 + 1)) hF.1 hF.2 (.cons rfl (.cons rfl (.cons rfl (.cons rfl (.cons rfl (.cons rfl (.cons rfl (.cons rfl (.cons rfl (.cons rfl (.cons rfl (.nil)))))))))))) rfl (FH.le_refl _)
          refine .open_ (by kernel_rfl) (by kernel_rfl) ?_
          refine .v (mv rfl) rfl rfl rfl ?_
          refine .v (ln rfl tS32.is) rfl rfl rfl ?_
          refine .v (fa rfl tF24_0) rfl rfl rfl ?_
          refine .v (ld1 rfl tO3 (cellB (off := 0) (k := 0) rfl rfl)) rfl rfl rfl ?_
          refine .v (bi rfl rfl rfl) rfl rfl rfl ?_
          refine .v (mv rfl) rfl rfl rfl ?_
          rcases Bool.eq_false_or_eq_true (((r4.1.length : Nat) : Int) != n_.events) with q815 | q815
          · replace hF := hF.1 q815
            refine .gS rfl rfl rfl q815 rfl rfl ?_
            refine .gS rfl rfl rfl q815 rfl rfl ?_
            refine .gS rfl rfl rfl q815 rfl rfl ?_
            refine .gS rfl rfl rfl q815 rfl rfl ?_
            refine .gS rfl rfl rfl q815 rfl rfl ?_
            refine .gS rfl rfl rfl q815 rfl rfl ?_
            refine .gS rfl rfl rfl q815 rfl rfl ?_
            refine .gS rfl rfl rfl q815 rfl rfl ?_
            refine .gS rfl rfl rfl q815 rfl rfl ?_
            refine .gS rfl rfl rfl q815 rfl rfl ?_
            refine .gS rfl rfl rfl q815 rfl rfl ?_
            refine .gS rfl rfl rfl q815 rfl rfl ?_
            refine .v (pkT rfl q815 rfl) rfl rfl rfl ?_
            refine .fin ?_
            exact .use q813 true hF (.cons rfl (.cons rfl (.cons rfl (.cons rfl (.cons rfl (.cons rfl (.cons rfl (.cons rfl (.cons rfl (.cons rfl (.cons rfl (.cons rfl (.nil))))))))))))) rfl (FH.le_refl _)
          replace hF := hF.2 q815
          refine .gv (mv rfl) rfl rfl rfl q815 rfl rfl ?_
          refine .gv (mv rfl) rfl rfl rfl q815 rfl rfl ?_
          obtain ⟨q816, hF⟩ := hF
          refine .gv (ix rfl rfl tS32 (q12.ne (by decide) (inb_pos q816)) q816) rfl rfl rfl q815 rfl rfl ?_
          refine .gv (ld1 (v := .int .i64 (gt r4.1 k7)) rfl tO3 (cellH ((q12.mono (le3)).elemF q816 (by decide) 0 _ rfl))) rfl rfl rfl q815 rfl rfl ?_
          refine .gv (mv rfl) rfl rfl rfl q815 rfl rfl ?_
          refine .gv (mv rfl) rfl rfl rfl q815 rfl rfl ?_
          obtain ⟨q817, hF⟩ := hF
          refine .gv (ix rfl rfl tS25 (q62.ne (by decide) (inb_pos q817)) q817) rfl rfl rfl q815 rfl rfl ?_
          obtain ⟨_, ⟨a4, c4, rfl, q818, q819⟩, q820⟩ := q62.elem q817
          refine .gv (ld1 (v := .slice a4 ((gt r8.1 k7).length) c4) rfl tO32 (cellH (q820 (by decide) 0 _ rfl))) rfl rfl rfl q815 rfl rfl ?_
          obtain ⟨q821, hF⟩ := hF
          refine .gv (ix rfl rfl tS32 (q819.ne (by decide) (inb_pos q821)) q821) rfl rfl rfl q815 rfl rfl ?_
          refine .gv (ld1 (v := .int .i64 (gt (gt r8.1 k7) (0 : Int))) rfl tO3 (cellH (q819.elemF q821 (by decide) 0 _ rfl))) rfl rfl rfl q815 rfl rfl ?_
          refine .gv (un rfl) rfl rfl rfl q815 rfl rfl ?_
          obtain ⟨x19, q822⟩ : ∃ y_ : Bool, y_ = ((gt r4.1 k7) != (IntKind.i64.wrap (0 - (gt (gt r8.1 k7) (0 : Int))))) := ⟨_, rfl⟩
          replace hF := hF x19 q822
          refine .gv (v := .bool x19) (by rw [q822]; exact bi rfl rfl rfl) rfl rfl rfl q815 rfl rfl ?_
          refine .v (pkF rfl q815 rfl) rfl rfl rfl ?_
          refine .fin ?_
          exact .use q813 x19 hF (.cons rfl (.cons rfl (.cons rfl (.cons rfl (.cons rfl (.cons rfl (.cons rfl (.cons rfl (.cons rfl (.cons rfl (.cons rfl (.cons rfl (.nil))))))))))))) rfl (FH.le_refl _)
        replace hF := hF.2 q768
        refine .exit ?_
        refine .seqX ?_
        refine .seqX ?_
        refine .blkX ?_
        exact .use q243 () hF (.cons rfl (.cons rfl (.cons rfl (.cons rfl (.cons rfl (.cons rfl (.cons rfl (.cons rfl (.nil))))))))) rfl (FH.le_refl _)
      replace hF := hF.2 q652
      refine .seq ?_
      refine .region ?_
      refine .v (mv rfl) rfl rfl rfl ?_
      refine .v (ln rfl tS32.is) rfl rfl rfl ?_
      refine .v (bi rfl rfl rfl) rfl rfl rfl ?_
      refine .nil ?_
      refine .seqN ?_
      refine .cond rfl (fun q823 => ?_) (fun q823 => ?_)
      · replace hF := hF.1 q823
        refine .seq ?_
        refine .region ?_
        refine .v (asg rfl) rfl rfl rfl ?_
        refine .nil ?_
        refine .seqN ?_
        refine .ret ?_
        refine .seqR ?_
        refine .res1 rfl (rvT rfl) (fun w' S => ⟨false, hF, rfl, S.below⟩)
      replace hF := hF.2 q823
      refine .skip ?_
      exact .use q243 () hF (.cons rfl (.cons rfl (.cons rfl (.cons rfl (.cons rfl (.cons rfl (.cons rfl (.cons rfl (.nil))))))))) rfl (FH.le_refl _)
    refine .region ?_
    refine .v (mv rfl) rfl rfl rfl ?_
    refine .v (mv rfl) rfl rfl rfl ?_
    refine .v (bneq Try.underlying4 rfl rfl) rfl rfl rfl ?_
    refine .v (mv rfl) rfl rfl rfl ?_
    rcases Bool.eq_false_or_eq_true (r3.2.1 != r8.2) with q824 | q824
    · replace hF := hF.1 q824
      refine .gS rfl rfl rfl q824 rfl rfl ?_
      refine .gS rfl rfl rfl q824 rfl rfl ?_
      refine .gS rfl rfl rfl q824 rfl rfl ?_
      refine .v (pkT rfl q824 rfl) rfl rfl rfl ?_
      refine .v (mv rfl) rfl rfl rfl ?_
      refine .gS rfl rfl rfl rfl rfl rfl ?_
      refine .gS rfl rfl rfl rfl rfl rfl ?_
      refine .gS rfl rfl rfl rfl rfl rfl ?_
      refine .gS rfl rfl rfl rfl rfl rfl ?_
      refine .v (pkT rfl rfl rfl) rfl rfl rfl ?_
      refine .nil ?_
      exact .use q68 true hF (.cons rfl (.cons rfl (.cons rfl (.cons rfl (.cons rfl (.cons rfl (.cons rfl (.cons rfl (.cons rfl (.cons rfl (.cons rfl (.cons rfl (.nil))))))))))))) rfl (FH.le_refl _)
    replace hF := hF.2 q824
    refine .gv (mv rfl) rfl rfl rfl q824 rfl rfl ?_
    refine .gv (mv rfl) rfl rfl rfl q824 rfl rfl ?_
    refine .gv (bneq Try.underlying4 rfl rfl) rfl rfl rfl q824 rfl rfl ?_
    refine .v (pkF rfl q824 rfl) rfl rfl rfl ?_
    refine .v (mv rfl) rfl rfl rfl ?_
    rcases Bool.eq_false_or_eq_true (r4.2.1 != r8.2) with q825 | q825
    · replace hF := hF.1 q825
      refine .gS rfl rfl rfl q825 rfl rfl ?_
      refine .gS rfl rfl rfl q825 rfl rfl ?_
      refine .gS rfl rfl rfl q825 rfl rfl ?_
      refine .gS rfl rfl rfl q825 rfl rfl ?_
      refine .v (pkT rfl q825 rfl) rfl rfl rfl ?_
      refine .nil ?_
      exact .use q68 true hF (.cons rfl (.cons rfl (.cons rfl (.cons rfl (.cons rfl (.cons rfl (.cons rfl (.cons rfl (.cons rfl (.cons rfl (.cons rfl (.cons rfl (.nil))))))))))))) rfl (FH.le_refl _)
    replace hF := hF.2 q825
    refine .gv (mv rfl) rfl rfl rfl q825 rfl rfl ?_
    refine .gv (mv rfl) rfl rfl rfl q825 rfl rfl ?_
    obtain ⟨q826, hF⟩ := hF
    obtain ⟨r20, q827⟩ : ∃ y_ : Bool, y_ = sp_sets r3.1 r8.1 := ⟨_, rfl⟩
    replace hF := hF r20 q827
    refine .gc (cl (v := .bool r20) Try.call24 rfl rfl (fun w S => (by rw [q827]; exact c_sets S.sub r3.1 a c (q9.mono (FH.le_trans (le2) (le3))) q10 r8.1 a3 c3 q62 q63 q826))) rfl rfl rfl q825 rfl rfl ?_
    refine .gv (nt rfl) rfl rfl rfl q825 rfl rfl ?_
    refine .v (pkF rfl q825 rfl) rfl rfl rfl ?_
    refine .nil ?_
    exact .use q68 (!r20) hF (.cons rfl (.cons rfl (.cons rfl (.cons rfl (.cons rfl (.cons rfl (.cons rfl (.cons rfl (.cons rfl (.cons rfl (.cons rfl (.cons rfl (.nil))))))))))))) rfl (FH.le_refl _)
  refine .open_ (by kernel_rfl) (by kernel_rfl) ?_
  refine .v (ldA (cs := [.int .i64 n_.events, .slice an_ n_.links.length cn_]) rfl tA24 rfl (cellsB (off := 0) (k := 5) rfl (m := 2) rfl)) rfl rfl rfl ?_
  obtain ⟨r21, q828⟩ : ∃ y_ : Fault, y_ = sp_validate n_ := ⟨_, rfl⟩
  replace hF := hF r21 q828
  refine .c (cl (v := .agg #[.int .i64 r21.code, .int .i64 r21.index]) Try.call22 rfl rfl (fun w S => (by rw [q828]; exact c_validate S.sub n_ an_ cn_ (_q1.mono (FH.le_trans (le1) (le2))) _q2 ))) rfl rfl rfl ?_
  refine .v (ldA (cs := [.int .i64 r2.code, .int .i64 r2.index]) rfl tA27 rfl (cellsB (off := 0) (k := 4) rfl (m := 2) rfl)) rfl rfl rfl ?_
  refine .v (ne2 tE27 rfl rfl) rfl rfl rfl ?_
  refine .v (mv rfl) rfl rfl rfl ?_
  rcases Bool.eq_false_or_eq_true (!((r21.code == r2.code) && (r21.index == r2.index))) with q829 | q829
  · replace hF := hF.1 q829
    refine .gS rfl rfl rfl q829 rfl rfl ?_
    refine .gS rfl rfl rfl q829 rfl rfl ?_
    refine .gS rfl rfl rfl q829 rfl rfl ?_
    refine .v (pkT rfl q829 rfl) rfl rfl rfl ?_
    refine .v (mv rfl) rfl rfl rfl ?_
    refine .gS rfl rfl rfl rfl rfl rfl ?_
    refine .gS rfl rfl rfl rfl rfl rfl ?_
    refine .gS rfl rfl rfl rfl rfl rfl ?_
    refine .v (pkT rfl rfl rfl) rfl rfl rfl ?_
    refine .fin ?_
    refine .sel0 [5, 4, 1, 0] (by decide) rfl ?_
    exact .use q19 true hF (.cons rfl (.cons rfl (.cons rfl (.cons rfl (.cons rfl (.cons rfl (.cons rfl (.cons rfl (.cons rfl (.cons rfl (.cons rfl (.cons rfl (.cons rfl (.nil)))))))))))))) rfl (FH.le_refl _)
  replace hF := hF.2 q829
  refine .gv (ldA (cs := [.int .i64 r3.2.2.code, .int .i64 r3.2.2.index]) rfl tA27 rfl (cellsB (off := 0) (k := 3) rfl (m := 2) rfl)) rfl rfl rfl q829 rfl rfl ?_
  refine .gv (ldA (cs := [.int .i64 r2.code, .int .i64 r2.index]) rfl tA27 rfl (cellsB (off := 0) (k := 4) rfl (m := 2) rfl)) rfl rfl rfl q829 rfl rfl ?_
  refine .gv (ne2 tE27 rfl rfl) rfl rfl rfl q829 rfl rfl ?_
  refine .v (pkF rfl q829 rfl) rfl rfl rfl ?_
  refine .v (mv rfl) rfl rfl rfl ?_
  rcases Bool.eq_false_or_eq_true (!((r3.2.2.code == r2.code) && (r3.2.2.index == r2.index))) with q830 | q830
  · replace hF := hF.1 q830
    refine .gS rfl rfl rfl q830 rfl rfl ?_
    refine .gS rfl rfl rfl q830 rfl rfl ?_
    refine .gS rfl rfl rfl q830 rfl rfl ?_
    refine .v (pkT rfl q830 rfl) rfl rfl rfl ?_
    refine .fin ?_
    refine .sel0 [5, 4, 1, 0] (by decide) rfl ?_
    exact .use q19 true hF (.cons rfl (.cons rfl (.cons rfl (.cons rfl (.cons rfl (.cons rfl (.cons rfl (.cons rfl (.cons rfl (.cons rfl (.cons rfl (.cons rfl (.cons rfl (.nil)))))))))))))) rfl (FH.le_refl _)
  replace hF := hF.2 q830
  refine .gv (ldA (cs := [.int .i64 r4.2.2.code, .int .i64 r4.2.2.index]) rfl tA27 rfl (cellsB (off := 0) (k := 2) rfl (m := 2) rfl)) rfl rfl rfl q830 rfl rfl ?_
  refine .gv (ldA (cs := [.int .i64 r2.code, .int .i64 r2.index]) rfl tA27 rfl (cellsB (off := 0) (k := 4) rfl (m := 2) rfl)) rfl rfl rfl q830 rfl rfl ?_
  refine .gv (ne2 tE27 rfl rfl) rfl rfl rfl q830 rfl rfl ?_
  refine .v (pkF rfl q830 rfl) rfl rfl rfl ?_
  refine .fin ?_
  refine .sel0 [5, 4, 1, 0] (by decide) rfl ?_
  exact .use q19 (!((r4.2.2.code == r2.code) && (r4.2.2.index == r2.index))) hF (.cons rfl (.cons rfl (.cons rfl (.cons rfl (.cons rfl (.cons rfl (.cons rfl (.cons rfl (.cons rfl (.cons rfl (.cons rfl (.cons rfl (.cons rfl (.nil)))))))))))))) rfl (FH.le_refl _)

theorem c_lawMatchesSpec {h : FH} {w : World} (hs : Sub h w) (n_ : Network) (an_ : Option Addr) (cn_ : Nat) (_q1 : RSl h an_ n_.links) (_q2 : n_.links.length ≤ cn_) (times : List Int) (atimes : Option Addr) (ctimes : Nat) (_q3 : RSl h atimes times) (_q4 : times.length ≤ ctimes) (cycle : List Int) (acycle : Option Addr) (ccycle : Nat) (_q5 : RSl h acycle cycle) (_q6 : cycle.length ≤ ccycle) : Calls Try.prog 7 #[.agg #[.int .i64 n_.events, .slice an_ n_.links.length cn_], .slice atimes times.length ctimes, .slice acycle cycle.length ccycle] w fun e w' => e = .returned (.bool (sp_lawMatchesSpec n_ times cycle)) ∧ Below w.heap.size w w' :=
  (w_lawMatchesSpec hs n_ an_ cn_ _q1 _q2 times atimes ctimes _q3 _q4 cycle acycle ccycle _q5 _q6 (fun r => r = sp_lawMatchesSpec n_ times cycle) (ok_lawMatchesSpec n_ times cycle)).mono fun _ _ ⟨_, hk, he, hb⟩ => ⟨by rw [he, hk], hb⟩

end Go.Proofs.Ytijicdmpidbacaa.Pl
