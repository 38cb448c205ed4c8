/- The walks: from what each function asks to what it does; printed from the code. No condition. -/
import Derived.Test.YtihbfbofbdkmbaaW1
namespace Go.Proofs.Ytihbfbofbdkmbaa.Pl
open Go Go.RowKit
set_option maxHeartbeats 8000000 in
theorem w_orderFault {h : FH} {w : World} (hs : Sub h w) (n_ : Int) (before : List (Int × Int)) (abefore : Option Addr) (cbefore : Nat) (_q1 : RSl h abefore before) (_q2 : before.length ≤ cbefore) (K : Fault → Prop) (hF : F_orderFault n_ before K) : Calls Try.prog 45 #[.int .i64 n_, .slice abefore before.length cbefore] w fun e w' => ∃ r : Fault, K r ∧ e = .returned (.agg #[.int .i64 r.code, .int .i64 r.index]) ∧ Below w.heap.size w w' := by
  refine enter (args := [.int .i64 n_, .slice abefore before.length cbefore]) Try.func45 rfl Try.ntmps45 rfl hs ?_
  refine .seq ?_
  refine .region ?_
  refine al tZ28 rfl (fun pv => ?_)
  refine .nil ?_
  refine .seqN ?_
  refine .seq ?_
  refine .share (σ := Bool) (fun z => F_orderFault_J1 n_ before K z) (fun z => [(0, .int .i64 n_), (1, .slice abefore before.length cbefore), (4, .pointer (some pv)), (14, .bool z)]) (fun _ => [Box pv [.int .i64 0, .int .i64 0]]) (fun _ => h) ?_ (fun q4 => ?_)
  · rintro t14 hF
    show J _ _ _ _ _ [(0, .int .i64 n_), (1, .slice abefore before.length cbefore), (4, .pointer (some pv)), (14, .bool t14)] [Box pv [.int .i64 0, .int .i64 0]] h
    refine .cond rfl (fun q6 => ?_) (fun q6 => ?_)
    · replace hF := hF.1 q6
      refine .seq ?_
      refine .region ?_
      refine .v (bld (cs := #[.int .i64 2, .int .i64 (-5)]) (pv := [(0, .int .i64 2), (1, .int .i64 (-5))]) tB28 rfl rfl) rfl rfl rfl ?_
      refine st (p := pv) (off := 0) (k := 0) (vs := [.int .i64 2, .int .i64 (-5)]) rfl rfl rfl (fun w => (tA28 w).2) rfl rfl rfl rfl ?_
      refine .cast (A' := [Box pv [.int .i64 2, .int .i64 (-5)]]) rfl ?_
      refine .nil ?_
      refine .seqN ?_
      refine .ret ?_
      refine .seqR ?_
      refine .res1 rfl (rvC rfl tA28 (k := 0) rfl rfl) (fun w' S => ⟨(⟨2, (-5)⟩ : Fault), hF, rfl, S.below⟩)
    replace hF := hF.2 q6
    refine .skip ?_
    refine .seqN ?_
    refine .seq ?_
    refine .seq ?_
    refine .region ?_
    refine .v (mv rfl) rfl rfl rfl ?_
    refine .v (ln rfl tS26.is) rfl rfl rfl ?_
    refine .v (bi rfl rfl rfl) rfl rfl rfl ?_
    refine .nil ?_
    refine .seqN ?_
    refine .cond rfl (fun q8 => ?_) (fun q8 => ?_)
    · replace hF := hF.1 q8
      refine .seq ?_
      refine .region ?_
      refine .v (bld (cs := #[.int .i64 2, .int .i64 (-8)]) (pv := [(0, .int .i64 2), (1, .int .i64 (-8))]) tB28 rfl rfl) rfl rfl rfl ?_
      refine st (p := pv) (off := 0) (k := 0) (vs := [.int .i64 2, .int .i64 (-8)]) rfl rfl rfl (fun w => (tA28 w).2) rfl rfl rfl rfl ?_
      refine .cast (A' := [Box pv [.int .i64 2, .int .i64 (-8)]]) rfl ?_
      refine .nil ?_
      refine .seqN ?_
      refine .ret ?_
      refine .seqR ?_
      refine .res1 rfl (rvC rfl tA28 (k := 0) rfl rfl) (fun w' S => ⟨(⟨2, (-8)⟩ : Fault), hF, rfl, S.below⟩)
    replace hF := hF.2 q8
    refine .skip ?_
    refine .seqN ?_
    refine .seq ?_
    refine .seq ?_
    refine .region ?_
    refine .v (mv rfl) rfl rfl rfl ?_
    refine .v (ln rfl tS26.is) rfl rfl rfl ?_
    refine .v (mv rfl) rfl rfl rfl ?_
    refine .nil ?_
    refine .seqN ?_
    refine .block ?_
    obtain ⟨I1, μ1, q161, q162⟩ := hF
    refine .loop' (σ := Int) (fun z => I1 z) (fun z => μ1 z) (fun z => [(0, .int .i64 n_), (1, .slice abefore before.length cbefore), (4, .pointer (some pv)), (20, .slice abefore before.length cbefore), (21, .int .i64 ((before.length : Nat) : Int)), (22, .int .i64 z)]) (fun _ => [Box pv [.int .i64 0, .int .i64 0]]) (fun _ => h) 0 q161 (.cons rfl (.cons rfl (.cons rfl (.cons rfl (.cons rfl (.cons rfl (.nil))))))) rfl (FH.le_refl _) ?_
    rintro t22 q161
    have hF := q162 t22 q161
    show J _ _ _ _ _ [(0, .int .i64 n_), (1, .slice abefore before.length cbefore), (4, .pointer (some pv)), (20, .slice abefore before.length cbefore), (21, .int .i64 ((before.length : Nat) : Int)), (22, .int .i64 t22)] [Box pv [.int .i64 0, .int .i64 0]] h
    refine .seq ?_
    refine .region ?_
    refine .v (bi rfl rfl rfl) rfl rfl rfl ?_
    refine .nil ?_
    refine .seqN ?_
    refine .seq ?_
    refine .cond rfl (fun q165 => ?_) (fun q165 => ?_)
    · replace hF := hF.1 q165
      refine .skip ?_
      refine .seqN ?_
      refine .seq ?_
      refine .block ?_
      refine .seq ?_
      refine .region ?_
      refine .v (mv rfl) rfl rfl rfl ?_
      obtain ⟨q184, hF⟩ := hF
      refine .v (ix rfl rfl tS26 (_q1.ne (by decide) (inb_pos q184)) q184) rfl rfl rfl ?_
      refine .v (ldA (cs := [.int .i64 ((gt before t22).1), .int .i64 ((gt before t22).2)]) rfl tA43 rfl (cellsH (_q1.elemF q184 (by decide)))) rfl rfl rfl ?_
      refine al tZ43 rfl (fun pb => ?_)
      refine .v (asg rfl) rfl rfl rfl ?_
      refine st (p := pb) (off := 0) (k := 0) (vs := [.int .i64 ((gt before t22).1), .int .i64 ((gt before t22).2)]) rfl rfl rfl (fun w => (tA43 w).2) rfl rfl rfl rfl ?_
      refine .cast (A' := [Box pb [.int .i64 ((gt before t22).1), .int .i64 ((gt before t22).2)], Box pv [.int .i64 0, .int .i64 0]]) rfl ?_
      refine .nil ?_
      refine .seqN ?_
      refine .share (σ := Bool) (fun z => F_orderFault_J2 K z t22 I1 μ1) (fun z => [(0, .int .i64 n_), (1, .slice abefore before.length cbefore), (4, .pointer (some pv)), (5, .int .i64 t22), (20, .slice abefore before.length cbefore), (21, .int .i64 ((before.length : Nat) : Int)), (22, .int .i64 t22), (41, .bool z)]) (fun _ => [Box pv [.int .i64 0, .int .i64 0]]) (fun _ => h) ?_ (fun q188 => ?_)
      · rintro t41 hF
        show J _ _ _ _ _ [(0, .int .i64 n_), (1, .slice abefore before.length cbefore), (4, .pointer (some pv)), (5, .int .i64 t22), (20, .slice abefore before.length cbefore), (21, .int .i64 ((before.length : Nat) : Int)), (22, .int .i64 t22), (41, .bool t41)] [Box pv [.int .i64 0, .int .i64 0]] h
        refine .cond rfl (fun q189 => ?_) (fun q189 => ?_)
        · replace hF := hF.1 q189
          refine .seq ?_
          refine .region ?_
          refine .v (mv rfl) rfl rfl rfl ?_
          refine .v (bi rfl rfl rfl) rfl rfl rfl ?_
          refine .v (bld (cs := #[.int .i64 3, .int .i64 (IntKind.i64.wrap ((-9) - t22))]) (pv := [(0, .int .i64 3), (1, .int .i64 (IntKind.i64.wrap ((-9) - t22)))]) tB28 rfl rfl) rfl rfl rfl ?_
          refine st (p := pv) (off := 0) (k := 0) (vs := [.int .i64 3, .int .i64 (IntKind.i64.wrap ((-9) - t22))]) rfl rfl rfl (fun w => (tA28 w).2) rfl rfl rfl rfl ?_
          refine .cast (A' := [Box pv [.int .i64 3, .int .i64 (IntKind.i64.wrap ((-9) - t22))]]) rfl ?_
          refine .nil ?_
          refine .seqN ?_
          refine .ret ?_
          refine .blkR ?_
          refine .seqR ?_
          refine .seqR ?_
          refine .blkR ?_
          refine .seqR ?_
          refine .res1 rfl (rvC rfl tA28 (k := 0) rfl rfl) (fun w' S => ⟨(⟨3, IntKind.i64.wrap ((-9) - t22)⟩ : Fault), hF, rfl, S.below⟩)
        replace hF := hF.2 q189
        refine .skip ?_
        refine .blkN ?_
        refine .seqN ?_
        refine .region ?_
        refine .v (bi rfl rfl rfl) rfl rfl rfl ?_
        refine .v (mv rfl) rfl rfl rfl ?_
        refine .nil ?_
        exact .round (IntKind.i64.wrap (t22 + 1)) hF.1 hF.2 (.cons rfl (.cons rfl (.cons rfl (.cons rfl (.cons rfl (.cons rfl (.nil))))))) rfl (FH.le_refl _)
      refine .region ?_
      refine .v (ixA rfl rfl tR43 (by decide) rfl) rfl rfl rfl ?_
      refine .v (ld1 rfl tO3 (cellB (off := 0) (k := 0) rfl rfl)) rfl rfl rfl ?_
      refine .v (ixA rfl rfl tR43 (by decide) rfl) rfl rfl rfl ?_
      refine .v (ld1 rfl tO3 (cellB (off := 1) (k := 0) rfl rfl)) rfl rfl rfl ?_
      obtain ⟨x, q190⟩ : ∃ y_ : Int, y_ = (if ((gt before t22).2) < ((gt before t22).1) then ((gt before t22).2) else ((gt before t22).1)) := ⟨_, rfl⟩
      replace hF := hF x q190
      refine .v (v := .int .i64 x) (by rw [q190]; exact mn rfl rfl) rfl rfl rfl ?_
      refine .v (bi rfl rfl rfl) rfl rfl rfl ?_
      refine .v (mv rfl) rfl rfl rfl ?_
      rcases Bool.eq_false_or_eq_true (decide (x < 0)) with q191 | q191
      · replace hF := hF.1 q191
        refine .gS rfl rfl rfl q191 rfl rfl ?_
        refine .gS rfl rfl rfl q191 rfl rfl ?_
        refine .gS rfl rfl rfl q191 rfl rfl ?_
        refine .gS rfl rfl rfl q191 rfl rfl ?_
        refine .gS rfl rfl rfl q191 rfl rfl ?_
        refine .gS rfl rfl rfl q191 rfl rfl ?_
        refine .gS rfl rfl rfl q191 rfl rfl ?_
        refine .v (pkT rfl q191 rfl) rfl rfl rfl ?_
        refine .nil ?_
        refine .sel0 [1] (by decide) rfl ?_
        exact .use q188 true hF (.cons rfl (.cons rfl (.cons rfl (.cons rfl (.cons rfl (.cons rfl (.cons rfl (.cons rfl (.nil))))))))) rfl (FH.le_refl _)
      replace hF := hF.2 q191
      refine .gv (ixA rfl rfl tR43 (by decide) rfl) rfl rfl rfl q191 rfl rfl ?_
      refine .gv (ld1 rfl tO3 (cellB (off := 0) (k := 0) rfl rfl)) rfl rfl rfl q191 rfl rfl ?_
      refine .gv (ixA rfl rfl tR43 (by decide) rfl) rfl rfl rfl q191 rfl rfl ?_
      refine .gv (ld1 rfl tO3 (cellB (off := 1) (k := 0) rfl rfl)) rfl rfl rfl q191 rfl rfl ?_
      obtain ⟨x2, q192⟩ : ∃ y_ : Int, y_ = (if ((gt before t22).1) < ((gt before t22).2) then ((gt before t22).2) else ((gt before t22).1)) := ⟨_, rfl⟩
      replace hF := hF x2 q192
      refine .gv (v := .int .i64 x2) (by rw [q192]; exact mx rfl rfl) rfl rfl rfl q191 rfl rfl ?_
      refine .gv (mv rfl) rfl rfl rfl q191 rfl rfl ?_
      refine .gv (bi rfl rfl rfl) rfl rfl rfl q191 rfl rfl ?_
      refine .v (pkF rfl q191 rfl) rfl rfl rfl ?_
      refine .nil ?_
      refine .sel0 [1] (by decide) rfl ?_
      exact .use q188 (decide (n_ ≤ x2)) hF (.cons rfl (.cons rfl (.cons rfl (.cons rfl (.cons rfl (.cons rfl (.cons rfl (.cons rfl (.nil))))))))) rfl (FH.le_refl _)
    replace hF := hF.2 q165
    refine .exit ?_
    refine .seqX ?_
    refine .seqX ?_
    refine .blkX ?_
    refine .seqN ?_
    refine .seq ?_
    refine .seq ?_
    refine .region ?_
    refine .v (mv rfl) rfl rfl rfl ?_
    refine .v (mv rfl) rfl rfl rfl ?_
    obtain ⟨q193, hF⟩ := hF
    obtain ⟨r2, q194⟩ : ∃ y_ : List (List Bool) × Bool, y_ = sp_closure n_ before := ⟨_, rfl⟩
    replace hF := hF r2 q194
    refine clR (α := Option Addr × Nat) (Φ := fun h1 z => RSl h1 z.1 r2.1 ∧ r2.1.length ≤ z.2) (V := fun z => .tuple #[.slice z.1 r2.1.length z.2, .bool r2.2]) Try.call46 rfl rfl (fun w S => (by rw [q194]; exact c_closure S.sub n_ before abefore cbefore _q1 _q2 q193)) rfl (fun z h1 le1 hz => ?_)
    obtain ⟨a, c⟩ := z
    obtain ⟨q195, q196⟩ := hz
    refine .v (mv rfl) rfl rfl rfl ?_
    refine .v (ext rfl rfl) rfl rfl rfl ?_
    refine .v (ext rfl rfl) rfl rfl rfl ?_
    refine .v (asg rfl) rfl rfl rfl ?_
    refine .v (asg rfl) rfl rfl rfl ?_
    refine .nil ?_
    refine .seqN ?_
    refine .seq ?_
    refine .region ?_
    refine .v (mv rfl) rfl rfl rfl ?_
    refine .v (nt rfl) rfl rfl rfl ?_
    refine .nil ?_
    refine .seqN ?_
    refine .cond rfl (fun q198 => ?_) (fun q198 => ?_)
    · replace hF := hF.1 q198
      refine .seq ?_
      refine .region ?_
      refine .v (bld (cs := #[.int .i64 14, .int .i64 (-8)]) (pv := [(0, .int .i64 14), (1, .int .i64 (-8))]) tB28 rfl rfl) rfl rfl rfl ?_
      refine st (p := pv) (off := 0) (k := 0) (vs := [.int .i64 14, .int .i64 (-8)]) rfl rfl rfl (fun w => (tA28 w).2) rfl rfl rfl rfl ?_
      refine .cast (A' := [Box pv [.int .i64 14, .int .i64 (-8)]]) rfl ?_
      refine .nil ?_
      refine .seqN ?_
      refine .ret ?_
      refine .seqR ?_
      refine .res1 rfl (rvC rfl tA28 (k := 0) rfl rfl) (fun w' S => ⟨(⟨14, (-8)⟩ : Fault), hF, rfl, S.below⟩)
    replace hF := hF.2 q198
    refine .skip ?_
    refine .seqN ?_
    refine .seq ?_
    refine .region ?_
    refine .v (bld (cs := #[.int .i64 0, .int .i64 0]) (pv := []) tB28 rfl rfl) rfl rfl rfl ?_
    refine st (p := pv) (off := 0) (k := 0) (vs := [.int .i64 0, .int .i64 0]) rfl rfl rfl (fun w => (tA28 w).2) rfl rfl rfl rfl ?_
    refine .cast (A' := [Box pv [.int .i64 0, .int .i64 0]]) rfl ?_
    refine .nil ?_
    refine .seqN ?_
    refine .ret ?_
    refine .res1 rfl (rvC rfl tA28 (k := 0) rfl rfl) (fun w' S => ⟨(⟨0, 0⟩ : Fault), hF, rfl, S.below⟩)
  refine .region ?_
  refine .v (mv rfl) rfl rfl rfl ?_
  refine .v (bi rfl rfl rfl) rfl rfl rfl ?_
  refine .v (mv rfl) rfl rfl rfl ?_
  rcases Bool.eq_false_or_eq_true (decide (n_ < 0)) with q199 | q199
  · replace hF := hF.1 q199
    refine .gS rfl rfl rfl q199 rfl rfl ?_
    refine .gS rfl rfl rfl q199 rfl rfl ?_
    refine .v (pkT rfl q199 rfl) rfl rfl rfl ?_
    refine .nil ?_
    exact .use q4 true hF (.cons rfl (.cons rfl (.cons rfl (.cons rfl (.nil))))) rfl (FH.le_refl _)
  replace hF := hF.2 q199
  refine .gv (mv rfl) rfl rfl rfl q199 rfl rfl ?_
  refine .gv (bi rfl rfl rfl) rfl rfl rfl q199 rfl rfl ?_
  refine .v (pkF rfl q199 rfl) rfl rfl rfl ?_
  refine .nil ?_
  exact .use q4 (decide (7 < n_)) hF (.cons rfl (.cons rfl (.cons rfl (.cons rfl (.nil))))) rfl (FH.le_refl _)

theorem c_orderFault {h : FH} {w : World} (hs : Sub h w) (n_ : Int) (before : List (Int × Int)) (abefore : Option Addr) (cbefore : Nat) (_q1 : RSl h abefore before) (_q2 : before.length ≤ cbefore) : Calls Try.prog 45 #[.int .i64 n_, .slice abefore before.length cbefore] w fun e w' => e = .returned (.agg #[.int .i64 (sp_orderFault n_ before).code, .int .i64 (sp_orderFault n_ before).index]) ∧ Below w.heap.size w w' :=
  (w_orderFault hs n_ before abefore cbefore _q1 _q2 (fun r => r = sp_orderFault n_ before) (ok_orderFault n_ before)).mono fun _ _ ⟨_, hk, he, hb⟩ => ⟨by rw [he, hk], hb⟩

theorem w_ready {h : FH} {w : World} (hs : Sub h w) (before : List (Int × Int)) (abefore : Option Addr) (cbefore : Nat) (_q1 : RSl h abefore before) (_q2 : before.length ≤ cbefore) (done : List Int) (adone : Option Addr) (cdone : Nat) (_q3 : RSl h adone done) (_q4 : done.length ≤ cdone) (i : Int) (K : Bool → Prop) (hF : F_ready before done i K) : Calls Try.prog 48 #[.slice abefore before.length cbefore, .slice adone done.length cdone, .int .i64 i] w fun e w' => ∃ r : Bool, K r ∧ e = .returned (.bool r) ∧ Below w.heap.size w w' := by
  refine enter (args := [.slice abefore before.length cbefore, .slice adone done.length cdone, .int .i64 i]) Try.func48 rfl Try.ntmps48 rfl hs ?_
  refine .seq ?_
  refine .region ?_
  refine .v (asg rfl) rfl rfl rfl ?_
  refine .nil ?_
  refine .seqN ?_
  refine .seq ?_
  refine .seq ?_
  refine .region ?_
  refine .v (asg rfl) rfl rfl rfl ?_
  refine .nil ?_
  refine .seqN ?_
  refine .block ?_
  obtain ⟨I1, μ1, q167, q168⟩ := hF
  refine .loop' (σ := Int) (fun z => I1 z) (fun z => μ1 z) (fun z => [(0, .slice abefore before.length cbefore), (1, .slice adone done.length cdone), (2, .int .i64 i), (7, .int .i64 z)]) (fun _ => []) (fun _ => h) 0 q167 (.cons rfl (.cons rfl (.cons rfl (.cons rfl (.nil))))) rfl (FH.le_refl _) ?_
  rintro k q167
  have hF := q168 k q167
  show J _ _ _ _ _ [(0, .slice abefore before.length cbefore), (1, .slice adone done.length cdone), (2, .int .i64 i), (7, .int .i64 k)] [] h
  refine .seq ?_
  refine .seq ?_
  refine .region ?_
  refine .v (mv rfl) rfl rfl rfl ?_
  refine .v (mv rfl) rfl rfl rfl ?_
  refine .v (ln rfl tS26.is) rfl rfl rfl ?_
  refine .v (bi rfl rfl rfl) rfl rfl rfl ?_
  refine .nil ?_
  refine .seqN ?_
  refine .cond rfl (fun q170 => ?_) (fun q170 => ?_)
  · replace hF := hF.1 q170
    refine .skip ?_
    refine .seqN ?_
    refine .seq ?_
    refine .block ?_
    refine .share (σ := Bool) (fun z => F_ready_J1 K z k I1 μ1) (fun z => [(0, .slice abefore before.length cbefore), (1, .slice adone done.length cdone), (2, .int .i64 i), (7, .int .i64 k), (30, .bool z)]) (fun _ => []) (fun _ => h) ?_ (fun q195 => ?_)
    · rintro t30 hF
      show J _ _ _ _ _ [(0, .slice abefore before.length cbefore), (1, .slice adone done.length cdone), (2, .int .i64 i), (7, .int .i64 k), (30, .bool t30)] [] h
      refine .cond rfl (fun q196 => ?_) (fun q196 => ?_)
      · replace hF := hF.1 q196
        refine .seq ?_
        refine .region ?_
        refine .v (asg rfl) rfl rfl rfl ?_
        refine .nil ?_
        refine .seqN ?_
        refine .ret ?_
        refine .blkR ?_
        refine .seqR ?_
        refine .seqR ?_
        refine .blkR ?_
        refine .seqR ?_
        refine .res1 rfl (rvT rfl) (fun w' S => ⟨false, hF, rfl, S.below⟩)
      replace hF := hF.2 q196
      refine .skip ?_
      refine .blkN ?_
      refine .seqN ?_
      refine .region ?_
      refine .v (mv rfl) rfl rfl rfl ?_
      refine .v (bi rfl rfl rfl) rfl rfl rfl ?_
      refine .v (asg rfl) rfl rfl rfl ?_
      refine .nil ?_
      exact .round (IntKind.i64.wrap (k + 1)) hF.1 hF.2 (.cons rfl (.cons rfl (.cons rfl (.cons rfl (.nil))))) rfl (FH.le_refl _)
    refine .region ?_
    refine .v (mv rfl) rfl rfl rfl ?_
    refine .v (mv rfl) rfl rfl rfl ?_
    obtain ⟨q197, hF⟩ := hF
    refine .v (ix rfl rfl tS26 (_q1.ne (by decide) (inb_pos q197)) q197) rfl rfl rfl ?_
    refine .v (ixA rfl rfl tR43 (by decide) rfl) rfl rfl rfl ?_
    refine .v (ld1 (v := .int .i64 ((gt before k).2)) rfl tO3 (cellH (_q1.elemF q197 (by decide) 1 _ rfl))) rfl rfl rfl ?_
    refine .v (mv rfl) rfl rfl rfl ?_
    refine .v (bi rfl rfl rfl) rfl rfl rfl ?_
    refine .v (mv rfl) rfl rfl rfl ?_
    rcases Bool.eq_false_or_eq_true (((gt before k).2) == i) with q198 | q198
    · replace hF := hF.1 q198
      refine .gv (mv rfl) rfl rfl rfl q198 rfl rfl ?_
      refine .gv (mv rfl) rfl rfl rfl q198 rfl rfl ?_
      refine .gv (mv rfl) rfl rfl rfl q198 rfl rfl ?_
      refine .gv (ix rfl rfl tS26 (_q1.ne (by decide) (inb_pos q197)) q197) rfl rfl rfl q198 rfl rfl ?_
      refine .gv (ixA rfl rfl tR43 (by decide) rfl) rfl rfl rfl q198 rfl rfl ?_
      refine .gv (ld1 (v := .int .i64 ((gt before k).1)) rfl tO3 (cellH (_q1.elemF q197 (by decide) 0 _ rfl))) rfl rfl rfl q198 rfl rfl ?_
      obtain ⟨q199, hF⟩ := hF
      obtain ⟨r2, q200⟩ : ∃ y_ : Bool, y_ = sp_has done ((gt before k).1) := ⟨_, rfl⟩
      replace hF := hF r2 q200
      refine .gc (cl (v := .bool r2) Try.call74 rfl rfl (fun w S => (by rw [q200]; exact c_has S.sub done adone cdone _q3 _q4 ((gt before k).1) q199))) rfl rfl rfl q198 rfl rfl ?_
      refine .gv (nt rfl) rfl rfl rfl q198 rfl rfl ?_
      refine .v (pkT rfl q198 rfl) rfl rfl rfl ?_
      refine .nil ?_
      exact .use q195 (!r2) hF (.cons rfl (.cons rfl (.cons rfl (.cons rfl (.cons rfl (.nil)))))) rfl (FH.le_refl _)
    replace hF := hF.2 q198
    refine .gS rfl rfl rfl q198 rfl rfl ?_
    refine .gS rfl rfl rfl q198 rfl rfl ?_
    refine .gS rfl rfl rfl q198 rfl rfl ?_
    refine .gS rfl rfl rfl q198 rfl rfl ?_
    refine .gS rfl rfl rfl q198 rfl rfl ?_
    refine .gS rfl rfl rfl q198 rfl rfl ?_
    refine .gS rfl rfl rfl q198 rfl rfl ?_
    refine .gS rfl rfl rfl q198 rfl rfl ?_
    refine .v (pkF rfl q198 rfl) rfl rfl rfl ?_
    refine .nil ?_
    exact .use q195 false hF (.cons rfl (.cons rfl (.cons rfl (.cons rfl (.cons rfl (.nil)))))) rfl (FH.le_refl _)
  replace hF := hF.2 q170
  refine .exit ?_
  refine .seqX ?_
  refine .seqX ?_
  refine .blkX ?_
  refine .seqN ?_
  refine .seq ?_
  refine .region ?_
  refine .v (mv rfl) rfl rfl rfl ?_
  refine .v (mv rfl) rfl rfl rfl ?_
  obtain ⟨q201, hF⟩ := hF
  obtain ⟨r3, q202⟩ : ∃ y_ : Bool, y_ = sp_has done i := ⟨_, rfl⟩
  replace hF := hF r3 q202
  refine .c (cl (v := .bool r3) Try.call74 rfl rfl (fun w S => (by rw [q202]; exact c_has S.sub done adone cdone _q3 _q4 i q201))) rfl rfl rfl ?_
  refine .v (nt rfl) rfl rfl rfl ?_
  refine .v (asg rfl) rfl rfl rfl ?_
  refine .nil ?_
  refine .seqN ?_
  refine .ret ?_
  refine .res1 rfl (rvT rfl) (fun w' S => ⟨!r3, hF, rfl, S.below⟩)

theorem c_ready {h : FH} {w : World} (hs : Sub h w) (before : List (Int × Int)) (abefore : Option Addr) (cbefore : Nat) (_q1 : RSl h abefore before) (_q2 : before.length ≤ cbefore) (done : List Int) (adone : Option Addr) (cdone : Nat) (_q3 : RSl h adone done) (_q4 : done.length ≤ cdone) (i : Int) (hp : pre_ready before done i) : Calls Try.prog 48 #[.slice abefore before.length cbefore, .slice adone done.length cdone, .int .i64 i] w fun e w' => e = .returned (.bool (sp_ready before done i)) ∧ Below w.heap.size w w' :=
  (w_ready hs before abefore cbefore _q1 _q2 done adone cdone _q3 _q4 i (fun r => r = sp_ready before done i) (ok_ready before done i hp)).mono fun _ _ ⟨_, hk, he, hb⟩ => ⟨by rw [he, hk], hb⟩

set_option maxHeartbeats 8000000 in
theorem w_rOrderFault {h : FH} {w : World} (hs : Sub h w) (n_ : Int) (before : List (Int × Int)) (abefore : Option Addr) (cbefore : Nat) (_q1 : RSl h abefore before) (_q2 : before.length ≤ cbefore) (K : Fault → Prop) (hF : F_rOrderFault n_ before K) : Calls Try.prog 17 #[.int .i64 n_, .slice abefore before.length cbefore] w fun e w' => ∃ r : Fault, K r ∧ e = .returned (.agg #[.int .i64 r.code, .int .i64 r.index]) ∧ Below w.heap.size w w' := by
  refine enter (args := [.int .i64 n_, .slice abefore before.length cbefore]) Try.func17 rfl Try.ntmps17 rfl hs ?_
  refine .seq ?_
  refine .region ?_
  refine al tZ28 rfl (fun pv => ?_)
  refine .nil ?_
  refine .seqN ?_
  refine .seq ?_
  refine .seq ?_
  refine .region ?_
  refine .v (mv rfl) rfl rfl rfl ?_
  obtain ⟨r2, q3⟩ : ∃ y_ : Bool, y_ = sp_in_ n_ 0 7 := ⟨_, rfl⟩
  replace hF := hF r2 q3
  refine .c (cl (v := .bool r2) Try.call39 rfl rfl (fun w S => (by rw [q3]; exact c_in_ S.sub n_ 0 7 ))) rfl rfl rfl ?_
  refine .v (nt rfl) rfl rfl rfl ?_
  refine .nil ?_
  refine .seqN ?_
  refine .cond rfl (fun q6 => ?_) (fun q6 => ?_)
  · replace hF := hF.1 q6
    refine .seq ?_
    refine .region ?_
    obtain ⟨r3, q7⟩ : ∃ y_ : Fault, y_ = sp_at_ 2 (-5) := ⟨_, rfl⟩
    replace hF := hF r3 q7
    refine .c (cl (v := .agg #[.int .i64 r3.code, .int .i64 r3.index]) Try.call27 rfl rfl (fun w S => (by rw [q7]; exact c_at_ S.sub 2 (-5) ))) rfl rfl rfl ?_
    refine st (p := pv) (off := 0) (k := 0) (vs := [.int .i64 r3.code, .int .i64 r3.index]) rfl rfl rfl (fun w => (tA28 w).2) rfl rfl rfl rfl ?_
    refine .cast (A' := [Box pv [.int .i64 r3.code, .int .i64 r3.index]]) rfl ?_
    refine .nil ?_
    refine .seqN ?_
    refine .ret ?_
    refine .seqR ?_
    refine .res1 rfl (rvC rfl tA28 (k := 0) rfl rfl) (fun w' S => ⟨r3, hF, rfl, S.below⟩)
  replace hF := hF.2 q6
  refine .skip ?_
  refine .seqN ?_
  refine .seq ?_
  refine .seq ?_
  refine .region ?_
  refine .v (mv rfl) rfl rfl rfl ?_
  refine .v (ln rfl tS26.is) rfl rfl rfl ?_
  refine .v (bi rfl rfl rfl) rfl rfl rfl ?_
  refine .nil ?_
  refine .seqN ?_
  refine .cond rfl (fun q10 => ?_) (fun q10 => ?_)
  · replace hF := hF.1 q10
    refine .seq ?_
    refine .region ?_
    obtain ⟨r4, q11⟩ : ∃ y_ : Fault, y_ = sp_at_ 2 (-8) := ⟨_, rfl⟩
    replace hF := hF r4 q11
    refine .c (cl (v := .agg #[.int .i64 r4.code, .int .i64 r4.index]) Try.call27 rfl rfl (fun w S => (by rw [q11]; exact c_at_ S.sub 2 (-8) ))) rfl rfl rfl ?_
    refine st (p := pv) (off := 0) (k := 0) (vs := [.int .i64 r4.code, .int .i64 r4.index]) rfl rfl rfl (fun w => (tA28 w).2) rfl rfl rfl rfl ?_
    refine .cast (A' := [Box pv [.int .i64 r4.code, .int .i64 r4.index]]) rfl ?_
    refine .nil ?_
    refine .seqN ?_
    refine .ret ?_
    refine .seqR ?_
    refine .res1 rfl (rvC rfl tA28 (k := 0) rfl rfl) (fun w' S => ⟨r4, hF, rfl, S.below⟩)
  replace hF := hF.2 q10
  refine .skip ?_
  refine .seqN ?_
  refine .seq ?_
  refine .seq ?_
  refine .region ?_
  refine .v (asg rfl) rfl rfl rfl ?_
  refine .nil ?_
  refine .seqN ?_
  refine .block ?_
  obtain ⟨I1, μ1, q189, q190⟩ := hF
  refine .loop' (σ := Int) (fun z => I1 z) (fun z => μ1 z) (fun z => [(0, .int .i64 n_), (1, .slice abefore before.length cbefore), (4, .pointer (some pv)), (5, .int .i64 z)]) (fun _ => [Box pv [.int .i64 0, .int .i64 0]]) (fun _ => h) 0 q189 (.cons rfl (.cons rfl (.cons rfl (.cons rfl (.nil))))) rfl (FH.le_refl _) ?_
  rintro i q189
  have hF := q190 i q189
  show J _ _ _ _ _ [(0, .int .i64 n_), (1, .slice abefore before.length cbefore), (4, .pointer (some pv)), (5, .int .i64 i)] [Box pv [.int .i64 0, .int .i64 0]] h
  refine .seq ?_
  refine .seq ?_
  refine .region ?_
  refine .v (mv rfl) rfl rfl rfl ?_
  refine .v (mv rfl) rfl rfl rfl ?_
  refine .v (ln rfl tS26.is) rfl rfl rfl ?_
  refine .v (bi rfl rfl rfl) rfl rfl rfl ?_
  refine .nil ?_
  refine .seqN ?_
  refine .cond rfl (fun q192 => ?_) (fun q192 => ?_)
  · replace hF := hF.1 q192
    refine .skip ?_
    refine .seqN ?_
    refine .seq ?_
    refine .block ?_
    refine .share (σ := Bool) (fun z => F_rOrderFault_J1 K z i I1 μ1) (fun z => [(0, .int .i64 n_), (1, .slice abefore before.length cbefore), (4, .pointer (some pv)), (5, .int .i64 i), (42, .bool z)]) (fun _ => [Box pv [.int .i64 0, .int .i64 0]]) (fun _ => h) ?_ (fun q219 => ?_)
    · rintro t42 hF
      show J _ _ _ _ _ [(0, .int .i64 n_), (1, .slice abefore before.length cbefore), (4, .pointer (some pv)), (5, .int .i64 i), (42, .bool t42)] [Box pv [.int .i64 0, .int .i64 0]] h
      refine .cond rfl (fun q220 => ?_) (fun q220 => ?_)
      · replace hF := hF.1 q220
        refine .seq ?_
        refine .region ?_
        refine .v (mv rfl) rfl rfl rfl ?_
        refine .v (bi rfl rfl rfl) rfl rfl rfl ?_
        obtain ⟨r5, q221⟩ : ∃ y_ : Fault, y_ = sp_at_ 3 (IntKind.i64.wrap ((-9) - i)) := ⟨_, rfl⟩
        replace hF := hF r5 q221
        refine .c (cl (v := .agg #[.int .i64 r5.code, .int .i64 r5.index]) Try.call27 rfl rfl (fun w S => (by rw [q221]; exact c_at_ S.sub 3 (IntKind.i64.wrap ((-9) - i)) ))) rfl rfl rfl ?_
        refine st (p := pv) (off := 0) (k := 0) (vs := [.int .i64 r5.code, .int .i64 r5.index]) rfl rfl rfl (fun w => (tA28 w).2) rfl rfl rfl rfl ?_
        refine .cast (A' := [Box pv [.int .i64 r5.code, .int .i64 r5.index]]) rfl ?_
        refine .nil ?_
        refine .seqN ?_
        refine .ret ?_
        refine .blkR ?_
        refine .seqR ?_
        refine .seqR ?_
        refine .blkR ?_
        refine .seqR ?_
        refine .res1 rfl (rvC rfl tA28 (k := 0) rfl rfl) (fun w' S => ⟨r5, hF, rfl, S.below⟩)
      replace hF := hF.2 q220
      refine .skip ?_
      refine .blkN ?_
      refine .seqN ?_
      refine .region ?_
      refine .v (mv rfl) rfl rfl rfl ?_
      refine .v (bi rfl rfl rfl) rfl rfl rfl ?_
      refine .v (asg rfl) rfl rfl rfl ?_
      refine .nil ?_
      exact .round (IntKind.i64.wrap (i + 1)) hF.1 hF.2 (.cons rfl (.cons rfl (.cons rfl (.cons rfl (.nil))))) rfl (FH.le_refl _)
    refine .region ?_
    refine .v (mv rfl) rfl rfl rfl ?_
    refine .v (mv rfl) rfl rfl rfl ?_
    obtain ⟨q222, hF⟩ := hF
    refine .v (ix rfl rfl tS26 (_q1.ne (by decide) (inb_pos q222)) q222) rfl rfl rfl ?_
    refine .v (ixA rfl rfl tR43 (by decide) rfl) rfl rfl rfl ?_
    refine .v (ld1 (v := .int .i64 ((gt before i).1)) rfl tO3 (cellH (_q1.elemF q222 (by decide) 0 _ rfl))) rfl rfl rfl ?_
    refine .v (mv rfl) rfl rfl rfl ?_
    refine .v (bi rfl rfl rfl) rfl rfl rfl ?_
    obtain ⟨r6, q223⟩ : ∃ y_ : Bool, y_ = sp_in_ ((gt before i).1) 0 (IntKind.i64.wrap (n_ - 1)) := ⟨_, rfl⟩
    replace hF := hF r6 q223
    refine .c (cl (v := .bool r6) Try.call39 rfl rfl (fun w S => (by rw [q223]; exact c_in_ S.sub ((gt before i).1) 0 (IntKind.i64.wrap (n_ - 1)) ))) rfl rfl rfl ?_
    refine .v (nt rfl) rfl rfl rfl ?_
    refine .v (mv rfl) rfl rfl rfl ?_
    rcases Bool.eq_false_or_eq_true (!r6) with q224 | q224
    · replace hF := hF.1 q224
      refine .gS rfl rfl rfl q224 rfl rfl ?_
      refine .gS rfl rfl rfl q224 rfl rfl ?_
      refine .gS rfl rfl rfl q224 rfl rfl ?_
      refine .gS rfl rfl rfl q224 rfl rfl ?_
      refine .gS rfl rfl rfl q224 rfl rfl ?_
      refine .gS rfl rfl rfl q224 rfl rfl ?_
      refine .gS rfl rfl rfl q224 rfl rfl ?_
      refine .gS rfl rfl rfl q224 rfl rfl ?_
      refine .gS rfl rfl rfl q224 rfl rfl ?_
      refine .v (pkT rfl q224 rfl) rfl rfl rfl ?_
      refine .nil ?_
      exact .use q219 true hF (.cons rfl (.cons rfl (.cons rfl (.cons rfl (.cons rfl (.nil)))))) rfl (FH.le_refl _)
    replace hF := hF.2 q224
    refine .gv (mv rfl) rfl rfl rfl q224 rfl rfl ?_
    refine .gv (mv rfl) rfl rfl rfl q224 rfl rfl ?_
    refine .gv (ix rfl rfl tS26 (_q1.ne (by decide) (inb_pos q222)) q222) rfl rfl rfl q224 rfl rfl ?_
    refine .gv (ixA rfl rfl tR43 (by decide) rfl) rfl rfl rfl q224 rfl rfl ?_
    refine .gv (ld1 (v := .int .i64 ((gt before i).2)) rfl tO3 (cellH (_q1.elemF q222 (by decide) 1 _ rfl))) rfl rfl rfl q224 rfl rfl ?_
    refine .gv (mv rfl) rfl rfl rfl q224 rfl rfl ?_
    refine .gv (bi rfl rfl rfl) rfl rfl rfl q224 rfl rfl ?_
    obtain ⟨r7, q225⟩ : ∃ y_ : Bool, y_ = sp_in_ ((gt before i).2) 0 (IntKind.i64.wrap (n_ - 1)) := ⟨_, rfl⟩
    replace hF := hF r7 q225
    refine .gc (cl (v := .bool r7) Try.call39 rfl rfl (fun w S => (by rw [q225]; exact c_in_ S.sub ((gt before i).2) 0 (IntKind.i64.wrap (n_ - 1)) ))) rfl rfl rfl q224 rfl rfl ?_
    refine .gv (nt rfl) rfl rfl rfl q224 rfl rfl ?_
    refine .v (pkF rfl q224 rfl) rfl rfl rfl ?_
    refine .nil ?_
    exact .use q219 (!r7) hF (.cons rfl (.cons rfl (.cons rfl (.cons rfl (.cons rfl (.nil)))))) rfl (FH.le_refl _)
  replace hF := hF.2 q192
  refine .exit ?_
  refine .seqX ?_
  refine .seqX ?_
  refine .blkX ?_
  refine .seqN ?_
  refine .seq ?_
  refine .region ?_
  refine .v (asg rfl) rfl rfl rfl ?_
  refine .nil ?_
  refine .seqN ?_
  refine .seq ?_
  refine .seq ?_
  refine .region ?_
  refine .v (asg rfl) rfl rfl rfl ?_
  refine .nil ?_
  refine .seqN ?_
  refine .block ?_
  refine .nilSl 3 1 ?_
  refine .cast (A' := [OwnSl 3 1 none (([] : List Int).length) 0 (flL ([] : List Int)), Box pv [.int .i64 0, .int .i64 0]]) rfl ?_
  refine .sel0 [1, 0] (by decide) rfl ?_
  obtain ⟨I2, μ2, q931, q932⟩ := hF
  refine .loop' (σ := Int × List Int × Option Addr × Nat) (fun z => I2 z.1 z.2.1) (fun z => μ2 z.1 z.2.1) (fun z => [(0, .int .i64 n_), (1, .slice abefore before.length cbefore), (4, .pointer (some pv)), (6, .slice z.2.2.1 z.2.1.length z.2.2.2), (7, .int .i64 z.1)]) (fun z => [Box pv [.int .i64 0, .int .i64 0], OwnSl 3 1 z.2.2.1 z.2.1.length z.2.2.2 (flL z.2.1)]) (fun _ => h) (0, ([] : List Int), none, 0) q931 (.cons rfl (.cons rfl (.cons rfl (.cons rfl (.cons rfl (.nil)))))) rfl (FH.le_refl _) ?_
  rintro ⟨k, done, adone, cdone⟩ q931
  have hF := q932 k done q931
  show J _ _ _ _ _ [(0, .int .i64 n_), (1, .slice abefore before.length cbefore), (4, .pointer (some pv)), (6, .slice adone done.length cdone), (7, .int .i64 k)] [Box pv [.int .i64 0, .int .i64 0], OwnSl 3 1 adone done.length cdone (flL done)] h
  refine .seq ?_
  refine .seq ?_
  refine .region ?_
  refine .v (mv rfl) rfl rfl rfl ?_
  refine .v (mv rfl) rfl rfl rfl ?_
  refine .v (bi rfl rfl rfl) rfl rfl rfl ?_
  refine .nil ?_
  refine .seqN ?_
  refine .cond rfl (fun q934 => ?_) (fun q934 => ?_)
  · replace hF := hF.1 q934
    refine .skip ?_
    refine .seqN ?_
    refine .seq ?_
    refine .block ?_
    refine .seq ?_
    refine .region ?_
    refine .v (asg rfl) rfl rfl rfl ?_
    refine .nil ?_
    refine .seqN ?_
    refine .block ?_
    obtain ⟨I3, μ3, q1059, q1060⟩ := hF
    refine .loop' (σ := Int × List Int × Option Addr × Nat) (fun z => I3 z.1 z.2.1) (fun z => μ3 z.1 z.2.1) (fun z => [(0, .int .i64 n_), (1, .slice abefore before.length cbefore), (4, .pointer (some pv)), (6, .slice z.2.2.1 z.2.1.length z.2.2.2), (7, .int .i64 k), (8, .int .i64 z.1)]) (fun z => [Box pv [.int .i64 0, .int .i64 0], OwnSl 3 1 z.2.2.1 z.2.1.length z.2.2.2 (flL z.2.1)]) (fun _ => h) (0, done, adone, cdone) q1059 (.cons rfl (.cons rfl (.cons rfl (.cons rfl (.cons rfl (.cons rfl (.nil))))))) rfl (FH.le_refl _) ?_
    rintro ⟨i3, done3, adone3, cdone3⟩ q1059
    have hF := q1060 i3 done3 q1059
    show J _ _ _ _ _ [(0, .int .i64 n_), (1, .slice abefore before.length cbefore), (4, .pointer (some pv)), (6, .slice adone3 done3.length cdone3), (7, .int .i64 k), (8, .int .i64 i3)] [Box pv [.int .i64 0, .int .i64 0], OwnSl 3 1 adone3 done3.length cdone3 (flL done3)] h
    refine .seq ?_
    refine .seq ?_
    refine .region ?_
    refine .v (mv rfl) rfl rfl rfl ?_
    refine .v (mv rfl) rfl rfl rfl ?_
    refine .v (bi rfl rfl rfl) rfl rfl rfl ?_
    refine .nil ?_
    refine .seqN ?_
    refine .cond rfl (fun q1062 => ?_) (fun q1062 => ?_)
    · replace hF := hF.1 q1062
      refine .skip ?_
      refine .seqN ?_
      refine .share (σ := List Int × Option Addr × Nat) (fun z => F_rOrderFault_J2 i3 I3 μ3 done3 z.1) (fun z => [(0, .int .i64 n_), (1, .slice abefore before.length cbefore), (4, .pointer (some pv)), (6, .slice z.2.1 z.1.length z.2.2), (7, .int .i64 k), (8, .int .i64 i3)]) (fun z => [Box pv [.int .i64 0, .int .i64 0], OwnSl 3 1 z.2.1 z.1.length z.2.2 (flL z.1)]) (fun _ => h) ?_ (fun q1069 => ?_)
      · rintro ⟨done5, adone5, cdone5⟩ hF
        show J _ _ _ _ _ [(0, .int .i64 n_), (1, .slice abefore before.length cbefore), (4, .pointer (some pv)), (6, .slice adone5 done5.length cdone5), (7, .int .i64 k), (8, .int .i64 i3)] [Box pv [.int .i64 0, .int .i64 0], OwnSl 3 1 adone5 done5.length cdone5 (flL done5)] h
        refine .region ?_
        refine .v (mv rfl) rfl rfl rfl ?_
        refine .v (bi rfl rfl rfl) rfl rfl rfl ?_
        refine .v (asg rfl) rfl rfl rfl ?_
        refine .nil ?_
        exact .round (IntKind.i64.wrap (i3 + 1), done5, adone5, cdone5) hF.1 hF.2 (.cons rfl (.cons rfl (.cons rfl (.cons rfl (.cons rfl (.cons rfl (.nil))))))) rfl (FH.le_refl _)
      refine .block ?_
      refine .seq ?_
      refine .region ?_
      refine .v (mv rfl) rfl rfl rfl ?_
      refine .v (mv rfl) rfl rfl rfl ?_
      refine .v (mv rfl) rfl rfl rfl ?_
      obtain ⟨q1070, hF⟩ := hF
      obtain ⟨r8, q1071⟩ : ∃ y_ : Bool, y_ = sp_ready before done3 i3 := ⟨_, rfl⟩
      replace hF := hF r8 q1071
      refine .c (cl (v := .bool r8) Try.call48 rfl rfl (fun w S => (by rw [q1071]; obtain ⟨h_, hl_, hs_, hne_, hr_⟩ := look S (k := 1) rfl; exact c_ready hs_ before abefore cbefore (RSl.mono hl_ _q1) _q2 done3 adone3 cdone3 (RSl.of hr_) (look_len S (k := 1) rfl) i3 q1070))) rfl rfl rfl ?_
      refine .nil ?_
      refine .seqN ?_
      refine .cond rfl (fun q1072 => ?_) (fun q1072 => ?_)
      · replace hF := hF.1 q1072
        refine .region ?_
        refine .v (mv rfl) rfl rfl rfl ?_
        refine .v (mv rfl) rfl rfl rfl ?_
        refine bs2 (cs := #[.int .i64 i3]) (pv := [(0, .int .i64 i3)]) tS22 rfl rfl (by decide) (by decide) rfl rfl rfl (fun a _ => ?_)
        refine .cast (A' := [OwnSl 3 1 a (([i3] : List Int).length) 1 (flL ([i3] : List Int)), Box pv [.int .i64 0, .int .i64 0], OwnSl 3 1 adone3 done3.length cdone3 (flL done3)]) rfl ?_
        obtain ⟨q1074, hF⟩ := hF
        have q1075 : done3.length + ([i3] : List Int).length = ((done3 ++ ([i3] : List Int))).length := len_app rfl rfl
        refine app (k := 2) (news := flL ([i3] : List Int)) (cs' := flL (done3 ++ ([i3] : List Int))) (nm := ((done3 ++ ([i3] : List Int))).length) tS22 rfl (by decide) rfl rfl rfl (by rw [flL_len]; rfl) (srcS (k := 0) rfl) (flL_one _) (room_of q1075 q1074).1 (room_of q1075 q1074).2 q1075 (flL_append _ _).symm rfl (fun a2 c => ?_)
        refine .cast (A' := [OwnSl 3 1 a (([i3] : List Int).length) 1 (flL ([i3] : List Int)), Box pv [.int .i64 0, .int .i64 0], OwnSl 3 1 a2 ((done3 ++ ([i3] : List Int)).length) c (flL (done3 ++ ([i3] : List Int)))]) rfl ?_
        refine .v (asg rfl) rfl rfl rfl ?_
        refine .nil ?_
        refine .blkN ?_
        refine .sel0 [1, 2] (by decide) rfl ?_
        exact .use q1069 ((done3 ++ ([i3] : List Int)), a2, c) hF (.cons rfl (.cons rfl (.cons rfl (.cons rfl (.cons rfl (.cons rfl (.nil))))))) rfl (FH.le_refl _)
      replace hF := hF.2 q1072
      refine .skip ?_
      refine .blkN ?_
      exact .use q1069 (done3, adone3, cdone3) hF (.cons rfl (.cons rfl (.cons rfl (.cons rfl (.cons rfl (.cons rfl (.nil))))))) rfl (FH.le_refl _)
    replace hF := hF.2 q1062
    refine .exit ?_
    refine .seqX ?_
    refine .seqX ?_
    refine .blkX ?_
    refine .blkN ?_
    refine .seqN ?_
    refine .region ?_
    refine .v (mv rfl) rfl rfl rfl ?_
    refine .v (bi rfl rfl rfl) rfl rfl rfl ?_
    refine .v (asg rfl) rfl rfl rfl ?_
    refine .nil ?_
    exact .round (IntKind.i64.wrap (k + 1), done3, adone3, cdone3) hF.1 hF.2 (.cons rfl (.cons rfl (.cons rfl (.cons rfl (.cons rfl (.nil)))))) rfl (FH.le_refl _)
  replace hF := hF.2 q934
  refine .exit ?_
  refine .seqX ?_
  refine .seqX ?_
  refine .blkX ?_
  refine .seqN ?_
  refine .seq ?_
  refine .seq ?_
  refine .region ?_
  refine .v (mv rfl) rfl rfl rfl ?_
  refine .v (ln rfl tS22.is) rfl rfl rfl ?_
  refine .v (mv rfl) rfl rfl rfl ?_
  refine .v (bi rfl rfl rfl) rfl rfl rfl ?_
  refine .nil ?_
  refine .seqN ?_
  refine .cond rfl (fun q1078 => ?_) (fun q1078 => ?_)
  · replace hF := hF.1 q1078
    refine .seq ?_
    refine .region ?_
    obtain ⟨r9, q1079⟩ : ∃ y_ : Fault, y_ = sp_at_ 14 (-8) := ⟨_, rfl⟩
    replace hF := hF r9 q1079
    refine .c (cl (v := .agg #[.int .i64 r9.code, .int .i64 r9.index]) Try.call27 rfl rfl (fun w S => (by rw [q1079]; exact c_at_ S.sub 14 (-8) ))) rfl rfl rfl ?_
    refine st (p := pv) (off := 0) (k := 0) (vs := [.int .i64 r9.code, .int .i64 r9.index]) rfl rfl rfl (fun w => (tA28 w).2) rfl rfl rfl rfl ?_
    refine .cast (A' := [Box pv [.int .i64 r9.code, .int .i64 r9.index], OwnSl 3 1 adone done.length cdone (flL done)]) rfl ?_
    refine .nil ?_
    refine .seqN ?_
    refine .ret ?_
    refine .seqR ?_
    refine .res1 rfl (rvC rfl tA28 (k := 0) rfl rfl) (fun w' S => ⟨r9, hF, rfl, S.below⟩)
  replace hF := hF.2 q1078
  refine .skip ?_
  refine .seqN ?_
  refine .seq ?_
  refine .region ?_
  refine .v (bld (cs := #[.int .i64 0, .int .i64 0]) (pv := []) tB28 rfl rfl) rfl rfl rfl ?_
  refine st (p := pv) (off := 0) (k := 0) (vs := [.int .i64 0, .int .i64 0]) rfl rfl rfl (fun w => (tA28 w).2) rfl rfl rfl rfl ?_
  refine .cast (A' := [Box pv [.int .i64 0, .int .i64 0], OwnSl 3 1 adone done.length cdone (flL done)]) rfl ?_
  refine .nil ?_
  refine .seqN ?_
  refine .ret ?_
  refine .res1 rfl (rvC rfl tA28 (k := 0) rfl rfl) (fun w' S => ⟨(⟨0, 0⟩ : Fault), hF, rfl, S.below⟩)

theorem c_rOrderFault {h : FH} {w : World} (hs : Sub h w) (n_ : Int) (before : List (Int × Int)) (abefore : Option Addr) (cbefore : Nat) (_q1 : RSl h abefore before) (_q2 : before.length ≤ cbefore) : Calls Try.prog 17 #[.int .i64 n_, .slice abefore before.length cbefore] w fun e w' => e = .returned (.agg #[.int .i64 (sp_orderFault n_ before).code, .int .i64 (sp_orderFault n_ before).index]) ∧ Below w.heap.size w w' :=
  (w_rOrderFault hs n_ before abefore cbefore _q1 _q2 (fun r => r = sp_orderFault n_ before) (ok_rOrderFault n_ before)).mono fun _ _ ⟨_, hk, he, hb⟩ => ⟨by rw [he, hk], hb⟩

theorem w_pvalidate {h : FH} {w : World} (hs : Sub h w) (t : Task) (at_ : Option Addr) (ct : Nat) (_q1 : RSl h at_ t.init) (_q2 : t.init.length ≤ ct) (at_2 : Option Addr) (ct2 : Nat) (_q3 : RSl h at_2 t.goal) (_q4 : t.goal.length ≤ ct2) (at_3 : Option Addr) (ct3 : Nat) (_q5 : RSl h at_3 t.ops) (_q6 : t.ops.length ≤ ct3) (steps : List Int) (asteps : Option Addr) (csteps : Nat) (_q7 : RSl h asteps steps) (_q8 : steps.length ≤ csteps) (before : List (Int × Int)) (abefore : Option Addr) (cbefore : Nat) (_q9 : RSl h abefore before) (_q10 : before.length ≤ cbefore) (K : Fault → Prop) (hF : F_pvalidate t steps before K) : Calls Try.prog 18 #[.agg #[.int .i64 t.facts, .slice at_ t.init.length ct, .slice at_2 t.goal.length ct2, .slice at_3 t.ops.length ct3], .slice asteps steps.length csteps, .slice abefore before.length cbefore] w fun e w' => ∃ r : Fault, K r ∧ e = .returned (.agg #[.int .i64 r.code, .int .i64 r.index]) ∧ Below w.heap.size w w' := by
  refine enter (args := [.agg #[.int .i64 t.facts, .slice at_ t.init.length ct, .slice at_2 t.goal.length ct2, .slice at_3 t.ops.length ct3], .slice asteps steps.length csteps, .slice abefore before.length cbefore]) Try.func18 rfl Try.ntmps18 rfl hs ?_
  refine .seq ?_
  refine .region ?_
  refine bx (vs := [.int .i64 t.facts, .slice at_ t.init.length ct, .slice at_2 t.goal.length ct2, .slice at_3 t.ops.length ct3]) rfl rfl rfl (fun pt => ?_)
  refine al tZ28 rfl (fun pv => ?_)
  refine .nil ?_
  refine .seqN ?_
  refine .seq ?_
  refine .seq ?_
  refine .region ?_
  refine .v (ldA (cs := [.int .i64 t.facts, .slice at_ t.init.length ct, .slice at_2 t.goal.length ct2, .slice at_3 t.ops.length ct3]) rfl tA25 rfl (cellsB (off := 0) (k := 1) rfl (m := 4) rfl)) rfl rfl rfl ?_
  refine .v (mv rfl) rfl rfl rfl ?_
  obtain ⟨r2, q11⟩ : ∃ y_ : Fault, y_ = sp_planFault t steps := ⟨_, rfl⟩
  replace hF := hF r2 q11
  refine .c (cl (v := .agg #[.int .i64 r2.code, .int .i64 r2.index]) Try.call49 rfl rfl (fun w S => (by rw [q11]; exact c_planFault S.sub t at_ ct _q1 _q2 at_2 ct2 _q3 _q4 at_3 ct3 _q5 _q6 steps asteps csteps _q7 _q8 ))) rfl rfl rfl ?_
  refine al tZ28 rfl (fun pf => ?_)
  refine st (p := pf) (off := 0) (k := 0) (vs := [.int .i64 r2.code, .int .i64 r2.index]) rfl rfl rfl (fun w => (tA28 w).2) rfl rfl rfl rfl ?_
  refine .cast (A' := [Box pf [.int .i64 r2.code, .int .i64 r2.index], Box pv [.int .i64 0, .int .i64 0], Box pt [.int .i64 t.facts, .slice at_ t.init.length ct, .slice at_2 t.goal.length ct2, .slice at_3 t.ops.length ct3]]) rfl ?_
  refine .nil ?_
  refine .seqN ?_
  refine .seq ?_
  refine .region ?_
  refine .v (ldA (cs := [.int .i64 r2.code, .int .i64 r2.index]) rfl tA28 rfl (cellsB (off := 0) (k := 0) rfl (m := 2) rfl)) rfl rfl rfl ?_
  refine .v (bld (cs := #[.int .i64 0, .int .i64 0]) (pv := []) tB28 rfl rfl) rfl rfl rfl ?_
  refine .v (ne2 tE28 rfl rfl) rfl rfl rfl ?_
  refine .nil ?_
  refine .seqN ?_
  refine .cond rfl (fun q13 => ?_) (fun q13 => ?_)
  · replace hF := hF.1 q13
    refine .seq ?_
    refine .region ?_
    refine .v (ldA (cs := [.int .i64 r2.code, .int .i64 r2.index]) rfl tA28 rfl (cellsB (off := 0) (k := 0) rfl (m := 2) rfl)) rfl rfl rfl ?_
    refine st (p := pv) (off := 0) (k := 1) (vs := [.int .i64 r2.code, .int .i64 r2.index]) rfl rfl rfl (fun w => (tA28 w).2) rfl rfl rfl rfl ?_
    refine .cast (A' := [Box pf [.int .i64 r2.code, .int .i64 r2.index], Box pv [.int .i64 r2.code, .int .i64 r2.index], Box pt [.int .i64 t.facts, .slice at_ t.init.length ct, .slice at_2 t.goal.length ct2, .slice at_3 t.ops.length ct3]]) rfl ?_
    refine .nil ?_
    refine .seqN ?_
    refine .ret ?_
    refine .seqR ?_
    refine .res1 rfl (rvC rfl tA28 (k := 1) rfl rfl) (fun w' S => ⟨r2, hF, rfl, S.below⟩)
  replace hF := hF.2 q13
  refine .skip ?_
  refine .seqN ?_
  refine .seq ?_
  refine .region ?_
  refine .v (mv rfl) rfl rfl rfl ?_
  refine .v (ln rfl tS22.is) rfl rfl rfl ?_
  refine .v (mv rfl) rfl rfl rfl ?_
  obtain ⟨r3, q14⟩ : ∃ y_ : Fault, y_ = sp_orderFault ((steps.length : Nat) : Int) before := ⟨_, rfl⟩
  replace hF := hF r3 q14
  refine .c (cl (v := .agg #[.int .i64 r3.code, .int .i64 r3.index]) Try.call45 rfl rfl (fun w S => (by rw [q14]; exact c_orderFault S.sub ((steps.length : Nat) : Int) before abefore cbefore _q9 _q10 ))) rfl rfl rfl ?_
  refine st (p := pv) (off := 0) (k := 1) (vs := [.int .i64 r3.code, .int .i64 r3.index]) rfl rfl rfl (fun w => (tA28 w).2) rfl rfl rfl rfl ?_
  refine .cast (A' := [Box pf [.int .i64 r2.code, .int .i64 r2.index], Box pv [.int .i64 r3.code, .int .i64 r3.index], Box pt [.int .i64 t.facts, .slice at_ t.init.length ct, .slice at_2 t.goal.length ct2, .slice at_3 t.ops.length ct3]]) rfl ?_
  refine .nil ?_
  refine .seqN ?_
  refine .ret ?_
  refine .res1 rfl (rvC rfl tA28 (k := 1) rfl rfl) (fun w' S => ⟨r3, hF, rfl, S.below⟩)

theorem c_pvalidate {h : FH} {w : World} (hs : Sub h w) (t : Task) (at_ : Option Addr) (ct : Nat) (_q1 : RSl h at_ t.init) (_q2 : t.init.length ≤ ct) (at_2 : Option Addr) (ct2 : Nat) (_q3 : RSl h at_2 t.goal) (_q4 : t.goal.length ≤ ct2) (at_3 : Option Addr) (ct3 : Nat) (_q5 : RSl h at_3 t.ops) (_q6 : t.ops.length ≤ ct3) (steps : List Int) (asteps : Option Addr) (csteps : Nat) (_q7 : RSl h asteps steps) (_q8 : steps.length ≤ csteps) (before : List (Int × Int)) (abefore : Option Addr) (cbefore : Nat) (_q9 : RSl h abefore before) (_q10 : before.length ≤ cbefore) : Calls Try.prog 18 #[.agg #[.int .i64 t.facts, .slice at_ t.init.length ct, .slice at_2 t.goal.length ct2, .slice at_3 t.ops.length ct3], .slice asteps steps.length csteps, .slice abefore before.length cbefore] w fun e w' => e = .returned (.agg #[.int .i64 (sp_pvalidate t steps before).code, .int .i64 (sp_pvalidate t steps before).index]) ∧ Below w.heap.size w w' :=
  (w_pvalidate hs t at_ ct _q1 _q2 at_2 ct2 _q3 _q4 at_3 ct3 _q5 _q6 steps asteps csteps _q7 _q8 before abefore cbefore _q9 _q10 (fun r => r = sp_pvalidate t steps before) (ok_pvalidate t steps before)).mono fun _ _ ⟨_, hk, he, hb⟩ => ⟨by rw [he, hk], hb⟩

theorem w_partialFault {h : FH} {w : World} (hs : Sub h w) (t : Task) (at_ : Option Addr) (ct : Nat) (_q1 : RSl h at_ t.init) (_q2 : t.init.length ≤ ct) (at_2 : Option Addr) (ct2 : Nat) (_q3 : RSl h at_2 t.goal) (_q4 : t.goal.length ≤ ct2) (at_3 : Option Addr) (ct3 : Nat) (_q5 : RSl h at_3 t.ops) (_q6 : t.ops.length ≤ ct3) (steps : List Int) (asteps : Option Addr) (csteps : Nat) (_q7 : RSl h asteps steps) (_q8 : steps.length ≤ csteps) (before : List (Int × Int)) (abefore : Option Addr) (cbefore : Nat) (_q9 : RSl h abefore before) (_q10 : before.length ≤ cbefore) (K : Fault → Prop) (hF : F_partialFault t steps before K) : Calls Try.prog 19 #[.agg #[.int .i64 t.facts, .slice at_ t.init.length ct, .slice at_2 t.goal.length ct2, .slice at_3 t.ops.length ct3], .slice asteps steps.length csteps, .slice abefore before.length cbefore] w fun e w' => ∃ r : Fault, K r ∧ e = .returned (.agg #[.int .i64 r.code, .int .i64 r.index]) ∧ Below w.heap.size w w' := by
  refine enter (args := [.agg #[.int .i64 t.facts, .slice at_ t.init.length ct, .slice at_2 t.goal.length ct2, .slice at_3 t.ops.length ct3], .slice asteps steps.length csteps, .slice abefore before.length cbefore]) Try.func19 rfl Try.ntmps19 rfl hs ?_
  refine .seq ?_
  refine .region ?_
  refine bx (vs := [.int .i64 t.facts, .slice at_ t.init.length ct, .slice at_2 t.goal.length ct2, .slice at_3 t.ops.length ct3]) rfl rfl rfl (fun pt => ?_)
  refine al tZ28 rfl (fun pv => ?_)
  refine .nil ?_
  refine .seqN ?_
  refine .seq ?_
  refine .seq ?_
  refine .region ?_
  refine .v (ldA (cs := [.int .i64 t.facts, .slice at_ t.init.length ct, .slice at_2 t.goal.length ct2, .slice at_3 t.ops.length ct3]) rfl tA25 rfl (cellsB (off := 0) (k := 1) rfl (m := 4) rfl)) rfl rfl rfl ?_
  refine .v (mv rfl) rfl rfl rfl ?_
  obtain ⟨r2, q11⟩ : ∃ y_ : Fault, y_ = sp_planFault t steps := ⟨_, rfl⟩
  replace hF := hF r2 q11
  refine .c (cl (v := .agg #[.int .i64 r2.code, .int .i64 r2.index]) Try.call26 rfl rfl (fun w S => (by rw [q11]; exact c_rPlanFault S.sub t at_ ct _q1 _q2 at_2 ct2 _q3 _q4 at_3 ct3 _q5 _q6 steps asteps csteps _q7 _q8 ))) rfl rfl rfl ?_
  refine al tZ28 rfl (fun pf => ?_)
  refine st (p := pf) (off := 0) (k := 0) (vs := [.int .i64 r2.code, .int .i64 r2.index]) rfl rfl rfl (fun w => (tA28 w).2) rfl rfl rfl rfl ?_
  refine .cast (A' := [Box pf [.int .i64 r2.code, .int .i64 r2.index], Box pv [.int .i64 0, .int .i64 0], Box pt [.int .i64 t.facts, .slice at_ t.init.length ct, .slice at_2 t.goal.length ct2, .slice at_3 t.ops.length ct3]]) rfl ?_
  refine .nil ?_
  refine .seqN ?_
  refine .seq ?_
  refine .region ?_
  refine .v (fa rfl tF28_0) rfl rfl rfl ?_
  refine .v (ld1 rfl tO3 (cellB (off := 0) (k := 0) rfl rfl)) rfl rfl rfl ?_
  refine .v (bi rfl rfl rfl) rfl rfl rfl ?_
  refine .nil ?_
  refine .seqN ?_
  refine .cond rfl (fun q13 => ?_) (fun q13 => ?_)
  · replace hF := hF.1 q13
    refine .seq ?_
    refine .region ?_
    refine .v (ldA (cs := [.int .i64 r2.code, .int .i64 r2.index]) rfl tA28 rfl (cellsB (off := 0) (k := 0) rfl (m := 2) rfl)) rfl rfl rfl ?_
    refine st (p := pv) (off := 0) (k := 1) (vs := [.int .i64 r2.code, .int .i64 r2.index]) rfl rfl rfl (fun w => (tA28 w).2) rfl rfl rfl rfl ?_
    refine .cast (A' := [Box pf [.int .i64 r2.code, .int .i64 r2.index], Box pv [.int .i64 r2.code, .int .i64 r2.index], Box pt [.int .i64 t.facts, .slice at_ t.init.length ct, .slice at_2 t.goal.length ct2, .slice at_3 t.ops.length ct3]]) rfl ?_
    refine .nil ?_
    refine .seqN ?_
    refine .ret ?_
    refine .seqR ?_
    refine .res1 rfl (rvC rfl tA28 (k := 1) rfl rfl) (fun w' S => ⟨r2, hF, rfl, S.below⟩)
  replace hF := hF.2 q13
  refine .skip ?_
  refine .seqN ?_
  refine .seq ?_
  refine .region ?_
  refine .v (mv rfl) rfl rfl rfl ?_
  refine .v (ln rfl tS22.is) rfl rfl rfl ?_
  refine .v (mv rfl) rfl rfl rfl ?_
  obtain ⟨r3, q14⟩ : ∃ y_ : Fault, y_ = sp_orderFault ((steps.length : Nat) : Int) before := ⟨_, rfl⟩
  replace hF := hF r3 q14
  refine .c (cl (v := .agg #[.int .i64 r3.code, .int .i64 r3.index]) Try.call17 rfl rfl (fun w S => (by rw [q14]; exact c_rOrderFault S.sub ((steps.length : Nat) : Int) before abefore cbefore _q9 _q10 ))) rfl rfl rfl ?_
  refine st (p := pv) (off := 0) (k := 1) (vs := [.int .i64 r3.code, .int .i64 r3.index]) rfl rfl rfl (fun w => (tA28 w).2) rfl rfl rfl rfl ?_
  refine .cast (A' := [Box pf [.int .i64 r2.code, .int .i64 r2.index], Box pv [.int .i64 r3.code, .int .i64 r3.index], Box pt [.int .i64 t.facts, .slice at_ t.init.length ct, .slice at_2 t.goal.length ct2, .slice at_3 t.ops.length ct3]]) rfl ?_
  refine .nil ?_
  refine .seqN ?_
  refine .ret ?_
  refine .res1 rfl (rvC rfl tA28 (k := 1) rfl rfl) (fun w' S => ⟨r3, hF, rfl, S.below⟩)

theorem c_partialFault {h : FH} {w : World} (hs : Sub h w) (t : Task) (at_ : Option Addr) (ct : Nat) (_q1 : RSl h at_ t.init) (_q2 : t.init.length ≤ ct) (at_2 : Option Addr) (ct2 : Nat) (_q3 : RSl h at_2 t.goal) (_q4 : t.goal.length ≤ ct2) (at_3 : Option Addr) (ct3 : Nat) (_q5 : RSl h at_3 t.ops) (_q6 : t.ops.length ≤ ct3) (steps : List Int) (asteps : Option Addr) (csteps : Nat) (_q7 : RSl h asteps steps) (_q8 : steps.length ≤ csteps) (before : List (Int × Int)) (abefore : Option Addr) (cbefore : Nat) (_q9 : RSl h abefore before) (_q10 : before.length ≤ cbefore) : Calls Try.prog 19 #[.agg #[.int .i64 t.facts, .slice at_ t.init.length ct, .slice at_2 t.goal.length ct2, .slice at_3 t.ops.length ct3], .slice asteps steps.length csteps, .slice abefore before.length cbefore] w fun e w' => e = .returned (.agg #[.int .i64 (sp_pvalidate t steps before).code, .int .i64 (sp_pvalidate t steps before).index]) ∧ Below w.heap.size w w' :=
  (w_partialFault hs t at_ ct _q1 _q2 at_2 ct2 _q3 _q4 at_3 ct3 _q5 _q6 steps asteps csteps _q7 _q8 before abefore cbefore _q9 _q10 (fun r => r = sp_pvalidate t steps before) (ok_partialFault t steps before)).mono fun _ _ ⟨_, hk, he, hb⟩ => ⟨by rw [he, hk], hb⟩

set_option maxHeartbeats 8000000 in
theorem w_first {h : FH} {w : World} (hs : Sub h w) (n_ : Int) (before : List (Int × Int)) (abefore : Option Addr) (cbefore : Nat) (_q1 : RSl h abefore before) (_q2 : before.length ≤ cbefore) (K : (List Int × Fault) → Prop) (hF : F_first n_ before K) : Calls Try.prog 15 #[.int .i64 n_, .slice abefore before.length cbefore] w fun e w' => ∃ (r : List Int × Fault) (z : Option Addr × Nat) (h1 : FH), K r ∧ e = .returned (.tuple #[.slice z.1 r.1.length z.2, .agg #[.int .i64 r.2.code, .int .i64 r.2.index]]) ∧ FH.le h h1 ∧ (RSl h1 z.1 r.1 ∧ r.1.length ≤ z.2) ∧ SH (Kp.all w h) h1 w' [] := by
  refine enter (args := [.int .i64 n_, .slice abefore before.length cbefore]) Try.func15 rfl Try.ntmps15 rfl hs ?_
  refine .seq ?_
  refine .region ?_
  refine .v (asg rfl) rfl rfl rfl ?_
  refine al tZ28 rfl (fun pv => ?_)
  refine .nil ?_
  refine .seqN ?_
  refine .seq ?_
  refine .seq ?_
  refine .region ?_
  refine .v (mv rfl) rfl rfl rfl ?_
  refine .v (mv rfl) rfl rfl rfl ?_
  obtain ⟨r2, q3⟩ : ∃ y_ : Fault, y_ = sp_orderFault n_ before := ⟨_, rfl⟩
  replace hF := hF r2 q3
  refine .c (cl (v := .agg #[.int .i64 r2.code, .int .i64 r2.index]) Try.call45 rfl rfl (fun w S => (by rw [q3]; exact c_orderFault S.sub n_ before abefore cbefore _q1 _q2 ))) rfl rfl rfl ?_
  refine al tZ28 rfl (fun pf => ?_)
  refine st (p := pf) (off := 0) (k := 0) (vs := [.int .i64 r2.code, .int .i64 r2.index]) rfl rfl rfl (fun w => (tA28 w).2) rfl rfl rfl rfl ?_
  refine .cast (A' := [Box pf [.int .i64 r2.code, .int .i64 r2.index], Box pv [.int .i64 0, .int .i64 0]]) rfl ?_
  refine .nil ?_
  refine .seqN ?_
  refine .seq ?_
  refine .region ?_
  refine .v (ldA (cs := [.int .i64 r2.code, .int .i64 r2.index]) rfl tA28 rfl (cellsB (off := 0) (k := 0) rfl (m := 2) rfl)) rfl rfl rfl ?_
  refine .v (bld (cs := #[.int .i64 0, .int .i64 0]) (pv := []) tB28 rfl rfl) rfl rfl rfl ?_
  refine .v (ne2 tE28 rfl rfl) rfl rfl rfl ?_
  refine .nil ?_
  refine .seqN ?_
  refine .cond rfl (fun q5 => ?_) (fun q5 => ?_)
  · replace hF := hF.1 q5
    refine .seq ?_
    refine .openL (by kernel_rfl) rfl (by kernel_rfl) (by kernel_rfl) ?_
    refine .v (ldA (cs := [.int .i64 r2.code, .int .i64 r2.index]) rfl tA28 rfl (cellsB (off := 0) (k := 0) rfl (m := 2) rfl)) rfl rfl rfl ?_
    refine .v (asg rfl) rfl rfl rfl ?_
    refine .tail ?_
    refine st (p := pv) (off := 0) (k := 1) (vs := [.int .i64 r2.code, .int .i64 r2.index]) rfl rfl rfl (fun w => (tA28 w).2) rfl rfl rfl rfl ?_
    refine .cast (A' := [Box pf [.int .i64 r2.code, .int .i64 r2.index], Box pv [.int .i64 r2.code, .int .i64 r2.index]]) rfl ?_
    refine .nil ?_
    refine .seqN ?_
    refine .ret ?_
    refine .seqR ?_
    refine .res2 rfl (rvT rfl) (rvC rfl tA28 (k := 1) rfl rfl) (fun w' S => ⟨(([] : List Int), r2), (none, 0), h, hF, rfl, (FH.le_refl _), ⟨RSl.nil_, (Nat.le_refl 0)⟩, S.none⟩)
  replace hF := hF.2 q5
  refine .skip ?_
  refine .seqN ?_
  refine .seq ?_
  refine .region ?_
  refine .v (mv rfl) rfl rfl rfl ?_
  refine .v (mv rfl) rfl rfl rfl ?_
  obtain ⟨q6, hF⟩ := hF
  obtain ⟨r3, q7⟩ : ∃ y_ : List (List Bool) × Bool, y_ = sp_closure n_ before := ⟨_, rfl⟩
  replace hF := hF r3 q7
  refine clR (α := Option Addr × Nat) (Φ := fun h1 z => RSl h1 z.1 r3.1 ∧ r3.1.length ≤ z.2) (V := fun z => .tuple #[.slice z.1 r3.1.length z.2, .bool r3.2]) Try.call46 rfl rfl (fun w S => (by rw [q7]; exact c_closure S.sub n_ before abefore cbefore _q1 _q2 q6)) rfl (fun z h1 le1 hz => ?_)
  obtain ⟨a, c⟩ := z
  obtain ⟨q8, q9⟩ := hz
  refine .v (mv rfl) rfl rfl rfl ?_
  refine .v (ext rfl rfl) rfl rfl rfl ?_
  refine .v (ext rfl rfl) rfl rfl rfl ?_
  refine .v (asg rfl) rfl rfl rfl ?_
  refine .v (asg rfl) rfl rfl rfl ?_
  refine .nil ?_
  refine .seqN ?_
  refine .seq ?_
  refine .region ?_
  refine .v (asg rfl) rfl rfl rfl ?_
  refine .nil ?_
  refine .seqN ?_
  refine .seq ?_
  refine .block ?_
  refine .nilSl 3 1 ?_
  refine .cast (A' := [OwnSl 3 1 none (([] : List Int).length) 0 (flL ([] : List Int)), Box pf [.int .i64 r2.code, .int .i64 r2.index], Box pv [.int .i64 0, .int .i64 0]]) rfl ?_
  refine .sel0 [2, 0] (by decide) rfl ?_
  obtain ⟨I1, μ1, q10102, q10103⟩ := hF
  refine .loop' (σ := List Int × Option Addr × Nat) (fun z => I1 z.1) (fun z => μ1 z.1) (fun z => [(0, .int .i64 n_), (5, .pointer (some pv)), (7, .slice a r3.1.length c), (9, .slice z.2.1 z.1.length z.2.2)]) (fun z => [Box pv [.int .i64 0, .int .i64 0], OwnSl 3 1 z.2.1 z.1.length z.2.2 (flL z.1)]) (fun _ => h1) (([] : List Int), none, 0) q10102 (.cons rfl (.cons rfl (.cons rfl (.cons rfl (.nil))))) rfl (FH.le_refl _) ?_
  rintro ⟨out, aout, cout⟩ q10102
  have hF := q10103 out q10102
  show J _ _ _ _ _ [(0, .int .i64 n_), (5, .pointer (some pv)), (7, .slice a r3.1.length c), (9, .slice aout out.length cout)] [Box pv [.int .i64 0, .int .i64 0], OwnSl 3 1 aout out.length cout (flL out)] h1
  refine .seq ?_
  refine .seq ?_
  refine .region ?_
  refine .v (mv rfl) rfl rfl rfl ?_
  refine .v (ln rfl tS22.is) rfl rfl rfl ?_
  refine .v (mv rfl) rfl rfl rfl ?_
  refine .v (bi rfl rfl rfl) rfl rfl rfl ?_
  refine .nil ?_
  refine .seqN ?_
  refine .cond rfl (fun q10105 => ?_) (fun q10105 => ?_)
  · replace hF := hF.1 q10105
    refine .skip ?_
    refine .seqN ?_
    refine .block ?_
    refine .seq ?_
    refine .region ?_
    refine .v (mv rfl) rfl rfl rfl ?_
    refine .v (mv rfl) rfl rfl rfl ?_
    refine .nil ?_
    refine .seqN ?_
    refine .block ?_
    obtain ⟨I2, μ2, q10934, q10935⟩ := hF
    refine .loop' (σ := Int) (fun z => I2 z) (fun z => μ2 z) (fun z => [(0, .int .i64 n_), (5, .pointer (some pv)), (7, .slice a r3.1.length c), (9, .slice aout out.length cout), (30, .int .i64 n_), (31, .int .i64 z)]) (fun _ => [Box pv [.int .i64 0, .int .i64 0], OwnSl 3 1 aout out.length cout (flL out)]) (fun _ => h1) 0 q10934 (.cons rfl (.cons rfl (.cons rfl (.cons rfl (.cons rfl (.cons rfl (.nil))))))) rfl (FH.le_refl _) ?_
    rintro t31 q10934
    have hF := q10935 t31 q10934
    show J _ _ _ _ _ [(0, .int .i64 n_), (5, .pointer (some pv)), (7, .slice a r3.1.length c), (9, .slice aout out.length cout), (30, .int .i64 n_), (31, .int .i64 t31)] [Box pv [.int .i64 0, .int .i64 0], OwnSl 3 1 aout out.length cout (flL out)] h1
    refine .seq ?_
    refine .region ?_
    refine .v (bi rfl rfl rfl) rfl rfl rfl ?_
    refine .nil ?_
    refine .seqN ?_
    refine .seq ?_
    refine .cond rfl (fun q10938 => ?_) (fun q10938 => ?_)
    · replace hF := hF.1 q10938
      refine .skip ?_
      refine .seqN ?_
      refine .seq ?_
      refine .block ?_
      refine .seq ?_
      refine .region ?_
      refine .v (mv rfl) rfl rfl rfl ?_
      refine .v (asg rfl) rfl rfl rfl ?_
      refine .nil ?_
      refine .seqN ?_
      refine .seq ?_
      refine .region ?_
      refine .v (mv rfl) rfl rfl rfl ?_
      refine .v (mv rfl) rfl rfl rfl ?_
      obtain ⟨q11223, hF⟩ := hF
      obtain ⟨r4, q11224⟩ : ∃ y_ : Bool, y_ = sp_contains out t31 := ⟨_, rfl⟩
      replace hF := hF r4 q11224
      refine .c (cl (v := .bool r4) Try.call47 rfl rfl (fun w S => (by rw [q11224]; obtain ⟨h_, hl_, hs_, hne_, hr_⟩ := look S (k := 1) rfl; exact c_contains hs_ out aout cout (RSl.of hr_) (look_len S (k := 1) rfl) t31 q11223))) rfl rfl rfl ?_
      refine .v (nt rfl) rfl rfl rfl ?_
      refine .v (asg rfl) rfl rfl rfl ?_
      refine .nil ?_
      refine .seqN ?_
      refine .seq ?_
      refine .seq ?_
      refine .region ?_
      refine .v (mv rfl) rfl rfl rfl ?_
      refine .v (mv rfl) rfl rfl rfl ?_
      refine .nil ?_
      refine .seqN ?_
      refine .block ?_
      obtain ⟨I3, μ3, q11337, q11338⟩ := hF
      refine .loop' (σ := Bool × Int) (fun z => I3 z.1 z.2) (fun z => μ3 z.1 z.2) (fun z => [(0, .int .i64 n_), (5, .pointer (some pv)), (7, .slice a r3.1.length c), (9, .slice aout out.length cout), (10, .int .i64 t31), (11, .bool z.1), (30, .int .i64 n_), (31, .int .i64 t31), (38, .int .i64 n_), (39, .int .i64 z.2)]) (fun _ => [Box pv [.int .i64 0, .int .i64 0], OwnSl 3 1 aout out.length cout (flL out)]) (fun _ => h1) (!r4, 0) q11337 (.cons rfl (.cons rfl (.cons rfl (.cons rfl (.cons rfl (.cons rfl (.cons rfl (.cons rfl (.cons rfl (.cons rfl (.nil))))))))))) rfl (FH.le_refl _) ?_
      rintro ⟨free, t39⟩ q11337
      have hF := q11338 free t39 q11337
      show J _ _ _ _ _ [(0, .int .i64 n_), (5, .pointer (some pv)), (7, .slice a r3.1.length c), (9, .slice aout out.length cout), (10, .int .i64 t31), (11, .bool free), (30, .int .i64 n_), (31, .int .i64 t31), (38, .int .i64 n_), (39, .int .i64 t39)] [Box pv [.int .i64 0, .int .i64 0], OwnSl 3 1 aout out.length cout (flL out)] h1
      refine .seq ?_
      refine .region ?_
      refine .v (bi rfl rfl rfl) rfl rfl rfl ?_
      refine .nil ?_
      refine .seqN ?_
      refine .seq ?_
      refine .cond rfl (fun q11341 => ?_) (fun q11341 => ?_)
      · replace hF := hF.1 q11341
        refine .skip ?_
        refine .seqN ?_
        refine .share (σ := Bool) (fun z => F_first_J1 free t39 I3 μ3 z) (fun z => [(0, .int .i64 n_), (5, .pointer (some pv)), (7, .slice a r3.1.length c), (9, .slice aout out.length cout), (10, .int .i64 t31), (11, .bool z), (30, .int .i64 n_), (31, .int .i64 t31), (38, .int .i64 n_), (39, .int .i64 t39)]) (fun _ => [Box pv [.int .i64 0, .int .i64 0], OwnSl 3 1 aout out.length cout (flL out)]) (fun _ => h1) ?_ (fun q11351 => ?_)
        · rintro free3 hF
          show J _ _ _ _ _ [(0, .int .i64 n_), (5, .pointer (some pv)), (7, .slice a r3.1.length c), (9, .slice aout out.length cout), (10, .int .i64 t31), (11, .bool free3), (30, .int .i64 n_), (31, .int .i64 t31), (38, .int .i64 n_), (39, .int .i64 t39)] [Box pv [.int .i64 0, .int .i64 0], OwnSl 3 1 aout out.length cout (flL out)] h1
          refine .region ?_
          refine .v (bi rfl rfl rfl) rfl rfl rfl ?_
          refine .v (mv rfl) rfl rfl rfl ?_
          refine .nil ?_
          exact .round (free3, IntKind.i64.wrap (t39 + 1)) hF.1 hF.2 (.cons rfl (.cons rfl (.cons rfl (.cons rfl (.cons rfl (.cons rfl (.cons rfl (.cons rfl (.cons rfl (.cons rfl (.nil))))))))))) rfl (FH.le_refl _)
        refine .block ?_
        refine .seq ?_
        refine .region ?_
        refine .v (mv rfl) rfl rfl rfl ?_
        refine .v (asg rfl) rfl rfl rfl ?_
        refine .nil ?_
        refine .seqN ?_
        refine .region ?_
        refine .v (mv rfl) rfl rfl rfl ?_
        refine .v (mv rfl) rfl rfl rfl ?_
        rcases Bool.eq_false_or_eq_true (free) with q11352 | q11352
        · replace hF := hF.1 q11352
          refine .gv (mv rfl) rfl rfl rfl q11352 rfl rfl ?_
          refine .gv (mv rfl) rfl rfl rfl q11352 rfl rfl ?_
          obtain ⟨q11353, hF⟩ := hF
          refine .gv (ix rfl rfl tS80 (q8.ne (by decide) (inb_pos q11353)) q11353) rfl rfl rfl q11352 rfl rfl ?_
          obtain ⟨_, ⟨a2, c2, rfl, q11354, q11355⟩, q11356⟩ := q8.elem q11353
          refine .gv (ld1 (v := .slice a2 ((gt r3.1 t39).length) c2) rfl tO84 (cellH (q11356 (by decide) 0 _ rfl))) rfl rfl rfl q11352 rfl rfl ?_
          refine .gv (mv rfl) rfl rfl rfl q11352 rfl rfl ?_
          obtain ⟨q11357, hF⟩ := hF
          refine .gv (ix rfl rfl tS84 (q11355.ne (by decide) (inb_pos q11357)) q11357) rfl rfl rfl q11352 rfl rfl ?_
          refine .gv (ld1 (v := .bool (gt (gt r3.1 t39) t31)) rfl tO4 (cellH (q11355.elemF q11357 (by decide) 0 _ rfl))) rfl rfl rfl q11352 rfl rfl ?_
          refine .gv (nt rfl) rfl rfl rfl q11352 rfl rfl ?_
          refine .gv (mv rfl) rfl rfl rfl q11352 rfl rfl ?_
          rcases Bool.eq_false_or_eq_true (!(gt (gt r3.1 t39) t31)) with q11358 | q11358
          · replace hF := hF.1 q11358
            refine .gS rfl rfl rfl q11358 rfl rfl ?_
            refine .gS rfl rfl rfl q11358 rfl rfl ?_
            refine .gS rfl rfl rfl q11358 rfl rfl ?_
            refine .gv (pkT rfl q11358 rfl) rfl rfl rfl q11352 rfl rfl ?_
            refine .v (pkT rfl q11352 rfl) rfl rfl rfl ?_
            refine .v (asg rfl) rfl rfl rfl ?_
            refine .nil ?_
            refine .blkN ?_
            exact .use q11351 true hF (.cons rfl (.cons rfl (.cons rfl (.cons rfl (.cons rfl (.cons rfl (.cons rfl (.cons rfl (.cons rfl (.cons rfl (.nil))))))))))) rfl (FH.le_refl _)
          replace hF := hF.2 q11358
          refine .gv (mv rfl) rfl rfl rfl q11358 rfl rfl ?_
          refine .gv (mv rfl) rfl rfl rfl q11358 rfl rfl ?_
          obtain ⟨q11359, hF⟩ := hF
          obtain ⟨r5, q11360⟩ : ∃ y_ : Bool, y_ = sp_contains out t39 := ⟨_, rfl⟩
          replace hF := hF r5 q11360
          refine .gc (cl (v := .bool r5) Try.call47 rfl rfl (fun w S => (by rw [q11360]; obtain ⟨h_, hl_, hs_, hne_, hr_⟩ := look S (k := 1) rfl; exact c_contains hs_ out aout cout (RSl.of hr_) (look_len S (k := 1) rfl) t39 q11359))) rfl rfl rfl q11358 rfl rfl ?_
          refine .gv (pkF rfl q11358 rfl) rfl rfl rfl q11352 rfl rfl ?_
          refine .v (pkT rfl q11352 rfl) rfl rfl rfl ?_
          refine .v (asg rfl) rfl rfl rfl ?_
          refine .nil ?_
          refine .blkN ?_
          exact .use q11351 r5 hF (.cons rfl (.cons rfl (.cons rfl (.cons rfl (.cons rfl (.cons rfl (.cons rfl (.cons rfl (.cons rfl (.cons rfl (.nil))))))))))) rfl (FH.le_refl _)
        replace hF := hF.2 q11352
        refine .gS rfl rfl rfl q11352 rfl rfl ?_
        refine .gS rfl rfl rfl q11352 rfl rfl ?_
        refine .gS rfl rfl rfl q11352 rfl rfl ?_
        refine .gS rfl rfl rfl q11352 rfl rfl ?_
        refine .gS rfl rfl rfl q11352 rfl rfl ?_
        refine .gS rfl rfl rfl q11352 rfl rfl ?_
        refine .gS rfl rfl rfl q11352 rfl rfl ?_
        refine .gS rfl rfl rfl q11352 rfl rfl ?_
        refine .gS rfl rfl rfl q11352 rfl rfl ?_
        refine .gU rfl rfl rfl rfl rfl ?_
        refine .gU rfl rfl rfl rfl rfl ?_
        refine .gU rfl rfl rfl rfl rfl ?_
        refine .gS rfl rfl rfl q11352 rfl rfl ?_
        refine .v (pkF rfl q11352 rfl) rfl rfl rfl ?_
        refine .v (asg rfl) rfl rfl rfl ?_
        refine .nil ?_
        refine .blkN ?_
        exact .use q11351 false hF (.cons rfl (.cons rfl (.cons rfl (.cons rfl (.cons rfl (.cons rfl (.cons rfl (.cons rfl (.cons rfl (.cons rfl (.nil))))))))))) rfl (FH.le_refl _)
      replace hF := hF.2 q11341
      refine .exit ?_
      refine .seqX ?_
      refine .seqX ?_
      refine .blkX ?_
      refine .seqN ?_
      refine .seq ?_
      refine .region ?_
      refine .v (mv rfl) rfl rfl rfl ?_
      refine .nil ?_
      refine .seqN ?_
      refine .cond rfl (fun q11361 => ?_) (fun q11361 => ?_)
      · replace hF := hF.1 q11361
        refine .seq ?_
        refine .region ?_
        refine .v (mv rfl) rfl rfl rfl ?_
        refine .v (mv rfl) rfl rfl rfl ?_
        refine bs2 (cs := #[.int .i64 t31]) (pv := [(0, .int .i64 t31)]) tS22 rfl rfl (by decide) (by decide) rfl rfl rfl (fun a3 _ => ?_)
        refine .cast (A' := [OwnSl 3 1 a3 (([t31] : List Int).length) 1 (flL ([t31] : List Int)), Box pv [.int .i64 0, .int .i64 0], OwnSl 3 1 aout out.length cout (flL out)]) rfl ?_
        obtain ⟨q11363, hF⟩ := hF
        have q11364 : out.length + ([t31] : List Int).length = ((out ++ ([t31] : List Int))).length := len_app rfl rfl
        refine app (k := 2) (news := flL ([t31] : List Int)) (cs' := flL (out ++ ([t31] : List Int))) (nm := ((out ++ ([t31] : List Int))).length) tS22 rfl (by decide) rfl rfl rfl (by rw [flL_len]; rfl) (srcS (k := 0) rfl) (flL_one _) (room_of q11364 q11363).1 (room_of q11364 q11363).2 q11364 (flL_append _ _).symm rfl (fun a4 c3 => ?_)
        refine .cast (A' := [OwnSl 3 1 a3 (([t31] : List Int).length) 1 (flL ([t31] : List Int)), Box pv [.int .i64 0, .int .i64 0], OwnSl 3 1 a4 ((out ++ ([t31] : List Int)).length) c3 (flL (out ++ ([t31] : List Int)))]) rfl ?_
        refine .v (asg rfl) rfl rfl rfl ?_
        refine .nil ?_
        refine .seqN ?_
        refine .exit ?_
        refine .blkY rfl ?_
        refine .seqX ?_
        refine .seqX ?_
        refine .blkX ?_
        refine .blkN ?_
        refine .sel0 [1, 2] (by decide) rfl ?_
        exact .round ((out ++ ([t31] : List Int)), a4, c3) hF.1 hF.2 (.cons rfl (.cons rfl (.cons rfl (.cons rfl (.nil))))) rfl (FH.le_refl _)
      replace hF := hF.2 q11361
      refine .skip ?_
      refine .blkN ?_
      refine .seqN ?_
      refine .region ?_
      refine .v (bi rfl rfl rfl) rfl rfl rfl ?_
      refine .v (mv rfl) rfl rfl rfl ?_
      refine .nil ?_
      exact .round (IntKind.i64.wrap (t31 + 1)) hF.1 hF.2 (.cons rfl (.cons rfl (.cons rfl (.cons rfl (.cons rfl (.cons rfl (.nil))))))) rfl (FH.le_refl _)
    replace hF := hF.2 q10938
    refine .exit ?_
    refine .seqX ?_
    refine .seqX ?_
    refine .blkX ?_
    refine .blkN ?_
    exact .round (out, aout, cout) hF.1 hF.2 (.cons rfl (.cons rfl (.cons rfl (.cons rfl (.nil))))) rfl (FH.le_refl _)
  replace hF := hF.2 q10105
  refine .exit ?_
  refine .seqX ?_
  refine .seqX ?_
  refine .blkX ?_
  refine .seqN ?_
  refine .seq ?_
  refine .region ?_
  refine .v (mv rfl) rfl rfl rfl ?_
  refine .v (bld (cs := #[.int .i64 0, .int .i64 0]) (pv := []) tB28 rfl rfl) rfl rfl rfl ?_
  refine .v (asg rfl) rfl rfl rfl ?_
  refine st (p := pv) (off := 0) (k := 0) (vs := [.int .i64 0, .int .i64 0]) rfl rfl rfl (fun w => (tA28 w).2) rfl rfl rfl rfl ?_
  refine .cast (A' := [Box pv [.int .i64 0, .int .i64 0], OwnSl 3 1 aout out.length cout (flL out)]) rfl ?_
  refine .nil ?_
  refine .seqN ?_
  refine .freezeL (k := 1) rfl (fun h2 le2 q11366 q11365 => ?_)
  refine .cast (A' := [Box pv [.int .i64 0, .int .i64 0], tru]) rfl ?_
  refine .ret ?_
  refine .res2 rfl (rvT rfl) (rvC rfl tA28 (k := 0) rfl rfl) (fun w' S => ⟨(out, (⟨0, 0⟩ : Fault)), (aout, cout), h2, hF, rfl, (FH.le_trans (le1) (le2)), ⟨(RSl.of q11365), (q11366)⟩, S.none⟩)

theorem c_first {h : FH} {w : World} (hs : Sub h w) (n_ : Int) (before : List (Int × Int)) (abefore : Option Addr) (cbefore : Nat) (_q1 : RSl h abefore before) (_q2 : before.length ≤ cbefore) : Calls Try.prog 15 #[.int .i64 n_, .slice abefore before.length cbefore] w fun e w' => ∃ (z : Option Addr × Nat) (h1 : FH), e = .returned (.tuple #[.slice z.1 (sp_first n_ before).1.length z.2, .agg #[.int .i64 (sp_first n_ before).2.code, .int .i64 (sp_first n_ before).2.index]]) ∧ FH.le h h1 ∧ (RSl h1 z.1 (sp_first n_ before).1 ∧ (sp_first n_ before).1.length ≤ z.2) ∧ SH (Kp.all w h) h1 w' [] :=
  (w_first hs n_ before abefore cbefore _q1 _q2 (fun r => r = sp_first n_ before) (ok_first n_ before)).mono fun _ _ ⟨r, z, h1, hk, he, hl, hf, hS⟩ => by subst hk; exact ⟨z, h1, he, hl, hf, hS⟩

set_option maxHeartbeats 8000000 in
theorem w_count {h : FH} {w : World} (hs : Sub h w) (n_ : Int) (before : List (Int × Int)) (abefore : Option Addr) (cbefore : Nat) (_q1 : RSl h abefore before) (_q2 : before.length ≤ cbefore) (K : (Int × Fault) → Prop) (hF : F_count n_ before K) : Calls Try.prog 16 #[.int .i64 n_, .slice abefore before.length cbefore] w fun e w' => ∃ r : Int × Fault, K r ∧ e = .returned (.tuple #[.int .i64 r.1, .agg #[.int .i64 r.2.code, .int .i64 r.2.index]]) ∧ Below w.heap.size w w' := by
  refine enter (args := [.int .i64 n_, .slice abefore before.length cbefore]) Try.func16 rfl Try.ntmps16 rfl hs ?_
  refine .seq ?_
  refine .region ?_
  refine .v (asg rfl) rfl rfl rfl ?_
  refine al tZ28 rfl (fun pv => ?_)
  refine .nil ?_
  refine .seqN ?_
  refine .seq ?_
  refine .seq ?_
  refine .region ?_
  refine .v (mv rfl) rfl rfl rfl ?_
  refine .v (mv rfl) rfl rfl rfl ?_
  obtain ⟨r2, q3⟩ : ∃ y_ : Fault, y_ = sp_orderFault n_ before := ⟨_, rfl⟩
  replace hF := hF r2 q3
  refine .c (cl (v := .agg #[.int .i64 r2.code, .int .i64 r2.index]) Try.call45 rfl rfl (fun w S => (by rw [q3]; exact c_orderFault S.sub n_ before abefore cbefore _q1 _q2 ))) rfl rfl rfl ?_
  refine al tZ28 rfl (fun pf => ?_)
  refine st (p := pf) (off := 0) (k := 0) (vs := [.int .i64 r2.code, .int .i64 r2.index]) rfl rfl rfl (fun w => (tA28 w).2) rfl rfl rfl rfl ?_
  refine .cast (A' := [Box pf [.int .i64 r2.code, .int .i64 r2.index], Box pv [.int .i64 0, .int .i64 0]]) rfl ?_
  refine .nil ?_
  refine .seqN ?_
  refine .seq ?_
  refine .region ?_
  refine .v (ldA (cs := [.int .i64 r2.code, .int .i64 r2.index]) rfl tA28 rfl (cellsB (off := 0) (k := 0) rfl (m := 2) rfl)) rfl rfl rfl ?_
  refine .v (bld (cs := #[.int .i64 0, .int .i64 0]) (pv := []) tB28 rfl rfl) rfl rfl rfl ?_
  refine .v (ne2 tE28 rfl rfl) rfl rfl rfl ?_
  refine .nil ?_
  refine .seqN ?_
  refine .cond rfl (fun q5 => ?_) (fun q5 => ?_)
  · replace hF := hF.1 q5
    refine .seq ?_
    refine .openL (by kernel_rfl) rfl (by kernel_rfl) (by kernel_rfl) ?_
    refine .v (ldA (cs := [.int .i64 r2.code, .int .i64 r2.index]) rfl tA28 rfl (cellsB (off := 0) (k := 0) rfl (m := 2) rfl)) rfl rfl rfl ?_
    refine .v (asg rfl) rfl rfl rfl ?_
    refine .tail ?_
    refine st (p := pv) (off := 0) (k := 1) (vs := [.int .i64 r2.code, .int .i64 r2.index]) rfl rfl rfl (fun w => (tA28 w).2) rfl rfl rfl rfl ?_
    refine .cast (A' := [Box pf [.int .i64 r2.code, .int .i64 r2.index], Box pv [.int .i64 r2.code, .int .i64 r2.index]]) rfl ?_
    refine .nil ?_
    refine .seqN ?_
    refine .ret ?_
    refine .seqR ?_
    refine .res2 rfl (rvT rfl) (rvC rfl tA28 (k := 1) rfl rfl) (fun w' S => ⟨(0, r2), hF, rfl, S.below⟩)
  replace hF := hF.2 q5
  refine .skip ?_
  refine .seqN ?_
  refine .seq ?_
  refine .region ?_
  refine .v (mv rfl) rfl rfl rfl ?_
  refine .v (mv rfl) rfl rfl rfl ?_
  obtain ⟨q6, hF⟩ := hF
  obtain ⟨r3, q7⟩ : ∃ y_ : List (List Bool) × Bool, y_ = sp_closure n_ before := ⟨_, rfl⟩
  replace hF := hF r3 q7
  refine clR (α := Option Addr × Nat) (Φ := fun h1 z => RSl h1 z.1 r3.1 ∧ r3.1.length ≤ z.2) (V := fun z => .tuple #[.slice z.1 r3.1.length z.2, .bool r3.2]) Try.call46 rfl rfl (fun w S => (by rw [q7]; exact c_closure S.sub n_ before abefore cbefore _q1 _q2 q6)) rfl (fun z h1 le1 hz => ?_)
  obtain ⟨a, c⟩ := z
  obtain ⟨q8, q9⟩ := hz
  refine .v (mv rfl) rfl rfl rfl ?_
  refine .v (ext rfl rfl) rfl rfl rfl ?_
  refine .v (ext rfl rfl) rfl rfl rfl ?_
  refine .v (asg rfl) rfl rfl rfl ?_
  refine .v (asg rfl) rfl rfl rfl ?_
  refine .nil ?_
  refine .seqN ?_
  refine .seq ?_
  refine .region ?_
  refine .v (mv rfl) rfl rfl rfl ?_
  obtain ⟨q10, hF⟩ := hF
  obtain ⟨x, q11⟩ : ∃ y_ : Int, y_ = (IntKind.i64.wrap (1 * 2 ^ (min ((n_ : Int)).toNat (IntKind.bits .i64)))) := ⟨_, rfl⟩
  replace hF := hF x q11
  refine .v (v := .int .i64 x) (by rw [q11]; exact bsh rfl rfl q10 rfl) rfl rfl rfl ?_
  obtain ⟨q12, hF⟩ := hF
  refine mk (m := (x).toNat) (cs' := flL (List.replicate (x).toNat (0 : Int))) tS22 rfl rfl (Int.toNat_of_nonneg q12.1).symm q12.2.1 q12.2.2 (flL_rep1 rfl _) rfl (fun a2 c2 => ?_)
  have q13 : (List.replicate (x).toNat (0 : Int)).length = (x).toNat := List.length_replicate
  refine .cast (A' := [OwnSl 3 1 a2 ((x).toNat) c2 (flL (List.replicate (x).toNat (0 : Int))), Box pf [.int .i64 r2.code, .int .i64 r2.index], Box pv [.int .i64 0, .int .i64 0]]) rfl ?_
  refine .v (asg rfl) rfl rfl rfl ?_
  refine .nil ?_
  refine .seqN ?_
  refine .seq ?_
  refine .region ?_
  refine .v (mv rfl) rfl rfl rfl ?_
  obtain ⟨q14, hF⟩ := hF
  refine .v (ixS rfl rfl tS22 (k := 0) rfl (inb_n q14 q13)) rfl rfl rfl ?_
  obtain ⟨d, q15⟩ : ∃ y_ : List Int, y_ = ((List.replicate (x).toNat (0 : Int)).set ((0 : Int)).toNat 1) := ⟨_, rfl⟩
  replace hF := hF d q15
  refine stS (k := 0) (cs' := flL d) rfl (fun _ => rfl) rfl rfl (fun w => (tO3 w).2) rfl rfl rfl (by rw [← q13]; exact inb_pos q14) (fl_room q14) (by rw [q15]; exact flL_set q14 1) ?_
  have q16 : d.length = (x).toNat := by rw [q15]; exact List.length_set.trans q13
  refine .cast (A' := [OwnSl 3 1 a2 ((x).toNat) c2 (flL d), Box pf [.int .i64 r2.code, .int .i64 r2.index], Box pv [.int .i64 0, .int .i64 0]]) rfl ?_
  refine .nil ?_
  refine .seqN ?_
  refine .seq ?_
  refine .seq ?_
  refine .region ?_
  refine .v (mv rfl) rfl rfl rfl ?_
  refine .v (ln rfl tS22.is) rfl rfl rfl ?_
  refine .v (mv rfl) rfl rfl rfl ?_
  refine .nil ?_
  refine .seqN ?_
  refine .block ?_
  refine .sel0 [2, 0] (by decide) rfl ?_
  obtain ⟨I1, μ1, q12837, q12838⟩ := hF
  refine .loop' (σ := Int × List Int) (fun z => I1 z.1 z.2 ∧ z.2.length = (x).toNat) (fun z => μ1 z.1 z.2) (fun z => [(0, .int .i64 n_), (5, .pointer (some pv)), (7, .slice a r3.1.length c), (9, .slice a2 ((x).toNat) c2), (33, .int .i64 (((x).toNat : Nat) : Int)), (34, .int .i64 z.1)]) (fun z => [Box pv [.int .i64 0, .int .i64 0], OwnSl 3 1 a2 ((x).toNat) c2 (flL z.2)]) (fun _ => h1) (0, d) ⟨q12837, q16⟩ (.cons rfl (.cons rfl (.cons rfl (.cons rfl (.cons rfl (.cons rfl (.nil))))))) rfl (FH.le_refl _) ?_
  rintro ⟨t34, ways⟩ ⟨q12837, q10273⟩
  have hF := q12838 t34 ways q12837
  show J _ _ _ _ _ [(0, .int .i64 n_), (5, .pointer (some pv)), (7, .slice a r3.1.length c), (9, .slice a2 ((x).toNat) c2), (33, .int .i64 (((x).toNat : Nat) : Int)), (34, .int .i64 t34)] [Box pv [.int .i64 0, .int .i64 0], OwnSl 3 1 a2 ((x).toNat) c2 (flL ways)] h1
  refine .seq ?_
  refine .region ?_
  refine .v (bi rfl rfl rfl) rfl rfl rfl ?_
  refine .nil ?_
  refine .seqN ?_
  refine .seq ?_
  refine .cond rfl (fun q12841 => ?_) (fun q12841 => ?_)
  · replace hF := hF.1 q12841
    refine .skip ?_
    refine .seqN ?_
    refine .seq ?_
    refine .block ?_
    refine .seq ?_
    refine .region ?_
    refine .v (mv rfl) rfl rfl rfl ?_
    refine .v (asg rfl) rfl rfl rfl ?_
    refine .nil ?_
    refine .seqN ?_
    refine .seq ?_
    refine .region ?_
    refine .v (mv rfl) rfl rfl rfl ?_
    refine .v (mv rfl) rfl rfl rfl ?_
    refine .nil ?_
    refine .seqN ?_
    refine .block ?_
    obtain ⟨I2, μ2, q15112, q15113⟩ := hF
    refine .loop' (σ := Int × List Int) (fun z => I2 z.1 z.2 ∧ z.2.length = (x).toNat) (fun z => μ2 z.1 z.2) (fun z => [(0, .int .i64 n_), (5, .pointer (some pv)), (7, .slice a r3.1.length c), (9, .slice a2 ((x).toNat) c2), (10, .int .i64 t34), (33, .int .i64 (((x).toNat : Nat) : Int)), (34, .int .i64 t34), (37, .int .i64 n_), (38, .int .i64 z.1)]) (fun z => [Box pv [.int .i64 0, .int .i64 0], OwnSl 3 1 a2 ((x).toNat) c2 (flL z.2)]) (fun _ => h1) (0, ways) ⟨q15112, q10273⟩ (.cons rfl (.cons rfl (.cons rfl (.cons rfl (.cons rfl (.cons rfl (.cons rfl (.cons rfl (.cons rfl (.nil)))))))))) rfl (FH.le_refl _) ?_
    rintro ⟨t38, ways3⟩ ⟨q15112, q14823⟩
    have hF := q15113 t38 ways3 q15112
    show J _ _ _ _ _ [(0, .int .i64 n_), (5, .pointer (some pv)), (7, .slice a r3.1.length c), (9, .slice a2 ((x).toNat) c2), (10, .int .i64 t34), (33, .int .i64 (((x).toNat : Nat) : Int)), (34, .int .i64 t34), (37, .int .i64 n_), (38, .int .i64 t38)] [Box pv [.int .i64 0, .int .i64 0], OwnSl 3 1 a2 ((x).toNat) c2 (flL ways3)] h1
    refine .seq ?_
    refine .region ?_
    refine .v (bi rfl rfl rfl) rfl rfl rfl ?_
    refine .nil ?_
    refine .seqN ?_
    refine .seq ?_
    refine .cond rfl (fun q15116 => ?_) (fun q15116 => ?_)
    · replace hF := hF.1 q15116
      refine .skip ?_
      refine .seqN ?_
      refine .share (σ := List Int) (fun z => F_count_J1 t38 I2 μ2 ways3 z ∧ z.length = (x).toNat) (fun _ => [(0, .int .i64 n_), (5, .pointer (some pv)), (7, .slice a r3.1.length c), (9, .slice a2 ((x).toNat) c2), (10, .int .i64 t34), (33, .int .i64 (((x).toNat : Nat) : Int)), (34, .int .i64 t34), (37, .int .i64 n_), (38, .int .i64 t38)]) (fun z => [Box pv [.int .i64 0, .int .i64 0], OwnSl 3 1 a2 ((x).toNat) c2 (flL z)]) (fun _ => h1) ?_ (fun q15259 => ?_)
      · rintro ways5 ⟨hF, q15258⟩
        show J _ _ _ _ _ [(0, .int .i64 n_), (5, .pointer (some pv)), (7, .slice a r3.1.length c), (9, .slice a2 ((x).toNat) c2), (10, .int .i64 t34), (33, .int .i64 (((x).toNat : Nat) : Int)), (34, .int .i64 t34), (37, .int .i64 n_), (38, .int .i64 t38)] [Box pv [.int .i64 0, .int .i64 0], OwnSl 3 1 a2 ((x).toNat) c2 (flL ways5)] h1
        refine .region ?_
        refine .v (bi rfl rfl rfl) rfl rfl rfl ?_
        refine .v (mv rfl) rfl rfl rfl ?_
        refine .nil ?_
        exact .round (IntKind.i64.wrap (t38 + 1), ways5) ⟨hF.1, q15258⟩ hF.2 (.cons rfl (.cons rfl (.cons rfl (.cons rfl (.cons rfl (.cons rfl (.cons rfl (.cons rfl (.cons rfl (.nil)))))))))) rfl (FH.le_refl _)
      refine .block ?_
      refine .seq ?_
      refine .region ?_
      refine .v (mv rfl) rfl rfl rfl ?_
      refine .v (asg rfl) rfl rfl rfl ?_
      refine .nil ?_
      refine .seqN ?_
      refine .seq ?_
      refine .region ?_
      refine .v (mv rfl) rfl rfl rfl ?_
      refine .v (mv rfl) rfl rfl rfl ?_
      obtain ⟨q15260, hF⟩ := hF
      refine .v (bsh rfl rfl q15260 rfl) rfl rfl rfl ?_
      obtain ⟨x2, q15261⟩ : ∃ y_ : Int, y_ = (bits .and .i64 (Int.fdiv t34 (2 ^ (min ((t38 : Int)).toNat (IntKind.bits .i64)))) 1) := ⟨_, rfl⟩
      replace hF := hF x2 q15261
      refine .v (v := .int .i64 x2) (by rw [q15261]; exact bi rfl rfl rfl) rfl rfl rfl ?_
      refine .v (bi rfl rfl rfl) rfl rfl rfl ?_
      refine .v (asg rfl) rfl rfl rfl ?_
      refine .nil ?_
      refine .seqN ?_
      refine .seq ?_
      refine .seq ?_
      refine .region ?_
      refine .v (mv rfl) rfl rfl rfl ?_
      refine .v (mv rfl) rfl rfl rfl ?_
      refine .nil ?_
      refine .seqN ?_
      refine .block ?_
      obtain ⟨I3, μ3, q15370, q15371⟩ := hF
      refine .loop' (σ := Bool × Int) (fun z => I3 z.1 z.2) (fun z => μ3 z.1 z.2) (fun z => [(0, .int .i64 n_), (5, .pointer (some pv)), (7, .slice a r3.1.length c), (9, .slice a2 ((x).toNat) c2), (10, .int .i64 t34), (11, .int .i64 t38), (12, .bool z.1), (33, .int .i64 (((x).toNat : Nat) : Int)), (34, .int .i64 t34), (37, .int .i64 n_), (38, .int .i64 t38), (46, .int .i64 n_), (47, .int .i64 z.2)]) (fun _ => [Box pv [.int .i64 0, .int .i64 0], OwnSl 3 1 a2 ((x).toNat) c2 (flL ways3)]) (fun _ => h1) (x2 == 0, 0) q15370 (.cons rfl (.cons rfl (.cons rfl (.cons rfl (.cons rfl (.cons rfl (.cons rfl (.cons rfl (.cons rfl (.cons rfl (.cons rfl (.cons rfl (.cons rfl (.nil)))))))))))))) rfl (FH.le_refl _) ?_
      rintro ⟨free, t47⟩ q15370
      have hF := q15371 free t47 q15370
      show J _ _ _ _ _ [(0, .int .i64 n_), (5, .pointer (some pv)), (7, .slice a r3.1.length c), (9, .slice a2 ((x).toNat) c2), (10, .int .i64 t34), (11, .int .i64 t38), (12, .bool free), (33, .int .i64 (((x).toNat : Nat) : Int)), (34, .int .i64 t34), (37, .int .i64 n_), (38, .int .i64 t38), (46, .int .i64 n_), (47, .int .i64 t47)] [Box pv [.int .i64 0, .int .i64 0], OwnSl 3 1 a2 ((x).toNat) c2 (flL ways3)] h1
      refine .seq ?_
      refine .region ?_
      refine .v (bi rfl rfl rfl) rfl rfl rfl ?_
      refine .nil ?_
      refine .seqN ?_
      refine .seq ?_
      refine .cond rfl (fun q15374 => ?_) (fun q15374 => ?_)
      · replace hF := hF.1 q15374
        refine .skip ?_
        refine .seqN ?_
        refine .share (σ := Bool) (fun z => F_count_J2 free t47 I3 μ3 z) (fun z => [(0, .int .i64 n_), (5, .pointer (some pv)), (7, .slice a r3.1.length c), (9, .slice a2 ((x).toNat) c2), (10, .int .i64 t34), (11, .int .i64 t38), (12, .bool z), (33, .int .i64 (((x).toNat : Nat) : Int)), (34, .int .i64 t34), (37, .int .i64 n_), (38, .int .i64 t38), (46, .int .i64 n_), (47, .int .i64 t47)]) (fun _ => [Box pv [.int .i64 0, .int .i64 0], OwnSl 3 1 a2 ((x).toNat) c2 (flL ways3)]) (fun _ => h1) ?_ (fun q15384 => ?_)
        · rintro free3 hF
          show J _ _ _ _ _ [(0, .int .i64 n_), (5, .pointer (some pv)), (7, .slice a r3.1.length c), (9, .slice a2 ((x).toNat) c2), (10, .int .i64 t34), (11, .int .i64 t38), (12, .bool free3), (33, .int .i64 (((x).toNat : Nat) : Int)), (34, .int .i64 t34), (37, .int .i64 n_), (38, .int .i64 t38), (46, .int .i64 n_), (47, .int .i64 t47)] [Box pv [.int .i64 0, .int .i64 0], OwnSl 3 1 a2 ((x).toNat) c2 (flL ways3)] h1
          refine .region ?_
          refine .v (bi rfl rfl rfl) rfl rfl rfl ?_
          refine .v (mv rfl) rfl rfl rfl ?_
          refine .nil ?_
          exact .round (free3, IntKind.i64.wrap (t47 + 1)) hF.1 hF.2 (.cons rfl (.cons rfl (.cons rfl (.cons rfl (.cons rfl (.cons rfl (.cons rfl (.cons rfl (.cons rfl (.cons rfl (.cons rfl (.cons rfl (.cons rfl (.nil)))))))))))))) rfl (FH.le_refl _)
        refine .block ?_
        refine .seq ?_
        refine .region ?_
        refine .v (mv rfl) rfl rfl rfl ?_
        refine .v (asg rfl) rfl rfl rfl ?_
        refine .nil ?_
        refine .seqN ?_
        refine .region ?_
        refine .v (mv rfl) rfl rfl rfl ?_
        refine .v (mv rfl) rfl rfl rfl ?_
        rcases Bool.eq_false_or_eq_true (free) with q15385 | q15385
        · replace hF := hF.1 q15385
          refine .gv (mv rfl) rfl rfl rfl q15385 rfl rfl ?_
          refine .gv (mv rfl) rfl rfl rfl q15385 rfl rfl ?_
          obtain ⟨q15386, hF⟩ := hF
          refine .gv (ix rfl rfl tS80 (q8.ne (by decide) (inb_pos q15386)) q15386) rfl rfl rfl q15385 rfl rfl ?_
          obtain ⟨_, ⟨a3, c3, rfl, q15387, q15388⟩, q15389⟩ := q8.elem q15386
          refine .gv (ld1 (v := .slice a3 ((gt r3.1 t47).length) c3) rfl tO84 (cellH (q15389 (by decide) 0 _ rfl))) rfl rfl rfl q15385 rfl rfl ?_
          refine .gv (mv rfl) rfl rfl rfl q15385 rfl rfl ?_
          obtain ⟨q15390, hF⟩ := hF
          refine .gv (ix rfl rfl tS84 (q15388.ne (by decide) (inb_pos q15390)) q15390) rfl rfl rfl q15385 rfl rfl ?_
          refine .gv (ld1 (v := .bool (gt (gt r3.1 t47) t38)) rfl tO4 (cellH (q15388.elemF q15390 (by decide) 0 _ rfl))) rfl rfl rfl q15385 rfl rfl ?_
          refine .gv (nt rfl) rfl rfl rfl q15385 rfl rfl ?_
          refine .gv (mv rfl) rfl rfl rfl q15385 rfl rfl ?_
          rcases Bool.eq_false_or_eq_true (!(gt (gt r3.1 t47) t38)) with q15391 | q15391
          · replace hF := hF.1 q15391
            refine .gS rfl rfl rfl q15391 rfl rfl ?_
            refine .gS rfl rfl rfl q15391 rfl rfl ?_
            refine .gS rfl rfl rfl q15391 rfl rfl ?_
            refine .gS rfl rfl rfl q15391 rfl rfl ?_
            refine .gS rfl rfl rfl q15391 rfl rfl ?_
            refine .gv (pkT rfl q15391 rfl) rfl rfl rfl q15385 rfl rfl ?_
            refine .v (pkT rfl q15385 rfl) rfl rfl rfl ?_
            refine .v (asg rfl) rfl rfl rfl ?_
            refine .nil ?_
            refine .blkN ?_
            exact .use q15384 true hF (.cons rfl (.cons rfl (.cons rfl (.cons rfl (.cons rfl (.cons rfl (.cons rfl (.cons rfl (.cons rfl (.cons rfl (.cons rfl (.cons rfl (.cons rfl (.nil)))))))))))))) rfl (FH.le_refl _)
          replace hF := hF.2 q15391
          refine .gv (mv rfl) rfl rfl rfl q15391 rfl rfl ?_
          refine .gv (mv rfl) rfl rfl rfl q15391 rfl rfl ?_
          obtain ⟨q15392, hF⟩ := hF
          refine .gv (bsh rfl rfl q15392 rfl) rfl rfl rfl q15391 rfl rfl ?_
          obtain ⟨x3, q15393⟩ : ∃ y_ : Int, y_ = (bits .and .i64 (Int.fdiv t34 (2 ^ (min ((t47 : Int)).toNat (IntKind.bits .i64)))) 1) := ⟨_, rfl⟩
          replace hF := hF x3 q15393
          refine .gv (v := .int .i64 x3) (by rw [q15393]; exact bi rfl rfl rfl) rfl rfl rfl q15391 rfl rfl ?_
          refine .gv (bi rfl rfl rfl) rfl rfl rfl q15391 rfl rfl ?_
          refine .gv (pkF rfl q15391 rfl) rfl rfl rfl q15385 rfl rfl ?_
          refine .v (pkT rfl q15385 rfl) rfl rfl rfl ?_
          refine .v (asg rfl) rfl rfl rfl ?_
          refine .nil ?_
          refine .blkN ?_
          exact .use q15384 (x3 == 1) hF (.cons rfl (.cons rfl (.cons rfl (.cons rfl (.cons rfl (.cons rfl (.cons rfl (.cons rfl (.cons rfl (.cons rfl (.cons rfl (.cons rfl (.cons rfl (.nil)))))))))))))) rfl (FH.le_refl _)
        replace hF := hF.2 q15385
        refine .gS rfl rfl rfl q15385 rfl rfl ?_
        refine .gS rfl rfl rfl q15385 rfl rfl ?_
        refine .gS rfl rfl rfl q15385 rfl rfl ?_
        refine .gS rfl rfl rfl q15385 rfl rfl ?_
        refine .gS rfl rfl rfl q15385 rfl rfl ?_
        refine .gS rfl rfl rfl q15385 rfl rfl ?_
        refine .gS rfl rfl rfl q15385 rfl rfl ?_
        refine .gS rfl rfl rfl q15385 rfl rfl ?_
        refine .gS rfl rfl rfl q15385 rfl rfl ?_
        refine .gU rfl rfl rfl rfl rfl ?_
        refine .gU rfl rfl rfl rfl rfl ?_
        refine .gU rfl rfl rfl rfl rfl ?_
        refine .gU rfl rfl rfl rfl rfl ?_
        refine .gU rfl rfl rfl rfl rfl ?_
        refine .gS rfl rfl rfl q15385 rfl rfl ?_
        refine .v (pkF rfl q15385 rfl) rfl rfl rfl ?_
        refine .v (asg rfl) rfl rfl rfl ?_
        refine .nil ?_
        refine .blkN ?_
        exact .use q15384 false hF (.cons rfl (.cons rfl (.cons rfl (.cons rfl (.cons rfl (.cons rfl (.cons rfl (.cons rfl (.cons rfl (.cons rfl (.cons rfl (.cons rfl (.cons rfl (.nil)))))))))))))) rfl (FH.le_refl _)
      replace hF := hF.2 q15374
      refine .exit ?_
      refine .seqX ?_
      refine .seqX ?_
      refine .blkX ?_
      refine .seqN ?_
      refine .seq ?_
      refine .region ?_
      refine .v (mv rfl) rfl rfl rfl ?_
      refine .nil ?_
      refine .seqN ?_
      refine .cond rfl (fun q15394 => ?_) (fun q15394 => ?_)
      · replace hF := hF.1 q15394
        refine .openL (by kernel_rfl) rfl (by kernel_rfl) (by kernel_rfl) ?_
        refine .v (mv rfl) rfl rfl rfl ?_
        refine .v (mv rfl) rfl rfl rfl ?_
        refine .v (mv rfl) rfl rfl rfl ?_
        obtain ⟨x4, q15395⟩ : ∃ y_ : Int, y_ = (IntKind.i64.wrap (1 * 2 ^ (min ((t38 : Int)).toNat (IntKind.bits .i64)))) := ⟨_, rfl⟩
        replace hF := hF x4 q15395
        refine .v (v := .int .i64 x4) (by rw [q15395]; exact bsh rfl rfl q15260 rfl) rfl rfl rfl ?_
        refine .v (bi rfl rfl rfl) rfl rfl rfl ?_
        obtain ⟨q15396, hF⟩ := hF
        refine .v (ixS rfl rfl tS22 (k := 1) rfl (inb_n q15396 q14823)) rfl rfl rfl ?_
        refine .v (ld1 (v := .int .i64 (gt ways3 (bits .or .i64 t34 x4))) rfl tO3 (cellS (k := 1) rfl (flL_get q15396 (j := 0) rfl))) rfl rfl rfl ?_
        refine .v (mv rfl) rfl rfl rfl ?_
        refine .v (mv rfl) rfl rfl rfl ?_
        obtain ⟨q15397, hF⟩ := hF
        refine .v (ixS rfl rfl tS22 (k := 1) rfl (inb_n q15397 q14823)) rfl rfl rfl ?_
        refine .v (ld1 (v := .int .i64 (gt ways3 t34)) rfl tO3 (cellS (k := 1) rfl (flL_get q15397 (j := 0) rfl))) rfl rfl rfl ?_
        obtain ⟨x5, q15398⟩ : ∃ y_ : Int, y_ = (IntKind.i64.wrap ((gt ways3 (bits .or .i64 t34 x4)) + (gt ways3 t34))) := ⟨_, rfl⟩
        replace hF := hF x5 q15398
        refine .v (v := .int .i64 x5) (by rw [q15398]; exact bi rfl rfl rfl) rfl rfl rfl ?_
        refine .v (ixS rfl rfl tS22 (k := 1) rfl (inb_n q15396 q14823)) rfl rfl rfl ?_
        refine .tail ?_
        obtain ⟨d2, q15399⟩ : ∃ y_ : List Int, y_ = (ways3.set (bits .or .i64 t34 x4).toNat x5) := ⟨_, rfl⟩
        replace hF := hF d2 q15399
        refine stS (k := 1) (cs' := flL d2) rfl (fun _ => rfl) rfl rfl (fun w => (tO3 w).2) rfl rfl rfl (by rw [← q14823]; exact inb_pos q15396) (fl_room q15396) (by rw [q15399]; exact flL_set q15396 x5) ?_
        have q15400 : d2.length = (x).toNat := by rw [q15399]; exact List.length_set.trans q14823
        refine .cast (A' := [Box pv [.int .i64 0, .int .i64 0], OwnSl 3 1 a2 ((x).toNat) c2 (flL d2)]) rfl ?_
        refine .nil ?_
        refine .blkN ?_
        exact .use q15259 d2 ⟨hF, q15400⟩ (.cons rfl (.cons rfl (.cons rfl (.cons rfl (.cons rfl (.cons rfl (.cons rfl (.cons rfl (.cons rfl (.nil)))))))))) rfl (FH.le_refl _)
      replace hF := hF.2 q15394
      refine .skip ?_
      refine .blkN ?_
      exact .use q15259 ways3 ⟨hF, q14823⟩ (.cons rfl (.cons rfl (.cons rfl (.cons rfl (.cons rfl (.cons rfl (.cons rfl (.cons rfl (.cons rfl (.nil)))))))))) rfl (FH.le_refl _)
    replace hF := hF.2 q15116
    refine .exit ?_
    refine .seqX ?_
    refine .seqX ?_
    refine .blkX ?_
    refine .blkN ?_
    refine .seqN ?_
    refine .region ?_
    refine .v (bi rfl rfl rfl) rfl rfl rfl ?_
    refine .v (mv rfl) rfl rfl rfl ?_
    refine .nil ?_
    exact .round (IntKind.i64.wrap (t34 + 1), ways3) ⟨hF.1, q14823⟩ hF.2 (.cons rfl (.cons rfl (.cons rfl (.cons rfl (.cons rfl (.cons rfl (.nil))))))) rfl (FH.le_refl _)
  replace hF := hF.2 q12841
  refine .exit ?_
  refine .seqX ?_
  refine .seqX ?_
  refine .blkX ?_
  refine .seqN ?_
  refine .seq ?_
  refine .region ?_
  refine .v (mv rfl) rfl rfl rfl ?_
  refine .v (mv rfl) rfl rfl rfl ?_
  refine .v (ln rfl tS22.is) rfl rfl rfl ?_
  refine .v (bi rfl rfl rfl) rfl rfl rfl ?_
  obtain ⟨q15401, hF⟩ := hF
  refine .v (ixS rfl rfl tS22 (k := 1) rfl (inb_n q15401 q10273)) rfl rfl rfl ?_
  refine .v (ld1 (v := .int .i64 (gt ways (IntKind.i64.wrap ((((x).toNat : Nat) : Int) - 1)))) rfl tO3 (cellS (k := 1) rfl (flL_get q15401 (j := 0) rfl))) rfl rfl rfl ?_
  refine .v (bld (cs := #[.int .i64 0, .int .i64 0]) (pv := []) tB28 rfl rfl) rfl rfl rfl ?_
  refine .v (asg rfl) rfl rfl rfl ?_
  refine st (p := pv) (off := 0) (k := 0) (vs := [.int .i64 0, .int .i64 0]) rfl rfl rfl (fun w => (tA28 w).2) rfl rfl rfl rfl ?_
  refine .cast (A' := [Box pv [.int .i64 0, .int .i64 0], OwnSl 3 1 a2 ((x).toNat) c2 (flL ways)]) rfl ?_
  refine .nil ?_
  refine .seqN ?_
  refine .ret ?_
  refine .res2 rfl (rvT rfl) (rvC rfl tA28 (k := 0) rfl rfl) (fun w' S => ⟨((gt ways (IntKind.i64.wrap ((((x).toNat : Nat) : Int) - 1))), (⟨0, 0⟩ : Fault)), hF, rfl, S.below⟩)

theorem c_count {h : FH} {w : World} (hs : Sub h w) (n_ : Int) (before : List (Int × Int)) (abefore : Option Addr) (cbefore : Nat) (_q1 : RSl h abefore before) (_q2 : before.length ≤ cbefore) : Calls Try.prog 16 #[.int .i64 n_, .slice abefore before.length cbefore] w fun e w' => e = .returned (.tuple #[.int .i64 (sp_count n_ before).1, .agg #[.int .i64 (sp_count n_ before).2.code, .int .i64 (sp_count n_ before).2.index]]) ∧ Below w.heap.size w w' :=
  (w_count hs n_ before abefore cbefore _q1 _q2 (fun r => r = sp_count n_ before) (ok_count n_ before)).mono fun _ _ ⟨_, hk, he, hb⟩ => ⟨by rw [he, hk], hb⟩

theorem w_orders {h : FH} {w : World} (hs : Sub h w) (n_ : Int) (before : List (Int × Int)) (abefore : Option Addr) (cbefore : Nat) (_q1 : RSl h abefore before) (_q2 : before.length ≤ cbefore) (done : List Int) (adone : Option Addr) (cdone : Nat) (_q3 : RSl h adone done) (_q4 : done.length ≤ cdone) (mM : Nat) (hm : mu_orders n_ before done = mM) (ih : ∀ {h : FH} {w : World} (_ : Sub h w) (n_ : Int) (before : List (Int × Int)) (abefore : Option Addr) (cbefore : Nat) (_ : RSl h abefore before) (_ : before.length ≤ cbefore) (done : List Int) (adone : Option Addr) (cdone : Nat) (_ : RSl h adone done) (_ : done.length ≤ cdone) (_ : mu_orders n_ before done < mM) (_ : pre_orders n_ before done), Calls Try.prog 21 #[.int .i64 n_, .slice abefore before.length cbefore, .slice adone done.length cdone] w fun e w' => ∃ (z : Option Addr × Nat) (h1 : FH), e = .returned (.slice z.1 (sp_orders n_ before done).length z.2) ∧ FH.le h h1 ∧ (RSl h1 z.1 (sp_orders n_ before done) ∧ (sp_orders n_ before done).length ≤ z.2) ∧ SH (Kp.all w h) h1 w' []) (K : (List (List Int)) → Prop) (hF : F_orders n_ before done K) : Calls Try.prog 21 #[.int .i64 n_, .slice abefore before.length cbefore, .slice adone done.length cdone] w fun e w' => ∃ (r : List (List Int)) (z : Option Addr × Nat) (h1 : FH), K r ∧ e = .returned (.slice z.1 r.length z.2) ∧ FH.le h h1 ∧ (RSl h1 z.1 r ∧ r.length ≤ z.2) ∧ SH (Kp.all w h) h1 w' [] := by
  refine enter (args := [.int .i64 n_, .slice abefore before.length cbefore, .slice adone done.length cdone]) Try.func21 rfl Try.ntmps21 rfl hs ?_
  refine .seq ?_
  refine .region ?_
  refine .v (asg rfl) rfl rfl rfl ?_
  refine .nil ?_
  refine .seqN ?_
  refine .seq ?_
  refine .seq ?_
  refine .region ?_
  refine .v (mv rfl) rfl rfl rfl ?_
  refine .v (ln rfl tS22.is) rfl rfl rfl ?_
  refine .v (mv rfl) rfl rfl rfl ?_
  refine .v (bi rfl rfl rfl) rfl rfl rfl ?_
  refine .nil ?_
  refine .seqN ?_
  refine .cond rfl (fun q9 => ?_) (fun q9 => ?_)
  · replace hF := hF.1 q9
    refine .seq ?_
    refine .region ?_
    refine .v (mv rfl) rfl rfl rfl ?_
    refine bs2 (cs := #[.slice adone done.length cdone]) (pv := [(0, .slice adone done.length cdone)]) tS36 rfl rfl (by decide) (by decide) rfl rfl rfl (fun a _ => ?_)
    refine .cast (A' := [OwnSl 22 1 a (([done] : List (List Int)).length) 1 [.slice adone done.length cdone]]) rfl ?_
    refine .v (asg rfl) rfl rfl rfl ?_
    refine .nil ?_
    refine .seqN ?_
    refine .freezeL (k := 0) rfl (fun h2 le2 q12 q11 => ?_)
    refine .cast (A' := [tru]) rfl ?_
    refine .ret ?_
    refine .seqR ?_
    refine .res1 rfl (rvT rfl) (fun w' S => ⟨([done] : List (List Int)), (a, 1), h2, hF, rfl, (le2), ⟨(⟨_, (show RepL h ([done] : List (List Int)) [.slice adone done.length cdone] from ⟨[.slice adone done.length cdone], _, rfl, ⟨adone, cdone, rfl, _q4, _q3⟩, rfl⟩).mono (le2), q11⟩ : RSl h2 a ([done] : List (List Int))), (q12)⟩, S.none⟩)
  replace hF := hF.2 q9
  refine .skip ?_
  refine .seqN ?_
  refine .seq ?_
  refine .region ?_
  refine .v (asg rfl) rfl rfl rfl ?_
  refine .nil ?_
  refine .seqN ?_
  refine .seq ?_
  refine .seq ?_
  refine .region ?_
  refine .v (asg rfl) rfl rfl rfl ?_
  refine .nil ?_
  refine .seqN ?_
  refine .block ?_
  refine .nilSl 22 1 ?_
  refine .cast (A' := [OwnSl 22 1 none (([] : List (List Int)).length) 0 []]) rfl ?_
  obtain ⟨I1, μ1, q266, q267⟩ := hF
  refine .loop' (σ := Int × List (List Int) × Option Addr × Nat × List Value × FH) (fun z => I1 z.1 z.2.1 ∧ RepL z.2.2.2.2.2 z.2.1 z.2.2.2.2.1 ∧ FH.le h z.2.2.2.2.2) (fun z => μ1 z.1 z.2.1) (fun z => [(0, .int .i64 n_), (1, .slice abefore before.length cbefore), (2, .slice adone done.length cdone), (7, .slice z.2.2.1 z.2.1.length z.2.2.2.1), (8, .int .i64 z.1)]) (fun z => [OwnSl 22 1 z.2.2.1 z.2.1.length z.2.2.2.1 z.2.2.2.2.1]) (fun z => z.2.2.2.2.2) (0, ([] : List (List Int)), none, 0, [], h) ⟨q266, (show RepL h ([] : List (List Int)) [] from rfl), (FH.le_refl _)⟩ (.cons rfl (.cons rfl (.cons rfl (.cons rfl (.cons rfl (.nil)))))) rfl (FH.le_refl _) ?_
  rintro ⟨i, out, aout, cout, csout, h29⟩ ⟨q266, q215, q216⟩
  have hF := q267 i out q266
  show J _ _ _ _ _ [(0, .int .i64 n_), (1, .slice abefore before.length cbefore), (2, .slice adone done.length cdone), (7, .slice aout out.length cout), (8, .int .i64 i)] [OwnSl 22 1 aout out.length cout csout] h29
  refine .seq ?_
  refine .seq ?_
  refine .region ?_
  refine .v (mv rfl) rfl rfl rfl ?_
  refine .v (mv rfl) rfl rfl rfl ?_
  refine .v (bi rfl rfl rfl) rfl rfl rfl ?_
  refine .nil ?_
  refine .seqN ?_
  refine .cond rfl (fun q269 => ?_) (fun q269 => ?_)
  · replace hF := hF.1 q269
    refine .skip ?_
    refine .seqN ?_
    refine .share (σ := List (List Int) × Option Addr × Nat × List Value × FH) (fun z => F_orders_J1 out i I1 μ1 z.1 ∧ RepL z.2.2.2.2 z.1 z.2.2.2.1 ∧ FH.le h29 z.2.2.2.2) (fun z => [(0, .int .i64 n_), (1, .slice abefore before.length cbefore), (2, .slice adone done.length cdone), (7, .slice z.2.1 z.1.length z.2.2.1), (8, .int .i64 i)]) (fun z => [OwnSl 22 1 z.2.1 z.1.length z.2.2.1 z.2.2.2.1]) (fun z => z.2.2.2.2) ?_ (fun q293 => ?_)
    · rintro ⟨out3, aout3, cout3, csout3, h38⟩ ⟨hF, q291, q292⟩
      show J _ _ _ _ _ [(0, .int .i64 n_), (1, .slice abefore before.length cbefore), (2, .slice adone done.length cdone), (7, .slice aout3 out3.length cout3), (8, .int .i64 i)] [OwnSl 22 1 aout3 out3.length cout3 csout3] h38
      refine .region ?_
      refine .v (mv rfl) rfl rfl rfl ?_
      refine .v (bi rfl rfl rfl) rfl rfl rfl ?_
      refine .v (asg rfl) rfl rfl rfl ?_
      refine .nil ?_
      exact .round (IntKind.i64.wrap (i + 1), out3, aout3, cout3, csout3, h38) ⟨hF.1, q291, (FH.le_trans (q216) (q292))⟩ hF.2 (.cons rfl (.cons rfl (.cons rfl (.cons rfl (.cons rfl (.nil)))))) rfl (FH.le_refl _)
    refine .block ?_
    refine .seq ?_
    refine .region ?_
    refine .v (mv rfl) rfl rfl rfl ?_
    refine .v (mv rfl) rfl rfl rfl ?_
    refine .v (mv rfl) rfl rfl rfl ?_
    obtain ⟨q294, hF⟩ := hF
    obtain ⟨r2, q295⟩ : ∃ y_ : Bool, y_ = sp_ready before done i := ⟨_, rfl⟩
    replace hF := hF r2 q295
    refine .c (cl (v := .bool r2) Try.call48 rfl rfl (fun w S => (by rw [q295]; exact c_ready S.sub before abefore cbefore (_q1.mono (q216)) _q2 done adone cdone (_q3.mono (q216)) _q4 i q294))) rfl rfl rfl ?_
    refine .nil ?_
    refine .seqN ?_
    refine .cond rfl (fun q296 => ?_) (fun q296 => ?_)
    · replace hF := hF.1 q296
      refine .region ?_
      refine .v (mv rfl) rfl rfl rfl ?_
      refine .v (mv rfl) rfl rfl rfl ?_
      refine .v (mv rfl) rfl rfl rfl ?_
      refine bs2 (cs := #[]) (pv := []) tS22 rfl rfl (by decide) (by decide) rfl rfl rfl (fun a2 _ => ?_)
      refine .cast (A' := [OwnSl 3 1 a2 (([] : List Int).length) 0 (flL ([] : List Int)), OwnSl 22 1 aout out.length cout csout]) rfl ?_
      refine .v (mv rfl) rfl rfl rfl ?_
      obtain ⟨q298, hF⟩ := hF
      have q299 : ([] : List Int).length + done.length = ((([] : List Int) ++ done)).length := len_app rfl rfl
      refine app (k := 0) (news := flL done) (cs' := flL (([] : List Int) ++ done)) (nm := ((([] : List Int) ++ done)).length) tS22 rfl (by decide) rfl rfl rfl (by rw [flL_len]; rfl) (srcH (fun q => (_q3.mono (q216)).ne (by decide) q) ((_q3.mono (q216)).raw)) (flL_one _) (room_of q299 q298).1 (room_of q299 q298).2 q299 (flL_append _ _).symm rfl (fun a3 c => ?_)
      refine .cast (A' := [OwnSl 3 1 a3 ((([] : List Int) ++ done).length) c (flL (([] : List Int) ++ done)), OwnSl 22 1 aout out.length cout csout]) rfl ?_
      refine .v (mv rfl) rfl rfl rfl ?_
      refine bs2 (cs := #[.int .i64 i]) (pv := [(0, .int .i64 i)]) tS22 rfl rfl (by decide) (by decide) rfl rfl rfl (fun a4 _ => ?_)
      refine .cast (A' := [OwnSl 3 1 a4 (([i] : List Int).length) 1 (flL ([i] : List Int)), OwnSl 3 1 a3 ((([] : List Int) ++ done).length) c (flL (([] : List Int) ++ done)), OwnSl 22 1 aout out.length cout csout]) rfl ?_
      obtain ⟨q301, hF⟩ := hF
      have q302 : (([] : List Int) ++ done).length + ([i] : List Int).length = (((([] : List Int) ++ done) ++ ([i] : List Int))).length := len_app rfl rfl
      refine app (k := 1) (news := flL ([i] : List Int)) (cs' := flL ((([] : List Int) ++ done) ++ ([i] : List Int))) (nm := (((([] : List Int) ++ done) ++ ([i] : List Int))).length) tS22 rfl (by decide) rfl rfl rfl (by rw [flL_len]; rfl) (srcS (k := 0) rfl) (flL_one _) (room_of q302 q301).1 (room_of q302 q301).2 q302 (flL_append _ _).symm rfl (fun a5 c2 => ?_)
      refine .cast (A' := [OwnSl 3 1 a4 (([i] : List Int).length) 1 (flL ([i] : List Int)), OwnSl 3 1 a5 (((([] : List Int) ++ done) ++ ([i] : List Int)).length) c2 (flL ((([] : List Int) ++ done) ++ ([i] : List Int))), OwnSl 22 1 aout out.length cout csout]) rfl ?_
      refine .freezeL (k := 1) rfl (fun h39 le39 q304 q303 => ?_)
      refine .cast (A' := [OwnSl 3 1 a4 (([i] : List Int).length) 1 (flL ([i] : List Int)), tru, OwnSl 22 1 aout out.length cout csout]) rfl ?_
      obtain ⟨q305, hF⟩ := hF
      obtain ⟨q306, hF⟩ := hF
      obtain ⟨r3, q307⟩ : ∃ y_ : List (List Int), y_ = sp_orders n_ before ((([] : List Int) ++ done) ++ ([i] : List Int)) := ⟨_, rfl⟩
      replace hF := hF r3 q307
      refine clR (α := Option Addr × Nat) (Φ := fun h1 z => RSl h1 z.1 r3 ∧ r3.length ≤ z.2) (V := fun z => .slice z.1 r3.length z.2) Try.call21 rfl rfl (fun w S => (by rw [q307]; exact ih S.sub n_ before abefore cbefore (_q1.mono (FH.le_trans (q216) (le39))) _q2 ((([] : List Int) ++ done) ++ ([i] : List Int)) a5 c2 (RSl.of q303) (q304) (by rw [← hm]; exact q306) q305)) rfl (fun z h40 le40 hz => ?_)
      obtain ⟨a6, c3⟩ := z
      obtain ⟨q308, q309⟩ := hz
      obtain ⟨cs, q310, q311⟩ := id q308
      obtain ⟨q312, hF⟩ := hF
      have q313 : out.length + r3.length = ((out ++ r3)).length := len_app rfl rfl
      have q314 := RepL.append (RepL.mono (FH.le_trans (le39) (le40)) q215) q310
      refine app (k := 2) (news := cs) (cs' := (csout ++ cs)) (nm := ((out ++ r3)).length) tS36 rfl (by decide) rfl rfl rfl (RepL.len q310) (srcH (fun q => q308.ne (by decide) q) q311) (RepL.one q310) (room_of q313 q312).1 (room_of q313 q312).2 q313 rfl rfl (fun a7 c4 => ?_)
      refine .cast (A' := [OwnSl 3 1 a4 (([i] : List Int).length) 1 (flL ([i] : List Int)), tru, OwnSl 22 1 a7 ((out ++ r3).length) c4 (csout ++ cs)]) rfl ?_
      refine .v (asg rfl) rfl rfl rfl ?_
      refine .nil ?_
      refine .blkN ?_
      refine .sel0 [2] (by decide) rfl ?_
      exact .use q293 ((out ++ r3), a7, c4, (csout ++ cs), h40) ⟨hF, q314, (FH.le_trans (le39) (le40))⟩ (.cons rfl (.cons rfl (.cons rfl (.cons rfl (.cons rfl (.nil)))))) rfl (FH.le_refl _)
    replace hF := hF.2 q296
    refine .skip ?_
    refine .blkN ?_
    exact .use q293 (out, aout, cout, csout, h29) ⟨hF, q215, (FH.le_refl _)⟩ (.cons rfl (.cons rfl (.cons rfl (.cons rfl (.cons rfl (.nil)))))) rfl (FH.le_refl _)
  replace hF := hF.2 q269
  refine .exit ?_
  refine .seqX ?_
  refine .seqX ?_
  refine .blkX ?_
  refine .seqN ?_
  refine .seq ?_
  refine .region ?_
  refine .v (mv rfl) rfl rfl rfl ?_
  refine .v (asg rfl) rfl rfl rfl ?_
  refine .nil ?_
  refine .seqN ?_
  refine .freezeL (k := 0) rfl (fun h41 le41 q316 q315 => ?_)
  refine .cast (A' := [tru]) rfl ?_
  refine .ret ?_
  refine .res1 rfl (rvT rfl) (fun w' S => ⟨out, (aout, cout), h41, hF, rfl, (FH.le_trans (q216) (le41)), ⟨(⟨_, q215.mono (le41), q315⟩ : RSl h41 aout out), (q316)⟩, S.none⟩)

theorem c_orders_ : ∀ (mM : Nat) {h : FH} {w : World} (_ : Sub h w) (n_ : Int) (before : List (Int × Int)) (abefore : Option Addr) (cbefore : Nat) (_q1 : RSl h abefore before) (_q2 : before.length ≤ cbefore) (done : List Int) (adone : Option Addr) (cdone : Nat) (_q3 : RSl h adone done) (_q4 : done.length ≤ cdone) (_ : mu_orders n_ before done = mM) (_ : pre_orders n_ before done), Calls Try.prog 21 #[.int .i64 n_, .slice abefore before.length cbefore, .slice adone done.length cdone] w fun e w' => ∃ (z : Option Addr × Nat) (h1 : FH), e = .returned (.slice z.1 (sp_orders n_ before done).length z.2) ∧ FH.le h h1 ∧ (RSl h1 z.1 (sp_orders n_ before done) ∧ (sp_orders n_ before done).length ≤ z.2) ∧ SH (Kp.all w h) h1 w' [] := by
  intro mM
  induction mM using Nat.strongRecOn with
  | _ mM ih =>
    intro h w hs n_ before abefore cbefore _q1 _q2 done adone cdone _q3 _q4 hm hp
    exact (w_orders hs n_ before abefore cbefore _q1 _q2 done adone cdone _q3 _q4 _ rfl (fun hs' n_ before abefore cbefore _q1 _q2 done adone cdone _q3 _q4 hlt hp => ih _ (hm ▸ hlt) hs' n_ before abefore cbefore _q1 _q2 done adone cdone _q3 _q4 rfl hp) (fun r => r = sp_orders n_ before done) (ok_orders n_ before done hp)).mono fun _ _ ⟨r, z, h1, hk, he, hl, hf, hS⟩ => by subst hk; exact ⟨z, h1, he, hl, hf, hS⟩
theorem c_orders {h : FH} {w : World} (hs : Sub h w) (n_ : Int) (before : List (Int × Int)) (abefore : Option Addr) (cbefore : Nat) (_q1 : RSl h abefore before) (_q2 : before.length ≤ cbefore) (done : List Int) (adone : Option Addr) (cdone : Nat) (_q3 : RSl h adone done) (_q4 : done.length ≤ cdone) (hp : pre_orders n_ before done) : Calls Try.prog 21 #[.int .i64 n_, .slice abefore before.length cbefore, .slice adone done.length cdone] w fun e w' => ∃ (z : Option Addr × Nat) (h1 : FH), e = .returned (.slice z.1 (sp_orders n_ before done).length z.2) ∧ FH.le h h1 ∧ (RSl h1 z.1 (sp_orders n_ before done) ∧ (sp_orders n_ before done).length ≤ z.2) ∧ SH (Kp.all w h) h1 w' [] :=
  c_orders_ _ hs n_ before abefore cbefore _q1 _q2 done adone cdone _q3 _q4 rfl hp

theorem w_counted {h : FH} {w : World} (hs : Sub h w) (K : Bool → Prop) (hF : F_counted  K) : Calls Try.prog 20 #[] w fun e w' => ∃ r : Bool, K r ∧ e = .returned (.bool r) ∧ Below w.heap.size w w' := by
  refine enter (args := []) Try.func20 rfl Try.ntmps20 rfl hs ?_
  refine .seq ?_
  refine .region ?_
  refine .v (asg rfl) rfl rfl rfl ?_
  refine .nil ?_
  refine .seqN ?_
  refine .seq ?_
  refine .region ?_
  refine .v (bldA (cs := #[.int .i64 0, .int .i64 1]) (pv := [(0, .int .i64 0), (1, .int .i64 1)]) tB43 rfl rfl) rfl rfl rfl ?_
  refine bs2 (cs := #[.int .i64 0, .int .i64 1]) (pv := [(0, .agg #[.int .i64 0, .int .i64 1])]) tS26 rfl rfl (by decide) (by decide) rfl rfl rfl (fun a _ => ?_)
  refine .cast (A' := [OwnSl 43 2 a (([(⟨0, 1⟩ : Int × Int)] : List (Int × Int)).length) 1 (flL ([(⟨0, 1⟩ : Int × Int)] : List (Int × Int)))]) rfl ?_
  obtain ⟨r2, q2⟩ : ∃ y_ : Int × Fault, y_ = sp_count 3 ([(⟨0, 1⟩ : Int × Int)] : List (Int × Int)) := ⟨_, rfl⟩
  replace hF := hF r2 q2
  refine .c (cl (v := .tuple #[.int .i64 r2.1, .agg #[.int .i64 r2.2.code, .int .i64 r2.2.index]]) Try.call16 rfl rfl (fun w S => (by rw [q2]; obtain ⟨h_, hl_, hs_, hne_, hr_⟩ := look S (k := 0) rfl; exact c_count hs_ 3 ([(⟨0, 1⟩ : Int × Int)] : List (Int × Int)) a 1 (RSl.of hr_) (look_len S (k := 0) rfl) ))) rfl rfl rfl ?_
  refine .v (mv rfl) rfl rfl rfl ?_
  refine .v (ext rfl rfl) rfl rfl rfl ?_
  refine .v (ext rfl rfl) rfl rfl rfl ?_
  refine al tZ28 rfl (fun pf => ?_)
  refine .v (asg rfl) rfl rfl rfl ?_
  refine st (p := pf) (off := 0) (k := 0) (vs := [.int .i64 r2.2.code, .int .i64 r2.2.index]) rfl rfl rfl (fun w => (tA28 w).2) rfl rfl rfl rfl ?_
  refine .cast (A' := [Box pf [.int .i64 r2.2.code, .int .i64 r2.2.index], OwnSl 43 2 a (([(⟨0, 1⟩ : Int × Int)] : List (Int × Int)).length) 1 (flL ([(⟨0, 1⟩ : Int × Int)] : List (Int × Int)))]) rfl ?_
  refine .nil ?_
  refine .seqN ?_
  refine .seq ?_
  refine .region ?_
  refine .v (bldA (cs := #[.int .i64 1, .int .i64 0]) (pv := [(0, .int .i64 1), (1, .int .i64 0)]) tB43 rfl rfl) rfl rfl rfl ?_
  refine bs2 (cs := #[.int .i64 1, .int .i64 0]) (pv := [(0, .agg #[.int .i64 1, .int .i64 0])]) tS26 rfl rfl (by decide) (by decide) rfl rfl rfl (fun a2 _ => ?_)
  refine .cast (A' := [OwnSl 43 2 a2 (([(⟨1, 0⟩ : Int × Int)] : List (Int × Int)).length) 1 (flL ([(⟨1, 0⟩ : Int × Int)] : List (Int × Int))), Box pf [.int .i64 r2.2.code, .int .i64 r2.2.index], OwnSl 43 2 a (([(⟨0, 1⟩ : Int × Int)] : List (Int × Int)).length) 1 (flL ([(⟨0, 1⟩ : Int × Int)] : List (Int × Int)))]) rfl ?_
  refine .freezeL (k := 0) rfl (fun h1 le1 q5 q4 => ?_)
  refine .cast (A' := [tru, Box pf [.int .i64 r2.2.code, .int .i64 r2.2.index], OwnSl 43 2 a (([(⟨0, 1⟩ : Int × Int)] : List (Int × Int)).length) 1 (flL ([(⟨0, 1⟩ : Int × Int)] : List (Int × Int)))]) rfl ?_
  obtain ⟨r3, q6⟩ : ∃ y_ : List Int × Fault, y_ = sp_first 2 ([(⟨1, 0⟩ : Int × Int)] : List (Int × Int)) := ⟨_, rfl⟩
  replace hF := hF r3 q6
  refine clR (α := Option Addr × Nat) (Φ := fun h1 z => RSl h1 z.1 r3.1 ∧ r3.1.length ≤ z.2) (V := fun z => .tuple #[.slice z.1 r3.1.length z.2, .agg #[.int .i64 r3.2.code, .int .i64 r3.2.index]]) Try.call15 rfl rfl (fun w S => (by rw [q6]; exact c_first S.sub 2 ([(⟨1, 0⟩ : Int × Int)] : List (Int × Int)) a2 1 (RSl.of q4) (q5) )) rfl (fun z h2 le2 hz => ?_)
  obtain ⟨a3, c⟩ := z
  obtain ⟨q7, q8⟩ := hz
  refine .v (mv rfl) rfl rfl rfl ?_
  refine .v (ext rfl rfl) rfl rfl rfl ?_
  refine .v (ext rfl rfl) rfl rfl rfl ?_
  refine al tZ28 rfl (fun pg => ?_)
  refine .v (asg rfl) rfl rfl rfl ?_
  refine st (p := pg) (off := 0) (k := 0) (vs := [.int .i64 r3.2.code, .int .i64 r3.2.index]) rfl rfl rfl (fun w => (tA28 w).2) rfl rfl rfl rfl ?_
  refine .cast (A' := [Box pg [.int .i64 r3.2.code, .int .i64 r3.2.index], tru, Box pf [.int .i64 r2.2.code, .int .i64 r2.2.index], OwnSl 43 2 a (([(⟨0, 1⟩ : Int × Int)] : List (Int × Int)).length) 1 (flL ([(⟨0, 1⟩ : Int × Int)] : List (Int × Int)))]) rfl ?_
  refine .nil ?_
  refine .seqN ?_
  refine .seq ?_
  refine .region ?_
  refine .v (fa rfl tF28_0) rfl rfl rfl ?_
  refine .v (ld1 rfl tO3 (cellB (off := 0) (k := 2) rfl rfl)) rfl rfl rfl ?_
  refine .v (bi rfl rfl rfl) rfl rfl rfl ?_
  refine .v (mv rfl) rfl rfl rfl ?_
  rcases Bool.eq_false_or_eq_true (r2.2.code == 0) with q15 | q15
  · replace hF := hF.1 q15
    refine .gv (fa rfl tF28_0) rfl rfl rfl q15 rfl rfl ?_
    refine .gv (ld1 rfl tO3 (cellB (off := 0) (k := 0) rfl rfl)) rfl rfl rfl q15 rfl rfl ?_
    refine .gv (bi rfl rfl rfl) rfl rfl rfl q15 rfl rfl ?_
    refine .v (pkT rfl q15 rfl) rfl rfl rfl ?_
    refine .v (mv rfl) rfl rfl rfl ?_
    rcases Bool.eq_false_or_eq_true (r3.2.code == 0) with q16 | q16
    · replace hF := hF.1 q16
      refine .gv (mv rfl) rfl rfl rfl q16 rfl rfl ?_
      refine .gv (bi rfl rfl rfl) rfl rfl rfl q16 rfl rfl ?_
      refine .v (pkT rfl q16 rfl) rfl rfl rfl ?_
      refine .v (mv rfl) rfl rfl rfl ?_
      rcases Bool.eq_false_or_eq_true (r2.1 == 3) with q17 | q17
      · replace hF := hF.1 q17
        refine .gv (mv rfl) rfl rfl rfl q17 rfl rfl ?_
        refine .gR rfl rfl rfl q17 ?_
        refine bs2 (cs := #[.int .i64 1, .int .i64 0]) (pv := [(0, .int .i64 1), (1, .int .i64 0)]) tS22 rfl rfl (by decide) (by decide) rfl rfl rfl (fun a4 _ => ?_)
        refine .cast (A' := [OwnSl 3 1 a4 (([1, 0] : List Int).length) 2 (flL ([1, 0] : List Int)), Box pg [.int .i64 r3.2.code, .int .i64 r3.2.index], tru, Box pf [.int .i64 r2.2.code, .int .i64 r2.2.index], OwnSl 43 2 a (([(⟨0, 1⟩ : Int × Int)] : List (Int × Int)).length) 1 (flL ([(⟨0, 1⟩ : Int × Int)] : List (Int × Int)))]) rfl ?_
        obtain ⟨q19, hF⟩ := hF
        obtain ⟨r4, q20⟩ : ∃ y_ : Bool, y_ = sp_numbers r3.1 ([1, 0] : List Int) := ⟨_, rfl⟩
        replace hF := hF r4 q20
        refine .gc (cl (v := .bool r4) Try.call22 rfl rfl (fun w S => (by rw [q20]; obtain ⟨h_, hl_, hs_, hne_, hr_⟩ := look S (k := 0) rfl; exact c_numbers hs_ r3.1 a3 c (RSl.mono hl_ q7) q8 ([1, 0] : List Int) a4 2 (RSl.of hr_) (look_len S (k := 0) rfl) q19))) rfl rfl rfl q17 rfl rfl ?_
        refine .v (pkT rfl q17 rfl) rfl rfl rfl ?_
        refine .v (asg rfl) rfl rfl rfl ?_
        refine .nil ?_
        refine .seqN ?_
        refine .ret ?_
        refine .res1 rfl (rvT rfl) (fun w' S => ⟨r4, hF, rfl, S.below⟩)
      replace hF := hF.2 q17
      refine .gS rfl rfl rfl q17 rfl rfl ?_
      refine .gS rfl rfl rfl q17 rfl rfl ?_
      refine .gS rfl rfl rfl q17 rfl rfl ?_
      refine .v (pkF rfl q17 rfl) rfl rfl rfl ?_
      refine .v (asg rfl) rfl rfl rfl ?_
      refine .nil ?_
      refine .seqN ?_
      refine .ret ?_
      refine .res1 rfl (rvT rfl) (fun w' S => ⟨false, hF, rfl, S.below⟩)
    replace hF := hF.2 q16
    refine .gS rfl rfl rfl q16 rfl rfl ?_
    refine .gS rfl rfl rfl q16 rfl rfl ?_
    refine .v (pkF rfl q16 rfl) rfl rfl rfl ?_
    refine .v (mv rfl) rfl rfl rfl ?_
    refine .gS rfl rfl rfl rfl rfl rfl ?_
    refine .gS rfl rfl rfl rfl rfl rfl ?_
    refine .gS rfl rfl rfl rfl rfl rfl ?_
    refine .v (pkF rfl rfl rfl) rfl rfl rfl ?_
    refine .v (asg rfl) rfl rfl rfl ?_
    refine .nil ?_
    refine .seqN ?_
    refine .ret ?_
    refine .res1 rfl (rvT rfl) (fun w' S => ⟨false, hF, rfl, S.below⟩)
  replace hF := hF.2 q15
  refine .gS rfl rfl rfl q15 rfl rfl ?_
  refine .gS rfl rfl rfl q15 rfl rfl ?_
  refine .gS rfl rfl rfl q15 rfl rfl ?_
  refine .v (pkF rfl q15 rfl) rfl rfl rfl ?_
  refine .v (mv rfl) rfl rfl rfl ?_
  refine .gS rfl rfl rfl rfl rfl rfl ?_
  refine .gS rfl rfl rfl rfl rfl rfl ?_
  refine .v (pkF rfl rfl rfl) rfl rfl rfl ?_
  refine .v (mv rfl) rfl rfl rfl ?_
  refine .gS rfl rfl rfl rfl rfl rfl ?_
  refine .gS rfl rfl rfl rfl rfl rfl ?_
  refine .gS rfl rfl rfl rfl rfl rfl ?_
  refine .v (pkF rfl rfl rfl) rfl rfl rfl ?_
  refine .v (asg rfl) rfl rfl rfl ?_
  refine .nil ?_
  refine .seqN ?_
  refine .ret ?_
  refine .res1 rfl (rvT rfl) (fun w' S => ⟨false, hF, rfl, S.below⟩)

theorem c_counted {h : FH} {w : World} (hs : Sub h w) : Calls Try.prog 20 #[] w fun e w' => e = .returned (.bool (sp_counted)) ∧ Below w.heap.size w w' :=
  (w_counted hs  (fun r => r = sp_counted) (ok_counted )).mono fun _ _ ⟨_, hk, he, hb⟩ => ⟨by rw [he, hk], hb⟩

set_option maxHeartbeats 8000000 in
theorem w_lawMatches {h : FH} {w : World} (hs : Sub h w) (t : Task) (at_ : Option Addr) (ct : Nat) (_q1 : RSl h at_ t.init) (_q2 : t.init.length ≤ ct) (at_2 : Option Addr) (ct2 : Nat) (_q3 : RSl h at_2 t.goal) (_q4 : t.goal.length ≤ ct2) (at_3 : Option Addr) (ct3 : Nat) (_q5 : RSl h at_3 t.ops) (_q6 : t.ops.length ≤ ct3) (steps : List Int) (asteps : Option Addr) (csteps : Nat) (_q7 : RSl h asteps steps) (_q8 : steps.length ≤ csteps) (n_ : Int) (before : List (Int × Int)) (abefore : Option Addr) (cbefore : Nat) (_q9 : RSl h abefore before) (_q10 : before.length ≤ cbefore) (K : Bool → Prop) (hF : F_lawMatches t steps n_ before K) : Calls Try.prog 3 #[.agg #[.int .i64 t.facts, .slice at_ t.init.length ct, .slice at_2 t.goal.length ct2, .slice at_3 t.ops.length ct3], .slice asteps steps.length csteps, .int .i64 n_, .slice abefore before.length cbefore] w fun e w' => ∃ r : Bool, K r ∧ e = .returned (.bool r) ∧ Below w.heap.size w w' := by
  refine enter (args := [.agg #[.int .i64 t.facts, .slice at_ t.init.length ct, .slice at_2 t.goal.length ct2, .slice at_3 t.ops.length ct3], .slice asteps steps.length csteps, .int .i64 n_, .slice abefore before.length cbefore]) Try.func3 rfl Try.ntmps3 rfl hs ?_
  refine .seq ?_
  refine .region ?_
  refine bx (vs := [.int .i64 t.facts, .slice at_ t.init.length ct, .slice at_2 t.goal.length ct2, .slice at_3 t.ops.length ct3]) rfl rfl rfl (fun pt => ?_)
  refine .v (asg rfl) rfl rfl rfl ?_
  refine .nil ?_
  refine .seqN ?_
  refine .seq ?_
  refine .region ?_
  refine .v (mv rfl) rfl rfl rfl ?_
  refine .v (mv rfl) rfl rfl rfl ?_
  obtain ⟨r2, q11⟩ : ∃ y_ : List Int × Fault, y_ = sp_first n_ before := ⟨_, rfl⟩
  replace hF := hF r2 q11
  refine clR (α := Option Addr × Nat) (Φ := fun h1 z => RSl h1 z.1 r2.1 ∧ r2.1.length ≤ z.2) (V := fun z => .tuple #[.slice z.1 r2.1.length z.2, .agg #[.int .i64 r2.2.code, .int .i64 r2.2.index]]) Try.call15 rfl rfl (fun w S => (by rw [q11]; exact c_first S.sub n_ before abefore cbefore _q9 _q10 )) rfl (fun z h1 le1 hz => ?_)
  obtain ⟨a, c⟩ := z
  obtain ⟨q12, q13⟩ := hz
  refine .v (mv rfl) rfl rfl rfl ?_
  refine .v (ext rfl rfl) rfl rfl rfl ?_
  refine .v (ext rfl rfl) rfl rfl rfl ?_
  refine al tZ28 rfl (fun pf => ?_)
  refine .v (asg rfl) rfl rfl rfl ?_
  refine st (p := pf) (off := 0) (k := 0) (vs := [.int .i64 r2.2.code, .int .i64 r2.2.index]) rfl rfl rfl (fun w => (tA28 w).2) rfl rfl rfl rfl ?_
  refine .cast (A' := [Box pf [.int .i64 r2.2.code, .int .i64 r2.2.index], Box pt [.int .i64 t.facts, .slice at_ t.init.length ct, .slice at_2 t.goal.length ct2, .slice at_3 t.ops.length ct3]]) rfl ?_
  refine .nil ?_
  refine .seqN ?_
  refine .seq ?_
  refine .region ?_
  refine .v (mv rfl) rfl rfl rfl ?_
  refine .v (mv rfl) rfl rfl rfl ?_
  obtain ⟨r3, q14⟩ : ∃ y_ : Int × Fault, y_ = sp_count n_ before := ⟨_, rfl⟩
  replace hF := hF r3 q14
  refine .c (cl (v := .tuple #[.int .i64 r3.1, .agg #[.int .i64 r3.2.code, .int .i64 r3.2.index]]) Try.call16 rfl rfl (fun w S => (by rw [q14]; exact c_count S.sub n_ before abefore cbefore (_q9.mono (le1)) _q10 ))) rfl rfl rfl ?_
  refine .v (mv rfl) rfl rfl rfl ?_
  refine .v (ext rfl rfl) rfl rfl rfl ?_
  refine .v (ext rfl rfl) rfl rfl rfl ?_
  refine al tZ28 rfl (fun pg => ?_)
  refine .v (asg rfl) rfl rfl rfl ?_
  refine st (p := pg) (off := 0) (k := 0) (vs := [.int .i64 r3.2.code, .int .i64 r3.2.index]) rfl rfl rfl (fun w => (tA28 w).2) rfl rfl rfl rfl ?_
  refine .cast (A' := [Box pg [.int .i64 r3.2.code, .int .i64 r3.2.index], Box pf [.int .i64 r2.2.code, .int .i64 r2.2.index], Box pt [.int .i64 t.facts, .slice at_ t.init.length ct, .slice at_2 t.goal.length ct2, .slice at_3 t.ops.length ct3]]) rfl ?_
  refine .nil ?_
  refine .seqN ?_
  refine .seq ?_
  refine .region ?_
  refine .v (mv rfl) rfl rfl rfl ?_
  refine .v (mv rfl) rfl rfl rfl ?_
  obtain ⟨r4, q15⟩ : ∃ y_ : Fault, y_ = sp_orderFault n_ before := ⟨_, rfl⟩
  replace hF := hF r4 q15
  refine .c (cl (v := .agg #[.int .i64 r4.code, .int .i64 r4.index]) Try.call17 rfl rfl (fun w S => (by rw [q15]; exact c_rOrderFault S.sub n_ before abefore cbefore (_q9.mono (le1)) _q10 ))) rfl rfl rfl ?_
  refine al tZ28 rfl (fun pe => ?_)
  refine st (p := pe) (off := 0) (k := 0) (vs := [.int .i64 r4.code, .int .i64 r4.index]) rfl rfl rfl (fun w => (tA28 w).2) rfl rfl rfl rfl ?_
  refine .cast (A' := [Box pe [.int .i64 r4.code, .int .i64 r4.index], Box pg [.int .i64 r3.2.code, .int .i64 r3.2.index], Box pf [.int .i64 r2.2.code, .int .i64 r2.2.index], Box pt [.int .i64 t.facts, .slice at_ t.init.length ct, .slice at_2 t.goal.length ct2, .slice at_3 t.ops.length ct3]]) rfl ?_
  refine .nil ?_
  refine .seqN ?_
  refine .seq ?_
  refine .share (σ := Bool) (fun z => F_lawMatches_J1 n_ before K r2 r3 r4 z) (fun z => [(2, .int .i64 n_), (3, .slice abefore before.length cbefore), (9, .slice a r2.1.length c), (11, .int .i64 r3.1), (13, .pointer (some pe)), (48, .bool z)]) (fun _ => [Box pe [.int .i64 r4.code, .int .i64 r4.index]]) (fun _ => h1) ?_ (fun q20 => ?_)
  · rintro t48 hF
    show J _ _ _ _ _ [(2, .int .i64 n_), (3, .slice abefore before.length cbefore), (9, .slice a r2.1.length c), (11, .int .i64 r3.1), (13, .pointer (some pe)), (48, .bool t48)] [Box pe [.int .i64 r4.code, .int .i64 r4.index]] h1
    refine .cond rfl (fun q22 => ?_) (fun q22 => ?_)
    · replace hF := hF.1 q22
      refine .seq ?_
      refine .region ?_
      refine .v (asg rfl) rfl rfl rfl ?_
      refine .nil ?_
      refine .seqN ?_
      refine .ret ?_
      refine .seqR ?_
      refine .res1 rfl (rvT rfl) (fun w' S => ⟨false, hF, rfl, S.below⟩)
    replace hF := hF.2 q22
    refine .skip ?_
    refine .seqN ?_
    refine .seq ?_
    refine .seq ?_
    refine .region ?_
    refine .v (fa rfl tF28_0) rfl rfl rfl ?_
    refine .v (ld1 rfl tO3 (cellB (off := 0) (k := 0) rfl rfl)) rfl rfl rfl ?_
    refine .v (bi rfl rfl rfl) rfl rfl rfl ?_
    refine .nil ?_
    refine .seqN ?_
    refine .cond rfl (fun q30 => ?_) (fun q30 => ?_)
    · replace hF := hF.1 q30
      refine .seq ?_
      refine .region ?_
      refine .v (mv rfl) rfl rfl rfl ?_
      refine .v (ln rfl tS22.is) rfl rfl rfl ?_
      refine .v (bi rfl rfl rfl) rfl rfl rfl ?_
      refine .v (mv rfl) rfl rfl rfl ?_
      rcases Bool.eq_false_or_eq_true (((r2.1.length : Nat) : Int) == 0) with q34 | q34
      · replace hF := hF.1 q34
        refine .gv (mv rfl) rfl rfl rfl q34 rfl rfl ?_
        refine .gv (bi rfl rfl rfl) rfl rfl rfl q34 rfl rfl ?_
        refine .v (pkT rfl q34 rfl) rfl rfl rfl ?_
        refine .v (mv rfl) rfl rfl rfl ?_
        rcases Bool.eq_false_or_eq_true (r3.1 == 0) with q35 | q35
        · replace hF := hF.1 q35
          obtain ⟨r5, q36⟩ : ∃ y_ : Bool, y_ = sp_counted := ⟨_, rfl⟩
          replace hF := hF r5 q36
          refine .gc (cl (v := .bool r5) Try.call20 rfl rfl (fun w S => (by rw [q36]; exact c_counted S.sub  ))) rfl rfl rfl q35 rfl rfl ?_
          refine .v (pkT rfl q35 rfl) rfl rfl rfl ?_
          refine .v (asg rfl) rfl rfl rfl ?_
          refine .nil ?_
          refine .seqN ?_
          refine .ret ?_
          refine .seqR ?_
          refine .res1 rfl (rvT rfl) (fun w' S => ⟨r5, hF, rfl, S.below⟩)
        replace hF := hF.2 q35
        refine .gS rfl rfl rfl q35 rfl rfl ?_
        refine .v (pkF rfl q35 rfl) rfl rfl rfl ?_
        refine .v (asg rfl) rfl rfl rfl ?_
        refine .nil ?_
        refine .seqN ?_
        refine .ret ?_
        refine .seqR ?_
        refine .res1 rfl (rvT rfl) (fun w' S => ⟨false, hF, rfl, S.below⟩)
      replace hF := hF.2 q34
      refine .gS rfl rfl rfl q34 rfl rfl ?_
      refine .gS rfl rfl rfl q34 rfl rfl ?_
      refine .v (pkF rfl q34 rfl) rfl rfl rfl ?_
      refine .v (mv rfl) rfl rfl rfl ?_
      refine .gS rfl rfl rfl rfl rfl rfl ?_
      refine .v (pkF rfl rfl rfl) rfl rfl rfl ?_
      refine .v (asg rfl) rfl rfl rfl ?_
      refine .nil ?_
      refine .seqN ?_
      refine .ret ?_
      refine .seqR ?_
      refine .res1 rfl (rvT rfl) (fun w' S => ⟨false, hF, rfl, S.below⟩)
    replace hF := hF.2 q30
    refine .skip ?_
    refine .seqN ?_
    refine .seq ?_
    refine .region ?_
    refine .v (mv rfl) rfl rfl rfl ?_
    refine .v (mv rfl) rfl rfl rfl ?_
    obtain ⟨q37, hF⟩ := hF
    obtain ⟨r6, q38⟩ : ∃ y_ : List (List Int), y_ = sp_orders n_ before [] := ⟨_, rfl⟩
    replace hF := hF r6 q38
    refine clR (α := Option Addr × Nat) (Φ := fun h1 z => RSl h1 z.1 r6 ∧ r6.length ≤ z.2) (V := fun z => .slice z.1 r6.length z.2) Try.call21 rfl rfl (fun w S => (by rw [q38]; exact c_orders S.sub n_ before abefore cbefore (_q9.mono (le1)) _q10 [] none 0 RSl.nil_ (Nat.le_refl 0) q37)) rfl (fun z h2 le2 hz => ?_)
    obtain ⟨a2, c2⟩ := z
    obtain ⟨q39, q40⟩ := hz
    refine .v (asg rfl) rfl rfl rfl ?_
    refine .nil ?_
    refine .seqN ?_
    refine .seq ?_
    refine .region ?_
    refine .v (mv rfl) rfl rfl rfl ?_
    refine .v (ln rfl tS36.is) rfl rfl rfl ?_
    refine .v (bi rfl rfl rfl) rfl rfl rfl ?_
    refine .v (mv rfl) rfl rfl rfl ?_
    rcases Bool.eq_false_or_eq_true (decide (0 < ((r6.length : Nat) : Int))) with q51 | q51
    · replace hF := hF.1 q51
      refine .gv (mv rfl) rfl rfl rfl q51 rfl rfl ?_
      refine .gv (mv rfl) rfl rfl rfl q51 rfl rfl ?_
      obtain ⟨q52, hF⟩ := hF
      refine .gv (ix rfl rfl tS36 (q39.ne (by decide) (inb_pos q52)) q52) rfl rfl rfl q51 rfl rfl ?_
      obtain ⟨_, ⟨a3, c3, rfl, q53, q54⟩, q55⟩ := q39.elem q52
      refine .gv (ld1 (v := .slice a3 ((gt r6 (0 : Int)).length) c3) rfl tO22 (cellH (q55 (by decide) 0 _ rfl))) rfl rfl rfl q51 rfl rfl ?_
      obtain ⟨q56, hF⟩ := hF
      obtain ⟨r7, q57⟩ : ∃ y_ : Bool, y_ = sp_numbers r2.1 (gt r6 (0 : Int)) := ⟨_, rfl⟩
      replace hF := hF r7 q57
      refine .gc (cl (v := .bool r7) Try.call22 rfl rfl (fun w S => (by rw [q57]; exact c_numbers S.sub r2.1 a c (q12.mono (le2)) q13 (gt r6 (0 : Int)) a3 c3 q54 q53 q56))) rfl rfl rfl q51 rfl rfl ?_
      refine .v (pkT rfl q51 rfl) rfl rfl rfl ?_
      refine .v (mv rfl) rfl rfl rfl ?_
      rcases Bool.eq_false_or_eq_true (r7) with q58 | q58
      · replace hF := hF.1 q58
        refine .gv (mv rfl) rfl rfl rfl q58 rfl rfl ?_
        refine .gv (mv rfl) rfl rfl rfl q58 rfl rfl ?_
        refine .gv (ln rfl tS36.is) rfl rfl rfl q58 rfl rfl ?_
        refine .gv (bi rfl rfl rfl) rfl rfl rfl q58 rfl rfl ?_
        refine .v (pkT rfl q58 rfl) rfl rfl rfl ?_
        refine .v (mv rfl) rfl rfl rfl ?_
        rcases Bool.eq_false_or_eq_true (r3.1 == ((r6.length : Nat) : Int)) with q59 | q59
        · replace hF := hF.1 q59
          obtain ⟨r8, q60⟩ : ∃ y_ : Bool, y_ = sp_counted := ⟨_, rfl⟩
          replace hF := hF r8 q60
          refine .gc (cl (v := .bool r8) Try.call20 rfl rfl (fun w S => (by rw [q60]; exact c_counted S.sub  ))) rfl rfl rfl q59 rfl rfl ?_
          refine .v (pkT rfl q59 rfl) rfl rfl rfl ?_
          refine .v (asg rfl) rfl rfl rfl ?_
          refine .nil ?_
          refine .seqN ?_
          refine .ret ?_
          refine .res1 rfl (rvT rfl) (fun w' S => ⟨r8, hF, rfl, S.below⟩)
        replace hF := hF.2 q59
        refine .gS rfl rfl rfl q59 rfl rfl ?_
        refine .v (pkF rfl q59 rfl) rfl rfl rfl ?_
        refine .v (asg rfl) rfl rfl rfl ?_
        refine .nil ?_
        refine .seqN ?_
        refine .ret ?_
        refine .res1 rfl (rvT rfl) (fun w' S => ⟨false, hF, rfl, S.below⟩)
      replace hF := hF.2 q58
      refine .gS rfl rfl rfl q58 rfl rfl ?_
      refine .gS rfl rfl rfl q58 rfl rfl ?_
      refine .gS rfl rfl rfl q58 rfl rfl ?_
      refine .gS rfl rfl rfl q58 rfl rfl ?_
      refine .v (pkF rfl q58 rfl) rfl rfl rfl ?_
      refine .v (mv rfl) rfl rfl rfl ?_
      refine .gS rfl rfl rfl rfl rfl rfl ?_
      refine .v (pkF rfl rfl rfl) rfl rfl rfl ?_
      refine .v (asg rfl) rfl rfl rfl ?_
      refine .nil ?_
      refine .seqN ?_
      refine .ret ?_
      refine .res1 rfl (rvT rfl) (fun w' S => ⟨false, hF, rfl, S.below⟩)
    replace hF := hF.2 q51
    refine .gS rfl rfl rfl q51 rfl rfl ?_
    refine .gS rfl rfl rfl q51 rfl rfl ?_
    refine .gS rfl rfl rfl q51 rfl rfl ?_
    refine .gS rfl rfl rfl q51 rfl rfl ?_
    refine .gS rfl rfl rfl q51 rfl rfl ?_
    refine .v (pkF rfl q51 rfl) rfl rfl rfl ?_
    refine .v (mv rfl) rfl rfl rfl ?_
    refine .gS rfl rfl rfl rfl rfl rfl ?_
    refine .gS rfl rfl rfl rfl rfl rfl ?_
    refine .gS rfl rfl rfl rfl rfl rfl ?_
    refine .gS rfl rfl rfl rfl rfl rfl ?_
    refine .v (pkF rfl rfl rfl) rfl rfl rfl ?_
    refine .v (mv rfl) rfl rfl rfl ?_
    refine .gS rfl rfl rfl rfl rfl rfl ?_
    refine .v (pkF rfl rfl rfl) rfl rfl rfl ?_
    refine .v (asg rfl) rfl rfl rfl ?_
    refine .nil ?_
    refine .seqN ?_
    refine .ret ?_
    refine .res1 rfl (rvT rfl) (fun w' S => ⟨false, hF, rfl, S.below⟩)
  refine .open_ (by kernel_rfl) (by kernel_rfl) ?_
  refine .v (ldA (cs := [.int .i64 t.facts, .slice at_ t.init.length ct, .slice at_2 t.goal.length ct2, .slice at_3 t.ops.length ct3]) rfl tA25 rfl (cellsB (off := 0) (k := 3) rfl (m := 4) rfl)) rfl rfl rfl ?_
  refine .v (mv rfl) rfl rfl rfl ?_
  refine .v (mv rfl) rfl rfl rfl ?_
  obtain ⟨r9, q61⟩ : ∃ y_ : Fault, y_ = sp_pvalidate t steps before := ⟨_, rfl⟩
  replace hF := hF r9 q61
  refine .c (cl (v := .agg #[.int .i64 r9.code, .int .i64 r9.index]) Try.call18 rfl rfl (fun w S => (by rw [q61]; exact c_pvalidate S.sub t at_ ct (_q1.mono (le1)) _q2 at_2 ct2 (_q3.mono (le1)) _q4 at_3 ct3 (_q5.mono (le1)) _q6 steps asteps csteps (_q7.mono (le1)) _q8 before abefore cbefore (_q9.mono (le1)) _q10 ))) rfl rfl rfl ?_
  refine .v (ldA (cs := [.int .i64 t.facts, .slice at_ t.init.length ct, .slice at_2 t.goal.length ct2, .slice at_3 t.ops.length ct3]) rfl tA25 rfl (cellsB (off := 0) (k := 3) rfl (m := 4) rfl)) rfl rfl rfl ?_
  refine .v (mv rfl) rfl rfl rfl ?_
  refine .v (mv rfl) rfl rfl rfl ?_
  obtain ⟨r10, q62⟩ : ∃ y_ : Fault, y_ = sp_pvalidate t steps before := ⟨_, rfl⟩
  replace hF := hF r10 q62
  refine .c (cl (v := .agg #[.int .i64 r10.code, .int .i64 r10.index]) Try.call19 rfl rfl (fun w S => (by rw [q62]; exact c_partialFault S.sub t at_ ct (_q1.mono (le1)) _q2 at_2 ct2 (_q3.mono (le1)) _q4 at_3 ct3 (_q5.mono (le1)) _q6 steps asteps csteps (_q7.mono (le1)) _q8 before abefore cbefore (_q9.mono (le1)) _q10 ))) rfl rfl rfl ?_
  refine .v (ne2 tE28 rfl rfl) rfl rfl rfl ?_
  refine .v (mv rfl) rfl rfl rfl ?_
  rcases Bool.eq_false_or_eq_true (!((r9.code == r10.code) && (r9.index == r10.index))) with q63 | q63
  · replace hF := hF.1 q63
    refine .gS rfl rfl rfl q63 rfl rfl ?_
    refine .gS rfl rfl rfl q63 rfl rfl ?_
    refine .gS rfl rfl rfl q63 rfl rfl ?_
    refine .v (pkT rfl q63 rfl) rfl rfl rfl ?_
    refine .v (mv rfl) rfl rfl rfl ?_
    refine .gS rfl rfl rfl rfl rfl rfl ?_
    refine .gS rfl rfl rfl rfl rfl rfl ?_
    refine .gS rfl rfl rfl rfl rfl rfl ?_
    refine .v (pkT rfl rfl rfl) rfl rfl rfl ?_
    refine .fin ?_
    refine .sel0 [0] (by decide) rfl ?_
    exact .use q20 true hF (.cons rfl (.cons rfl (.cons rfl (.cons rfl (.cons rfl (.cons rfl (.nil))))))) rfl (FH.le_refl _)
  replace hF := hF.2 q63
  refine .gv (ldA (cs := [.int .i64 r2.2.code, .int .i64 r2.2.index]) rfl tA28 rfl (cellsB (off := 0) (k := 2) rfl (m := 2) rfl)) rfl rfl rfl q63 rfl rfl ?_
  refine .gv (ldA (cs := [.int .i64 r4.code, .int .i64 r4.index]) rfl tA28 rfl (cellsB (off := 0) (k := 0) rfl (m := 2) rfl)) rfl rfl rfl q63 rfl rfl ?_
  refine .gv (ne2 tE28 rfl rfl) rfl rfl rfl q63 rfl rfl ?_
  refine .v (pkF rfl q63 rfl) rfl rfl rfl ?_
  refine .v (mv rfl) rfl rfl rfl ?_
  rcases Bool.eq_false_or_eq_true (!((r2.2.code == r4.code) && (r2.2.index == r4.index))) with q64 | q64
  · replace hF := hF.1 q64
    refine .gS rfl rfl rfl q64 rfl rfl ?_
    refine .gS rfl rfl rfl q64 rfl rfl ?_
    refine .gS rfl rfl rfl q64 rfl rfl ?_
    refine .v (pkT rfl q64 rfl) rfl rfl rfl ?_
    refine .fin ?_
    refine .sel0 [0] (by decide) rfl ?_
    exact .use q20 true hF (.cons rfl (.cons rfl (.cons rfl (.cons rfl (.cons rfl (.cons rfl (.nil))))))) rfl (FH.le_refl _)
  replace hF := hF.2 q64
  refine .gv (ldA (cs := [.int .i64 r3.2.code, .int .i64 r3.2.index]) rfl tA28 rfl (cellsB (off := 0) (k := 1) rfl (m := 2) rfl)) rfl rfl rfl q64 rfl rfl ?_
  refine .gv (ldA (cs := [.int .i64 r4.code, .int .i64 r4.index]) rfl tA28 rfl (cellsB (off := 0) (k := 0) rfl (m := 2) rfl)) rfl rfl rfl q64 rfl rfl ?_
  refine .gv (ne2 tE28 rfl rfl) rfl rfl rfl q64 rfl rfl ?_
  refine .v (pkF rfl q64 rfl) rfl rfl rfl ?_
  refine .fin ?_
  refine .sel0 [0] (by decide) rfl ?_
  exact .use q20 (!((r3.2.code == r4.code) && (r3.2.index == r4.index))) hF (.cons rfl (.cons rfl (.cons rfl (.cons rfl (.cons rfl (.cons rfl (.nil))))))) rfl (FH.le_refl _)

theorem c_lawMatches {h : FH} {w : World} (hs : Sub h w) (t : Task) (at_ : Option Addr) (ct : Nat) (_q1 : RSl h at_ t.init) (_q2 : t.init.length ≤ ct) (at_2 : Option Addr) (ct2 : Nat) (_q3 : RSl h at_2 t.goal) (_q4 : t.goal.length ≤ ct2) (at_3 : Option Addr) (ct3 : Nat) (_q5 : RSl h at_3 t.ops) (_q6 : t.ops.length ≤ ct3) (steps : List Int) (asteps : Option Addr) (csteps : Nat) (_q7 : RSl h asteps steps) (_q8 : steps.length ≤ csteps) (n_ : Int) (before : List (Int × Int)) (abefore : Option Addr) (cbefore : Nat) (_q9 : RSl h abefore before) (_q10 : before.length ≤ cbefore) : Calls Try.prog 3 #[.agg #[.int .i64 t.facts, .slice at_ t.init.length ct, .slice at_2 t.goal.length ct2, .slice at_3 t.ops.length ct3], .slice asteps steps.length csteps, .int .i64 n_, .slice abefore before.length cbefore] w fun e w' => e = .returned (.bool (sp_lawMatches t steps n_ before)) ∧ Below w.heap.size w w' :=
  (w_lawMatches hs t at_ ct _q1 _q2 at_2 ct2 _q3 _q4 at_3 ct3 _q5 _q6 steps asteps csteps _q7 _q8 n_ before abefore cbefore _q9 _q10 (fun r => r = sp_lawMatches t steps n_ before) (ok_lawMatches t steps n_ before)).mono fun _ _ ⟨_, hk, he, hb⟩ => ⟨by rw [he, hk], hb⟩

theorem w_earlier {h : FH} {w : World} (hs : Sub h w) (p : PPlan) (ap : Option Addr) (cp : Nat) (_q1 : RSl h ap p.t.init) (_q2 : p.t.init.length ≤ cp) (ap2 : Option Addr) (cp2 : Nat) (_q3 : RSl h ap2 p.t.goal) (_q4 : p.t.goal.length ≤ cp2) (ap3 : Option Addr) (cp3 : Nat) (_q5 : RSl h ap3 p.t.ops) (_q6 : p.t.ops.length ≤ cp3) (ap4 : Option Addr) (cp4 : Nat) (_q7 : RSl h ap4 p.steps) (_q8 : p.steps.length ≤ cp4) (ap5 : Option Addr) (cp5 : Nat) (_q9 : RSl h ap5 p.order) (_q10 : p.order.length ≤ cp5) (i : Int) (j : Int) (K : Bool → Prop) (hF : F_earlier p i j K) : Calls Try.prog 79 #[.agg #[.int .i64 p.t.facts, .slice ap p.t.init.length cp, .slice ap2 p.t.goal.length cp2, .slice ap3 p.t.ops.length cp3, .slice ap4 p.steps.length cp4, .slice ap5 p.order.length cp5], .int .i64 i, .int .i64 j] w fun e w' => ∃ r : Bool, K r ∧ e = .returned (.bool r) ∧ Below w.heap.size w w' := by
  refine enter (args := [.agg #[.int .i64 p.t.facts, .slice ap p.t.init.length cp, .slice ap2 p.t.goal.length cp2, .slice ap3 p.t.ops.length cp3, .slice ap4 p.steps.length cp4, .slice ap5 p.order.length cp5], .int .i64 i, .int .i64 j]) Try.func79 rfl Try.ntmps79 rfl hs ?_
  refine .seq ?_
  refine .region ?_
  refine bx (vs := [.int .i64 p.t.facts, .slice ap p.t.init.length cp, .slice ap2 p.t.goal.length cp2, .slice ap3 p.t.ops.length cp3, .slice ap4 p.steps.length cp4, .slice ap5 p.order.length cp5]) rfl rfl rfl (fun pp => ?_)
  refine .v (asg rfl) rfl rfl rfl ?_
  refine .nil ?_
  refine .seqN ?_
  refine .seq ?_
  refine .region ?_
  refine .v (mv rfl) rfl rfl rfl ?_
  refine .v (fa rfl tF87_1) rfl rfl rfl ?_
  refine .v (ld1 rfl tO22 (cellB (off := 4) (k := 0) rfl rfl)) rfl rfl rfl ?_
  refine .v (ln rfl tS22.is) rfl rfl rfl ?_
  refine .v (bi rfl rfl rfl) rfl rfl rfl ?_
  refine .v (mv rfl) rfl rfl rfl ?_
  rcases Bool.eq_false_or_eq_true (j == ((p.steps.length : Nat) : Int)) with q17 | q17
  · replace hF := hF.1 q17
    refine .gS rfl rfl rfl q17 rfl rfl ?_
    refine .gS rfl rfl rfl q17 rfl rfl ?_
    refine .gS rfl rfl rfl q17 rfl rfl ?_
    refine .gS rfl rfl rfl q17 rfl rfl ?_
    refine .gS rfl rfl rfl q17 rfl rfl ?_
    refine .gS rfl rfl rfl q17 rfl rfl ?_
    refine .gS rfl rfl rfl q17 rfl rfl ?_
    refine .gS rfl rfl rfl q17 rfl rfl ?_
    refine .v (pkT rfl q17 rfl) rfl rfl rfl ?_
    refine .v (asg rfl) rfl rfl rfl ?_
    refine .nil ?_
    refine .seqN ?_
    refine .ret ?_
    refine .res1 rfl (rvT rfl) (fun w' S => ⟨true, hF, rfl, S.below⟩)
  replace hF := hF.2 q17
  refine .gv (fa rfl tF87_2) rfl rfl rfl q17 rfl rfl ?_
  refine .gv (ld1 rfl tO80 (cellB (off := 5) (k := 0) rfl rfl)) rfl rfl rfl q17 rfl rfl ?_
  refine .gv (mv rfl) rfl rfl rfl q17 rfl rfl ?_
  obtain ⟨q18, hF⟩ := hF
  refine .gv (ix rfl rfl tS80 (_q9.ne (by decide) (inb_pos q18)) q18) rfl rfl rfl q17 rfl rfl ?_
  obtain ⟨_, ⟨a, c, rfl, q19, q20⟩, q21⟩ := _q9.elem q18
  refine .gv (ld1 (v := .slice a ((gt p.order i).length) c) rfl tO84 (cellH (q21 (by decide) 0 _ rfl))) rfl rfl rfl q17 rfl rfl ?_
  refine .gv (mv rfl) rfl rfl rfl q17 rfl rfl ?_
  obtain ⟨q22, hF⟩ := hF
  refine .gv (ix rfl rfl tS84 (q20.ne (by decide) (inb_pos q22)) q22) rfl rfl rfl q17 rfl rfl ?_
  refine .gv (ld1 (v := .bool (gt (gt p.order i) j)) rfl tO4 (cellH (q20.elemF q22 (by decide) 0 _ rfl))) rfl rfl rfl q17 rfl rfl ?_
  refine .v (pkF rfl q17 rfl) rfl rfl rfl ?_
  refine .v (asg rfl) rfl rfl rfl ?_
  refine .nil ?_
  refine .seqN ?_
  refine .ret ?_
  refine .res1 rfl (rvT rfl) (fun w' S => ⟨(gt (gt p.order i) j), hF, rfl, S.below⟩)

theorem c_earlier {h : FH} {w : World} (hs : Sub h w) (p : PPlan) (ap : Option Addr) (cp : Nat) (_q1 : RSl h ap p.t.init) (_q2 : p.t.init.length ≤ cp) (ap2 : Option Addr) (cp2 : Nat) (_q3 : RSl h ap2 p.t.goal) (_q4 : p.t.goal.length ≤ cp2) (ap3 : Option Addr) (cp3 : Nat) (_q5 : RSl h ap3 p.t.ops) (_q6 : p.t.ops.length ≤ cp3) (ap4 : Option Addr) (cp4 : Nat) (_q7 : RSl h ap4 p.steps) (_q8 : p.steps.length ≤ cp4) (ap5 : Option Addr) (cp5 : Nat) (_q9 : RSl h ap5 p.order) (_q10 : p.order.length ≤ cp5) (i : Int) (j : Int) (hp : pre_earlier p i j) : Calls Try.prog 79 #[.agg #[.int .i64 p.t.facts, .slice ap p.t.init.length cp, .slice ap2 p.t.goal.length cp2, .slice ap3 p.t.ops.length cp3, .slice ap4 p.steps.length cp4, .slice ap5 p.order.length cp5], .int .i64 i, .int .i64 j] w fun e w' => e = .returned (.bool (sp_earlier p i j)) ∧ Below w.heap.size w w' :=
  (w_earlier hs p ap cp _q1 _q2 ap2 cp2 _q3 _q4 ap3 cp3 _q5 _q6 ap4 cp4 _q7 _q8 ap5 cp5 _q9 _q10 i j (fun r => r = sp_earlier p i j) (ok_earlier p i j hp)).mono fun _ _ ⟨_, hk, he, hb⟩ => ⟨by rw [he, hk], hb⟩

theorem w_later {h : FH} {w : World} (hs : Sub h w) (p : PPlan) (ap : Option Addr) (cp : Nat) (_q1 : RSl h ap p.t.init) (_q2 : p.t.init.length ≤ cp) (ap2 : Option Addr) (cp2 : Nat) (_q3 : RSl h ap2 p.t.goal) (_q4 : p.t.goal.length ≤ cp2) (ap3 : Option Addr) (cp3 : Nat) (_q5 : RSl h ap3 p.t.ops) (_q6 : p.t.ops.length ≤ cp3) (ap4 : Option Addr) (cp4 : Nat) (_q7 : RSl h ap4 p.steps) (_q8 : p.steps.length ≤ cp4) (ap5 : Option Addr) (cp5 : Nat) (_q9 : RSl h ap5 p.order) (_q10 : p.order.length ≤ cp5) (i : Int) (j : Int) (K : Bool → Prop) (hF : F_later p i j K) : Calls Try.prog 82 #[.agg #[.int .i64 p.t.facts, .slice ap p.t.init.length cp, .slice ap2 p.t.goal.length cp2, .slice ap3 p.t.ops.length cp3, .slice ap4 p.steps.length cp4, .slice ap5 p.order.length cp5], .int .i64 i, .int .i64 j] w fun e w' => ∃ r : Bool, K r ∧ e = .returned (.bool r) ∧ Below w.heap.size w w' := by
  refine enter (args := [.agg #[.int .i64 p.t.facts, .slice ap p.t.init.length cp, .slice ap2 p.t.goal.length cp2, .slice ap3 p.t.ops.length cp3, .slice ap4 p.steps.length cp4, .slice ap5 p.order.length cp5], .int .i64 i, .int .i64 j]) Try.func82 rfl Try.ntmps82 rfl hs ?_
  refine .seq ?_
  refine .region ?_
  refine bx (vs := [.int .i64 p.t.facts, .slice ap p.t.init.length cp, .slice ap2 p.t.goal.length cp2, .slice ap3 p.t.ops.length cp3, .slice ap4 p.steps.length cp4, .slice ap5 p.order.length cp5]) rfl rfl rfl (fun pp => ?_)
  refine .v (asg rfl) rfl rfl rfl ?_
  refine .nil ?_
  refine .seqN ?_
  refine .seq ?_
  refine .region ?_
  refine .v (mv rfl) rfl rfl rfl ?_
  refine .v (mv rfl) rfl rfl rfl ?_
  refine .v (bi rfl rfl rfl) rfl rfl rfl ?_
  refine .v (mv rfl) rfl rfl rfl ?_
  rcases Bool.eq_false_or_eq_true (i == j) with q18 | q18
  · replace hF := hF.1 q18
    refine .gS rfl rfl rfl q18 rfl rfl ?_
    refine .gS rfl rfl rfl q18 rfl rfl ?_
    refine .gS rfl rfl rfl q18 rfl rfl ?_
    refine .gS rfl rfl rfl q18 rfl rfl ?_
    refine .gS rfl rfl rfl q18 rfl rfl ?_
    refine .gS rfl rfl rfl q18 rfl rfl ?_
    refine .gU rfl rfl rfl rfl rfl ?_
    refine .gU rfl rfl rfl rfl rfl ?_
    refine .gU rfl rfl rfl rfl rfl ?_
    refine .gU rfl rfl rfl rfl rfl ?_
    refine .gU rfl rfl rfl rfl rfl ?_
    refine .gU rfl rfl rfl rfl rfl ?_
    refine .gU rfl rfl rfl rfl rfl ?_
    refine .gU rfl rfl rfl rfl rfl ?_
    refine .gS rfl rfl rfl q18 rfl rfl ?_
    refine .v (pkT rfl q18 rfl) rfl rfl rfl ?_
    refine .v (asg rfl) rfl rfl rfl ?_
    refine .nil ?_
    refine .seqN ?_
    refine .ret ?_
    refine .res1 rfl (rvT rfl) (fun w' S => ⟨true, hF, rfl, S.below⟩)
  replace hF := hF.2 q18
  refine .gv (mv rfl) rfl rfl rfl q18 rfl rfl ?_
  refine .gv (fa rfl tF87_1) rfl rfl rfl q18 rfl rfl ?_
  refine .gv (ld1 rfl tO22 (cellB (off := 4) (k := 0) rfl rfl)) rfl rfl rfl q18 rfl rfl ?_
  refine .gv (ln rfl tS22.is) rfl rfl rfl q18 rfl rfl ?_
  refine .gv (bi rfl rfl rfl) rfl rfl rfl q18 rfl rfl ?_
  refine .gv (mv rfl) rfl rfl rfl q18 rfl rfl ?_
  rcases Bool.eq_false_or_eq_true (decide (j < ((p.steps.length : Nat) : Int))) with q19 | q19
  · replace hF := hF.1 q19
    refine .gv (fa rfl tF87_2) rfl rfl rfl q19 rfl rfl ?_
    refine .gv (ld1 rfl tO80 (cellB (off := 5) (k := 0) rfl rfl)) rfl rfl rfl q19 rfl rfl ?_
    refine .gv (mv rfl) rfl rfl rfl q19 rfl rfl ?_
    obtain ⟨q20, hF⟩ := hF
    refine .gv (ix rfl rfl tS80 (_q9.ne (by decide) (inb_pos q20)) q20) rfl rfl rfl q19 rfl rfl ?_
    obtain ⟨_, ⟨a, c, rfl, q21, q22⟩, q23⟩ := _q9.elem q20
    refine .gv (ld1 (v := .slice a ((gt p.order j).length) c) rfl tO84 (cellH (q23 (by decide) 0 _ rfl))) rfl rfl rfl q19 rfl rfl ?_
    refine .gv (mv rfl) rfl rfl rfl q19 rfl rfl ?_
    obtain ⟨q24, hF⟩ := hF
    refine .gv (ix rfl rfl tS84 (q22.ne (by decide) (inb_pos q24)) q24) rfl rfl rfl q19 rfl rfl ?_
    refine .gv (ld1 (v := .bool (gt (gt p.order j) i)) rfl tO4 (cellH (q22.elemF q24 (by decide) 0 _ rfl))) rfl rfl rfl q19 rfl rfl ?_
    refine .gv (pkT rfl q19 rfl) rfl rfl rfl q18 rfl rfl ?_
    refine .v (pkF rfl q18 rfl) rfl rfl rfl ?_
    refine .v (asg rfl) rfl rfl rfl ?_
    refine .nil ?_
    refine .seqN ?_
    refine .ret ?_
    refine .res1 rfl (rvT rfl) (fun w' S => ⟨(gt (gt p.order j) i), hF, rfl, S.below⟩)
  replace hF := hF.2 q19
  refine .gS rfl rfl rfl q19 rfl rfl ?_
  refine .gS rfl rfl rfl q19 rfl rfl ?_
  refine .gS rfl rfl rfl q19 rfl rfl ?_
  refine .gS rfl rfl rfl q19 rfl rfl ?_
  refine .gS rfl rfl rfl q19 rfl rfl ?_
  refine .gS rfl rfl rfl q19 rfl rfl ?_
  refine .gS rfl rfl rfl q19 rfl rfl ?_
  refine .gS rfl rfl rfl q19 rfl rfl ?_
  refine .gv (pkF rfl q19 rfl) rfl rfl rfl q18 rfl rfl ?_
  refine .v (pkF rfl q18 rfl) rfl rfl rfl ?_
  refine .v (asg rfl) rfl rfl rfl ?_
  refine .nil ?_
  refine .seqN ?_
  refine .ret ?_
  refine .res1 rfl (rvT rfl) (fun w' S => ⟨false, hF, rfl, S.below⟩)

theorem c_later {h : FH} {w : World} (hs : Sub h w) (p : PPlan) (ap : Option Addr) (cp : Nat) (_q1 : RSl h ap p.t.init) (_q2 : p.t.init.length ≤ cp) (ap2 : Option Addr) (cp2 : Nat) (_q3 : RSl h ap2 p.t.goal) (_q4 : p.t.goal.length ≤ cp2) (ap3 : Option Addr) (cp3 : Nat) (_q5 : RSl h ap3 p.t.ops) (_q6 : p.t.ops.length ≤ cp3) (ap4 : Option Addr) (cp4 : Nat) (_q7 : RSl h ap4 p.steps) (_q8 : p.steps.length ≤ cp4) (ap5 : Option Addr) (cp5 : Nat) (_q9 : RSl h ap5 p.order) (_q10 : p.order.length ≤ cp5) (i : Int) (j : Int) (hp : pre_later p i j) : Calls Try.prog 82 #[.agg #[.int .i64 p.t.facts, .slice ap p.t.init.length cp, .slice ap2 p.t.goal.length cp2, .slice ap3 p.t.ops.length cp3, .slice ap4 p.steps.length cp4, .slice ap5 p.order.length cp5], .int .i64 i, .int .i64 j] w fun e w' => e = .returned (.bool (sp_later p i j)) ∧ Below w.heap.size w w' :=
  (w_later hs p ap cp _q1 _q2 ap2 cp2 _q3 _q4 ap3 cp3 _q5 _q6 ap4 cp4 _q7 _q8 ap5 cp5 _q9 _q10 i j (fun r => r = sp_later p i j) (ok_later p i j hp)).mono fun _ _ ⟨_, hk, he, hb⟩ => ⟨by rw [he, hk], hb⟩

end Go.Proofs.Ytihbfbofbdkmbaa.Pl
