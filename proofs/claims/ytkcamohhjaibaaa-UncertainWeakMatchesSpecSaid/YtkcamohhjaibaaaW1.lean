/- The walks: from what each function asks to what it does; printed from the code. No condition. -/
import Derived.Test.YtkcamohhjaibaaaT
import Derived.Test.YtkcamohhjaibaaaOk
namespace Go.Proofs.Ytkcamohhjaibaaa.Pl
open Go Go.RowKit
theorem w_in_ {h : FH} {w : World} (hs : Sub h w) (n_ : Int) (low : Int) (high : Int) (K : Bool → Prop) (hF : F_in_ n_ low high K) : Calls Try.prog 35 #[.int .i64 n_, .int .i64 low, .int .i64 high] w fun e w' => ∃ r : Bool, K r ∧ e = .returned (.bool r) ∧ Below w.heap.size w w' := by
  refine enter (args := [.int .i64 n_, .int .i64 low, .int .i64 high]) Try.func35 rfl Try.ntmps35 rfl hs ?_
  refine .seq ?_
  refine .region ?_
  refine .v (asg rfl) rfl rfl rfl ?_
  refine .nil ?_
  refine .seqN ?_
  refine .seq ?_
  refine .region ?_
  refine .v (mv rfl) rfl rfl rfl ?_
  refine .v (mv rfl) rfl rfl rfl ?_
  refine .v (bi rfl rfl rfl) rfl rfl rfl ?_
  refine .v (mv rfl) rfl rfl rfl ?_
  rcases Bool.eq_false_or_eq_true (decide (low ≤ n_)) with q2 | q2
  · replace hF := hF.1 q2
    refine .gv (mv rfl) rfl rfl rfl q2 rfl rfl ?_
    refine .gv (mv rfl) rfl rfl rfl q2 rfl rfl ?_
    refine .gv (bi rfl rfl rfl) rfl rfl rfl q2 rfl rfl ?_
    refine .v (pkT rfl q2 rfl) rfl rfl rfl ?_
    refine .v (asg rfl) rfl rfl rfl ?_
    refine .nil ?_
    refine .seqN ?_
    refine .ret ?_
    refine .res1 rfl (rvT rfl) (fun w' S => ⟨decide (n_ ≤ high), hF, rfl, S.below⟩)
  replace hF := hF.2 q2
  refine .gS rfl rfl rfl q2 rfl rfl ?_
  refine .gS rfl rfl rfl q2 rfl rfl ?_
  refine .gS rfl rfl rfl q2 rfl rfl ?_
  refine .v (pkF rfl q2 rfl) rfl rfl rfl ?_
  refine .v (asg rfl) rfl rfl rfl ?_
  refine .nil ?_
  refine .seqN ?_
  refine .ret ?_
  refine .res1 rfl (rvT rfl) (fun w' S => ⟨false, hF, rfl, S.below⟩)

theorem c_in_ {h : FH} {w : World} (hs : Sub h w) (n_ : Int) (low : Int) (high : Int) : Calls Try.prog 35 #[.int .i64 n_, .int .i64 low, .int .i64 high] w fun e w' => e = .returned (.bool (sp_in_ n_ low high)) ∧ Below w.heap.size w w' :=
  (w_in_ hs n_ low high (fun r => r = sp_in_ n_ low high) (ok_in_ n_ low high)).mono fun _ _ ⟨_, hk, he, hb⟩ => ⟨by rw [he, hk], hb⟩

theorem w_at_ {h : FH} {w : World} (hs : Sub h w) (code : Int) (index : Int) (K : Fault → Prop) (hF : F_at_ code index K) : Calls Try.prog 16 #[.int .i64 code, .int .i64 index] w fun e w' => ∃ r : Fault, K r ∧ e = .returned (.agg #[.int .i64 r.code, .int .i64 r.index]) ∧ Below w.heap.size w w' := by
  refine enter (args := [.int .i64 code, .int .i64 index]) Try.func16 rfl Try.ntmps16 rfl hs ?_
  refine .seq ?_
  refine .region ?_
  refine al tZ28 rfl (fun pv => ?_)
  refine .nil ?_
  refine .seqN ?_
  refine .seq ?_
  refine .region ?_
  refine .v (mv rfl) rfl rfl rfl ?_
  refine .v (mv rfl) rfl rfl rfl ?_
  refine .v (bld (cs := #[.int .i64 code, .int .i64 index]) (pv := [(0, .int .i64 code), (1, .int .i64 index)]) tB28 rfl rfl) rfl rfl rfl ?_
  refine st (p := pv) (off := 0) (k := 0) (vs := [.int .i64 code, .int .i64 index]) rfl rfl rfl (fun w => (tA28 w).2) rfl rfl rfl rfl ?_
  refine .cast (A' := [Box pv [.int .i64 code, .int .i64 index]]) rfl ?_
  refine .nil ?_
  refine .seqN ?_
  refine .ret ?_
  refine .res1 rfl (rvC rfl tA28 (k := 0) rfl rfl) (fun w' S => ⟨(⟨code, index⟩ : Fault), hF, rfl, S.below⟩)

theorem c_at_ {h : FH} {w : World} (hs : Sub h w) (code : Int) (index : Int) : Calls Try.prog 16 #[.int .i64 code, .int .i64 index] w fun e w' => e = .returned (.agg #[.int .i64 (sp_at_ code index).code, .int .i64 (sp_at_ code index).index]) ∧ Below w.heap.size w w' :=
  (w_at_ hs code index (fun r => r = sp_at_ code index) (ok_at_ code index)).mono fun _ _ ⟨_, hk, he, hb⟩ => ⟨by rw [he, hk], hb⟩

set_option maxHeartbeats 8000000 in
theorem w_linkCode {h : FH} {w : World} (hs : Sub h w) (l : Link) (n_ : Int) (K : Int → Prop) (hF : F_linkCode l n_ K) : Calls Try.prog 25 #[.agg #[.int .i64 l.src, .int .i64 l.dst, .int .i64 l.low, .int .i64 l.high], .int .i64 n_] w fun e w' => ∃ r : Int, K r ∧ e = .returned (.int .i64 r) ∧ Below w.heap.size w w' := by
  refine enter (args := [.agg #[.int .i64 l.src, .int .i64 l.dst, .int .i64 l.low, .int .i64 l.high], .int .i64 n_]) Try.func25 rfl Try.ntmps25 rfl hs ?_
  refine .seq ?_
  refine .region ?_
  refine bx (vs := [.int .i64 l.src, .int .i64 l.dst, .int .i64 l.low, .int .i64 l.high]) rfl rfl rfl (fun pl => ?_)
  refine .v (asg rfl) rfl rfl rfl ?_
  refine .nil ?_
  refine .seqN ?_
  refine .seq ?_
  refine .block ?_
  refine .share (σ := Bool) (fun z => F_linkCode_J1 l K z) (fun z => [(2, .pointer (some pl)), (5, .bool z)]) (fun _ => [Box pl [.int .i64 l.src, .int .i64 l.dst, .int .i64 l.low, .int .i64 l.high]]) (fun _ => h) ?_ (fun q24 => ?_)
  · rintro t5 hF
    show J _ _ _ _ _ [(2, .pointer (some pl)), (5, .bool t5)] [Box pl [.int .i64 l.src, .int .i64 l.dst, .int .i64 l.low, .int .i64 l.high]] h
    refine .cond rfl (fun q25 => ?_) (fun q25 => ?_)
    · replace hF := hF.1 q25
      refine .seq ?_
      refine .region ?_
      refine .v (asg rfl) rfl rfl rfl ?_
      refine .nil ?_
      refine .seqN ?_
      refine .ret ?_
      refine .blkR ?_
      refine .seqR ?_
      refine .res1 rfl (rvT rfl) (fun w' S => ⟨3, hF, rfl, S.below⟩)
    replace hF := hF.2 q25
    refine .share (σ := Bool) (fun z => F_linkCode_J2 l K z) (fun z => [(2, .pointer (some pl)), (26, .bool z)]) (fun _ => [Box pl [.int .i64 l.src, .int .i64 l.dst, .int .i64 l.low, .int .i64 l.high]]) (fun _ => h) ?_ (fun q29 => ?_)
    · rintro t26 hF
      show J _ _ _ _ _ [(2, .pointer (some pl)), (26, .bool t26)] [Box pl [.int .i64 l.src, .int .i64 l.dst, .int .i64 l.low, .int .i64 l.high]] h
      refine .cond rfl (fun q30 => ?_) (fun q30 => ?_)
      · replace hF := hF.1 q30
        refine .seq ?_
        refine .region ?_
        refine .v (asg rfl) rfl rfl rfl ?_
        refine .nil ?_
        refine .seqN ?_
        refine .ret ?_
        refine .blkR ?_
        refine .seqR ?_
        refine .res1 rfl (rvT rfl) (fun w' S => ⟨3, hF, rfl, S.below⟩)
      replace hF := hF.2 q30
      refine .share (σ := Bool) (fun z => F_linkCode_J3 K z) (fun z => [(53, .bool z)]) (fun _ => []) (fun _ => h) ?_ (fun q32 => ?_)
      · rintro t53 hF
        show J _ _ _ _ _ [(53, .bool t53)] [] h
        refine .cond rfl (fun q33 => ?_) (fun q33 => ?_)
        · replace hF := hF.1 q33
          refine .seq ?_
          refine .region ?_
          refine .v (asg rfl) rfl rfl rfl ?_
          refine .nil ?_
          refine .seqN ?_
          refine .ret ?_
          refine .blkR ?_
          refine .seqR ?_
          refine .res1 rfl (rvT rfl) (fun w' S => ⟨5, hF, rfl, S.below⟩)
        replace hF := hF.2 q33
        refine .skip ?_
        refine .blkN ?_
        refine .seqN ?_
        refine .seq ?_
        refine .region ?_
        refine .v (asg rfl) rfl rfl rfl ?_
        refine .nil ?_
        refine .seqN ?_
        refine .ret ?_
        refine .res1 rfl (rvT rfl) (fun w' S => ⟨0, hF, rfl, S.below⟩)
      refine .region ?_
      refine .v (fa rfl tF48_0) rfl rfl rfl ?_
      refine .v (ld1 rfl tO3 (cellB (off := 0) (k := 0) rfl rfl)) rfl rfl rfl ?_
      refine .v (fa rfl tF48_1) rfl rfl rfl ?_
      refine .v (ld1 rfl tO3 (cellB (off := 1) (k := 0) rfl rfl)) rfl rfl rfl ?_
      refine .v (bi rfl rfl rfl) rfl rfl rfl ?_
      refine .v (mv rfl) rfl rfl rfl ?_
      rcases Bool.eq_false_or_eq_true (l.src == l.dst) with q34 | q34
      · replace hF := hF.1 q34
        refine .gS rfl rfl rfl q34 rfl rfl ?_
        refine .gS rfl rfl rfl q34 rfl rfl ?_
        refine .gS rfl rfl rfl q34 rfl rfl ?_
        refine .gS rfl rfl rfl q34 rfl rfl ?_
        refine .gS rfl rfl rfl q34 rfl rfl ?_
        refine .v (pkT rfl q34 rfl) rfl rfl rfl ?_
        refine .v (asg rfl) rfl rfl rfl ?_
        refine .nil ?_
        refine .sel0 [] (by decide) rfl ?_
        exact .use q32 true hF (.cons rfl (.nil)) rfl (FH.le_refl _)
      replace hF := hF.2 q34
      refine .gv (fa rfl tF48_2) rfl rfl rfl q34 rfl rfl ?_
      refine .gv (ld1 rfl tO3 (cellB (off := 2) (k := 0) rfl rfl)) rfl rfl rfl q34 rfl rfl ?_
      refine .gv (fa rfl tF48_3) rfl rfl rfl q34 rfl rfl ?_
      refine .gv (ld1 rfl tO3 (cellB (off := 3) (k := 0) rfl rfl)) rfl rfl rfl q34 rfl rfl ?_
      refine .gv (bi rfl rfl rfl) rfl rfl rfl q34 rfl rfl ?_
      refine .v (pkF rfl q34 rfl) rfl rfl rfl ?_
      refine .v (asg rfl) rfl rfl rfl ?_
      refine .nil ?_
      refine .sel0 [] (by decide) rfl ?_
      exact .use q32 (decide (l.high < l.low)) hF (.cons rfl (.nil)) rfl (FH.le_refl _)
    refine .region ?_
    refine .v (fa rfl tF48_2) rfl rfl rfl ?_
    refine .v (ld1 rfl tO3 (cellB (off := 2) (k := 0) rfl rfl)) rfl rfl rfl ?_
    refine .v (fa rfl tF48_2) rfl rfl rfl ?_
    refine .v (ld1 rfl tO3 (cellB (off := 2) (k := 0) rfl rfl)) rfl rfl rfl ?_
    refine .v (un rfl) rfl rfl rfl ?_
    refine .v (fa rfl tF48_3) rfl rfl rfl ?_
    refine .v (ld1 rfl tO3 (cellB (off := 3) (k := 0) rfl rfl)) rfl rfl rfl ?_
    refine .v (fa rfl tF48_3) rfl rfl rfl ?_
    refine .v (ld1 rfl tO3 (cellB (off := 3) (k := 0) rfl rfl)) rfl rfl rfl ?_
    refine .v (un rfl) rfl rfl rfl ?_
    obtain ⟨x, q35⟩ : ∃ y_ : Int, y_ = (max (max (max l.low (IntKind.i64.wrap (0 - l.low))) l.high) (IntKind.i64.wrap (0 - l.high))) := ⟨_, rfl⟩
    replace hF := hF x q35
    refine .v (v := .int .i64 x) (by rw [q35]; exact mx4 rfl rfl rfl rfl) rfl rfl rfl ?_
    refine .v (bi rfl rfl rfl) rfl rfl rfl ?_
    refine .v (mv rfl) rfl rfl rfl ?_
    rcases Bool.eq_false_or_eq_true (decide (1000 < x)) with q36 | q36
    · replace hF := hF.1 q36
      refine .gS rfl rfl rfl q36 rfl rfl ?_
      refine .gS rfl rfl rfl q36 rfl rfl ?_
      refine .gS rfl rfl rfl q36 rfl rfl ?_
      refine .gS rfl rfl rfl q36 rfl rfl ?_
      refine .gS rfl rfl rfl q36 rfl rfl ?_
      refine .gS rfl rfl rfl q36 rfl rfl ?_
      refine .gS rfl rfl rfl q36 rfl rfl ?_
      refine .gS rfl rfl rfl q36 rfl rfl ?_
      refine .gS rfl rfl rfl q36 rfl rfl ?_
      refine .gS rfl rfl rfl q36 rfl rfl ?_
      refine .gS rfl rfl rfl q36 rfl rfl ?_
      refine .gS rfl rfl rfl q36 rfl rfl ?_
      refine .v (pkT rfl q36 rfl) rfl rfl rfl ?_
      refine .v (asg rfl) rfl rfl rfl ?_
      refine .nil ?_
      exact .use q29 true hF (.cons rfl (.cons rfl (.nil))) rfl (FH.le_refl _)
    replace hF := hF.2 q36
    refine .gv (fa rfl tF48_2) rfl rfl rfl q36 rfl rfl ?_
    refine .gv (ld1 rfl tO3 (cellB (off := 2) (k := 0) rfl rfl)) rfl rfl rfl q36 rfl rfl ?_
    refine .gv (fa rfl tF48_2) rfl rfl rfl q36 rfl rfl ?_
    refine .gv (ld1 rfl tO3 (cellB (off := 2) (k := 0) rfl rfl)) rfl rfl rfl q36 rfl rfl ?_
    refine .gv (un rfl) rfl rfl rfl q36 rfl rfl ?_
    refine .gv (fa rfl tF48_3) rfl rfl rfl q36 rfl rfl ?_
    refine .gv (ld1 rfl tO3 (cellB (off := 3) (k := 0) rfl rfl)) rfl rfl rfl q36 rfl rfl ?_
    refine .gv (fa rfl tF48_3) rfl rfl rfl q36 rfl rfl ?_
    refine .gv (ld1 rfl tO3 (cellB (off := 3) (k := 0) rfl rfl)) rfl rfl rfl q36 rfl rfl ?_
    refine .gv (un rfl) rfl rfl rfl q36 rfl rfl ?_
    obtain ⟨x2, q37⟩ : ∃ y_ : Int, y_ = (min (min (min l.low (IntKind.i64.wrap (0 - l.low))) l.high) (IntKind.i64.wrap (0 - l.high))) := ⟨_, rfl⟩
    replace hF := hF x2 q37
    refine .gv (v := .int .i64 x2) (by rw [q37]; exact mn4 rfl rfl rfl rfl) rfl rfl rfl q36 rfl rfl ?_
    refine .gv (bi rfl rfl rfl) rfl rfl rfl q36 rfl rfl ?_
    refine .v (pkF rfl q36 rfl) rfl rfl rfl ?_
    refine .v (asg rfl) rfl rfl rfl ?_
    refine .nil ?_
    exact .use q29 (decide (x2 < (-1000))) hF (.cons rfl (.cons rfl (.nil))) rfl (FH.le_refl _)
  refine .region ?_
  refine .v (fa rfl tF48_0) rfl rfl rfl ?_
  refine .v (ld1 rfl tO3 (cellB (off := 0) (k := 0) rfl rfl)) rfl rfl rfl ?_
  refine .v (bi rfl rfl rfl) rfl rfl rfl ?_
  refine .v (mv rfl) rfl rfl rfl ?_
  rcases Bool.eq_false_or_eq_true (decide (l.src < 0)) with q38 | q38
  · replace hF := hF.1 q38
    refine .gS rfl rfl rfl q38 rfl rfl ?_
    refine .gS rfl rfl rfl q38 rfl rfl ?_
    refine .gS rfl rfl rfl q38 rfl rfl ?_
    refine .gS rfl rfl rfl q38 rfl rfl ?_
    refine .v (pkT rfl q38 rfl) rfl rfl rfl ?_
    refine .v (mv rfl) rfl rfl rfl ?_
    refine .gS rfl rfl rfl rfl rfl rfl ?_
    refine .gS rfl rfl rfl rfl rfl rfl ?_
    refine .gS rfl rfl rfl rfl rfl rfl ?_
    refine .v (pkT rfl rfl rfl) rfl rfl rfl ?_
    refine .v (mv rfl) rfl rfl rfl ?_
    refine .gS rfl rfl rfl rfl rfl rfl ?_
    refine .gS rfl rfl rfl rfl rfl rfl ?_
    refine .gS rfl rfl rfl rfl rfl rfl ?_
    refine .gS rfl rfl rfl rfl rfl rfl ?_
    refine .v (pkT rfl rfl rfl) rfl rfl rfl ?_
    refine .v (asg rfl) rfl rfl rfl ?_
    refine .nil ?_
    exact .use q24 true hF (.cons rfl (.cons rfl (.nil))) rfl (FH.le_refl _)
  replace hF := hF.2 q38
  refine .gv (fa rfl tF48_0) rfl rfl rfl q38 rfl rfl ?_
  refine .gv (ld1 rfl tO3 (cellB (off := 0) (k := 0) rfl rfl)) rfl rfl rfl q38 rfl rfl ?_
  refine .gv (mv rfl) rfl rfl rfl q38 rfl rfl ?_
  refine .gv (bi rfl rfl rfl) rfl rfl rfl q38 rfl rfl ?_
  refine .v (pkF rfl q38 rfl) rfl rfl rfl ?_
  refine .v (mv rfl) rfl rfl rfl ?_
  rcases Bool.eq_false_or_eq_true (decide (n_ ≤ l.src)) with q39 | q39
  · replace hF := hF.1 q39
    refine .gS rfl rfl rfl q39 rfl rfl ?_
    refine .gS rfl rfl rfl q39 rfl rfl ?_
    refine .gS rfl rfl rfl q39 rfl rfl ?_
    refine .v (pkT rfl q39 rfl) rfl rfl rfl ?_
    refine .v (mv rfl) rfl rfl rfl ?_
    refine .gS rfl rfl rfl rfl rfl rfl ?_
    refine .gS rfl rfl rfl rfl rfl rfl ?_
    refine .gS rfl rfl rfl rfl rfl rfl ?_
    refine .gS rfl rfl rfl rfl rfl rfl ?_
    refine .v (pkT rfl rfl rfl) rfl rfl rfl ?_
    refine .v (asg rfl) rfl rfl rfl ?_
    refine .nil ?_
    exact .use q24 true hF (.cons rfl (.cons rfl (.nil))) rfl (FH.le_refl _)
  replace hF := hF.2 q39
  refine .gv (fa rfl tF48_1) rfl rfl rfl q39 rfl rfl ?_
  refine .gv (ld1 rfl tO3 (cellB (off := 1) (k := 0) rfl rfl)) rfl rfl rfl q39 rfl rfl ?_
  refine .gv (bi rfl rfl rfl) rfl rfl rfl q39 rfl rfl ?_
  refine .v (pkF rfl q39 rfl) rfl rfl rfl ?_
  refine .v (mv rfl) rfl rfl rfl ?_
  rcases Bool.eq_false_or_eq_true (decide (l.dst < 0)) with q40 | q40
  · replace hF := hF.1 q40
    refine .gS rfl rfl rfl q40 rfl rfl ?_
    refine .gS rfl rfl rfl q40 rfl rfl ?_
    refine .gS rfl rfl rfl q40 rfl rfl ?_
    refine .gS rfl rfl rfl q40 rfl rfl ?_
    refine .v (pkT rfl q40 rfl) rfl rfl rfl ?_
    refine .v (asg rfl) rfl rfl rfl ?_
    refine .nil ?_
    exact .use q24 true hF (.cons rfl (.cons rfl (.nil))) rfl (FH.le_refl _)
  replace hF := hF.2 q40
  refine .gv (fa rfl tF48_1) rfl rfl rfl q40 rfl rfl ?_
  refine .gv (ld1 rfl tO3 (cellB (off := 1) (k := 0) rfl rfl)) rfl rfl rfl q40 rfl rfl ?_
  refine .gv (mv rfl) rfl rfl rfl q40 rfl rfl ?_
  refine .gv (bi rfl rfl rfl) rfl rfl rfl q40 rfl rfl ?_
  refine .v (pkF rfl q40 rfl) rfl rfl rfl ?_
  refine .v (asg rfl) rfl rfl rfl ?_
  refine .nil ?_
  exact .use q24 (decide (n_ ≤ l.dst)) hF (.cons rfl (.cons rfl (.nil))) rfl (FH.le_refl _)

theorem c_linkCode {h : FH} {w : World} (hs : Sub h w) (l : Link) (n_ : Int) : Calls Try.prog 25 #[.agg #[.int .i64 l.src, .int .i64 l.dst, .int .i64 l.low, .int .i64 l.high], .int .i64 n_] w fun e w' => e = .returned (.int .i64 (sp_linkCode l n_)) ∧ Below w.heap.size w w' :=
  (w_linkCode hs l n_ (fun r => r = sp_linkCode l n_) (ok_linkCode l n_)).mono fun _ _ ⟨_, hk, he, hb⟩ => ⟨by rw [he, hk], hb⟩

set_option maxHeartbeats 8000000 in
theorem w_rLinkCode {h : FH} {w : World} (hs : Sub h w) (l : Link) (n_ : Int) (K : Int → Prop) (hF : F_rLinkCode l n_ K) : Calls Try.prog 17 #[.agg #[.int .i64 l.src, .int .i64 l.dst, .int .i64 l.low, .int .i64 l.high], .int .i64 n_] w fun e w' => ∃ r : Int, K r ∧ e = .returned (.int .i64 r) ∧ Below w.heap.size w w' := by
  refine enter (args := [.agg #[.int .i64 l.src, .int .i64 l.dst, .int .i64 l.low, .int .i64 l.high], .int .i64 n_]) Try.func17 rfl Try.ntmps17 rfl hs ?_
  refine .seq ?_
  refine .region ?_
  refine bx (vs := [.int .i64 l.src, .int .i64 l.dst, .int .i64 l.low, .int .i64 l.high]) rfl rfl rfl (fun pl => ?_)
  refine .v (asg rfl) rfl rfl rfl ?_
  refine .nil ?_
  refine .seqN ?_
  refine .seq ?_
  refine .share (σ := Bool) (fun z => F_rLinkCode_J1 l K z) (fun z => [(2, .pointer (some pl)), (30, .bool z)]) (fun _ => [Box pl [.int .i64 l.src, .int .i64 l.dst, .int .i64 l.low, .int .i64 l.high]]) (fun _ => h) ?_ (fun q8 => ?_)
  · rintro t30 hF
    show J _ _ _ _ _ [(2, .pointer (some pl)), (30, .bool t30)] [Box pl [.int .i64 l.src, .int .i64 l.dst, .int .i64 l.low, .int .i64 l.high]] h
    refine .cond rfl (fun q9 => ?_) (fun q9 => ?_)
    · replace hF := hF.1 q9
      refine .seq ?_
      refine .region ?_
      refine .v (asg rfl) rfl rfl rfl ?_
      refine .nil ?_
      refine .seqN ?_
      refine .ret ?_
      refine .seqR ?_
      refine .res1 rfl (rvT rfl) (fun w' S => ⟨3, hF, rfl, S.below⟩)
    replace hF := hF.2 q9
    refine .skip ?_
    refine .seqN ?_
    refine .seq ?_
    refine .share (σ := Bool) (fun z => F_rLinkCode_J2 K z) (fun z => [(42, .bool z)]) (fun _ => []) (fun _ => h) ?_ (fun q11 => ?_)
    · rintro t42 hF
      show J _ _ _ _ _ [(42, .bool t42)] [] h
      refine .cond rfl (fun q12 => ?_) (fun q12 => ?_)
      · replace hF := hF.1 q12
        refine .seq ?_
        refine .region ?_
        refine .v (asg rfl) rfl rfl rfl ?_
        refine .nil ?_
        refine .seqN ?_
        refine .ret ?_
        refine .seqR ?_
        refine .res1 rfl (rvT rfl) (fun w' S => ⟨5, hF, rfl, S.below⟩)
      replace hF := hF.2 q12
      refine .skip ?_
      refine .seqN ?_
      refine .seq ?_
      refine .region ?_
      refine .v (asg rfl) rfl rfl rfl ?_
      refine .nil ?_
      refine .seqN ?_
      refine .ret ?_
      refine .res1 rfl (rvT rfl) (fun w' S => ⟨0, hF, rfl, S.below⟩)
    refine .region ?_
    refine .v (fa rfl tF48_0) rfl rfl rfl ?_
    refine .v (ld1 rfl tO3 (cellB (off := 0) (k := 0) rfl rfl)) rfl rfl rfl ?_
    refine .v (fa rfl tF48_1) rfl rfl rfl ?_
    refine .v (ld1 rfl tO3 (cellB (off := 1) (k := 0) rfl rfl)) rfl rfl rfl ?_
    refine .v (bi rfl rfl rfl) rfl rfl rfl ?_
    refine .v (mv rfl) rfl rfl rfl ?_
    rcases Bool.eq_false_or_eq_true (l.src == l.dst) with q13 | q13
    · replace hF := hF.1 q13
      refine .gS rfl rfl rfl q13 rfl rfl ?_
      refine .gS rfl rfl rfl q13 rfl rfl ?_
      refine .gS rfl rfl rfl q13 rfl rfl ?_
      refine .gS rfl rfl rfl q13 rfl rfl ?_
      refine .gS rfl rfl rfl q13 rfl rfl ?_
      refine .v (pkT rfl q13 rfl) rfl rfl rfl ?_
      refine .nil ?_
      refine .sel0 [] (by decide) rfl ?_
      exact .use q11 true hF (.cons rfl (.nil)) rfl (FH.le_refl _)
    replace hF := hF.2 q13
    refine .gv (fa rfl tF48_3) rfl rfl rfl q13 rfl rfl ?_
    refine .gv (ld1 rfl tO3 (cellB (off := 3) (k := 0) rfl rfl)) rfl rfl rfl q13 rfl rfl ?_
    refine .gv (fa rfl tF48_2) rfl rfl rfl q13 rfl rfl ?_
    refine .gv (ld1 rfl tO3 (cellB (off := 2) (k := 0) rfl rfl)) rfl rfl rfl q13 rfl rfl ?_
    refine .gv (bi rfl rfl rfl) rfl rfl rfl q13 rfl rfl ?_
    refine .v (pkF rfl q13 rfl) rfl rfl rfl ?_
    refine .nil ?_
    refine .sel0 [] (by decide) rfl ?_
    exact .use q11 (decide (l.high < l.low)) hF (.cons rfl (.nil)) rfl (FH.le_refl _)
  refine .region ?_
  refine .v (fa rfl tF48_0) rfl rfl rfl ?_
  refine .v (ld1 rfl tO3 (cellB (off := 0) (k := 0) rfl rfl)) rfl rfl rfl ?_
  refine .v (mv rfl) rfl rfl rfl ?_
  refine .v (bi rfl rfl rfl) rfl rfl rfl ?_
  obtain ⟨r2, q14⟩ : ∃ y_ : Bool, y_ = sp_in_ l.src 0 (IntKind.i64.wrap (n_ - 1)) := ⟨_, rfl⟩
  replace hF := hF r2 q14
  refine .c (cl (v := .bool r2) Try.call35 rfl rfl (fun w S => (by rw [q14]; exact c_in_ S.sub l.src 0 (IntKind.i64.wrap (n_ - 1)) ))) rfl rfl rfl ?_
  refine .v (nt rfl) rfl rfl rfl ?_
  refine .v (mv rfl) rfl rfl rfl ?_
  rcases Bool.eq_false_or_eq_true (!r2) with q15 | q15
  · replace hF := hF.1 q15
    refine .gS rfl rfl rfl q15 rfl rfl ?_
    refine .gS rfl rfl rfl q15 rfl rfl ?_
    refine .gS rfl rfl rfl q15 rfl rfl ?_
    refine .gS rfl rfl rfl q15 rfl rfl ?_
    refine .gS rfl rfl rfl q15 rfl rfl ?_
    refine .gS rfl rfl rfl q15 rfl rfl ?_
    refine .v (pkT rfl q15 rfl) rfl rfl rfl ?_
    refine .v (mv rfl) rfl rfl rfl ?_
    refine .gS rfl rfl rfl rfl rfl rfl ?_
    refine .gS rfl rfl rfl rfl rfl rfl ?_
    refine .gS rfl rfl rfl rfl rfl rfl ?_
    refine .gS rfl rfl rfl rfl rfl rfl ?_
    refine .v (pkT rfl rfl rfl) rfl rfl rfl ?_
    refine .v (mv rfl) rfl rfl rfl ?_
    refine .gS rfl rfl rfl rfl rfl rfl ?_
    refine .gS rfl rfl rfl rfl rfl rfl ?_
    refine .gS rfl rfl rfl rfl rfl rfl ?_
    refine .gS rfl rfl rfl rfl rfl rfl ?_
    refine .v (pkT rfl rfl rfl) rfl rfl rfl ?_
    refine .nil ?_
    exact .use q8 true hF (.cons rfl (.cons rfl (.nil))) rfl (FH.le_refl _)
  replace hF := hF.2 q15
  refine .gv (fa rfl tF48_1) rfl rfl rfl q15 rfl rfl ?_
  refine .gv (ld1 rfl tO3 (cellB (off := 1) (k := 0) rfl rfl)) rfl rfl rfl q15 rfl rfl ?_
  refine .gv (mv rfl) rfl rfl rfl q15 rfl rfl ?_
  refine .gv (bi rfl rfl rfl) rfl rfl rfl q15 rfl rfl ?_
  obtain ⟨r3, q16⟩ : ∃ y_ : Bool, y_ = sp_in_ l.dst 0 (IntKind.i64.wrap (n_ - 1)) := ⟨_, rfl⟩
  replace hF := hF r3 q16
  refine .gc (cl (v := .bool r3) Try.call35 rfl rfl (fun w S => (by rw [q16]; exact c_in_ S.sub l.dst 0 (IntKind.i64.wrap (n_ - 1)) ))) rfl rfl rfl q15 rfl rfl ?_
  refine .gv (nt rfl) rfl rfl rfl q15 rfl rfl ?_
  refine .v (pkF rfl q15 rfl) rfl rfl rfl ?_
  refine .v (mv rfl) rfl rfl rfl ?_
  rcases Bool.eq_false_or_eq_true (!r3) with q17 | q17
  · replace hF := hF.1 q17
    refine .gS rfl rfl rfl q17 rfl rfl ?_
    refine .gS rfl rfl rfl q17 rfl rfl ?_
    refine .gS rfl rfl rfl q17 rfl rfl ?_
    refine .gS rfl rfl rfl q17 rfl rfl ?_
    refine .v (pkT rfl q17 rfl) rfl rfl rfl ?_
    refine .v (mv rfl) rfl rfl rfl ?_
    refine .gS rfl rfl rfl rfl rfl rfl ?_
    refine .gS rfl rfl rfl rfl rfl rfl ?_
    refine .gS rfl rfl rfl rfl rfl rfl ?_
    refine .gS rfl rfl rfl rfl rfl rfl ?_
    refine .v (pkT rfl rfl rfl) rfl rfl rfl ?_
    refine .nil ?_
    exact .use q8 true hF (.cons rfl (.cons rfl (.nil))) rfl (FH.le_refl _)
  replace hF := hF.2 q17
  refine .gv (fa rfl tF48_2) rfl rfl rfl q17 rfl rfl ?_
  refine .gv (ld1 rfl tO3 (cellB (off := 2) (k := 0) rfl rfl)) rfl rfl rfl q17 rfl rfl ?_
  obtain ⟨r4, q18⟩ : ∃ y_ : Bool, y_ = sp_in_ l.low (-1000) 1000 := ⟨_, rfl⟩
  replace hF := hF r4 q18
  refine .gc (cl (v := .bool r4) Try.call35 rfl rfl (fun w S => (by rw [q18]; exact c_in_ S.sub l.low (-1000) 1000 ))) rfl rfl rfl q17 rfl rfl ?_
  refine .gv (nt rfl) rfl rfl rfl q17 rfl rfl ?_
  refine .v (pkF rfl q17 rfl) rfl rfl rfl ?_
  refine .v (mv rfl) rfl rfl rfl ?_
  rcases Bool.eq_false_or_eq_true (!r4) with q19 | q19
  · replace hF := hF.1 q19
    refine .gS rfl rfl rfl q19 rfl rfl ?_
    refine .gS rfl rfl rfl q19 rfl rfl ?_
    refine .gS rfl rfl rfl q19 rfl rfl ?_
    refine .gS rfl rfl rfl q19 rfl rfl ?_
    refine .v (pkT rfl q19 rfl) rfl rfl rfl ?_
    refine .nil ?_
    exact .use q8 true hF (.cons rfl (.cons rfl (.nil))) rfl (FH.le_refl _)
  replace hF := hF.2 q19
  refine .gv (fa rfl tF48_3) rfl rfl rfl q19 rfl rfl ?_
  refine .gv (ld1 rfl tO3 (cellB (off := 3) (k := 0) rfl rfl)) rfl rfl rfl q19 rfl rfl ?_
  obtain ⟨r5, q20⟩ : ∃ y_ : Bool, y_ = sp_in_ l.high (-1000) 1000 := ⟨_, rfl⟩
  replace hF := hF r5 q20
  refine .gc (cl (v := .bool r5) Try.call35 rfl rfl (fun w S => (by rw [q20]; exact c_in_ S.sub l.high (-1000) 1000 ))) rfl rfl rfl q19 rfl rfl ?_
  refine .gv (nt rfl) rfl rfl rfl q19 rfl rfl ?_
  refine .v (pkF rfl q19 rfl) rfl rfl rfl ?_
  refine .nil ?_
  exact .use q8 (!r5) hF (.cons rfl (.cons rfl (.nil))) rfl (FH.le_refl _)

theorem c_rLinkCode {h : FH} {w : World} (hs : Sub h w) (l : Link) (n_ : Int) (hp : pre_rLinkCode l n_) : Calls Try.prog 17 #[.agg #[.int .i64 l.src, .int .i64 l.dst, .int .i64 l.low, .int .i64 l.high], .int .i64 n_] w fun e w' => e = .returned (.int .i64 (sp_linkCode l n_)) ∧ Below w.heap.size w w' :=
  (w_rLinkCode hs l n_ (fun r => r = sp_linkCode l n_) (ok_rLinkCode l n_ hp)).mono fun _ _ ⟨_, hk, he, hb⟩ => ⟨by rw [he, hk], hb⟩

set_option maxHeartbeats 8000000 in
theorem w_validate {h : FH} {w : World} (hs : Sub h w) (n_ : Network) (an_ : Option Addr) (cn_ : Nat) (_q1 : RSl h an_ n_.links) (_q2 : n_.links.length ≤ cn_) (K : Fault → Prop) (hF : F_validate n_ K) : Calls Try.prog 24 #[.agg #[.int .i64 n_.events, .slice an_ n_.links.length cn_]] w fun e w' => ∃ r : Fault, K r ∧ e = .returned (.agg #[.int .i64 r.code, .int .i64 r.index]) ∧ Below w.heap.size w w' := by
  refine enter (args := [.agg #[.int .i64 n_.events, .slice an_ n_.links.length cn_]]) Try.func24 rfl Try.ntmps24 rfl hs ?_
  refine .seq ?_
  refine .region ?_
  refine bx (vs := [.int .i64 n_.events, .slice an_ n_.links.length cn_]) rfl rfl rfl (fun pn => ?_)
  refine al tZ28 rfl (fun pv => ?_)
  refine .nil ?_
  refine .seqN ?_
  refine .seq ?_
  refine .block ?_
  refine .share (σ := Bool) (fun z => F_validate_J1 n_ K z) (fun z => [(1, .pointer (some pn)), (2, .pointer (some pv)), (6, .bool z)]) (fun _ => [Box pn [.int .i64 n_.events, .slice an_ n_.links.length cn_], Box pv [.int .i64 0, .int .i64 0]]) (fun _ => h) ?_ (fun q9 => ?_)
  · rintro t6 hF
    show J _ _ _ _ _ [(1, .pointer (some pn)), (2, .pointer (some pv)), (6, .bool t6)] [Box pn [.int .i64 n_.events, .slice an_ n_.links.length cn_], Box pv [.int .i64 0, .int .i64 0]] h
    refine .cond rfl (fun q10 => ?_) (fun q10 => ?_)
    · replace hF := hF.1 q10
      refine .seq ?_
      refine .region ?_
      refine .v (bld (cs := #[.int .i64 3, .int .i64 (-1)]) (pv := [(0, .int .i64 3), (1, .int .i64 (-1))]) tB28 rfl rfl) rfl rfl rfl ?_
      refine st (p := pv) (off := 0) (k := 1) (vs := [.int .i64 3, .int .i64 (-1)]) rfl rfl rfl (fun w => (tA28 w).2) rfl rfl rfl rfl ?_
      refine .cast (A' := [Box pn [.int .i64 n_.events, .slice an_ n_.links.length cn_], Box pv [.int .i64 3, .int .i64 (-1)]]) rfl ?_
      refine .nil ?_
      refine .seqN ?_
      refine .ret ?_
      refine .blkR ?_
      refine .seqR ?_
      refine .res1 rfl (rvC rfl tA28 (k := 1) rfl rfl) (fun w' S => ⟨(⟨3, (-1)⟩ : Fault), hF, rfl, S.below⟩)
    replace hF := hF.2 q10
    refine .seq ?_
    refine .region ?_
    refine .v (fa rfl tF24_1) rfl rfl rfl ?_
    refine .v (ld1 rfl tO22 (cellB (off := 1) (k := 0) rfl rfl)) rfl rfl rfl ?_
    refine .v (ln rfl tS22.is) rfl rfl rfl ?_
    refine .v (bi rfl rfl rfl) rfl rfl rfl ?_
    refine .v (asg rfl) rfl rfl rfl ?_
    refine .nil ?_
    refine .seqN ?_
    refine .cond rfl (fun q11 => ?_) (fun q11 => ?_)
    · replace hF := hF.1 q11
      refine .seq ?_
      refine .region ?_
      refine .v (bld (cs := #[.int .i64 2, .int .i64 (-1)]) (pv := [(0, .int .i64 2), (1, .int .i64 (-1))]) tB28 rfl rfl) rfl rfl rfl ?_
      refine st (p := pv) (off := 0) (k := 1) (vs := [.int .i64 2, .int .i64 (-1)]) rfl rfl rfl (fun w => (tA28 w).2) rfl rfl rfl rfl ?_
      refine .cast (A' := [Box pn [.int .i64 n_.events, .slice an_ n_.links.length cn_], Box pv [.int .i64 2, .int .i64 (-1)]]) rfl ?_
      refine .nil ?_
      refine .seqN ?_
      refine .ret ?_
      refine .blkR ?_
      refine .seqR ?_
      refine .res1 rfl (rvC rfl tA28 (k := 1) rfl rfl) (fun w' S => ⟨(⟨2, (-1)⟩ : Fault), hF, rfl, S.below⟩)
    replace hF := hF.2 q11
    refine .skip ?_
    refine .blkN ?_
    refine .seqN ?_
    refine .seq ?_
    refine .seq ?_
    refine .region ?_
    refine .v (fa rfl tF24_1) rfl rfl rfl ?_
    refine .v (ld1 rfl tO22 (cellB (off := 1) (k := 0) rfl rfl)) rfl rfl rfl ?_
    refine .v (ln rfl tS22.is) rfl rfl rfl ?_
    refine .v (mv rfl) rfl rfl rfl ?_
    refine .nil ?_
    refine .seqN ?_
    refine .block ?_
    obtain ⟨I1, μ1, q28, q29⟩ := hF
    refine .loop' (σ := Int) (fun z => I1 z) (fun z => μ1 z) (fun z => [(1, .pointer (some pn)), (2, .pointer (some pv)), (23, .slice an_ n_.links.length cn_), (24, .int .i64 ((n_.links.length : Nat) : Int)), (25, .int .i64 z)]) (fun _ => [Box pn [.int .i64 n_.events, .slice an_ n_.links.length cn_], Box pv [.int .i64 0, .int .i64 0]]) (fun _ => h) 0 q28 (.cons rfl (.cons rfl (.cons rfl (.cons rfl (.cons rfl (.nil)))))) rfl (FH.le_refl _) ?_
    rintro t25 q28
    have hF := q29 t25 q28
    show J _ _ _ _ _ [(1, .pointer (some pn)), (2, .pointer (some pv)), (23, .slice an_ n_.links.length cn_), (24, .int .i64 ((n_.links.length : Nat) : Int)), (25, .int .i64 t25)] [Box pn [.int .i64 n_.events, .slice an_ n_.links.length cn_], Box pv [.int .i64 0, .int .i64 0]] h
    refine .seq ?_
    refine .region ?_
    refine .v (bi rfl rfl rfl) rfl rfl rfl ?_
    refine .nil ?_
    refine .seqN ?_
    refine .seq ?_
    refine .cond rfl (fun q31 => ?_) (fun q31 => ?_)
    · replace hF := hF.1 q31
      refine .skip ?_
      refine .seqN ?_
      refine .seq ?_
      refine .block ?_
      refine .seq ?_
      refine .region ?_
      refine .v (mv rfl) rfl rfl rfl ?_
      obtain ⟨q35, hF⟩ := hF
      refine .v (ix rfl rfl tS22 (_q1.ne (by decide) (inb_pos q35)) q35) rfl rfl rfl ?_
      refine .v (ldA (cs := [.int .i64 ((gt n_.links t25).src), .int .i64 ((gt n_.links t25).dst), .int .i64 ((gt n_.links t25).low), .int .i64 ((gt n_.links t25).high)]) rfl tA48 rfl (cellsH (_q1.elemF q35 (by decide)))) rfl rfl rfl ?_
      refine al tZ48 rfl (fun pl => ?_)
      refine .v (asg rfl) rfl rfl rfl ?_
      refine st (p := pl) (off := 0) (k := 0) (vs := [.int .i64 ((gt n_.links t25).src), .int .i64 ((gt n_.links t25).dst), .int .i64 ((gt n_.links t25).low), .int .i64 ((gt n_.links t25).high)]) rfl rfl rfl (fun w => (tA48 w).2) rfl rfl rfl rfl ?_
      refine .cast (A' := [Box pl [.int .i64 ((gt n_.links t25).src), .int .i64 ((gt n_.links t25).dst), .int .i64 ((gt n_.links t25).low), .int .i64 ((gt n_.links t25).high)], Box pn [.int .i64 n_.events, .slice an_ n_.links.length cn_], Box pv [.int .i64 0, .int .i64 0]]) rfl ?_
      refine .nil ?_
      refine .seqN ?_
      refine .seq ?_
      refine .region ?_
      refine .v (ldA (cs := [.int .i64 ((gt n_.links t25).src), .int .i64 ((gt n_.links t25).dst), .int .i64 ((gt n_.links t25).low), .int .i64 ((gt n_.links t25).high)]) rfl tA48 rfl (cellsB (off := 0) (k := 0) rfl (m := 4) rfl)) rfl rfl rfl ?_
      refine .v (fa rfl tF24_0) rfl rfl rfl ?_
      refine .v (ld1 rfl tO3 (cellB (off := 0) (k := 1) rfl rfl)) rfl rfl rfl ?_
      obtain ⟨r2, q36⟩ : ∃ y_ : Int, y_ = sp_linkCode (gt n_.links t25) n_.events := ⟨_, rfl⟩
      replace hF := hF r2 q36
      refine .c (cl (v := .int .i64 r2) Try.call25 rfl rfl (fun w S => (by rw [q36]; exact c_linkCode S.sub (gt n_.links t25) n_.events ))) rfl rfl rfl ?_
      refine .v (asg rfl) rfl rfl rfl ?_
      refine .nil ?_
      refine .seqN ?_
      refine .seq ?_
      refine .region ?_
      refine .v (mv rfl) rfl rfl rfl ?_
      refine .v (bi rfl rfl rfl) rfl rfl rfl ?_
      refine .nil ?_
      refine .seqN ?_
      refine .cond rfl (fun q37 => ?_) (fun q37 => ?_)
      · replace hF := hF.1 q37
        refine .seq ?_
        refine .region ?_
        refine .v (mv rfl) rfl rfl rfl ?_
        refine .v (mv rfl) rfl rfl rfl ?_
        refine .v (bld (cs := #[.int .i64 r2, .int .i64 t25]) (pv := [(0, .int .i64 r2), (1, .int .i64 t25)]) tB28 rfl rfl) rfl rfl rfl ?_
        refine st (p := pv) (off := 0) (k := 2) (vs := [.int .i64 r2, .int .i64 t25]) rfl rfl rfl (fun w => (tA28 w).2) rfl rfl rfl rfl ?_
        refine .cast (A' := [Box pl [.int .i64 ((gt n_.links t25).src), .int .i64 ((gt n_.links t25).dst), .int .i64 ((gt n_.links t25).low), .int .i64 ((gt n_.links t25).high)], Box pn [.int .i64 n_.events, .slice an_ n_.links.length cn_], Box pv [.int .i64 r2, .int .i64 t25]]) rfl ?_
        refine .nil ?_
        refine .seqN ?_
        refine .ret ?_
        refine .blkR ?_
        refine .seqR ?_
        refine .seqR ?_
        refine .blkR ?_
        refine .seqR ?_
        refine .res1 rfl (rvC rfl tA28 (k := 2) rfl rfl) (fun w' S => ⟨(⟨r2, t25⟩ : Fault), hF, rfl, S.below⟩)
      replace hF := hF.2 q37
      refine .skip ?_
      refine .blkN ?_
      refine .seqN ?_
      refine .region ?_
      refine .v (bi rfl rfl rfl) rfl rfl rfl ?_
      refine .v (mv rfl) rfl rfl rfl ?_
      refine .nil ?_
      refine .sel0 [1, 2] (by decide) rfl ?_
      exact .round (IntKind.i64.wrap (t25 + 1)) hF.1 hF.2 (.cons rfl (.cons rfl (.cons rfl (.cons rfl (.cons rfl (.nil)))))) rfl (FH.le_refl _)
    replace hF := hF.2 q31
    refine .exit ?_
    refine .seqX ?_
    refine .seqX ?_
    refine .blkX ?_
    refine .seqN ?_
    refine .seq ?_
    refine .region ?_
    refine .v (bld (cs := #[.int .i64 0, .int .i64 0]) (pv := []) tB28 rfl rfl) rfl rfl rfl ?_
    refine st (p := pv) (off := 0) (k := 1) (vs := [.int .i64 0, .int .i64 0]) rfl rfl rfl (fun w => (tA28 w).2) rfl rfl rfl rfl ?_
    refine .cast (A' := [Box pn [.int .i64 n_.events, .slice an_ n_.links.length cn_], Box pv [.int .i64 0, .int .i64 0]]) rfl ?_
    refine .nil ?_
    refine .seqN ?_
    refine .ret ?_
    refine .res1 rfl (rvC rfl tA28 (k := 1) rfl rfl) (fun w' S => ⟨(⟨0, 0⟩ : Fault), hF, rfl, S.below⟩)
  refine .region ?_
  refine .v (fa rfl tF24_0) rfl rfl rfl ?_
  refine .v (ld1 rfl tO3 (cellB (off := 0) (k := 1) rfl rfl)) rfl rfl rfl ?_
  refine .v (bi rfl rfl rfl) rfl rfl rfl ?_
  refine .v (mv rfl) rfl rfl rfl ?_
  rcases Bool.eq_false_or_eq_true (decide (n_.events < 1)) with q38 | q38
  · replace hF := hF.1 q38
    refine .gS rfl rfl rfl q38 rfl rfl ?_
    refine .gS rfl rfl rfl q38 rfl rfl ?_
    refine .gS rfl rfl rfl q38 rfl rfl ?_
    refine .v (pkT rfl q38 rfl) rfl rfl rfl ?_
    refine .v (asg rfl) rfl rfl rfl ?_
    refine .nil ?_
    refine .sel0 [1, 0] (by decide) rfl ?_
    exact .use q9 true hF (.cons rfl (.cons rfl (.cons rfl (.nil)))) rfl (FH.le_refl _)
  replace hF := hF.2 q38
  refine .gv (fa rfl tF24_0) rfl rfl rfl q38 rfl rfl ?_
  refine .gv (ld1 rfl tO3 (cellB (off := 0) (k := 1) rfl rfl)) rfl rfl rfl q38 rfl rfl ?_
  refine .gv (bi rfl rfl rfl) rfl rfl rfl q38 rfl rfl ?_
  refine .v (pkF rfl q38 rfl) rfl rfl rfl ?_
  refine .v (asg rfl) rfl rfl rfl ?_
  refine .nil ?_
  refine .sel0 [1, 0] (by decide) rfl ?_
  exact .use q9 (decide (10 < n_.events)) hF (.cons rfl (.cons rfl (.cons rfl (.nil)))) rfl (FH.le_refl _)

theorem c_validate {h : FH} {w : World} (hs : Sub h w) (n_ : Network) (an_ : Option Addr) (cn_ : Nat) (_q1 : RSl h an_ n_.links) (_q2 : n_.links.length ≤ cn_) : Calls Try.prog 24 #[.agg #[.int .i64 n_.events, .slice an_ n_.links.length cn_]] w fun e w' => e = .returned (.agg #[.int .i64 (sp_validate n_).code, .int .i64 (sp_validate n_).index]) ∧ Below w.heap.size w w' :=
  (w_validate hs n_ an_ cn_ _q1 _q2 (fun r => r = sp_validate n_) (ok_validate n_)).mono fun _ _ ⟨_, hk, he, hb⟩ => ⟨by rw [he, hk], hb⟩

set_option maxHeartbeats 8000000 in
theorem w_networkFault {h : FH} {w : World} (hs : Sub h w) (n_ : Network) (an_ : Option Addr) (cn_ : Nat) (_q1 : RSl h an_ n_.links) (_q2 : n_.links.length ≤ cn_) (K : Fault → Prop) (hF : F_networkFault n_ K) : Calls Try.prog 15 #[.agg #[.int .i64 n_.events, .slice an_ n_.links.length cn_]] w fun e w' => ∃ r : Fault, K r ∧ e = .returned (.agg #[.int .i64 r.code, .int .i64 r.index]) ∧ Below w.heap.size w w' := by
  refine enter (args := [.agg #[.int .i64 n_.events, .slice an_ n_.links.length cn_]]) Try.func15 rfl Try.ntmps15 rfl hs ?_
  refine .seq ?_
  refine .region ?_
  refine bx (vs := [.int .i64 n_.events, .slice an_ n_.links.length cn_]) rfl rfl rfl (fun pn => ?_)
  refine al tZ28 rfl (fun pv => ?_)
  refine .nil ?_
  refine .seqN ?_
  refine .seq ?_
  refine .seq ?_
  refine .region ?_
  refine .v (fa rfl tF24_0) rfl rfl rfl ?_
  refine .v (ld1 rfl tO3 (cellB (off := 0) (k := 1) rfl rfl)) rfl rfl rfl ?_
  obtain ⟨r2, q3⟩ : ∃ y_ : Bool, y_ = sp_in_ n_.events 1 10 := ⟨_, rfl⟩
  replace hF := hF r2 q3
  refine .c (cl (v := .bool r2) Try.call35 rfl rfl (fun w S => (by rw [q3]; exact c_in_ S.sub n_.events 1 10 ))) rfl rfl rfl ?_
  refine .v (nt rfl) rfl rfl rfl ?_
  refine .nil ?_
  refine .seqN ?_
  refine .cond rfl (fun q4 => ?_) (fun q4 => ?_)
  · replace hF := hF.1 q4
    refine .seq ?_
    refine .region ?_
    obtain ⟨r3, q5⟩ : ∃ y_ : Fault, y_ = sp_at_ 3 (-1) := ⟨_, rfl⟩
    replace hF := hF r3 q5
    refine .c (cl (v := .agg #[.int .i64 r3.code, .int .i64 r3.index]) Try.call16 rfl rfl (fun w S => (by rw [q5]; exact c_at_ S.sub 3 (-1) ))) rfl rfl rfl ?_
    refine st (p := pv) (off := 0) (k := 0) (vs := [.int .i64 r3.code, .int .i64 r3.index]) rfl rfl rfl (fun w => (tA28 w).2) rfl rfl rfl rfl ?_
    refine .cast (A' := [Box pv [.int .i64 r3.code, .int .i64 r3.index], Box pn [.int .i64 n_.events, .slice an_ n_.links.length cn_]]) rfl ?_
    refine .nil ?_
    refine .seqN ?_
    refine .ret ?_
    refine .seqR ?_
    refine .res1 rfl (rvC rfl tA28 (k := 0) rfl rfl) (fun w' S => ⟨r3, hF, rfl, S.below⟩)
  replace hF := hF.2 q4
  refine .skip ?_
  refine .seqN ?_
  refine .seq ?_
  refine .seq ?_
  refine .region ?_
  refine .v (fa rfl tF24_1) rfl rfl rfl ?_
  refine .v (ld1 rfl tO22 (cellB (off := 1) (k := 1) rfl rfl)) rfl rfl rfl ?_
  refine .v (ln rfl tS22.is) rfl rfl rfl ?_
  refine .v (bi rfl rfl rfl) rfl rfl rfl ?_
  refine .nil ?_
  refine .seqN ?_
  refine .cond rfl (fun q6 => ?_) (fun q6 => ?_)
  · replace hF := hF.1 q6
    refine .seq ?_
    refine .region ?_
    obtain ⟨r4, q7⟩ : ∃ y_ : Fault, y_ = sp_at_ 2 (-1) := ⟨_, rfl⟩
    replace hF := hF r4 q7
    refine .c (cl (v := .agg #[.int .i64 r4.code, .int .i64 r4.index]) Try.call16 rfl rfl (fun w S => (by rw [q7]; exact c_at_ S.sub 2 (-1) ))) rfl rfl rfl ?_
    refine st (p := pv) (off := 0) (k := 0) (vs := [.int .i64 r4.code, .int .i64 r4.index]) rfl rfl rfl (fun w => (tA28 w).2) rfl rfl rfl rfl ?_
    refine .cast (A' := [Box pv [.int .i64 r4.code, .int .i64 r4.index], Box pn [.int .i64 n_.events, .slice an_ n_.links.length cn_]]) rfl ?_
    refine .nil ?_
    refine .seqN ?_
    refine .ret ?_
    refine .seqR ?_
    refine .res1 rfl (rvC rfl tA28 (k := 0) rfl rfl) (fun w' S => ⟨r4, hF, rfl, S.below⟩)
  replace hF := hF.2 q6
  refine .skip ?_
  refine .seqN ?_
  refine .seq ?_
  refine .seq ?_
  refine .region ?_
  refine .v (asg rfl) rfl rfl rfl ?_
  refine .nil ?_
  refine .seqN ?_
  refine .block ?_
  refine .sel0 [1, 0] (by decide) rfl ?_
  obtain ⟨I1, μ1, q30, q31⟩ := hF
  refine .loop' (σ := Int) (fun z => I1 z) (fun z => μ1 z) (fun z => [(1, .pointer (some pn)), (2, .pointer (some pv)), (3, .int .i64 z)]) (fun _ => [Box pn [.int .i64 n_.events, .slice an_ n_.links.length cn_], Box pv [.int .i64 0, .int .i64 0]]) (fun _ => h) 0 q30 (.cons rfl (.cons rfl (.cons rfl (.nil)))) rfl (FH.le_refl _) ?_
  rintro i q30
  have hF := q31 i q30
  show J _ _ _ _ _ [(1, .pointer (some pn)), (2, .pointer (some pv)), (3, .int .i64 i)] [Box pn [.int .i64 n_.events, .slice an_ n_.links.length cn_], Box pv [.int .i64 0, .int .i64 0]] h
  refine .seq ?_
  refine .seq ?_
  refine .region ?_
  refine .v (mv rfl) rfl rfl rfl ?_
  refine .v (fa rfl tF24_1) rfl rfl rfl ?_
  refine .v (ld1 rfl tO22 (cellB (off := 1) (k := 0) rfl rfl)) rfl rfl rfl ?_
  refine .v (ln rfl tS22.is) rfl rfl rfl ?_
  refine .v (bi rfl rfl rfl) rfl rfl rfl ?_
  refine .nil ?_
  refine .seqN ?_
  refine .cond rfl (fun q32 => ?_) (fun q32 => ?_)
  · replace hF := hF.1 q32
    refine .skip ?_
    refine .seqN ?_
    refine .seq ?_
    refine .block ?_
    refine .seq ?_
    refine .open_ (by kernel_rfl) (by kernel_rfl) ?_
    refine .v (fa rfl tF24_1) rfl rfl rfl ?_
    refine .v (ld1 rfl tO22 (cellB (off := 1) (k := 0) rfl rfl)) rfl rfl rfl ?_
    refine .v (mv rfl) rfl rfl rfl ?_
    obtain ⟨q38, hF⟩ := hF
    refine .v (ix rfl rfl tS22 (_q1.ne (by decide) (inb_pos q38)) q38) rfl rfl rfl ?_
    refine .v (ldA (cs := [.int .i64 ((gt n_.links i).src), .int .i64 ((gt n_.links i).dst), .int .i64 ((gt n_.links i).low), .int .i64 ((gt n_.links i).high)]) rfl tA48 rfl (cellsH (_q1.elemF q38 (by decide)))) rfl rfl rfl ?_
    refine .v (fa rfl tF24_0) rfl rfl rfl ?_
    refine .v (ld1 rfl tO3 (cellB (off := 0) (k := 0) rfl rfl)) rfl rfl rfl ?_
    obtain ⟨q39, hF⟩ := hF
    obtain ⟨r5, q40⟩ : ∃ y_ : Int, y_ = sp_linkCode (gt n_.links i) n_.events := ⟨_, rfl⟩
    replace hF := hF r5 q40
    refine .c (cl (v := .int .i64 r5) Try.call17 rfl rfl (fun w S => (by rw [q40]; exact c_rLinkCode S.sub (gt n_.links i) n_.events q39))) rfl rfl rfl ?_
    refine .v (asg rfl) rfl rfl rfl ?_
    refine .fin ?_
    refine .seqN ?_
    refine .seq ?_
    refine .region ?_
    refine .v (mv rfl) rfl rfl rfl ?_
    refine .v (bi rfl rfl rfl) rfl rfl rfl ?_
    refine .nil ?_
    refine .seqN ?_
    refine .cond rfl (fun q41 => ?_) (fun q41 => ?_)
    · replace hF := hF.1 q41
      refine .seq ?_
      refine .region ?_
      refine .v (mv rfl) rfl rfl rfl ?_
      refine .v (mv rfl) rfl rfl rfl ?_
      obtain ⟨r6, q42⟩ : ∃ y_ : Fault, y_ = sp_at_ r5 i := ⟨_, rfl⟩
      replace hF := hF r6 q42
      refine .c (cl (v := .agg #[.int .i64 r6.code, .int .i64 r6.index]) Try.call16 rfl rfl (fun w S => (by rw [q42]; exact c_at_ S.sub r5 i ))) rfl rfl rfl ?_
      refine st (p := pv) (off := 0) (k := 1) (vs := [.int .i64 r6.code, .int .i64 r6.index]) rfl rfl rfl (fun w => (tA28 w).2) rfl rfl rfl rfl ?_
      refine .cast (A' := [Box pn [.int .i64 n_.events, .slice an_ n_.links.length cn_], Box pv [.int .i64 r6.code, .int .i64 r6.index]]) rfl ?_
      refine .nil ?_
      refine .seqN ?_
      refine .ret ?_
      refine .blkR ?_
      refine .seqR ?_
      refine .seqR ?_
      refine .blkR ?_
      refine .seqR ?_
      refine .res1 rfl (rvC rfl tA28 (k := 1) rfl rfl) (fun w' S => ⟨r6, hF, rfl, S.below⟩)
    replace hF := hF.2 q41
    refine .skip ?_
    refine .blkN ?_
    refine .seqN ?_
    refine .region ?_
    refine .v (mv rfl) rfl rfl rfl ?_
    refine .v (bi rfl rfl rfl) rfl rfl rfl ?_
    refine .v (asg rfl) rfl rfl rfl ?_
    refine .nil ?_
    exact .round (IntKind.i64.wrap (i + 1)) hF.1 hF.2 (.cons rfl (.cons rfl (.cons rfl (.nil)))) rfl (FH.le_refl _)
  replace hF := hF.2 q32
  refine .exit ?_
  refine .seqX ?_
  refine .seqX ?_
  refine .blkX ?_
  refine .seqN ?_
  refine .seq ?_
  refine .region ?_
  refine .v (bld (cs := #[.int .i64 0, .int .i64 0]) (pv := []) tB28 rfl rfl) rfl rfl rfl ?_
  refine st (p := pv) (off := 0) (k := 1) (vs := [.int .i64 0, .int .i64 0]) rfl rfl rfl (fun w => (tA28 w).2) rfl rfl rfl rfl ?_
  refine .cast (A' := [Box pn [.int .i64 n_.events, .slice an_ n_.links.length cn_], Box pv [.int .i64 0, .int .i64 0]]) rfl ?_
  refine .nil ?_
  refine .seqN ?_
  refine .ret ?_
  refine .res1 rfl (rvC rfl tA28 (k := 1) rfl rfl) (fun w' S => ⟨(⟨0, 0⟩ : Fault), hF, rfl, S.below⟩)

theorem c_networkFault {h : FH} {w : World} (hs : Sub h w) (n_ : Network) (an_ : Option Addr) (cn_ : Nat) (_q1 : RSl h an_ n_.links) (_q2 : n_.links.length ≤ cn_) : Calls Try.prog 15 #[.agg #[.int .i64 n_.events, .slice an_ n_.links.length cn_]] w fun e w' => e = .returned (.agg #[.int .i64 (sp_validate n_).code, .int .i64 (sp_validate n_).index]) ∧ Below w.heap.size w w' :=
  (w_networkFault hs n_ an_ cn_ _q1 _q2 (fun r => r = sp_validate n_) (ok_networkFault n_)).mono fun _ _ ⟨_, hk, he, hb⟩ => ⟨by rw [he, hk], hb⟩

theorem w_mul64 {h : FH} {w : World} (hs : Sub h w) (x : Int) (y : Int) (K : (Int × Int) → Prop) (hF : F_mul64 x y K) : Calls Try.prog 42 #[.int .u64 x, .int .u64 y] w fun e w' => ∃ r : Int × Int, K r ∧ e = .returned (.tuple #[.int .u64 r.1, .int .u64 r.2]) ∧ Below w.heap.size w w' := by
  refine enter (args := [.int .u64 x, .int .u64 y]) Try.func42 rfl Try.ntmps42 rfl hs ?_
  refine .seq ?_
  refine .region ?_
  refine .v (asg rfl) rfl rfl rfl ?_
  refine .v (asg rfl) rfl rfl rfl ?_
  refine .nil ?_
  refine .seqN ?_
  refine .seq ?_
  refine .region ?_
  refine .v (mv rfl) rfl rfl rfl ?_
  refine .v (bi rfl rfl rfl) rfl rfl rfl ?_
  refine .v (asg rfl) rfl rfl rfl ?_
  refine .nil ?_
  refine .seqN ?_
  refine .seq ?_
  refine .region ?_
  refine .v (mv rfl) rfl rfl rfl ?_
  refine .v (bsh rfl rfl (by decide) rfl) rfl rfl rfl ?_
  refine .v (asg rfl) rfl rfl rfl ?_
  refine .nil ?_
  refine .seqN ?_
  refine .seq ?_
  refine .region ?_
  refine .v (mv rfl) rfl rfl rfl ?_
  refine .v (bi rfl rfl rfl) rfl rfl rfl ?_
  refine .v (asg rfl) rfl rfl rfl ?_
  refine .nil ?_
  refine .seqN ?_
  refine .seq ?_
  refine .region ?_
  refine .v (mv rfl) rfl rfl rfl ?_
  refine .v (bsh rfl rfl (by decide) rfl) rfl rfl rfl ?_
  refine .v (asg rfl) rfl rfl rfl ?_
  refine .nil ?_
  refine .seqN ?_
  refine .seq ?_
  refine .region ?_
  refine .v (mv rfl) rfl rfl rfl ?_
  refine .v (mv rfl) rfl rfl rfl ?_
  obtain ⟨x2, q1⟩ : ∃ y_ : Int, y_ = (IntKind.u64.wrap ((bits .and .u64 x 4294967295) * (bits .and .u64 y 4294967295))) := ⟨_, rfl⟩
  replace hF := hF x2 q1
  refine .v (v := .int .u64 x2) (by rw [q1]; exact bi rfl rfl rfl) rfl rfl rfl ?_
  refine .v (asg rfl) rfl rfl rfl ?_
  refine .nil ?_
  refine .seqN ?_
  refine .seq ?_
  refine .region ?_
  refine .v (mv rfl) rfl rfl rfl ?_
  refine .v (mv rfl) rfl rfl rfl ?_
  obtain ⟨x3, q2⟩ : ∃ y_ : Int, y_ = (IntKind.u64.wrap ((Int.fdiv x (2 ^ (min ((32 : Int)).toNat (IntKind.bits .u64)))) * (bits .and .u64 y 4294967295))) := ⟨_, rfl⟩
  replace hF := hF x3 q2
  refine .v (v := .int .u64 x3) (by rw [q2]; exact bi rfl rfl rfl) rfl rfl rfl ?_
  refine .v (mv rfl) rfl rfl rfl ?_
  refine .v (bsh rfl rfl (by decide) rfl) rfl rfl rfl ?_
  obtain ⟨x4, q3⟩ : ∃ y_ : Int, y_ = (IntKind.u64.wrap (x3 + (Int.fdiv x2 (2 ^ (min ((32 : Int)).toNat (IntKind.bits .u64)))))) := ⟨_, rfl⟩
  replace hF := hF x4 q3
  refine .v (v := .int .u64 x4) (by rw [q3]; exact bi rfl rfl rfl) rfl rfl rfl ?_
  refine .v (asg rfl) rfl rfl rfl ?_
  refine .nil ?_
  refine .seqN ?_
  refine .seq ?_
  refine .region ?_
  refine .v (mv rfl) rfl rfl rfl ?_
  refine .v (bi rfl rfl rfl) rfl rfl rfl ?_
  refine .v (asg rfl) rfl rfl rfl ?_
  refine .nil ?_
  refine .seqN ?_
  refine .seq ?_
  refine .region ?_
  refine .v (mv rfl) rfl rfl rfl ?_
  refine .v (bsh rfl rfl (by decide) rfl) rfl rfl rfl ?_
  refine .v (asg rfl) rfl rfl rfl ?_
  refine .nil ?_
  refine .seqN ?_
  refine .seq ?_
  refine .region ?_
  refine .v (mv rfl) rfl rfl rfl ?_
  refine .v (mv rfl) rfl rfl rfl ?_
  refine .v (mv rfl) rfl rfl rfl ?_
  obtain ⟨x5, q4⟩ : ∃ y_ : Int, y_ = (IntKind.u64.wrap ((bits .and .u64 x 4294967295) * (Int.fdiv y (2 ^ (min ((32 : Int)).toNat (IntKind.bits .u64)))))) := ⟨_, rfl⟩
  replace hF := hF x5 q4
  refine .v (v := .int .u64 x5) (by rw [q4]; exact bi rfl rfl rfl) rfl rfl rfl ?_
  refine .v (bi rfl rfl rfl) rfl rfl rfl ?_
  refine .v (asg rfl) rfl rfl rfl ?_
  refine .nil ?_
  refine .seqN ?_
  refine .seq ?_
  refine .region ?_
  refine .v (mv rfl) rfl rfl rfl ?_
  refine .v (mv rfl) rfl rfl rfl ?_
  obtain ⟨x6, q5⟩ : ∃ y_ : Int, y_ = (IntKind.u64.wrap ((Int.fdiv x (2 ^ (min ((32 : Int)).toNat (IntKind.bits .u64)))) * (Int.fdiv y (2 ^ (min ((32 : Int)).toNat (IntKind.bits .u64)))))) := ⟨_, rfl⟩
  replace hF := hF x6 q5
  refine .v (v := .int .u64 x6) (by rw [q5]; exact bi rfl rfl rfl) rfl rfl rfl ?_
  refine .v (mv rfl) rfl rfl rfl ?_
  obtain ⟨x7, q6⟩ : ∃ y_ : Int, y_ = (IntKind.u64.wrap (x6 + (Int.fdiv x4 (2 ^ (min ((32 : Int)).toNat (IntKind.bits .u64)))))) := ⟨_, rfl⟩
  replace hF := hF x7 q6
  refine .v (v := .int .u64 x7) (by rw [q6]; exact bi rfl rfl rfl) rfl rfl rfl ?_
  refine .v (mv rfl) rfl rfl rfl ?_
  obtain ⟨x8, q7⟩ : ∃ y_ : Int, y_ = (Int.fdiv (IntKind.u64.wrap ((bits .and .u64 x4 4294967295) + x5)) (2 ^ (min ((32 : Int)).toNat (IntKind.bits .u64)))) := ⟨_, rfl⟩
  replace hF := hF x8 q7
  refine .v (v := .int .u64 x8) (by rw [q7]; exact bsh rfl rfl (by decide) rfl) rfl rfl rfl ?_
  refine .v (bi rfl rfl rfl) rfl rfl rfl ?_
  refine .v (asg rfl) rfl rfl rfl ?_
  refine .nil ?_
  refine .seqN ?_
  refine .seq ?_
  refine .region ?_
  refine .v (mv rfl) rfl rfl rfl ?_
  refine .v (mv rfl) rfl rfl rfl ?_
  refine .v (bi rfl rfl rfl) rfl rfl rfl ?_
  refine .v (asg rfl) rfl rfl rfl ?_
  refine .nil ?_
  refine .seqN ?_
  refine .ret ?_
  refine .res2 rfl (rvT rfl) (rvT rfl) (fun w' S => ⟨(IntKind.u64.wrap (x7 + x8), IntKind.u64.wrap (x * y)), hF, rfl, S.below⟩)

theorem c_mul64 {h : FH} {w : World} (hs : Sub h w) (x : Int) (y : Int) (hp : pre_mul64 x y) : Calls Try.prog 42 #[.int .u64 x, .int .u64 y] w fun e w' => e = .returned (.tuple #[.int .u64 (sp_mul64 x y).1, .int .u64 (sp_mul64 x y).2]) ∧ Below w.heap.size w w' :=
  (w_mul64 hs x y (fun r => r = sp_mul64 x y) (ok_mul64 x y hp)).mono fun _ _ ⟨_, hk, he, hb⟩ => ⟨by rw [he, hk], hb⟩

theorem w_mul {h : FH} {w : World} (hs : Sub h w) (x : Int) (y : Int) (K : (Int × Int) → Prop) (hF : F_mul x y K) : Calls Try.prog 40 #[.int .u64 x, .int .u64 y] w fun e w' => ∃ r : Int × Int, K r ∧ e = .returned (.tuple #[.int .u64 r.1, .int .u64 r.2]) ∧ Below w.heap.size w w' := by
  refine enter (args := [.int .u64 x, .int .u64 y]) Try.func40 rfl Try.ntmps40 rfl hs ?_
  refine .seq ?_
  refine .region ?_
  refine .v (asg rfl) rfl rfl rfl ?_
  refine .v (asg rfl) rfl rfl rfl ?_
  refine .nil ?_
  refine .seqN ?_
  refine .seq ?_
  refine .cond rfl (fun e => absurd (e.symm.trans rfl) (by decide)) (fun _ => ?_)
  refine .skip ?_
  refine .seqN ?_
  refine .seq ?_
  refine .region ?_
  refine .v (mv rfl) rfl rfl rfl ?_
  refine .v (mv rfl) rfl rfl rfl ?_
  obtain ⟨q1, hF⟩ := hF
  obtain ⟨r2, q2⟩ : ∃ y_ : Int × Int, y_ = sp_mul64 x y := ⟨_, rfl⟩
  replace hF := hF r2 q2
  refine .c (cl (v := .tuple #[.int .u64 r2.1, .int .u64 r2.2]) Try.call42 rfl rfl (fun w S => (by rw [q2]; exact c_mul64 S.sub x y q1))) rfl rfl rfl ?_
  refine .v (mv rfl) rfl rfl rfl ?_
  refine .v (ext rfl rfl) rfl rfl rfl ?_
  refine .v (ext rfl rfl) rfl rfl rfl ?_
  refine .v (asg rfl) rfl rfl rfl ?_
  refine .v (asg rfl) rfl rfl rfl ?_
  refine .nil ?_
  refine .seqN ?_
  refine .seq ?_
  refine .region ?_
  refine .v (mv rfl) rfl rfl rfl ?_
  refine .v (mv rfl) rfl rfl rfl ?_
  refine .v (asg rfl) rfl rfl rfl ?_
  refine .v (asg rfl) rfl rfl rfl ?_
  refine .nil ?_
  refine .seqN ?_
  refine .ret ?_
  refine .res2 rfl (rvT rfl) (rvT rfl) (fun w' S => ⟨(r2.1, r2.2), hF, rfl, S.below⟩)

theorem c_mul {h : FH} {w : World} (hs : Sub h w) (x : Int) (y : Int) (hp : pre_mul64 x y) : Calls Try.prog 40 #[.int .u64 x, .int .u64 y] w fun e w' => e = .returned (.tuple #[.int .u64 (sp_mul64 x y).1, .int .u64 (sp_mul64 x y).2]) ∧ Below w.heap.size w w' :=
  (w_mul hs x y (fun r => r = sp_mul64 x y) (ok_mul x y hp)).mono fun _ _ ⟨_, hk, he, hb⟩ => ⟨by rw [he, hk], hb⟩

theorem w_repeat {h : FH} {w : World} (hs : Sub h w) (x : List Int) (ax : Option Addr) (cx : Nat) (_q1 : RSl h ax x) (_q2 : x.length ≤ cx) (count : Int) (K : (List Int) → Prop) (hF : F_repeat x count K) : Calls Try.prog 38 #[.slice ax x.length cx, .int .i64 count] w fun e w' => ∃ (r : List Int) (z : Option Addr × Nat) (h1 : FH), K r ∧ e = .returned (.slice z.1 r.length z.2) ∧ FH.le h h1 ∧ True ∧ SH (Kp.all w h) h1 w' [OwnSl 3 1 z.1 r.length z.2 (flL r)] := by
  refine enter (args := [.slice ax x.length cx, .int .i64 count]) Try.func38 rfl Try.ntmps38 rfl hs ?_
  refine .seq ?_
  refine .region ?_
  refine .v (asg rfl) rfl rfl rfl ?_
  refine .nil ?_
  refine .seqN ?_
  refine .seq ?_
  refine .seq ?_
  refine .region ?_
  refine .v (mv rfl) rfl rfl rfl ?_
  refine .v (bi rfl rfl rfl) rfl rfl rfl ?_
  refine .nil ?_
  refine .seqN ?_
  refine .cond rfl (fun q3 => ?_) (fun q3 => ?_)
  · replace hF := hF.1 q3
    exact hF.elim
  replace hF := hF.2 q3
  refine .skip ?_
  refine .seqN ?_
  refine .seq ?_
  refine .region ?_
  refine .v (mv rfl) rfl rfl rfl ?_
  refine .v (ln rfl tS35.is) rfl rfl rfl ?_
  refine .v (cv Try.underlying3 Try.underlying69 rfl) rfl rfl rfl ?_
  refine .v (mv rfl) rfl rfl rfl ?_
  refine .v (cv Try.underlying3 Try.underlying69 rfl) rfl rfl rfl ?_
  obtain ⟨q4, hF⟩ := hF
  obtain ⟨r2, q5⟩ : ∃ y_ : Int × Int, y_ = sp_mul64 (IntKind.u64.wrap (((x.length : Nat) : Int))) (IntKind.u64.wrap (count)) := ⟨_, rfl⟩
  replace hF := hF r2 q5
  refine .c (cl (v := .tuple #[.int .u64 r2.1, .int .u64 r2.2]) Try.call40 rfl rfl (fun w S => (by rw [q5]; exact c_mul S.sub (IntKind.u64.wrap (((x.length : Nat) : Int))) (IntKind.u64.wrap (count)) q4))) rfl rfl rfl ?_
  refine .v (mv rfl) rfl rfl rfl ?_
  refine .v (ext rfl rfl) rfl rfl rfl ?_
  refine .v (ext rfl rfl) rfl rfl rfl ?_
  refine .v (asg rfl) rfl rfl rfl ?_
  refine .v (asg rfl) rfl rfl rfl ?_
  refine .nil ?_
  refine .seqN ?_
  refine .seq ?_
  refine .share (σ := Bool) (fun z => F_repeat_J1 x K r2 z) (fun z => [(0, .slice ax x.length cx), (6, .int .u64 r2.2), (26, .bool z)]) (fun _ => []) (fun _ => h) ?_ (fun q7 => ?_)
  · rintro t26 hF
    show J _ _ _ _ _ [(0, .slice ax x.length cx), (6, .int .u64 r2.2), (26, .bool t26)] [] h
    refine .cond rfl (fun q8 => ?_) (fun q8 => ?_)
    · replace hF := hF.1 q8
      exact hF.elim
    replace hF := hF.2 q8
    refine .skip ?_
    refine .seqN ?_
    refine .seq ?_
    refine .region ?_
    refine .v (mv rfl) rfl rfl rfl ?_
    refine .v (cv Try.underlying69 Try.underlying3 rfl) rfl rfl rfl ?_
    obtain ⟨q9, hF⟩ := hF
    refine mk (m := (IntKind.i64.wrap (r2.2)).toNat) (cs' := flL (List.replicate (IntKind.i64.wrap (r2.2)).toNat (0 : Int))) tS35 rfl rfl (Int.toNat_of_nonneg q9.1).symm q9.2.1 q9.2.2 (flL_rep1 rfl _) rfl (fun a c => ?_)
    have q10 : (List.replicate (IntKind.i64.wrap (r2.2)).toNat (0 : Int)).length = (IntKind.i64.wrap (r2.2)).toNat := List.length_replicate
    refine .cast (A' := [OwnSl 3 1 a ((IntKind.i64.wrap (r2.2)).toNat) c (flL (List.replicate (IntKind.i64.wrap (r2.2)).toNat (0 : Int)))]) rfl ?_
    refine .v (asg rfl) rfl rfl rfl ?_
    refine .nil ?_
    refine .seqN ?_
    refine .seq ?_
    refine .region ?_
    refine .v (mv rfl) rfl rfl rfl ?_
    refine .v (mv rfl) rfl rfl rfl ?_
    obtain ⟨q11, hF⟩ := hF
    obtain ⟨d, q12⟩ : ∃ y_ : List Int, y_ = (cpy (List.replicate (IntKind.i64.wrap (r2.2)).toNat (0 : Int)) 0 (x.take (min x.length ((IntKind.i64.wrap (r2.2)).toNat)))) := ⟨_, rfl⟩
    replace hF := hF d q12
    refine cpS (k := 0) (lo := 0) (cnt := (min x.length ((IntKind.i64.wrap (r2.2)).toNat))) (news := flL (x.take (min x.length ((IntKind.i64.wrap (r2.2)).toNat)))) (cs' := flL d) tS35 rfl rfl rfl (.inr ⟨rfl, rfl⟩) rfl (Nat.zero_le _) (take_src rfl (srcH (fun q => _q1.ne (by decide) q) (_q1.raw))) (take_flen rfl q11.1) rfl (flL_one _) (by rw [q12]; exact flL_cpy _ _ _ rfl) rfl ?_
    have q13 : d.length = (IntKind.i64.wrap (r2.2)).toNat := by rw [q12]; exact cpy_len q10 q11.2
    refine .cast (A' := [OwnSl 3 1 a ((IntKind.i64.wrap (r2.2)).toNat) c (flL d)]) rfl ?_
    refine .v (asg rfl) rfl rfl rfl ?_
    refine .nil ?_
    refine .seqN ?_
    refine .seq ?_
    refine .block ?_
    obtain ⟨I1, μ1, q56, q57⟩ := hF
    refine .loop' (σ := Int × List Int) (fun z => I1 z.1 z.2 ∧ z.2.length = (IntKind.i64.wrap (r2.2)).toNat) (fun z => μ1 z.1 z.2) (fun z => [(7, .slice a ((IntKind.i64.wrap (r2.2)).toNat) c), (8, .int .i64 z.1)]) (fun z => [OwnSl 3 1 a ((IntKind.i64.wrap (r2.2)).toNat) c (flL z.2)]) (fun _ => h) ((((min x.length ((IntKind.i64.wrap (r2.2)).toNat)) : Nat) : Int), d) ⟨q56, q13⟩ (.cons rfl (.cons rfl (.nil))) rfl (FH.le_refl _) ?_
    rintro ⟨n_, newslice⟩ ⟨q56, q48⟩
    have hF := q57 n_ newslice q56
    show J _ _ _ _ _ [(7, .slice a ((IntKind.i64.wrap (r2.2)).toNat) c), (8, .int .i64 n_)] [OwnSl 3 1 a ((IntKind.i64.wrap (r2.2)).toNat) c (flL newslice)] h
    refine .seq ?_
    refine .seq ?_
    refine .region ?_
    refine .v (mv rfl) rfl rfl rfl ?_
    refine .v (mv rfl) rfl rfl rfl ?_
    refine .v (ln rfl tS35.is) rfl rfl rfl ?_
    refine .v (bi rfl rfl rfl) rfl rfl rfl ?_
    refine .nil ?_
    refine .seqN ?_
    refine .cond rfl (fun q58 => ?_) (fun q58 => ?_)
    · replace hF := hF.1 q58
      refine .skip ?_
      refine .seqN ?_
      refine .block ?_
      refine .fact (fun w S => look_len S (k := 0) rfl) (fun q59 => ?_)
      obtain ⟨q60, hF⟩ := hF
      refine .openA (s0 := [(7, .slice a ((IntKind.i64.wrap (r2.2)).toNat) c), (8, .int .i64 n_)]) [0, 1, 2, 3, 4, 5, 6] [(0, .int .i64 n_), (1, .slice a ((IntKind.i64.wrap (r2.2)).toNat) c), (2, .int .i64 n_), (3, .slice (sla a c (n_).toNat 1) ((IntKind.i64.wrap (r2.2)).toNat - (n_).toNat) (c - (n_).toNat)), (4, .slice a ((IntKind.i64.wrap (r2.2)).toNat) c), (5, .int .i64 n_), (6, .slice a ((n_).toNat) c)] (by kernel_rfl) (.cons rfl (.cons rfl (.nil))) [7, 8] [9] rfl (by kernel_rfl) ?_
      refine .step [7] 7 rfl (by kernel_rfl) (by kernel_rfl) (.v [] rfl rfl rfl rfl rfl rfl (fun _ => mv rfl) (.v [] rfl rfl rfl rfl rfl rfl (fun _ => mv rfl) (.v [] rfl rfl rfl rfl rfl rfl (fun _ => mv rfl) (.v [(39, .slice a ((IntKind.i64.wrap (r2.2)).toNat) c), (40, .int .i64 n_)] rfl rfl rfl rfl rfl rfl (fun _ => slL tS35 rfl rfl q60.1 rfl (Int.toNat_le.2 q60.2)) (.v [] rfl rfl rfl rfl rfl rfl (fun _ => mv rfl) (.v [] rfl rfl rfl rfl rfl rfl (fun _ => mv rfl) (.v [(42, .slice a ((IntKind.i64.wrap (r2.2)).toNat) c), (43, .int .i64 n_)] rfl rfl rfl rfl rfl rfl (fun _ => slH tS35 rfl rfl q60.1 rfl (Nat.le_trans (Int.toNat_le.2 q60.2) q59)) (.nil)))))))) (.cons [(41, .slice (sla a c (n_).toNat 1) ((IntKind.i64.wrap (r2.2)).toNat - (n_).toNat) (c - (n_).toNat)), (44, .slice a ((n_).toNat) c)] rfl rfl (fun sL hL => ?_) (.nil))
      obtain ⟨q61, hF⟩ := hF
      obtain ⟨d2, q62⟩ : ∃ y_ : List Int, y_ = (cpy newslice (n_).toNat (newslice.take (min ((n_).toNat) ((IntKind.i64.wrap (r2.2)).toNat - (n_).toNat)))) := ⟨_, rfl⟩
      replace hF := hF d2 q62
      refine cpS (k := 0) (lo := (n_).toNat) (cnt := (min ((n_).toNat) ((IntKind.i64.wrap (r2.2)).toNat - (n_).toNat))) (news := flL (newslice.take (min ((n_).toNat) ((IntKind.i64.wrap (r2.2)).toNat - (n_).toNat)))) (cs' := flL d2) tS35 rfl rfl rfl (.inl rfl) rfl (Int.toNat_le.2 q60.2) (take_src rfl (srcV (k := 0) rfl (Int.toNat_le.2 q60.2))) (take_flen rfl q61.1) rfl (flL_one _) (by rw [q62]; exact flL_cpy _ _ _ rfl) rfl ?_
      have q63 : d2.length = (IntKind.i64.wrap (r2.2)).toNat := by rw [q62]; exact cpy_len q48 q61.2
      refine .cast (A' := [OwnSl 3 1 a ((IntKind.i64.wrap (r2.2)).toNat) c (flL d2)]) rfl ?_
      refine .nil ?_
      refine .ja (M := [3, 6, 1, 2, 4, 5]) (C' := [0, 8]) (pre := [(7, .int .i64 (((min ((n_).toNat) ((IntKind.i64.wrap (r2.2)).toNat - (n_).toNat)) : Nat) : Int)), (8, .int .i64 (IntKind.i64.wrap (n_ + (((min ((n_).toNat) ((IntKind.i64.wrap (r2.2)).toNat - (n_).toNat)) : Nat) : Int))))]) [(7, .slice a ((IntKind.i64.wrap (r2.2)).toNat) c), (8, .int .i64 n_)] [7, 8] hL rfl rfl rfl rfl rfl (.cons rfl (.cons rfl (.nil))) rfl rfl (by kernel_rfl) ?_
      refine .step [9] 9 rfl (by kernel_rfl) (by kernel_rfl) (.v [] rfl rfl rfl rfl rfl rfl (fun _ => mv rfl) (.v [(38, .int .i64 n_), (45, .int .i64 (((min ((n_).toNat) ((IntKind.i64.wrap (r2.2)).toNat - (n_).toNat)) : Nat) : Int))] rfl rfl rfl rfl rfl rfl (fun _ => bi rfl rfl rfl) (.nil))) (.cons [(46, .int .i64 (IntKind.i64.wrap (n_ + (((min ((n_).toNat) ((IntKind.i64.wrap (r2.2)).toNat - (n_).toNat)) : Nat) : Int)))), (45, .int .i64 (((min ((n_).toNat) ((IntKind.i64.wrap (r2.2)).toNat - (n_).toNat)) : Nat) : Int)), (38, .int .i64 n_), (39, .slice a ((IntKind.i64.wrap (r2.2)).toNat) c), (40, .int .i64 n_), (41, .slice (sla a c (n_).toNat 1) ((IntKind.i64.wrap (r2.2)).toNat - (n_).toNat) (c - (n_).toNat)), (42, .slice a ((IntKind.i64.wrap (r2.2)).toNat) c), (43, .int .i64 n_), (44, .slice a ((n_).toNat) c), (45, .int .i64 (((min ((n_).toNat) ((IntKind.i64.wrap (r2.2)).toNat - (n_).toNat)) : Nat) : Int)), (46, .int .i64 (IntKind.i64.wrap (n_ + (((min ((n_).toNat) ((IntKind.i64.wrap (r2.2)).toNat - (n_).toNat)) : Nat) : Int))))] rfl rfl (fun sL hL => ?_) (.nil))
      refine .v (asg rfl) rfl rfl rfl ?_
      refine .nil ?_
      refine .ja (M := [8, 0]) (C' := []) (pre := [(9, .int .i64 (IntKind.i64.wrap (n_ + (((min ((n_).toNat) ((IntKind.i64.wrap (r2.2)).toNat - (n_).toNat)) : Nat) : Int))))]) [(7, .slice a ((IntKind.i64.wrap (r2.2)).toNat) c)] [7] hL rfl rfl rfl rfl rfl (.cons rfl (.nil)) rfl rfl (by kernel_rfl) ?_
      refine .last [(38, .int .i64 n_), (39, .slice a ((IntKind.i64.wrap (r2.2)).toNat) c), (40, .int .i64 n_), (41, .slice (sla a c (n_).toNat 1) ((IntKind.i64.wrap (r2.2)).toNat - (n_).toNat) (c - (n_).toNat)), (42, .slice a ((IntKind.i64.wrap (r2.2)).toNat) c), (43, .int .i64 n_), (44, .slice a ((n_).toNat) c), (45, .int .i64 (((min ((n_).toNat) ((IntKind.i64.wrap (r2.2)).toNat - (n_).toNat)) : Nat) : Int)), (46, .int .i64 (IntKind.i64.wrap (n_ + (((min ((n_).toNat) ((IntKind.i64.wrap (r2.2)).toNat - (n_).toNat)) : Nat) : Int)))), (8, .int .i64 (IntKind.i64.wrap (n_ + (((min ((n_).toNat) ((IntKind.i64.wrap (r2.2)).toNat - (n_).toNat)) : Nat) : Int))))] rfl (by kernel_rfl) (.nil) rfl ?_
      refine .blkN ?_
      exact .round (IntKind.i64.wrap (n_ + (((min ((n_).toNat) ((IntKind.i64.wrap (r2.2)).toNat - (n_).toNat)) : Nat) : Int)), d2) ⟨hF.1, q63⟩ hF.2 (.cons rfl (.cons rfl (.nil))) rfl (FH.le_refl _)
    replace hF := hF.2 q58
    refine .exit ?_
    refine .seqX ?_
    refine .seqX ?_
    refine .blkX ?_
    refine .seqN ?_
    refine .seq ?_
    refine .region ?_
    refine .v (mv rfl) rfl rfl rfl ?_
    refine .v (asg rfl) rfl rfl rfl ?_
    refine .nil ?_
    refine .seqN ?_
    refine .ret ?_
    refine .res1 rfl (rvT rfl) (fun w' S => ⟨newslice, (a, c), h, hF, (by rw [q48]), (FH.le_refl _), trivial, (by rw [q48]; exact S.pick (k := 0) rfl)⟩)
  refine .region ?_
  refine .v (mv rfl) rfl rfl rfl ?_
  refine .v (bi rfl rfl rfl) rfl rfl rfl ?_
  refine .v (mv rfl) rfl rfl rfl ?_
  rcases Bool.eq_false_or_eq_true (decide (0 < r2.1)) with q64 | q64
  · replace hF := hF.1 q64
    refine .gS rfl rfl rfl q64 rfl rfl ?_
    refine .gS rfl rfl rfl q64 rfl rfl ?_
    refine .v (pkT rfl q64 rfl) rfl rfl rfl ?_
    refine .nil ?_
    exact .use q7 true hF (.cons rfl (.cons rfl (.cons rfl (.nil)))) rfl (FH.le_refl _)
  replace hF := hF.2 q64
  refine .gv (mv rfl) rfl rfl rfl q64 rfl rfl ?_
  refine .gv (bi rfl rfl rfl) rfl rfl rfl q64 rfl rfl ?_
  refine .v (pkF rfl q64 rfl) rfl rfl rfl ?_
  refine .nil ?_
  exact .use q7 (decide (9223372036854775807 < r2.2)) hF (.cons rfl (.cons rfl (.cons rfl (.nil)))) rfl (FH.le_refl _)

theorem c_repeat {h : FH} {w : World} (hs : Sub h w) (x : List Int) (ax : Option Addr) (cx : Nat) (_q1 : RSl h ax x) (_q2 : x.length ≤ cx) (count : Int) (hp : pre_repeat x count) : Calls Try.prog 38 #[.slice ax x.length cx, .int .i64 count] w fun e w' => ∃ (z : Option Addr × Nat) (h0 h1 : FH), e = .returned (.slice z.1 (sp_repeat x count).length z.2) ∧ (True) ∧ FH.le h h1 ∧ SH (Kp.all w h0) h1 w' [OwnSl 3 1 z.1 (sp_repeat x count).length z.2 (flL (sp_repeat x count))] :=
  (w_repeat hs x ax cx _q1 _q2 count (fun r => r = sp_repeat x count) (ok_repeat x count hp)).mono fun _ _ ⟨r, z, h1, hk, he, hl, hψ, hS⟩ => by subst hk; exact ⟨z, h, h1, he, hψ, hl, hS⟩

set_option maxHeartbeats 8000000 in
theorem w_bounds {h : FH} {w : World} (hs : Sub h w) (n_ : Network) (an_ : Option Addr) (cn_ : Nat) (_q1 : RSl h an_ n_.links) (_q2 : n_.links.length ≤ cn_) (K : (List (List Int)) → Prop) (hF : F_bounds n_ K) : Calls Try.prog 30 #[.agg #[.int .i64 n_.events, .slice an_ n_.links.length cn_]] w fun e w' => ∃ (r : List (List Int)) (z : Option Addr × Nat × List RowV) (h1 : FH), K r ∧ e = .returned (.slice z.1 r.length z.2.1) ∧ FH.le h h1 ∧ z.2.2.length = r.length ∧ SH (Kp.all w h) h1 w' (OwnSl 35 1 z.1 r.length z.2.1 (rowsV z.2.2 r) :: rowsA 3 z.2.2 r) := by
  refine enter (args := [.agg #[.int .i64 n_.events, .slice an_ n_.links.length cn_]]) Try.func30 rfl Try.ntmps30 rfl hs ?_
  refine .seq ?_
  refine .region ?_
  refine bx (vs := [.int .i64 n_.events, .slice an_ n_.links.length cn_]) rfl rfl rfl (fun pn => ?_)
  refine .v (asg rfl) rfl rfl rfl ?_
  refine .nil ?_
  refine .seqN ?_
  refine .seq ?_
  refine .region ?_
  refine .v (fa rfl tF24_0) rfl rfl rfl ?_
  refine .v (ld1 rfl tO3 (cellB (off := 0) (k := 0) rfl rfl)) rfl rfl rfl ?_
  obtain ⟨q3, hF⟩ := hF
  refine mk (m := (n_.events).toNat) (cs' := rowsV (List.replicate (n_.events).toNat (none, 0)) (List.replicate (n_.events).toNat ([] : List Int))) tS40 rfl rfl (Int.toNat_of_nonneg q3.1).symm q3.2.1 q3.2.2 (rowsV_nil _).symm rfl (fun a c => ?_)
  refine .nilRows (α := Int) 3 (n_.events).toNat ?_
  have q4 : (List.replicate (n_.events).toNat ([] : List Int) : List (List Int)).length = (n_.events).toNat := List.length_replicate
  have q5 : (List.replicate (n_.events).toNat (none, 0) : List RowV).length = (List.replicate (n_.events).toNat ([] : List Int) : List (List Int)).length := by rw [List.length_replicate, List.length_replicate]
  refine .cast (A' := ([OwnSl 35 1 a ((n_.events).toNat) c (rowsV (List.replicate (n_.events).toNat (none, 0) : List RowV) (List.replicate (n_.events).toNat ([] : List Int) : List (List Int))), Box pn [.int .i64 n_.events, .slice an_ n_.links.length cn_]] ++ rowsA 3 (List.replicate (n_.events).toNat (none, 0) : List RowV) (List.replicate (n_.events).toNat ([] : List Int) : List (List Int)))) rfl ?_
  refine .v (asg rfl) rfl rfl rfl ?_
  refine .nil ?_
  refine .seqN ?_
  refine .seq ?_
  refine .seq ?_
  refine .region ?_
  refine .v (mv rfl) rfl rfl rfl ?_
  refine .v (ln rfl tS40.is) rfl rfl rfl ?_
  refine .v (mv rfl) rfl rfl rfl ?_
  refine .nil ?_
  refine .seqN ?_
  refine .block ?_
  refine .sel (L := [OwnSl 35 1 a ((n_.events).toNat) c (rowsV (List.replicate (n_.events).toNat (none, 0) : List RowV) (List.replicate (n_.events).toNat ([] : List Int) : List (List Int))), Box pn [.int .i64 n_.events, .slice an_ n_.links.length cn_]]) (L' := [Box pn [.int .i64 n_.events, .slice an_ n_.links.length cn_], OwnSl 35 1 a ((n_.events).toNat) c (rowsV (List.replicate (n_.events).toNat (none, 0) : List RowV) (List.replicate (n_.events).toNat ([] : List Int) : List (List Int)))]) [1, 0] rfl (by decide) rfl rfl ?_
  obtain ⟨I1, μ1, q86, q87⟩ := hF
  refine .loop' (σ := Int × List (List Int) × List RowV) (fun z => I1 z.1 z.2.1 ∧ z.2.1.length = (n_.events).toNat ∧ z.2.2.length = z.2.1.length) (fun z => μ1 z.1 z.2.1) (fun z => [(1, .pointer (some pn)), (3, .slice a ((n_.events).toNat) c), (11, .int .i64 (((n_.events).toNat : Nat) : Int)), (12, .int .i64 z.1)]) (fun z => ([Box pn [.int .i64 n_.events, .slice an_ n_.links.length cn_], OwnSl 35 1 a ((n_.events).toNat) c (rowsV z.2.2 z.2.1)] ++ rowsA 3 z.2.2 z.2.1)) (fun _ => h) (0, (List.replicate (n_.events).toNat ([] : List Int) : List (List Int)), (List.replicate (n_.events).toNat (none, 0) : List RowV)) ⟨q86, q4, q5⟩ (.cons rfl (.cons rfl (.cons rfl (.cons rfl (.nil))))) rfl (FH.le_refl _) ?_
  rintro ⟨t12, d, vd⟩ ⟨q86, q46, q47⟩
  have hF := q87 t12 d q86
  show J _ _ _ _ _ [(1, .pointer (some pn)), (3, .slice a ((n_.events).toNat) c), (11, .int .i64 (((n_.events).toNat : Nat) : Int)), (12, .int .i64 t12)] ([Box pn [.int .i64 n_.events, .slice an_ n_.links.length cn_], OwnSl 35 1 a ((n_.events).toNat) c (rowsV vd d)] ++ rowsA 3 vd d) h
  refine .seq ?_
  refine .region ?_
  refine .v (bi rfl rfl rfl) rfl rfl rfl ?_
  refine .nil ?_
  refine .seqN ?_
  refine .seq ?_
  refine .cond rfl (fun q89 => ?_) (fun q89 => ?_)
  · replace hF := hF.1 q89
    refine .skip ?_
    refine .seqN ?_
    refine .seq ?_
    refine .block ?_
    refine .seq ?_
    refine .region ?_
    refine .v (mv rfl) rfl rfl rfl ?_
    refine .v (asg rfl) rfl rfl rfl ?_
    refine .nil ?_
    refine .seqN ?_
    refine .seq ?_
    refine .region ?_
    refine .v (mv rfl) rfl rfl rfl ?_
    refine .v (mv rfl) rfl rfl rfl ?_
    refine bs2 (cs := #[.int .i64 1000000000]) (pv := [(0, .int .i64 1000000000)]) tS35 rfl rfl (by decide) (by decide) rfl rfl rfl (fun a2 _ => ?_)
    refine .cast (A' := ([OwnSl 3 1 a2 (([1000000000] : List Int).length) 1 (flL ([1000000000] : List Int)), Box pn [.int .i64 n_.events, .slice an_ n_.links.length cn_], OwnSl 35 1 a ((n_.events).toNat) c (rowsV vd d)] ++ rowsA 3 vd d)) rfl ?_
    refine .v (fa rfl tF24_0) rfl rfl rfl ?_
    refine .v (ld1 rfl tO3 (cellB (off := 0) (k := 1) rfl rfl)) rfl rfl rfl ?_
    obtain ⟨q108, hF⟩ := hF
    obtain ⟨r2, q109⟩ : ∃ y_ : List Int, y_ = sp_repeat ([1000000000] : List Int) n_.events := ⟨_, rfl⟩
    replace hF := hF r2 q109
    refine clO (α := Option Addr × Nat) (V := fun z => .slice z.1 r2.length z.2) (Ψ := fun z => True) (B := fun z => [OwnSl 3 1 z.1 r2.length z.2 (flL r2)]) Try.call38 rfl rfl (fun w S => (by rw [q109]; obtain ⟨h_, hl_, hs_, hne_, hr_⟩ := look S (k := 0) rfl; exact (c_repeat hs_ ([1000000000] : List Int) a2 1 (RSl.of hr_) (look_len S (k := 0) rfl) n_.events q108).mono fun _ _ ⟨z, h0, h1, e1, e2, e3, e4⟩ => ⟨z, h0, h1, e1, e2, FH.le_trans hl_ e3, e4⟩)) rfl (fun z _ => ?_)
    obtain ⟨a3, c2⟩ := z
    refine .cast (A' := ([OwnSl 3 1 a3 r2.length c2 (flL r2), OwnSl 3 1 a2 (([1000000000] : List Int).length) 1 (flL ([1000000000] : List Int)), Box pn [.int .i64 n_.events, .slice an_ n_.links.length cn_], OwnSl 35 1 a ((n_.events).toNat) c (rowsV vd d)] ++ rowsA 3 vd d)) rfl ?_
    obtain ⟨q110, hF⟩ := hF
    refine .v (ixS rfl rfl tS40 (k := 3) rfl (inb_n q110 q46)) rfl rfl rfl ?_
    obtain ⟨d3, q111⟩ : ∃ y_ : List (List Int), y_ = (d.set (t12).toNat r2) := ⟨_, rfl⟩
    replace hF := hF d3 q111
    refine stS (k := 3) (cs' := rowsV (vd.set (t12).toNat (a3, c2)) d3) rfl (fun _ => rfl) rfl rfl (fun w => (tO35 w).2) rfl rfl rfl (by rw [← q46]; exact inb_pos q110) (rowsV_room q47 q110) (by rw [q111]; exact rowsV_put' (v := (a3, c2)) q47 q110 rfl) ?_
    have q112 : d3.length = (n_.events).toNat := by rw [q111]; exact List.length_set.trans q46
    have q113 : ((vd.set (t12).toNat (a3, c2))).length = d3.length := by rw [q111]; exact List.length_set.trans (q47.trans List.length_set.symm)
    refine .cast (A' := [OwnSl 3 1 a3 r2.length c2 (flL r2), OwnSl 3 1 a2 (([1000000000] : List Int).length) 1 (flL ([1000000000] : List Int)), Box pn [.int .i64 n_.events, .slice an_ n_.links.length cn_], OwnSl 35 1 a ((n_.events).toNat) c (rowsV (vd.set (t12).toNat (a3, c2)) d3)] ++ rowsA 3 vd d) rfl ?_
    refine .moveAt 0 ((t12).toNat + 4) rfl ?_
    refine .cast (A' := ([tru, OwnSl 3 1 a2 (([1000000000] : List Int).length) 1 (flL ([1000000000] : List Int)), Box pn [.int .i64 n_.events, .slice an_ n_.links.length cn_], OwnSl 35 1 a ((n_.events).toNat) c (rowsV (vd.set (t12).toNat (a3, c2)) d3)] ++ rowsA 3 (vd.set (t12).toNat (a3, c2)) d3)) (by rw [q111]; exact (matPut (L := [OwnSl 3 1 a3 r2.length c2 (flL r2), OwnSl 3 1 a2 (([1000000000] : List Int).length) 1 (flL ([1000000000] : List Int)), Box pn [.int .i64 n_.events, .slice an_ n_.links.length cn_], OwnSl 35 1 a ((n_.events).toNat) c (rowsV (vd.set (t12).toNat (a3, c2)) (d.set (t12).toNat r2))]) (q := 0) (v := (a3, c2)) q47 q110 (by simp)).trans rfl) ?_
    refine .nil ?_
    refine .seqN ?_
    refine .seq ?_
    refine .region ?_
    refine .v (mv rfl) rfl rfl rfl ?_
    refine .v (mv rfl) rfl rfl rfl ?_
    obtain ⟨q114, hF⟩ := hF
    refine .v (ixS rfl rfl tS40 (k := 3) rfl (inb_n q114 q112)) rfl rfl rfl ?_
    refine .v (ld1 (v := .slice ((gt (vd.set (t12).toNat (a3, c2)) t12).1) ((gt d3 t12).length) ((gt (vd.set (t12).toNat (a3, c2)) t12).2)) rfl tO35 (cell1 (k := 3) rfl (rowsV_get (gt_get (inb_of q113 q114)) (gt_get q114)))) rfl rfl rfl ?_
    obtain ⟨q115, hF⟩ := hF
    refine .v (ixS rfl rfl tS35 (k := (t12).toNat + 4) (rowsA_get (gt_get (inb_of q113 q114)) (gt_get q114)) q115) rfl rfl rfl ?_
    obtain ⟨d4, q116⟩ : ∃ y_ : List (List Int), y_ = (d3.set (t12).toNat ((gt d3 t12).set ((0 : Int)).toNat 0)) := ⟨_, rfl⟩
    replace hF := hF d4 q116
    refine stS (k := (t12).toNat + 4) (cs' := flL ((gt d3 t12).set ((0 : Int)).toNat 0)) rfl (fun _ => rfl) rfl rfl (fun w => (tO3 w).2) rfl rfl (rowsA_get (gt_get (inb_of q113 q114)) (gt_get q114)) (inb_pos q115) (fl_room q115) (flL_set q115 _) ?_
    have q117 : d4.length = (n_.events).toNat := by rw [q116]; exact List.length_set.trans q112
    have q118 : ((vd.set (t12).toNat (a3, c2))).length = d4.length := by rw [q116]; exact q113.trans List.length_set.symm
    refine .cast (A' := ([tru, OwnSl 3 1 a2 (([1000000000] : List Int).length) 1 (flL ([1000000000] : List Int)), Box pn [.int .i64 n_.events, .slice an_ n_.links.length cn_], OwnSl 35 1 a ((n_.events).toNat) c (rowsV (vd.set (t12).toNat (a3, c2)) d4)] ++ rowsA 3 (vd.set (t12).toNat (a3, c2)) d4)) (by rw [q116]; exact matSet (L := [tru, OwnSl 3 1 a2 (([1000000000] : List Int).length) 1 (flL ([1000000000] : List Int)), Box pn [.int .i64 n_.events, .slice an_ n_.links.length cn_], OwnSl 35 1 a ((n_.events).toNat) c (rowsV (vd.set (t12).toNat (a3, c2)) d3)]) (k := 3) q113 q114 List.length_set rfl) ?_
    refine .nil ?_
    refine .seqN ?_
    refine .region ?_
    refine .v (mv rfl) rfl rfl rfl ?_
    refine .v (mv rfl) rfl rfl rfl ?_
    obtain ⟨q119, hF⟩ := hF
    refine .v (ixS rfl rfl tS40 (k := 3) rfl (inb_n q119 q117)) rfl rfl rfl ?_
    refine .v (ld1 (v := .slice ((gt (vd.set (t12).toNat (a3, c2)) t12).1) ((gt d4 t12).length) ((gt (vd.set (t12).toNat (a3, c2)) t12).2)) rfl tO35 (cell1 (k := 3) rfl (rowsV_get (gt_get (inb_of q118 q119)) (gt_get q119)))) rfl rfl rfl ?_
    refine .v (mv rfl) rfl rfl rfl ?_
    obtain ⟨q120, hF⟩ := hF
    refine .v (ixS rfl rfl tS35 (k := (t12).toNat + 4) (rowsA_get (gt_get (inb_of q118 q119)) (gt_get q119)) q120) rfl rfl rfl ?_
    obtain ⟨d5, q121⟩ : ∃ y_ : List (List Int), y_ = (d4.set (t12).toNat ((gt d4 t12).set (t12).toNat 0)) := ⟨_, rfl⟩
    replace hF := hF d5 q121
    refine stS (k := (t12).toNat + 4) (cs' := flL ((gt d4 t12).set (t12).toNat 0)) rfl (fun _ => rfl) rfl rfl (fun w => (tO3 w).2) rfl rfl (rowsA_get (gt_get (inb_of q118 q119)) (gt_get q119)) (inb_pos q120) (fl_room q120) (flL_set q120 _) ?_
    have q122 : d5.length = (n_.events).toNat := by rw [q121]; exact List.length_set.trans q117
    have q123 : ((vd.set (t12).toNat (a3, c2))).length = d5.length := by rw [q121]; exact q118.trans List.length_set.symm
    refine .cast (A' := ([tru, OwnSl 3 1 a2 (([1000000000] : List Int).length) 1 (flL ([1000000000] : List Int)), Box pn [.int .i64 n_.events, .slice an_ n_.links.length cn_], OwnSl 35 1 a ((n_.events).toNat) c (rowsV (vd.set (t12).toNat (a3, c2)) d5)] ++ rowsA 3 (vd.set (t12).toNat (a3, c2)) d5)) (by rw [q121]; exact matSet (L := [tru, OwnSl 3 1 a2 (([1000000000] : List Int).length) 1 (flL ([1000000000] : List Int)), Box pn [.int .i64 n_.events, .slice an_ n_.links.length cn_], OwnSl 35 1 a ((n_.events).toNat) c (rowsV (vd.set (t12).toNat (a3, c2)) d4)]) (k := 3) q118 q119 List.length_set rfl) ?_
    refine .nil ?_
    refine .blkN ?_
    refine .seqN ?_
    refine .region ?_
    refine .v (bi rfl rfl rfl) rfl rfl rfl ?_
    refine .v (mv rfl) rfl rfl rfl ?_
    refine .nil ?_
    refine .sel (L := [tru, OwnSl 3 1 a2 (([1000000000] : List Int).length) 1 (flL ([1000000000] : List Int)), Box pn [.int .i64 n_.events, .slice an_ n_.links.length cn_], OwnSl 35 1 a ((n_.events).toNat) c (rowsV (vd.set (t12).toNat (a3, c2)) d5)]) (L' := [Box pn [.int .i64 n_.events, .slice an_ n_.links.length cn_], OwnSl 35 1 a ((n_.events).toNat) c (rowsV (vd.set (t12).toNat (a3, c2)) d5)]) [2, 3] rfl (by decide) rfl rfl ?_
    exact .round (IntKind.i64.wrap (t12 + 1), d5, (vd.set (t12).toNat (a3, c2))) ⟨hF.1, q122, q123⟩ hF.2 (.cons rfl (.cons rfl (.cons rfl (.cons rfl (.nil))))) rfl (FH.le_refl _)
  replace hF := hF.2 q89
  refine .exit ?_
  refine .seqX ?_
  refine .seqX ?_
  refine .blkX ?_
  refine .seqN ?_
  refine .seq ?_
  refine .seq ?_
  refine .region ?_
  refine .v (fa rfl tF24_1) rfl rfl rfl ?_
  refine .v (ld1 rfl tO22 (cellB (off := 1) (k := 0) rfl rfl)) rfl rfl rfl ?_
  refine .v (ln rfl tS22.is) rfl rfl rfl ?_
  refine .v (mv rfl) rfl rfl rfl ?_
  refine .nil ?_
  refine .seqN ?_
  refine .block ?_
  refine .sel (L := [Box pn [.int .i64 n_.events, .slice an_ n_.links.length cn_], OwnSl 35 1 a ((n_.events).toNat) c (rowsV vd d)]) (L' := [OwnSl 35 1 a ((n_.events).toNat) c (rowsV vd d)]) [1] rfl (by decide) rfl rfl ?_
  obtain ⟨I2, μ2, q188, q189⟩ := hF
  refine .loop' (σ := Int × List (List Int)) (fun z => I2 z.1 z.2 ∧ z.2.length = (n_.events).toNat ∧ vd.length = z.2.length) (fun z => μ2 z.1 z.2) (fun z => [(3, .slice a ((n_.events).toNat) c), (35, .slice an_ n_.links.length cn_), (36, .int .i64 ((n_.links.length : Nat) : Int)), (37, .int .i64 z.1)]) (fun z => ([OwnSl 35 1 a ((n_.events).toNat) c (rowsV vd z.2)] ++ rowsA 3 vd z.2)) (fun _ => h) (0, d) ⟨q188, q46, q47⟩ (.cons rfl (.cons rfl (.cons rfl (.cons rfl (.nil))))) rfl (FH.le_refl _) ?_
  rintro ⟨t37, d6⟩ ⟨q188, q156, q157⟩
  have hF := q189 t37 d6 q188
  show J _ _ _ _ _ [(3, .slice a ((n_.events).toNat) c), (35, .slice an_ n_.links.length cn_), (36, .int .i64 ((n_.links.length : Nat) : Int)), (37, .int .i64 t37)] ([OwnSl 35 1 a ((n_.events).toNat) c (rowsV vd d6)] ++ rowsA 3 vd d6) h
  refine .seq ?_
  refine .region ?_
  refine .v (bi rfl rfl rfl) rfl rfl rfl ?_
  refine .nil ?_
  refine .seqN ?_
  refine .seq ?_
  refine .cond rfl (fun q191 => ?_) (fun q191 => ?_)
  · replace hF := hF.1 q191
    refine .skip ?_
    refine .seqN ?_
    refine .seq ?_
    refine .block ?_
    refine .seq ?_
    refine .region ?_
    obtain ⟨q205, hF⟩ := hF
    refine .v (ix rfl rfl tS22 (_q1.ne (by decide) (inb_pos q205)) q205) rfl rfl rfl ?_
    refine .v (ldA (cs := [.int .i64 ((gt n_.links t37).src), .int .i64 ((gt n_.links t37).dst), .int .i64 ((gt n_.links t37).low), .int .i64 ((gt n_.links t37).high)]) rfl tA48 rfl (cellsH (_q1.elemF q205 (by decide)))) rfl rfl rfl ?_
    refine al tZ48 rfl (fun pl => ?_)
    refine st (p := pl) (off := 0) (k := 0) (vs := [.int .i64 ((gt n_.links t37).src), .int .i64 ((gt n_.links t37).dst), .int .i64 ((gt n_.links t37).low), .int .i64 ((gt n_.links t37).high)]) rfl rfl rfl (fun w => (tA48 w).2) rfl rfl rfl rfl ?_
    refine .cast (A' := ([Box pl [.int .i64 ((gt n_.links t37).src), .int .i64 ((gt n_.links t37).dst), .int .i64 ((gt n_.links t37).low), .int .i64 ((gt n_.links t37).high)], OwnSl 35 1 a ((n_.events).toNat) c (rowsV vd d6)] ++ rowsA 3 vd d6)) rfl ?_
    refine .nil ?_
    refine .seqN ?_
    refine .seq ?_
    refine .openL (by kernel_rfl) rfl (by kernel_rfl) (by kernel_rfl) ?_
    refine .v (mv rfl) rfl rfl rfl ?_
    refine .v (fa rfl tF48_0) rfl rfl rfl ?_
    refine .v (ld1 rfl tO3 (cellB (off := 0) (k := 0) rfl rfl)) rfl rfl rfl ?_
    obtain ⟨q206, hF⟩ := hF
    refine .v (ixS rfl rfl tS40 (k := 1) rfl (inb_n q206 q156)) rfl rfl rfl ?_
    refine .v (ld1 (v := .slice ((gt vd ((gt n_.links t37).src)).1) ((gt d6 ((gt n_.links t37).src)).length) ((gt vd ((gt n_.links t37).src)).2)) rfl tO35 (cell1 (k := 1) rfl (rowsV_get (gt_get (inb_of q157 q206)) (gt_get q206)))) rfl rfl rfl ?_
    refine .v (fa rfl tF48_1) rfl rfl rfl ?_
    refine .v (ld1 rfl tO3 (cellB (off := 1) (k := 0) rfl rfl)) rfl rfl rfl ?_
    refine .v (mv rfl) rfl rfl rfl ?_
    refine .v (fa rfl tF48_0) rfl rfl rfl ?_
    refine .v (ld1 rfl tO3 (cellB (off := 0) (k := 0) rfl rfl)) rfl rfl rfl ?_
    refine .v (ixS rfl rfl tS40 (k := 1) rfl (inb_n q206 q156)) rfl rfl rfl ?_
    refine .v (ld1 (v := .slice ((gt vd ((gt n_.links t37).src)).1) ((gt d6 ((gt n_.links t37).src)).length) ((gt vd ((gt n_.links t37).src)).2)) rfl tO35 (cell1 (k := 1) rfl (rowsV_get (gt_get (inb_of q157 q206)) (gt_get q206)))) rfl rfl rfl ?_
    refine .v (fa rfl tF48_1) rfl rfl rfl ?_
    refine .v (ld1 rfl tO3 (cellB (off := 1) (k := 0) rfl rfl)) rfl rfl rfl ?_
    obtain ⟨q207, hF⟩ := hF
    refine .v (ixS rfl rfl tS35 (k := ((gt n_.links t37).src).toNat + 2) (rowsA_get (gt_get (inb_of q157 q206)) (gt_get q206)) q207) rfl rfl rfl ?_
    refine .v (ld1 (v := .int .i64 (gt (gt d6 ((gt n_.links t37).src)) ((gt n_.links t37).dst))) rfl tO3 (cellS (k := ((gt n_.links t37).src).toNat + 2) (rowsA_get (gt_get (inb_of q157 q206)) (gt_get q206)) (flL_get q207 (j := 0) rfl))) rfl rfl rfl ?_
    refine .v (fa rfl tF48_3) rfl rfl rfl ?_
    refine .v (ld1 rfl tO3 (cellB (off := 3) (k := 0) rfl rfl)) rfl rfl rfl ?_
    obtain ⟨x, q208⟩ : ∃ y_ : Int, y_ = (if ((gt n_.links t37).high) < (gt (gt d6 ((gt n_.links t37).src)) ((gt n_.links t37).dst)) then ((gt n_.links t37).high) else (gt (gt d6 ((gt n_.links t37).src)) ((gt n_.links t37).dst))) := ⟨_, rfl⟩
    replace hF := hF x q208
    refine .v (v := .int .i64 x) (by rw [q208]; exact mn rfl rfl) rfl rfl rfl ?_
    refine .v (ixS rfl rfl tS35 (k := ((gt n_.links t37).src).toNat + 2) (rowsA_get (gt_get (inb_of q157 q206)) (gt_get q206)) q207) rfl rfl rfl ?_
    refine .tail ?_
    obtain ⟨d8, q209⟩ : ∃ y_ : List (List Int), y_ = (d6.set ((gt n_.links t37).src).toNat ((gt d6 ((gt n_.links t37).src)).set ((gt n_.links t37).dst).toNat x)) := ⟨_, rfl⟩
    replace hF := hF d8 q209
    refine stS (k := ((gt n_.links t37).src).toNat + 2) (cs' := flL ((gt d6 ((gt n_.links t37).src)).set ((gt n_.links t37).dst).toNat x)) rfl (fun _ => rfl) rfl rfl (fun w => (tO3 w).2) rfl rfl (rowsA_get (gt_get (inb_of q157 q206)) (gt_get q206)) (inb_pos q207) (fl_room q207) (flL_set q207 _) ?_
    have q210 : d8.length = (n_.events).toNat := by rw [q209]; exact List.length_set.trans q156
    have q211 : (vd).length = d8.length := by rw [q209]; exact q157.trans List.length_set.symm
    refine .cast (A' := ([Box pl [.int .i64 ((gt n_.links t37).src), .int .i64 ((gt n_.links t37).dst), .int .i64 ((gt n_.links t37).low), .int .i64 ((gt n_.links t37).high)], OwnSl 35 1 a ((n_.events).toNat) c (rowsV vd d8)] ++ rowsA 3 vd d8)) (by rw [q209]; exact matSet (L := [Box pl [.int .i64 ((gt n_.links t37).src), .int .i64 ((gt n_.links t37).dst), .int .i64 ((gt n_.links t37).low), .int .i64 ((gt n_.links t37).high)], OwnSl 35 1 a ((n_.events).toNat) c (rowsV vd d6)]) (k := 1) q157 q206 List.length_set rfl) ?_
    refine .nil ?_
    refine .seqN ?_
    refine .openL (by kernel_rfl) rfl (by kernel_rfl) (by kernel_rfl) ?_
    refine .v (mv rfl) rfl rfl rfl ?_
    refine .v (fa rfl tF48_1) rfl rfl rfl ?_
    refine .v (ld1 rfl tO3 (cellB (off := 1) (k := 0) rfl rfl)) rfl rfl rfl ?_
    obtain ⟨q212, hF⟩ := hF
    refine .v (ixS rfl rfl tS40 (k := 1) rfl (inb_n q212 q210)) rfl rfl rfl ?_
    refine .v (ld1 (v := .slice ((gt vd ((gt n_.links t37).dst)).1) ((gt d8 ((gt n_.links t37).dst)).length) ((gt vd ((gt n_.links t37).dst)).2)) rfl tO35 (cell1 (k := 1) rfl (rowsV_get (gt_get (inb_of q211 q212)) (gt_get q212)))) rfl rfl rfl ?_
    refine .v (fa rfl tF48_0) rfl rfl rfl ?_
    refine .v (ld1 rfl tO3 (cellB (off := 0) (k := 0) rfl rfl)) rfl rfl rfl ?_
    refine .v (mv rfl) rfl rfl rfl ?_
    refine .v (fa rfl tF48_1) rfl rfl rfl ?_
    refine .v (ld1 rfl tO3 (cellB (off := 1) (k := 0) rfl rfl)) rfl rfl rfl ?_
    refine .v (ixS rfl rfl tS40 (k := 1) rfl (inb_n q212 q210)) rfl rfl rfl ?_
    refine .v (ld1 (v := .slice ((gt vd ((gt n_.links t37).dst)).1) ((gt d8 ((gt n_.links t37).dst)).length) ((gt vd ((gt n_.links t37).dst)).2)) rfl tO35 (cell1 (k := 1) rfl (rowsV_get (gt_get (inb_of q211 q212)) (gt_get q212)))) rfl rfl rfl ?_
    refine .v (fa rfl tF48_0) rfl rfl rfl ?_
    refine .v (ld1 rfl tO3 (cellB (off := 0) (k := 0) rfl rfl)) rfl rfl rfl ?_
    obtain ⟨q213, hF⟩ := hF
    refine .v (ixS rfl rfl tS35 (k := ((gt n_.links t37).dst).toNat + 2) (rowsA_get (gt_get (inb_of q211 q212)) (gt_get q212)) q213) rfl rfl rfl ?_
    refine .v (ld1 (v := .int .i64 (gt (gt d8 ((gt n_.links t37).dst)) ((gt n_.links t37).src))) rfl tO3 (cellS (k := ((gt n_.links t37).dst).toNat + 2) (rowsA_get (gt_get (inb_of q211 q212)) (gt_get q212)) (flL_get q213 (j := 0) rfl))) rfl rfl rfl ?_
    refine .v (fa rfl tF48_2) rfl rfl rfl ?_
    refine .v (ld1 rfl tO3 (cellB (off := 2) (k := 0) rfl rfl)) rfl rfl rfl ?_
    refine .v (un rfl) rfl rfl rfl ?_
    obtain ⟨x2, q214⟩ : ∃ y_ : Int, y_ = (if (IntKind.i64.wrap (0 - ((gt n_.links t37).low))) < (gt (gt d8 ((gt n_.links t37).dst)) ((gt n_.links t37).src)) then (IntKind.i64.wrap (0 - ((gt n_.links t37).low))) else (gt (gt d8 ((gt n_.links t37).dst)) ((gt n_.links t37).src))) := ⟨_, rfl⟩
    replace hF := hF x2 q214
    refine .v (v := .int .i64 x2) (by rw [q214]; exact mn rfl rfl) rfl rfl rfl ?_
    refine .v (ixS rfl rfl tS35 (k := ((gt n_.links t37).dst).toNat + 2) (rowsA_get (gt_get (inb_of q211 q212)) (gt_get q212)) q213) rfl rfl rfl ?_
    refine .tail ?_
    obtain ⟨d9, q215⟩ : ∃ y_ : List (List Int), y_ = (d8.set ((gt n_.links t37).dst).toNat ((gt d8 ((gt n_.links t37).dst)).set ((gt n_.links t37).src).toNat x2)) := ⟨_, rfl⟩
    replace hF := hF d9 q215
    refine stS (k := ((gt n_.links t37).dst).toNat + 2) (cs' := flL ((gt d8 ((gt n_.links t37).dst)).set ((gt n_.links t37).src).toNat x2)) rfl (fun _ => rfl) rfl rfl (fun w => (tO3 w).2) rfl rfl (rowsA_get (gt_get (inb_of q211 q212)) (gt_get q212)) (inb_pos q213) (fl_room q213) (flL_set q213 _) ?_
    have q216 : d9.length = (n_.events).toNat := by rw [q215]; exact List.length_set.trans q210
    have q217 : (vd).length = d9.length := by rw [q215]; exact q211.trans List.length_set.symm
    refine .cast (A' := ([Box pl [.int .i64 ((gt n_.links t37).src), .int .i64 ((gt n_.links t37).dst), .int .i64 ((gt n_.links t37).low), .int .i64 ((gt n_.links t37).high)], OwnSl 35 1 a ((n_.events).toNat) c (rowsV vd d9)] ++ rowsA 3 vd d9)) (by rw [q215]; exact matSet (L := [Box pl [.int .i64 ((gt n_.links t37).src), .int .i64 ((gt n_.links t37).dst), .int .i64 ((gt n_.links t37).low), .int .i64 ((gt n_.links t37).high)], OwnSl 35 1 a ((n_.events).toNat) c (rowsV vd d8)]) (k := 1) q211 q212 List.length_set rfl) ?_
    refine .nil ?_
    refine .blkN ?_
    refine .seqN ?_
    refine .region ?_
    refine .v (bi rfl rfl rfl) rfl rfl rfl ?_
    refine .v (mv rfl) rfl rfl rfl ?_
    refine .nil ?_
    refine .sel (L := [Box pl [.int .i64 ((gt n_.links t37).src), .int .i64 ((gt n_.links t37).dst), .int .i64 ((gt n_.links t37).low), .int .i64 ((gt n_.links t37).high)], OwnSl 35 1 a ((n_.events).toNat) c (rowsV vd d9)]) (L' := [OwnSl 35 1 a ((n_.events).toNat) c (rowsV vd d9)]) [1] rfl (by decide) rfl rfl ?_
    exact .round (IntKind.i64.wrap (t37 + 1), d9) ⟨hF.1, q216, q217⟩ hF.2 (.cons rfl (.cons rfl (.cons rfl (.cons rfl (.nil))))) rfl (FH.le_refl _)
  replace hF := hF.2 q191
  refine .exit ?_
  refine .seqX ?_
  refine .seqX ?_
  refine .blkX ?_
  refine .seqN ?_
  refine .seq ?_
  refine .region ?_
  refine .v (mv rfl) rfl rfl rfl ?_
  refine .v (asg rfl) rfl rfl rfl ?_
  refine .nil ?_
  refine .seqN ?_
  refine .ret ?_
  refine .res1 rfl (rvT rfl) (fun w' S => ⟨d6, (a, c, vd), h, hF, (by rw [q156]), (FH.le_refl _), q157, (by rw [q156]; exact SH.pickM (A := [OwnSl 35 1 a ((n_.events).toNat) c (rowsV vd d6)]) (k := 0) S rfl)⟩)

theorem c_bounds {h : FH} {w : World} (hs : Sub h w) (n_ : Network) (an_ : Option Addr) (cn_ : Nat) (_q1 : RSl h an_ n_.links) (_q2 : n_.links.length ≤ cn_) (hp : pre_bounds n_) : Calls Try.prog 30 #[.agg #[.int .i64 n_.events, .slice an_ n_.links.length cn_]] w fun e w' => ∃ (z : Option Addr × Nat × List RowV) (h0 h1 : FH), e = .returned (.slice z.1 (sp_bounds n_).length z.2.1) ∧ (z.2.2.length = (sp_bounds n_).length) ∧ FH.le h h1 ∧ SH (Kp.all w h0) h1 w' (OwnSl 35 1 z.1 (sp_bounds n_).length z.2.1 (rowsV z.2.2 (sp_bounds n_)) :: rowsA 3 z.2.2 (sp_bounds n_)) :=
  (w_bounds hs n_ an_ cn_ _q1 _q2 (fun r => r = sp_bounds n_) (ok_bounds n_ hp)).mono fun _ _ ⟨r, z, h1, hk, he, hl, hψ, hS⟩ => by subst hk; exact ⟨z, h, h1, he, hψ, hl, hS⟩

theorem w_min_ {h : FH} {w : World} (hs : Sub h w) (x : List Int) (ax : Option Addr) (cx : Nat) (_q1 : RSl h ax x) (_q2 : x.length ≤ cx) (K : Int → Prop) (hF : F_min_ x K) : Calls Try.prog 33 #[.slice ax x.length cx] w fun e w' => ∃ r : Int, K r ∧ e = .returned (.int .i64 r) ∧ Below w.heap.size w w' := by
  refine enter (args := [.slice ax x.length cx]) Try.func33 rfl Try.ntmps33 rfl hs ?_
  refine .seq ?_
  refine .region ?_
  refine .v (asg rfl) rfl rfl rfl ?_
  refine .nil ?_
  refine .seqN ?_
  refine .seq ?_
  refine .seq ?_
  refine .region ?_
  refine .v (mv rfl) rfl rfl rfl ?_
  refine .v (ln rfl tS35.is) rfl rfl rfl ?_
  refine .v (bi rfl rfl rfl) rfl rfl rfl ?_
  refine .nil ?_
  refine .seqN ?_
  refine .cond rfl (fun q3 => ?_) (fun q3 => ?_)
  · replace hF := hF.1 q3
    exact hF.elim
  replace hF := hF.2 q3
  refine .skip ?_
  refine .seqN ?_
  refine .seq ?_
  refine .region ?_
  refine .v (mv rfl) rfl rfl rfl ?_
  obtain ⟨q4, hF⟩ := hF
  refine .v (ix rfl rfl tS35 (_q1.ne (by decide) (inb_pos q4)) q4) rfl rfl rfl ?_
  refine .v (ld1 (v := .int .i64 (gt x (0 : Int))) rfl tO3 (cellH (_q1.elemF q4 (by decide) 0 _ rfl))) rfl rfl rfl ?_
  refine .v (asg rfl) rfl rfl rfl ?_
  refine .nil ?_
  refine .seqN ?_
  refine .seq ?_
  refine .seq ?_
  refine .region ?_
  refine .v (asg rfl) rfl rfl rfl ?_
  refine .nil ?_
  refine .seqN ?_
  refine .block ?_
  obtain ⟨I1, μ1, q13, q14⟩ := hF
  refine .loop' (σ := Int × Int) (fun z => I1 z.1 z.2) (fun z => μ1 z.1 z.2) (fun z => [(0, .slice ax x.length cx), (3, .int .i64 z.1), (4, .int .i64 z.2)]) (fun _ => []) (fun _ => h) ((gt x (0 : Int)), 1) q13 (.cons rfl (.cons rfl (.cons rfl (.nil)))) rfl (FH.le_refl _) ?_
  rintro ⟨m, i⟩ q13
  have hF := q14 m i q13
  show J _ _ _ _ _ [(0, .slice ax x.length cx), (3, .int .i64 m), (4, .int .i64 i)] [] h
  refine .seq ?_
  refine .seq ?_
  refine .region ?_
  refine .v (mv rfl) rfl rfl rfl ?_
  refine .v (mv rfl) rfl rfl rfl ?_
  refine .v (ln rfl tS35.is) rfl rfl rfl ?_
  refine .v (bi rfl rfl rfl) rfl rfl rfl ?_
  refine .nil ?_
  refine .seqN ?_
  refine .cond rfl (fun q15 => ?_) (fun q15 => ?_)
  · replace hF := hF.1 q15
    refine .skip ?_
    refine .seqN ?_
    refine .seq ?_
    refine .block ?_
    refine .region ?_
    refine .v (mv rfl) rfl rfl rfl ?_
    refine .v (mv rfl) rfl rfl rfl ?_
    refine .v (mv rfl) rfl rfl rfl ?_
    obtain ⟨q17, hF⟩ := hF
    refine .v (ix rfl rfl tS35 (_q1.ne (by decide) (inb_pos q17)) q17) rfl rfl rfl ?_
    refine .v (ld1 (v := .int .i64 (gt x i)) rfl tO3 (cellH (_q1.elemF q17 (by decide) 0 _ rfl))) rfl rfl rfl ?_
    refine .v (mn rfl rfl) rfl rfl rfl ?_
    refine .v (asg rfl) rfl rfl rfl ?_
    refine .nil ?_
    refine .blkN ?_
    refine .seqN ?_
    refine .region ?_
    refine .v (mv rfl) rfl rfl rfl ?_
    refine .v (bi rfl rfl rfl) rfl rfl rfl ?_
    refine .v (asg rfl) rfl rfl rfl ?_
    refine .nil ?_
    exact .round ((if (gt x i) < m then (gt x i) else m), IntKind.i64.wrap (i + 1)) hF.1 hF.2 (.cons rfl (.cons rfl (.cons rfl (.nil)))) rfl (FH.le_refl _)
  replace hF := hF.2 q15
  refine .exit ?_
  refine .seqX ?_
  refine .seqX ?_
  refine .blkX ?_
  refine .seqN ?_
  refine .seq ?_
  refine .region ?_
  refine .v (mv rfl) rfl rfl rfl ?_
  refine .v (asg rfl) rfl rfl rfl ?_
  refine .nil ?_
  refine .seqN ?_
  refine .ret ?_
  refine .res1 rfl (rvT rfl) (fun w' S => ⟨m, hF, rfl, S.below⟩)

theorem c_min_ {h : FH} {w : World} (hs : Sub h w) (x : List Int) (ax : Option Addr) (cx : Nat) (_q1 : RSl h ax x) (_q2 : x.length ≤ cx) (hp : pre_min_ x) : Calls Try.prog 33 #[.slice ax x.length cx] w fun e w' => e = .returned (.int .i64 (sp_min_ x)) ∧ Below w.heap.size w w' :=
  (w_min_ hs x ax cx _q1 _q2 (fun r => r = sp_min_ x) (ok_min_ x hp)).mono fun _ _ ⟨_, hk, he, hb⟩ => ⟨by rw [he, hk], hb⟩

theorem w_tighten1 {h : FH} {w : World} (hs : Sub h w) (row : List Int) (arow : Option Addr) (crow : Nat) (_q1 : RSl h arow row) (_q2 : row.length ≤ crow) (K : Bool → Prop) (hF : F_tighten1 row K) : Calls Try.prog 32 #[.slice arow row.length crow] w fun e w' => ∃ r : Bool, K r ∧ e = .returned (.bool r) ∧ Below w.heap.size w w' := by
  refine enter (args := [.slice arow row.length crow]) Try.func32 rfl Try.ntmps32 rfl hs ?_
  refine .seq ?_
  refine .region ?_
  refine .v (asg rfl) rfl rfl rfl ?_
  refine .nil ?_
  refine .seqN ?_
  refine .seq ?_
  refine .region ?_
  refine .v (mv rfl) rfl rfl rfl ?_
  obtain ⟨q3, hF⟩ := hF
  obtain ⟨r2, q4⟩ : ∃ y_ : Int, y_ = sp_min_ row := ⟨_, rfl⟩
  replace hF := hF r2 q4
  refine .c (cl (v := .int .i64 r2) Try.call33 rfl rfl (fun w S => (by rw [q4]; exact c_min_ S.sub row arow crow _q1 _q2 q3))) rfl rfl rfl ?_
  refine .v (bi rfl rfl rfl) rfl rfl rfl ?_
  refine .v (asg rfl) rfl rfl rfl ?_
  refine .nil ?_
  refine .seqN ?_
  refine .ret ?_
  refine .res1 rfl (rvT rfl) (fun w' S => ⟨decide (r2 < (-1000000)), hF, rfl, S.below⟩)

theorem c_tighten1 {h : FH} {w : World} (hs : Sub h w) (row : List Int) (arow : Option Addr) (crow : Nat) (_q1 : RSl h arow row) (_q2 : row.length ≤ crow) (hp : pre_tighten1 row) : Calls Try.prog 32 #[.slice arow row.length crow] w fun e w' => e = .returned (.bool (sp_tighten1 row)) ∧ Below w.heap.size w w' :=
  (w_tighten1 hs row arow crow _q1 _q2 (fun r => r = sp_tighten1 row) (ok_tighten1 row hp)).mono fun _ _ ⟨_, hk, he, hb⟩ => ⟨by rw [he, hk], hb⟩

theorem w_indexR {h : FH} {w : World} (hs : Sub h w) (s_ : List (List Int)) (as_ : Option Addr) (cs_ : Nat) (_q1 : RSl h as_ s_) (_q2 : s_.length ≤ cs_) (pf : (List Int) → Bool) (Df : (List Int) → Prop) (ff : FuncId) (firstf capsf : Array Value) (hff : ∀ args w, (callFunc ff args).run Try.prog w = .ok (.enter ff args) w) (hpf : ∀ (x : List Int) (a : Option Addr) (c : Nat), RSl h a x → x.length ≤ c → ∀ (w' : World), Df x → Sub h w' → Calls Try.prog ff (firstf.toList ++ [(.slice a x.length c : Value)] ++ capsf.toList).toArray w' fun e w'' => e = .returned (.bool (pf x)) ∧ Below w'.heap.size w' w'') (K : Int → Prop) (hF : F_indexR s_ pf Df K) : Calls Try.prog 39 #[.slice as_ s_.length cs_, .func (.func ff) firstf capsf] w fun e w' => ∃ r : Int, K r ∧ e = .returned (.int .i64 r) ∧ Below w.heap.size w w' := by
  refine enter (args := [.slice as_ s_.length cs_, .func (.func ff) firstf capsf]) Try.func39 rfl Try.ntmps39 rfl hs ?_
  refine .seq ?_
  refine .region ?_
  refine .v (asg rfl) rfl rfl rfl ?_
  refine .nil ?_
  refine .seqN ?_
  refine .seq ?_
  refine .seq ?_
  refine .region ?_
  refine .v (mv rfl) rfl rfl rfl ?_
  refine .v (ln rfl tS40.is) rfl rfl rfl ?_
  refine .v (mv rfl) rfl rfl rfl ?_
  refine .nil ?_
  refine .seqN ?_
  refine .block ?_
  obtain ⟨I1, μ1, q35, q36⟩ := hF
  refine .loop' (σ := Int) (fun z => I1 z) (fun z => μ1 z) (fun z => [(0, .slice as_ s_.length cs_), (1, .func (.func ff) firstf capsf), (7, .int .i64 ((s_.length : Nat) : Int)), (8, .int .i64 z)]) (fun _ => []) (fun _ => h) 0 q35 (.cons rfl (.cons rfl (.cons rfl (.cons rfl (.nil))))) rfl (FH.le_refl _) ?_
  rintro t8 q35
  have hF := q36 t8 q35
  show J _ _ _ _ _ [(0, .slice as_ s_.length cs_), (1, .func (.func ff) firstf capsf), (7, .int .i64 ((s_.length : Nat) : Int)), (8, .int .i64 t8)] [] h
  refine .seq ?_
  refine .region ?_
  refine .v (bi rfl rfl rfl) rfl rfl rfl ?_
  refine .nil ?_
  refine .seqN ?_
  refine .seq ?_
  refine .cond rfl (fun q38 => ?_) (fun q38 => ?_)
  · replace hF := hF.1 q38
    refine .skip ?_
    refine .seqN ?_
    refine .seq ?_
    refine .block ?_
    refine .seq ?_
    refine .region ?_
    refine .v (mv rfl) rfl rfl rfl ?_
    refine .v (asg rfl) rfl rfl rfl ?_
    refine .nil ?_
    refine .seqN ?_
    refine .seq ?_
    refine .region ?_
    refine .v (mv rfl) rfl rfl rfl ?_
    refine .v (mv rfl) rfl rfl rfl ?_
    refine .v (mv rfl) rfl rfl rfl ?_
    obtain ⟨q46, hF⟩ := hF
    refine .v (ix rfl rfl tS40 (_q1.ne (by decide) (inb_pos q46)) q46) rfl rfl rfl ?_
    obtain ⟨_, ⟨a, c, rfl, q47, q48⟩, q49⟩ := _q1.elem q46
    refine .v (ld1 (v := .slice a ((gt s_ t8).length) c) rfl tO35 (cellH (q49 (by decide) 0 _ rfl))) rfl rfl rfl ?_
    obtain ⟨q50, hF⟩ := hF
    obtain ⟨r2, q51⟩ : ∃ y_ : Bool, y_ = pf (gt s_ t8) := ⟨_, rfl⟩
    replace hF := hF r2 q51
    refine .c (cl (v := .bool r2) hff rfl rfl (fun w S => (by rw [q51]; exact hpf (gt s_ t8) a c q48 q47 w q50 (S.sub.anti (FH.le_refl _))))) rfl rfl rfl ?_
    refine .nil ?_
    refine .seqN ?_
    refine .cond rfl (fun q52 => ?_) (fun q52 => ?_)
    · replace hF := hF.1 q52
      refine .seq ?_
      refine .region ?_
      refine .v (mv rfl) rfl rfl rfl ?_
      refine .v (asg rfl) rfl rfl rfl ?_
      refine .nil ?_
      refine .seqN ?_
      refine .ret ?_
      refine .blkR ?_
      refine .seqR ?_
      refine .seqR ?_
      refine .blkR ?_
      refine .seqR ?_
      refine .res1 rfl (rvT rfl) (fun w' S => ⟨t8, hF, rfl, S.below⟩)
    replace hF := hF.2 q52
    refine .skip ?_
    refine .blkN ?_
    refine .seqN ?_
    refine .region ?_
    refine .v (bi rfl rfl rfl) rfl rfl rfl ?_
    refine .v (mv rfl) rfl rfl rfl ?_
    refine .nil ?_
    exact .round (IntKind.i64.wrap (t8 + 1)) hF.1 hF.2 (.cons rfl (.cons rfl (.cons rfl (.cons rfl (.nil))))) rfl (FH.le_refl _)
  replace hF := hF.2 q38
  refine .exit ?_
  refine .seqX ?_
  refine .seqX ?_
  refine .blkX ?_
  refine .seqN ?_
  refine .seq ?_
  refine .region ?_
  refine .v (asg rfl) rfl rfl rfl ?_
  refine .nil ?_
  refine .seqN ?_
  refine .ret ?_
  refine .res1 rfl (rvT rfl) (fun w' S => ⟨(-1), hF, rfl, S.below⟩)

theorem c_indexR {h : FH} {w : World} (hs : Sub h w) (s_ : List (List Int)) (as_ : Option Addr) (cs_ : Nat) (_q1 : RSl h as_ s_) (_q2 : s_.length ≤ cs_) (pf : (List Int) → Bool) (Df : (List Int) → Prop) (ff : FuncId) (firstf capsf : Array Value) (hff : ∀ args w, (callFunc ff args).run Try.prog w = .ok (.enter ff args) w) (hpf : ∀ (x : List Int) (a : Option Addr) (c : Nat), RSl h a x → x.length ≤ c → ∀ (w' : World), Df x → Sub h w' → Calls Try.prog ff (firstf.toList ++ [(.slice a x.length c : Value)] ++ capsf.toList).toArray w' fun e w'' => e = .returned (.bool (pf x)) ∧ Below w'.heap.size w' w'') (hp : pre_any s_ pf Df) : Calls Try.prog 39 #[.slice as_ s_.length cs_, .func (.func ff) firstf capsf] w fun e w' => e = .returned (.int .i64 (sp_index s_ pf Df)) ∧ Below w.heap.size w w' :=
  (w_indexR hs s_ as_ cs_ _q1 _q2 pf Df ff firstf capsf hff hpf (fun r => r = sp_index s_ pf Df) (ok_indexR s_ pf Df hp)).mono fun _ _ ⟨_, hk, he, hb⟩ => ⟨by rw [he, hk], hb⟩

theorem w_containsR {h : FH} {w : World} (hs : Sub h w) (s_ : List (List Int)) (as_ : Option Addr) (cs_ : Nat) (_q1 : RSl h as_ s_) (_q2 : s_.length ≤ cs_) (pf : (List Int) → Bool) (Df : (List Int) → Prop) (ff : FuncId) (firstf capsf : Array Value) (hff : ∀ args w, (callFunc ff args).run Try.prog w = .ok (.enter ff args) w) (hpf : ∀ (x : List Int) (a : Option Addr) (c : Nat), RSl h a x → x.length ≤ c → ∀ (w' : World), Df x → Sub h w' → Calls Try.prog ff (firstf.toList ++ [(.slice a x.length c : Value)] ++ capsf.toList).toArray w' fun e w'' => e = .returned (.bool (pf x)) ∧ Below w'.heap.size w' w'') (K : Bool → Prop) (hF : F_containsR s_ pf Df K) : Calls Try.prog 31 #[.slice as_ s_.length cs_, .func (.func ff) firstf capsf] w fun e w' => ∃ r : Bool, K r ∧ e = .returned (.bool r) ∧ Below w.heap.size w w' := by
  refine enter (args := [.slice as_ s_.length cs_, .func (.func ff) firstf capsf]) Try.func31 rfl Try.ntmps31 rfl hs ?_
  refine .seq ?_
  refine .region ?_
  refine .v (asg rfl) rfl rfl rfl ?_
  refine .nil ?_
  refine .seqN ?_
  refine .seq ?_
  refine .region ?_
  refine .v (mv rfl) rfl rfl rfl ?_
  refine .v (mv rfl) rfl rfl rfl ?_
  obtain ⟨q3, hF⟩ := hF
  obtain ⟨r2, q4⟩ : ∃ y_ : Int, y_ = sp_index s_ pf Df := ⟨_, rfl⟩
  replace hF := hF r2 q4
  refine .c (cl (v := .int .i64 r2) Try.call39 rfl rfl (fun w S => (by rw [q4]; exact c_indexR S.sub s_ as_ cs_ _q1 _q2 pf Df ff firstf capsf hff hpf q3))) rfl rfl rfl ?_
  refine .v (bi rfl rfl rfl) rfl rfl rfl ?_
  refine .v (asg rfl) rfl rfl rfl ?_
  refine .nil ?_
  refine .seqN ?_
  refine .ret ?_
  refine .res1 rfl (rvT rfl) (fun w' S => ⟨decide (0 ≤ r2), hF, rfl, S.below⟩)

theorem c_containsR {h : FH} {w : World} (hs : Sub h w) (s_ : List (List Int)) (as_ : Option Addr) (cs_ : Nat) (_q1 : RSl h as_ s_) (_q2 : s_.length ≤ cs_) (pf : (List Int) → Bool) (Df : (List Int) → Prop) (ff : FuncId) (firstf capsf : Array Value) (hff : ∀ args w, (callFunc ff args).run Try.prog w = .ok (.enter ff args) w) (hpf : ∀ (x : List Int) (a : Option Addr) (c : Nat), RSl h a x → x.length ≤ c → ∀ (w' : World), Df x → Sub h w' → Calls Try.prog ff (firstf.toList ++ [(.slice a x.length c : Value)] ++ capsf.toList).toArray w' fun e w'' => e = .returned (.bool (pf x)) ∧ Below w'.heap.size w' w'') (hp : pre_any s_ pf Df) : Calls Try.prog 31 #[.slice as_ s_.length cs_, .func (.func ff) firstf capsf] w fun e w' => e = .returned (.bool (sp_any s_ pf Df)) ∧ Below w.heap.size w w' :=
  (w_containsR hs s_ as_ cs_ _q1 _q2 pf Df ff firstf capsf hff hpf (fun r => r = sp_any s_ pf Df) (ok_containsR s_ pf Df hp)).mono fun _ _ ⟨_, hk, he, hb⟩ => ⟨by rw [he, hk], hb⟩

theorem w_indexL {h : FH} {w : World} (hs : Sub h w) (s_ : List Link) (as_ : Option Addr) (cs_ : Nat) (_q1 : RSl h as_ s_) (_q2 : s_.length ≤ cs_) (pf : Link → Bool) (Df : Link → Prop) (ff : FuncId) (firstf capsf : Array Value) (hff : ∀ args w, (callFunc ff args).run Try.prog w = .ok (.enter ff args) w) (hpf : ∀ (x : Link) (w' : World), Df x → Sub h w' → Calls Try.prog ff (firstf.toList ++ [(.agg #[.int .i64 x.src, .int .i64 x.dst, .int .i64 x.low, .int .i64 x.high] : Value)] ++ capsf.toList).toArray w' fun e w'' => e = .returned (.bool (pf x)) ∧ Below w'.heap.size w' w'') (K : Int → Prop) (hF : F_indexL s_ pf Df K) : Calls Try.prog 37 #[.slice as_ s_.length cs_, .func (.func ff) firstf capsf] w fun e w' => ∃ r : Int, K r ∧ e = .returned (.int .i64 r) ∧ Below w.heap.size w w' := by
  refine enter (args := [.slice as_ s_.length cs_, .func (.func ff) firstf capsf]) Try.func37 rfl Try.ntmps37 rfl hs ?_
  refine .seq ?_
  refine .region ?_
  refine .v (asg rfl) rfl rfl rfl ?_
  refine .nil ?_
  refine .seqN ?_
  refine .seq ?_
  refine .seq ?_
  refine .region ?_
  refine .v (mv rfl) rfl rfl rfl ?_
  refine .v (ln rfl tS22.is) rfl rfl rfl ?_
  refine .v (mv rfl) rfl rfl rfl ?_
  refine .nil ?_
  refine .seqN ?_
  refine .block ?_
  obtain ⟨I1, μ1, q23, q24⟩ := hF
  refine .loop' (σ := Int) (fun z => I1 z) (fun z => μ1 z) (fun z => [(0, .slice as_ s_.length cs_), (1, .func (.func ff) firstf capsf), (7, .int .i64 ((s_.length : Nat) : Int)), (8, .int .i64 z)]) (fun _ => []) (fun _ => h) 0 q23 (.cons rfl (.cons rfl (.cons rfl (.cons rfl (.nil))))) rfl (FH.le_refl _) ?_
  rintro t8 q23
  have hF := q24 t8 q23
  show J _ _ _ _ _ [(0, .slice as_ s_.length cs_), (1, .func (.func ff) firstf capsf), (7, .int .i64 ((s_.length : Nat) : Int)), (8, .int .i64 t8)] [] h
  refine .seq ?_
  refine .region ?_
  refine .v (bi rfl rfl rfl) rfl rfl rfl ?_
  refine .nil ?_
  refine .seqN ?_
  refine .seq ?_
  refine .cond rfl (fun q26 => ?_) (fun q26 => ?_)
  · replace hF := hF.1 q26
    refine .skip ?_
    refine .seqN ?_
    refine .seq ?_
    refine .block ?_
    refine .seq ?_
    refine .region ?_
    refine .v (mv rfl) rfl rfl rfl ?_
    refine .v (asg rfl) rfl rfl rfl ?_
    refine .nil ?_
    refine .seqN ?_
    refine .seq ?_
    refine .region ?_
    refine .v (mv rfl) rfl rfl rfl ?_
    refine .v (mv rfl) rfl rfl rfl ?_
    refine .v (mv rfl) rfl rfl rfl ?_
    obtain ⟨q31, hF⟩ := hF
    refine .v (ix rfl rfl tS22 (_q1.ne (by decide) (inb_pos q31)) q31) rfl rfl rfl ?_
    refine .v (ldA (cs := [.int .i64 ((gt s_ t8).src), .int .i64 ((gt s_ t8).dst), .int .i64 ((gt s_ t8).low), .int .i64 ((gt s_ t8).high)]) rfl tA48 rfl (cellsH (_q1.elemF q31 (by decide)))) rfl rfl rfl ?_
    obtain ⟨q32, hF⟩ := hF
    obtain ⟨r2, q33⟩ : ∃ y_ : Bool, y_ = pf (gt s_ t8) := ⟨_, rfl⟩
    replace hF := hF r2 q33
    refine .c (cl (v := .bool r2) hff rfl rfl (fun w S => (by rw [q33]; exact hpf (gt s_ t8) w q32 (S.sub.anti (FH.le_refl _))))) rfl rfl rfl ?_
    refine .nil ?_
    refine .seqN ?_
    refine .cond rfl (fun q34 => ?_) (fun q34 => ?_)
    · replace hF := hF.1 q34
      refine .seq ?_
      refine .region ?_
      refine .v (mv rfl) rfl rfl rfl ?_
      refine .v (asg rfl) rfl rfl rfl ?_
      refine .nil ?_
      refine .seqN ?_
      refine .ret ?_
      refine .blkR ?_
      refine .seqR ?_
      refine .seqR ?_
      refine .blkR ?_
      refine .seqR ?_
      refine .res1 rfl (rvT rfl) (fun w' S => ⟨t8, hF, rfl, S.below⟩)
    replace hF := hF.2 q34
    refine .skip ?_
    refine .blkN ?_
    refine .seqN ?_
    refine .region ?_
    refine .v (bi rfl rfl rfl) rfl rfl rfl ?_
    refine .v (mv rfl) rfl rfl rfl ?_
    refine .nil ?_
    exact .round (IntKind.i64.wrap (t8 + 1)) hF.1 hF.2 (.cons rfl (.cons rfl (.cons rfl (.cons rfl (.nil))))) rfl (FH.le_refl _)
  replace hF := hF.2 q26
  refine .exit ?_
  refine .seqX ?_
  refine .seqX ?_
  refine .blkX ?_
  refine .seqN ?_
  refine .seq ?_
  refine .region ?_
  refine .v (asg rfl) rfl rfl rfl ?_
  refine .nil ?_
  refine .seqN ?_
  refine .ret ?_
  refine .res1 rfl (rvT rfl) (fun w' S => ⟨(-1), hF, rfl, S.below⟩)

theorem c_indexL {h : FH} {w : World} (hs : Sub h w) (s_ : List Link) (as_ : Option Addr) (cs_ : Nat) (_q1 : RSl h as_ s_) (_q2 : s_.length ≤ cs_) (pf : Link → Bool) (Df : Link → Prop) (ff : FuncId) (firstf capsf : Array Value) (hff : ∀ args w, (callFunc ff args).run Try.prog w = .ok (.enter ff args) w) (hpf : ∀ (x : Link) (w' : World), Df x → Sub h w' → Calls Try.prog ff (firstf.toList ++ [(.agg #[.int .i64 x.src, .int .i64 x.dst, .int .i64 x.low, .int .i64 x.high] : Value)] ++ capsf.toList).toArray w' fun e w'' => e = .returned (.bool (pf x)) ∧ Below w'.heap.size w' w'') (hp : pre_any s_ pf Df) : Calls Try.prog 37 #[.slice as_ s_.length cs_, .func (.func ff) firstf capsf] w fun e w' => e = .returned (.int .i64 (sp_index s_ pf Df)) ∧ Below w.heap.size w w' :=
  (w_indexL hs s_ as_ cs_ _q1 _q2 pf Df ff firstf capsf hff hpf (fun r => r = sp_index s_ pf Df) (ok_indexL s_ pf Df hp)).mono fun _ _ ⟨_, hk, he, hb⟩ => ⟨by rw [he, hk], hb⟩

theorem w_containsL {h : FH} {w : World} (hs : Sub h w) (s_ : List Link) (as_ : Option Addr) (cs_ : Nat) (_q1 : RSl h as_ s_) (_q2 : s_.length ≤ cs_) (pf : Link → Bool) (Df : Link → Prop) (ff : FuncId) (firstf capsf : Array Value) (hff : ∀ args w, (callFunc ff args).run Try.prog w = .ok (.enter ff args) w) (hpf : ∀ (x : Link) (w' : World), Df x → Sub h w' → Calls Try.prog ff (firstf.toList ++ [(.agg #[.int .i64 x.src, .int .i64 x.dst, .int .i64 x.low, .int .i64 x.high] : Value)] ++ capsf.toList).toArray w' fun e w'' => e = .returned (.bool (pf x)) ∧ Below w'.heap.size w' w'') (K : Bool → Prop) (hF : F_containsL s_ pf Df K) : Calls Try.prog 26 #[.slice as_ s_.length cs_, .func (.func ff) firstf capsf] w fun e w' => ∃ r : Bool, K r ∧ e = .returned (.bool r) ∧ Below w.heap.size w w' := by
  refine enter (args := [.slice as_ s_.length cs_, .func (.func ff) firstf capsf]) Try.func26 rfl Try.ntmps26 rfl hs ?_
  refine .seq ?_
  refine .region ?_
  refine .v (asg rfl) rfl rfl rfl ?_
  refine .nil ?_
  refine .seqN ?_
  refine .seq ?_
  refine .region ?_
  refine .v (mv rfl) rfl rfl rfl ?_
  refine .v (mv rfl) rfl rfl rfl ?_
  obtain ⟨q3, hF⟩ := hF
  obtain ⟨r2, q4⟩ : ∃ y_ : Int, y_ = sp_index s_ pf Df := ⟨_, rfl⟩
  replace hF := hF r2 q4
  refine .c (cl (v := .int .i64 r2) Try.call37 rfl rfl (fun w S => (by rw [q4]; exact c_indexL S.sub s_ as_ cs_ _q1 _q2 pf Df ff firstf capsf hff hpf q3))) rfl rfl rfl ?_
  refine .v (bi rfl rfl rfl) rfl rfl rfl ?_
  refine .v (asg rfl) rfl rfl rfl ?_
  refine .nil ?_
  refine .seqN ?_
  refine .ret ?_
  refine .res1 rfl (rvT rfl) (fun w' S => ⟨decide (0 ≤ r2), hF, rfl, S.below⟩)

theorem c_containsL {h : FH} {w : World} (hs : Sub h w) (s_ : List Link) (as_ : Option Addr) (cs_ : Nat) (_q1 : RSl h as_ s_) (_q2 : s_.length ≤ cs_) (pf : Link → Bool) (Df : Link → Prop) (ff : FuncId) (firstf capsf : Array Value) (hff : ∀ args w, (callFunc ff args).run Try.prog w = .ok (.enter ff args) w) (hpf : ∀ (x : Link) (w' : World), Df x → Sub h w' → Calls Try.prog ff (firstf.toList ++ [(.agg #[.int .i64 x.src, .int .i64 x.dst, .int .i64 x.low, .int .i64 x.high] : Value)] ++ capsf.toList).toArray w' fun e w'' => e = .returned (.bool (pf x)) ∧ Below w'.heap.size w' w'') (hp : pre_any s_ pf Df) : Calls Try.prog 26 #[.slice as_ s_.length cs_, .func (.func ff) firstf capsf] w fun e w' => e = .returned (.bool (sp_any s_ pf Df)) ∧ Below w.heap.size w w' :=
  (w_containsL hs s_ as_ cs_ _q1 _q2 pf Df ff firstf capsf hff hpf (fun r => r = sp_any s_ pf Df) (ok_containsL s_ pf Df hp)).mono fun _ _ ⟨_, hk, he, hb⟩ => ⟨by rw [he, hk], hb⟩

theorem w_numbers {h : FH} {w : World} (hs : Sub h w) (a : List Int) (aa : Option Addr) (ca : Nat) (_q1 : RSl h aa a) (_q2 : a.length ≤ ca) (b : List Int) (ab : Option Addr) (cb : Nat) (_q3 : RSl h ab b) (_q4 : b.length ≤ cb) (K : Bool → Prop) (hF : F_numbers a b K) : Calls Try.prog 18 #[.slice aa a.length ca, .slice ab b.length cb] w fun e w' => ∃ r : Bool, K r ∧ e = .returned (.bool r) ∧ Below w.heap.size w w' := by
  refine enter (args := [.slice aa a.length ca, .slice ab b.length cb]) Try.func18 rfl Try.ntmps18 rfl hs ?_
  refine .seq ?_
  refine .region ?_
  refine .v (asg rfl) rfl rfl rfl ?_
  refine .nil ?_
  refine .seqN ?_
  refine .seq ?_
  refine .seq ?_
  refine .region ?_
  refine .v (mv rfl) rfl rfl rfl ?_
  refine .v (ln rfl tS35.is) rfl rfl rfl ?_
  refine .v (mv rfl) rfl rfl rfl ?_
  refine .v (ln rfl tS35.is) rfl rfl rfl ?_
  refine .v (bi rfl rfl rfl) rfl rfl rfl ?_
  refine .nil ?_
  refine .seqN ?_
  refine .cond rfl (fun q5 => ?_) (fun q5 => ?_)
  · replace hF := hF.1 q5
    refine .seq ?_
    refine .region ?_
    refine .v (asg rfl) rfl rfl rfl ?_
    refine .nil ?_
    refine .seqN ?_
    refine .ret ?_
    refine .seqR ?_
    refine .res1 rfl (rvT rfl) (fun w' S => ⟨false, hF, rfl, S.below⟩)
  replace hF := hF.2 q5
  refine .skip ?_
  refine .seqN ?_
  refine .seq ?_
  refine .seq ?_
  refine .region ?_
  refine .v (asg rfl) rfl rfl rfl ?_
  refine .nil ?_
  refine .seqN ?_
  refine .block ?_
  obtain ⟨I1, μ1, q20, q21⟩ := hF
  refine .loop' (σ := Int) (fun z => I1 z) (fun z => μ1 z) (fun z => [(0, .slice aa a.length ca), (1, .slice ab b.length cb), (5, .int .i64 z)]) (fun _ => []) (fun _ => h) 0 q20 (.cons rfl (.cons rfl (.cons rfl (.nil)))) rfl (FH.le_refl _) ?_
  rintro i q20
  have hF := q21 i q20
  show J _ _ _ _ _ [(0, .slice aa a.length ca), (1, .slice ab b.length cb), (5, .int .i64 i)] [] h
  refine .seq ?_
  refine .seq ?_
  refine .region ?_
  refine .v (mv rfl) rfl rfl rfl ?_
  refine .v (mv rfl) rfl rfl rfl ?_
  refine .v (ln rfl tS35.is) rfl rfl rfl ?_
  refine .v (bi rfl rfl rfl) rfl rfl rfl ?_
  refine .nil ?_
  refine .seqN ?_
  refine .cond rfl (fun q22 => ?_) (fun q22 => ?_)
  · replace hF := hF.1 q22
    refine .skip ?_
    refine .seqN ?_
    refine .seq ?_
    refine .block ?_
    refine .seq ?_
    refine .open_ (by kernel_rfl) (by kernel_rfl) ?_
    refine .v (mv rfl) rfl rfl rfl ?_
    refine .v (mv rfl) rfl rfl rfl ?_
    obtain ⟨q26, hF⟩ := hF
    refine .v (ix rfl rfl tS35 (_q1.ne (by decide) (inb_pos q26)) q26) rfl rfl rfl ?_
    refine .v (ld1 (v := .int .i64 (gt a i)) rfl tO3 (cellH (_q1.elemF q26 (by decide) 0 _ rfl))) rfl rfl rfl ?_
    refine .v (mv rfl) rfl rfl rfl ?_
    refine .v (mv rfl) rfl rfl rfl ?_
    obtain ⟨q27, hF⟩ := hF
    refine .v (ix rfl rfl tS35 (_q3.ne (by decide) (inb_pos q27)) q27) rfl rfl rfl ?_
    refine .v (ld1 (v := .int .i64 (gt b i)) rfl tO3 (cellH (_q3.elemF q27 (by decide) 0 _ rfl))) rfl rfl rfl ?_
    refine .v (bi rfl rfl rfl) rfl rfl rfl ?_
    refine .fin ?_
    refine .seqN ?_
    refine .cond rfl (fun q28 => ?_) (fun q28 => ?_)
    · replace hF := hF.1 q28
      refine .seq ?_
      refine .region ?_
      refine .v (asg rfl) rfl rfl rfl ?_
      refine .nil ?_
      refine .seqN ?_
      refine .ret ?_
      refine .blkR ?_
      refine .seqR ?_
      refine .seqR ?_
      refine .blkR ?_
      refine .seqR ?_
      refine .res1 rfl (rvT rfl) (fun w' S => ⟨false, hF, rfl, S.below⟩)
    replace hF := hF.2 q28
    refine .skip ?_
    refine .blkN ?_
    refine .seqN ?_
    refine .region ?_
    refine .v (mv rfl) rfl rfl rfl ?_
    refine .v (bi rfl rfl rfl) rfl rfl rfl ?_
    refine .v (asg rfl) rfl rfl rfl ?_
    refine .nil ?_
    exact .round (IntKind.i64.wrap (i + 1)) hF.1 hF.2 (.cons rfl (.cons rfl (.cons rfl (.nil)))) rfl (FH.le_refl _)
  replace hF := hF.2 q22
  refine .exit ?_
  refine .seqX ?_
  refine .seqX ?_
  refine .blkX ?_
  refine .seqN ?_
  refine .seq ?_
  refine .region ?_
  refine .v (asg rfl) rfl rfl rfl ?_
  refine .nil ?_
  refine .seqN ?_
  refine .ret ?_
  refine .res1 rfl (rvT rfl) (fun w' S => ⟨true, hF, rfl, S.below⟩)

theorem c_numbers {h : FH} {w : World} (hs : Sub h w) (a : List Int) (aa : Option Addr) (ca : Nat) (_q1 : RSl h aa a) (_q2 : a.length ≤ ca) (b : List Int) (ab : Option Addr) (cb : Nat) (_q3 : RSl h ab b) (_q4 : b.length ≤ cb) (hp : pre_numbers a b) : Calls Try.prog 18 #[.slice aa a.length ca, .slice ab b.length cb] w fun e w' => e = .returned (.bool (sp_numbers a b)) ∧ Below w.heap.size w w' :=
  (w_numbers hs a aa ca _q1 _q2 b ab cb _q3 _q4 (fun r => r = sp_numbers a b) (ok_numbers a b hp)).mono fun _ _ ⟨_, hk, he, hb⟩ => ⟨by rw [he, hk], hb⟩

set_option maxHeartbeats 8000000 in
theorem w_tighten {h : FH} {w : World} (hs : Sub h w) (n_ : Network) (an_ : Option Addr) (cn_ : Nat) (_q1 : RSl h an_ n_.links) (_q2 : n_.links.length ≤ cn_) (K : (List (List Int) × Bool) → Prop) (hF : F_tighten n_ K) : Calls Try.prog 13 #[.agg #[.int .i64 n_.events, .slice an_ n_.links.length cn_]] w fun e w' => ∃ (r : List (List Int) × Bool) (z : Option Addr × Nat) (h1 : FH), K r ∧ e = .returned (.tuple #[.slice z.1 r.1.length z.2, .bool r.2]) ∧ FH.le h h1 ∧ (RSl h1 z.1 r.1 ∧ r.1.length ≤ z.2) ∧ SH (Kp.all w h) h1 w' [] := by
  refine enter (args := [.agg #[.int .i64 n_.events, .slice an_ n_.links.length cn_]]) Try.func13 rfl Try.ntmps13 rfl hs ?_
  refine .seq ?_
  refine .region ?_
  refine bx (vs := [.int .i64 n_.events, .slice an_ n_.links.length cn_]) rfl rfl rfl (fun pn => ?_)
  refine .v (asg rfl) rfl rfl rfl ?_
  refine .v (asg rfl) rfl rfl rfl ?_
  refine .nil ?_
  refine .seqN ?_
  refine .seq ?_
  refine .region ?_
  refine .v (ldA (cs := [.int .i64 n_.events, .slice an_ n_.links.length cn_]) rfl tA24 rfl (cellsB (off := 0) (k := 0) rfl (m := 2) rfl)) rfl rfl rfl ?_
  obtain ⟨q3, hF⟩ := hF
  obtain ⟨r2, q4⟩ : ∃ y_ : List (List Int), y_ = sp_bounds n_ := ⟨_, rfl⟩
  replace hF := hF r2 q4
  refine clO (α := Option Addr × Nat × List RowV) (V := fun z => .slice z.1 r2.length z.2.1) (Ψ := fun z => z.2.2.length = r2.length) (B := fun z => OwnSl 35 1 z.1 r2.length z.2.1 (rowsV z.2.2 r2) :: rowsA 3 z.2.2 r2) Try.call30 rfl rfl (fun w S => (by rw [q4]; exact c_bounds S.sub n_ an_ cn_ _q1 _q2 q3)) rfl (fun z q5 => ?_)
  obtain ⟨a, c, vs⟩ := z
  refine .perm ?_
  refine .cast (A' := ([Box pn [.int .i64 n_.events, .slice an_ n_.links.length cn_], OwnSl 35 1 a r2.length c (rowsV vs r2)] ++ rowsA 3 vs r2)) rfl ?_
  refine .v (asg rfl) rfl rfl rfl ?_
  refine .nil ?_
  refine .seqN ?_
  refine .seq ?_
  refine .seq ?_
  refine .region ?_
  refine .v (mv rfl) rfl rfl rfl ?_
  refine .v (ln rfl tS40.is) rfl rfl rfl ?_
  refine .v (mv rfl) rfl rfl rfl ?_
  refine .nil ?_
  refine .seqN ?_
  refine .block ?_
  refine .sel (L := [Box pn [.int .i64 n_.events, .slice an_ n_.links.length cn_], OwnSl 35 1 a r2.length c (rowsV vs r2)]) (L' := [OwnSl 35 1 a r2.length c (rowsV vs r2)]) [1] rfl (by decide) rfl rfl ?_
  obtain ⟨I1, μ1, q3626, q3627⟩ := hF
  refine .loop' (σ := Int × List (List Int)) (fun z => I1 z.1 z.2 ∧ z.2.length = r2.length ∧ vs.length = z.2.length) (fun z => μ1 z.1 z.2) (fun z => [(4, .slice a r2.length c), (12, .int .i64 ((r2.length : Nat) : Int)), (13, .int .i64 z.1)]) (fun z => ([OwnSl 35 1 a r2.length c (rowsV vs z.2)] ++ rowsA 3 vs z.2)) (fun _ => h) (0, r2) ⟨q3626, rfl, q5⟩ (.cons rfl (.cons rfl (.cons rfl (.nil)))) rfl (FH.le_refl _) ?_
  rintro ⟨t13, d⟩ ⟨q3626, q1738, q1739⟩
  have hF := q3627 t13 d q3626
  show J _ _ _ _ _ [(4, .slice a r2.length c), (12, .int .i64 ((r2.length : Nat) : Int)), (13, .int .i64 t13)] ([OwnSl 35 1 a r2.length c (rowsV vs d)] ++ rowsA 3 vs d) h
  refine .seq ?_
  refine .region ?_
  refine .v (bi rfl rfl rfl) rfl rfl rfl ?_
  refine .nil ?_
  refine .seqN ?_
  refine .seq ?_
  refine .cond rfl (fun q3629 => ?_) (fun q3629 => ?_)
  · replace hF := hF.1 q3629
    refine .skip ?_
    refine .seqN ?_
    refine .seq ?_
    refine .block ?_
    refine .seq ?_
    refine .region ?_
    refine .v (mv rfl) rfl rfl rfl ?_
    refine .v (asg rfl) rfl rfl rfl ?_
    refine .nil ?_
    refine .seqN ?_
    refine .seq ?_
    refine .seq ?_
    refine .region ?_
    refine .v (mv rfl) rfl rfl rfl ?_
    refine .v (ln rfl tS40.is) rfl rfl rfl ?_
    refine .v (mv rfl) rfl rfl rfl ?_
    refine .nil ?_
    refine .seqN ?_
    refine .block ?_
    obtain ⟨I2, μ2, q5199, q5200⟩ := hF
    refine .loop' (σ := Int × List (List Int)) (fun z => I2 z.1 z.2 ∧ z.2.length = r2.length ∧ vs.length = z.2.length) (fun z => μ2 z.1 z.2) (fun z => [(4, .slice a r2.length c), (5, .int .i64 t13), (12, .int .i64 ((r2.length : Nat) : Int)), (13, .int .i64 t13), (17, .int .i64 ((r2.length : Nat) : Int)), (18, .int .i64 z.1)]) (fun z => ([OwnSl 35 1 a r2.length c (rowsV vs z.2)] ++ rowsA 3 vs z.2)) (fun _ => h) (0, d) ⟨q5199, q1738, q1739⟩ (.cons rfl (.cons rfl (.cons rfl (.cons rfl (.cons rfl (.cons rfl (.nil))))))) rfl (FH.le_refl _) ?_
    rintro ⟨t18, d3⟩ ⟨q5199, q4887, q4888⟩
    have hF := q5200 t18 d3 q5199
    show J _ _ _ _ _ [(4, .slice a r2.length c), (5, .int .i64 t13), (12, .int .i64 ((r2.length : Nat) : Int)), (13, .int .i64 t13), (17, .int .i64 ((r2.length : Nat) : Int)), (18, .int .i64 t18)] ([OwnSl 35 1 a r2.length c (rowsV vs d3)] ++ rowsA 3 vs d3) h
    refine .seq ?_
    refine .region ?_
    refine .v (bi rfl rfl rfl) rfl rfl rfl ?_
    refine .nil ?_
    refine .seqN ?_
    refine .seq ?_
    refine .cond rfl (fun q5202 => ?_) (fun q5202 => ?_)
    · replace hF := hF.1 q5202
      refine .skip ?_
      refine .seqN ?_
      refine .seq ?_
      refine .block ?_
      refine .seq ?_
      refine .region ?_
      refine .v (mv rfl) rfl rfl rfl ?_
      refine .v (asg rfl) rfl rfl rfl ?_
      refine .nil ?_
      refine .seqN ?_
      refine .seq ?_
      refine .region ?_
      refine .v (mv rfl) rfl rfl rfl ?_
      refine .v (ln rfl tS40.is) rfl rfl rfl ?_
      refine .v (mv rfl) rfl rfl rfl ?_
      refine .nil ?_
      refine .seqN ?_
      refine .block ?_
      obtain ⟨I3, μ3, q5460, q5461⟩ := hF
      refine .loop' (σ := Int × List (List Int)) (fun z => I3 z.1 z.2 ∧ z.2.length = r2.length ∧ vs.length = z.2.length) (fun z => μ3 z.1 z.2) (fun z => [(4, .slice a r2.length c), (5, .int .i64 t13), (6, .int .i64 t18), (12, .int .i64 ((r2.length : Nat) : Int)), (13, .int .i64 t13), (17, .int .i64 ((r2.length : Nat) : Int)), (18, .int .i64 t18), (22, .int .i64 ((r2.length : Nat) : Int)), (23, .int .i64 z.1)]) (fun z => ([OwnSl 35 1 a r2.length c (rowsV vs z.2)] ++ rowsA 3 vs z.2)) (fun _ => h) (0, d3) ⟨q5460, q4887, q4888⟩ (.cons rfl (.cons rfl (.cons rfl (.cons rfl (.cons rfl (.cons rfl (.cons rfl (.cons rfl (.cons rfl (.nil)))))))))) rfl (FH.le_refl _) ?_
      rintro ⟨t23, d5⟩ ⟨q5460, q5409, q5410⟩
      have hF := q5461 t23 d5 q5460
      show J _ _ _ _ _ [(4, .slice a r2.length c), (5, .int .i64 t13), (6, .int .i64 t18), (12, .int .i64 ((r2.length : Nat) : Int)), (13, .int .i64 t13), (17, .int .i64 ((r2.length : Nat) : Int)), (18, .int .i64 t18), (22, .int .i64 ((r2.length : Nat) : Int)), (23, .int .i64 t23)] ([OwnSl 35 1 a r2.length c (rowsV vs d5)] ++ rowsA 3 vs d5) h
      refine .seq ?_
      refine .region ?_
      refine .v (bi rfl rfl rfl) rfl rfl rfl ?_
      refine .nil ?_
      refine .seqN ?_
      refine .seq ?_
      refine .cond rfl (fun q5463 => ?_) (fun q5463 => ?_)
      · replace hF := hF.1 q5463
        refine .skip ?_
        refine .seqN ?_
        refine .share (σ := List (List Int)) (fun z => F_tighten_J1 t23 I3 μ3 d5 z ∧ z.length = r2.length ∧ vs.length = z.length) (fun _ => [(4, .slice a r2.length c), (5, .int .i64 t13), (6, .int .i64 t18), (12, .int .i64 ((r2.length : Nat) : Int)), (13, .int .i64 t13), (17, .int .i64 ((r2.length : Nat) : Int)), (18, .int .i64 t18), (22, .int .i64 ((r2.length : Nat) : Int)), (23, .int .i64 t23)]) (fun z => ([OwnSl 35 1 a r2.length c (rowsV vs z)] ++ rowsA 3 vs z)) (fun _ => h) ?_ (fun q5487 => ?_)
        · rintro d7 ⟨hF, q5485, q5486⟩
          show J _ _ _ _ _ [(4, .slice a r2.length c), (5, .int .i64 t13), (6, .int .i64 t18), (12, .int .i64 ((r2.length : Nat) : Int)), (13, .int .i64 t13), (17, .int .i64 ((r2.length : Nat) : Int)), (18, .int .i64 t18), (22, .int .i64 ((r2.length : Nat) : Int)), (23, .int .i64 t23)] ([OwnSl 35 1 a r2.length c (rowsV vs d7)] ++ rowsA 3 vs d7) h
          refine .region ?_
          refine .v (bi rfl rfl rfl) rfl rfl rfl ?_
          refine .v (mv rfl) rfl rfl rfl ?_
          refine .nil ?_
          exact .round (IntKind.i64.wrap (t23 + 1), d7) ⟨hF.1, q5485, q5486⟩ hF.2 (.cons rfl (.cons rfl (.cons rfl (.cons rfl (.cons rfl (.cons rfl (.cons rfl (.cons rfl (.cons rfl (.nil)))))))))) rfl (FH.le_refl _)
        refine .block ?_
        refine .seq ?_
        refine .region ?_
        refine .v (mv rfl) rfl rfl rfl ?_
        refine .v (asg rfl) rfl rfl rfl ?_
        refine .nil ?_
        refine .seqN ?_
        refine .share (σ := Bool) (fun z => F_tighten_J2 z t23 I3 μ3 t18 d5 t13) (fun z => [(4, .slice a r2.length c), (5, .int .i64 t13), (6, .int .i64 t18), (7, .int .i64 t23), (12, .int .i64 ((r2.length : Nat) : Int)), (13, .int .i64 t13), (17, .int .i64 ((r2.length : Nat) : Int)), (18, .int .i64 t18), (22, .int .i64 ((r2.length : Nat) : Int)), (23, .int .i64 t23), (43, .bool z)]) (fun _ => ([OwnSl 35 1 a r2.length c (rowsV vs d5)] ++ rowsA 3 vs d5)) (fun _ => h) ?_ (fun q5493 => ?_)
        · rintro t43 hF
          show J _ _ _ _ _ [(4, .slice a r2.length c), (5, .int .i64 t13), (6, .int .i64 t18), (7, .int .i64 t23), (12, .int .i64 ((r2.length : Nat) : Int)), (13, .int .i64 t13), (17, .int .i64 ((r2.length : Nat) : Int)), (18, .int .i64 t18), (22, .int .i64 ((r2.length : Nat) : Int)), (23, .int .i64 t23), (43, .bool t43)] ([OwnSl 35 1 a r2.length c (rowsV vs d5)] ++ rowsA 3 vs d5) h
          refine .cond rfl (fun q5494 => ?_) (fun q5494 => ?_)
          · replace hF := hF.1 q5494
            refine .openL (by kernel_rfl) rfl (by kernel_rfl) (by kernel_rfl) ?_
            refine .v (mv rfl) rfl rfl rfl ?_
            refine .v (mv rfl) rfl rfl rfl ?_
            obtain ⟨q5495, hF⟩ := hF
            refine .v (ixS rfl rfl tS40 (k := 0) rfl (inb_n q5495 q5409)) rfl rfl rfl ?_
            refine .v (ld1 (v := .slice ((gt vs t18).1) ((gt d5 t18).length) ((gt vs t18).2)) rfl tO35 (cell1 (k := 0) rfl (rowsV_get (gt_get (inb_of q5410 q5495)) (gt_get q5495)))) rfl rfl rfl ?_
            refine .v (mv rfl) rfl rfl rfl ?_
            refine .v (mv rfl) rfl rfl rfl ?_
            refine .v (mv rfl) rfl rfl rfl ?_
            refine .v (ixS rfl rfl tS40 (k := 0) rfl (inb_n q5495 q5409)) rfl rfl rfl ?_
            refine .v (ld1 (v := .slice ((gt vs t18).1) ((gt d5 t18).length) ((gt vs t18).2)) rfl tO35 (cell1 (k := 0) rfl (rowsV_get (gt_get (inb_of q5410 q5495)) (gt_get q5495)))) rfl rfl rfl ?_
            refine .v (mv rfl) rfl rfl rfl ?_
            obtain ⟨q5496, hF⟩ := hF
            refine .v (ixS rfl rfl tS35 (k := (t18).toNat + 1) (rowsA_get (gt_get (inb_of q5410 q5495)) (gt_get q5495)) q5496) rfl rfl rfl ?_
            refine .v (ld1 (v := .int .i64 (gt (gt d5 t18) t23)) rfl tO3 (cellS (k := (t18).toNat + 1) (rowsA_get (gt_get (inb_of q5410 q5495)) (gt_get q5495)) (flL_get q5496 (j := 0) rfl))) rfl rfl rfl ?_
            refine .v (mv rfl) rfl rfl rfl ?_
            refine .v (mv rfl) rfl rfl rfl ?_
            refine .v (ixS rfl rfl tS40 (k := 0) rfl (inb_n q5495 q5409)) rfl rfl rfl ?_
            refine .v (ld1 (v := .slice ((gt vs t18).1) ((gt d5 t18).length) ((gt vs t18).2)) rfl tO35 (cell1 (k := 0) rfl (rowsV_get (gt_get (inb_of q5410 q5495)) (gt_get q5495)))) rfl rfl rfl ?_
            refine .v (mv rfl) rfl rfl rfl ?_
            obtain ⟨q5497, hF⟩ := hF
            refine .v (ixS rfl rfl tS35 (k := (t18).toNat + 1) (rowsA_get (gt_get (inb_of q5410 q5495)) (gt_get q5495)) q5497) rfl rfl rfl ?_
            refine .v (ld1 (v := .int .i64 (gt (gt d5 t18) t13)) rfl tO3 (cellS (k := (t18).toNat + 1) (rowsA_get (gt_get (inb_of q5410 q5495)) (gt_get q5495)) (flL_get q5497 (j := 0) rfl))) rfl rfl rfl ?_
            refine .v (mv rfl) rfl rfl rfl ?_
            refine .v (mv rfl) rfl rfl rfl ?_
            obtain ⟨q5498, hF⟩ := hF
            refine .v (ixS rfl rfl tS40 (k := 0) rfl (inb_n q5498 q5409)) rfl rfl rfl ?_
            refine .v (ld1 (v := .slice ((gt vs t13).1) ((gt d5 t13).length) ((gt vs t13).2)) rfl tO35 (cell1 (k := 0) rfl (rowsV_get (gt_get (inb_of q5410 q5498)) (gt_get q5498)))) rfl rfl rfl ?_
            refine .v (mv rfl) rfl rfl rfl ?_
            obtain ⟨q5499, hF⟩ := hF
            refine .v (ixS rfl rfl tS35 (k := (t13).toNat + 1) (rowsA_get (gt_get (inb_of q5410 q5498)) (gt_get q5498)) q5499) rfl rfl rfl ?_
            refine .v (ld1 (v := .int .i64 (gt (gt d5 t13) t23)) rfl tO3 (cellS (k := (t13).toNat + 1) (rowsA_get (gt_get (inb_of q5410 q5498)) (gt_get q5498)) (flL_get q5499 (j := 0) rfl))) rfl rfl rfl ?_
            refine .v (bi rfl rfl rfl) rfl rfl rfl ?_
            obtain ⟨x, q5500⟩ : ∃ y_ : Int, y_ = (if (IntKind.i64.wrap ((gt (gt d5 t18) t13) + (gt (gt d5 t13) t23))) < (gt (gt d5 t18) t23) then (IntKind.i64.wrap ((gt (gt d5 t18) t13) + (gt (gt d5 t13) t23))) else (gt (gt d5 t18) t23)) := ⟨_, rfl⟩
            replace hF := hF x q5500
            refine .v (v := .int .i64 x) (by rw [q5500]; exact mn rfl rfl) rfl rfl rfl ?_
            refine .v (ixS rfl rfl tS35 (k := (t18).toNat + 1) (rowsA_get (gt_get (inb_of q5410 q5495)) (gt_get q5495)) q5496) rfl rfl rfl ?_
            refine .tail ?_
            obtain ⟨d8, q5501⟩ : ∃ y_ : List (List Int), y_ = (d5.set (t18).toNat ((gt d5 t18).set (t23).toNat x)) := ⟨_, rfl⟩
            replace hF := hF d8 q5501
            refine stS (k := (t18).toNat + 1) (cs' := flL ((gt d5 t18).set (t23).toNat x)) rfl (fun _ => rfl) rfl rfl (fun w => (tO3 w).2) rfl rfl (rowsA_get (gt_get (inb_of q5410 q5495)) (gt_get q5495)) (inb_pos q5496) (fl_room q5496) (flL_set q5496 _) ?_
            have q5502 : d8.length = r2.length := by rw [q5501]; exact List.length_set.trans q5409
            have q5503 : (vs).length = d8.length := by rw [q5501]; exact q5410.trans List.length_set.symm
            refine .cast (A' := ([OwnSl 35 1 a r2.length c (rowsV vs d8)] ++ rowsA 3 vs d8)) (by rw [q5501]; exact matSet (L := [OwnSl 35 1 a r2.length c (rowsV vs d5)]) (k := 0) q5410 q5495 List.length_set rfl) ?_
            refine .nil ?_
            refine .blkN ?_
            exact .use q5487 d8 ⟨hF, q5502, q5503⟩ (.cons rfl (.cons rfl (.cons rfl (.cons rfl (.cons rfl (.cons rfl (.cons rfl (.cons rfl (.cons rfl (.nil)))))))))) rfl (FH.le_refl _)
          replace hF := hF.2 q5494
          refine .skip ?_
          refine .blkN ?_
          exact .use q5487 d5 ⟨hF, q5409, q5410⟩ (.cons rfl (.cons rfl (.cons rfl (.cons rfl (.cons rfl (.cons rfl (.cons rfl (.cons rfl (.cons rfl (.nil)))))))))) rfl (FH.le_refl _)
        refine .region ?_
        refine .v (mv rfl) rfl rfl rfl ?_
        refine .v (mv rfl) rfl rfl rfl ?_
        obtain ⟨q5504, hF⟩ := hF
        refine .v (ixS rfl rfl tS40 (k := 0) rfl (inb_n q5504 q5409)) rfl rfl rfl ?_
        refine .v (ld1 (v := .slice ((gt vs t18).1) ((gt d5 t18).length) ((gt vs t18).2)) rfl tO35 (cell1 (k := 0) rfl (rowsV_get (gt_get (inb_of q5410 q5504)) (gt_get q5504)))) rfl rfl rfl ?_
        refine .v (mv rfl) rfl rfl rfl ?_
        obtain ⟨q5505, hF⟩ := hF
        refine .v (ixS rfl rfl tS35 (k := (t18).toNat + 1) (rowsA_get (gt_get (inb_of q5410 q5504)) (gt_get q5504)) q5505) rfl rfl rfl ?_
        refine .v (ld1 (v := .int .i64 (gt (gt d5 t18) t13)) rfl tO3 (cellS (k := (t18).toNat + 1) (rowsA_get (gt_get (inb_of q5410 q5504)) (gt_get q5504)) (flL_get q5505 (j := 0) rfl))) rfl rfl rfl ?_
        refine .v (bi rfl rfl rfl) rfl rfl rfl ?_
        refine .v (mv rfl) rfl rfl rfl ?_
        rcases Bool.eq_false_or_eq_true (decide ((gt (gt d5 t18) t13) < 1000000000)) with q5506 | q5506
        · replace hF := hF.1 q5506
          refine .gv (mv rfl) rfl rfl rfl q5506 rfl rfl ?_
          refine .gv (mv rfl) rfl rfl rfl q5506 rfl rfl ?_
          obtain ⟨q5507, hF⟩ := hF
          refine .gv (ixS rfl rfl tS40 (k := 0) rfl (inb_n q5507 q5409)) rfl rfl rfl q5506 rfl rfl ?_
          refine .gv (ld1 (v := .slice ((gt vs t13).1) ((gt d5 t13).length) ((gt vs t13).2)) rfl tO35 (cell1 (k := 0) rfl (rowsV_get (gt_get (inb_of q5410 q5507)) (gt_get q5507)))) rfl rfl rfl q5506 rfl rfl ?_
          refine .gv (mv rfl) rfl rfl rfl q5506 rfl rfl ?_
          obtain ⟨q5508, hF⟩ := hF
          refine .gv (ixS rfl rfl tS35 (k := (t13).toNat + 1) (rowsA_get (gt_get (inb_of q5410 q5507)) (gt_get q5507)) q5508) rfl rfl rfl q5506 rfl rfl ?_
          refine .gv (ld1 (v := .int .i64 (gt (gt d5 t13) t23)) rfl tO3 (cellS (k := (t13).toNat + 1) (rowsA_get (gt_get (inb_of q5410 q5507)) (gt_get q5507)) (flL_get q5508 (j := 0) rfl))) rfl rfl rfl q5506 rfl rfl ?_
          refine .gv (bi rfl rfl rfl) rfl rfl rfl q5506 rfl rfl ?_
          refine .v (pkT rfl q5506 rfl) rfl rfl rfl ?_
          refine .nil ?_
          exact .use q5493 (decide ((gt (gt d5 t13) t23) < 1000000000)) hF (.cons rfl (.cons rfl (.cons rfl (.cons rfl (.cons rfl (.cons rfl (.cons rfl (.cons rfl (.cons rfl (.cons rfl (.cons rfl (.nil)))))))))))) rfl (FH.le_refl _)
        replace hF := hF.2 q5506
        refine .gS rfl rfl rfl q5506 rfl rfl ?_
        refine .gS rfl rfl rfl q5506 rfl rfl ?_
        refine .gS rfl rfl rfl q5506 rfl rfl ?_
        refine .gS rfl rfl rfl q5506 rfl rfl ?_
        refine .gS rfl rfl rfl q5506 rfl rfl ?_
        refine .gS rfl rfl rfl q5506 rfl rfl ?_
        refine .gS rfl rfl rfl q5506 rfl rfl ?_
        refine .gS rfl rfl rfl q5506 rfl rfl ?_
        refine .v (pkF rfl q5506 rfl) rfl rfl rfl ?_
        refine .nil ?_
        exact .use q5493 false hF (.cons rfl (.cons rfl (.cons rfl (.cons rfl (.cons rfl (.cons rfl (.cons rfl (.cons rfl (.cons rfl (.cons rfl (.cons rfl (.nil)))))))))))) rfl (FH.le_refl _)
      replace hF := hF.2 q5463
      refine .exit ?_
      refine .seqX ?_
      refine .seqX ?_
      refine .blkX ?_
      refine .blkN ?_
      refine .seqN ?_
      refine .region ?_
      refine .v (bi rfl rfl rfl) rfl rfl rfl ?_
      refine .v (mv rfl) rfl rfl rfl ?_
      refine .nil ?_
      exact .round (IntKind.i64.wrap (t18 + 1), d5) ⟨hF.1, q5409, q5410⟩ hF.2 (.cons rfl (.cons rfl (.cons rfl (.cons rfl (.cons rfl (.cons rfl (.nil))))))) rfl (FH.le_refl _)
    replace hF := hF.2 q5202
    refine .exit ?_
    refine .seqX ?_
    refine .seqX ?_
    refine .blkX ?_
    refine .seqN ?_
    refine .seq ?_
    refine .region ?_
    refine .v (mv rfl) rfl rfl rfl ?_
    obtain ⟨q5509, hF⟩ := hF
    obtain ⟨r3, q5510⟩ : ∃ y_ : Bool, y_ = sp_any d3 (fun y_ : List Int => sp_tighten1 y_) (fun y_ : List Int => pre_tighten1 y_) := ⟨_, rfl⟩
    replace hF := hF r3 q5510
    refine .c (cl (v := .bool r3) Try.call31 rfl rfl (fun w S => (by rw [q5510]; obtain ⟨h_, hl_, S_, hr_, hc_⟩ := mat_freeze' (A := [OwnSl 35 1 a r2.length c (rowsV vs d3)]) (k := 0) q4887 q4888 S rfl; have hs_ := S_.sub; rw [← q4887]; exact c_containsR hs_ d3 a c hr_ hc_ (fun y_ : List Int => sp_tighten1 y_) (fun y_ : List Int => pre_tighten1 y_) 32 #[] #[] Try.call32 (fun x a_ c_ r_ l_ w' hD hs' => c_tighten1 hs' x a_ c_ r_ l_  hD) q5509))) rfl rfl rfl ?_
    refine .nil ?_
    refine .seqN ?_
    refine .cond rfl (fun q5511 => ?_) (fun q5511 => ?_)
    · replace hF := hF.1 q5511
      refine .seq ?_
      refine .region ?_
      refine .v (asg rfl) rfl rfl rfl ?_
      refine .v (asg rfl) rfl rfl rfl ?_
      refine .nil ?_
      refine .seqN ?_
      refine .ret ?_
      refine .blkR ?_
      refine .seqR ?_
      refine .seqR ?_
      refine .blkR ?_
      refine .seqR ?_
      refine .res2 rfl (rvT rfl) (rvT rfl) (fun w' S => ⟨(([] : List (List Int)), false), (none, 0), h, hF, rfl, (FH.le_refl _), ⟨RSl.nil_, (Nat.le_refl 0)⟩, S.none⟩)
    replace hF := hF.2 q5511
    refine .skip ?_
    refine .blkN ?_
    refine .seqN ?_
    refine .region ?_
    refine .v (bi rfl rfl rfl) rfl rfl rfl ?_
    refine .v (mv rfl) rfl rfl rfl ?_
    refine .nil ?_
    exact .round (IntKind.i64.wrap (t13 + 1), d3) ⟨hF.1, q4887, q4888⟩ hF.2 (.cons rfl (.cons rfl (.cons rfl (.nil)))) rfl (FH.le_refl _)
  replace hF := hF.2 q3629
  refine .exit ?_
  refine .seqX ?_
  refine .seqX ?_
  refine .blkX ?_
  refine .seqN ?_
  refine .seq ?_
  refine .seq ?_
  refine .region ?_
  refine .v (mv rfl) rfl rfl rfl ?_
  refine .v (ln rfl tS40.is) rfl rfl rfl ?_
  refine .v (mv rfl) rfl rfl rfl ?_
  refine .nil ?_
  refine .seqN ?_
  refine .block ?_
  obtain ⟨I4, μ4, q5528, q5529⟩ := hF
  refine .loop' (σ := Int) (fun z => I4 z) (fun z => μ4 z) (fun z => [(4, .slice a r2.length c), (79, .int .i64 ((r2.length : Nat) : Int)), (80, .int .i64 z)]) (fun _ => ([OwnSl 35 1 a r2.length c (rowsV vs d)] ++ rowsA 3 vs d)) (fun _ => h) 0 q5528 (.cons rfl (.cons rfl (.cons rfl (.nil)))) rfl (FH.le_refl _) ?_
  rintro t80 q5528
  have hF := q5529 t80 q5528
  show J _ _ _ _ _ [(4, .slice a r2.length c), (79, .int .i64 ((r2.length : Nat) : Int)), (80, .int .i64 t80)] ([OwnSl 35 1 a r2.length c (rowsV vs d)] ++ rowsA 3 vs d) h
  refine .seq ?_
  refine .region ?_
  refine .v (bi rfl rfl rfl) rfl rfl rfl ?_
  refine .nil ?_
  refine .seqN ?_
  refine .seq ?_
  refine .cond rfl (fun q5531 => ?_) (fun q5531 => ?_)
  · replace hF := hF.1 q5531
    refine .skip ?_
    refine .seqN ?_
    refine .seq ?_
    refine .block ?_
    refine .seq ?_
    refine .region ?_
    refine .v (mv rfl) rfl rfl rfl ?_
    refine .v (asg rfl) rfl rfl rfl ?_
    refine .nil ?_
    refine .seqN ?_
    refine .seq ?_
    refine .region ?_
    refine .v (mv rfl) rfl rfl rfl ?_
    refine .v (mv rfl) rfl rfl rfl ?_
    obtain ⟨q5535, hF⟩ := hF
    refine .v (ixS rfl rfl tS40 (k := 0) rfl (inb_n q5535 q1738)) rfl rfl rfl ?_
    refine .v (ld1 (v := .slice ((gt vs t80).1) ((gt d t80).length) ((gt vs t80).2)) rfl tO35 (cell1 (k := 0) rfl (rowsV_get (gt_get (inb_of q1739 q5535)) (gt_get q5535)))) rfl rfl rfl ?_
    refine .v (mv rfl) rfl rfl rfl ?_
    obtain ⟨q5536, hF⟩ := hF
    refine .v (ixS rfl rfl tS35 (k := (t80).toNat + 1) (rowsA_get (gt_get (inb_of q1739 q5535)) (gt_get q5535)) q5536) rfl rfl rfl ?_
    refine .v (ld1 (v := .int .i64 (gt (gt d t80) t80)) rfl tO3 (cellS (k := (t80).toNat + 1) (rowsA_get (gt_get (inb_of q1739 q5535)) (gt_get q5535)) (flL_get q5536 (j := 0) rfl))) rfl rfl rfl ?_
    refine .v (bi rfl rfl rfl) rfl rfl rfl ?_
    refine .nil ?_
    refine .seqN ?_
    refine .cond rfl (fun q5537 => ?_) (fun q5537 => ?_)
    · replace hF := hF.1 q5537
      refine .seq ?_
      refine .region ?_
      refine .v (asg rfl) rfl rfl rfl ?_
      refine .v (asg rfl) rfl rfl rfl ?_
      refine .nil ?_
      refine .seqN ?_
      refine .ret ?_
      refine .blkR ?_
      refine .seqR ?_
      refine .seqR ?_
      refine .blkR ?_
      refine .seqR ?_
      refine .res2 rfl (rvT rfl) (rvT rfl) (fun w' S => ⟨(([] : List (List Int)), false), (none, 0), h, hF, rfl, (FH.le_refl _), ⟨RSl.nil_, (Nat.le_refl 0)⟩, S.none⟩)
    replace hF := hF.2 q5537
    refine .skip ?_
    refine .blkN ?_
    refine .seqN ?_
    refine .region ?_
    refine .v (bi rfl rfl rfl) rfl rfl rfl ?_
    refine .v (mv rfl) rfl rfl rfl ?_
    refine .nil ?_
    exact .round (IntKind.i64.wrap (t80 + 1)) hF.1 hF.2 (.cons rfl (.cons rfl (.cons rfl (.nil)))) rfl (FH.le_refl _)
  replace hF := hF.2 q5531
  refine .exit ?_
  refine .seqX ?_
  refine .seqX ?_
  refine .blkX ?_
  refine .seqN ?_
  refine .seq ?_
  refine .region ?_
  refine .v (mv rfl) rfl rfl rfl ?_
  refine .v (asg rfl) rfl rfl rfl ?_
  refine .v (asg rfl) rfl rfl rfl ?_
  refine .nil ?_
  refine .seqN ?_
  refine .matFreeze' (A := [OwnSl 35 1 a r2.length c (rowsV vs d)]) (k := 0) q1738 q1739 rfl (fun h1 le1 q5538 q5539 => ?_)
  refine .cast (A' := [tru]) rfl ?_
  refine .ret ?_
  refine .res2 rfl (rvT rfl) (rvT rfl) (fun w' S => ⟨(d, true), (a, c), h1, hF, (by simp only [q1738]), (le1), ⟨q5538, q5539⟩, S.none⟩)

theorem c_tighten {h : FH} {w : World} (hs : Sub h w) (n_ : Network) (an_ : Option Addr) (cn_ : Nat) (_q1 : RSl h an_ n_.links) (_q2 : n_.links.length ≤ cn_) (hp : pre_tighten n_) : Calls Try.prog 13 #[.agg #[.int .i64 n_.events, .slice an_ n_.links.length cn_]] w fun e w' => ∃ (z : Option Addr × Nat) (h1 : FH), e = .returned (.tuple #[.slice z.1 (sp_tighten n_).1.length z.2, .bool (sp_tighten n_).2]) ∧ FH.le h h1 ∧ (RSl h1 z.1 (sp_tighten n_).1 ∧ (sp_tighten n_).1.length ≤ z.2) ∧ SH (Kp.all w h) h1 w' [] :=
  (w_tighten hs n_ an_ cn_ _q1 _q2 (fun r => r = sp_tighten n_) (ok_tighten n_ hp)).mono fun _ _ ⟨r, z, h1, hk, he, hl, hf, hS⟩ => by subst hk; exact ⟨z, h1, he, hl, hf, hS⟩

set_option maxHeartbeats 8000000 in
theorem w_direct {h : FH} {w : World} (hs : Sub h w) (n_ : Network) (an_ : Option Addr) (cn_ : Nat) (_q1 : RSl h an_ n_.links) (_q2 : n_.links.length ≤ cn_) (i : Int) (j : Int) (K : Int → Prop) (hF : F_direct n_ i j K) : Calls Try.prog 36 #[.agg #[.int .i64 n_.events, .slice an_ n_.links.length cn_], .int .i64 i, .int .i64 j] w fun e w' => ∃ r : Int, K r ∧ e = .returned (.int .i64 r) ∧ Below w.heap.size w w' := by
  refine enter (args := [.agg #[.int .i64 n_.events, .slice an_ n_.links.length cn_], .int .i64 i, .int .i64 j]) Try.func36 rfl Try.ntmps36 rfl hs ?_
  refine .seq ?_
  refine .region ?_
  refine bx (vs := [.int .i64 n_.events, .slice an_ n_.links.length cn_]) rfl rfl rfl (fun pn => ?_)
  refine .v (asg rfl) rfl rfl rfl ?_
  refine .nil ?_
  refine .seqN ?_
  refine .seq ?_
  refine .seq ?_
  refine .region ?_
  refine .v (mv rfl) rfl rfl rfl ?_
  refine .v (mv rfl) rfl rfl rfl ?_
  refine .v (bi rfl rfl rfl) rfl rfl rfl ?_
  refine .nil ?_
  refine .seqN ?_
  refine .cond rfl (fun q4 => ?_) (fun q4 => ?_)
  · replace hF := hF.1 q4
    refine .seq ?_
    refine .region ?_
    refine .v (asg rfl) rfl rfl rfl ?_
    refine .nil ?_
    refine .seqN ?_
    refine .ret ?_
    refine .seqR ?_
    refine .res1 rfl (rvT rfl) (fun w' S => ⟨0, hF, rfl, S.below⟩)
  replace hF := hF.2 q4
  refine .skip ?_
  refine .seqN ?_
  refine .seq ?_
  refine .region ?_
  refine .v (asg rfl) rfl rfl rfl ?_
  refine .nil ?_
  refine .seqN ?_
  refine .seq ?_
  refine .seq ?_
  refine .region ?_
  refine .v (mv rfl) rfl rfl rfl ?_
  refine .v (bi rfl rfl rfl) rfl rfl rfl ?_
  refine .nil ?_
  refine .seqN ?_
  refine .shareT (σ := Int) (fun z => F_direct_J1 n_ i j K z) (fun z => [(1, .int .i64 i), (2, .int .i64 j), (3, .pointer (some pn)), (7, .int .i64 z)]) (fun _ => [Box pn [.int .i64 n_.events, .slice an_ n_.links.length cn_]]) (fun _ => h) ?_ (fun q6 => ?_)
  · rintro d hF
    show J _ _ _ _ _ [(1, .int .i64 i), (2, .int .i64 j), (3, .pointer (some pn)), (7, .int .i64 d)] [Box pn [.int .i64 n_.events, .slice an_ n_.links.length cn_]] h
    refine .seq ?_
    refine .seq ?_
    refine .region ?_
    refine .v (asg rfl) rfl rfl rfl ?_
    refine .nil ?_
    refine .seqN ?_
    refine .block ?_
    obtain ⟨I1, μ1, q182, q183⟩ := hF
    refine .loop' (σ := Int × Int) (fun z => I1 z.1 z.2) (fun z => μ1 z.1 z.2) (fun z => [(1, .int .i64 i), (2, .int .i64 j), (3, .pointer (some pn)), (7, .int .i64 z.1), (8, .int .i64 z.2)]) (fun _ => [Box pn [.int .i64 n_.events, .slice an_ n_.links.length cn_]]) (fun _ => h) (d, 0) q182 (.cons rfl (.cons rfl (.cons rfl (.cons rfl (.cons rfl (.nil)))))) rfl (FH.le_refl _) ?_
    rintro ⟨d2, k⟩ q182
    have hF := q183 d2 k q182
    show J _ _ _ _ _ [(1, .int .i64 i), (2, .int .i64 j), (3, .pointer (some pn)), (7, .int .i64 d2), (8, .int .i64 k)] [Box pn [.int .i64 n_.events, .slice an_ n_.links.length cn_]] h
    refine .seq ?_
    refine .seq ?_
    refine .region ?_
    refine .v (mv rfl) rfl rfl rfl ?_
    refine .v (fa rfl tF24_1) rfl rfl rfl ?_
    refine .v (ld1 rfl tO22 (cellB (off := 1) (k := 0) rfl rfl)) rfl rfl rfl ?_
    refine .v (ln rfl tS22.is) rfl rfl rfl ?_
    refine .v (bi rfl rfl rfl) rfl rfl rfl ?_
    refine .nil ?_
    refine .seqN ?_
    refine .cond rfl (fun q185 => ?_) (fun q185 => ?_)
    · replace hF := hF.1 q185
      refine .skip ?_
      refine .seqN ?_
      refine .share (σ := Int) (fun z => F_direct_J2 d2 k z I1 μ1) (fun z => [(1, .int .i64 i), (2, .int .i64 j), (3, .pointer (some pn)), (7, .int .i64 z), (8, .int .i64 k)]) (fun _ => [Box pn [.int .i64 n_.events, .slice an_ n_.links.length cn_]]) (fun _ => h) ?_ (fun q201 => ?_)
      · rintro d4 hF
        show J _ _ _ _ _ [(1, .int .i64 i), (2, .int .i64 j), (3, .pointer (some pn)), (7, .int .i64 d4), (8, .int .i64 k)] [Box pn [.int .i64 n_.events, .slice an_ n_.links.length cn_]] h
        refine .region ?_
        refine .v (mv rfl) rfl rfl rfl ?_
        refine .v (bi rfl rfl rfl) rfl rfl rfl ?_
        refine .v (asg rfl) rfl rfl rfl ?_
        refine .nil ?_
        exact .round (d4, IntKind.i64.wrap (k + 1)) hF.1 hF.2 (.cons rfl (.cons rfl (.cons rfl (.cons rfl (.cons rfl (.nil)))))) rfl (FH.le_refl _)
      refine .block ?_
      refine .seq ?_
      refine .region ?_
      refine .v (fa rfl tF24_1) rfl rfl rfl ?_
      refine .v (ld1 rfl tO22 (cellB (off := 1) (k := 0) rfl rfl)) rfl rfl rfl ?_
      refine .v (mv rfl) rfl rfl rfl ?_
      obtain ⟨q202, hF⟩ := hF
      refine .v (ix rfl rfl tS22 (_q1.ne (by decide) (inb_pos q202)) q202) rfl rfl rfl ?_
      refine .v (ldA (cs := [.int .i64 ((gt n_.links k).src), .int .i64 ((gt n_.links k).dst), .int .i64 ((gt n_.links k).low), .int .i64 ((gt n_.links k).high)]) rfl tA48 rfl (cellsH (_q1.elemF q202 (by decide)))) rfl rfl rfl ?_
      refine al tZ48 rfl (fun pl => ?_)
      refine st (p := pl) (off := 0) (k := 0) (vs := [.int .i64 ((gt n_.links k).src), .int .i64 ((gt n_.links k).dst), .int .i64 ((gt n_.links k).low), .int .i64 ((gt n_.links k).high)]) rfl rfl rfl (fun w => (tA48 w).2) rfl rfl rfl rfl ?_
      refine .cast (A' := [Box pl [.int .i64 ((gt n_.links k).src), .int .i64 ((gt n_.links k).dst), .int .i64 ((gt n_.links k).low), .int .i64 ((gt n_.links k).high)], Box pn [.int .i64 n_.events, .slice an_ n_.links.length cn_]]) rfl ?_
      refine .nil ?_
      refine .seqN ?_
      refine .seq ?_
      refine .share (σ := Bool) (fun z => F_direct_J3 n_ i j z d2 k I1 μ1) (fun z => [(1, .int .i64 i), (2, .int .i64 j), (3, .pointer (some pn)), (7, .int .i64 d2), (8, .int .i64 k), (9, .pointer (some pl)), (42, .bool z)]) (fun _ => [Box pn [.int .i64 n_.events, .slice an_ n_.links.length cn_], Box pl [.int .i64 ((gt n_.links k).src), .int .i64 ((gt n_.links k).dst), .int .i64 ((gt n_.links k).low), .int .i64 ((gt n_.links k).high)]]) (fun _ => h) ?_ (fun q205 => ?_)
      · rintro t42 hF
        show J _ _ _ _ _ [(1, .int .i64 i), (2, .int .i64 j), (3, .pointer (some pn)), (7, .int .i64 d2), (8, .int .i64 k), (9, .pointer (some pl)), (42, .bool t42)] [Box pn [.int .i64 n_.events, .slice an_ n_.links.length cn_], Box pl [.int .i64 ((gt n_.links k).src), .int .i64 ((gt n_.links k).dst), .int .i64 ((gt n_.links k).low), .int .i64 ((gt n_.links k).high)]] h
        refine .shareT (σ := Int) (fun z => F_direct_J4 n_ i j d2 k I1 μ1 z) (fun z => [(1, .int .i64 i), (2, .int .i64 j), (3, .pointer (some pn)), (7, .int .i64 z), (8, .int .i64 k), (9, .pointer (some pl))]) (fun _ => [Box pn [.int .i64 n_.events, .slice an_ n_.links.length cn_], Box pl [.int .i64 ((gt n_.links k).src), .int .i64 ((gt n_.links k).dst), .int .i64 ((gt n_.links k).low), .int .i64 ((gt n_.links k).high)]]) (fun _ => h) ?_ (fun q207 => ?_)
        · rintro d5 hF
          show J _ _ _ _ _ [(1, .int .i64 i), (2, .int .i64 j), (3, .pointer (some pn)), (7, .int .i64 d5), (8, .int .i64 k), (9, .pointer (some pl))] [Box pn [.int .i64 n_.events, .slice an_ n_.links.length cn_], Box pl [.int .i64 ((gt n_.links k).src), .int .i64 ((gt n_.links k).dst), .int .i64 ((gt n_.links k).low), .int .i64 ((gt n_.links k).high)]] h
          refine .share (σ := Bool) (fun z => F_direct_J5 n_ d2 z k I1 μ1 d5) (fun z => [(1, .int .i64 i), (2, .int .i64 j), (3, .pointer (some pn)), (7, .int .i64 d5), (8, .int .i64 k), (9, .pointer (some pl)), (61, .bool z)]) (fun _ => [Box pn [.int .i64 n_.events, .slice an_ n_.links.length cn_], Box pl [.int .i64 ((gt n_.links k).src), .int .i64 ((gt n_.links k).dst), .int .i64 ((gt n_.links k).low), .int .i64 ((gt n_.links k).high)]]) (fun _ => h) ?_ (fun q210 => ?_)
          · rintro t61 hF
            show J _ _ _ _ _ [(1, .int .i64 i), (2, .int .i64 j), (3, .pointer (some pn)), (7, .int .i64 d5), (8, .int .i64 k), (9, .pointer (some pl)), (61, .bool t61)] [Box pn [.int .i64 n_.events, .slice an_ n_.links.length cn_], Box pl [.int .i64 ((gt n_.links k).src), .int .i64 ((gt n_.links k).dst), .int .i64 ((gt n_.links k).low), .int .i64 ((gt n_.links k).high)]] h
            refine .cond rfl (fun q211 => ?_) (fun q211 => ?_)
            · replace hF := hF.1 q211
              refine .region ?_
              refine .v (fa rfl tF48_2) rfl rfl rfl ?_
              refine .v (ld1 rfl tO3 (cellB (off := 2) (k := 1) rfl rfl)) rfl rfl rfl ?_
              refine .v (un rfl) rfl rfl rfl ?_
              refine .v (asg rfl) rfl rfl rfl ?_
              refine .nil ?_
              refine .blkN ?_
              refine .sel0 [0] (by decide) rfl ?_
              exact .use q201 (IntKind.i64.wrap (0 - ((gt n_.links k).low))) hF (.cons rfl (.cons rfl (.cons rfl (.cons rfl (.cons rfl (.nil)))))) rfl (FH.le_refl _)
            replace hF := hF.2 q211
            refine .skip ?_
            refine .blkN ?_
            refine .sel0 [0] (by decide) rfl ?_
            exact .use q201 d5 hF (.cons rfl (.cons rfl (.cons rfl (.cons rfl (.cons rfl (.nil)))))) rfl (FH.le_refl _)
          refine .region ?_
          refine .v (fa rfl tF48_0) rfl rfl rfl ?_
          refine .v (ld1 rfl tO3 (cellB (off := 0) (k := 1) rfl rfl)) rfl rfl rfl ?_
          refine .v (mv rfl) rfl rfl rfl ?_
          refine .v (bi rfl rfl rfl) rfl rfl rfl ?_
          refine .v (mv rfl) rfl rfl rfl ?_
          rcases Bool.eq_false_or_eq_true (((gt n_.links k).src) == j) with q212 | q212
          · replace hF := hF.1 q212
            refine .gv (fa rfl tF48_1) rfl rfl rfl q212 rfl rfl ?_
            refine .gv (ld1 rfl tO3 (cellB (off := 1) (k := 1) rfl rfl)) rfl rfl rfl q212 rfl rfl ?_
            refine .gv (mv rfl) rfl rfl rfl q212 rfl rfl ?_
            refine .gv (bi rfl rfl rfl) rfl rfl rfl q212 rfl rfl ?_
            refine .v (pkT rfl q212 rfl) rfl rfl rfl ?_
            refine .v (mv rfl) rfl rfl rfl ?_
            rcases Bool.eq_false_or_eq_true (((gt n_.links k).dst) == i) with q213 | q213
            · replace hF := hF.1 q213
              refine .gv (fa rfl tF48_2) rfl rfl rfl q213 rfl rfl ?_
              refine .gv (ld1 rfl tO3 (cellB (off := 2) (k := 1) rfl rfl)) rfl rfl rfl q213 rfl rfl ?_
              refine .gv (un rfl) rfl rfl rfl q213 rfl rfl ?_
              refine .gv (mv rfl) rfl rfl rfl q213 rfl rfl ?_
              refine .gv (bi rfl rfl rfl) rfl rfl rfl q213 rfl rfl ?_
              refine .v (pkT rfl q213 rfl) rfl rfl rfl ?_
              refine .nil ?_
              exact .use q210 (decide ((IntKind.i64.wrap (0 - ((gt n_.links k).low))) < d5)) hF (.cons rfl (.cons rfl (.cons rfl (.cons rfl (.cons rfl (.cons rfl (.cons rfl (.nil)))))))) rfl (FH.le_refl _)
            replace hF := hF.2 q213
            refine .gS rfl rfl rfl q213 rfl rfl ?_
            refine .gS rfl rfl rfl q213 rfl rfl ?_
            refine .gS rfl rfl rfl q213 rfl rfl ?_
            refine .gS rfl rfl rfl q213 rfl rfl ?_
            refine .gS rfl rfl rfl q213 rfl rfl ?_
            refine .v (pkF rfl q213 rfl) rfl rfl rfl ?_
            refine .nil ?_
            exact .use q210 false hF (.cons rfl (.cons rfl (.cons rfl (.cons rfl (.cons rfl (.cons rfl (.cons rfl (.nil)))))))) rfl (FH.le_refl _)
          replace hF := hF.2 q212
          refine .gS rfl rfl rfl q212 rfl rfl ?_
          refine .gS rfl rfl rfl q212 rfl rfl ?_
          refine .gS rfl rfl rfl q212 rfl rfl ?_
          refine .gS rfl rfl rfl q212 rfl rfl ?_
          refine .v (pkF rfl q212 rfl) rfl rfl rfl ?_
          refine .v (mv rfl) rfl rfl rfl ?_
          refine .gS rfl rfl rfl rfl rfl rfl ?_
          refine .gS rfl rfl rfl rfl rfl rfl ?_
          refine .gS rfl rfl rfl rfl rfl rfl ?_
          refine .gS rfl rfl rfl rfl rfl rfl ?_
          refine .gS rfl rfl rfl rfl rfl rfl ?_
          refine .v (pkF rfl rfl rfl) rfl rfl rfl ?_
          refine .nil ?_
          exact .use q210 false hF (.cons rfl (.cons rfl (.cons rfl (.cons rfl (.cons rfl (.cons rfl (.cons rfl (.nil)))))))) rfl (FH.le_refl _)
        refine .cond rfl (fun q214 => ?_) (fun q214 => ?_)
        · replace hF := hF.1 q214
          refine .region ?_
          refine .v (fa rfl tF48_3) rfl rfl rfl ?_
          refine .v (ld1 rfl tO3 (cellB (off := 3) (k := 1) rfl rfl)) rfl rfl rfl ?_
          refine .v (asg rfl) rfl rfl rfl ?_
          refine .nil ?_
          exact .use q207 ((gt n_.links k).high) hF (.cons rfl (.cons rfl (.cons rfl (.cons rfl (.cons rfl (.cons rfl (.nil))))))) rfl (FH.le_refl _)
        replace hF := hF.2 q214
        refine .skip ?_
        exact .use q207 d2 hF (.cons rfl (.cons rfl (.cons rfl (.cons rfl (.cons rfl (.cons rfl (.nil))))))) rfl (FH.le_refl _)
      refine .region ?_
      refine .v (fa rfl tF48_0) rfl rfl rfl ?_
      refine .v (ld1 rfl tO3 (cellB (off := 0) (k := 0) rfl rfl)) rfl rfl rfl ?_
      refine .v (mv rfl) rfl rfl rfl ?_
      refine .v (bi rfl rfl rfl) rfl rfl rfl ?_
      refine .v (mv rfl) rfl rfl rfl ?_
      rcases Bool.eq_false_or_eq_true (((gt n_.links k).src) == i) with q215 | q215
      · replace hF := hF.1 q215
        refine .gv (fa rfl tF48_1) rfl rfl rfl q215 rfl rfl ?_
        refine .gv (ld1 rfl tO3 (cellB (off := 1) (k := 0) rfl rfl)) rfl rfl rfl q215 rfl rfl ?_
        refine .gv (mv rfl) rfl rfl rfl q215 rfl rfl ?_
        refine .gv (bi rfl rfl rfl) rfl rfl rfl q215 rfl rfl ?_
        refine .v (pkT rfl q215 rfl) rfl rfl rfl ?_
        refine .v (mv rfl) rfl rfl rfl ?_
        rcases Bool.eq_false_or_eq_true (((gt n_.links k).dst) == j) with q216 | q216
        · replace hF := hF.1 q216
          refine .gv (fa rfl tF48_3) rfl rfl rfl q216 rfl rfl ?_
          refine .gv (ld1 rfl tO3 (cellB (off := 3) (k := 0) rfl rfl)) rfl rfl rfl q216 rfl rfl ?_
          refine .gv (mv rfl) rfl rfl rfl q216 rfl rfl ?_
          refine .gv (bi rfl rfl rfl) rfl rfl rfl q216 rfl rfl ?_
          refine .v (pkT rfl q216 rfl) rfl rfl rfl ?_
          refine .nil ?_
          refine .sel0 [1, 0] (by decide) rfl ?_
          exact .use q205 (decide (((gt n_.links k).high) < d2)) hF (.cons rfl (.cons rfl (.cons rfl (.cons rfl (.cons rfl (.cons rfl (.cons rfl (.nil)))))))) rfl (FH.le_refl _)
        replace hF := hF.2 q216
        refine .gS rfl rfl rfl q216 rfl rfl ?_
        refine .gS rfl rfl rfl q216 rfl rfl ?_
        refine .gS rfl rfl rfl q216 rfl rfl ?_
        refine .gS rfl rfl rfl q216 rfl rfl ?_
        refine .v (pkF rfl q216 rfl) rfl rfl rfl ?_
        refine .nil ?_
        refine .sel0 [1, 0] (by decide) rfl ?_
        exact .use q205 false hF (.cons rfl (.cons rfl (.cons rfl (.cons rfl (.cons rfl (.cons rfl (.cons rfl (.nil)))))))) rfl (FH.le_refl _)
      replace hF := hF.2 q215
      refine .gS rfl rfl rfl q215 rfl rfl ?_
      refine .gS rfl rfl rfl q215 rfl rfl ?_
      refine .gS rfl rfl rfl q215 rfl rfl ?_
      refine .gS rfl rfl rfl q215 rfl rfl ?_
      refine .v (pkF rfl q215 rfl) rfl rfl rfl ?_
      refine .v (mv rfl) rfl rfl rfl ?_
      refine .gS rfl rfl rfl rfl rfl rfl ?_
      refine .gS rfl rfl rfl rfl rfl rfl ?_
      refine .gS rfl rfl rfl rfl rfl rfl ?_
      refine .gS rfl rfl rfl rfl rfl rfl ?_
      refine .v (pkF rfl rfl rfl) rfl rfl rfl ?_
      refine .nil ?_
      refine .sel0 [1, 0] (by decide) rfl ?_
      exact .use q205 false hF (.cons rfl (.cons rfl (.cons rfl (.cons rfl (.cons rfl (.cons rfl (.cons rfl (.nil)))))))) rfl (FH.le_refl _)
    replace hF := hF.2 q185
    refine .exit ?_
    refine .seqX ?_
    refine .seqX ?_
    refine .blkX ?_
    refine .seqN ?_
    refine .seq ?_
    refine .region ?_
    refine .v (mv rfl) rfl rfl rfl ?_
    refine .v (asg rfl) rfl rfl rfl ?_
    refine .nil ?_
    refine .seqN ?_
    refine .ret ?_
    refine .res1 rfl (rvT rfl) (fun w' S => ⟨d2, hF, rfl, S.below⟩)
  refine .cond rfl (fun q217 => ?_) (fun q217 => ?_)
  · replace hF := hF.1 q217
    refine .region ?_
    refine .v (asg rfl) rfl rfl rfl ?_
    refine .nil ?_
    exact .use q6 0 hF (.cons rfl (.cons rfl (.cons rfl (.cons rfl (.nil))))) rfl (FH.le_refl _)
  replace hF := hF.2 q217
  refine .skip ?_
  exact .use q6 1000000000 hF (.cons rfl (.cons rfl (.cons rfl (.cons rfl (.nil))))) rfl (FH.le_refl _)

theorem c_direct {h : FH} {w : World} (hs : Sub h w) (n_ : Network) (an_ : Option Addr) (cn_ : Nat) (_q1 : RSl h an_ n_.links) (_q2 : n_.links.length ≤ cn_) (i : Int) (j : Int) (hp : pre_direct n_ i j) : Calls Try.prog 36 #[.agg #[.int .i64 n_.events, .slice an_ n_.links.length cn_], .int .i64 i, .int .i64 j] w fun e w' => e = .returned (.int .i64 (sp_direct n_ i j)) ∧ Below w.heap.size w w' :=
  (w_direct hs n_ an_ cn_ _q1 _q2 i j (fun r => r = sp_direct n_ i j) (ok_direct n_ i j hp)).mono fun _ _ ⟨_, hk, he, hb⟩ => ⟨by rw [he, hk], hb⟩

end Go.Proofs.Ytkcamohhjaibaaa.Pl
