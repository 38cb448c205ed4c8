/- The walks: from what each function asks to what it does; printed from the code. No condition. -/
import Derived.Test.YtaenggfmpagjgaaT
import Derived.Test.YtaenggfmpagjgaaOk
namespace Go.Proofs.Ytaenggfmpagjgaa.Pl
open Go Go.RowKit
theorem w_in_ {h : FH} {w : World} (hs : Sub h w) (n_ : Int) (low : Int) (high : Int) (K : Bool → Prop) (hF : F_in_ n_ low high K) : Calls Try.prog 17 #[.int .i64 n_, .int .i64 low, .int .i64 high] w fun e w' => ∃ r : Bool, K r ∧ e = .returned (.bool r) ∧ Below w.heap.size w w' := by
  refine enter (args := [.int .i64 n_, .int .i64 low, .int .i64 high]) Try.func17 rfl Try.ntmps17 rfl hs ?_
  refine .seq ?_
  refine .region ?_
  refine .v (asg rfl) rfl rfl rfl ?_
  refine .nil ?_
  refine .seqN ?_
  refine .seq ?_
  refine .region ?_
  refine .v (mv rfl) rfl rfl rfl ?_
  refine .v (mv rfl) rfl rfl rfl ?_
  refine .v (bi rfl rfl rfl) rfl rfl rfl ?_
  refine .v (mv rfl) rfl rfl rfl ?_
  rcases Bool.eq_false_or_eq_true (decide (low ≤ n_)) with q2 | q2
  · replace hF := hF.1 q2
    refine .gv (mv rfl) rfl rfl rfl q2 rfl rfl ?_
    refine .gv (mv rfl) rfl rfl rfl q2 rfl rfl ?_
    refine .gv (bi rfl rfl rfl) rfl rfl rfl q2 rfl rfl ?_
    refine .v (pkT rfl q2 rfl) rfl rfl rfl ?_
    refine .v (asg rfl) rfl rfl rfl ?_
    refine .nil ?_
    refine .seqN ?_
    refine .ret ?_
    refine .res1 rfl (rvT rfl) (fun w' S => ⟨decide (n_ ≤ high), hF, rfl, S.below⟩)
  replace hF := hF.2 q2
  refine .gS rfl rfl rfl q2 rfl rfl ?_
  refine .gS rfl rfl rfl q2 rfl rfl ?_
  refine .gS rfl rfl rfl q2 rfl rfl ?_
  refine .v (pkF rfl q2 rfl) rfl rfl rfl ?_
  refine .v (asg rfl) rfl rfl rfl ?_
  refine .nil ?_
  refine .seqN ?_
  refine .ret ?_
  refine .res1 rfl (rvT rfl) (fun w' S => ⟨false, hF, rfl, S.below⟩)

theorem c_in_ {h : FH} {w : World} (hs : Sub h w) (n_ : Int) (low : Int) (high : Int) : Calls Try.prog 17 #[.int .i64 n_, .int .i64 low, .int .i64 high] w fun e w' => e = .returned (.bool (sp_in_ n_ low high)) ∧ Below w.heap.size w w' :=
  (w_in_ hs n_ low high (fun r => r = sp_in_ n_ low high) (ok_in_ n_ low high)).mono fun _ _ ⟨_, hk, he, hb⟩ => ⟨by rw [he, hk], hb⟩

theorem w_at_ {h : FH} {w : World} (hs : Sub h w) (code : Int) (index : Int) (K : Fault → Prop) (hF : F_at_ code index K) : Calls Try.prog 16 #[.int .i64 code, .int .i64 index] w fun e w' => ∃ r : Fault, K r ∧ e = .returned (.agg #[.int .i64 r.code, .int .i64 r.index]) ∧ Below w.heap.size w w' := by
  refine enter (args := [.int .i64 code, .int .i64 index]) Try.func16 rfl Try.ntmps16 rfl hs ?_
  refine .seq ?_
  refine .region ?_
  refine al tZ28 rfl (fun pv => ?_)
  refine .nil ?_
  refine .seqN ?_
  refine .seq ?_
  refine .region ?_
  refine .v (mv rfl) rfl rfl rfl ?_
  refine .v (mv rfl) rfl rfl rfl ?_
  refine .v (bld (cs := #[.int .i64 code, .int .i64 index]) (pv := [(0, .int .i64 code), (1, .int .i64 index)]) tB28 rfl rfl) rfl rfl rfl ?_
  refine st (p := pv) (off := 0) (k := 0) (vs := [.int .i64 code, .int .i64 index]) rfl rfl rfl (fun w => (tA28 w).2) rfl rfl rfl rfl ?_
  refine .cast (A' := [Box pv [.int .i64 code, .int .i64 index]]) rfl ?_
  refine .nil ?_
  refine .seqN ?_
  refine .ret ?_
  refine .res1 rfl (rvC rfl tA28 (k := 0) rfl rfl) (fun w' S => ⟨(⟨code, index⟩ : Fault), hF, rfl, S.below⟩)

theorem c_at_ {h : FH} {w : World} (hs : Sub h w) (code : Int) (index : Int) : Calls Try.prog 16 #[.int .i64 code, .int .i64 index] w fun e w' => e = .returned (.agg #[.int .i64 (sp_at_ code index).code, .int .i64 (sp_at_ code index).index]) ∧ Below w.heap.size w w' :=
  (w_at_ hs code index (fun r => r = sp_at_ code index) (ok_at_ code index)).mono fun _ _ ⟨_, hk, he, hb⟩ => ⟨by rw [he, hk], hb⟩

theorem w_has {h : FH} {w : World} (hs : Sub h w) (l : List Int) (al2 : Option Addr) (cl2 : Nat) (_q1 : RSl h al2 l) (_q2 : l.length ≤ cl2) (n_ : Int) (K : Bool → Prop) (hF : F_has l n_ K) : Calls Try.prog 40 #[.slice al2 l.length cl2, .int .i64 n_] w fun e w' => ∃ r : Bool, K r ∧ e = .returned (.bool r) ∧ Below w.heap.size w w' := by
  refine enter (args := [.slice al2 l.length cl2, .int .i64 n_]) Try.func40 rfl Try.ntmps40 rfl hs ?_
  refine .seq ?_
  refine .region ?_
  refine .v (asg rfl) rfl rfl rfl ?_
  refine .nil ?_
  refine .seqN ?_
  refine .seq ?_
  refine .seq ?_
  refine .region ?_
  refine .v (asg rfl) rfl rfl rfl ?_
  refine .nil ?_
  refine .seqN ?_
  refine .block ?_
  obtain ⟨I1, μ1, q45, q46⟩ := hF
  refine .loop' (σ := Int) (fun z => I1 z) (fun z => μ1 z) (fun z => [(0, .slice al2 l.length cl2), (1, .int .i64 n_), (5, .int .i64 z)]) (fun _ => []) (fun _ => h) 0 q45 (.cons rfl (.cons rfl (.cons rfl (.nil)))) rfl (FH.le_refl _) ?_
  rintro i q45
  have hF := q46 i q45
  show J _ _ _ _ _ [(0, .slice al2 l.length cl2), (1, .int .i64 n_), (5, .int .i64 i)] [] h
  refine .seq ?_
  refine .seq ?_
  refine .region ?_
  refine .v (mv rfl) rfl rfl rfl ?_
  refine .v (mv rfl) rfl rfl rfl ?_
  refine .v (ln rfl tS22.is) rfl rfl rfl ?_
  refine .v (bi rfl rfl rfl) rfl rfl rfl ?_
  refine .nil ?_
  refine .seqN ?_
  refine .cond rfl (fun q48 => ?_) (fun q48 => ?_)
  · replace hF := hF.1 q48
    refine .skip ?_
    refine .seqN ?_
    refine .seq ?_
    refine .block ?_
    refine .seq ?_
    refine .region ?_
    refine .v (mv rfl) rfl rfl rfl ?_
    refine .v (mv rfl) rfl rfl rfl ?_
    obtain ⟨q53, hF⟩ := hF
    refine .v (ix rfl rfl tS22 (_q1.ne (by decide) (inb_pos q53)) q53) rfl rfl rfl ?_
    refine .v (ld1 (v := .int .i64 (gt l i)) rfl tO3 (cellH (_q1.elemF q53 (by decide) 0 _ rfl))) rfl rfl rfl ?_
    refine .v (mv rfl) rfl rfl rfl ?_
    refine .v (bi rfl rfl rfl) rfl rfl rfl ?_
    refine .nil ?_
    refine .seqN ?_
    refine .cond rfl (fun q54 => ?_) (fun q54 => ?_)
    · replace hF := hF.1 q54
      refine .seq ?_
      refine .region ?_
      refine .v (asg rfl) rfl rfl rfl ?_
      refine .nil ?_
      refine .seqN ?_
      refine .ret ?_
      refine .blkR ?_
      refine .seqR ?_
      refine .seqR ?_
      refine .blkR ?_
      refine .seqR ?_
      refine .res1 rfl (rvT rfl) (fun w' S => ⟨true, hF, rfl, S.below⟩)
    replace hF := hF.2 q54
    refine .skip ?_
    refine .blkN ?_
    refine .seqN ?_
    refine .region ?_
    refine .v (mv rfl) rfl rfl rfl ?_
    refine .v (bi rfl rfl rfl) rfl rfl rfl ?_
    refine .v (asg rfl) rfl rfl rfl ?_
    refine .nil ?_
    exact .round (IntKind.i64.wrap (i + 1)) hF.1 hF.2 (.cons rfl (.cons rfl (.cons rfl (.nil)))) rfl (FH.le_refl _)
  replace hF := hF.2 q48
  refine .exit ?_
  refine .seqX ?_
  refine .seqX ?_
  refine .blkX ?_
  refine .seqN ?_
  refine .seq ?_
  refine .region ?_
  refine .v (asg rfl) rfl rfl rfl ?_
  refine .nil ?_
  refine .seqN ?_
  refine .ret ?_
  refine .res1 rfl (rvT rfl) (fun w' S => ⟨false, hF, rfl, S.below⟩)

theorem c_has {h : FH} {w : World} (hs : Sub h w) (l : List Int) (al2 : Option Addr) (cl2 : Nat) (_q1 : RSl h al2 l) (_q2 : l.length ≤ cl2) (n_ : Int) (hp : pre_has l n_) : Calls Try.prog 40 #[.slice al2 l.length cl2, .int .i64 n_] w fun e w' => e = .returned (.bool (sp_has l n_)) ∧ Below w.heap.size w w' :=
  (w_has hs l al2 cl2 _q1 _q2 n_ (fun r => r = sp_has l n_) (ok_has l n_ hp)).mono fun _ _ ⟨_, hk, he, hb⟩ => ⟨by rw [he, hk], hb⟩

theorem w_numbers {h : FH} {w : World} (hs : Sub h w) (a : List Int) (aa : Option Addr) (ca : Nat) (_q1 : RSl h aa a) (_q2 : a.length ≤ ca) (b : List Int) (ab : Option Addr) (cb : Nat) (_q3 : RSl h ab b) (_q4 : b.length ≤ cb) (K : Bool → Prop) (hF : F_numbers a b K) : Calls Try.prog 39 #[.slice aa a.length ca, .slice ab b.length cb] w fun e w' => ∃ r : Bool, K r ∧ e = .returned (.bool r) ∧ Below w.heap.size w w' := by
  refine enter (args := [.slice aa a.length ca, .slice ab b.length cb]) Try.func39 rfl Try.ntmps39 rfl hs ?_
  refine .seq ?_
  refine .region ?_
  refine .v (asg rfl) rfl rfl rfl ?_
  refine .nil ?_
  refine .seqN ?_
  refine .seq ?_
  refine .seq ?_
  refine .region ?_
  refine .v (mv rfl) rfl rfl rfl ?_
  refine .v (ln rfl tS22.is) rfl rfl rfl ?_
  refine .v (mv rfl) rfl rfl rfl ?_
  refine .v (ln rfl tS22.is) rfl rfl rfl ?_
  refine .v (bi rfl rfl rfl) rfl rfl rfl ?_
  refine .nil ?_
  refine .seqN ?_
  refine .cond rfl (fun q6 => ?_) (fun q6 => ?_)
  · replace hF := hF.1 q6
    refine .seq ?_
    refine .region ?_
    refine .v (asg rfl) rfl rfl rfl ?_
    refine .nil ?_
    refine .seqN ?_
    refine .ret ?_
    refine .seqR ?_
    refine .res1 rfl (rvT rfl) (fun w' S => ⟨false, hF, rfl, S.below⟩)
  replace hF := hF.2 q6
  refine .skip ?_
  refine .seqN ?_
  refine .seq ?_
  refine .seq ?_
  refine .region ?_
  refine .v (asg rfl) rfl rfl rfl ?_
  refine .nil ?_
  refine .seqN ?_
  refine .block ?_
  obtain ⟨I1, μ1, q64, q65⟩ := hF
  refine .loop' (σ := Int) (fun z => I1 z) (fun z => μ1 z) (fun z => [(0, .slice aa a.length ca), (1, .slice ab b.length cb), (5, .int .i64 z)]) (fun _ => []) (fun _ => h) 0 q64 (.cons rfl (.cons rfl (.cons rfl (.nil)))) rfl (FH.le_refl _) ?_
  rintro i q64
  have hF := q65 i q64
  show J _ _ _ _ _ [(0, .slice aa a.length ca), (1, .slice ab b.length cb), (5, .int .i64 i)] [] h
  refine .seq ?_
  refine .seq ?_
  refine .region ?_
  refine .v (mv rfl) rfl rfl rfl ?_
  refine .v (mv rfl) rfl rfl rfl ?_
  refine .v (ln rfl tS22.is) rfl rfl rfl ?_
  refine .v (bi rfl rfl rfl) rfl rfl rfl ?_
  refine .nil ?_
  refine .seqN ?_
  refine .cond rfl (fun q67 => ?_) (fun q67 => ?_)
  · replace hF := hF.1 q67
    refine .skip ?_
    refine .seqN ?_
    refine .seq ?_
    refine .block ?_
    refine .seq ?_
    refine .open_ (by kernel_rfl) (by kernel_rfl) ?_
    refine .v (mv rfl) rfl rfl rfl ?_
    refine .v (mv rfl) rfl rfl rfl ?_
    obtain ⟨q74, hF⟩ := hF
    refine .v (ix rfl rfl tS22 (_q1.ne (by decide) (inb_pos q74)) q74) rfl rfl rfl ?_
    refine .v (ld1 (v := .int .i64 (gt a i)) rfl tO3 (cellH (_q1.elemF q74 (by decide) 0 _ rfl))) rfl rfl rfl ?_
    refine .v (mv rfl) rfl rfl rfl ?_
    refine .v (mv rfl) rfl rfl rfl ?_
    obtain ⟨q75, hF⟩ := hF
    refine .v (ix rfl rfl tS22 (_q3.ne (by decide) (inb_pos q75)) q75) rfl rfl rfl ?_
    refine .v (ld1 (v := .int .i64 (gt b i)) rfl tO3 (cellH (_q3.elemF q75 (by decide) 0 _ rfl))) rfl rfl rfl ?_
    refine .v (bi rfl rfl rfl) rfl rfl rfl ?_
    refine .fin ?_
    refine .seqN ?_
    refine .cond rfl (fun q76 => ?_) (fun q76 => ?_)
    · replace hF := hF.1 q76
      refine .seq ?_
      refine .region ?_
      refine .v (asg rfl) rfl rfl rfl ?_
      refine .nil ?_
      refine .seqN ?_
      refine .ret ?_
      refine .blkR ?_
      refine .seqR ?_
      refine .seqR ?_
      refine .blkR ?_
      refine .seqR ?_
      refine .res1 rfl (rvT rfl) (fun w' S => ⟨false, hF, rfl, S.below⟩)
    replace hF := hF.2 q76
    refine .skip ?_
    refine .blkN ?_
    refine .seqN ?_
    refine .region ?_
    refine .v (mv rfl) rfl rfl rfl ?_
    refine .v (bi rfl rfl rfl) rfl rfl rfl ?_
    refine .v (asg rfl) rfl rfl rfl ?_
    refine .nil ?_
    exact .round (IntKind.i64.wrap (i + 1)) hF.1 hF.2 (.cons rfl (.cons rfl (.cons rfl (.nil)))) rfl (FH.le_refl _)
  replace hF := hF.2 q67
  refine .exit ?_
  refine .seqX ?_
  refine .seqX ?_
  refine .blkX ?_
  refine .seqN ?_
  refine .seq ?_
  refine .region ?_
  refine .v (asg rfl) rfl rfl rfl ?_
  refine .nil ?_
  refine .seqN ?_
  refine .ret ?_
  refine .res1 rfl (rvT rfl) (fun w' S => ⟨true, hF, rfl, S.below⟩)

theorem c_numbers {h : FH} {w : World} (hs : Sub h w) (a : List Int) (aa : Option Addr) (ca : Nat) (_q1 : RSl h aa a) (_q2 : a.length ≤ ca) (b : List Int) (ab : Option Addr) (cb : Nat) (_q3 : RSl h ab b) (_q4 : b.length ≤ cb) (hp : pre_numbers a b) : Calls Try.prog 39 #[.slice aa a.length ca, .slice ab b.length cb] w fun e w' => e = .returned (.bool (sp_numbers a b)) ∧ Below w.heap.size w w' :=
  (w_numbers hs a aa ca _q1 _q2 b ab cb _q3 _q4 (fun r => r = sp_numbers a b) (ok_numbers a b hp)).mono fun _ _ ⟨_, hk, he, hb⟩ => ⟨by rw [he, hk], hb⟩

theorem w_isNaN1 {h : FH} {w : World} (hs : Sub h w) (x : Int) (K : Bool → Prop) (hF : F_isNaN1 x K) : Calls Try.prog 58 #[.int .i64 x] w fun e w' => ∃ r : Bool, K r ∧ e = .returned (.bool r) ∧ Below w.heap.size w w' := by
  refine enter (args := [.int .i64 x]) Try.func58 rfl Try.ntmps58 rfl hs ?_
  refine .seq ?_
  refine .region ?_
  refine .v (asg rfl) rfl rfl rfl ?_
  refine .nil ?_
  refine .seqN ?_
  refine .seq ?_
  refine .region ?_
  refine .v (mv rfl) rfl rfl rfl ?_
  refine .v (mv rfl) rfl rfl rfl ?_
  refine .v (bi rfl rfl rfl) rfl rfl rfl ?_
  refine .v (asg rfl) rfl rfl rfl ?_
  refine .nil ?_
  refine .seqN ?_
  refine .ret ?_
  refine .res1 rfl (rvT rfl) (fun w' S => ⟨x != x, hF, rfl, S.below⟩)

theorem c_isNaN1 {h : FH} {w : World} (hs : Sub h w) (x : Int) : Calls Try.prog 58 #[.int .i64 x] w fun e w' => e = .returned (.bool (sp_isNaN1 x)) ∧ Below w.heap.size w w' :=
  (w_isNaN1 hs x (fun r => r = sp_isNaN1 x) (ok_isNaN1 x)).mono fun _ _ ⟨_, hk, he, hb⟩ => ⟨by rw [he, hk], hb⟩

theorem w_compare {h : FH} {w : World} (hs : Sub h w) (x : Int) (y : Int) (K : Int → Prop) (hF : F_compare x y K) : Calls Try.prog 48 #[.int .i64 x, .int .i64 y] w fun e w' => ∃ r : Int, K r ∧ e = .returned (.int .i64 r) ∧ Below w.heap.size w w' := by
  refine enter (args := [.int .i64 x, .int .i64 y]) Try.func48 rfl Try.ntmps48 rfl hs ?_
  refine .seq ?_
  refine .region ?_
  refine .v (asg rfl) rfl rfl rfl ?_
  refine .nil ?_
  refine .seqN ?_
  refine .seq ?_
  refine .region ?_
  refine .v (mv rfl) rfl rfl rfl ?_
  obtain ⟨r2, q1⟩ : ∃ y_ : Bool, y_ = sp_isNaN1 x := ⟨_, rfl⟩
  replace hF := hF r2 q1
  refine .c (cl (v := .bool r2) Try.call58 rfl rfl (fun w S => (by rw [q1]; exact c_isNaN1 S.sub x ))) rfl rfl rfl ?_
  refine .v (asg rfl) rfl rfl rfl ?_
  refine .nil ?_
  refine .seqN ?_
  refine .seq ?_
  refine .region ?_
  refine .v (mv rfl) rfl rfl rfl ?_
  obtain ⟨r3, q2⟩ : ∃ y_ : Bool, y_ = sp_isNaN1 y := ⟨_, rfl⟩
  replace hF := hF r3 q2
  refine .c (cl (v := .bool r3) Try.call58 rfl rfl (fun w S => (by rw [q2]; exact c_isNaN1 S.sub y ))) rfl rfl rfl ?_
  refine .v (asg rfl) rfl rfl rfl ?_
  refine .nil ?_
  refine .seqN ?_
  refine .seq ?_
  refine .seq ?_
  refine .region ?_
  refine .v (mv rfl) rfl rfl rfl ?_
  refine .nil ?_
  refine .seqN ?_
  refine .cond rfl (fun q6 => ?_) (fun q6 => ?_)
  · replace hF := hF.1 q6
    refine .seq ?_
    refine .seq ?_
    refine .region ?_
    refine .v (mv rfl) rfl rfl rfl ?_
    refine .nil ?_
    refine .seqN ?_
    refine .cond rfl (fun q8 => ?_) (fun q8 => ?_)
    · replace hF := hF.1 q8
      refine .seq ?_
      refine .region ?_
      refine .v (asg rfl) rfl rfl rfl ?_
      refine .nil ?_
      refine .seqN ?_
      refine .ret ?_
      refine .seqR ?_
      refine .seqR ?_
      refine .res1 rfl (rvT rfl) (fun w' S => ⟨0, hF, rfl, S.below⟩)
    replace hF := hF.2 q8
    refine .skip ?_
    refine .seqN ?_
    refine .seq ?_
    refine .region ?_
    refine .v (asg rfl) rfl rfl rfl ?_
    refine .nil ?_
    refine .seqN ?_
    refine .ret ?_
    refine .seqR ?_
    refine .res1 rfl (rvT rfl) (fun w' S => ⟨(-1), hF, rfl, S.below⟩)
  replace hF := hF.2 q6
  refine .skip ?_
  refine .seqN ?_
  refine .seq ?_
  refine .seq ?_
  refine .region ?_
  refine .v (mv rfl) rfl rfl rfl ?_
  refine .nil ?_
  refine .seqN ?_
  refine .cond rfl (fun q10 => ?_) (fun q10 => ?_)
  · replace hF := hF.1 q10
    refine .seq ?_
    refine .region ?_
    refine .v (asg rfl) rfl rfl rfl ?_
    refine .nil ?_
    refine .seqN ?_
    refine .ret ?_
    refine .seqR ?_
    refine .res1 rfl (rvT rfl) (fun w' S => ⟨1, hF, rfl, S.below⟩)
  replace hF := hF.2 q10
  refine .skip ?_
  refine .seqN ?_
  refine .seq ?_
  refine .seq ?_
  refine .region ?_
  refine .v (mv rfl) rfl rfl rfl ?_
  refine .v (mv rfl) rfl rfl rfl ?_
  refine .v (bi rfl rfl rfl) rfl rfl rfl ?_
  refine .nil ?_
  refine .seqN ?_
  refine .cond rfl (fun q12 => ?_) (fun q12 => ?_)
  · replace hF := hF.1 q12
    refine .seq ?_
    refine .region ?_
    refine .v (asg rfl) rfl rfl rfl ?_
    refine .nil ?_
    refine .seqN ?_
    refine .ret ?_
    refine .seqR ?_
    refine .res1 rfl (rvT rfl) (fun w' S => ⟨(-1), hF, rfl, S.below⟩)
  replace hF := hF.2 q12
  refine .skip ?_
  refine .seqN ?_
  refine .seq ?_
  refine .seq ?_
  refine .region ?_
  refine .v (mv rfl) rfl rfl rfl ?_
  refine .v (mv rfl) rfl rfl rfl ?_
  refine .v (bi rfl rfl rfl) rfl rfl rfl ?_
  refine .nil ?_
  refine .seqN ?_
  refine .cond rfl (fun q14 => ?_) (fun q14 => ?_)
  · replace hF := hF.1 q14
    refine .seq ?_
    refine .region ?_
    refine .v (asg rfl) rfl rfl rfl ?_
    refine .nil ?_
    refine .seqN ?_
    refine .ret ?_
    refine .seqR ?_
    refine .res1 rfl (rvT rfl) (fun w' S => ⟨1, hF, rfl, S.below⟩)
  replace hF := hF.2 q14
  refine .skip ?_
  refine .seqN ?_
  refine .seq ?_
  refine .region ?_
  refine .v (asg rfl) rfl rfl rfl ?_
  refine .nil ?_
  refine .seqN ?_
  refine .ret ?_
  refine .res1 rfl (rvT rfl) (fun w' S => ⟨0, hF, rfl, S.below⟩)

theorem c_compare {h : FH} {w : World} (hs : Sub h w) (x : Int) (y : Int) : Calls Try.prog 48 #[.int .i64 x, .int .i64 y] w fun e w' => e = .returned (.int .i64 (sp_compare x y)) ∧ Below w.heap.size w w' :=
  (w_compare hs x y (fun r => r = sp_compare x y) (ok_compare x y)).mono fun _ _ ⟨_, hk, he, hb⟩ => ⟨by rw [he, hk], hb⟩

theorem w_cmpOr {h : FH} {w : World} (hs : Sub h w) (vals : List Int) (avals : Option Addr) (cvals : Nat) (_q1 : RSl h avals vals) (_q2 : vals.length ≤ cvals) (K : Int → Prop) (hF : F_cmpOr vals K) : Calls Try.prog 47 #[.slice avals vals.length cvals] w fun e w' => ∃ r : Int, K r ∧ e = .returned (.int .i64 r) ∧ Below w.heap.size w w' := by
  refine enter (args := [.slice avals vals.length cvals]) Try.func47 rfl Try.ntmps47 rfl hs ?_
  refine .seq ?_
  refine .region ?_
  refine .v (asg rfl) rfl rfl rfl ?_
  refine .nil ?_
  refine .seqN ?_
  refine .seq ?_
  refine .region ?_
  refine .v (asg rfl) rfl rfl rfl ?_
  refine .nil ?_
  refine .seqN ?_
  refine .seq ?_
  refine .seq ?_
  refine .region ?_
  refine .v (mv rfl) rfl rfl rfl ?_
  refine .v (ln rfl tS22.is) rfl rfl rfl ?_
  refine .v (mv rfl) rfl rfl rfl ?_
  refine .nil ?_
  refine .seqN ?_
  refine .block ?_
  obtain ⟨I1, μ1, q50, q51⟩ := hF
  refine .loop' (σ := Int) (fun z => I1 z) (fun z => μ1 z) (fun z => [(3, .int .i64 0), (6, .slice avals vals.length cvals), (7, .int .i64 ((vals.length : Nat) : Int)), (8, .int .i64 z)]) (fun _ => []) (fun _ => h) 0 q50 (.cons rfl (.cons rfl (.cons rfl (.cons rfl (.nil))))) rfl (FH.le_refl _) ?_
  rintro t8 q50
  have hF := q51 t8 q50
  show J _ _ _ _ _ [(3, .int .i64 0), (6, .slice avals vals.length cvals), (7, .int .i64 ((vals.length : Nat) : Int)), (8, .int .i64 t8)] [] h
  refine .seq ?_
  refine .region ?_
  refine .v (bi rfl rfl rfl) rfl rfl rfl ?_
  refine .nil ?_
  refine .seqN ?_
  refine .seq ?_
  refine .cond rfl (fun q54 => ?_) (fun q54 => ?_)
  · replace hF := hF.1 q54
    refine .skip ?_
    refine .seqN ?_
    refine .seq ?_
    refine .block ?_
    refine .seq ?_
    refine .region ?_
    obtain ⟨q59, hF⟩ := hF
    refine .v (ix rfl rfl tS22 (_q1.ne (by decide) (inb_pos q59)) q59) rfl rfl rfl ?_
    refine .v (ld1 (v := .int .i64 (gt vals t8)) rfl tO3 (cellH (_q1.elemF q59 (by decide) 0 _ rfl))) rfl rfl rfl ?_
    refine .v (asg rfl) rfl rfl rfl ?_
    refine .nil ?_
    refine .seqN ?_
    refine .seq ?_
    refine .region ?_
    refine .v (mv rfl) rfl rfl rfl ?_
    refine .v (mv rfl) rfl rfl rfl ?_
    refine .v (bi rfl rfl rfl) rfl rfl rfl ?_
    refine .nil ?_
    refine .seqN ?_
    refine .cond rfl (fun q60 => ?_) (fun q60 => ?_)
    · replace hF := hF.1 q60
      refine .seq ?_
      refine .region ?_
      refine .v (mv rfl) rfl rfl rfl ?_
      refine .v (asg rfl) rfl rfl rfl ?_
      refine .nil ?_
      refine .seqN ?_
      refine .ret ?_
      refine .blkR ?_
      refine .seqR ?_
      refine .seqR ?_
      refine .blkR ?_
      refine .seqR ?_
      refine .res1 rfl (rvT rfl) (fun w' S => ⟨(gt vals t8), hF, rfl, S.below⟩)
    replace hF := hF.2 q60
    refine .skip ?_
    refine .blkN ?_
    refine .seqN ?_
    refine .region ?_
    refine .v (bi rfl rfl rfl) rfl rfl rfl ?_
    refine .v (mv rfl) rfl rfl rfl ?_
    refine .nil ?_
    exact .round (IntKind.i64.wrap (t8 + 1)) hF.1 hF.2 (.cons rfl (.cons rfl (.cons rfl (.cons rfl (.nil))))) rfl (FH.le_refl _)
  replace hF := hF.2 q54
  refine .exit ?_
  refine .seqX ?_
  refine .seqX ?_
  refine .blkX ?_
  refine .seqN ?_
  refine .seq ?_
  refine .region ?_
  refine .v (mv rfl) rfl rfl rfl ?_
  refine .v (asg rfl) rfl rfl rfl ?_
  refine .nil ?_
  refine .seqN ?_
  refine .ret ?_
  refine .res1 rfl (rvT rfl) (fun w' S => ⟨0, hF, rfl, S.below⟩)

theorem c_cmpOr {h : FH} {w : World} (hs : Sub h w) (vals : List Int) (avals : Option Addr) (cvals : Nat) (_q1 : RSl h avals vals) (_q2 : vals.length ≤ cvals) (hp : pre_cmpOr vals) : Calls Try.prog 47 #[.slice avals vals.length cvals] w fun e w' => e = .returned (.int .i64 (sp_cmpOr vals)) ∧ Below w.heap.size w w' :=
  (w_cmpOr hs vals avals cvals _q1 _q2 (fun r => r = sp_cmpOr vals) (ok_cmpOr vals hp)).mono fun _ _ ⟨_, hk, he, hb⟩ => ⟨by rw [he, hk], hb⟩

theorem w_rank {h : FH} {w : World} (hs : Sub h w) (h_ : Hap) (K : Int → Prop) (hF : F_rank h_ K) : Calls Try.prog 44 #[.agg #[.int .i64 h_.time, .int .i64 h_.index, .bool h_.ending]] w fun e w' => ∃ r : Int, K r ∧ e = .returned (.int .i64 r) ∧ Below w.heap.size w w' := by
  refine enter (args := [.agg #[.int .i64 h_.time, .int .i64 h_.index, .bool h_.ending]]) Try.func44 rfl Try.ntmps44 rfl hs ?_
  refine .seq ?_
  refine .region ?_
  refine bx (vs := [.int .i64 h_.time, .int .i64 h_.index, .bool h_.ending]) rfl rfl rfl (fun ph => ?_)
  refine .v (asg rfl) rfl rfl rfl ?_
  refine .nil ?_
  refine .seqN ?_
  refine .seq ?_
  refine .seq ?_
  refine .region ?_
  refine .v (fa rfl tF63_2) rfl rfl rfl ?_
  refine .v (ld1 rfl tO4 (cellB (off := 2) (k := 0) rfl rfl)) rfl rfl rfl ?_
  refine .nil ?_
  refine .seqN ?_
  refine .cond rfl (fun q2 => ?_) (fun q2 => ?_)
  · replace hF := hF.1 q2
    refine .seq ?_
    refine .region ?_
    refine .v (asg rfl) rfl rfl rfl ?_
    refine .nil ?_
    refine .seqN ?_
    refine .ret ?_
    refine .seqR ?_
    refine .res1 rfl (rvT rfl) (fun w' S => ⟨0, hF, rfl, S.below⟩)
  replace hF := hF.2 q2
  refine .skip ?_
  refine .seqN ?_
  refine .seq ?_
  refine .region ?_
  refine .v (asg rfl) rfl rfl rfl ?_
  refine .nil ?_
  refine .seqN ?_
  refine .ret ?_
  refine .res1 rfl (rvT rfl) (fun w' S => ⟨1, hF, rfl, S.below⟩)

theorem c_rank {h : FH} {w : World} (hs : Sub h w) (h_ : Hap) : Calls Try.prog 44 #[.agg #[.int .i64 h_.time, .int .i64 h_.index, .bool h_.ending]] w fun e w' => e = .returned (.int .i64 (sp_rank h_)) ∧ Below w.heap.size w w' :=
  (w_rank hs h_ (fun r => r = sp_rank h_) (ok_rank h_)).mono fun _ _ ⟨_, hk, he, hb⟩ => ⟨by rw [he, hk], hb⟩

theorem w_hcmp {h : FH} {w : World} (hs : Sub h w) (a : Hap) (b : Hap) (px : Addr) (_q1 : CellsAt h px [.func (.func 44) #[] #[]]) (K : Int → Prop) (hF : F_hcmp a b K) : Calls Try.prog 46 #[.agg #[.int .i64 a.time, .int .i64 a.index, .bool a.ending], .agg #[.int .i64 b.time, .int .i64 b.index, .bool b.ending], .pointer (some px)] w fun e w' => ∃ r : Int, K r ∧ e = .returned (.int .i64 r) ∧ Below w.heap.size w w' := by
  refine enter (args := [.agg #[.int .i64 a.time, .int .i64 a.index, .bool a.ending], .agg #[.int .i64 b.time, .int .i64 b.index, .bool b.ending], .pointer (some px)]) Try.func46 rfl Try.ntmps46 rfl hs ?_
  refine .seq ?_
  refine .region ?_
  refine bx (vs := [.int .i64 a.time, .int .i64 a.index, .bool a.ending]) rfl rfl rfl (fun pa => ?_)
  refine bx (vs := [.int .i64 b.time, .int .i64 b.index, .bool b.ending]) rfl rfl rfl (fun pb => ?_)
  refine .v (asg rfl) rfl rfl rfl ?_
  refine .nil ?_
  refine .seqN ?_
  refine .seq ?_
  obtain ⟨r2, q2⟩ : ∃ y_ : Int, y_ = sp_compare a.time b.time := ⟨_, rfl⟩
  replace hF := hF r2 q2
  obtain ⟨r3, q3⟩ : ∃ y_ : Int, y_ = sp_rank a := ⟨_, rfl⟩
  replace hF := hF r3 q3
  obtain ⟨r4, q4⟩ : ∃ y_ : Int, y_ = sp_rank b := ⟨_, rfl⟩
  replace hF := hF r4 q4
  obtain ⟨r5, q5⟩ : ∃ y_ : Int, y_ = sp_compare r3 r4 := ⟨_, rfl⟩
  replace hF := hF r5 q5
  obtain ⟨r6, q6⟩ : ∃ y_ : Int, y_ = sp_compare a.index b.index := ⟨_, rfl⟩
  replace hF := hF r6 q6
  refine .openA (s0 := [(2, .pointer (some px)), (3, .pointer (some pa)), (4, .pointer (some pb))]) [0, 1, 2, 3, 4, 5, 6, 7, 8, 9, 10, 11, 12, 13, 14, 15, 16] [(0, .pointer (some (pa.add 0))), (1, .int .i64 a.time), (2, .pointer (some (pb.add 0))), (3, .int .i64 b.time), (4, .int .i64 r2), (5, .func (.func 44) #[] #[]), (6, .agg #[.int .i64 a.time, .int .i64 a.index, .bool a.ending]), (7, .int .i64 r3), (8, .func (.func 44) #[] #[]), (9, .agg #[.int .i64 b.time, .int .i64 b.index, .bool b.ending]), (10, .int .i64 r4), (11, .int .i64 r5), (12, .pointer (some (pa.add 1))), (13, .int .i64 a.index), (14, .pointer (some (pb.add 1))), (15, .int .i64 b.index), (16, .int .i64 r6)] (by kernel_rfl) (.cons rfl (.cons rfl (.cons rfl (.nil)))) [2, 3, 4] [] rfl (by kernel_rfl) ?_
  refine .step [17] 17 rfl (by kernel_rfl) (by kernel_rfl) (.v [] rfl rfl rfl rfl rfl rfl (fun _ => fa rfl tF63_0) (.v [(6, .pointer (some (pa.add 0)))] rfl rfl rfl rfl rfl rfl (fun _ => ld1 rfl tO3 (cellB (off := 0) (k := 1) rfl rfl)) (.v [] rfl rfl rfl rfl rfl rfl (fun _ => fa rfl tF63_0) (.v [(8, .pointer (some (pb.add 0)))] rfl rfl rfl rfl rfl rfl (fun _ => ld1 rfl tO3 (cellB (off := 0) (k := 0) rfl rfl)) (.c [(7, .int .i64 a.time), (9, .int .i64 b.time)] rfl rfl rfl rfl rfl rfl (fun _ => cl (v := .int .i64 r2) Try.call48 rfl rfl (fun w S => (by rw [q2]; exact c_compare S.sub a.time b.time ))) (.v [] rfl rfl rfl rfl rfl rfl (fun _ => ld1 (v := .func (.func 44) #[] #[]) rfl tO77 (cellH (CellsAt.mono (FH.le_refl _) _q1 0 _ rfl))) (.v [] rfl rfl rfl rfl rfl rfl (fun _ => ldA (cs := [.int .i64 a.time, .int .i64 a.index, .bool a.ending]) rfl tA63 rfl (cellsB (off := 0) (k := 1) rfl (m := 3) rfl)) (.c [(11, .func (.func 44) #[] #[]), (12, .agg #[.int .i64 a.time, .int .i64 a.index, .bool a.ending]), (10, .int .i64 r2)] rfl rfl rfl rfl rfl rfl (fun _ => cl (v := .int .i64 r3) Try.call44 rfl rfl (fun w S => (by rw [q3]; exact c_rank S.sub a ))) (.v [] rfl rfl rfl rfl rfl rfl (fun _ => ld1 (v := .func (.func 44) #[] #[]) rfl tO77 (cellH (CellsAt.mono (FH.le_refl _) _q1 0 _ rfl))) (.v [] rfl rfl rfl rfl rfl rfl (fun _ => ldA (cs := [.int .i64 b.time, .int .i64 b.index, .bool b.ending]) rfl tA63 rfl (cellsB (off := 0) (k := 0) rfl (m := 3) rfl)) (.c [(14, .func (.func 44) #[] #[]), (15, .agg #[.int .i64 b.time, .int .i64 b.index, .bool b.ending]), (13, .int .i64 r3)] rfl rfl rfl rfl rfl rfl (fun _ => cl (v := .int .i64 r4) Try.call44 rfl rfl (fun w S => (by rw [q4]; exact c_rank S.sub b ))) (.c [(13, .int .i64 r3), (16, .int .i64 r4), (16, .int .i64 r4)] rfl rfl rfl rfl rfl rfl (fun _ => cl (v := .int .i64 r5) Try.call48 rfl rfl (fun w S => (by rw [q5]; exact c_compare S.sub r3 r4 ))) (.v [] rfl rfl rfl rfl rfl rfl (fun _ => fa rfl tF63_1) (.v [(18, .pointer (some (pa.add 1)))] rfl rfl rfl rfl rfl rfl (fun _ => ld1 rfl tO3 (cellB (off := 1) (k := 1) rfl rfl)) (.v [] rfl rfl rfl rfl rfl rfl (fun _ => fa rfl tF63_1) (.v [(20, .pointer (some (pb.add 1)))] rfl rfl rfl rfl rfl rfl (fun _ => ld1 rfl tO3 (cellB (off := 1) (k := 0) rfl rfl)) (.c [(19, .int .i64 a.index), (21, .int .i64 b.index), (17, .int .i64 r5)] rfl rfl rfl rfl rfl rfl (fun _ => cl (v := .int .i64 r6) Try.call48 rfl rfl (fun w S => (by rw [q6]; exact c_compare S.sub a.index b.index ))) (.nil)))))))))))))))))) (.cons [(10, .int .i64 r2), (17, .int .i64 r5), (22, .int .i64 r6)] rfl rfl (fun sL hL => ?_) (.nil))
  refine bs2 (cs := #[.int .i64 r2, .int .i64 r5, .int .i64 r6]) (pv := [(0, .int .i64 r2), (1, .int .i64 r5), (2, .int .i64 r6)]) tS22 rfl rfl (by decide) (by decide) rfl rfl rfl (fun a2 _ => ?_)
  refine .cast (A' := [OwnSl 3 1 a2 (([r2, r5, r6] : List Int).length) 3 (flL ([r2, r5, r6] : List Int)), Box pb [.int .i64 b.time, .int .i64 b.index, .bool b.ending], Box pa [.int .i64 a.time, .int .i64 a.index, .bool a.ending]]) rfl ?_
  refine .nil ?_
  obtain ⟨q8, hF⟩ := hF
  obtain ⟨r7, q9⟩ : ∃ y_ : Int, y_ = sp_cmpOr ([r2, r5, r6] : List Int) := ⟨_, rfl⟩
  replace hF := hF r7 q9
  refine .ja (M := [4, 11, 16, 1, 3, 7, 10, 13, 15, 0, 2, 5, 6, 8, 9, 12, 14]) (C' := [18, 19]) (pre := [(17, .slice a2 (([r2, r5, r6] : List Int).length) 3), (18, .int .i64 r7), (19, .int .i64 r7)]) [(2, .pointer (some px)), (3, .pointer (some pa)), (4, .pointer (some pb))] [2, 3, 4] hL rfl rfl rfl rfl rfl (.cons rfl (.cons rfl (.cons rfl (.nil)))) rfl rfl (by kernel_rfl) ?_
  refine .last [(6, .pointer (some (pa.add 0))), (7, .int .i64 a.time), (8, .pointer (some (pb.add 0))), (9, .int .i64 b.time), (10, .int .i64 r2), (11, .func (.func 44) #[] #[]), (12, .agg #[.int .i64 a.time, .int .i64 a.index, .bool a.ending]), (13, .int .i64 r3), (14, .func (.func 44) #[] #[]), (15, .agg #[.int .i64 b.time, .int .i64 b.index, .bool b.ending]), (16, .int .i64 r4), (17, .int .i64 r5), (18, .pointer (some (pa.add 1))), (19, .int .i64 a.index), (20, .pointer (some (pb.add 1))), (21, .int .i64 b.index), (22, .int .i64 r6), (23, .slice a2 (([r2, r5, r6] : List Int).length) 3), (24, .int .i64 r7), (5, .int .i64 r7)] rfl (by kernel_rfl) (.c [(23, .slice a2 (([r2, r5, r6] : List Int).length) 3), (22, .int .i64 r6)] rfl rfl rfl rfl rfl rfl (fun _ => cl (v := .int .i64 r7) Try.call47 rfl rfl (fun w S => (by rw [q9]; obtain ⟨h_, hl_, hs_, hne_, hr_⟩ := look S (k := 0) rfl; exact c_cmpOr hs_ ([r2, r5, r6] : List Int) a2 3 (RSl.of hr_) (look_len S (k := 0) rfl) q8))) (.v [(24, .int .i64 r7), (24, .int .i64 r7), (6, .pointer (some (pa.add 0))), (7, .int .i64 a.time), (8, .pointer (some (pb.add 0))), (9, .int .i64 b.time), (10, .int .i64 r2), (11, .func (.func 44) #[] #[]), (12, .agg #[.int .i64 a.time, .int .i64 a.index, .bool a.ending]), (13, .int .i64 r3), (14, .func (.func 44) #[] #[]), (15, .agg #[.int .i64 b.time, .int .i64 b.index, .bool b.ending]), (16, .int .i64 r4), (17, .int .i64 r5), (18, .pointer (some (pa.add 1))), (19, .int .i64 a.index), (20, .pointer (some (pb.add 1))), (21, .int .i64 b.index), (22, .int .i64 r6), (23, .slice a2 (([r2, r5, r6] : List Int).length) 3), (24, .int .i64 r7)] rfl rfl rfl rfl rfl rfl (fun _ => asg rfl) (.nil))) rfl ?_
  refine .seqN ?_
  refine .ret ?_
  refine .res1 rfl (rvT rfl) (fun w' S => ⟨r7, hF, rfl, S.below⟩)

theorem c_hcmp {h : FH} {w : World} (hs : Sub h w) (a : Hap) (b : Hap) (px : Addr) (_q1 : CellsAt h px [.func (.func 44) #[] #[]]) : Calls Try.prog 46 #[.agg #[.int .i64 a.time, .int .i64 a.index, .bool a.ending], .agg #[.int .i64 b.time, .int .i64 b.index, .bool b.ending], .pointer (some px)] w fun e w' => e = .returned (.int .i64 (sp_hcmp a b)) ∧ Below w.heap.size w w' :=
  (w_hcmp hs a b px _q1 (fun r => r = sp_hcmp a b) (ok_hcmp a b)).mono fun _ _ ⟨_, hk, he, hb⟩ => ⟨by rw [he, hk], hb⟩

end Go.Proofs.Ytaenggfmpagjgaa.Pl
