/- The walks: from what each function asks to what it does; printed from the code. No condition. -/
import Derived.Test.YtojoehfldbimpaaDoorT
import Derived.Test.YtojoehfldbimpaaDoorOk
namespace Go.Proofs.YtojoehfldbimpaaDoor.Pl
open Go Go.RowKit
theorem w_in_ {h : FH} {w : World} (hs : Sub h w) (n_ : Int) (low : Int) (high : Int) (K : Bool → Prop) (hF : F_in_ n_ low high K) : Calls Tryd.prog 7 #[.int .i64 n_, .int .i64 low, .int .i64 high] w fun e w' => ∃ r : Bool, K r ∧ e = .returned (.bool r) ∧ Below w.heap.size w w' := by
  refine enter (args := [.int .i64 n_, .int .i64 low, .int .i64 high]) Tryd.func7 rfl Tryd.ntmps7 rfl hs ?_
  refine .seq ?_
  refine .region ?_
  refine .v (asg rfl) rfl rfl rfl ?_
  refine .nil ?_
  refine .seqN ?_
  refine .seq ?_
  refine .region ?_
  refine .v (mv rfl) rfl rfl rfl ?_
  refine .v (mv rfl) rfl rfl rfl ?_
  refine .v (bi rfl rfl rfl) rfl rfl rfl ?_
  refine .v (mv rfl) rfl rfl rfl ?_
  rcases Bool.eq_false_or_eq_true (decide (low ≤ n_)) with q2 | q2
  · replace hF := hF.1 q2
    refine .gv (mv rfl) rfl rfl rfl q2 rfl rfl ?_
    refine .gv (mv rfl) rfl rfl rfl q2 rfl rfl ?_
    refine .gv (bi rfl rfl rfl) rfl rfl rfl q2 rfl rfl ?_
    refine .v (pkT rfl q2 rfl) rfl rfl rfl ?_
    refine .v (asg rfl) rfl rfl rfl ?_
    refine .nil ?_
    refine .seqN ?_
    refine .ret ?_
    refine .res1 rfl (rvT rfl) (fun w' S => ⟨decide (n_ ≤ high), hF, rfl, S.below⟩)
  replace hF := hF.2 q2
  refine .gS rfl rfl rfl q2 rfl rfl ?_
  refine .gS rfl rfl rfl q2 rfl rfl ?_
  refine .gS rfl rfl rfl q2 rfl rfl ?_
  refine .v (pkF rfl q2 rfl) rfl rfl rfl ?_
  refine .v (asg rfl) rfl rfl rfl ?_
  refine .nil ?_
  refine .seqN ?_
  refine .ret ?_
  refine .res1 rfl (rvT rfl) (fun w' S => ⟨false, hF, rfl, S.below⟩)

theorem c_in_ {h : FH} {w : World} (hs : Sub h w) (n_ : Int) (low : Int) (high : Int) : Calls Tryd.prog 7 #[.int .i64 n_, .int .i64 low, .int .i64 high] w fun e w' => e = .returned (.bool (sp_in_ n_ low high)) ∧ Below w.heap.size w w' :=
  (w_in_ hs n_ low high (fun r => r = sp_in_ n_ low high) (ok_in_ n_ low high)).mono fun _ _ ⟨_, hk, he, hb⟩ => ⟨by rw [he, hk], hb⟩

theorem w_numbers {h : FH} {w : World} (hs : Sub h w) (a : List Int) (aa : Option Addr) (ca : Nat) (_q1 : RSl h aa a) (_q2 : a.length ≤ ca) (b : List Int) (ab : Option Addr) (cb : Nat) (_q3 : RSl h ab b) (_q4 : b.length ≤ cb) (K : Bool → Prop) (hF : F_numbers a b K) : Calls Tryd.prog 19 #[.slice aa a.length ca, .slice ab b.length cb] w fun e w' => ∃ r : Bool, K r ∧ e = .returned (.bool r) ∧ Below w.heap.size w w' := by
  refine enter (args := [.slice aa a.length ca, .slice ab b.length cb]) Tryd.func19 rfl Tryd.ntmps19 rfl hs ?_
  refine .seq ?_
  refine .region ?_
  refine .v (asg rfl) rfl rfl rfl ?_
  refine .nil ?_
  refine .seqN ?_
  refine .seq ?_
  refine .seq ?_
  refine .region ?_
  refine .v (mv rfl) rfl rfl rfl ?_
  refine .v (ln rfl tS22.is) rfl rfl rfl ?_
  refine .v (mv rfl) rfl rfl rfl ?_
  refine .v (ln rfl tS22.is) rfl rfl rfl ?_
  refine .v (bi rfl rfl rfl) rfl rfl rfl ?_
  refine .nil ?_
  refine .seqN ?_
  refine .cond rfl (fun q6 => ?_) (fun q6 => ?_)
  · replace hF := hF.1 q6
    refine .seq ?_
    refine .region ?_
    refine .v (asg rfl) rfl rfl rfl ?_
    refine .nil ?_
    refine .seqN ?_
    refine .ret ?_
    refine .seqR ?_
    refine .res1 rfl (rvT rfl) (fun w' S => ⟨false, hF, rfl, S.below⟩)
  replace hF := hF.2 q6
  refine .skip ?_
  refine .seqN ?_
  refine .seq ?_
  refine .seq ?_
  refine .region ?_
  refine .v (asg rfl) rfl rfl rfl ?_
  refine .nil ?_
  refine .seqN ?_
  refine .block ?_
  obtain ⟨I1, μ1, q64, q65⟩ := hF
  refine .loop' (σ := Int) (fun z => I1 z) (fun z => μ1 z) (fun z => [(0, .slice aa a.length ca), (1, .slice ab b.length cb), (5, .int .i64 z)]) (fun _ => []) (fun _ => h) 0 q64 (.cons rfl (.cons rfl (.cons rfl (.nil)))) rfl (FH.le_refl _) ?_
  rintro i q64
  have hF := q65 i q64
  show J _ _ _ _ _ [(0, .slice aa a.length ca), (1, .slice ab b.length cb), (5, .int .i64 i)] [] h
  refine .seq ?_
  refine .seq ?_
  refine .region ?_
  refine .v (mv rfl) rfl rfl rfl ?_
  refine .v (mv rfl) rfl rfl rfl ?_
  refine .v (ln rfl tS22.is) rfl rfl rfl ?_
  refine .v (bi rfl rfl rfl) rfl rfl rfl ?_
  refine .nil ?_
  refine .seqN ?_
  refine .cond rfl (fun q67 => ?_) (fun q67 => ?_)
  · replace hF := hF.1 q67
    refine .skip ?_
    refine .seqN ?_
    refine .seq ?_
    refine .block ?_
    refine .seq ?_
    refine .open_ (by kernel_rfl) (by kernel_rfl) ?_
    refine .v (mv rfl) rfl rfl rfl ?_
    refine .v (mv rfl) rfl rfl rfl ?_
    obtain ⟨q74, hF⟩ := hF
    refine .v (ix rfl rfl tS22 (_q1.ne (by decide) (inb_pos q74)) q74) rfl rfl rfl ?_
    refine .v (ld1 (v := .int .i64 (gt a i)) rfl tO3 (cellH (_q1.elemF q74 (by decide) 0 _ rfl))) rfl rfl rfl ?_
    refine .v (mv rfl) rfl rfl rfl ?_
    refine .v (mv rfl) rfl rfl rfl ?_
    obtain ⟨q75, hF⟩ := hF
    refine .v (ix rfl rfl tS22 (_q3.ne (by decide) (inb_pos q75)) q75) rfl rfl rfl ?_
    refine .v (ld1 (v := .int .i64 (gt b i)) rfl tO3 (cellH (_q3.elemF q75 (by decide) 0 _ rfl))) rfl rfl rfl ?_
    refine .v (bi rfl rfl rfl) rfl rfl rfl ?_
    refine .fin ?_
    refine .seqN ?_
    refine .cond rfl (fun q76 => ?_) (fun q76 => ?_)
    · replace hF := hF.1 q76
      refine .seq ?_
      refine .region ?_
      refine .v (asg rfl) rfl rfl rfl ?_
      refine .nil ?_
      refine .seqN ?_
      refine .ret ?_
      refine .blkR ?_
      refine .seqR ?_
      refine .seqR ?_
      refine .blkR ?_
      refine .seqR ?_
      refine .res1 rfl (rvT rfl) (fun w' S => ⟨false, hF, rfl, S.below⟩)
    replace hF := hF.2 q76
    refine .skip ?_
    refine .blkN ?_
    refine .seqN ?_
    refine .region ?_
    refine .v (mv rfl) rfl rfl rfl ?_
    refine .v (bi rfl rfl rfl) rfl rfl rfl ?_
    refine .v (asg rfl) rfl rfl rfl ?_
    refine .nil ?_
    exact .round (IntKind.i64.wrap (i + 1)) hF.1 hF.2 (.cons rfl (.cons rfl (.cons rfl (.nil)))) rfl (FH.le_refl _)
  replace hF := hF.2 q67
  refine .exit ?_
  refine .seqX ?_
  refine .seqX ?_
  refine .blkX ?_
  refine .seqN ?_
  refine .seq ?_
  refine .region ?_
  refine .v (asg rfl) rfl rfl rfl ?_
  refine .nil ?_
  refine .seqN ?_
  refine .ret ?_
  refine .res1 rfl (rvT rfl) (fun w' S => ⟨true, hF, rfl, S.below⟩)

theorem c_numbers {h : FH} {w : World} (hs : Sub h w) (a : List Int) (aa : Option Addr) (ca : Nat) (_q1 : RSl h aa a) (_q2 : a.length ≤ ca) (b : List Int) (ab : Option Addr) (cb : Nat) (_q3 : RSl h ab b) (_q4 : b.length ≤ cb) (hp : pre_numbers a b) : Calls Tryd.prog 19 #[.slice aa a.length ca, .slice ab b.length cb] w fun e w' => e = .returned (.bool (sp_numbers a b)) ∧ Below w.heap.size w w' :=
  (w_numbers hs a aa ca _q1 _q2 b ab cb _q3 _q4 (fun r => r = sp_numbers a b) (ok_numbers a b hp)).mono fun _ _ ⟨_, hk, he, hb⟩ => ⟨by rw [he, hk], hb⟩

theorem w_isNaN1 {h : FH} {w : World} (hs : Sub h w) (x : Int) (K : Bool → Prop) (hF : F_isNaN1 x K) : Calls Tryd.prog 65 #[.int .i64 x] w fun e w' => ∃ r : Bool, K r ∧ e = .returned (.bool r) ∧ Below w.heap.size w w' := by
  refine enter (args := [.int .i64 x]) Tryd.func65 rfl Tryd.ntmps65 rfl hs ?_
  refine .seq ?_
  refine .region ?_
  refine .v (asg rfl) rfl rfl rfl ?_
  refine .nil ?_
  refine .seqN ?_
  refine .seq ?_
  refine .region ?_
  refine .v (mv rfl) rfl rfl rfl ?_
  refine .v (mv rfl) rfl rfl rfl ?_
  refine .v (bi rfl rfl rfl) rfl rfl rfl ?_
  refine .v (asg rfl) rfl rfl rfl ?_
  refine .nil ?_
  refine .seqN ?_
  refine .ret ?_
  refine .res1 rfl (rvT rfl) (fun w' S => ⟨x != x, hF, rfl, S.below⟩)

theorem c_isNaN1 {h : FH} {w : World} (hs : Sub h w) (x : Int) : Calls Tryd.prog 65 #[.int .i64 x] w fun e w' => e = .returned (.bool (sp_isNaN1 x)) ∧ Below w.heap.size w w' :=
  (w_isNaN1 hs x (fun r => r = sp_isNaN1 x) (ok_isNaN1 x)).mono fun _ _ ⟨_, hk, he, hb⟩ => ⟨by rw [he, hk], hb⟩

theorem w_isNaN2 {h : FH} {w : World} (hs : Sub h w) (x : Int) (K : Bool → Prop) (hF : F_isNaN2 x K) : Calls Tryd.prog 57 #[.int .i64 x] w fun e w' => ∃ r : Bool, K r ∧ e = .returned (.bool r) ∧ Below w.heap.size w w' := by
  refine enter (args := [.int .i64 x]) Tryd.func57 rfl Tryd.ntmps57 rfl hs ?_
  refine .seq ?_
  refine .region ?_
  refine .v (asg rfl) rfl rfl rfl ?_
  refine .nil ?_
  refine .seqN ?_
  refine .seq ?_
  refine .region ?_
  refine .v (mv rfl) rfl rfl rfl ?_
  refine .v (mv rfl) rfl rfl rfl ?_
  refine .v (bi rfl rfl rfl) rfl rfl rfl ?_
  refine .v (asg rfl) rfl rfl rfl ?_
  refine .nil ?_
  refine .seqN ?_
  refine .ret ?_
  refine .res1 rfl (rvT rfl) (fun w' S => ⟨x != x, hF, rfl, S.below⟩)

theorem c_isNaN2 {h : FH} {w : World} (hs : Sub h w) (x : Int) : Calls Tryd.prog 57 #[.int .i64 x] w fun e w' => e = .returned (.bool (sp_isNaN1 x)) ∧ Below w.heap.size w w' :=
  (w_isNaN2 hs x (fun r => r = sp_isNaN1 x) (ok_isNaN2 x)).mono fun _ _ ⟨_, hk, he, hb⟩ => ⟨by rw [he, hk], hb⟩

theorem w_less {h : FH} {w : World} (hs : Sub h w) (x : Int) (y : Int) (K : Bool → Prop) (hF : F_less x y K) : Calls Tryd.prog 56 #[.int .i64 x, .int .i64 y] w fun e w' => ∃ r : Bool, K r ∧ e = .returned (.bool r) ∧ Below w.heap.size w w' := by
  refine enter (args := [.int .i64 x, .int .i64 y]) Tryd.func56 rfl Tryd.ntmps56 rfl hs ?_
  refine .seq ?_
  refine .region ?_
  refine .v (asg rfl) rfl rfl rfl ?_
  refine .nil ?_
  refine .seqN ?_
  refine .seq ?_
  refine .region ?_
  refine .v (mv rfl) rfl rfl rfl ?_
  obtain ⟨r2, q5⟩ : ∃ y_ : Bool, y_ = sp_isNaN1 x := ⟨_, rfl⟩
  replace hF := hF r2 q5
  refine .c (cl (v := .bool r2) Tryd.call65 rfl rfl (fun w S => (by rw [q5]; exact c_isNaN1 S.sub x ))) rfl rfl rfl ?_
  refine .v (mv rfl) rfl rfl rfl ?_
  rcases Bool.eq_false_or_eq_true (r2) with q6 | q6
  · replace hF := hF.1 q6
    refine .gv (mv rfl) rfl rfl rfl q6 rfl rfl ?_
    obtain ⟨r3, q7⟩ : ∃ y_ : Bool, y_ = sp_isNaN1 y := ⟨_, rfl⟩
    replace hF := hF r3 q7
    refine .gc (cl (v := .bool r3) Tryd.call65 rfl rfl (fun w S => (by rw [q7]; exact c_isNaN1 S.sub y ))) rfl rfl rfl q6 rfl rfl ?_
    refine .gv (nt rfl) rfl rfl rfl q6 rfl rfl ?_
    refine .v (pkT rfl q6 rfl) rfl rfl rfl ?_
    refine .v (mv rfl) rfl rfl rfl ?_
    rcases Bool.eq_false_or_eq_true (!r3) with q8 | q8
    · replace hF := hF.1 q8
      refine .gS rfl rfl rfl q8 rfl rfl ?_
      refine .gS rfl rfl rfl q8 rfl rfl ?_
      refine .gS rfl rfl rfl q8 rfl rfl ?_
      refine .v (pkT rfl q8 rfl) rfl rfl rfl ?_
      refine .v (asg rfl) rfl rfl rfl ?_
      refine .nil ?_
      refine .seqN ?_
      refine .ret ?_
      refine .res1 rfl (rvT rfl) (fun w' S => ⟨true, hF, rfl, S.below⟩)
    replace hF := hF.2 q8
    refine .gv (mv rfl) rfl rfl rfl q8 rfl rfl ?_
    refine .gv (mv rfl) rfl rfl rfl q8 rfl rfl ?_
    refine .gv (bi rfl rfl rfl) rfl rfl rfl q8 rfl rfl ?_
    refine .v (pkF rfl q8 rfl) rfl rfl rfl ?_
    refine .v (asg rfl) rfl rfl rfl ?_
    refine .nil ?_
    refine .seqN ?_
    refine .ret ?_
    refine .res1 rfl (rvT rfl) (fun w' S => ⟨decide (x < y), hF, rfl, S.below⟩)
  replace hF := hF.2 q6
  refine .gS rfl rfl rfl q6 rfl rfl ?_
  refine .gS rfl rfl rfl q6 rfl rfl ?_
  refine .gS rfl rfl rfl q6 rfl rfl ?_
  refine .v (pkF rfl q6 rfl) rfl rfl rfl ?_
  refine .v (mv rfl) rfl rfl rfl ?_
  refine .gv (mv rfl) rfl rfl rfl rfl rfl rfl ?_
  refine .gv (mv rfl) rfl rfl rfl rfl rfl rfl ?_
  refine .gv (bi rfl rfl rfl) rfl rfl rfl rfl rfl rfl ?_
  refine .v (pkF rfl rfl rfl) rfl rfl rfl ?_
  refine .v (asg rfl) rfl rfl rfl ?_
  refine .nil ?_
  refine .seqN ?_
  refine .ret ?_
  refine .res1 rfl (rvT rfl) (fun w' S => ⟨decide (x < y), hF, rfl, S.below⟩)

theorem c_less {h : FH} {w : World} (hs : Sub h w) (x : Int) (y : Int) : Calls Tryd.prog 56 #[.int .i64 x, .int .i64 y] w fun e w' => e = .returned (.bool (sp_less x y)) ∧ Below w.heap.size w w' :=
  (w_less hs x y (fun r => r = sp_less x y) (ok_less x y)).mono fun _ _ ⟨_, hk, he, hb⟩ => ⟨by rw [he, hk], hb⟩

set_option maxHeartbeats 8000000 in
theorem w_bsearch {h : FH} {w : World} (hs : Sub h w) (x : List Int) (ax : Option Addr) (cx : Nat) (_q1 : RSl h ax x) (_q2 : x.length ≤ cx) (target : Int) (K : (Int × Bool) → Prop) (hF : F_bsearch x target K) : Calls Tryd.prog 42 #[.slice ax x.length cx, .int .i64 target] w fun e w' => ∃ r : Int × Bool, K r ∧ e = .returned (.tuple #[.int .i64 r.1, .bool r.2]) ∧ Below w.heap.size w w' := by
  refine enter (args := [.slice ax x.length cx, .int .i64 target]) Tryd.func42 rfl Tryd.ntmps42 rfl hs ?_
  refine .seq ?_
  refine .region ?_
  refine .v (asg rfl) rfl rfl rfl ?_
  refine .v (asg rfl) rfl rfl rfl ?_
  refine .nil ?_
  refine .seqN ?_
  refine .seq ?_
  refine .region ?_
  refine .v (mv rfl) rfl rfl rfl ?_
  refine .v (ln rfl tS22.is) rfl rfl rfl ?_
  refine .v (asg rfl) rfl rfl rfl ?_
  refine .nil ?_
  refine .seqN ?_
  refine .seq ?_
  refine .region ?_
  refine .v (mv rfl) rfl rfl rfl ?_
  refine .v (asg rfl) rfl rfl rfl ?_
  refine .v (asg rfl) rfl rfl rfl ?_
  refine .nil ?_
  refine .seqN ?_
  refine .seq ?_
  refine .block ?_
  obtain ⟨I1, μ1, q55, q56⟩ := hF
  refine .loop' (σ := Int × Int) (fun z => I1 z.1 z.2) (fun z => μ1 z.1 z.2) (fun z => [(0, .slice ax x.length cx), (1, .int .i64 target), (6, .int .i64 ((x.length : Nat) : Int)), (7, .int .i64 z.1), (8, .int .i64 z.2)]) (fun _ => []) (fun _ => h) (0, ((x.length : Nat) : Int)) q55 (.cons rfl (.cons rfl (.cons rfl (.cons rfl (.cons rfl (.nil)))))) rfl (FH.le_refl _) ?_
  rintro ⟨i, j⟩ q55
  have hF := q56 i j q55
  show J _ _ _ _ _ [(0, .slice ax x.length cx), (1, .int .i64 target), (6, .int .i64 ((x.length : Nat) : Int)), (7, .int .i64 i), (8, .int .i64 j)] [] h
  refine .seq ?_
  refine .seq ?_
  refine .region ?_
  refine .v (mv rfl) rfl rfl rfl ?_
  refine .v (mv rfl) rfl rfl rfl ?_
  refine .v (bi rfl rfl rfl) rfl rfl rfl ?_
  refine .nil ?_
  refine .seqN ?_
  refine .cond rfl (fun q58 => ?_) (fun q58 => ?_)
  · replace hF := hF.1 q58
    refine .skip ?_
    refine .seqN ?_
    refine .block ?_
    refine .seq ?_
    refine .region ?_
    refine .v (mv rfl) rfl rfl rfl ?_
    refine .v (mv rfl) rfl rfl rfl ?_
    refine .v (bi rfl rfl rfl) rfl rfl rfl ?_
    refine .v (cv Tryd.underlying3 Tryd.underlying86 rfl) rfl rfl rfl ?_
    obtain ⟨x2, q59⟩ : ∃ y_ : Int, y_ = (Int.fdiv (IntKind.u64.wrap (IntKind.i64.wrap (i + j))) (2 ^ (min ((1 : Int)).toNat (IntKind.bits .u64)))) := ⟨_, rfl⟩
    replace hF := hF x2 q59
    refine .v (v := .int .u64 x2) (by rw [q59]; exact bsh rfl rfl (by decide) rfl) rfl rfl rfl ?_
    refine .v (cv Tryd.underlying86 Tryd.underlying3 rfl) rfl rfl rfl ?_
    refine .v (asg rfl) rfl rfl rfl ?_
    refine .nil ?_
    refine .seqN ?_
    refine .seq ?_
    refine .region ?_
    refine .v (mv rfl) rfl rfl rfl ?_
    refine .v (mv rfl) rfl rfl rfl ?_
    obtain ⟨q60, hF⟩ := hF
    refine .v (ix rfl rfl tS22 (_q1.ne (by decide) (inb_pos q60)) q60) rfl rfl rfl ?_
    refine .v (ld1 (v := .int .i64 (gt x (IntKind.i64.wrap (x2)))) rfl tO3 (cellH (_q1.elemF q60 (by decide) 0 _ rfl))) rfl rfl rfl ?_
    refine .v (mv rfl) rfl rfl rfl ?_
    obtain ⟨r2, q61⟩ : ∃ y_ : Bool, y_ = sp_less (gt x (IntKind.i64.wrap (x2))) target := ⟨_, rfl⟩
    replace hF := hF r2 q61
    refine .c (cl (v := .bool r2) Tryd.call56 rfl rfl (fun w S => (by rw [q61]; exact c_less S.sub (gt x (IntKind.i64.wrap (x2))) target ))) rfl rfl rfl ?_
    refine .nil ?_
    refine .seqN ?_
    refine .cond rfl (fun q62 => ?_) (fun q62 => ?_)
    · replace hF := hF.1 q62
      refine .region ?_
      refine .v (mv rfl) rfl rfl rfl ?_
      refine .v (bi rfl rfl rfl) rfl rfl rfl ?_
      refine .v (asg rfl) rfl rfl rfl ?_
      refine .nil ?_
      refine .blkN ?_
      exact .round (IntKind.i64.wrap ((IntKind.i64.wrap (x2)) + 1), j) hF.1 hF.2 (.cons rfl (.cons rfl (.cons rfl (.cons rfl (.cons rfl (.nil)))))) rfl (FH.le_refl _)
    replace hF := hF.2 q62
    refine .region ?_
    refine .v (mv rfl) rfl rfl rfl ?_
    refine .v (asg rfl) rfl rfl rfl ?_
    refine .nil ?_
    refine .blkN ?_
    exact .round (i, IntKind.i64.wrap (x2)) hF.1 hF.2 (.cons rfl (.cons rfl (.cons rfl (.cons rfl (.cons rfl (.nil)))))) rfl (FH.le_refl _)
  replace hF := hF.2 q58
  refine .exit ?_
  refine .seqX ?_
  refine .seqX ?_
  refine .blkX ?_
  refine .seqN ?_
  refine .seq ?_
  refine .region ?_
  refine .v (mv rfl) rfl rfl rfl ?_
  refine .v (mv rfl) rfl rfl rfl ?_
  refine .v (mv rfl) rfl rfl rfl ?_
  refine .v (bi rfl rfl rfl) rfl rfl rfl ?_
  refine .v (mv rfl) rfl rfl rfl ?_
  rcases Bool.eq_false_or_eq_true (decide (i < ((x.length : Nat) : Int))) with q69 | q69
  · replace hF := hF.1 q69
    refine .gv (mv rfl) rfl rfl rfl q69 rfl rfl ?_
    refine .gv (mv rfl) rfl rfl rfl q69 rfl rfl ?_
    obtain ⟨q70, hF⟩ := hF
    refine .gv (ix rfl rfl tS22 (_q1.ne (by decide) (inb_pos q70)) q70) rfl rfl rfl q69 rfl rfl ?_
    refine .gv (ld1 (v := .int .i64 (gt x i)) rfl tO3 (cellH (_q1.elemF q70 (by decide) 0 _ rfl))) rfl rfl rfl q69 rfl rfl ?_
    refine .gv (mv rfl) rfl rfl rfl q69 rfl rfl ?_
    refine .gv (bi rfl rfl rfl) rfl rfl rfl q69 rfl rfl ?_
    refine .gv (mv rfl) rfl rfl rfl q69 rfl rfl ?_
    rcases Bool.eq_false_or_eq_true ((gt x i) == target) with q71 | q71
    · replace hF := hF.1 q71
      refine .gS rfl rfl rfl q71 rfl rfl ?_
      refine .gS rfl rfl rfl q71 rfl rfl ?_
      refine .gS rfl rfl rfl q71 rfl rfl ?_
      refine .gS rfl rfl rfl q71 rfl rfl ?_
      refine .gS rfl rfl rfl q71 rfl rfl ?_
      refine .gS rfl rfl rfl q71 rfl rfl ?_
      refine .gU rfl rfl rfl rfl rfl ?_
      refine .gU rfl rfl rfl rfl rfl ?_
      refine .gS rfl rfl rfl q71 rfl rfl ?_
      refine .gv (pkT rfl q71 rfl) rfl rfl rfl q69 rfl rfl ?_
      refine .v (pkT rfl q69 rfl) rfl rfl rfl ?_
      refine .v (asg rfl) rfl rfl rfl ?_
      refine .v (asg rfl) rfl rfl rfl ?_
      refine .nil ?_
      refine .seqN ?_
      refine .ret ?_
      refine .res2 rfl (rvT rfl) (rvT rfl) (fun w' S => ⟨(i, true), hF, rfl, S.below⟩)
    replace hF := hF.2 q71
    refine .gv (mv rfl) rfl rfl rfl q71 rfl rfl ?_
    refine .gv (mv rfl) rfl rfl rfl q71 rfl rfl ?_
    refine .gv (ix rfl rfl tS22 (_q1.ne (by decide) (inb_pos q70)) q70) rfl rfl rfl q71 rfl rfl ?_
    refine .gv (ld1 (v := .int .i64 (gt x i)) rfl tO3 (cellH (_q1.elemF q70 (by decide) 0 _ rfl))) rfl rfl rfl q71 rfl rfl ?_
    obtain ⟨r3, q72⟩ : ∃ y_ : Bool, y_ = sp_isNaN1 (gt x i) := ⟨_, rfl⟩
    replace hF := hF r3 q72
    refine .gc (cl (v := .bool r3) Tryd.call57 rfl rfl (fun w S => (by rw [q72]; exact c_isNaN2 S.sub (gt x i) ))) rfl rfl rfl q71 rfl rfl ?_
    refine .gv (mv rfl) rfl rfl rfl q71 rfl rfl ?_
    rcases Bool.eq_false_or_eq_true (r3) with q73 | q73
    · replace hF := hF.1 q73
      refine .gv (mv rfl) rfl rfl rfl q73 rfl rfl ?_
      obtain ⟨r4, q74⟩ : ∃ y_ : Bool, y_ = sp_isNaN1 target := ⟨_, rfl⟩
      replace hF := hF r4 q74
      refine .gc (cl (v := .bool r4) Tryd.call57 rfl rfl (fun w S => (by rw [q74]; exact c_isNaN2 S.sub target ))) rfl rfl rfl q73 rfl rfl ?_
      refine .gv (pkT rfl q73 rfl) rfl rfl rfl q71 rfl rfl ?_
      refine .gv (pkF rfl q71 rfl) rfl rfl rfl q69 rfl rfl ?_
      refine .v (pkT rfl q69 rfl) rfl rfl rfl ?_
      refine .v (asg rfl) rfl rfl rfl ?_
      refine .v (asg rfl) rfl rfl rfl ?_
      refine .nil ?_
      refine .seqN ?_
      refine .ret ?_
      refine .res2 rfl (rvT rfl) (rvT rfl) (fun w' S => ⟨(i, r4), hF, rfl, S.below⟩)
    replace hF := hF.2 q73
    refine .gS rfl rfl rfl q73 rfl rfl ?_
    refine .gS rfl rfl rfl q73 rfl rfl ?_
    refine .gv (pkF rfl q73 rfl) rfl rfl rfl q71 rfl rfl ?_
    refine .gv (pkF rfl q71 rfl) rfl rfl rfl q69 rfl rfl ?_
    refine .v (pkT rfl q69 rfl) rfl rfl rfl ?_
    refine .v (asg rfl) rfl rfl rfl ?_
    refine .v (asg rfl) rfl rfl rfl ?_
    refine .nil ?_
    refine .seqN ?_
    refine .ret ?_
    refine .res2 rfl (rvT rfl) (rvT rfl) (fun w' S => ⟨(i, false), hF, rfl, S.below⟩)
  replace hF := hF.2 q69
  refine .gS rfl rfl rfl q69 rfl rfl ?_
  refine .gS rfl rfl rfl q69 rfl rfl ?_
  refine .gS rfl rfl rfl q69 rfl rfl ?_
  refine .gS rfl rfl rfl q69 rfl rfl ?_
  refine .gS rfl rfl rfl q69 rfl rfl ?_
  refine .gS rfl rfl rfl q69 rfl rfl ?_
  refine .gS rfl rfl rfl q69 rfl rfl ?_
  refine .gU rfl rfl rfl rfl rfl ?_
  refine .gU rfl rfl rfl rfl rfl ?_
  refine .gU rfl rfl rfl rfl rfl ?_
  refine .gU rfl rfl rfl rfl rfl ?_
  refine .gU rfl rfl rfl rfl rfl ?_
  refine .gU rfl rfl rfl rfl rfl ?_
  refine .gU rfl rfl rfl rfl rfl ?_
  refine .gU rfl rfl rfl rfl rfl ?_
  refine .gU rfl rfl rfl rfl rfl ?_
  refine .gS rfl rfl rfl q69 rfl rfl ?_
  refine .v (pkF rfl q69 rfl) rfl rfl rfl ?_
  refine .v (asg rfl) rfl rfl rfl ?_
  refine .v (asg rfl) rfl rfl rfl ?_
  refine .nil ?_
  refine .seqN ?_
  refine .ret ?_
  refine .res2 rfl (rvT rfl) (rvT rfl) (fun w' S => ⟨(i, false), hF, rfl, S.below⟩)

theorem c_bsearch {h : FH} {w : World} (hs : Sub h w) (x : List Int) (ax : Option Addr) (cx : Nat) (_q1 : RSl h ax x) (_q2 : x.length ≤ cx) (target : Int) (hp : pre_bsearch x target) : Calls Tryd.prog 42 #[.slice ax x.length cx, .int .i64 target] w fun e w' => e = .returned (.tuple #[.int .i64 (sp_bsearch x target).1, .bool (sp_bsearch x target).2]) ∧ Below w.heap.size w w' :=
  (w_bsearch hs x ax cx _q1 _q2 target (fun r => r = sp_bsearch x target) (ok_bsearch x target hp)).mono fun _ _ ⟨_, hk, he, hb⟩ => ⟨by rw [he, hk], hb⟩

theorem w_indexF {h : FH} {w : World} (hs : Sub h w) (s_ : List Int) (as_ : Option Addr) (cs_ : Nat) (_q1 : RSl h as_ s_) (_q2 : s_.length ≤ cs_) (pf : Int → Bool) (Df : Int → Prop) (ff : FuncId) (firstf capsf : Array Value) (hff : ∀ args w, (callFunc ff args).run Tryd.prog w = .ok (.enter ff args) w) (hpf : ∀ (x : Int) (w' : World), Df x → Sub h w' → Calls Tryd.prog ff (firstf.toList ++ [(.int .i64 x : Value)] ++ capsf.toList).toArray w' fun e w'' => e = .returned (.bool (pf x)) ∧ Below w'.heap.size w' w'') (K : Int → Prop) (hF : F_indexF s_ pf Df K) : Calls Tryd.prog 88 #[.slice as_ s_.length cs_, .func (.func ff) firstf capsf] w fun e w' => ∃ r : Int, K r ∧ e = .returned (.int .i64 r) ∧ Below w.heap.size w w' := by
  refine enter (args := [.slice as_ s_.length cs_, .func (.func ff) firstf capsf]) Tryd.func88 rfl Tryd.ntmps88 rfl hs ?_
  refine .seq ?_
  refine .region ?_
  refine .v (asg rfl) rfl rfl rfl ?_
  refine .nil ?_
  refine .seqN ?_
  refine .seq ?_
  refine .seq ?_
  refine .region ?_
  refine .v (mv rfl) rfl rfl rfl ?_
  refine .v (ln rfl tS22.is) rfl rfl rfl ?_
  refine .v (mv rfl) rfl rfl rfl ?_
  refine .nil ?_
  refine .seqN ?_
  refine .block ?_
  obtain ⟨I1, μ1, q80, q81⟩ := hF
  refine .loop' (σ := Int) (fun z => I1 z) (fun z => μ1 z) (fun z => [(0, .slice as_ s_.length cs_), (1, .func (.func ff) firstf capsf), (7, .int .i64 ((s_.length : Nat) : Int)), (8, .int .i64 z)]) (fun _ => []) (fun _ => h) 0 q80 (.cons rfl (.cons rfl (.cons rfl (.cons rfl (.nil))))) rfl (FH.le_refl _) ?_
  rintro t8 q80
  have hF := q81 t8 q80
  show J _ _ _ _ _ [(0, .slice as_ s_.length cs_), (1, .func (.func ff) firstf capsf), (7, .int .i64 ((s_.length : Nat) : Int)), (8, .int .i64 t8)] [] h
  refine .seq ?_
  refine .region ?_
  refine .v (bi rfl rfl rfl) rfl rfl rfl ?_
  refine .nil ?_
  refine .seqN ?_
  refine .seq ?_
  refine .cond rfl (fun q84 => ?_) (fun q84 => ?_)
  · replace hF := hF.1 q84
    refine .skip ?_
    refine .seqN ?_
    refine .seq ?_
    refine .block ?_
    refine .seq ?_
    refine .region ?_
    refine .v (mv rfl) rfl rfl rfl ?_
    refine .v (asg rfl) rfl rfl rfl ?_
    refine .nil ?_
    refine .seqN ?_
    refine .seq ?_
    refine .region ?_
    refine .v (mv rfl) rfl rfl rfl ?_
    refine .v (mv rfl) rfl rfl rfl ?_
    refine .v (mv rfl) rfl rfl rfl ?_
    obtain ⟨q93, hF⟩ := hF
    refine .v (ix rfl rfl tS22 (_q1.ne (by decide) (inb_pos q93)) q93) rfl rfl rfl ?_
    refine .v (ld1 (v := .int .i64 (gt s_ t8)) rfl tO3 (cellH (_q1.elemF q93 (by decide) 0 _ rfl))) rfl rfl rfl ?_
    obtain ⟨q94, hF⟩ := hF
    obtain ⟨r2, q95⟩ : ∃ y_ : Bool, y_ = pf (gt s_ t8) := ⟨_, rfl⟩
    replace hF := hF r2 q95
    refine .c (cl (v := .bool r2) hff rfl rfl (fun w S => (by rw [q95]; exact hpf (gt s_ t8) w q94 (S.sub.anti (FH.le_refl _))))) rfl rfl rfl ?_
    refine .nil ?_
    refine .seqN ?_
    refine .cond rfl (fun q96 => ?_) (fun q96 => ?_)
    · replace hF := hF.1 q96
      refine .seq ?_
      refine .region ?_
      refine .v (mv rfl) rfl rfl rfl ?_
      refine .v (asg rfl) rfl rfl rfl ?_
      refine .nil ?_
      refine .seqN ?_
      refine .ret ?_
      refine .blkR ?_
      refine .seqR ?_
      refine .seqR ?_
      refine .blkR ?_
      refine .seqR ?_
      refine .res1 rfl (rvT rfl) (fun w' S => ⟨t8, hF, rfl, S.below⟩)
    replace hF := hF.2 q96
    refine .skip ?_
    refine .blkN ?_
    refine .seqN ?_
    refine .region ?_
    refine .v (bi rfl rfl rfl) rfl rfl rfl ?_
    refine .v (mv rfl) rfl rfl rfl ?_
    refine .nil ?_
    exact .round (IntKind.i64.wrap (t8 + 1)) hF.1 hF.2 (.cons rfl (.cons rfl (.cons rfl (.cons rfl (.nil))))) rfl (FH.le_refl _)
  replace hF := hF.2 q84
  refine .exit ?_
  refine .seqX ?_
  refine .seqX ?_
  refine .blkX ?_
  refine .seqN ?_
  refine .seq ?_
  refine .region ?_
  refine .v (asg rfl) rfl rfl rfl ?_
  refine .nil ?_
  refine .seqN ?_
  refine .ret ?_
  refine .res1 rfl (rvT rfl) (fun w' S => ⟨(-1), hF, rfl, S.below⟩)

theorem c_indexF {h : FH} {w : World} (hs : Sub h w) (s_ : List Int) (as_ : Option Addr) (cs_ : Nat) (_q1 : RSl h as_ s_) (_q2 : s_.length ≤ cs_) (pf : Int → Bool) (Df : Int → Prop) (ff : FuncId) (firstf capsf : Array Value) (hff : ∀ args w, (callFunc ff args).run Tryd.prog w = .ok (.enter ff args) w) (hpf : ∀ (x : Int) (w' : World), Df x → Sub h w' → Calls Tryd.prog ff (firstf.toList ++ [(.int .i64 x : Value)] ++ capsf.toList).toArray w' fun e w'' => e = .returned (.bool (pf x)) ∧ Below w'.heap.size w' w'') (hp : pre_any s_ pf Df) : Calls Tryd.prog 88 #[.slice as_ s_.length cs_, .func (.func ff) firstf capsf] w fun e w' => e = .returned (.int .i64 (sp_indexF s_ pf Df)) ∧ Below w.heap.size w w' :=
  (w_indexF hs s_ as_ cs_ _q1 _q2 pf Df ff firstf capsf hff hpf (fun r => r = sp_indexF s_ pf Df) (ok_indexF s_ pf Df hp)).mono fun _ _ ⟨_, hk, he, hb⟩ => ⟨by rw [he, hk], hb⟩

theorem w_containsF {h : FH} {w : World} (hs : Sub h w) (s_ : List Int) (as_ : Option Addr) (cs_ : Nat) (_q1 : RSl h as_ s_) (_q2 : s_.length ≤ cs_) (pf : Int → Bool) (Df : Int → Prop) (ff : FuncId) (firstf capsf : Array Value) (hff : ∀ args w, (callFunc ff args).run Tryd.prog w = .ok (.enter ff args) w) (hpf : ∀ (x : Int) (w' : World), Df x → Sub h w' → Calls Tryd.prog ff (firstf.toList ++ [(.int .i64 x : Value)] ++ capsf.toList).toArray w' fun e w'' => e = .returned (.bool (pf x)) ∧ Below w'.heap.size w' w'') (K : Bool → Prop) (hF : F_containsF s_ pf Df K) : Calls Tryd.prog 63 #[.slice as_ s_.length cs_, .func (.func ff) firstf capsf] w fun e w' => ∃ r : Bool, K r ∧ e = .returned (.bool r) ∧ Below w.heap.size w w' := by
  refine enter (args := [.slice as_ s_.length cs_, .func (.func ff) firstf capsf]) Tryd.func63 rfl Tryd.ntmps63 rfl hs ?_
  refine .seq ?_
  refine .region ?_
  refine .v (asg rfl) rfl rfl rfl ?_
  refine .nil ?_
  refine .seqN ?_
  refine .seq ?_
  refine .region ?_
  refine .v (mv rfl) rfl rfl rfl ?_
  refine .v (mv rfl) rfl rfl rfl ?_
  obtain ⟨q3, hF⟩ := hF
  obtain ⟨r2, q4⟩ : ∃ y_ : Int, y_ = sp_indexF s_ pf Df := ⟨_, rfl⟩
  replace hF := hF r2 q4
  refine .c (cl (v := .int .i64 r2) Tryd.call88 rfl rfl (fun w S => (by rw [q4]; exact c_indexF S.sub s_ as_ cs_ _q1 _q2 pf Df ff firstf capsf hff hpf q3))) rfl rfl rfl ?_
  refine .v (bi rfl rfl rfl) rfl rfl rfl ?_
  refine .v (asg rfl) rfl rfl rfl ?_
  refine .nil ?_
  refine .seqN ?_
  refine .ret ?_
  refine .res1 rfl (rvT rfl) (fun w' S => ⟨decide (0 ≤ r2), hF, rfl, S.below⟩)

theorem c_containsF {h : FH} {w : World} (hs : Sub h w) (s_ : List Int) (as_ : Option Addr) (cs_ : Nat) (_q1 : RSl h as_ s_) (_q2 : s_.length ≤ cs_) (pf : Int → Bool) (Df : Int → Prop) (ff : FuncId) (firstf capsf : Array Value) (hff : ∀ args w, (callFunc ff args).run Tryd.prog w = .ok (.enter ff args) w) (hpf : ∀ (x : Int) (w' : World), Df x → Sub h w' → Calls Tryd.prog ff (firstf.toList ++ [(.int .i64 x : Value)] ++ capsf.toList).toArray w' fun e w'' => e = .returned (.bool (pf x)) ∧ Below w'.heap.size w' w'') (hp : pre_any s_ pf Df) : Calls Tryd.prog 63 #[.slice as_ s_.length cs_, .func (.func ff) firstf capsf] w fun e w' => e = .returned (.bool (sp_any s_ pf Df)) ∧ Below w.heap.size w w' :=
  (w_containsF hs s_ as_ cs_ _q1 _q2 pf Df ff firstf capsf hff hpf (fun r => r = sp_any s_ pf Df) (ok_containsF s_ pf Df hp)).mono fun _ _ ⟨_, hk, he, hb⟩ => ⟨by rw [he, hk], hb⟩

set_option maxHeartbeats 8000000 in
theorem w_isSet {h : FH} {w : World} (hs : Sub h w) (l : List Int) (al2 : Option Addr) (cl2 : Nat) (_q1 : RSl h al2 l) (_q2 : l.length ≤ cl2) (n_ : Int) (K : Bool → Prop) (hF : F_isSet l n_ K) : Calls Tryd.prog 29 #[.slice al2 l.length cl2, .int .i64 n_] w fun e w' => ∃ r : Bool, K r ∧ e = .returned (.bool r) ∧ Below w.heap.size w w' := by
  refine enter (args := [.slice al2 l.length cl2, .int .i64 n_]) Tryd.func29 rfl Tryd.ntmps29 rfl hs ?_
  refine .seq ?_
  refine .region ?_
  refine .v (asg rfl) rfl rfl rfl ?_
  refine .nil ?_
  refine .seqN ?_
  refine .seq ?_
  refine .seq ?_
  refine .region ?_
  refine .v (mv rfl) rfl rfl rfl ?_
  refine .v (ln rfl tS22.is) rfl rfl rfl ?_
  refine .v (mv rfl) rfl rfl rfl ?_
  refine .nil ?_
  refine .seqN ?_
  refine .block ?_
  obtain ⟨I1, μ1, q185, q186⟩ := hF
  refine .loop' (σ := Int) (fun z => I1 z) (fun z => μ1 z) (fun z => [(0, .slice al2 l.length cl2), (1, .int .i64 n_), (7, .slice al2 l.length cl2), (8, .int .i64 ((l.length : Nat) : Int)), (9, .int .i64 z)]) (fun _ => []) (fun _ => h) 0 q185 (.cons rfl (.cons rfl (.cons rfl (.cons rfl (.cons rfl (.nil)))))) rfl (FH.le_refl _) ?_
  rintro t9 q185
  have hF := q186 t9 q185
  show J _ _ _ _ _ [(0, .slice al2 l.length cl2), (1, .int .i64 n_), (7, .slice al2 l.length cl2), (8, .int .i64 ((l.length : Nat) : Int)), (9, .int .i64 t9)] [] h
  refine .seq ?_
  refine .region ?_
  refine .v (bi rfl rfl rfl) rfl rfl rfl ?_
  refine .nil ?_
  refine .seqN ?_
  refine .seq ?_
  refine .cond rfl (fun q189 => ?_) (fun q189 => ?_)
  · replace hF := hF.1 q189
    refine .skip ?_
    refine .seqN ?_
    refine .seq ?_
    refine .block ?_
    refine .seq ?_
    refine .region ?_
    refine .v (mv rfl) rfl rfl rfl ?_
    obtain ⟨q212, hF⟩ := hF
    refine .v (ix rfl rfl tS22 (_q1.ne (by decide) (inb_pos q212)) q212) rfl rfl rfl ?_
    refine .v (ld1 (v := .int .i64 (gt l t9)) rfl tO3 (cellH (_q1.elemF q212 (by decide) 0 _ rfl))) rfl rfl rfl ?_
    refine .v (asg rfl) rfl rfl rfl ?_
    refine .v (asg rfl) rfl rfl rfl ?_
    refine .nil ?_
    refine .seqN ?_
    refine .share (σ := Bool) (fun z => F_isSet_J1 K z t9 I1 μ1) (fun z => [(0, .slice al2 l.length cl2), (1, .int .i64 n_), (7, .slice al2 l.length cl2), (8, .int .i64 ((l.length : Nat) : Int)), (9, .int .i64 t9), (33, .bool z)]) (fun _ => []) (fun _ => h) ?_ (fun q217 => ?_)
    · rintro t33 hF
      show J _ _ _ _ _ [(0, .slice al2 l.length cl2), (1, .int .i64 n_), (7, .slice al2 l.length cl2), (8, .int .i64 ((l.length : Nat) : Int)), (9, .int .i64 t9), (33, .bool t33)] [] h
      refine .cond rfl (fun q218 => ?_) (fun q218 => ?_)
      · replace hF := hF.1 q218
        refine .seq ?_
        refine .region ?_
        refine .v (asg rfl) rfl rfl rfl ?_
        refine .nil ?_
        refine .seqN ?_
        refine .ret ?_
        refine .blkR ?_
        refine .seqR ?_
        refine .seqR ?_
        refine .blkR ?_
        refine .seqR ?_
        refine .res1 rfl (rvT rfl) (fun w' S => ⟨false, hF, rfl, S.below⟩)
      replace hF := hF.2 q218
      refine .skip ?_
      refine .blkN ?_
      refine .seqN ?_
      refine .region ?_
      refine .v (bi rfl rfl rfl) rfl rfl rfl ?_
      refine .v (mv rfl) rfl rfl rfl ?_
      refine .nil ?_
      exact .round (IntKind.i64.wrap (t9 + 1)) hF.1 hF.2 (.cons rfl (.cons rfl (.cons rfl (.cons rfl (.cons rfl (.nil)))))) rfl (FH.le_refl _)
    refine .region ?_
    refine .v (mv rfl) rfl rfl rfl ?_
    refine .v (bi rfl rfl rfl) rfl rfl rfl ?_
    refine .v (mv rfl) rfl rfl rfl ?_
    rcases Bool.eq_false_or_eq_true (decide ((gt l t9) < 0)) with q219 | q219
    · replace hF := hF.1 q219
      refine .gS rfl rfl rfl q219 rfl rfl ?_
      refine .gS rfl rfl rfl q219 rfl rfl ?_
      refine .gS rfl rfl rfl q219 rfl rfl ?_
      refine .v (pkT rfl q219 rfl) rfl rfl rfl ?_
      refine .v (mv rfl) rfl rfl rfl ?_
      refine .gS rfl rfl rfl rfl rfl rfl ?_
      refine .gS rfl rfl rfl rfl rfl rfl ?_
      refine .gS rfl rfl rfl rfl rfl rfl ?_
      refine .gU rfl rfl rfl rfl rfl ?_
      refine .gU rfl rfl rfl rfl rfl ?_
      refine .gU rfl rfl rfl rfl rfl ?_
      refine .gU rfl rfl rfl rfl rfl ?_
      refine .gU rfl rfl rfl rfl rfl ?_
      refine .gU rfl rfl rfl rfl rfl ?_
      refine .gU rfl rfl rfl rfl rfl ?_
      refine .gS rfl rfl rfl rfl rfl rfl ?_
      refine .v (pkT rfl rfl rfl) rfl rfl rfl ?_
      refine .nil ?_
      exact .use q217 true hF (.cons rfl (.cons rfl (.cons rfl (.cons rfl (.cons rfl (.cons rfl (.nil))))))) rfl (FH.le_refl _)
    replace hF := hF.2 q219
    refine .gv (mv rfl) rfl rfl rfl q219 rfl rfl ?_
    refine .gv (mv rfl) rfl rfl rfl q219 rfl rfl ?_
    refine .gv (bi rfl rfl rfl) rfl rfl rfl q219 rfl rfl ?_
    refine .v (pkF rfl q219 rfl) rfl rfl rfl ?_
    refine .v (mv rfl) rfl rfl rfl ?_
    rcases Bool.eq_false_or_eq_true (decide (n_ ≤ (gt l t9))) with q220 | q220
    · replace hF := hF.1 q220
      refine .gS rfl rfl rfl q220 rfl rfl ?_
      refine .gS rfl rfl rfl q220 rfl rfl ?_
      refine .gS rfl rfl rfl q220 rfl rfl ?_
      refine .gU rfl rfl rfl rfl rfl ?_
      refine .gU rfl rfl rfl rfl rfl ?_
      refine .gU rfl rfl rfl rfl rfl ?_
      refine .gU rfl rfl rfl rfl rfl ?_
      refine .gU rfl rfl rfl rfl rfl ?_
      refine .gU rfl rfl rfl rfl rfl ?_
      refine .gU rfl rfl rfl rfl rfl ?_
      refine .gS rfl rfl rfl q220 rfl rfl ?_
      refine .v (pkT rfl q220 rfl) rfl rfl rfl ?_
      refine .nil ?_
      exact .use q217 true hF (.cons rfl (.cons rfl (.cons rfl (.cons rfl (.cons rfl (.cons rfl (.nil))))))) rfl (FH.le_refl _)
    replace hF := hF.2 q220
    refine .gv (mv rfl) rfl rfl rfl q220 rfl rfl ?_
    refine .gv (bi rfl rfl rfl) rfl rfl rfl q220 rfl rfl ?_
    refine .gv (mv rfl) rfl rfl rfl q220 rfl rfl ?_
    rcases Bool.eq_false_or_eq_true (decide (0 < t9)) with q221 | q221
    · replace hF := hF.1 q221
      refine .gv (mv rfl) rfl rfl rfl q221 rfl rfl ?_
      refine .gv (mv rfl) rfl rfl rfl q221 rfl rfl ?_
      refine .gv (mv rfl) rfl rfl rfl q221 rfl rfl ?_
      refine .gv (bi rfl rfl rfl) rfl rfl rfl q221 rfl rfl ?_
      obtain ⟨q222, hF⟩ := hF
      refine .gv (ix rfl rfl tS22 (_q1.ne (by decide) (inb_pos q222)) q222) rfl rfl rfl q221 rfl rfl ?_
      refine .gv (ld1 (v := .int .i64 (gt l (IntKind.i64.wrap (t9 - 1)))) rfl tO3 (cellH (_q1.elemF q222 (by decide) 0 _ rfl))) rfl rfl rfl q221 rfl rfl ?_
      refine .gv (bi rfl rfl rfl) rfl rfl rfl q221 rfl rfl ?_
      refine .gv (pkT rfl q221 rfl) rfl rfl rfl q220 rfl rfl ?_
      refine .v (pkF rfl q220 rfl) rfl rfl rfl ?_
      refine .nil ?_
      exact .use q217 (decide ((gt l t9) ≤ (gt l (IntKind.i64.wrap (t9 - 1))))) hF (.cons rfl (.cons rfl (.cons rfl (.cons rfl (.cons rfl (.cons rfl (.nil))))))) rfl (FH.le_refl _)
    replace hF := hF.2 q221
    refine .gS rfl rfl rfl q221 rfl rfl ?_
    refine .gS rfl rfl rfl q221 rfl rfl ?_
    refine .gS rfl rfl rfl q221 rfl rfl ?_
    refine .gS rfl rfl rfl q221 rfl rfl ?_
    refine .gS rfl rfl rfl q221 rfl rfl ?_
    refine .gS rfl rfl rfl q221 rfl rfl ?_
    refine .gS rfl rfl rfl q221 rfl rfl ?_
    refine .gv (pkF rfl q221 rfl) rfl rfl rfl q220 rfl rfl ?_
    refine .v (pkF rfl q220 rfl) rfl rfl rfl ?_
    refine .nil ?_
    exact .use q217 false hF (.cons rfl (.cons rfl (.cons rfl (.cons rfl (.cons rfl (.cons rfl (.nil))))))) rfl (FH.le_refl _)
  replace hF := hF.2 q189
  refine .exit ?_
  refine .seqX ?_
  refine .seqX ?_
  refine .blkX ?_
  refine .seqN ?_
  refine .seq ?_
  refine .region ?_
  refine .v (asg rfl) rfl rfl rfl ?_
  refine .nil ?_
  refine .seqN ?_
  refine .ret ?_
  refine .res1 rfl (rvT rfl) (fun w' S => ⟨true, hF, rfl, S.below⟩)

theorem c_isSet {h : FH} {w : World} (hs : Sub h w) (l : List Int) (al2 : Option Addr) (cl2 : Nat) (_q1 : RSl h al2 l) (_q2 : l.length ≤ cl2) (n_ : Int) (hp : pre_isSet l n_) : Calls Tryd.prog 29 #[.slice al2 l.length cl2, .int .i64 n_] w fun e w' => e = .returned (.bool (sp_isSet l n_)) ∧ Below w.heap.size w w' :=
  (w_isSet hs l al2 cl2 _q1 _q2 n_ (fun r => r = sp_isSet l n_) (ok_isSet l n_ hp)).mono fun _ _ ⟨_, hk, he, hb⟩ => ⟨by rw [he, hk], hb⟩

theorem w_meets1 {h : FH} {w : World} (hs : Sub h w) (x : Int) (x2 : List Int) (ax2 : Option Addr) (cx2 : Nat) (_q1 : RSl h ax2 x2) (_q2 : x2.length ≤ cx2) (px2 : Addr) (_q3 : CellsAt h px2 [.slice ax2 x2.length cx2]) (K : Bool → Prop) (hF : F_meets1 x x2 K) : Calls Tryd.prog 64 #[.int .i64 x, .pointer (some px2)] w fun e w' => ∃ r : Bool, K r ∧ e = .returned (.bool r) ∧ Below w.heap.size w w' := by
  refine enter (args := [.int .i64 x, .pointer (some px2)]) Tryd.func64 rfl Tryd.ntmps64 rfl hs ?_
  refine .seq ?_
  refine .region ?_
  refine .v (asg rfl) rfl rfl rfl ?_
  refine .nil ?_
  refine .seqN ?_
  refine .seq ?_
  refine .region ?_
  refine .v (ld1 (v := .slice ax2 x2.length cx2) rfl tO22 (cellH (CellsAt.mono (FH.le_refl _) _q3 0 _ rfl))) rfl rfl rfl ?_
  refine .v (mv rfl) rfl rfl rfl ?_
  obtain ⟨q4, hF⟩ := hF
  obtain ⟨r2, q5⟩ : ∃ y_ : Int × Bool, y_ = sp_bsearch x2 x := ⟨_, rfl⟩
  replace hF := hF r2 q5
  refine .c (cl (v := .tuple #[.int .i64 r2.1, .bool r2.2]) Tryd.call42 rfl rfl (fun w S => (by rw [q5]; exact c_bsearch S.sub x2 ax2 cx2 _q1 _q2 x q4))) rfl rfl rfl ?_
  refine .v (mv rfl) rfl rfl rfl ?_
  refine .v (ext rfl rfl) rfl rfl rfl ?_
  refine .v (ext rfl rfl) rfl rfl rfl ?_
  refine .v (asg rfl) rfl rfl rfl ?_
  refine .v (asg rfl) rfl rfl rfl ?_
  refine .nil ?_
  refine .seqN ?_
  refine .seq ?_
  refine .region ?_
  refine .v (mv rfl) rfl rfl rfl ?_
  refine .v (asg rfl) rfl rfl rfl ?_
  refine .nil ?_
  refine .seqN ?_
  refine .ret ?_
  refine .res1 rfl (rvT rfl) (fun w' S => ⟨r2.2, hF, rfl, S.below⟩)

theorem c_meets1 {h : FH} {w : World} (hs : Sub h w) (x : Int) (x2 : List Int) (ax2 : Option Addr) (cx2 : Nat) (_q1 : RSl h ax2 x2) (_q2 : x2.length ≤ cx2) (px2 : Addr) (_q3 : CellsAt h px2 [.slice ax2 x2.length cx2]) (hp : pre_meets1 x x2) : Calls Tryd.prog 64 #[.int .i64 x, .pointer (some px2)] w fun e w' => e = .returned (.bool (sp_meets1 x x2)) ∧ Below w.heap.size w w' :=
  (w_meets1 hs x x2 ax2 cx2 _q1 _q2 px2 _q3 (fun r => r = sp_meets1 x x2) (ok_meets1 x x2 hp)).mono fun _ _ ⟨_, hk, he, hb⟩ => ⟨by rw [he, hk], hb⟩

theorem w_meets {h : FH} {w : World} (hs : Sub h w) (a : List Int) (aa : Option Addr) (ca : Nat) (_q1 : RSl h aa a) (_q2 : a.length ≤ ca) (b : List Int) (ab : Option Addr) (cb : Nat) (_q3 : RSl h ab b) (_q4 : b.length ≤ cb) (K : Bool → Prop) (hF : F_meets a b K) : Calls Tryd.prog 55 #[.slice aa a.length ca, .slice ab b.length cb] w fun e w' => ∃ r : Bool, K r ∧ e = .returned (.bool r) ∧ Below w.heap.size w w' := by
  refine enter (args := [.slice aa a.length ca, .slice ab b.length cb]) Tryd.func55 rfl Tryd.ntmps55 rfl hs ?_
  refine .seq ?_
  refine .region ?_
  refine bx (vs := [.slice ab b.length cb]) rfl rfl rfl (fun pb => ?_)
  refine .v (asg rfl) rfl rfl rfl ?_
  refine .nil ?_
  refine .seqN ?_
  refine .seq ?_
  refine .region ?_
  refine .v (mv rfl) rfl rfl rfl ?_
  refine .v (mkf (vf := []) (vc := [.pointer (some pb)]) rfl rfl) rfl rfl rfl ?_
  obtain ⟨q5, hF⟩ := hF
  obtain ⟨r2, q6⟩ : ∃ y_ : Bool, y_ = sp_any a (fun y_ : Int => sp_meets1 y_ b) (fun y_ : Int => pre_meets1 y_ b) := ⟨_, rfl⟩
  replace hF := hF r2 q6
  refine .c (cl (v := .bool r2) Tryd.call63 rfl rfl (fun w S => (by rw [q6]; obtain ⟨h_, hl_, hs_, hb_⟩ := lookB S (k := 0) rfl; exact c_containsF hs_ a aa ca (RSl.mono hl_ _q1) _q2 (fun y_ : Int => sp_meets1 y_ b) (fun y_ : Int => pre_meets1 y_ b) 64 #[] #[.pointer (some pb)] Tryd.call64 (fun x w' hD hs' => c_meets1 hs' x b ab cb (RSl.mono hl_ _q3) _q4 pb hb_ hD) q5))) rfl rfl rfl ?_
  refine .v (asg rfl) rfl rfl rfl ?_
  refine .nil ?_
  refine .seqN ?_
  refine .ret ?_
  refine .res1 rfl (rvT rfl) (fun w' S => ⟨r2, hF, rfl, S.below⟩)

theorem c_meets {h : FH} {w : World} (hs : Sub h w) (a : List Int) (aa : Option Addr) (ca : Nat) (_q1 : RSl h aa a) (_q2 : a.length ≤ ca) (b : List Int) (ab : Option Addr) (cb : Nat) (_q3 : RSl h ab b) (_q4 : b.length ≤ cb) (hp : pre_meets a b) : Calls Tryd.prog 55 #[.slice aa a.length ca, .slice ab b.length cb] w fun e w' => e = .returned (.bool (sp_meets a b)) ∧ Below w.heap.size w w' :=
  (w_meets hs a aa ca _q1 _q2 b ab cb _q3 _q4 (fun r => r = sp_meets a b) (ok_meets a b hp)).mono fun _ _ ⟨_, hk, he, hb⟩ => ⟨by rw [he, hk], hb⟩

set_option maxHeartbeats 8000000 in
theorem w_operator {h : FH} {w : World} (hs : Sub h w) (o : Operator) (ao : Option Addr) (co : Nat) (_q1 : RSl h ao o.pre) (_q2 : o.pre.length ≤ co) (ao2 : Option Addr) (co2 : Nat) (_q3 : RSl h ao2 o.add) (_q4 : o.add.length ≤ co2) (ao3 : Option Addr) (co3 : Nat) (_q5 : RSl h ao3 o.del) (_q6 : o.del.length ≤ co3) (facts : Int) (K : Int → Prop) (hF : F_operator o facts K) : Calls Tryd.prog 41 #[.agg #[.slice ao o.pre.length co, .slice ao2 o.add.length co2, .slice ao3 o.del.length co3, .int .i64 o.cost], .int .i64 facts] w fun e w' => ∃ r : Int, K r ∧ e = .returned (.int .i64 r) ∧ Below w.heap.size w w' := by
  refine enter (args := [.agg #[.slice ao o.pre.length co, .slice ao2 o.add.length co2, .slice ao3 o.del.length co3, .int .i64 o.cost], .int .i64 facts]) Tryd.func41 rfl Tryd.ntmps41 rfl hs ?_
  refine .seq ?_
  refine .region ?_
  refine bx (vs := [.slice ao o.pre.length co, .slice ao2 o.add.length co2, .slice ao3 o.del.length co3, .int .i64 o.cost]) rfl rfl rfl (fun po => ?_)
  refine .v (asg rfl) rfl rfl rfl ?_
  refine .nil ?_
  refine .seqN ?_
  refine .seq ?_
  refine .block ?_
  refine .share (σ := Bool) (fun z => F_operator_J1 o K z) (fun z => [(2, .pointer (some po)), (5, .bool z)]) (fun _ => [Box po [.slice ao o.pre.length co, .slice ao2 o.add.length co2, .slice ao3 o.del.length co3, .int .i64 o.cost]]) (fun _ => h) ?_ (fun q74 => ?_)
  · rintro t5 hF
    show J _ _ _ _ _ [(2, .pointer (some po)), (5, .bool t5)] [Box po [.slice ao o.pre.length co, .slice ao2 o.add.length co2, .slice ao3 o.del.length co3, .int .i64 o.cost]] h
    refine .cond rfl (fun q75 => ?_) (fun q75 => ?_)
    · replace hF := hF.1 q75
      refine .seq ?_
      refine .region ?_
      refine .v (asg rfl) rfl rfl rfl ?_
      refine .nil ?_
      refine .seqN ?_
      refine .ret ?_
      refine .blkR ?_
      refine .seqR ?_
      refine .res1 rfl (rvT rfl) (fun w' S => ⟨5, hF, rfl, S.below⟩)
    replace hF := hF.2 q75
    refine .share (σ := Bool) (fun z => F_operator_J2 K z) (fun z => [(32, .bool z)]) (fun _ => []) (fun _ => h) ?_ (fun q77 => ?_)
    · rintro t32 hF
      show J _ _ _ _ _ [(32, .bool t32)] [] h
      refine .cond rfl (fun q78 => ?_) (fun q78 => ?_)
      · replace hF := hF.1 q78
        refine .seq ?_
        refine .region ?_
        refine .v (asg rfl) rfl rfl rfl ?_
        refine .nil ?_
        refine .seqN ?_
        refine .ret ?_
        refine .blkR ?_
        refine .seqR ?_
        refine .res1 rfl (rvT rfl) (fun w' S => ⟨3, hF, rfl, S.below⟩)
      replace hF := hF.2 q78
      refine .skip ?_
      refine .blkN ?_
      refine .seqN ?_
      refine .seq ?_
      refine .region ?_
      refine .v (asg rfl) rfl rfl rfl ?_
      refine .nil ?_
      refine .seqN ?_
      refine .ret ?_
      refine .res1 rfl (rvT rfl) (fun w' S => ⟨0, hF, rfl, S.below⟩)
    refine .region ?_
    refine .v (fa rfl tF64_3) rfl rfl rfl ?_
    refine .v (ld1 rfl tO3 (cellB (off := 3) (k := 0) rfl rfl)) rfl rfl rfl ?_
    refine .v (bi rfl rfl rfl) rfl rfl rfl ?_
    refine .v (mv rfl) rfl rfl rfl ?_
    rcases Bool.eq_false_or_eq_true (decide (o.cost < 0)) with q79 | q79
    · replace hF := hF.1 q79
      refine .gS rfl rfl rfl q79 rfl rfl ?_
      refine .gS rfl rfl rfl q79 rfl rfl ?_
      refine .gS rfl rfl rfl q79 rfl rfl ?_
      refine .v (pkT rfl q79 rfl) rfl rfl rfl ?_
      refine .v (asg rfl) rfl rfl rfl ?_
      refine .nil ?_
      refine .sel0 [] (by decide) rfl ?_
      exact .use q77 true hF (.cons rfl (.nil)) rfl (FH.le_refl _)
    replace hF := hF.2 q79
    refine .gv (fa rfl tF64_3) rfl rfl rfl q79 rfl rfl ?_
    refine .gv (ld1 rfl tO3 (cellB (off := 3) (k := 0) rfl rfl)) rfl rfl rfl q79 rfl rfl ?_
    refine .gv (bi rfl rfl rfl) rfl rfl rfl q79 rfl rfl ?_
    refine .v (pkF rfl q79 rfl) rfl rfl rfl ?_
    refine .v (asg rfl) rfl rfl rfl ?_
    refine .nil ?_
    refine .sel0 [] (by decide) rfl ?_
    exact .use q77 (decide (100 < o.cost)) hF (.cons rfl (.nil)) rfl (FH.le_refl _)
  refine .region ?_
  refine .v (fa rfl tF64_0) rfl rfl rfl ?_
  refine .v (ld1 rfl tO22 (cellB (off := 0) (k := 0) rfl rfl)) rfl rfl rfl ?_
  refine .v (mv rfl) rfl rfl rfl ?_
  obtain ⟨q80, hF⟩ := hF
  obtain ⟨r2, q81⟩ : ∃ y_ : Bool, y_ = sp_isSet o.pre facts := ⟨_, rfl⟩
  replace hF := hF r2 q81
  refine .c (cl (v := .bool r2) Tryd.call29 rfl rfl (fun w S => (by rw [q81]; exact c_isSet S.sub o.pre ao co _q1 _q2 facts q80))) rfl rfl rfl ?_
  refine .v (nt rfl) rfl rfl rfl ?_
  refine .v (mv rfl) rfl rfl rfl ?_
  rcases Bool.eq_false_or_eq_true (!r2) with q82 | q82
  · replace hF := hF.1 q82
    refine .gS rfl rfl rfl q82 rfl rfl ?_
    refine .gS rfl rfl rfl q82 rfl rfl ?_
    refine .gS rfl rfl rfl q82 rfl rfl ?_
    refine .gS rfl rfl rfl q82 rfl rfl ?_
    refine .gS rfl rfl rfl q82 rfl rfl ?_
    refine .v (pkT rfl q82 rfl) rfl rfl rfl ?_
    refine .v (mv rfl) rfl rfl rfl ?_
    refine .gS rfl rfl rfl rfl rfl rfl ?_
    refine .gS rfl rfl rfl rfl rfl rfl ?_
    refine .gS rfl rfl rfl rfl rfl rfl ?_
    refine .gS rfl rfl rfl rfl rfl rfl ?_
    refine .gS rfl rfl rfl rfl rfl rfl ?_
    refine .v (pkT rfl rfl rfl) rfl rfl rfl ?_
    refine .v (mv rfl) rfl rfl rfl ?_
    refine .gS rfl rfl rfl rfl rfl rfl ?_
    refine .gS rfl rfl rfl rfl rfl rfl ?_
    refine .gS rfl rfl rfl rfl rfl rfl ?_
    refine .gS rfl rfl rfl rfl rfl rfl ?_
    refine .gS rfl rfl rfl rfl rfl rfl ?_
    refine .v (pkT rfl rfl rfl) rfl rfl rfl ?_
    refine .v (asg rfl) rfl rfl rfl ?_
    refine .nil ?_
    exact .use q74 true hF (.cons rfl (.cons rfl (.nil))) rfl (FH.le_refl _)
  replace hF := hF.2 q82
  refine .gv (fa rfl tF64_1) rfl rfl rfl q82 rfl rfl ?_
  refine .gv (ld1 rfl tO22 (cellB (off := 1) (k := 0) rfl rfl)) rfl rfl rfl q82 rfl rfl ?_
  refine .gv (mv rfl) rfl rfl rfl q82 rfl rfl ?_
  obtain ⟨q83, hF⟩ := hF
  obtain ⟨r3, q84⟩ : ∃ y_ : Bool, y_ = sp_isSet o.add facts := ⟨_, rfl⟩
  replace hF := hF r3 q84
  refine .gc (cl (v := .bool r3) Tryd.call29 rfl rfl (fun w S => (by rw [q84]; exact c_isSet S.sub o.add ao2 co2 _q3 _q4 facts q83))) rfl rfl rfl q82 rfl rfl ?_
  refine .gv (nt rfl) rfl rfl rfl q82 rfl rfl ?_
  refine .v (pkF rfl q82 rfl) rfl rfl rfl ?_
  refine .v (mv rfl) rfl rfl rfl ?_
  rcases Bool.eq_false_or_eq_true (!r3) with q85 | q85
  · replace hF := hF.1 q85
    refine .gS rfl rfl rfl q85 rfl rfl ?_
    refine .gS rfl rfl rfl q85 rfl rfl ?_
    refine .gS rfl rfl rfl q85 rfl rfl ?_
    refine .gS rfl rfl rfl q85 rfl rfl ?_
    refine .gS rfl rfl rfl q85 rfl rfl ?_
    refine .v (pkT rfl q85 rfl) rfl rfl rfl ?_
    refine .v (mv rfl) rfl rfl rfl ?_
    refine .gS rfl rfl rfl rfl rfl rfl ?_
    refine .gS rfl rfl rfl rfl rfl rfl ?_
    refine .gS rfl rfl rfl rfl rfl rfl ?_
    refine .gS rfl rfl rfl rfl rfl rfl ?_
    refine .gS rfl rfl rfl rfl rfl rfl ?_
    refine .v (pkT rfl rfl rfl) rfl rfl rfl ?_
    refine .v (asg rfl) rfl rfl rfl ?_
    refine .nil ?_
    exact .use q74 true hF (.cons rfl (.cons rfl (.nil))) rfl (FH.le_refl _)
  replace hF := hF.2 q85
  refine .gv (fa rfl tF64_2) rfl rfl rfl q85 rfl rfl ?_
  refine .gv (ld1 rfl tO22 (cellB (off := 2) (k := 0) rfl rfl)) rfl rfl rfl q85 rfl rfl ?_
  refine .gv (mv rfl) rfl rfl rfl q85 rfl rfl ?_
  obtain ⟨q86, hF⟩ := hF
  obtain ⟨r4, q87⟩ : ∃ y_ : Bool, y_ = sp_isSet o.del facts := ⟨_, rfl⟩
  replace hF := hF r4 q87
  refine .gc (cl (v := .bool r4) Tryd.call29 rfl rfl (fun w S => (by rw [q87]; exact c_isSet S.sub o.del ao3 co3 _q5 _q6 facts q86))) rfl rfl rfl q85 rfl rfl ?_
  refine .gv (nt rfl) rfl rfl rfl q85 rfl rfl ?_
  refine .v (pkF rfl q85 rfl) rfl rfl rfl ?_
  refine .v (mv rfl) rfl rfl rfl ?_
  rcases Bool.eq_false_or_eq_true (!r4) with q88 | q88
  · replace hF := hF.1 q88
    refine .gS rfl rfl rfl q88 rfl rfl ?_
    refine .gS rfl rfl rfl q88 rfl rfl ?_
    refine .gS rfl rfl rfl q88 rfl rfl ?_
    refine .gS rfl rfl rfl q88 rfl rfl ?_
    refine .gS rfl rfl rfl q88 rfl rfl ?_
    refine .v (pkT rfl q88 rfl) rfl rfl rfl ?_
    refine .v (asg rfl) rfl rfl rfl ?_
    refine .nil ?_
    exact .use q74 true hF (.cons rfl (.cons rfl (.nil))) rfl (FH.le_refl _)
  replace hF := hF.2 q88
  refine .gv (fa rfl tF64_1) rfl rfl rfl q88 rfl rfl ?_
  refine .gv (ld1 rfl tO22 (cellB (off := 1) (k := 0) rfl rfl)) rfl rfl rfl q88 rfl rfl ?_
  refine .gv (fa rfl tF64_2) rfl rfl rfl q88 rfl rfl ?_
  refine .gv (ld1 rfl tO22 (cellB (off := 2) (k := 0) rfl rfl)) rfl rfl rfl q88 rfl rfl ?_
  obtain ⟨q89, hF⟩ := hF
  obtain ⟨r5, q90⟩ : ∃ y_ : Bool, y_ = sp_meets o.add o.del := ⟨_, rfl⟩
  replace hF := hF r5 q90
  refine .gc (cl (v := .bool r5) Tryd.call55 rfl rfl (fun w S => (by rw [q90]; exact c_meets S.sub o.add ao2 co2 _q3 _q4 o.del ao3 co3 _q5 _q6 q89))) rfl rfl rfl q88 rfl rfl ?_
  refine .v (pkF rfl q88 rfl) rfl rfl rfl ?_
  refine .v (asg rfl) rfl rfl rfl ?_
  refine .nil ?_
  exact .use q74 r5 hF (.cons rfl (.cons rfl (.nil))) rfl (FH.le_refl _)

theorem c_operator {h : FH} {w : World} (hs : Sub h w) (o : Operator) (ao : Option Addr) (co : Nat) (_q1 : RSl h ao o.pre) (_q2 : o.pre.length ≤ co) (ao2 : Option Addr) (co2 : Nat) (_q3 : RSl h ao2 o.add) (_q4 : o.add.length ≤ co2) (ao3 : Option Addr) (co3 : Nat) (_q5 : RSl h ao3 o.del) (_q6 : o.del.length ≤ co3) (facts : Int) (hp : pre_operator o facts) : Calls Tryd.prog 41 #[.agg #[.slice ao o.pre.length co, .slice ao2 o.add.length co2, .slice ao3 o.del.length co3, .int .i64 o.cost], .int .i64 facts] w fun e w' => e = .returned (.int .i64 (sp_operator o facts)) ∧ Below w.heap.size w w' :=
  (w_operator hs o ao co _q1 _q2 ao2 co2 _q3 _q4 ao3 co3 _q5 _q6 facts (fun r => r = sp_operator o facts) (ok_operator o facts hp)).mono fun _ _ ⟨_, hk, he, hb⟩ => ⟨by rw [he, hk], hb⟩

set_option maxHeartbeats 8000000 in
theorem w_validate {h : FH} {w : World} (hs : Sub h w) (t : Task) (at_ : Option Addr) (ct : Nat) (_q1 : RSl h at_ t.init) (_q2 : t.init.length ≤ ct) (at_2 : Option Addr) (ct2 : Nat) (_q3 : RSl h at_2 t.goal) (_q4 : t.goal.length ≤ ct2) (at_3 : Option Addr) (ct3 : Nat) (_q5 : RSl h at_3 t.ops) (_q6 : t.ops.length ≤ ct3) (K : Fault → Prop) (hF : F_validate t K) : Calls Tryd.prog 28 #[.agg #[.int .i64 t.facts, .slice at_ t.init.length ct, .slice at_2 t.goal.length ct2, .slice at_3 t.ops.length ct3]] w fun e w' => ∃ r : Fault, K r ∧ e = .returned (.agg #[.int .i64 r.code, .int .i64 r.index]) ∧ Below w.heap.size w w' := by
  refine enter (args := [.agg #[.int .i64 t.facts, .slice at_ t.init.length ct, .slice at_2 t.goal.length ct2, .slice at_3 t.ops.length ct3]]) Tryd.func28 rfl Tryd.ntmps28 rfl hs ?_
  refine .seq ?_
  refine .region ?_
  refine bx (vs := [.int .i64 t.facts, .slice at_ t.init.length ct, .slice at_2 t.goal.length ct2, .slice at_3 t.ops.length ct3]) rfl rfl rfl (fun pt => ?_)
  refine al tZ27 rfl (fun pv => ?_)
  refine .nil ?_
  refine .seqN ?_
  refine .seq ?_
  refine .block ?_
  refine .share (σ := Bool) (fun z => F_validate_J1 t K z) (fun z => [(1, .pointer (some pt)), (2, .pointer (some pv)), (6, .bool z)]) (fun _ => [Box pt [.int .i64 t.facts, .slice at_ t.init.length ct, .slice at_2 t.goal.length ct2, .slice at_3 t.ops.length ct3], Box pv [.int .i64 0, .int .i64 0]]) (fun _ => h) ?_ (fun q30 => ?_)
  · rintro t6 hF
    show J _ _ _ _ _ [(1, .pointer (some pt)), (2, .pointer (some pv)), (6, .bool t6)] [Box pt [.int .i64 t.facts, .slice at_ t.init.length ct, .slice at_2 t.goal.length ct2, .slice at_3 t.ops.length ct3], Box pv [.int .i64 0, .int .i64 0]] h
    refine .cond rfl (fun q31 => ?_) (fun q31 => ?_)
    · replace hF := hF.1 q31
      refine .seq ?_
      refine .region ?_
      refine .v (bld (cs := #[.int .i64 3, .int .i64 (-1)]) (pv := [(0, .int .i64 3), (1, .int .i64 (-1))]) tB27 rfl rfl) rfl rfl rfl ?_
      refine st (p := pv) (off := 0) (k := 1) (vs := [.int .i64 3, .int .i64 (-1)]) rfl rfl rfl (fun w => (tA27 w).2) rfl rfl rfl rfl ?_
      refine .cast (A' := [Box pt [.int .i64 t.facts, .slice at_ t.init.length ct, .slice at_2 t.goal.length ct2, .slice at_3 t.ops.length ct3], Box pv [.int .i64 3, .int .i64 (-1)]]) rfl ?_
      refine .nil ?_
      refine .seqN ?_
      refine .ret ?_
      refine .blkR ?_
      refine .seqR ?_
      refine .res1 rfl (rvC rfl tA27 (k := 1) rfl rfl) (fun w' S => ⟨(⟨3, (-1)⟩ : Fault), hF, rfl, S.below⟩)
    replace hF := hF.2 q31
    refine .seq ?_
    refine .region ?_
    refine .v (fa rfl tF25_1) rfl rfl rfl ?_
    refine .v (ld1 rfl tO22 (cellB (off := 1) (k := 0) rfl rfl)) rfl rfl rfl ?_
    refine .v (fa rfl tF25_0) rfl rfl rfl ?_
    refine .v (ld1 rfl tO3 (cellB (off := 0) (k := 0) rfl rfl)) rfl rfl rfl ?_
    obtain ⟨q32, hF⟩ := hF
    obtain ⟨r2, q33⟩ : ∃ y_ : Bool, y_ = sp_isSet t.init t.facts := ⟨_, rfl⟩
    replace hF := hF r2 q33
    refine .c (cl (v := .bool r2) Tryd.call29 rfl rfl (fun w S => (by rw [q33]; exact c_isSet S.sub t.init at_ ct _q1 _q2 t.facts q32))) rfl rfl rfl ?_
    refine .v (nt rfl) rfl rfl rfl ?_
    refine .v (asg rfl) rfl rfl rfl ?_
    refine .nil ?_
    refine .seqN ?_
    refine .cond rfl (fun q34 => ?_) (fun q34 => ?_)
    · replace hF := hF.1 q34
      refine .seq ?_
      refine .region ?_
      refine .v (bld (cs := #[.int .i64 5, .int .i64 (-2)]) (pv := [(0, .int .i64 5), (1, .int .i64 (-2))]) tB27 rfl rfl) rfl rfl rfl ?_
      refine st (p := pv) (off := 0) (k := 1) (vs := [.int .i64 5, .int .i64 (-2)]) rfl rfl rfl (fun w => (tA27 w).2) rfl rfl rfl rfl ?_
      refine .cast (A' := [Box pt [.int .i64 t.facts, .slice at_ t.init.length ct, .slice at_2 t.goal.length ct2, .slice at_3 t.ops.length ct3], Box pv [.int .i64 5, .int .i64 (-2)]]) rfl ?_
      refine .nil ?_
      refine .seqN ?_
      refine .ret ?_
      refine .blkR ?_
      refine .seqR ?_
      refine .res1 rfl (rvC rfl tA27 (k := 1) rfl rfl) (fun w' S => ⟨(⟨5, (-2)⟩ : Fault), hF, rfl, S.below⟩)
    replace hF := hF.2 q34
    refine .seq ?_
    refine .region ?_
    refine .v (fa rfl tF25_2) rfl rfl rfl ?_
    refine .v (ld1 rfl tO22 (cellB (off := 2) (k := 0) rfl rfl)) rfl rfl rfl ?_
    refine .v (fa rfl tF25_0) rfl rfl rfl ?_
    refine .v (ld1 rfl tO3 (cellB (off := 0) (k := 0) rfl rfl)) rfl rfl rfl ?_
    obtain ⟨q35, hF⟩ := hF
    obtain ⟨r3, q36⟩ : ∃ y_ : Bool, y_ = sp_isSet t.goal t.facts := ⟨_, rfl⟩
    replace hF := hF r3 q36
    refine .c (cl (v := .bool r3) Tryd.call29 rfl rfl (fun w S => (by rw [q36]; exact c_isSet S.sub t.goal at_2 ct2 _q3 _q4 t.facts q35))) rfl rfl rfl ?_
    refine .v (nt rfl) rfl rfl rfl ?_
    refine .v (asg rfl) rfl rfl rfl ?_
    refine .nil ?_
    refine .seqN ?_
    refine .cond rfl (fun q37 => ?_) (fun q37 => ?_)
    · replace hF := hF.1 q37
      refine .seq ?_
      refine .region ?_
      refine .v (bld (cs := #[.int .i64 5, .int .i64 (-3)]) (pv := [(0, .int .i64 5), (1, .int .i64 (-3))]) tB27 rfl rfl) rfl rfl rfl ?_
      refine st (p := pv) (off := 0) (k := 1) (vs := [.int .i64 5, .int .i64 (-3)]) rfl rfl rfl (fun w => (tA27 w).2) rfl rfl rfl rfl ?_
      refine .cast (A' := [Box pt [.int .i64 t.facts, .slice at_ t.init.length ct, .slice at_2 t.goal.length ct2, .slice at_3 t.ops.length ct3], Box pv [.int .i64 5, .int .i64 (-3)]]) rfl ?_
      refine .nil ?_
      refine .seqN ?_
      refine .ret ?_
      refine .blkR ?_
      refine .seqR ?_
      refine .res1 rfl (rvC rfl tA27 (k := 1) rfl rfl) (fun w' S => ⟨(⟨5, (-3)⟩ : Fault), hF, rfl, S.below⟩)
    replace hF := hF.2 q37
    refine .seq ?_
    refine .region ?_
    refine .v (fa rfl tF25_3) rfl rfl rfl ?_
    refine .v (ld1 rfl tO23 (cellB (off := 3) (k := 0) rfl rfl)) rfl rfl rfl ?_
    refine .v (ln rfl tS23.is) rfl rfl rfl ?_
    refine .v (bi rfl rfl rfl) rfl rfl rfl ?_
    refine .v (asg rfl) rfl rfl rfl ?_
    refine .nil ?_
    refine .seqN ?_
    refine .cond rfl (fun q38 => ?_) (fun q38 => ?_)
    · replace hF := hF.1 q38
      refine .seq ?_
      refine .region ?_
      refine .v (bld (cs := #[.int .i64 2, .int .i64 (-1)]) (pv := [(0, .int .i64 2), (1, .int .i64 (-1))]) tB27 rfl rfl) rfl rfl rfl ?_
      refine st (p := pv) (off := 0) (k := 1) (vs := [.int .i64 2, .int .i64 (-1)]) rfl rfl rfl (fun w => (tA27 w).2) rfl rfl rfl rfl ?_
      refine .cast (A' := [Box pt [.int .i64 t.facts, .slice at_ t.init.length ct, .slice at_2 t.goal.length ct2, .slice at_3 t.ops.length ct3], Box pv [.int .i64 2, .int .i64 (-1)]]) rfl ?_
      refine .nil ?_
      refine .seqN ?_
      refine .ret ?_
      refine .blkR ?_
      refine .seqR ?_
      refine .res1 rfl (rvC rfl tA27 (k := 1) rfl rfl) (fun w' S => ⟨(⟨2, (-1)⟩ : Fault), hF, rfl, S.below⟩)
    replace hF := hF.2 q38
    refine .skip ?_
    refine .blkN ?_
    refine .seqN ?_
    refine .seq ?_
    refine .seq ?_
    refine .region ?_
    refine .v (fa rfl tF25_3) rfl rfl rfl ?_
    refine .v (ld1 rfl tO23 (cellB (off := 3) (k := 0) rfl rfl)) rfl rfl rfl ?_
    refine .v (ln rfl tS23.is) rfl rfl rfl ?_
    refine .v (mv rfl) rfl rfl rfl ?_
    refine .nil ?_
    refine .seqN ?_
    refine .block ?_
    obtain ⟨I1, μ1, q221, q222⟩ := hF
    refine .loop' (σ := Int) (fun z => I1 z) (fun z => μ1 z) (fun z => [(1, .pointer (some pt)), (2, .pointer (some pv)), (39, .slice at_3 t.ops.length ct3), (40, .int .i64 ((t.ops.length : Nat) : Int)), (41, .int .i64 z)]) (fun _ => [Box pt [.int .i64 t.facts, .slice at_ t.init.length ct, .slice at_2 t.goal.length ct2, .slice at_3 t.ops.length ct3], Box pv [.int .i64 0, .int .i64 0]]) (fun _ => h) 0 q221 (.cons rfl (.cons rfl (.cons rfl (.cons rfl (.cons rfl (.nil)))))) rfl (FH.le_refl _) ?_
    rintro t41 q221
    have hF := q222 t41 q221
    show J _ _ _ _ _ [(1, .pointer (some pt)), (2, .pointer (some pv)), (39, .slice at_3 t.ops.length ct3), (40, .int .i64 ((t.ops.length : Nat) : Int)), (41, .int .i64 t41)] [Box pt [.int .i64 t.facts, .slice at_ t.init.length ct, .slice at_2 t.goal.length ct2, .slice at_3 t.ops.length ct3], Box pv [.int .i64 0, .int .i64 0]] h
    refine .seq ?_
    refine .region ?_
    refine .v (bi rfl rfl rfl) rfl rfl rfl ?_
    refine .nil ?_
    refine .seqN ?_
    refine .seq ?_
    refine .cond rfl (fun q225 => ?_) (fun q225 => ?_)
    · replace hF := hF.1 q225
      refine .skip ?_
      refine .seqN ?_
      refine .seq ?_
      refine .block ?_
      refine .seq ?_
      refine .region ?_
      refine .v (mv rfl) rfl rfl rfl ?_
      obtain ⟨q248, hF⟩ := hF
      refine .v (ix rfl rfl tS23 (_q5.ne (by decide) (inb_pos q248)) q248) rfl rfl rfl ?_
      obtain ⟨_, ⟨a, c, a2, c2, a3, c3, rfl, ⟨q249, q250⟩, ⟨q251, q252⟩, q253, q254⟩, q255⟩ := _q5.elem q248
      refine .v (ldA (cs := [.slice a ((gt t.ops t41).pre.length) c, .slice a2 ((gt t.ops t41).add.length) c2, .slice a3 ((gt t.ops t41).del.length) c3, .int .i64 ((gt t.ops t41).cost)]) rfl tA64 rfl (cellsH (q255 (by decide)))) rfl rfl rfl ?_
      refine al tZ64 rfl (fun po => ?_)
      refine .v (asg rfl) rfl rfl rfl ?_
      refine st (p := po) (off := 0) (k := 0) (vs := [.slice a ((gt t.ops t41).pre.length) c, .slice a2 ((gt t.ops t41).add.length) c2, .slice a3 ((gt t.ops t41).del.length) c3, .int .i64 ((gt t.ops t41).cost)]) rfl rfl rfl (fun w => (tA64 w).2) rfl rfl rfl rfl ?_
      refine .cast (A' := [Box po [.slice a ((gt t.ops t41).pre.length) c, .slice a2 ((gt t.ops t41).add.length) c2, .slice a3 ((gt t.ops t41).del.length) c3, .int .i64 ((gt t.ops t41).cost)], Box pt [.int .i64 t.facts, .slice at_ t.init.length ct, .slice at_2 t.goal.length ct2, .slice at_3 t.ops.length ct3], Box pv [.int .i64 0, .int .i64 0]]) rfl ?_
      refine .nil ?_
      refine .seqN ?_
      refine .seq ?_
      refine .region ?_
      refine .v (ldA (cs := [.slice a ((gt t.ops t41).pre.length) c, .slice a2 ((gt t.ops t41).add.length) c2, .slice a3 ((gt t.ops t41).del.length) c3, .int .i64 ((gt t.ops t41).cost)]) rfl tA64 rfl (cellsB (off := 0) (k := 0) rfl (m := 4) rfl)) rfl rfl rfl ?_
      refine .v (fa rfl tF25_0) rfl rfl rfl ?_
      refine .v (ld1 rfl tO3 (cellB (off := 0) (k := 1) rfl rfl)) rfl rfl rfl ?_
      obtain ⟨q256, hF⟩ := hF
      obtain ⟨r4, q257⟩ : ∃ y_ : Int, y_ = sp_operator (gt t.ops t41) t.facts := ⟨_, rfl⟩
      replace hF := hF r4 q257
      refine .c (cl (v := .int .i64 r4) Tryd.call41 rfl rfl (fun w S => (by rw [q257]; exact c_operator S.sub (gt t.ops t41) a c q250 q249 a2 c2 q252 q251 a3 c3 q254 q253 t.facts q256))) rfl rfl rfl ?_
      refine .v (asg rfl) rfl rfl rfl ?_
      refine .nil ?_
      refine .seqN ?_
      refine .seq ?_
      refine .region ?_
      refine .v (mv rfl) rfl rfl rfl ?_
      refine .v (bi rfl rfl rfl) rfl rfl rfl ?_
      refine .nil ?_
      refine .seqN ?_
      refine .cond rfl (fun q258 => ?_) (fun q258 => ?_)
      · replace hF := hF.1 q258
        refine .seq ?_
        refine .region ?_
        refine .v (mv rfl) rfl rfl rfl ?_
        refine .v (mv rfl) rfl rfl rfl ?_
        refine .v (bld (cs := #[.int .i64 r4, .int .i64 t41]) (pv := [(0, .int .i64 r4), (1, .int .i64 t41)]) tB27 rfl rfl) rfl rfl rfl ?_
        refine st (p := pv) (off := 0) (k := 2) (vs := [.int .i64 r4, .int .i64 t41]) rfl rfl rfl (fun w => (tA27 w).2) rfl rfl rfl rfl ?_
        refine .cast (A' := [Box po [.slice a ((gt t.ops t41).pre.length) c, .slice a2 ((gt t.ops t41).add.length) c2, .slice a3 ((gt t.ops t41).del.length) c3, .int .i64 ((gt t.ops t41).cost)], Box pt [.int .i64 t.facts, .slice at_ t.init.length ct, .slice at_2 t.goal.length ct2, .slice at_3 t.ops.length ct3], Box pv [.int .i64 r4, .int .i64 t41]]) rfl ?_
        refine .nil ?_
        refine .seqN ?_
        refine .ret ?_
        refine .blkR ?_
        refine .seqR ?_
        refine .seqR ?_
        refine .blkR ?_
        refine .seqR ?_
        refine .res1 rfl (rvC rfl tA27 (k := 2) rfl rfl) (fun w' S => ⟨(⟨r4, t41⟩ : Fault), hF, rfl, S.below⟩)
      replace hF := hF.2 q258
      refine .skip ?_
      refine .blkN ?_
      refine .seqN ?_
      refine .region ?_
      refine .v (bi rfl rfl rfl) rfl rfl rfl ?_
      refine .v (mv rfl) rfl rfl rfl ?_
      refine .nil ?_
      refine .sel0 [1, 2] (by decide) rfl ?_
      exact .round (IntKind.i64.wrap (t41 + 1)) hF.1 hF.2 (.cons rfl (.cons rfl (.cons rfl (.cons rfl (.cons rfl (.nil)))))) rfl (FH.le_refl _)
    replace hF := hF.2 q225
    refine .exit ?_
    refine .seqX ?_
    refine .seqX ?_
    refine .blkX ?_
    refine .seqN ?_
    refine .seq ?_
    refine .region ?_
    refine .v (bld (cs := #[.int .i64 0, .int .i64 0]) (pv := []) tB27 rfl rfl) rfl rfl rfl ?_
    refine st (p := pv) (off := 0) (k := 1) (vs := [.int .i64 0, .int .i64 0]) rfl rfl rfl (fun w => (tA27 w).2) rfl rfl rfl rfl ?_
    refine .cast (A' := [Box pt [.int .i64 t.facts, .slice at_ t.init.length ct, .slice at_2 t.goal.length ct2, .slice at_3 t.ops.length ct3], Box pv [.int .i64 0, .int .i64 0]]) rfl ?_
    refine .nil ?_
    refine .seqN ?_
    refine .ret ?_
    refine .res1 rfl (rvC rfl tA27 (k := 1) rfl rfl) (fun w' S => ⟨(⟨0, 0⟩ : Fault), hF, rfl, S.below⟩)
  refine .region ?_
  refine .v (fa rfl tF25_0) rfl rfl rfl ?_
  refine .v (ld1 rfl tO3 (cellB (off := 0) (k := 1) rfl rfl)) rfl rfl rfl ?_
  refine .v (bi rfl rfl rfl) rfl rfl rfl ?_
  refine .v (mv rfl) rfl rfl rfl ?_
  rcases Bool.eq_false_or_eq_true (decide (t.facts < 0)) with q259 | q259
  · replace hF := hF.1 q259
    refine .gS rfl rfl rfl q259 rfl rfl ?_
    refine .gS rfl rfl rfl q259 rfl rfl ?_
    refine .gS rfl rfl rfl q259 rfl rfl ?_
    refine .v (pkT rfl q259 rfl) rfl rfl rfl ?_
    refine .v (asg rfl) rfl rfl rfl ?_
    refine .nil ?_
    refine .sel0 [1, 0] (by decide) rfl ?_
    exact .use q30 true hF (.cons rfl (.cons rfl (.cons rfl (.nil)))) rfl (FH.le_refl _)
  replace hF := hF.2 q259
  refine .gv (fa rfl tF25_0) rfl rfl rfl q259 rfl rfl ?_
  refine .gv (ld1 rfl tO3 (cellB (off := 0) (k := 1) rfl rfl)) rfl rfl rfl q259 rfl rfl ?_
  refine .gv (bi rfl rfl rfl) rfl rfl rfl q259 rfl rfl ?_
  refine .v (pkF rfl q259 rfl) rfl rfl rfl ?_
  refine .v (asg rfl) rfl rfl rfl ?_
  refine .nil ?_
  refine .sel0 [1, 0] (by decide) rfl ?_
  exact .use q30 (decide (24 < t.facts)) hF (.cons rfl (.cons rfl (.cons rfl (.nil)))) rfl (FH.le_refl _)

theorem c_validate {h : FH} {w : World} (hs : Sub h w) (t : Task) (at_ : Option Addr) (ct : Nat) (_q1 : RSl h at_ t.init) (_q2 : t.init.length ≤ ct) (at_2 : Option Addr) (ct2 : Nat) (_q3 : RSl h at_2 t.goal) (_q4 : t.goal.length ≤ ct2) (at_3 : Option Addr) (ct3 : Nat) (_q5 : RSl h at_3 t.ops) (_q6 : t.ops.length ≤ ct3) : Calls Tryd.prog 28 #[.agg #[.int .i64 t.facts, .slice at_ t.init.length ct, .slice at_2 t.goal.length ct2, .slice at_3 t.ops.length ct3]] w fun e w' => e = .returned (.agg #[.int .i64 (sp_validate t).code, .int .i64 (sp_validate t).index]) ∧ Below w.heap.size w w' :=
  (w_validate hs t at_ ct _q1 _q2 at_2 ct2 _q3 _q4 at_3 ct3 _q5 _q6 (fun r => r = sp_validate t) (ok_validate t)).mono fun _ _ ⟨_, hk, he, hb⟩ => ⟨by rw [he, hk], hb⟩

theorem w_steps {h : FH} {w : World} (hs : Sub h w) (operators : Int) (plan : List Int) (aplan : Option Addr) (cplan : Nat) (_q1 : RSl h aplan plan) (_q2 : plan.length ≤ cplan) (K : Fault → Prop) (hF : F_steps operators plan K) : Calls Tryd.prog 12 #[.int .i64 operators, .slice aplan plan.length cplan] w fun e w' => ∃ r : Fault, K r ∧ e = .returned (.agg #[.int .i64 r.code, .int .i64 r.index]) ∧ Below w.heap.size w w' := by
  refine enter (args := [.int .i64 operators, .slice aplan plan.length cplan]) Tryd.func12 rfl Tryd.ntmps12 rfl hs ?_
  refine .seq ?_
  refine .region ?_
  refine al tZ27 rfl (fun pv => ?_)
  refine .nil ?_
  refine .seqN ?_
  refine .seq ?_
  refine .seq ?_
  refine .region ?_
  refine .v (mv rfl) rfl rfl rfl ?_
  refine .v (ln rfl tS22.is) rfl rfl rfl ?_
  refine .v (bi rfl rfl rfl) rfl rfl rfl ?_
  refine .nil ?_
  refine .seqN ?_
  refine .cond rfl (fun q4 => ?_) (fun q4 => ?_)
  · replace hF := hF.1 q4
    refine .seq ?_
    refine .region ?_
    refine .v (bld (cs := #[.int .i64 2, .int .i64 (-5)]) (pv := [(0, .int .i64 2), (1, .int .i64 (-5))]) tB27 rfl rfl) rfl rfl rfl ?_
    refine st (p := pv) (off := 0) (k := 0) (vs := [.int .i64 2, .int .i64 (-5)]) rfl rfl rfl (fun w => (tA27 w).2) rfl rfl rfl rfl ?_
    refine .cast (A' := [Box pv [.int .i64 2, .int .i64 (-5)]]) rfl ?_
    refine .nil ?_
    refine .seqN ?_
    refine .ret ?_
    refine .seqR ?_
    refine .res1 rfl (rvC rfl tA27 (k := 0) rfl rfl) (fun w' S => ⟨(⟨2, (-5)⟩ : Fault), hF, rfl, S.below⟩)
  replace hF := hF.2 q4
  refine .skip ?_
  refine .seqN ?_
  refine .seq ?_
  refine .seq ?_
  refine .region ?_
  refine .v (mv rfl) rfl rfl rfl ?_
  refine .v (ln rfl tS22.is) rfl rfl rfl ?_
  refine .v (mv rfl) rfl rfl rfl ?_
  refine .nil ?_
  refine .seqN ?_
  refine .block ?_
  obtain ⟨I1, μ1, q97, q98⟩ := hF
  refine .loop' (σ := Int) (fun z => I1 z) (fun z => μ1 z) (fun z => [(0, .int .i64 operators), (4, .pointer (some pv)), (11, .slice aplan plan.length cplan), (12, .int .i64 ((plan.length : Nat) : Int)), (13, .int .i64 z)]) (fun _ => [Box pv [.int .i64 0, .int .i64 0]]) (fun _ => h) 0 q97 (.cons rfl (.cons rfl (.cons rfl (.cons rfl (.cons rfl (.nil)))))) rfl (FH.le_refl _) ?_
  rintro t13 q97
  have hF := q98 t13 q97
  show J _ _ _ _ _ [(0, .int .i64 operators), (4, .pointer (some pv)), (11, .slice aplan plan.length cplan), (12, .int .i64 ((plan.length : Nat) : Int)), (13, .int .i64 t13)] [Box pv [.int .i64 0, .int .i64 0]] h
  refine .seq ?_
  refine .region ?_
  refine .v (bi rfl rfl rfl) rfl rfl rfl ?_
  refine .nil ?_
  refine .seqN ?_
  refine .seq ?_
  refine .cond rfl (fun q101 => ?_) (fun q101 => ?_)
  · replace hF := hF.1 q101
    refine .skip ?_
    refine .seqN ?_
    refine .seq ?_
    refine .block ?_
    refine .seq ?_
    refine .region ?_
    obtain ⟨q112, hF⟩ := hF
    refine .v (ix rfl rfl tS22 (_q1.ne (by decide) (inb_pos q112)) q112) rfl rfl rfl ?_
    refine .v (ld1 (v := .int .i64 (gt plan t13)) rfl tO3 (cellH (_q1.elemF q112 (by decide) 0 _ rfl))) rfl rfl rfl ?_
    refine .v (asg rfl) rfl rfl rfl ?_
    refine .nil ?_
    refine .seqN ?_
    refine .share (σ := Bool) (fun z => F_steps_J1 K z t13 I1 μ1) (fun z => [(0, .int .i64 operators), (4, .pointer (some pv)), (11, .slice aplan plan.length cplan), (12, .int .i64 ((plan.length : Nat) : Int)), (13, .int .i64 t13), (23, .bool z)]) (fun _ => [Box pv [.int .i64 0, .int .i64 0]]) (fun _ => h) ?_ (fun q114 => ?_)
    · rintro t23 hF
      show J _ _ _ _ _ [(0, .int .i64 operators), (4, .pointer (some pv)), (11, .slice aplan plan.length cplan), (12, .int .i64 ((plan.length : Nat) : Int)), (13, .int .i64 t13), (23, .bool t23)] [Box pv [.int .i64 0, .int .i64 0]] h
      refine .cond rfl (fun q115 => ?_) (fun q115 => ?_)
      · replace hF := hF.1 q115
        refine .seq ?_
        refine .region ?_
        refine .v (bld (cs := #[.int .i64 3, .int .i64 (-6)]) (pv := [(0, .int .i64 3), (1, .int .i64 (-6))]) tB27 rfl rfl) rfl rfl rfl ?_
        refine st (p := pv) (off := 0) (k := 0) (vs := [.int .i64 3, .int .i64 (-6)]) rfl rfl rfl (fun w => (tA27 w).2) rfl rfl rfl rfl ?_
        refine .cast (A' := [Box pv [.int .i64 3, .int .i64 (-6)]]) rfl ?_
        refine .nil ?_
        refine .seqN ?_
        refine .ret ?_
        refine .blkR ?_
        refine .seqR ?_
        refine .seqR ?_
        refine .blkR ?_
        refine .seqR ?_
        refine .res1 rfl (rvC rfl tA27 (k := 0) rfl rfl) (fun w' S => ⟨(⟨3, (-6)⟩ : Fault), hF, rfl, S.below⟩)
      replace hF := hF.2 q115
      refine .skip ?_
      refine .blkN ?_
      refine .seqN ?_
      refine .region ?_
      refine .v (bi rfl rfl rfl) rfl rfl rfl ?_
      refine .v (mv rfl) rfl rfl rfl ?_
      refine .nil ?_
      exact .round (IntKind.i64.wrap (t13 + 1)) hF.1 hF.2 (.cons rfl (.cons rfl (.cons rfl (.cons rfl (.cons rfl (.nil)))))) rfl (FH.le_refl _)
    refine .region ?_
    refine .v (mv rfl) rfl rfl rfl ?_
    refine .v (bi rfl rfl rfl) rfl rfl rfl ?_
    refine .v (mv rfl) rfl rfl rfl ?_
    rcases Bool.eq_false_or_eq_true (decide ((gt plan t13) < 0)) with q116 | q116
    · replace hF := hF.1 q116
      refine .gS rfl rfl rfl q116 rfl rfl ?_
      refine .gS rfl rfl rfl q116 rfl rfl ?_
      refine .gS rfl rfl rfl q116 rfl rfl ?_
      refine .v (pkT rfl q116 rfl) rfl rfl rfl ?_
      refine .nil ?_
      exact .use q114 true hF (.cons rfl (.cons rfl (.cons rfl (.cons rfl (.cons rfl (.cons rfl (.nil))))))) rfl (FH.le_refl _)
    replace hF := hF.2 q116
    refine .gv (mv rfl) rfl rfl rfl q116 rfl rfl ?_
    refine .gv (mv rfl) rfl rfl rfl q116 rfl rfl ?_
    refine .gv (bi rfl rfl rfl) rfl rfl rfl q116 rfl rfl ?_
    refine .v (pkF rfl q116 rfl) rfl rfl rfl ?_
    refine .nil ?_
    exact .use q114 (decide (operators ≤ (gt plan t13))) hF (.cons rfl (.cons rfl (.cons rfl (.cons rfl (.cons rfl (.cons rfl (.nil))))))) rfl (FH.le_refl _)
  replace hF := hF.2 q101
  refine .exit ?_
  refine .seqX ?_
  refine .seqX ?_
  refine .blkX ?_
  refine .seqN ?_
  refine .seq ?_
  refine .region ?_
  refine .v (bld (cs := #[.int .i64 0, .int .i64 0]) (pv := []) tB27 rfl rfl) rfl rfl rfl ?_
  refine st (p := pv) (off := 0) (k := 0) (vs := [.int .i64 0, .int .i64 0]) rfl rfl rfl (fun w => (tA27 w).2) rfl rfl rfl rfl ?_
  refine .cast (A' := [Box pv [.int .i64 0, .int .i64 0]]) rfl ?_
  refine .nil ?_
  refine .seqN ?_
  refine .ret ?_
  refine .res1 rfl (rvC rfl tA27 (k := 0) rfl rfl) (fun w' S => ⟨(⟨0, 0⟩ : Fault), hF, rfl, S.below⟩)

theorem c_steps {h : FH} {w : World} (hs : Sub h w) (operators : Int) (plan : List Int) (aplan : Option Addr) (cplan : Nat) (_q1 : RSl h aplan plan) (_q2 : plan.length ≤ cplan) (hp : pre_steps operators plan) : Calls Tryd.prog 12 #[.int .i64 operators, .slice aplan plan.length cplan] w fun e w' => e = .returned (.agg #[.int .i64 (sp_steps operators plan).code, .int .i64 (sp_steps operators plan).index]) ∧ Below w.heap.size w w' :=
  (w_steps hs operators plan aplan cplan _q1 _q2 (fun r => r = sp_steps operators plan) (ok_steps operators plan hp)).mono fun _ _ ⟨_, hk, he, hb⟩ => ⟨by rw [he, hk], hb⟩

theorem w_clone {h : FH} {w : World} (hs : Sub h w) (s_ : List Int) (as_ : Option Addr) (cs_ : Nat) (_q1 : RSl h as_ s_) (_q2 : s_.length ≤ cs_) (K : (List Int) → Prop) (hF : F_clone s_ K) : Calls Tryd.prog 49 #[.slice as_ s_.length cs_] w fun e w' => ∃ (r : List Int) (z : Option Addr × Nat) (h1 : FH), K r ∧ e = .returned (.slice z.1 r.length z.2) ∧ FH.le h h1 ∧ (RSl h1 z.1 r ∧ r.length ≤ z.2) ∧ SH (Kp.all w h) h1 w' [] := by
  refine enter (args := [.slice as_ s_.length cs_]) Tryd.func49 rfl Tryd.ntmps49 rfl hs ?_
  refine .seq ?_
  refine .region ?_
  refine .v (asg rfl) rfl rfl rfl ?_
  refine .nil ?_
  refine .seqN ?_
  refine .seq ?_
  refine .seq ?_
  refine .region ?_
  refine .v (mv rfl) rfl rfl rfl ?_
  refine .v (eqnil tS22.is rfl rfl) rfl rfl rfl ?_
  refine .nil ?_
  refine .seqN ?_
  refine .cond rfl (fun q4 => ?_) (fun _ => ?_)
  · replace hF := hF.1 (RSl.nil_of _q1 (by decide) q4)
    refine .seq ?_
    refine .region ?_
    refine .v (asg rfl) rfl rfl rfl ?_
    refine .nil ?_
    refine .seqN ?_
    refine .ret ?_
    refine .seqR ?_
    refine .res1 rfl (rvT rfl) (fun w' S => ⟨([] : List Int), (none, 0), h, hF, rfl, (FH.le_refl _), ⟨RSl.nil_, (Nat.le_refl 0)⟩, S.none⟩)
  replace hF := hF.2
  refine .skip ?_
  refine .seqN ?_
  refine .seq ?_
  refine .region ?_
  refine bs2 (cs := #[]) (pv := []) tS22 rfl rfl (by decide) (by decide) rfl rfl rfl (fun a _ => ?_)
  refine .cast (A' := [OwnSl 3 1 a (([] : List Int).length) 0 (flL ([] : List Int))]) rfl ?_
  refine .v (mv rfl) rfl rfl rfl ?_
  obtain ⟨q6, hF⟩ := hF
  have q7 : ([] : List Int).length + s_.length = ((([] : List Int) ++ s_)).length := len_app rfl rfl
  refine app (k := 0) (news := flL s_) (cs' := flL (([] : List Int) ++ s_)) (nm := ((([] : List Int) ++ s_)).length) tS22 rfl (by decide) rfl rfl rfl (by rw [flL_len]; rfl) (srcH (fun q => _q1.ne (by decide) q) (_q1.raw)) (flL_one _) (room_of q7 q6).1 (room_of q7 q6).2 q7 (flL_append _ _).symm rfl (fun a2 c => ?_)
  refine .cast (A' := [OwnSl 3 1 a2 ((([] : List Int) ++ s_).length) c (flL (([] : List Int) ++ s_))]) rfl ?_
  refine .v (asg rfl) rfl rfl rfl ?_
  refine .nil ?_
  refine .seqN ?_
  refine .freezeL (k := 0) rfl (fun h1 le1 q9 q8 => ?_)
  refine .cast (A' := [tru]) rfl ?_
  refine .ret ?_
  refine .res1 rfl (rvT rfl) (fun w' S => ⟨(([] : List Int) ++ s_), (a2, c), h1, hF, rfl, (le1), ⟨(RSl.of q8), (q9)⟩, S.none⟩)

theorem c_clone {h : FH} {w : World} (hs : Sub h w) (s_ : List Int) (as_ : Option Addr) (cs_ : Nat) (_q1 : RSl h as_ s_) (_q2 : s_.length ≤ cs_) (hp : pre_clone s_) : Calls Tryd.prog 49 #[.slice as_ s_.length cs_] w fun e w' => ∃ (z : Option Addr × Nat) (h1 : FH), e = .returned (.slice z.1 (sp_clone s_).length z.2) ∧ FH.le h h1 ∧ (RSl h1 z.1 (sp_clone s_) ∧ (sp_clone s_).length ≤ z.2) ∧ SH (Kp.all w h) h1 w' [] :=
  (w_clone hs s_ as_ cs_ _q1 _q2 (fun r => r = sp_clone s_) (ok_clone s_ hp)).mono fun _ _ ⟨r, z, h1, hk, he, hl, hf, hS⟩ => by subst hk; exact ⟨z, h1, he, hl, hf, hS⟩

theorem w_update {h : FH} {w : World} (hs : Sub h w) (s_ : List Int) (as_ : Option Addr) (cs_ : Nat) (_q1 : RSl h as_ s_) (_q2 : s_.length ≤ cs_) (add : List Int) (aadd : Option Addr) (cadd : Nat) (_q3 : RSl h aadd add) (_q4 : add.length ≤ cadd) (del : List Int) (adel : Option Addr) (cdel : Nat) (_q5 : RSl h adel del) (_q6 : del.length ≤ cdel) (K : (List Int) → Prop) (hF : F_update s_ add del K) : Calls Tryd.prog 31 #[.slice as_ s_.length cs_, .slice aadd add.length cadd, .slice adel del.length cdel] w fun e w' => ∃ (r : List Int) (z : Option Addr × Nat) (h1 : FH), K r ∧ e = .returned (.slice z.1 r.length z.2) ∧ FH.le h h1 ∧ True ∧ SH (Kp.all w h) h1 w' [OwnSl 3 1 z.1 r.length z.2 (flL r)] := by
  refine enter (args := [.slice as_ s_.length cs_, .slice aadd add.length cadd, .slice adel del.length cdel]) Tryd.func31 rfl Tryd.ntmps31 rfl hs ?_
  refine .seq ?_
  refine .region ?_
  refine .v (asg rfl) rfl rfl rfl ?_
  refine .nil ?_
  refine .seqN ?_
  refine .seq ?_
  refine .region ?_
  refine .v (asg rfl) rfl rfl rfl ?_
  refine .nil ?_
  refine .seqN ?_
  refine .seq ?_
  refine .seq ?_
  refine .region ?_
  refine .v (mv rfl) rfl rfl rfl ?_
  refine .v (ln rfl tS22.is) rfl rfl rfl ?_
  refine .v (mv rfl) rfl rfl rfl ?_
  refine .nil ?_
  refine .seqN ?_
  refine .block ?_
  refine .nilSl 3 1 ?_
  refine .cast (A' := [OwnSl 3 1 none (([] : List Int).length) 0 (flL ([] : List Int))]) rfl ?_
  obtain ⟨I1, μ1, q99, q100⟩ := hF
  refine .loop' (σ := Int × List Int × Option Addr × Nat) (fun z => I1 z.1 z.2.1) (fun z => μ1 z.1 z.2.1) (fun z => [(1, .slice aadd add.length cadd), (2, .slice adel del.length cdel), (7, .slice z.2.2.1 z.2.1.length z.2.2.2), (12, .slice as_ s_.length cs_), (13, .int .i64 ((s_.length : Nat) : Int)), (14, .int .i64 z.1)]) (fun z => [OwnSl 3 1 z.2.2.1 z.2.1.length z.2.2.2 (flL z.2.1)]) (fun _ => h) (0, ([] : List Int), none, 0) q99 (.cons rfl (.cons rfl (.cons rfl (.cons rfl (.cons rfl (.cons rfl (.nil))))))) rfl (FH.le_refl _) ?_
  rintro ⟨t14, out, aout, cout⟩ q99
  have hF := q100 t14 out q99
  show J _ _ _ _ _ [(1, .slice aadd add.length cadd), (2, .slice adel del.length cdel), (7, .slice aout out.length cout), (12, .slice as_ s_.length cs_), (13, .int .i64 ((s_.length : Nat) : Int)), (14, .int .i64 t14)] [OwnSl 3 1 aout out.length cout (flL out)] h
  refine .seq ?_
  refine .region ?_
  refine .v (bi rfl rfl rfl) rfl rfl rfl ?_
  refine .nil ?_
  refine .seqN ?_
  refine .seq ?_
  refine .cond rfl (fun q103 => ?_) (fun q103 => ?_)
  · replace hF := hF.1 q103
    refine .skip ?_
    refine .seqN ?_
    refine .share (σ := List Int × Option Addr × Nat) (fun z => F_update_J1 out t14 I1 μ1 z.1) (fun z => [(1, .slice aadd add.length cadd), (2, .slice adel del.length cdel), (7, .slice z.2.1 z.1.length z.2.2), (12, .slice as_ s_.length cs_), (13, .int .i64 ((s_.length : Nat) : Int)), (14, .int .i64 t14)]) (fun z => [OwnSl 3 1 z.2.1 z.1.length z.2.2 (flL z.1)]) (fun _ => h) ?_ (fun q111 => ?_)
    · rintro ⟨out3, aout3, cout3⟩ hF
      show J _ _ _ _ _ [(1, .slice aadd add.length cadd), (2, .slice adel del.length cdel), (7, .slice aout3 out3.length cout3), (12, .slice as_ s_.length cs_), (13, .int .i64 ((s_.length : Nat) : Int)), (14, .int .i64 t14)] [OwnSl 3 1 aout3 out3.length cout3 (flL out3)] h
      refine .region ?_
      refine .v (bi rfl rfl rfl) rfl rfl rfl ?_
      refine .v (mv rfl) rfl rfl rfl ?_
      refine .nil ?_
      exact .round (IntKind.i64.wrap (t14 + 1), out3, aout3, cout3) hF.1 hF.2 (.cons rfl (.cons rfl (.cons rfl (.cons rfl (.cons rfl (.cons rfl (.nil))))))) rfl (FH.le_refl _)
    refine .block ?_
    refine .seq ?_
    refine .region ?_
    obtain ⟨q112, hF⟩ := hF
    refine .v (ix rfl rfl tS22 (_q1.ne (by decide) (inb_pos q112)) q112) rfl rfl rfl ?_
    refine .v (ld1 (v := .int .i64 (gt s_ t14)) rfl tO3 (cellH (_q1.elemF q112 (by decide) 0 _ rfl))) rfl rfl rfl ?_
    refine .v (asg rfl) rfl rfl rfl ?_
    refine .nil ?_
    refine .seqN ?_
    refine .seq ?_
    refine .region ?_
    refine .v (mv rfl) rfl rfl rfl ?_
    refine .v (mv rfl) rfl rfl rfl ?_
    obtain ⟨q113, hF⟩ := hF
    obtain ⟨r2, q114⟩ : ∃ y_ : Int × Bool, y_ = sp_bsearch del (gt s_ t14) := ⟨_, rfl⟩
    replace hF := hF r2 q114
    refine .c (cl (v := .tuple #[.int .i64 r2.1, .bool r2.2]) Tryd.call42 rfl rfl (fun w S => (by rw [q114]; exact c_bsearch S.sub del adel cdel _q5 _q6 (gt s_ t14) q113))) rfl rfl rfl ?_
    refine .v (mv rfl) rfl rfl rfl ?_
    refine .v (ext rfl rfl) rfl rfl rfl ?_
    refine .v (ext rfl rfl) rfl rfl rfl ?_
    refine .v (asg rfl) rfl rfl rfl ?_
    refine .v (asg rfl) rfl rfl rfl ?_
    refine .nil ?_
    refine .seqN ?_
    refine .seq ?_
    refine .region ?_
    refine .v (mv rfl) rfl rfl rfl ?_
    refine .v (nt rfl) rfl rfl rfl ?_
    refine .nil ?_
    refine .seqN ?_
    refine .cond rfl (fun q115 => ?_) (fun q115 => ?_)
    · replace hF := hF.1 q115
      refine .region ?_
      refine .v (mv rfl) rfl rfl rfl ?_
      refine .v (mv rfl) rfl rfl rfl ?_
      refine bs2 (cs := #[.int .i64 (gt s_ t14)]) (pv := [(0, .int .i64 (gt s_ t14))]) tS22 rfl rfl (by decide) (by decide) rfl rfl rfl (fun a _ => ?_)
      refine .cast (A' := [OwnSl 3 1 a (([(gt s_ t14)] : List Int).length) 1 (flL ([(gt s_ t14)] : List Int)), OwnSl 3 1 aout out.length cout (flL out)]) rfl ?_
      obtain ⟨q117, hF⟩ := hF
      have q118 : out.length + ([(gt s_ t14)] : List Int).length = ((out ++ ([(gt s_ t14)] : List Int))).length := len_app rfl rfl
      refine app (k := 1) (news := flL ([(gt s_ t14)] : List Int)) (cs' := flL (out ++ ([(gt s_ t14)] : List Int))) (nm := ((out ++ ([(gt s_ t14)] : List Int))).length) tS22 rfl (by decide) rfl rfl rfl (by rw [flL_len]; rfl) (srcS (k := 0) rfl) (flL_one _) (room_of q118 q117).1 (room_of q118 q117).2 q118 (flL_append _ _).symm rfl (fun a2 c => ?_)
      refine .cast (A' := [OwnSl 3 1 a (([(gt s_ t14)] : List Int).length) 1 (flL ([(gt s_ t14)] : List Int)), OwnSl 3 1 a2 ((out ++ ([(gt s_ t14)] : List Int)).length) c (flL (out ++ ([(gt s_ t14)] : List Int)))]) rfl ?_
      refine .v (asg rfl) rfl rfl rfl ?_
      refine .nil ?_
      refine .blkN ?_
      refine .sel0 [1] (by decide) rfl ?_
      exact .use q111 ((out ++ ([(gt s_ t14)] : List Int)), a2, c) hF (.cons rfl (.cons rfl (.cons rfl (.cons rfl (.cons rfl (.cons rfl (.nil))))))) rfl (FH.le_refl _)
    replace hF := hF.2 q115
    refine .skip ?_
    refine .blkN ?_
    exact .use q111 (out, aout, cout) hF (.cons rfl (.cons rfl (.cons rfl (.cons rfl (.cons rfl (.cons rfl (.nil))))))) rfl (FH.le_refl _)
  replace hF := hF.2 q103
  refine .exit ?_
  refine .seqX ?_
  refine .seqX ?_
  refine .blkX ?_
  refine .seqN ?_
  refine .seq ?_
  refine .region ?_
  refine .v (mv rfl) rfl rfl rfl ?_
  refine .v (mv rfl) rfl rfl rfl ?_
  obtain ⟨q119, hF⟩ := hF
  have q120 : out.length + add.length = ((out ++ add)).length := len_app rfl rfl
  refine app (k := 0) (news := flL add) (cs' := flL (out ++ add)) (nm := ((out ++ add)).length) tS22 rfl (by decide) rfl rfl rfl (by rw [flL_len]; rfl) (srcH (fun q => _q3.ne (by decide) q) (_q3.raw)) (flL_one _) (room_of q120 q119).1 (room_of q120 q119).2 q120 (flL_append _ _).symm rfl (fun a3 c2 => ?_)
  refine .cast (A' := [OwnSl 3 1 a3 ((out ++ add).length) c2 (flL (out ++ add))]) rfl ?_
  refine .v (asg rfl) rfl rfl rfl ?_
  refine .nil ?_
  refine .seqN ?_
  refine .seq ?_
  refine .region ?_
  refine .v (mv rfl) rfl rfl rfl ?_
  obtain ⟨q121, hF⟩ := hF
  obtain ⟨r3, q122⟩ : ∃ y_ : List Int, y_ = sp_sort (out ++ add) := ⟨_, rfl⟩
  replace hF := hF r3 q122
  refine callX (k := 0) (v := .tuple #[]) (X' := OwnSl 3 1 a3 ((out ++ add).length) c2 (flL r3)) rfl Tryd.call43 rfl rfl (fun w g hx sg hd hs' => ?_) rfl ?_
  · rw [q122]; exact c_sort hs' (out ++ add) a3 c2 hx sg hd q121
  have q123 : r3.length = (out ++ add).length := by rw [q122]; exact (sort_len (out ++ add)).trans rfl
  refine .cast (A' := [OwnSl 3 1 a3 ((out ++ add).length) c2 (flL r3)]) rfl ?_
  refine .nil ?_
  refine .seqN ?_
  refine .seq ?_
  refine .region ?_
  refine .v (mv rfl) rfl rfl rfl ?_
  obtain ⟨q124, hF⟩ := hF
  obtain ⟨r4, q125⟩ : ∃ y_ : List Int, y_ = sp_compact r3 := ⟨_, rfl⟩
  replace hF := hF r4 q125
  refine callX (k := 0) (v := .slice a3 r4.length c2) (X' := OwnSl 3 1 a3 (r4.length) c2 (flL r4)) rfl Tryd.call44 rfl rfl (fun w g hx sg hd hs' => ?_) rfl ?_
  · rw [q125]; have hc_ := c_compact hs' r3 a3 c2 (own_n (q123).symm hx) sg hd q124; rw [q123] at hc_; exact hc_
  refine .cast (A' := [OwnSl 3 1 a3 r4.length c2 (flL r4)]) rfl ?_
  refine .v (asg rfl) rfl rfl rfl ?_
  refine .nil ?_
  refine .seqN ?_
  refine .ret ?_
  refine .res1 rfl (rvT rfl) (fun w' S => ⟨r4, (a3, c2), h, hF, rfl, (FH.le_refl _), trivial, S.pick (k := 0) rfl⟩)

theorem c_update {h : FH} {w : World} (hs : Sub h w) (s_ : List Int) (as_ : Option Addr) (cs_ : Nat) (_q1 : RSl h as_ s_) (_q2 : s_.length ≤ cs_) (add : List Int) (aadd : Option Addr) (cadd : Nat) (_q3 : RSl h aadd add) (_q4 : add.length ≤ cadd) (del : List Int) (adel : Option Addr) (cdel : Nat) (_q5 : RSl h adel del) (_q6 : del.length ≤ cdel) (hp : pre_update s_ add del) : Calls Tryd.prog 31 #[.slice as_ s_.length cs_, .slice aadd add.length cadd, .slice adel del.length cdel] w fun e w' => ∃ (z : Option Addr × Nat) (h0 h1 : FH), e = .returned (.slice z.1 (sp_update s_ add del).length z.2) ∧ (True) ∧ FH.le h h1 ∧ SH (Kp.all w h0) h1 w' [OwnSl 3 1 z.1 (sp_update s_ add del).length z.2 (flL (sp_update s_ add del))] :=
  (w_update hs s_ as_ cs_ _q1 _q2 add aadd cadd _q3 _q4 del adel cdel _q5 _q6 (fun r => r = sp_update s_ add del) (ok_update s_ add del hp)).mono fun _ _ ⟨r, z, h1, hk, he, hl, hψ, hS⟩ => by subst hk; exact ⟨z, h, h1, he, hψ, hl, hS⟩

set_option maxHeartbeats 8000000 in
theorem w_contains2 {h : FH} {w : World} (hs : Sub h w) (s_ : List Int) (as_ : Option Addr) (cs_ : Nat) (_q1 : RSl h as_ s_) (_q2 : s_.length ≤ cs_) (part : List Int) (apart : Option Addr) (cpart : Nat) (_q3 : RSl h apart part) (_q4 : part.length ≤ cpart) (K : Bool → Prop) (hF : F_contains2 s_ part K) : Calls Tryd.prog 34 #[.slice as_ s_.length cs_, .slice apart part.length cpart] w fun e w' => ∃ r : Bool, K r ∧ e = .returned (.bool r) ∧ Below w.heap.size w w' := by
  refine enter (args := [.slice as_ s_.length cs_, .slice apart part.length cpart]) Tryd.func34 rfl Tryd.ntmps34 rfl hs ?_
  refine .seq ?_
  refine .region ?_
  refine .v (asg rfl) rfl rfl rfl ?_
  refine .nil ?_
  refine .seqN ?_
  refine .seq ?_
  refine .region ?_
  refine .v (asg rfl) rfl rfl rfl ?_
  refine .nil ?_
  refine .seqN ?_
  refine .seq ?_
  refine .seq ?_
  refine .region ?_
  refine .v (mv rfl) rfl rfl rfl ?_
  refine .v (ln rfl tS22.is) rfl rfl rfl ?_
  refine .v (mv rfl) rfl rfl rfl ?_
  refine .nil ?_
  refine .seqN ?_
  refine .block ?_
  obtain ⟨I1, μ1, q1162, q1163⟩ := hF
  refine .loop' (σ := Int × Int) (fun z => I1 z.1 z.2) (fun z => μ1 z.1 z.2) (fun z => [(0, .slice as_ s_.length cs_), (5, .int .i64 z.1), (8, .slice apart part.length cpart), (9, .int .i64 ((part.length : Nat) : Int)), (10, .int .i64 z.2)]) (fun _ => []) (fun _ => h) (0, 0) q1162 (.cons rfl (.cons rfl (.cons rfl (.cons rfl (.cons rfl (.nil)))))) rfl (FH.le_refl _) ?_
  rintro ⟨i, t10⟩ q1162
  have hF := q1163 i t10 q1162
  show J _ _ _ _ _ [(0, .slice as_ s_.length cs_), (5, .int .i64 i), (8, .slice apart part.length cpart), (9, .int .i64 ((part.length : Nat) : Int)), (10, .int .i64 t10)] [] h
  refine .seq ?_
  refine .region ?_
  refine .v (bi rfl rfl rfl) rfl rfl rfl ?_
  refine .nil ?_
  refine .seqN ?_
  refine .seq ?_
  refine .cond rfl (fun q1166 => ?_) (fun q1166 => ?_)
  · replace hF := hF.1 q1166
    refine .skip ?_
    refine .seqN ?_
    refine .seq ?_
    refine .block ?_
    refine .seq ?_
    refine .region ?_
    obtain ⟨q1319, hF⟩ := hF
    refine .v (ix rfl rfl tS22 (_q3.ne (by decide) (inb_pos q1319)) q1319) rfl rfl rfl ?_
    refine .v (ld1 (v := .int .i64 (gt part t10)) rfl tO3 (cellH (_q3.elemF q1319 (by decide) 0 _ rfl))) rfl rfl rfl ?_
    refine .v (asg rfl) rfl rfl rfl ?_
    refine .nil ?_
    refine .seqN ?_
    refine .seq ?_
    refine .block ?_
    obtain ⟨I2, μ2, q1380, q1381⟩ := hF
    refine .loop' (σ := Int) (fun z => I2 z) (fun z => μ2 z) (fun z => [(0, .slice as_ s_.length cs_), (5, .int .i64 z), (7, .int .i64 (gt part t10)), (8, .slice apart part.length cpart), (9, .int .i64 ((part.length : Nat) : Int)), (10, .int .i64 t10)]) (fun _ => []) (fun _ => h) i q1380 (.cons rfl (.cons rfl (.cons rfl (.cons rfl (.cons rfl (.cons rfl (.nil))))))) rfl (FH.le_refl _) ?_
    rintro i3 q1380
    have hF := q1381 i3 q1380
    show J _ _ _ _ _ [(0, .slice as_ s_.length cs_), (5, .int .i64 i3), (7, .int .i64 (gt part t10)), (8, .slice apart part.length cpart), (9, .int .i64 ((part.length : Nat) : Int)), (10, .int .i64 t10)] [] h
    refine .seq ?_
    refine .share (σ := Bool) (fun z => F_contains2_J1 s_ part K z i I2 μ2 t10 i3 I1 μ1) (fun z => [(0, .slice as_ s_.length cs_), (5, .int .i64 i3), (7, .int .i64 (gt part t10)), (8, .slice apart part.length cpart), (9, .int .i64 ((part.length : Nat) : Int)), (10, .int .i64 t10), (25, .bool z)]) (fun _ => []) (fun _ => h) ?_ (fun q1384 => ?_)
    · rintro t25 hF
      show J _ _ _ _ _ [(0, .slice as_ s_.length cs_), (5, .int .i64 i3), (7, .int .i64 (gt part t10)), (8, .slice apart part.length cpart), (9, .int .i64 ((part.length : Nat) : Int)), (10, .int .i64 t10), (25, .bool t25)] [] h
      refine .cond rfl (fun q1386 => ?_) (fun q1386 => ?_)
      · replace hF := hF.1 q1386
        refine .skip ?_
        refine .seqN ?_
        refine .block ?_
        refine .region ?_
        refine .v (mv rfl) rfl rfl rfl ?_
        refine .v (bi rfl rfl rfl) rfl rfl rfl ?_
        refine .v (asg rfl) rfl rfl rfl ?_
        refine .nil ?_
        refine .blkN ?_
        exact .round (IntKind.i64.wrap (i3 + 1)) hF.1 hF.2 (.cons rfl (.cons rfl (.cons rfl (.cons rfl (.cons rfl (.cons rfl (.nil))))))) rfl (FH.le_refl _)
      replace hF := hF.2 q1386
      refine .exit ?_
      refine .seqX ?_
      refine .seqX ?_
      refine .blkX ?_
      refine .seqN ?_
      refine .share (σ := Bool) (fun z => F_contains2_J2 K i z t10 i3 I1 μ1) (fun z => [(0, .slice as_ s_.length cs_), (5, .int .i64 i3), (8, .slice apart part.length cpart), (9, .int .i64 ((part.length : Nat) : Int)), (10, .int .i64 t10), (39, .bool z)]) (fun _ => []) (fun _ => h) ?_ (fun q1389 => ?_)
      · rintro t39 hF
        show J _ _ _ _ _ [(0, .slice as_ s_.length cs_), (5, .int .i64 i3), (8, .slice apart part.length cpart), (9, .int .i64 ((part.length : Nat) : Int)), (10, .int .i64 t10), (39, .bool t39)] [] h
        refine .cond rfl (fun q1390 => ?_) (fun q1390 => ?_)
        · replace hF := hF.1 q1390
          refine .seq ?_
          refine .region ?_
          refine .v (asg rfl) rfl rfl rfl ?_
          refine .nil ?_
          refine .seqN ?_
          refine .ret ?_
          refine .blkR ?_
          refine .seqR ?_
          refine .seqR ?_
          refine .blkR ?_
          refine .seqR ?_
          refine .res1 rfl (rvT rfl) (fun w' S => ⟨false, hF, rfl, S.below⟩)
        replace hF := hF.2 q1390
        refine .skip ?_
        refine .blkN ?_
        refine .seqN ?_
        refine .region ?_
        refine .v (bi rfl rfl rfl) rfl rfl rfl ?_
        refine .v (mv rfl) rfl rfl rfl ?_
        refine .nil ?_
        exact .round (i3, IntKind.i64.wrap (t10 + 1)) hF.1 hF.2 (.cons rfl (.cons rfl (.cons rfl (.cons rfl (.cons rfl (.nil)))))) rfl (FH.le_refl _)
      refine .region ?_
      refine .v (mv rfl) rfl rfl rfl ?_
      refine .v (mv rfl) rfl rfl rfl ?_
      refine .v (ln rfl tS22.is) rfl rfl rfl ?_
      refine .v (bi rfl rfl rfl) rfl rfl rfl ?_
      refine .v (mv rfl) rfl rfl rfl ?_
      rcases Bool.eq_false_or_eq_true (i3 == ((s_.length : Nat) : Int)) with q1391 | q1391
      · replace hF := hF.1 q1391
        refine .gS rfl rfl rfl q1391 rfl rfl ?_
        refine .gS rfl rfl rfl q1391 rfl rfl ?_
        refine .gS rfl rfl rfl q1391 rfl rfl ?_
        refine .gS rfl rfl rfl q1391 rfl rfl ?_
        refine .gS rfl rfl rfl q1391 rfl rfl ?_
        refine .gS rfl rfl rfl q1391 rfl rfl ?_
        refine .v (pkT rfl q1391 rfl) rfl rfl rfl ?_
        refine .nil ?_
        exact .use q1389 true hF (.cons rfl (.cons rfl (.cons rfl (.cons rfl (.cons rfl (.cons rfl (.nil))))))) rfl (FH.le_refl _)
      replace hF := hF.2 q1391
      refine .gv (mv rfl) rfl rfl rfl q1391 rfl rfl ?_
      refine .gv (mv rfl) rfl rfl rfl q1391 rfl rfl ?_
      obtain ⟨q1392, hF⟩ := hF
      refine .gv (ix rfl rfl tS22 (_q1.ne (by decide) (inb_pos q1392)) q1392) rfl rfl rfl q1391 rfl rfl ?_
      refine .gv (ld1 (v := .int .i64 (gt s_ i3)) rfl tO3 (cellH (_q1.elemF q1392 (by decide) 0 _ rfl))) rfl rfl rfl q1391 rfl rfl ?_
      refine .gv (mv rfl) rfl rfl rfl q1391 rfl rfl ?_
      refine .gv (bi rfl rfl rfl) rfl rfl rfl q1391 rfl rfl ?_
      refine .v (pkF rfl q1391 rfl) rfl rfl rfl ?_
      refine .nil ?_
      exact .use q1389 ((gt s_ i3) != (gt part t10)) hF (.cons rfl (.cons rfl (.cons rfl (.cons rfl (.cons rfl (.cons rfl (.nil))))))) rfl (FH.le_refl _)
    refine .region ?_
    refine .v (mv rfl) rfl rfl rfl ?_
    refine .v (mv rfl) rfl rfl rfl ?_
    refine .v (ln rfl tS22.is) rfl rfl rfl ?_
    refine .v (bi rfl rfl rfl) rfl rfl rfl ?_
    refine .v (mv rfl) rfl rfl rfl ?_
    rcases Bool.eq_false_or_eq_true (decide (i3 < ((s_.length : Nat) : Int))) with q1393 | q1393
    · replace hF := hF.1 q1393
      refine .gv (mv rfl) rfl rfl rfl q1393 rfl rfl ?_
      refine .gv (mv rfl) rfl rfl rfl q1393 rfl rfl ?_
      obtain ⟨q1394, hF⟩ := hF
      refine .gv (ix rfl rfl tS22 (_q1.ne (by decide) (inb_pos q1394)) q1394) rfl rfl rfl q1393 rfl rfl ?_
      refine .gv (ld1 (v := .int .i64 (gt s_ i3)) rfl tO3 (cellH (_q1.elemF q1394 (by decide) 0 _ rfl))) rfl rfl rfl q1393 rfl rfl ?_
      refine .gv (mv rfl) rfl rfl rfl q1393 rfl rfl ?_
      refine .gv (bi rfl rfl rfl) rfl rfl rfl q1393 rfl rfl ?_
      refine .v (pkT rfl q1393 rfl) rfl rfl rfl ?_
      refine .nil ?_
      exact .use q1384 (decide ((gt s_ i3) < (gt part t10))) hF (.cons rfl (.cons rfl (.cons rfl (.cons rfl (.cons rfl (.cons rfl (.cons rfl (.nil)))))))) rfl (FH.le_refl _)
    replace hF := hF.2 q1393
    refine .gS rfl rfl rfl q1393 rfl rfl ?_
    refine .gS rfl rfl rfl q1393 rfl rfl ?_
    refine .gS rfl rfl rfl q1393 rfl rfl ?_
    refine .gS rfl rfl rfl q1393 rfl rfl ?_
    refine .gS rfl rfl rfl q1393 rfl rfl ?_
    refine .gS rfl rfl rfl q1393 rfl rfl ?_
    refine .v (pkF rfl q1393 rfl) rfl rfl rfl ?_
    refine .nil ?_
    exact .use q1384 false hF (.cons rfl (.cons rfl (.cons rfl (.cons rfl (.cons rfl (.cons rfl (.cons rfl (.nil)))))))) rfl (FH.le_refl _)
  replace hF := hF.2 q1166
  refine .exit ?_
  refine .seqX ?_
  refine .seqX ?_
  refine .blkX ?_
  refine .seqN ?_
  refine .seq ?_
  refine .region ?_
  refine .v (asg rfl) rfl rfl rfl ?_
  refine .nil ?_
  refine .seqN ?_
  refine .ret ?_
  refine .res1 rfl (rvT rfl) (fun w' S => ⟨true, hF, rfl, S.below⟩)

theorem c_contains2 {h : FH} {w : World} (hs : Sub h w) (s_ : List Int) (as_ : Option Addr) (cs_ : Nat) (_q1 : RSl h as_ s_) (_q2 : s_.length ≤ cs_) (part : List Int) (apart : Option Addr) (cpart : Nat) (_q3 : RSl h apart part) (_q4 : part.length ≤ cpart) (hp : pre_contains2 s_ part) : Calls Tryd.prog 34 #[.slice as_ s_.length cs_, .slice apart part.length cpart] w fun e w' => e = .returned (.bool (sp_contains2 s_ part)) ∧ Below w.heap.size w w' :=
  (w_contains2 hs s_ as_ cs_ _q1 _q2 part apart cpart _q3 _q4 (fun r => r = sp_contains2 s_ part) (ok_contains2 s_ part hp)).mono fun _ _ ⟨_, hk, he, hb⟩ => ⟨by rw [he, hk], hb⟩

theorem w_can {h : FH} {w : World} (hs : Sub h w) (t : Task) (at_ : Option Addr) (ct : Nat) (_q1 : RSl h at_ t.init) (_q2 : t.init.length ≤ ct) (at_2 : Option Addr) (ct2 : Nat) (_q3 : RSl h at_2 t.goal) (_q4 : t.goal.length ≤ ct2) (at_3 : Option Addr) (ct3 : Nat) (_q5 : RSl h at_3 t.ops) (_q6 : t.ops.length ≤ ct3) (s_ : List Int) (as_ : Option Addr) (cs_ : Nat) (_q7 : RSl h as_ s_) (_q8 : s_.length ≤ cs_) (op : Int) (K : Bool → Prop) (hF : F_can t s_ op K) : Calls Tryd.prog 50 #[.agg #[.int .i64 t.facts, .slice at_ t.init.length ct, .slice at_2 t.goal.length ct2, .slice at_3 t.ops.length ct3], .slice as_ s_.length cs_, .int .i64 op] w fun e w' => ∃ r : Bool, K r ∧ e = .returned (.bool r) ∧ Below w.heap.size w w' := by
  refine enter (args := [.agg #[.int .i64 t.facts, .slice at_ t.init.length ct, .slice at_2 t.goal.length ct2, .slice at_3 t.ops.length ct3], .slice as_ s_.length cs_, .int .i64 op]) Tryd.func50 rfl Tryd.ntmps50 rfl hs ?_
  refine .seq ?_
  refine .region ?_
  refine bx (vs := [.int .i64 t.facts, .slice at_ t.init.length ct, .slice at_2 t.goal.length ct2, .slice at_3 t.ops.length ct3]) rfl rfl rfl (fun pt => ?_)
  refine .v (asg rfl) rfl rfl rfl ?_
  refine .nil ?_
  refine .seqN ?_
  refine .seq ?_
  refine .region ?_
  refine .v (mv rfl) rfl rfl rfl ?_
  refine .v (fa rfl tF25_3) rfl rfl rfl ?_
  refine .v (ld1 rfl tO23 (cellB (off := 3) (k := 0) rfl rfl)) rfl rfl rfl ?_
  refine .v (mv rfl) rfl rfl rfl ?_
  obtain ⟨q9, hF⟩ := hF
  refine .v (ix rfl rfl tS23 (_q5.ne (by decide) (inb_pos q9)) q9) rfl rfl rfl ?_
  refine .v (fa rfl tF64_0) rfl rfl rfl ?_
  obtain ⟨_, ⟨a, c, a2, c2, a3, c3, rfl, ⟨q10, q11⟩, ⟨q12, q13⟩, q14, q15⟩, q16⟩ := _q5.elem q9
  refine .v (ld1 (v := .slice a ((gt t.ops op).pre.length) c) rfl tO22 (cellH (q16 (by decide) 0 _ rfl))) rfl rfl rfl ?_
  obtain ⟨q17, hF⟩ := hF
  obtain ⟨r2, q18⟩ : ∃ y_ : Bool, y_ = sp_contains2 s_ ((gt t.ops op).pre) := ⟨_, rfl⟩
  replace hF := hF r2 q18
  refine .c (cl (v := .bool r2) Tryd.call34 rfl rfl (fun w S => (by rw [q18]; exact c_contains2 S.sub s_ as_ cs_ _q7 _q8 ((gt t.ops op).pre) a c q11 q10 q17))) rfl rfl rfl ?_
  refine .v (asg rfl) rfl rfl rfl ?_
  refine .nil ?_
  refine .seqN ?_
  refine .ret ?_
  refine .res1 rfl (rvT rfl) (fun w' S => ⟨r2, hF, rfl, S.below⟩)

theorem c_can {h : FH} {w : World} (hs : Sub h w) (t : Task) (at_ : Option Addr) (ct : Nat) (_q1 : RSl h at_ t.init) (_q2 : t.init.length ≤ ct) (at_2 : Option Addr) (ct2 : Nat) (_q3 : RSl h at_2 t.goal) (_q4 : t.goal.length ≤ ct2) (at_3 : Option Addr) (ct3 : Nat) (_q5 : RSl h at_3 t.ops) (_q6 : t.ops.length ≤ ct3) (s_ : List Int) (as_ : Option Addr) (cs_ : Nat) (_q7 : RSl h as_ s_) (_q8 : s_.length ≤ cs_) (op : Int) (hp : pre_can t s_ op) : Calls Tryd.prog 50 #[.agg #[.int .i64 t.facts, .slice at_ t.init.length ct, .slice at_2 t.goal.length ct2, .slice at_3 t.ops.length ct3], .slice as_ s_.length cs_, .int .i64 op] w fun e w' => e = .returned (.bool (sp_applies t s_ op)) ∧ Below w.heap.size w w' :=
  (w_can hs t at_ ct _q1 _q2 at_2 ct2 _q3 _q4 at_3 ct3 _q5 _q6 s_ as_ cs_ _q7 _q8 op (fun r => r = sp_applies t s_ op) (ok_can t s_ op hp)).mono fun _ _ ⟨_, hk, he, hb⟩ => ⟨by rw [he, hk], hb⟩

theorem w_next {h : FH} {w : World} (hs : Sub h w) (t : Task) (at_ : Option Addr) (ct : Nat) (_q1 : RSl h at_ t.init) (_q2 : t.init.length ≤ ct) (at_2 : Option Addr) (ct2 : Nat) (_q3 : RSl h at_2 t.goal) (_q4 : t.goal.length ≤ ct2) (at_3 : Option Addr) (ct3 : Nat) (_q5 : RSl h at_3 t.ops) (_q6 : t.ops.length ≤ ct3) (s_ : List Int) (as_ : Option Addr) (cs_ : Nat) (_q7 : RSl h as_ s_) (_q8 : s_.length ≤ cs_) (op : Int) (K : (List Int) → Prop) (hF : F_next t s_ op K) : Calls Tryd.prog 51 #[.agg #[.int .i64 t.facts, .slice at_ t.init.length ct, .slice at_2 t.goal.length ct2, .slice at_3 t.ops.length ct3], .slice as_ s_.length cs_, .int .i64 op] w fun e w' => ∃ (r : List Int) (z : Option Addr × Nat) (h1 : FH), K r ∧ e = .returned (.slice z.1 r.length z.2) ∧ FH.le h h1 ∧ (RSl h1 z.1 r ∧ r.length ≤ z.2) ∧ SH (Kp.all w h) h1 w' [] := by
  refine enter (args := [.agg #[.int .i64 t.facts, .slice at_ t.init.length ct, .slice at_2 t.goal.length ct2, .slice at_3 t.ops.length ct3], .slice as_ s_.length cs_, .int .i64 op]) Tryd.func51 rfl Tryd.ntmps51 rfl hs ?_
  refine .seq ?_
  refine .region ?_
  refine bx (vs := [.int .i64 t.facts, .slice at_ t.init.length ct, .slice at_2 t.goal.length ct2, .slice at_3 t.ops.length ct3]) rfl rfl rfl (fun pt => ?_)
  refine .v (asg rfl) rfl rfl rfl ?_
  refine .nil ?_
  refine .seqN ?_
  refine .seq ?_
  refine .region ?_
  refine .v (fa rfl tF25_3) rfl rfl rfl ?_
  refine .v (ld1 rfl tO23 (cellB (off := 3) (k := 0) rfl rfl)) rfl rfl rfl ?_
  refine .v (mv rfl) rfl rfl rfl ?_
  obtain ⟨q9, hF⟩ := hF
  refine .v (ix rfl rfl tS23 (_q5.ne (by decide) (inb_pos q9)) q9) rfl rfl rfl ?_
  obtain ⟨_, ⟨a, c, a2, c2, a3, c3, rfl, ⟨q10, q11⟩, ⟨q12, q13⟩, q14, q15⟩, q16⟩ := _q5.elem q9
  refine .v (ldA (cs := [.slice a ((gt t.ops op).pre.length) c, .slice a2 ((gt t.ops op).add.length) c2, .slice a3 ((gt t.ops op).del.length) c3, .int .i64 ((gt t.ops op).cost)]) rfl tA64 rfl (cellsH (q16 (by decide)))) rfl rfl rfl ?_
  refine al tZ64 rfl (fun po => ?_)
  refine st (p := po) (off := 0) (k := 0) (vs := [.slice a ((gt t.ops op).pre.length) c, .slice a2 ((gt t.ops op).add.length) c2, .slice a3 ((gt t.ops op).del.length) c3, .int .i64 ((gt t.ops op).cost)]) rfl rfl rfl (fun w => (tA64 w).2) rfl rfl rfl rfl ?_
  refine .cast (A' := [Box po [.slice a ((gt t.ops op).pre.length) c, .slice a2 ((gt t.ops op).add.length) c2, .slice a3 ((gt t.ops op).del.length) c3, .int .i64 ((gt t.ops op).cost)], Box pt [.int .i64 t.facts, .slice at_ t.init.length ct, .slice at_2 t.goal.length ct2, .slice at_3 t.ops.length ct3]]) rfl ?_
  refine .nil ?_
  refine .seqN ?_
  refine .seq ?_
  refine .region ?_
  refine .v (mv rfl) rfl rfl rfl ?_
  refine .v (fa rfl tF64_1) rfl rfl rfl ?_
  refine .v (ld1 rfl tO22 (cellB (off := 1) (k := 0) rfl rfl)) rfl rfl rfl ?_
  refine .v (fa rfl tF64_2) rfl rfl rfl ?_
  refine .v (ld1 rfl tO22 (cellB (off := 2) (k := 0) rfl rfl)) rfl rfl rfl ?_
  obtain ⟨q17, hF⟩ := hF
  obtain ⟨r2, q18⟩ : ∃ y_ : List Int, y_ = sp_update s_ ((gt t.ops op).add) ((gt t.ops op).del) := ⟨_, rfl⟩
  replace hF := hF r2 q18
  refine clO (α := Option Addr × Nat) (V := fun z => .slice z.1 r2.length z.2) (Ψ := fun z => True) (B := fun z => [OwnSl 3 1 z.1 r2.length z.2 (flL r2)]) Tryd.call31 rfl rfl (fun w S => (by rw [q18]; exact c_update S.sub s_ as_ cs_ _q7 _q8 ((gt t.ops op).add) a2 c2 q13 q12 ((gt t.ops op).del) a3 c3 q15 q14 q17)) rfl (fun z _ => ?_)
  obtain ⟨a4, c4⟩ := z
  refine .cast (A' := [OwnSl 3 1 a4 r2.length c4 (flL r2), Box po [.slice a ((gt t.ops op).pre.length) c, .slice a2 ((gt t.ops op).add.length) c2, .slice a3 ((gt t.ops op).del.length) c3, .int .i64 ((gt t.ops op).cost)], Box pt [.int .i64 t.facts, .slice at_ t.init.length ct, .slice at_2 t.goal.length ct2, .slice at_3 t.ops.length ct3]]) rfl ?_
  refine .v (asg rfl) rfl rfl rfl ?_
  refine .nil ?_
  refine .seqN ?_
  refine .freezeL (k := 0) rfl (fun h1 le1 q20 q19 => ?_)
  refine .cast (A' := [tru, Box po [.slice a ((gt t.ops op).pre.length) c, .slice a2 ((gt t.ops op).add.length) c2, .slice a3 ((gt t.ops op).del.length) c3, .int .i64 ((gt t.ops op).cost)], Box pt [.int .i64 t.facts, .slice at_ t.init.length ct, .slice at_2 t.goal.length ct2, .slice at_3 t.ops.length ct3]]) rfl ?_
  refine .ret ?_
  refine .res1 rfl (rvT rfl) (fun w' S => ⟨r2, (a4, c4), h1, hF, rfl, (le1), ⟨(RSl.of q19), (q20)⟩, S.none⟩)

theorem c_next {h : FH} {w : World} (hs : Sub h w) (t : Task) (at_ : Option Addr) (ct : Nat) (_q1 : RSl h at_ t.init) (_q2 : t.init.length ≤ ct) (at_2 : Option Addr) (ct2 : Nat) (_q3 : RSl h at_2 t.goal) (_q4 : t.goal.length ≤ ct2) (at_3 : Option Addr) (ct3 : Nat) (_q5 : RSl h at_3 t.ops) (_q6 : t.ops.length ≤ ct3) (s_ : List Int) (as_ : Option Addr) (cs_ : Nat) (_q7 : RSl h as_ s_) (_q8 : s_.length ≤ cs_) (op : Int) (hp : pre_next t s_ op) : Calls Tryd.prog 51 #[.agg #[.int .i64 t.facts, .slice at_ t.init.length ct, .slice at_2 t.goal.length ct2, .slice at_3 t.ops.length ct3], .slice as_ s_.length cs_, .int .i64 op] w fun e w' => ∃ (z : Option Addr × Nat) (h1 : FH), e = .returned (.slice z.1 (sp_after t s_ op).length z.2) ∧ FH.le h h1 ∧ (RSl h1 z.1 (sp_after t s_ op) ∧ (sp_after t s_ op).length ≤ z.2) ∧ SH (Kp.all w h) h1 w' [] :=
  (w_next hs t at_ ct _q1 _q2 at_2 ct2 _q3 _q4 at_3 ct3 _q5 _q6 s_ as_ cs_ _q7 _q8 op (fun r => r = sp_after t s_ op) (ok_next t s_ op hp)).mono fun _ _ ⟨r, z, h1, hk, he, hl, hf, hS⟩ => by subst hk; exact ⟨z, h1, he, hl, hf, hS⟩

theorem w_srun {h : FH} {w : World} (hs : Sub h w) (t : Task) (at_ : Option Addr) (ct : Nat) (_q1 : RSl h at_ t.init) (_q2 : t.init.length ≤ ct) (at_2 : Option Addr) (ct2 : Nat) (_q3 : RSl h at_2 t.goal) (_q4 : t.goal.length ≤ ct2) (at_3 : Option Addr) (ct3 : Nat) (_q5 : RSl h at_3 t.ops) (_q6 : t.ops.length ≤ ct3) (s_ : List Int) (as_ : Option Addr) (cs_ : Nat) (_q7 : RSl h as_ s_) (_q8 : s_.length ≤ cs_) (plan : List Int) (aplan : Option Addr) (cplan : Nat) (_q9 : RSl h aplan plan) (_q10 : plan.length ≤ cplan) (K : (List (List Int)) → Prop) (hF : F_srun t s_ plan K) : Calls Tryd.prog 33 #[.agg #[.int .i64 t.facts, .slice at_ t.init.length ct, .slice at_2 t.goal.length ct2, .slice at_3 t.ops.length ct3], .slice as_ s_.length cs_, .slice aplan plan.length cplan] w fun e w' => ∃ (r : List (List Int)) (z : Option Addr × Nat) (h1 : FH), K r ∧ e = .returned (.slice z.1 r.length z.2) ∧ FH.le h h1 ∧ (RSl h1 z.1 r ∧ r.length ≤ z.2) ∧ SH (Kp.all w h) h1 w' [] := by
  refine enter (args := [.agg #[.int .i64 t.facts, .slice at_ t.init.length ct, .slice at_2 t.goal.length ct2, .slice at_3 t.ops.length ct3], .slice as_ s_.length cs_, .slice aplan plan.length cplan]) Tryd.func33 rfl Tryd.ntmps33 rfl hs ?_
  refine .seq ?_
  refine .region ?_
  refine bx (vs := [.int .i64 t.facts, .slice at_ t.init.length ct, .slice at_2 t.goal.length ct2, .slice at_3 t.ops.length ct3]) rfl rfl rfl (fun pt => ?_)
  refine .v (asg rfl) rfl rfl rfl ?_
  refine .nil ?_
  refine .seqN ?_
  refine .seq ?_
  refine .region ?_
  refine .v (mv rfl) rfl rfl rfl ?_
  obtain ⟨q11, hF⟩ := hF
  obtain ⟨r2, q12⟩ : ∃ y_ : List Int, y_ = sp_clone s_ := ⟨_, rfl⟩
  replace hF := hF r2 q12
  refine clR (α := Option Addr × Nat) (Φ := fun h1 z => RSl h1 z.1 r2 ∧ r2.length ≤ z.2) (V := fun z => .slice z.1 r2.length z.2) Tryd.call49 rfl rfl (fun w S => (by rw [q12]; exact c_clone S.sub s_ as_ cs_ _q7 _q8 q11)) rfl (fun z h1 le1 hz => ?_)
  obtain ⟨a, c⟩ := z
  obtain ⟨q13, q14⟩ := hz
  refine bs2 (cs := #[.slice a r2.length c]) (pv := [(0, .slice a r2.length c)]) tS41 rfl rfl (by decide) (by decide) rfl rfl rfl (fun a2 _ => ?_)
  refine .cast (A' := [OwnSl 22 1 a2 (([r2] : List (List Int)).length) 1 [.slice a r2.length c], Box pt [.int .i64 t.facts, .slice at_ t.init.length ct, .slice at_2 t.goal.length ct2, .slice at_3 t.ops.length ct3]]) rfl ?_
  refine .v (asg rfl) rfl rfl rfl ?_
  refine .nil ?_
  refine .seqN ?_
  refine .seq ?_
  refine .seq ?_
  refine .region ?_
  refine .v (mv rfl) rfl rfl rfl ?_
  refine .v (ln rfl tS22.is) rfl rfl rfl ?_
  refine .v (mv rfl) rfl rfl rfl ?_
  refine .nil ?_
  refine .seqN ?_
  refine .block ?_
  refine .sel0 [1, 0] (by decide) rfl ?_
  obtain ⟨I1, μ1, q260, q261⟩ := hF
  refine .loop' (σ := List Int × Int × List (List Int) × Option Addr × Nat × Option Addr × Nat × List Value × FH) (fun z => I1 z.1 z.2.1 z.2.2.1 ∧ RSl z.2.2.2.2.2.2.2.2 z.2.2.2.1 z.1 ∧ z.1.length ≤ z.2.2.2.2.1 ∧ RepL z.2.2.2.2.2.2.2.2 z.2.2.1 z.2.2.2.2.2.2.2.1 ∧ FH.le h1 z.2.2.2.2.2.2.2.2) (fun z => μ1 z.1 z.2.1 z.2.2.1) (fun z => [(1, .slice z.2.2.2.1 z.1.length z.2.2.2.2.1), (3, .pointer (some pt)), (7, .slice z.2.2.2.2.2.1 z.2.2.1.length z.2.2.2.2.2.2.1), (13, .slice aplan plan.length cplan), (14, .int .i64 ((plan.length : Nat) : Int)), (15, .int .i64 z.2.1)]) (fun z => [Box pt [.int .i64 t.facts, .slice at_ t.init.length ct, .slice at_2 t.goal.length ct2, .slice at_3 t.ops.length ct3], OwnSl 22 1 z.2.2.2.2.2.1 z.2.2.1.length z.2.2.2.2.2.2.1 z.2.2.2.2.2.2.2.1]) (fun z => z.2.2.2.2.2.2.2.2) (s_, 0, ([r2] : List (List Int)), as_, cs_, a2, 1, [.slice a r2.length c], h1) ⟨q260, (_q7.mono (le1)), _q8, (show RepL h1 ([r2] : List (List Int)) [.slice a r2.length c] from ⟨[.slice a r2.length c], _, rfl, ⟨a, c, rfl, q14, q13⟩, rfl⟩), (FH.le_refl _)⟩ (.cons rfl (.cons rfl (.cons rfl (.cons rfl (.cons rfl (.cons rfl (.nil))))))) rfl (FH.le_refl _) ?_
  rintro ⟨s_2, t15, out, as2, cs, aout, cout, csout, h20⟩ ⟨q260, q210, q211, q212, q213⟩
  have hF := q261 s_2 t15 out q260
  show J _ _ _ _ _ [(1, .slice as2 s_2.length cs), (3, .pointer (some pt)), (7, .slice aout out.length cout), (13, .slice aplan plan.length cplan), (14, .int .i64 ((plan.length : Nat) : Int)), (15, .int .i64 t15)] [Box pt [.int .i64 t.facts, .slice at_ t.init.length ct, .slice at_2 t.goal.length ct2, .slice at_3 t.ops.length ct3], OwnSl 22 1 aout out.length cout csout] h20
  refine .seq ?_
  refine .region ?_
  refine .v (bi rfl rfl rfl) rfl rfl rfl ?_
  refine .nil ?_
  refine .seqN ?_
  refine .seq ?_
  refine .cond rfl (fun q264 => ?_) (fun q264 => ?_)
  · replace hF := hF.1 q264
    refine .skip ?_
    refine .seqN ?_
    refine .seq ?_
    refine .block ?_
    refine .seq ?_
    refine .region ?_
    obtain ⟨q291, hF⟩ := hF
    refine .v (ix rfl rfl tS22 (_q9.ne (by decide) (inb_pos q291)) q291) rfl rfl rfl ?_
    refine .v (ld1 (v := .int .i64 (gt plan t15)) rfl tO3 (cellH ((_q9.mono (FH.le_trans (le1) (q213))).elemF q291 (by decide) 0 _ rfl))) rfl rfl rfl ?_
    refine .v (asg rfl) rfl rfl rfl ?_
    refine .nil ?_
    refine .seqN ?_
    refine .seq ?_
    refine .seq ?_
    refine .region ?_
    refine .v (ldA (cs := [.int .i64 t.facts, .slice at_ t.init.length ct, .slice at_2 t.goal.length ct2, .slice at_3 t.ops.length ct3]) rfl tA25 rfl (cellsB (off := 0) (k := 0) rfl (m := 4) rfl)) rfl rfl rfl ?_
    refine .v (mv rfl) rfl rfl rfl ?_
    refine .v (mv rfl) rfl rfl rfl ?_
    obtain ⟨q292, hF⟩ := hF
    obtain ⟨r3, q293⟩ : ∃ y_ : Bool, y_ = sp_applies t s_2 (gt plan t15) := ⟨_, rfl⟩
    replace hF := hF r3 q293
    refine .c (cl (v := .bool r3) Tryd.call50 rfl rfl (fun w S => (by rw [q293]; exact c_can S.sub t at_ ct (_q1.mono (FH.le_trans (le1) (q213))) _q2 at_2 ct2 (_q3.mono (FH.le_trans (le1) (q213))) _q4 at_3 ct3 (_q5.mono (FH.le_trans (le1) (q213))) _q6 s_2 as2 cs q210 q211 (gt plan t15) q292))) rfl rfl rfl ?_
    refine .v (nt rfl) rfl rfl rfl ?_
    refine .nil ?_
    refine .seqN ?_
    refine .cond rfl (fun q295 => ?_) (fun q295 => ?_)
    · replace hF := hF.1 q295
      refine .exit ?_
      refine .seqX ?_
      refine .blkY rfl ?_
      refine .seqX ?_
      refine .seqX ?_
      refine .blkX ?_
      refine .seqN ?_
      refine .seq ?_
      refine .region ?_
      refine .v (mv rfl) rfl rfl rfl ?_
      refine .v (asg rfl) rfl rfl rfl ?_
      refine .nil ?_
      refine .seqN ?_
      refine .freezeL (k := 1) rfl (fun h27 le27 q297 q296 => ?_)
      refine .cast (A' := [Box pt [.int .i64 t.facts, .slice at_ t.init.length ct, .slice at_2 t.goal.length ct2, .slice at_3 t.ops.length ct3], tru]) rfl ?_
      refine .ret ?_
      refine .res1 rfl (rvT rfl) (fun w' S => ⟨out, (aout, cout), h27, hF, rfl, (FH.le_trans (FH.le_trans (le1) (q213)) (le27)), ⟨(show RSl h27 aout out from ⟨_, q212.mono (le27), q296⟩), (q297)⟩, S.none⟩)
    replace hF := hF.2 q295
    refine .skip ?_
    refine .seqN ?_
    refine .seq ?_
    refine .region ?_
    refine .v (ldA (cs := [.int .i64 t.facts, .slice at_ t.init.length ct, .slice at_2 t.goal.length ct2, .slice at_3 t.ops.length ct3]) rfl tA25 rfl (cellsB (off := 0) (k := 0) rfl (m := 4) rfl)) rfl rfl rfl ?_
    refine .v (mv rfl) rfl rfl rfl ?_
    refine .v (mv rfl) rfl rfl rfl ?_
    obtain ⟨q298, hF⟩ := hF
    obtain ⟨r4, q299⟩ : ∃ y_ : List Int, y_ = sp_after t s_2 (gt plan t15) := ⟨_, rfl⟩
    replace hF := hF r4 q299
    refine clR (α := Option Addr × Nat) (Φ := fun h1 z => RSl h1 z.1 r4 ∧ r4.length ≤ z.2) (V := fun z => .slice z.1 r4.length z.2) Tryd.call51 rfl rfl (fun w S => (by rw [q299]; exact c_next S.sub t at_ ct (_q1.mono (FH.le_trans (le1) (q213))) _q2 at_2 ct2 (_q3.mono (FH.le_trans (le1) (q213))) _q4 at_3 ct3 (_q5.mono (FH.le_trans (le1) (q213))) _q6 s_2 as2 cs q210 q211 (gt plan t15) q298)) rfl (fun z h28 le28 hz => ?_)
    obtain ⟨a3, c2⟩ := z
    obtain ⟨q300, q301⟩ := hz
    refine .v (asg rfl) rfl rfl rfl ?_
    refine .nil ?_
    refine .seqN ?_
    refine .region ?_
    refine .v (mv rfl) rfl rfl rfl ?_
    refine .v (mv rfl) rfl rfl rfl ?_
    refine bs2 (cs := #[.slice a3 r4.length c2]) (pv := [(0, .slice a3 r4.length c2)]) tS41 rfl rfl (by decide) (by decide) rfl rfl rfl (fun a4 _ => ?_)
    refine .cast (A' := [OwnSl 22 1 a4 (([r4] : List (List Int)).length) 1 [.slice a3 r4.length c2], Box pt [.int .i64 t.facts, .slice at_ t.init.length ct, .slice at_2 t.goal.length ct2, .slice at_3 t.ops.length ct3], OwnSl 22 1 aout out.length cout csout]) rfl ?_
    obtain ⟨q303, hF⟩ := hF
    have q304 : out.length + ([r4] : List (List Int)).length = ((out ++ ([r4] : List (List Int)))).length := len_app rfl rfl
    have q305 := RepL.append (RepL.mono (le28) q212) (show RepL h28 ([r4] : List (List Int)) [.slice a3 r4.length c2] from ⟨[.slice a3 r4.length c2], _, rfl, ⟨a3, c2, rfl, q301, q300⟩, rfl⟩)
    refine app (k := 2) (news := [.slice a3 r4.length c2]) (cs' := (csout ++ [.slice a3 r4.length c2])) (nm := ((out ++ ([r4] : List (List Int)))).length) tS41 rfl (by decide) rfl rfl rfl (RepL.len (show RepL h28 ([r4] : List (List Int)) [.slice a3 r4.length c2] from ⟨[.slice a3 r4.length c2], _, rfl, ⟨a3, c2, rfl, q301, q300⟩, rfl⟩)) (srcS (k := 0) rfl) (RepL.one (show RepL h28 ([r4] : List (List Int)) [.slice a3 r4.length c2] from ⟨[.slice a3 r4.length c2], _, rfl, ⟨a3, c2, rfl, q301, q300⟩, rfl⟩)) (room_of q304 q303).1 (room_of q304 q303).2 q304 rfl rfl (fun a5 c3 => ?_)
    refine .cast (A' := [OwnSl 22 1 a4 (([r4] : List (List Int)).length) 1 [.slice a3 r4.length c2], Box pt [.int .i64 t.facts, .slice at_ t.init.length ct, .slice at_2 t.goal.length ct2, .slice at_3 t.ops.length ct3], OwnSl 22 1 a5 ((out ++ ([r4] : List (List Int))).length) c3 (csout ++ [.slice a3 r4.length c2])]) rfl ?_
    refine .v (asg rfl) rfl rfl rfl ?_
    refine .nil ?_
    refine .blkN ?_
    refine .seqN ?_
    refine .region ?_
    refine .v (bi rfl rfl rfl) rfl rfl rfl ?_
    refine .v (mv rfl) rfl rfl rfl ?_
    refine .nil ?_
    refine .sel0 [1, 2] (by decide) rfl ?_
    exact .round (r4, IntKind.i64.wrap (t15 + 1), (out ++ ([r4] : List (List Int))), a3, c2, a5, c3, (csout ++ [.slice a3 r4.length c2]), h28) ⟨hF.1, q300, q301, q305, (FH.le_trans (q213) (le28))⟩ hF.2 (.cons rfl (.cons rfl (.cons rfl (.cons rfl (.cons rfl (.cons rfl (.nil))))))) rfl (FH.le_refl _)
  replace hF := hF.2 q264
  refine .exit ?_
  refine .seqX ?_
  refine .seqX ?_
  refine .blkX ?_
  refine .seqN ?_
  refine .seq ?_
  refine .region ?_
  refine .v (mv rfl) rfl rfl rfl ?_
  refine .v (asg rfl) rfl rfl rfl ?_
  refine .nil ?_
  refine .seqN ?_
  refine .freezeL (k := 1) rfl (fun h29 le29 q307 q306 => ?_)
  refine .cast (A' := [Box pt [.int .i64 t.facts, .slice at_ t.init.length ct, .slice at_2 t.goal.length ct2, .slice at_3 t.ops.length ct3], tru]) rfl ?_
  refine .ret ?_
  refine .res1 rfl (rvT rfl) (fun w' S => ⟨out, (aout, cout), h29, hF, rfl, (FH.le_trans (FH.le_trans (le1) (q213)) (le29)), ⟨(show RSl h29 aout out from ⟨_, q212.mono (le29), q306⟩), (q307)⟩, S.none⟩)

theorem c_srun {h : FH} {w : World} (hs : Sub h w) (t : Task) (at_ : Option Addr) (ct : Nat) (_q1 : RSl h at_ t.init) (_q2 : t.init.length ≤ ct) (at_2 : Option Addr) (ct2 : Nat) (_q3 : RSl h at_2 t.goal) (_q4 : t.goal.length ≤ ct2) (at_3 : Option Addr) (ct3 : Nat) (_q5 : RSl h at_3 t.ops) (_q6 : t.ops.length ≤ ct3) (s_ : List Int) (as_ : Option Addr) (cs_ : Nat) (_q7 : RSl h as_ s_) (_q8 : s_.length ≤ cs_) (plan : List Int) (aplan : Option Addr) (cplan : Nat) (_q9 : RSl h aplan plan) (_q10 : plan.length ≤ cplan) (hp : pre_srun t s_ plan) : Calls Tryd.prog 33 #[.agg #[.int .i64 t.facts, .slice at_ t.init.length ct, .slice at_2 t.goal.length ct2, .slice at_3 t.ops.length ct3], .slice as_ s_.length cs_, .slice aplan plan.length cplan] w fun e w' => ∃ (z : Option Addr × Nat) (h1 : FH), e = .returned (.slice z.1 (sp_srun t s_ plan).length z.2) ∧ FH.le h h1 ∧ (RSl h1 z.1 (sp_srun t s_ plan) ∧ (sp_srun t s_ plan).length ≤ z.2) ∧ SH (Kp.all w h) h1 w' [] :=
  (w_srun hs t at_ ct _q1 _q2 at_2 ct2 _q3 _q4 at_3 ct3 _q5 _q6 s_ as_ cs_ _q7 _q8 plan aplan cplan _q9 _q10 (fun r => r = sp_srun t s_ plan) (ok_srun t s_ plan hp)).mono fun _ _ ⟨r, z, h1, hk, he, hl, hf, hS⟩ => by subst hk; exact ⟨z, h1, he, hl, hf, hS⟩

theorem w_works {h : FH} {w : World} (hs : Sub h w) (t : Task) (at_ : Option Addr) (ct : Nat) (_q1 : RSl h at_ t.init) (_q2 : t.init.length ≤ ct) (at_2 : Option Addr) (ct2 : Nat) (_q3 : RSl h at_2 t.goal) (_q4 : t.goal.length ≤ ct2) (at_3 : Option Addr) (ct3 : Nat) (_q5 : RSl h at_3 t.ops) (_q6 : t.ops.length ≤ ct3) (s_ : List Int) (as_ : Option Addr) (cs_ : Nat) (_q7 : RSl h as_ s_) (_q8 : s_.length ≤ cs_) (plan : List Int) (aplan : Option Addr) (cplan : Nat) (_q9 : RSl h aplan plan) (_q10 : plan.length ≤ cplan) (K : Bool → Prop) (hF : F_works t s_ plan K) : Calls Tryd.prog 16 #[.agg #[.int .i64 t.facts, .slice at_ t.init.length ct, .slice at_2 t.goal.length ct2, .slice at_3 t.ops.length ct3], .slice as_ s_.length cs_, .slice aplan plan.length cplan] w fun e w' => ∃ r : Bool, K r ∧ e = .returned (.bool r) ∧ Below w.heap.size w w' := by
  refine enter (args := [.agg #[.int .i64 t.facts, .slice at_ t.init.length ct, .slice at_2 t.goal.length ct2, .slice at_3 t.ops.length ct3], .slice as_ s_.length cs_, .slice aplan plan.length cplan]) Tryd.func16 rfl Tryd.ntmps16 rfl hs ?_
  refine .seq ?_
  refine .region ?_
  refine bx (vs := [.int .i64 t.facts, .slice at_ t.init.length ct, .slice at_2 t.goal.length ct2, .slice at_3 t.ops.length ct3]) rfl rfl rfl (fun pt => ?_)
  refine .v (asg rfl) rfl rfl rfl ?_
  refine .nil ?_
  refine .seqN ?_
  refine .seq ?_
  refine .region ?_
  refine .v (ldA (cs := [.int .i64 t.facts, .slice at_ t.init.length ct, .slice at_2 t.goal.length ct2, .slice at_3 t.ops.length ct3]) rfl tA25 rfl (cellsB (off := 0) (k := 0) rfl (m := 4) rfl)) rfl rfl rfl ?_
  refine .v (mv rfl) rfl rfl rfl ?_
  refine .v (mv rfl) rfl rfl rfl ?_
  obtain ⟨q11, hF⟩ := hF
  obtain ⟨r2, q12⟩ : ∃ y_ : List (List Int), y_ = sp_srun t s_ plan := ⟨_, rfl⟩
  replace hF := hF r2 q12
  refine clR (α := Option Addr × Nat) (Φ := fun h1 z => RSl h1 z.1 r2 ∧ r2.length ≤ z.2) (V := fun z => .slice z.1 r2.length z.2) Tryd.call33 rfl rfl (fun w S => (by rw [q12]; exact c_srun S.sub t at_ ct _q1 _q2 at_2 ct2 _q3 _q4 at_3 ct3 _q5 _q6 s_ as_ cs_ _q7 _q8 plan aplan cplan _q9 _q10 q11)) rfl (fun z h1 le1 hz => ?_)
  obtain ⟨a, c⟩ := z
  obtain ⟨q13, q14⟩ := hz
  refine .v (asg rfl) rfl rfl rfl ?_
  refine .nil ?_
  refine .seqN ?_
  refine .seq ?_
  refine .open_ (by kernel_rfl) (by kernel_rfl) ?_
  refine .v (mv rfl) rfl rfl rfl ?_
  refine .v (ln rfl tS41.is) rfl rfl rfl ?_
  refine .v (mv rfl) rfl rfl rfl ?_
  refine .v (ln rfl tS22.is) rfl rfl rfl ?_
  refine .v (bi rfl rfl rfl) rfl rfl rfl ?_
  obtain ⟨x, q23⟩ : ∃ y_ : Bool, y_ = (((r2.length : Nat) : Int) == (IntKind.i64.wrap (((plan.length : Nat) : Int) + 1))) := ⟨_, rfl⟩
  replace hF := hF x q23
  refine .v (v := .bool x) (by rw [q23]; exact bi rfl rfl rfl) rfl rfl rfl ?_
  refine .v (mv rfl) rfl rfl rfl ?_
  rcases Bool.eq_false_or_eq_true (x) with q24 | q24
  · replace hF := hF.1 q24
    refine .gv (mv rfl) rfl rfl rfl q24 rfl rfl ?_
    refine .gv (mv rfl) rfl rfl rfl q24 rfl rfl ?_
    refine .gv (ln rfl tS22.is) rfl rfl rfl q24 rfl rfl ?_
    obtain ⟨q25, hF⟩ := hF
    refine .gv (ix rfl rfl tS41 (q13.ne (by decide) (inb_pos q25)) q25) rfl rfl rfl q24 rfl rfl ?_
    obtain ⟨_, ⟨a2, c2, rfl, q26, q27⟩, q28⟩ := q13.elem q25
    refine .gv (ld1 (v := .slice a2 ((gt r2 ((plan.length : Nat) : Int)).length) c2) rfl tO22 (cellH (q28 (by decide) 0 _ rfl))) rfl rfl rfl q24 rfl rfl ?_
    refine .gv (fa rfl tF25_2) rfl rfl rfl q24 rfl rfl ?_
    refine .gv (ld1 rfl tO22 (cellB (off := 2) (k := 0) rfl rfl)) rfl rfl rfl q24 rfl rfl ?_
    obtain ⟨q29, hF⟩ := hF
    obtain ⟨r3, q30⟩ : ∃ y_ : Bool, y_ = sp_contains2 (gt r2 ((plan.length : Nat) : Int)) t.goal := ⟨_, rfl⟩
    replace hF := hF r3 q30
    refine .gc (cl (v := .bool r3) Tryd.call34 rfl rfl (fun w S => (by rw [q30]; exact c_contains2 S.sub (gt r2 ((plan.length : Nat) : Int)) a2 c2 q27 q26 t.goal at_2 ct2 (_q3.mono (le1)) _q4 q29))) rfl rfl rfl q24 rfl rfl ?_
    refine .v (pkT rfl q24 rfl) rfl rfl rfl ?_
    refine .v (asg rfl) rfl rfl rfl ?_
    refine .fin ?_
    refine .seqN ?_
    refine .ret ?_
    refine .res1 rfl (rvT rfl) (fun w' S => ⟨r3, hF, rfl, S.below⟩)
  replace hF := hF.2 q24
  refine .gS rfl rfl rfl q24 rfl rfl ?_
  refine .gS rfl rfl rfl q24 rfl rfl ?_
  refine .gS rfl rfl rfl q24 rfl rfl ?_
  refine .gS rfl rfl rfl q24 rfl rfl ?_
  refine .gS rfl rfl rfl q24 rfl rfl ?_
  refine .gS rfl rfl rfl q24 rfl rfl ?_
  refine .gS rfl rfl rfl q24 rfl rfl ?_
  refine .gS rfl rfl rfl q24 rfl rfl ?_
  refine .v (pkF rfl q24 rfl) rfl rfl rfl ?_
  refine .v (asg rfl) rfl rfl rfl ?_
  refine .fin ?_
  refine .seqN ?_
  refine .ret ?_
  refine .res1 rfl (rvT rfl) (fun w' S => ⟨false, hF, rfl, S.below⟩)

theorem c_works {h : FH} {w : World} (hs : Sub h w) (t : Task) (at_ : Option Addr) (ct : Nat) (_q1 : RSl h at_ t.init) (_q2 : t.init.length ≤ ct) (at_2 : Option Addr) (ct2 : Nat) (_q3 : RSl h at_2 t.goal) (_q4 : t.goal.length ≤ ct2) (at_3 : Option Addr) (ct3 : Nat) (_q5 : RSl h at_3 t.ops) (_q6 : t.ops.length ≤ ct3) (s_ : List Int) (as_ : Option Addr) (cs_ : Nat) (_q7 : RSl h as_ s_) (_q8 : s_.length ≤ cs_) (plan : List Int) (aplan : Option Addr) (cplan : Nat) (_q9 : RSl h aplan plan) (_q10 : plan.length ≤ cplan) (hp : pre_works t s_ plan) : Calls Tryd.prog 16 #[.agg #[.int .i64 t.facts, .slice at_ t.init.length ct, .slice at_2 t.goal.length ct2, .slice at_3 t.ops.length ct3], .slice as_ s_.length cs_, .slice aplan plan.length cplan] w fun e w' => e = .returned (.bool (sp_rworks t s_ plan)) ∧ Below w.heap.size w w' :=
  (w_works hs t at_ ct _q1 _q2 at_2 ct2 _q3 _q4 at_3 ct3 _q5 _q6 s_ as_ cs_ _q7 _q8 plan aplan cplan _q9 _q10 (fun r => r = sp_rworks t s_ plan) (ok_works t s_ plan hp)).mono fun _ _ ⟨_, hk, he, hb⟩ => ⟨by rw [he, hk], hb⟩

theorem w_compare {h : FH} {w : World} (hs : Sub h w) (x : Int) (y : Int) (K : Int → Prop) (hF : F_compare x y K) : Calls Tryd.prog 61 #[.int .i64 x, .int .i64 y] w fun e w' => ∃ r : Int, K r ∧ e = .returned (.int .i64 r) ∧ Below w.heap.size w w' := by
  refine enter (args := [.int .i64 x, .int .i64 y]) Tryd.func61 rfl Tryd.ntmps61 rfl hs ?_
  refine .seq ?_
  refine .region ?_
  refine .v (asg rfl) rfl rfl rfl ?_
  refine .nil ?_
  refine .seqN ?_
  refine .seq ?_
  refine .region ?_
  refine .v (mv rfl) rfl rfl rfl ?_
  obtain ⟨r2, q1⟩ : ∃ y_ : Bool, y_ = sp_isNaN1 x := ⟨_, rfl⟩
  replace hF := hF r2 q1
  refine .c (cl (v := .bool r2) Tryd.call65 rfl rfl (fun w S => (by rw [q1]; exact c_isNaN1 S.sub x ))) rfl rfl rfl ?_
  refine .v (asg rfl) rfl rfl rfl ?_
  refine .nil ?_
  refine .seqN ?_
  refine .seq ?_
  refine .region ?_
  refine .v (mv rfl) rfl rfl rfl ?_
  obtain ⟨r3, q2⟩ : ∃ y_ : Bool, y_ = sp_isNaN1 y := ⟨_, rfl⟩
  replace hF := hF r3 q2
  refine .c (cl (v := .bool r3) Tryd.call65 rfl rfl (fun w S => (by rw [q2]; exact c_isNaN1 S.sub y ))) rfl rfl rfl ?_
  refine .v (asg rfl) rfl rfl rfl ?_
  refine .nil ?_
  refine .seqN ?_
  refine .seq ?_
  refine .seq ?_
  refine .region ?_
  refine .v (mv rfl) rfl rfl rfl ?_
  refine .nil ?_
  refine .seqN ?_
  refine .cond rfl (fun q6 => ?_) (fun q6 => ?_)
  · replace hF := hF.1 q6
    refine .seq ?_
    refine .seq ?_
    refine .region ?_
    refine .v (mv rfl) rfl rfl rfl ?_
    refine .nil ?_
    refine .seqN ?_
    refine .cond rfl (fun q8 => ?_) (fun q8 => ?_)
    · replace hF := hF.1 q8
      refine .seq ?_
      refine .region ?_
      refine .v (asg rfl) rfl rfl rfl ?_
      refine .nil ?_
      refine .seqN ?_
      refine .ret ?_
      refine .seqR ?_
      refine .seqR ?_
      refine .res1 rfl (rvT rfl) (fun w' S => ⟨0, hF, rfl, S.below⟩)
    replace hF := hF.2 q8
    refine .skip ?_
    refine .seqN ?_
    refine .seq ?_
    refine .region ?_
    refine .v (asg rfl) rfl rfl rfl ?_
    refine .nil ?_
    refine .seqN ?_
    refine .ret ?_
    refine .seqR ?_
    refine .res1 rfl (rvT rfl) (fun w' S => ⟨(-1), hF, rfl, S.below⟩)
  replace hF := hF.2 q6
  refine .skip ?_
  refine .seqN ?_
  refine .seq ?_
  refine .seq ?_
  refine .region ?_
  refine .v (mv rfl) rfl rfl rfl ?_
  refine .nil ?_
  refine .seqN ?_
  refine .cond rfl (fun q10 => ?_) (fun q10 => ?_)
  · replace hF := hF.1 q10
    refine .seq ?_
    refine .region ?_
    refine .v (asg rfl) rfl rfl rfl ?_
    refine .nil ?_
    refine .seqN ?_
    refine .ret ?_
    refine .seqR ?_
    refine .res1 rfl (rvT rfl) (fun w' S => ⟨1, hF, rfl, S.below⟩)
  replace hF := hF.2 q10
  refine .skip ?_
  refine .seqN ?_
  refine .seq ?_
  refine .seq ?_
  refine .region ?_
  refine .v (mv rfl) rfl rfl rfl ?_
  refine .v (mv rfl) rfl rfl rfl ?_
  refine .v (bi rfl rfl rfl) rfl rfl rfl ?_
  refine .nil ?_
  refine .seqN ?_
  refine .cond rfl (fun q12 => ?_) (fun q12 => ?_)
  · replace hF := hF.1 q12
    refine .seq ?_
    refine .region ?_
    refine .v (asg rfl) rfl rfl rfl ?_
    refine .nil ?_
    refine .seqN ?_
    refine .ret ?_
    refine .seqR ?_
    refine .res1 rfl (rvT rfl) (fun w' S => ⟨(-1), hF, rfl, S.below⟩)
  replace hF := hF.2 q12
  refine .skip ?_
  refine .seqN ?_
  refine .seq ?_
  refine .seq ?_
  refine .region ?_
  refine .v (mv rfl) rfl rfl rfl ?_
  refine .v (mv rfl) rfl rfl rfl ?_
  refine .v (bi rfl rfl rfl) rfl rfl rfl ?_
  refine .nil ?_
  refine .seqN ?_
  refine .cond rfl (fun q14 => ?_) (fun q14 => ?_)
  · replace hF := hF.1 q14
    refine .seq ?_
    refine .region ?_
    refine .v (asg rfl) rfl rfl rfl ?_
    refine .nil ?_
    refine .seqN ?_
    refine .ret ?_
    refine .seqR ?_
    refine .res1 rfl (rvT rfl) (fun w' S => ⟨1, hF, rfl, S.below⟩)
  replace hF := hF.2 q14
  refine .skip ?_
  refine .seqN ?_
  refine .seq ?_
  refine .region ?_
  refine .v (asg rfl) rfl rfl rfl ?_
  refine .nil ?_
  refine .seqN ?_
  refine .ret ?_
  refine .res1 rfl (rvT rfl) (fun w' S => ⟨0, hF, rfl, S.below⟩)

theorem c_compare {h : FH} {w : World} (hs : Sub h w) (x : Int) (y : Int) : Calls Tryd.prog 61 #[.int .i64 x, .int .i64 y] w fun e w' => e = .returned (.int .i64 (sp_compare x y)) ∧ Below w.heap.size w w' :=
  (w_compare hs x y (fun r => r = sp_compare x y) (ok_compare x y)).mono fun _ _ ⟨_, hk, he, hb⟩ => ⟨by rw [he, hk], hb⟩

end Go.Proofs.YtojoehfldbimpaaDoor.Pl
