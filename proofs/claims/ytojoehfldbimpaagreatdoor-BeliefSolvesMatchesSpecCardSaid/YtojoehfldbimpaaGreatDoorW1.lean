/- The walks: from what each function asks to what it does; printed from the code. No condition. -/
import Derived.Test.YtojoehfldbimpaaGreatDoorT
import Derived.Test.YtojoehfldbimpaaGreatDoorOk
namespace Go.Proofs.YtojoehfldbimpaaGreatDoor.Pl
open Go Go.RowKit
theorem w_in_ {h : FH} {w : World} (hs : Sub h w) (n_ : Int) (low : Int) (high : Int) (K : Bool → Prop) (hF : F_in_ n_ low high K) : Calls Tryz.prog 25 #[.int .i64 n_, .int .i64 low, .int .i64 high] w fun e w' => ∃ r : Bool, K r ∧ e = .returned (.bool r) ∧ Below w.heap.size w w' := by
  refine enter (args := [.int .i64 n_, .int .i64 low, .int .i64 high]) Tryz.func25 rfl Tryz.ntmps25 rfl hs ?_
  refine .seq ?_
  refine .region ?_
  refine .v (asg rfl) rfl rfl rfl ?_
  refine .nil ?_
  refine .seqN ?_
  refine .seq ?_
  refine .region ?_
  refine .v (mv rfl) rfl rfl rfl ?_
  refine .v (mv rfl) rfl rfl rfl ?_
  refine .v (bi rfl rfl rfl) rfl rfl rfl ?_
  refine .v (mv rfl) rfl rfl rfl ?_
  rcases Bool.eq_false_or_eq_true (decide (low ≤ n_)) with q2 | q2
  · replace hF := hF.1 q2
    refine .gv (mv rfl) rfl rfl rfl q2 rfl rfl ?_
    refine .gv (mv rfl) rfl rfl rfl q2 rfl rfl ?_
    refine .gv (bi rfl rfl rfl) rfl rfl rfl q2 rfl rfl ?_
    refine .v (pkT rfl q2 rfl) rfl rfl rfl ?_
    refine .v (asg rfl) rfl rfl rfl ?_
    refine .nil ?_
    refine .seqN ?_
    refine .ret ?_
    refine .res1 rfl (rvT rfl) (fun w' S => ⟨decide (n_ ≤ high), hF, rfl, S.below⟩)
  replace hF := hF.2 q2
  refine .gS rfl rfl rfl q2 rfl rfl ?_
  refine .gS rfl rfl rfl q2 rfl rfl ?_
  refine .gS rfl rfl rfl q2 rfl rfl ?_
  refine .v (pkF rfl q2 rfl) rfl rfl rfl ?_
  refine .v (asg rfl) rfl rfl rfl ?_
  refine .nil ?_
  refine .seqN ?_
  refine .ret ?_
  refine .res1 rfl (rvT rfl) (fun w' S => ⟨false, hF, rfl, S.below⟩)

theorem c_in_ {h : FH} {w : World} (hs : Sub h w) (n_ : Int) (low : Int) (high : Int) : Calls Tryz.prog 25 #[.int .i64 n_, .int .i64 low, .int .i64 high] w fun e w' => e = .returned (.bool (sp_in_ n_ low high)) ∧ Below w.heap.size w w' :=
  (w_in_ hs n_ low high (fun r => r = sp_in_ n_ low high) (ok_in_ n_ low high)).mono fun _ _ ⟨_, hk, he, hb⟩ => ⟨by rw [he, hk], hb⟩

theorem w_at_ {h : FH} {w : World} (hs : Sub h w) (code : Int) (index : Int) (K : Fault → Prop) (hF : F_at_ code index K) : Calls Tryz.prog 18 #[.int .i64 code, .int .i64 index] w fun e w' => ∃ r : Fault, K r ∧ e = .returned (.agg #[.int .i64 r.code, .int .i64 r.index]) ∧ Below w.heap.size w w' := by
  refine enter (args := [.int .i64 code, .int .i64 index]) Tryz.func18 rfl Tryz.ntmps18 rfl hs ?_
  refine .seq ?_
  refine .region ?_
  refine al tZ27 rfl (fun pv => ?_)
  refine .nil ?_
  refine .seqN ?_
  refine .seq ?_
  refine .region ?_
  refine .v (mv rfl) rfl rfl rfl ?_
  refine .v (mv rfl) rfl rfl rfl ?_
  refine .v (bld (cs := #[.int .i64 code, .int .i64 index]) (pv := [(0, .int .i64 code), (1, .int .i64 index)]) tB27 rfl rfl) rfl rfl rfl ?_
  refine st (p := pv) (off := 0) (k := 0) (vs := [.int .i64 code, .int .i64 index]) rfl rfl rfl (fun w => (tA27 w).2) rfl rfl rfl rfl ?_
  refine .cast (A' := [Box pv [.int .i64 code, .int .i64 index]]) rfl ?_
  refine .nil ?_
  refine .seqN ?_
  refine .ret ?_
  refine .res1 rfl (rvC rfl tA27 (k := 0) rfl rfl) (fun w' S => ⟨(⟨code, index⟩ : Fault), hF, rfl, S.below⟩)

theorem c_at_ {h : FH} {w : World} (hs : Sub h w) (code : Int) (index : Int) : Calls Tryz.prog 18 #[.int .i64 code, .int .i64 index] w fun e w' => e = .returned (.agg #[.int .i64 (sp_at_ code index).code, .int .i64 (sp_at_ code index).index]) ∧ Below w.heap.size w w' :=
  (w_at_ hs code index (fun r => r = sp_at_ code index) (ok_at_ code index)).mono fun _ _ ⟨_, hk, he, hb⟩ => ⟨by rw [he, hk], hb⟩

theorem w_has {h : FH} {w : World} (hs : Sub h w) (l : List Int) (al2 : Option Addr) (cl2 : Nat) (_q1 : RSl h al2 l) (_q2 : l.length ≤ cl2) (n_ : Int) (K : Bool → Prop) (hF : F_has l n_ K) : Calls Tryz.prog 76 #[.slice al2 l.length cl2, .int .i64 n_] w fun e w' => ∃ r : Bool, K r ∧ e = .returned (.bool r) ∧ Below w.heap.size w w' := by
  refine enter (args := [.slice al2 l.length cl2, .int .i64 n_]) Tryz.func76 rfl Tryz.ntmps76 rfl hs ?_
  refine .seq ?_
  refine .region ?_
  refine .v (asg rfl) rfl rfl rfl ?_
  refine .nil ?_
  refine .seqN ?_
  refine .seq ?_
  refine .seq ?_
  refine .region ?_
  refine .v (asg rfl) rfl rfl rfl ?_
  refine .nil ?_
  refine .seqN ?_
  refine .block ?_
  obtain ⟨I1, μ1, q45, q46⟩ := hF
  refine .loop' (σ := Int) (fun z => I1 z) (fun z => μ1 z) (fun z => [(0, .slice al2 l.length cl2), (1, .int .i64 n_), (5, .int .i64 z)]) (fun _ => []) (fun _ => h) 0 q45 (.cons rfl (.cons rfl (.cons rfl (.nil)))) rfl (FH.le_refl _) ?_
  rintro i q45
  have hF := q46 i q45
  show J _ _ _ _ _ [(0, .slice al2 l.length cl2), (1, .int .i64 n_), (5, .int .i64 i)] [] h
  refine .seq ?_
  refine .seq ?_
  refine .region ?_
  refine .v (mv rfl) rfl rfl rfl ?_
  refine .v (mv rfl) rfl rfl rfl ?_
  refine .v (ln rfl tS22.is) rfl rfl rfl ?_
  refine .v (bi rfl rfl rfl) rfl rfl rfl ?_
  refine .nil ?_
  refine .seqN ?_
  refine .cond rfl (fun q48 => ?_) (fun q48 => ?_)
  · replace hF := hF.1 q48
    refine .skip ?_
    refine .seqN ?_
    refine .seq ?_
    refine .block ?_
    refine .seq ?_
    refine .region ?_
    refine .v (mv rfl) rfl rfl rfl ?_
    refine .v (mv rfl) rfl rfl rfl ?_
    obtain ⟨q53, hF⟩ := hF
    refine .v (ix rfl rfl tS22 (_q1.ne (by decide) (inb_pos q53)) q53) rfl rfl rfl ?_
    refine .v (ld1 (v := .int .i64 (gt l i)) rfl tO3 (cellH (_q1.elemF q53 (by decide) 0 _ rfl))) rfl rfl rfl ?_
    refine .v (mv rfl) rfl rfl rfl ?_
    refine .v (bi rfl rfl rfl) rfl rfl rfl ?_
    refine .nil ?_
    refine .seqN ?_
    refine .cond rfl (fun q54 => ?_) (fun q54 => ?_)
    · replace hF := hF.1 q54
      refine .seq ?_
      refine .region ?_
      refine .v (asg rfl) rfl rfl rfl ?_
      refine .nil ?_
      refine .seqN ?_
      refine .ret ?_
      refine .blkR ?_
      refine .seqR ?_
      refine .seqR ?_
      refine .blkR ?_
      refine .seqR ?_
      refine .res1 rfl (rvT rfl) (fun w' S => ⟨true, hF, rfl, S.below⟩)
    replace hF := hF.2 q54
    refine .skip ?_
    refine .blkN ?_
    refine .seqN ?_
    refine .region ?_
    refine .v (mv rfl) rfl rfl rfl ?_
    refine .v (bi rfl rfl rfl) rfl rfl rfl ?_
    refine .v (asg rfl) rfl rfl rfl ?_
    refine .nil ?_
    exact .round (IntKind.i64.wrap (i + 1)) hF.1 hF.2 (.cons rfl (.cons rfl (.cons rfl (.nil)))) rfl (FH.le_refl _)
  replace hF := hF.2 q48
  refine .exit ?_
  refine .seqX ?_
  refine .seqX ?_
  refine .blkX ?_
  refine .seqN ?_
  refine .seq ?_
  refine .region ?_
  refine .v (asg rfl) rfl rfl rfl ?_
  refine .nil ?_
  refine .seqN ?_
  refine .ret ?_
  refine .res1 rfl (rvT rfl) (fun w' S => ⟨false, hF, rfl, S.below⟩)

theorem c_has {h : FH} {w : World} (hs : Sub h w) (l : List Int) (al2 : Option Addr) (cl2 : Nat) (_q1 : RSl h al2 l) (_q2 : l.length ≤ cl2) (n_ : Int) (hp : pre_has l n_) : Calls Tryz.prog 76 #[.slice al2 l.length cl2, .int .i64 n_] w fun e w' => e = .returned (.bool (sp_has l n_)) ∧ Below w.heap.size w w' :=
  (w_has hs l al2 cl2 _q1 _q2 n_ (fun r => r = sp_has l n_) (ok_has l n_ hp)).mono fun _ _ ⟨_, hk, he, hb⟩ => ⟨by rw [he, hk], hb⟩

theorem w_numbers {h : FH} {w : World} (hs : Sub h w) (a : List Int) (aa : Option Addr) (ca : Nat) (_q1 : RSl h aa a) (_q2 : a.length ≤ ca) (b : List Int) (ab : Option Addr) (cb : Nat) (_q3 : RSl h ab b) (_q4 : b.length ≤ cb) (K : Bool → Prop) (hF : F_numbers a b K) : Calls Tryz.prog 19 #[.slice aa a.length ca, .slice ab b.length cb] w fun e w' => ∃ r : Bool, K r ∧ e = .returned (.bool r) ∧ Below w.heap.size w w' := by
  refine enter (args := [.slice aa a.length ca, .slice ab b.length cb]) Tryz.func19 rfl Tryz.ntmps19 rfl hs ?_
  refine .seq ?_
  refine .region ?_
  refine .v (asg rfl) rfl rfl rfl ?_
  refine .nil ?_
  refine .seqN ?_
  refine .seq ?_
  refine .seq ?_
  refine .region ?_
  refine .v (mv rfl) rfl rfl rfl ?_
  refine .v (ln rfl tS22.is) rfl rfl rfl ?_
  refine .v (mv rfl) rfl rfl rfl ?_
  refine .v (ln rfl tS22.is) rfl rfl rfl ?_
  refine .v (bi rfl rfl rfl) rfl rfl rfl ?_
  refine .nil ?_
  refine .seqN ?_
  refine .cond rfl (fun q6 => ?_) (fun q6 => ?_)
  · replace hF := hF.1 q6
    refine .seq ?_
    refine .region ?_
    refine .v (asg rfl) rfl rfl rfl ?_
    refine .nil ?_
    refine .seqN ?_
    refine .ret ?_
    refine .seqR ?_
    refine .res1 rfl (rvT rfl) (fun w' S => ⟨false, hF, rfl, S.below⟩)
  replace hF := hF.2 q6
  refine .skip ?_
  refine .seqN ?_
  refine .seq ?_
  refine .seq ?_
  refine .region ?_
  refine .v (asg rfl) rfl rfl rfl ?_
  refine .nil ?_
  refine .seqN ?_
  refine .block ?_
  obtain ⟨I1, μ1, q64, q65⟩ := hF
  refine .loop' (σ := Int) (fun z => I1 z) (fun z => μ1 z) (fun z => [(0, .slice aa a.length ca), (1, .slice ab b.length cb), (5, .int .i64 z)]) (fun _ => []) (fun _ => h) 0 q64 (.cons rfl (.cons rfl (.cons rfl (.nil)))) rfl (FH.le_refl _) ?_
  rintro i q64
  have hF := q65 i q64
  show J _ _ _ _ _ [(0, .slice aa a.length ca), (1, .slice ab b.length cb), (5, .int .i64 i)] [] h
  refine .seq ?_
  refine .seq ?_
  refine .region ?_
  refine .v (mv rfl) rfl rfl rfl ?_
  refine .v (mv rfl) rfl rfl rfl ?_
  refine .v (ln rfl tS22.is) rfl rfl rfl ?_
  refine .v (bi rfl rfl rfl) rfl rfl rfl ?_
  refine .nil ?_
  refine .seqN ?_
  refine .cond rfl (fun q67 => ?_) (fun q67 => ?_)
  · replace hF := hF.1 q67
    refine .skip ?_
    refine .seqN ?_
    refine .seq ?_
    refine .block ?_
    refine .seq ?_
    refine .open_ (by kernel_rfl) (by kernel_rfl) ?_
    refine .v (mv rfl) rfl rfl rfl ?_
    refine .v (mv rfl) rfl rfl rfl ?_
    obtain ⟨q74, hF⟩ := hF
    refine .v (ix rfl rfl tS22 (_q1.ne (by decide) (inb_pos q74)) q74) rfl rfl rfl ?_
    refine .v (ld1 (v := .int .i64 (gt a i)) rfl tO3 (cellH (_q1.elemF q74 (by decide) 0 _ rfl))) rfl rfl rfl ?_
    refine .v (mv rfl) rfl rfl rfl ?_
    refine .v (mv rfl) rfl rfl rfl ?_
    obtain ⟨q75, hF⟩ := hF
    refine .v (ix rfl rfl tS22 (_q3.ne (by decide) (inb_pos q75)) q75) rfl rfl rfl ?_
    refine .v (ld1 (v := .int .i64 (gt b i)) rfl tO3 (cellH (_q3.elemF q75 (by decide) 0 _ rfl))) rfl rfl rfl ?_
    refine .v (bi rfl rfl rfl) rfl rfl rfl ?_
    refine .fin ?_
    refine .seqN ?_
    refine .cond rfl (fun q76 => ?_) (fun q76 => ?_)
    · replace hF := hF.1 q76
      refine .seq ?_
      refine .region ?_
      refine .v (asg rfl) rfl rfl rfl ?_
      refine .nil ?_
      refine .seqN ?_
      refine .ret ?_
      refine .blkR ?_
      refine .seqR ?_
      refine .seqR ?_
      refine .blkR ?_
      refine .seqR ?_
      refine .res1 rfl (rvT rfl) (fun w' S => ⟨false, hF, rfl, S.below⟩)
    replace hF := hF.2 q76
    refine .skip ?_
    refine .blkN ?_
    refine .seqN ?_
    refine .region ?_
    refine .v (mv rfl) rfl rfl rfl ?_
    refine .v (bi rfl rfl rfl) rfl rfl rfl ?_
    refine .v (asg rfl) rfl rfl rfl ?_
    refine .nil ?_
    exact .round (IntKind.i64.wrap (i + 1)) hF.1 hF.2 (.cons rfl (.cons rfl (.cons rfl (.nil)))) rfl (FH.le_refl _)
  replace hF := hF.2 q67
  refine .exit ?_
  refine .seqX ?_
  refine .seqX ?_
  refine .blkX ?_
  refine .seqN ?_
  refine .seq ?_
  refine .region ?_
  refine .v (asg rfl) rfl rfl rfl ?_
  refine .nil ?_
  refine .seqN ?_
  refine .ret ?_
  refine .res1 rfl (rvT rfl) (fun w' S => ⟨true, hF, rfl, S.below⟩)

theorem c_numbers {h : FH} {w : World} (hs : Sub h w) (a : List Int) (aa : Option Addr) (ca : Nat) (_q1 : RSl h aa a) (_q2 : a.length ≤ ca) (b : List Int) (ab : Option Addr) (cb : Nat) (_q3 : RSl h ab b) (_q4 : b.length ≤ cb) (hp : pre_numbers a b) : Calls Tryz.prog 19 #[.slice aa a.length ca, .slice ab b.length cb] w fun e w' => e = .returned (.bool (sp_numbers a b)) ∧ Below w.heap.size w w' :=
  (w_numbers hs a aa ca _q1 _q2 b ab cb _q3 _q4 (fun r => r = sp_numbers a b) (ok_numbers a b hp)).mono fun _ _ ⟨_, hk, he, hb⟩ => ⟨by rw [he, hk], hb⟩

theorem w_isNaN1 {h : FH} {w : World} (hs : Sub h w) (x : Int) (K : Bool → Prop) (hF : F_isNaN1 x K) : Calls Tryz.prog 122 #[.int .i64 x] w fun e w' => ∃ r : Bool, K r ∧ e = .returned (.bool r) ∧ Below w.heap.size w w' := by
  refine enter (args := [.int .i64 x]) Tryz.func122 rfl Tryz.ntmps122 rfl hs ?_
  refine .seq ?_
  refine .region ?_
  refine .v (asg rfl) rfl rfl rfl ?_
  refine .nil ?_
  refine .seqN ?_
  refine .seq ?_
  refine .region ?_
  refine .v (mv rfl) rfl rfl rfl ?_
  refine .v (mv rfl) rfl rfl rfl ?_
  refine .v (bi rfl rfl rfl) rfl rfl rfl ?_
  refine .v (asg rfl) rfl rfl rfl ?_
  refine .nil ?_
  refine .seqN ?_
  refine .ret ?_
  refine .res1 rfl (rvT rfl) (fun w' S => ⟨x != x, hF, rfl, S.below⟩)

theorem c_isNaN1 {h : FH} {w : World} (hs : Sub h w) (x : Int) : Calls Tryz.prog 122 #[.int .i64 x] w fun e w' => e = .returned (.bool (sp_isNaN1 x)) ∧ Below w.heap.size w w' :=
  (w_isNaN1 hs x (fun r => r = sp_isNaN1 x) (ok_isNaN1 x)).mono fun _ _ ⟨_, hk, he, hb⟩ => ⟨by rw [he, hk], hb⟩

theorem w_isNaN2 {h : FH} {w : World} (hs : Sub h w) (x : Int) (K : Bool → Prop) (hF : F_isNaN2 x K) : Calls Tryz.prog 117 #[.int .i64 x] w fun e w' => ∃ r : Bool, K r ∧ e = .returned (.bool r) ∧ Below w.heap.size w w' := by
  refine enter (args := [.int .i64 x]) Tryz.func117 rfl Tryz.ntmps117 rfl hs ?_
  refine .seq ?_
  refine .region ?_
  refine .v (asg rfl) rfl rfl rfl ?_
  refine .nil ?_
  refine .seqN ?_
  refine .seq ?_
  refine .region ?_
  refine .v (mv rfl) rfl rfl rfl ?_
  refine .v (mv rfl) rfl rfl rfl ?_
  refine .v (bi rfl rfl rfl) rfl rfl rfl ?_
  refine .v (asg rfl) rfl rfl rfl ?_
  refine .nil ?_
  refine .seqN ?_
  refine .ret ?_
  refine .res1 rfl (rvT rfl) (fun w' S => ⟨x != x, hF, rfl, S.below⟩)

theorem c_isNaN2 {h : FH} {w : World} (hs : Sub h w) (x : Int) : Calls Tryz.prog 117 #[.int .i64 x] w fun e w' => e = .returned (.bool (sp_isNaN1 x)) ∧ Below w.heap.size w w' :=
  (w_isNaN2 hs x (fun r => r = sp_isNaN1 x) (ok_isNaN2 x)).mono fun _ _ ⟨_, hk, he, hb⟩ => ⟨by rw [he, hk], hb⟩

theorem w_less {h : FH} {w : World} (hs : Sub h w) (x : Int) (y : Int) (K : Bool → Prop) (hF : F_less x y K) : Calls Tryz.prog 116 #[.int .i64 x, .int .i64 y] w fun e w' => ∃ r : Bool, K r ∧ e = .returned (.bool r) ∧ Below w.heap.size w w' := by
  refine enter (args := [.int .i64 x, .int .i64 y]) Tryz.func116 rfl Tryz.ntmps116 rfl hs ?_
  refine .seq ?_
  refine .region ?_
  refine .v (asg rfl) rfl rfl rfl ?_
  refine .nil ?_
  refine .seqN ?_
  refine .seq ?_
  refine .region ?_
  refine .v (mv rfl) rfl rfl rfl ?_
  obtain ⟨r2, q5⟩ : ∃ y_ : Bool, y_ = sp_isNaN1 x := ⟨_, rfl⟩
  replace hF := hF r2 q5
  refine .c (cl (v := .bool r2) Tryz.call122 rfl rfl (fun w S => (by rw [q5]; exact c_isNaN1 S.sub x ))) rfl rfl rfl ?_
  refine .v (mv rfl) rfl rfl rfl ?_
  rcases Bool.eq_false_or_eq_true (r2) with q6 | q6
  · replace hF := hF.1 q6
    refine .gv (mv rfl) rfl rfl rfl q6 rfl rfl ?_
    obtain ⟨r3, q7⟩ : ∃ y_ : Bool, y_ = sp_isNaN1 y := ⟨_, rfl⟩
    replace hF := hF r3 q7
    refine .gc (cl (v := .bool r3) Tryz.call122 rfl rfl (fun w S => (by rw [q7]; exact c_isNaN1 S.sub y ))) rfl rfl rfl q6 rfl rfl ?_
    refine .gv (nt rfl) rfl rfl rfl q6 rfl rfl ?_
    refine .v (pkT rfl q6 rfl) rfl rfl rfl ?_
    refine .v (mv rfl) rfl rfl rfl ?_
    rcases Bool.eq_false_or_eq_true (!r3) with q8 | q8
    · replace hF := hF.1 q8
      refine .gS rfl rfl rfl q8 rfl rfl ?_
      refine .gS rfl rfl rfl q8 rfl rfl ?_
      refine .gS rfl rfl rfl q8 rfl rfl ?_
      refine .v (pkT rfl q8 rfl) rfl rfl rfl ?_
      refine .v (asg rfl) rfl rfl rfl ?_
      refine .nil ?_
      refine .seqN ?_
      refine .ret ?_
      refine .res1 rfl (rvT rfl) (fun w' S => ⟨true, hF, rfl, S.below⟩)
    replace hF := hF.2 q8
    refine .gv (mv rfl) rfl rfl rfl q8 rfl rfl ?_
    refine .gv (mv rfl) rfl rfl rfl q8 rfl rfl ?_
    refine .gv (bi rfl rfl rfl) rfl rfl rfl q8 rfl rfl ?_
    refine .v (pkF rfl q8 rfl) rfl rfl rfl ?_
    refine .v (asg rfl) rfl rfl rfl ?_
    refine .nil ?_
    refine .seqN ?_
    refine .ret ?_
    refine .res1 rfl (rvT rfl) (fun w' S => ⟨decide (x < y), hF, rfl, S.below⟩)
  replace hF := hF.2 q6
  refine .gS rfl rfl rfl q6 rfl rfl ?_
  refine .gS rfl rfl rfl q6 rfl rfl ?_
  refine .gS rfl rfl rfl q6 rfl rfl ?_
  refine .v (pkF rfl q6 rfl) rfl rfl rfl ?_
  refine .v (mv rfl) rfl rfl rfl ?_
  refine .gv (mv rfl) rfl rfl rfl rfl rfl rfl ?_
  refine .gv (mv rfl) rfl rfl rfl rfl rfl rfl ?_
  refine .gv (bi rfl rfl rfl) rfl rfl rfl rfl rfl rfl ?_
  refine .v (pkF rfl rfl rfl) rfl rfl rfl ?_
  refine .v (asg rfl) rfl rfl rfl ?_
  refine .nil ?_
  refine .seqN ?_
  refine .ret ?_
  refine .res1 rfl (rvT rfl) (fun w' S => ⟨decide (x < y), hF, rfl, S.below⟩)

theorem c_less {h : FH} {w : World} (hs : Sub h w) (x : Int) (y : Int) : Calls Tryz.prog 116 #[.int .i64 x, .int .i64 y] w fun e w' => e = .returned (.bool (sp_less x y)) ∧ Below w.heap.size w w' :=
  (w_less hs x y (fun r => r = sp_less x y) (ok_less x y)).mono fun _ _ ⟨_, hk, he, hb⟩ => ⟨by rw [he, hk], hb⟩

set_option maxHeartbeats 8000000 in
theorem w_bsearch {h : FH} {w : World} (hs : Sub h w) (x : List Int) (ax : Option Addr) (cx : Nat) (_q1 : RSl h ax x) (_q2 : x.length ≤ cx) (target : Int) (K : (Int × Bool) → Prop) (hF : F_bsearch x target K) : Calls Tryz.prog 104 #[.slice ax x.length cx, .int .i64 target] w fun e w' => ∃ r : Int × Bool, K r ∧ e = .returned (.tuple #[.int .i64 r.1, .bool r.2]) ∧ Below w.heap.size w w' := by
  refine enter (args := [.slice ax x.length cx, .int .i64 target]) Tryz.func104 rfl Tryz.ntmps104 rfl hs ?_
  refine .seq ?_
  refine .region ?_
  refine .v (asg rfl) rfl rfl rfl ?_
  refine .v (asg rfl) rfl rfl rfl ?_
  refine .nil ?_
  refine .seqN ?_
  refine .seq ?_
  refine .region ?_
  refine .v (mv rfl) rfl rfl rfl ?_
  refine .v (ln rfl tS22.is) rfl rfl rfl ?_
  refine .v (asg rfl) rfl rfl rfl ?_
  refine .nil ?_
  refine .seqN ?_
  refine .seq ?_
  refine .region ?_
  refine .v (mv rfl) rfl rfl rfl ?_
  refine .v (asg rfl) rfl rfl rfl ?_
  refine .v (asg rfl) rfl rfl rfl ?_
  refine .nil ?_
  refine .seqN ?_
  refine .seq ?_
  refine .block ?_
  obtain ⟨I1, μ1, q55, q56⟩ := hF
  refine .loop' (σ := Int × Int) (fun z => I1 z.1 z.2) (fun z => μ1 z.1 z.2) (fun z => [(0, .slice ax x.length cx), (1, .int .i64 target), (6, .int .i64 ((x.length : Nat) : Int)), (7, .int .i64 z.1), (8, .int .i64 z.2)]) (fun _ => []) (fun _ => h) (0, ((x.length : Nat) : Int)) q55 (.cons rfl (.cons rfl (.cons rfl (.cons rfl (.cons rfl (.nil)))))) rfl (FH.le_refl _) ?_
  rintro ⟨i, j⟩ q55
  have hF := q56 i j q55
  show J _ _ _ _ _ [(0, .slice ax x.length cx), (1, .int .i64 target), (6, .int .i64 ((x.length : Nat) : Int)), (7, .int .i64 i), (8, .int .i64 j)] [] h
  refine .seq ?_
  refine .seq ?_
  refine .region ?_
  refine .v (mv rfl) rfl rfl rfl ?_
  refine .v (mv rfl) rfl rfl rfl ?_
  refine .v (bi rfl rfl rfl) rfl rfl rfl ?_
  refine .nil ?_
  refine .seqN ?_
  refine .cond rfl (fun q58 => ?_) (fun q58 => ?_)
  · replace hF := hF.1 q58
    refine .skip ?_
    refine .seqN ?_
    refine .block ?_
    refine .seq ?_
    refine .region ?_
    refine .v (mv rfl) rfl rfl rfl ?_
    refine .v (mv rfl) rfl rfl rfl ?_
    refine .v (bi rfl rfl rfl) rfl rfl rfl ?_
    refine .v (cv Tryz.underlying3 Tryz.underlying131 rfl) rfl rfl rfl ?_
    obtain ⟨x2, q59⟩ : ∃ y_ : Int, y_ = (Int.fdiv (IntKind.u64.wrap (IntKind.i64.wrap (i + j))) (2 ^ (min ((1 : Int)).toNat (IntKind.bits .u64)))) := ⟨_, rfl⟩
    replace hF := hF x2 q59
    refine .v (v := .int .u64 x2) (by rw [q59]; exact bsh rfl rfl (by decide) rfl) rfl rfl rfl ?_
    refine .v (cv Tryz.underlying131 Tryz.underlying3 rfl) rfl rfl rfl ?_
    refine .v (asg rfl) rfl rfl rfl ?_
    refine .nil ?_
    refine .seqN ?_
    refine .seq ?_
    refine .region ?_
    refine .v (mv rfl) rfl rfl rfl ?_
    refine .v (mv rfl) rfl rfl rfl ?_
    obtain ⟨q60, hF⟩ := hF
    refine .v (ix rfl rfl tS22 (_q1.ne (by decide) (inb_pos q60)) q60) rfl rfl rfl ?_
    refine .v (ld1 (v := .int .i64 (gt x (IntKind.i64.wrap (x2)))) rfl tO3 (cellH (_q1.elemF q60 (by decide) 0 _ rfl))) rfl rfl rfl ?_
    refine .v (mv rfl) rfl rfl rfl ?_
    obtain ⟨r2, q61⟩ : ∃ y_ : Bool, y_ = sp_less (gt x (IntKind.i64.wrap (x2))) target := ⟨_, rfl⟩
    replace hF := hF r2 q61
    refine .c (cl (v := .bool r2) Tryz.call116 rfl rfl (fun w S => (by rw [q61]; exact c_less S.sub (gt x (IntKind.i64.wrap (x2))) target ))) rfl rfl rfl ?_
    refine .nil ?_
    refine .seqN ?_
    refine .cond rfl (fun q62 => ?_) (fun q62 => ?_)
    · replace hF := hF.1 q62
      refine .region ?_
      refine .v (mv rfl) rfl rfl rfl ?_
      refine .v (bi rfl rfl rfl) rfl rfl rfl ?_
      refine .v (asg rfl) rfl rfl rfl ?_
      refine .nil ?_
      refine .blkN ?_
      exact .round (IntKind.i64.wrap ((IntKind.i64.wrap (x2)) + 1), j) hF.1 hF.2 (.cons rfl (.cons rfl (.cons rfl (.cons rfl (.cons rfl (.nil)))))) rfl (FH.le_refl _)
    replace hF := hF.2 q62
    refine .region ?_
    refine .v (mv rfl) rfl rfl rfl ?_
    refine .v (asg rfl) rfl rfl rfl ?_
    refine .nil ?_
    refine .blkN ?_
    exact .round (i, IntKind.i64.wrap (x2)) hF.1 hF.2 (.cons rfl (.cons rfl (.cons rfl (.cons rfl (.cons rfl (.nil)))))) rfl (FH.le_refl _)
  replace hF := hF.2 q58
  refine .exit ?_
  refine .seqX ?_
  refine .seqX ?_
  refine .blkX ?_
  refine .seqN ?_
  refine .seq ?_
  refine .region ?_
  refine .v (mv rfl) rfl rfl rfl ?_
  refine .v (mv rfl) rfl rfl rfl ?_
  refine .v (mv rfl) rfl rfl rfl ?_
  refine .v (bi rfl rfl rfl) rfl rfl rfl ?_
  refine .v (mv rfl) rfl rfl rfl ?_
  rcases Bool.eq_false_or_eq_true (decide (i < ((x.length : Nat) : Int))) with q69 | q69
  · replace hF := hF.1 q69
    refine .gv (mv rfl) rfl rfl rfl q69 rfl rfl ?_
    refine .gv (mv rfl) rfl rfl rfl q69 rfl rfl ?_
    obtain ⟨q70, hF⟩ := hF
    refine .gv (ix rfl rfl tS22 (_q1.ne (by decide) (inb_pos q70)) q70) rfl rfl rfl q69 rfl rfl ?_
    refine .gv (ld1 (v := .int .i64 (gt x i)) rfl tO3 (cellH (_q1.elemF q70 (by decide) 0 _ rfl))) rfl rfl rfl q69 rfl rfl ?_
    refine .gv (mv rfl) rfl rfl rfl q69 rfl rfl ?_
    refine .gv (bi rfl rfl rfl) rfl rfl rfl q69 rfl rfl ?_
    refine .gv (mv rfl) rfl rfl rfl q69 rfl rfl ?_
    rcases Bool.eq_false_or_eq_true ((gt x i) == target) with q71 | q71
    · replace hF := hF.1 q71
      refine .gS rfl rfl rfl q71 rfl rfl ?_
      refine .gS rfl rfl rfl q71 rfl rfl ?_
      refine .gS rfl rfl rfl q71 rfl rfl ?_
      refine .gS rfl rfl rfl q71 rfl rfl ?_
      refine .gS rfl rfl rfl q71 rfl rfl ?_
      refine .gS rfl rfl rfl q71 rfl rfl ?_
      refine .gU rfl rfl rfl rfl rfl ?_
      refine .gU rfl rfl rfl rfl rfl ?_
      refine .gS rfl rfl rfl q71 rfl rfl ?_
      refine .gv (pkT rfl q71 rfl) rfl rfl rfl q69 rfl rfl ?_
      refine .v (pkT rfl q69 rfl) rfl rfl rfl ?_
      refine .v (asg rfl) rfl rfl rfl ?_
      refine .v (asg rfl) rfl rfl rfl ?_
      refine .nil ?_
      refine .seqN ?_
      refine .ret ?_
      refine .res2 rfl (rvT rfl) (rvT rfl) (fun w' S => ⟨(i, true), hF, rfl, S.below⟩)
    replace hF := hF.2 q71
    refine .gv (mv rfl) rfl rfl rfl q71 rfl rfl ?_
    refine .gv (mv rfl) rfl rfl rfl q71 rfl rfl ?_
    refine .gv (ix rfl rfl tS22 (_q1.ne (by decide) (inb_pos q70)) q70) rfl rfl rfl q71 rfl rfl ?_
    refine .gv (ld1 (v := .int .i64 (gt x i)) rfl tO3 (cellH (_q1.elemF q70 (by decide) 0 _ rfl))) rfl rfl rfl q71 rfl rfl ?_
    obtain ⟨r3, q72⟩ : ∃ y_ : Bool, y_ = sp_isNaN1 (gt x i) := ⟨_, rfl⟩
    replace hF := hF r3 q72
    refine .gc (cl (v := .bool r3) Tryz.call117 rfl rfl (fun w S => (by rw [q72]; exact c_isNaN2 S.sub (gt x i) ))) rfl rfl rfl q71 rfl rfl ?_
    refine .gv (mv rfl) rfl rfl rfl q71 rfl rfl ?_
    rcases Bool.eq_false_or_eq_true (r3) with q73 | q73
    · replace hF := hF.1 q73
      refine .gv (mv rfl) rfl rfl rfl q73 rfl rfl ?_
      obtain ⟨r4, q74⟩ : ∃ y_ : Bool, y_ = sp_isNaN1 target := ⟨_, rfl⟩
      replace hF := hF r4 q74
      refine .gc (cl (v := .bool r4) Tryz.call117 rfl rfl (fun w S => (by rw [q74]; exact c_isNaN2 S.sub target ))) rfl rfl rfl q73 rfl rfl ?_
      refine .gv (pkT rfl q73 rfl) rfl rfl rfl q71 rfl rfl ?_
      refine .gv (pkF rfl q71 rfl) rfl rfl rfl q69 rfl rfl ?_
      refine .v (pkT rfl q69 rfl) rfl rfl rfl ?_
      refine .v (asg rfl) rfl rfl rfl ?_
      refine .v (asg rfl) rfl rfl rfl ?_
      refine .nil ?_
      refine .seqN ?_
      refine .ret ?_
      refine .res2 rfl (rvT rfl) (rvT rfl) (fun w' S => ⟨(i, r4), hF, rfl, S.below⟩)
    replace hF := hF.2 q73
    refine .gS rfl rfl rfl q73 rfl rfl ?_
    refine .gS rfl rfl rfl q73 rfl rfl ?_
    refine .gv (pkF rfl q73 rfl) rfl rfl rfl q71 rfl rfl ?_
    refine .gv (pkF rfl q71 rfl) rfl rfl rfl q69 rfl rfl ?_
    refine .v (pkT rfl q69 rfl) rfl rfl rfl ?_
    refine .v (asg rfl) rfl rfl rfl ?_
    refine .v (asg rfl) rfl rfl rfl ?_
    refine .nil ?_
    refine .seqN ?_
    refine .ret ?_
    refine .res2 rfl (rvT rfl) (rvT rfl) (fun w' S => ⟨(i, false), hF, rfl, S.below⟩)
  replace hF := hF.2 q69
  refine .gS rfl rfl rfl q69 rfl rfl ?_
  refine .gS rfl rfl rfl q69 rfl rfl ?_
  refine .gS rfl rfl rfl q69 rfl rfl ?_
  refine .gS rfl rfl rfl q69 rfl rfl ?_
  refine .gS rfl rfl rfl q69 rfl rfl ?_
  refine .gS rfl rfl rfl q69 rfl rfl ?_
  refine .gS rfl rfl rfl q69 rfl rfl ?_
  refine .gU rfl rfl rfl rfl rfl ?_
  refine .gU rfl rfl rfl rfl rfl ?_
  refine .gU rfl rfl rfl rfl rfl ?_
  refine .gU rfl rfl rfl rfl rfl ?_
  refine .gU rfl rfl rfl rfl rfl ?_
  refine .gU rfl rfl rfl rfl rfl ?_
  refine .gU rfl rfl rfl rfl rfl ?_
  refine .gU rfl rfl rfl rfl rfl ?_
  refine .gU rfl rfl rfl rfl rfl ?_
  refine .gS rfl rfl rfl q69 rfl rfl ?_
  refine .v (pkF rfl q69 rfl) rfl rfl rfl ?_
  refine .v (asg rfl) rfl rfl rfl ?_
  refine .v (asg rfl) rfl rfl rfl ?_
  refine .nil ?_
  refine .seqN ?_
  refine .ret ?_
  refine .res2 rfl (rvT rfl) (rvT rfl) (fun w' S => ⟨(i, false), hF, rfl, S.below⟩)

theorem c_bsearch {h : FH} {w : World} (hs : Sub h w) (x : List Int) (ax : Option Addr) (cx : Nat) (_q1 : RSl h ax x) (_q2 : x.length ≤ cx) (target : Int) (hp : pre_bsearch x target) : Calls Tryz.prog 104 #[.slice ax x.length cx, .int .i64 target] w fun e w' => e = .returned (.tuple #[.int .i64 (sp_bsearch x target).1, .bool (sp_bsearch x target).2]) ∧ Below w.heap.size w w' :=
  (w_bsearch hs x ax cx _q1 _q2 target (fun r => r = sp_bsearch x target) (ok_bsearch x target hp)).mono fun _ _ ⟨_, hk, he, hb⟩ => ⟨by rw [he, hk], hb⟩

theorem w_indexF {h : FH} {w : World} (hs : Sub h w) (s_ : List Int) (as_ : Option Addr) (cs_ : Nat) (_q1 : RSl h as_ s_) (_q2 : s_.length ≤ cs_) (pf : Int → Bool) (Df : Int → Prop) (ff : FuncId) (firstf capsf : Array Value) (hff : ∀ args w, (callFunc ff args).run Tryz.prog w = .ok (.enter ff args) w) (hpf : ∀ (x : Int) (w' : World), Df x → Sub h w' → Calls Tryz.prog ff (firstf.toList ++ [(.int .i64 x : Value)] ++ capsf.toList).toArray w' fun e w'' => e = .returned (.bool (pf x)) ∧ Below w'.heap.size w' w'') (K : Int → Prop) (hF : F_indexF s_ pf Df K) : Calls Tryz.prog 149 #[.slice as_ s_.length cs_, .func (.func ff) firstf capsf] w fun e w' => ∃ r : Int, K r ∧ e = .returned (.int .i64 r) ∧ Below w.heap.size w w' := by
  refine enter (args := [.slice as_ s_.length cs_, .func (.func ff) firstf capsf]) Tryz.func149 rfl Tryz.ntmps149 rfl hs ?_
  refine .seq ?_
  refine .region ?_
  refine .v (asg rfl) rfl rfl rfl ?_
  refine .nil ?_
  refine .seqN ?_
  refine .seq ?_
  refine .seq ?_
  refine .region ?_
  refine .v (mv rfl) rfl rfl rfl ?_
  refine .v (ln rfl tS22.is) rfl rfl rfl ?_
  refine .v (mv rfl) rfl rfl rfl ?_
  refine .nil ?_
  refine .seqN ?_
  refine .block ?_
  obtain ⟨I1, μ1, q80, q81⟩ := hF
  refine .loop' (σ := Int) (fun z => I1 z) (fun z => μ1 z) (fun z => [(0, .slice as_ s_.length cs_), (1, .func (.func ff) firstf capsf), (7, .int .i64 ((s_.length : Nat) : Int)), (8, .int .i64 z)]) (fun _ => []) (fun _ => h) 0 q80 (.cons rfl (.cons rfl (.cons rfl (.cons rfl (.nil))))) rfl (FH.le_refl _) ?_
  rintro t8 q80
  have hF := q81 t8 q80
  show J _ _ _ _ _ [(0, .slice as_ s_.length cs_), (1, .func (.func ff) firstf capsf), (7, .int .i64 ((s_.length : Nat) : Int)), (8, .int .i64 t8)] [] h
  refine .seq ?_
  refine .region ?_
  refine .v (bi rfl rfl rfl) rfl rfl rfl ?_
  refine .nil ?_
  refine .seqN ?_
  refine .seq ?_
  refine .cond rfl (fun q84 => ?_) (fun q84 => ?_)
  · replace hF := hF.1 q84
    refine .skip ?_
    refine .seqN ?_
    refine .seq ?_
    refine .block ?_
    refine .seq ?_
    refine .region ?_
    refine .v (mv rfl) rfl rfl rfl ?_
    refine .v (asg rfl) rfl rfl rfl ?_
    refine .nil ?_
    refine .seqN ?_
    refine .seq ?_
    refine .region ?_
    refine .v (mv rfl) rfl rfl rfl ?_
    refine .v (mv rfl) rfl rfl rfl ?_
    refine .v (mv rfl) rfl rfl rfl ?_
    obtain ⟨q93, hF⟩ := hF
    refine .v (ix rfl rfl tS22 (_q1.ne (by decide) (inb_pos q93)) q93) rfl rfl rfl ?_
    refine .v (ld1 (v := .int .i64 (gt s_ t8)) rfl tO3 (cellH (_q1.elemF q93 (by decide) 0 _ rfl))) rfl rfl rfl ?_
    obtain ⟨q94, hF⟩ := hF
    obtain ⟨r2, q95⟩ : ∃ y_ : Bool, y_ = pf (gt s_ t8) := ⟨_, rfl⟩
    replace hF := hF r2 q95
    refine .c (cl (v := .bool r2) hff rfl rfl (fun w S => (by rw [q95]; exact hpf (gt s_ t8) w q94 (S.sub.anti (FH.le_refl _))))) rfl rfl rfl ?_
    refine .nil ?_
    refine .seqN ?_
    refine .cond rfl (fun q96 => ?_) (fun q96 => ?_)
    · replace hF := hF.1 q96
      refine .seq ?_
      refine .region ?_
      refine .v (mv rfl) rfl rfl rfl ?_
      refine .v (asg rfl) rfl rfl rfl ?_
      refine .nil ?_
      refine .seqN ?_
      refine .ret ?_
      refine .blkR ?_
      refine .seqR ?_
      refine .seqR ?_
      refine .blkR ?_
      refine .seqR ?_
      refine .res1 rfl (rvT rfl) (fun w' S => ⟨t8, hF, rfl, S.below⟩)
    replace hF := hF.2 q96
    refine .skip ?_
    refine .blkN ?_
    refine .seqN ?_
    refine .region ?_
    refine .v (bi rfl rfl rfl) rfl rfl rfl ?_
    refine .v (mv rfl) rfl rfl rfl ?_
    refine .nil ?_
    exact .round (IntKind.i64.wrap (t8 + 1)) hF.1 hF.2 (.cons rfl (.cons rfl (.cons rfl (.cons rfl (.nil))))) rfl (FH.le_refl _)
  replace hF := hF.2 q84
  refine .exit ?_
  refine .seqX ?_
  refine .seqX ?_
  refine .blkX ?_
  refine .seqN ?_
  refine .seq ?_
  refine .region ?_
  refine .v (asg rfl) rfl rfl rfl ?_
  refine .nil ?_
  refine .seqN ?_
  refine .ret ?_
  refine .res1 rfl (rvT rfl) (fun w' S => ⟨(-1), hF, rfl, S.below⟩)

theorem c_indexF {h : FH} {w : World} (hs : Sub h w) (s_ : List Int) (as_ : Option Addr) (cs_ : Nat) (_q1 : RSl h as_ s_) (_q2 : s_.length ≤ cs_) (pf : Int → Bool) (Df : Int → Prop) (ff : FuncId) (firstf capsf : Array Value) (hff : ∀ args w, (callFunc ff args).run Tryz.prog w = .ok (.enter ff args) w) (hpf : ∀ (x : Int) (w' : World), Df x → Sub h w' → Calls Tryz.prog ff (firstf.toList ++ [(.int .i64 x : Value)] ++ capsf.toList).toArray w' fun e w'' => e = .returned (.bool (pf x)) ∧ Below w'.heap.size w' w'') (hp : pre_any s_ pf Df) : Calls Tryz.prog 149 #[.slice as_ s_.length cs_, .func (.func ff) firstf capsf] w fun e w' => e = .returned (.int .i64 (sp_indexF s_ pf Df)) ∧ Below w.heap.size w w' :=
  (w_indexF hs s_ as_ cs_ _q1 _q2 pf Df ff firstf capsf hff hpf (fun r => r = sp_indexF s_ pf Df) (ok_indexF s_ pf Df hp)).mono fun _ _ ⟨_, hk, he, hb⟩ => ⟨by rw [he, hk], hb⟩

theorem w_containsF {h : FH} {w : World} (hs : Sub h w) (s_ : List Int) (as_ : Option Addr) (cs_ : Nat) (_q1 : RSl h as_ s_) (_q2 : s_.length ≤ cs_) (pf : Int → Bool) (Df : Int → Prop) (ff : FuncId) (firstf capsf : Array Value) (hff : ∀ args w, (callFunc ff args).run Tryz.prog w = .ok (.enter ff args) w) (hpf : ∀ (x : Int) (w' : World), Df x → Sub h w' → Calls Tryz.prog ff (firstf.toList ++ [(.int .i64 x : Value)] ++ capsf.toList).toArray w' fun e w'' => e = .returned (.bool (pf x)) ∧ Below w'.heap.size w' w'') (K : Bool → Prop) (hF : F_containsF s_ pf Df K) : Calls Tryz.prog 124 #[.slice as_ s_.length cs_, .func (.func ff) firstf capsf] w fun e w' => ∃ r : Bool, K r ∧ e = .returned (.bool r) ∧ Below w.heap.size w w' := by
  refine enter (args := [.slice as_ s_.length cs_, .func (.func ff) firstf capsf]) Tryz.func124 rfl Tryz.ntmps124 rfl hs ?_
  refine .seq ?_
  refine .region ?_
  refine .v (asg rfl) rfl rfl rfl ?_
  refine .nil ?_
  refine .seqN ?_
  refine .seq ?_
  refine .region ?_
  refine .v (mv rfl) rfl rfl rfl ?_
  refine .v (mv rfl) rfl rfl rfl ?_
  obtain ⟨q3, hF⟩ := hF
  obtain ⟨r2, q4⟩ : ∃ y_ : Int, y_ = sp_indexF s_ pf Df := ⟨_, rfl⟩
  replace hF := hF r2 q4
  refine .c (cl (v := .int .i64 r2) Tryz.call149 rfl rfl (fun w S => (by rw [q4]; exact c_indexF S.sub s_ as_ cs_ _q1 _q2 pf Df ff firstf capsf hff hpf q3))) rfl rfl rfl ?_
  refine .v (bi rfl rfl rfl) rfl rfl rfl ?_
  refine .v (asg rfl) rfl rfl rfl ?_
  refine .nil ?_
  refine .seqN ?_
  refine .ret ?_
  refine .res1 rfl (rvT rfl) (fun w' S => ⟨decide (0 ≤ r2), hF, rfl, S.below⟩)

theorem c_containsF {h : FH} {w : World} (hs : Sub h w) (s_ : List Int) (as_ : Option Addr) (cs_ : Nat) (_q1 : RSl h as_ s_) (_q2 : s_.length ≤ cs_) (pf : Int → Bool) (Df : Int → Prop) (ff : FuncId) (firstf capsf : Array Value) (hff : ∀ args w, (callFunc ff args).run Tryz.prog w = .ok (.enter ff args) w) (hpf : ∀ (x : Int) (w' : World), Df x → Sub h w' → Calls Tryz.prog ff (firstf.toList ++ [(.int .i64 x : Value)] ++ capsf.toList).toArray w' fun e w'' => e = .returned (.bool (pf x)) ∧ Below w'.heap.size w' w'') (hp : pre_any s_ pf Df) : Calls Tryz.prog 124 #[.slice as_ s_.length cs_, .func (.func ff) firstf capsf] w fun e w' => e = .returned (.bool (sp_any s_ pf Df)) ∧ Below w.heap.size w w' :=
  (w_containsF hs s_ as_ cs_ _q1 _q2 pf Df ff firstf capsf hff hpf (fun r => r = sp_any s_ pf Df) (ok_containsF s_ pf Df hp)).mono fun _ _ ⟨_, hk, he, hb⟩ => ⟨by rw [he, hk], hb⟩

set_option maxHeartbeats 8000000 in
theorem w_isSet {h : FH} {w : World} (hs : Sub h w) (l : List Int) (al2 : Option Addr) (cl2 : Nat) (_q1 : RSl h al2 l) (_q2 : l.length ≤ cl2) (n_ : Int) (K : Bool → Prop) (hF : F_isSet l n_ K) : Calls Tryz.prog 61 #[.slice al2 l.length cl2, .int .i64 n_] w fun e w' => ∃ r : Bool, K r ∧ e = .returned (.bool r) ∧ Below w.heap.size w w' := by
  refine enter (args := [.slice al2 l.length cl2, .int .i64 n_]) Tryz.func61 rfl Tryz.ntmps61 rfl hs ?_
  refine .seq ?_
  refine .region ?_
  refine .v (asg rfl) rfl rfl rfl ?_
  refine .nil ?_
  refine .seqN ?_
  refine .seq ?_
  refine .seq ?_
  refine .region ?_
  refine .v (mv rfl) rfl rfl rfl ?_
  refine .v (ln rfl tS22.is) rfl rfl rfl ?_
  refine .v (mv rfl) rfl rfl rfl ?_
  refine .nil ?_
  refine .seqN ?_
  refine .block ?_
  obtain ⟨I1, μ1, q185, q186⟩ := hF
  refine .loop' (σ := Int) (fun z => I1 z) (fun z => μ1 z) (fun z => [(0, .slice al2 l.length cl2), (1, .int .i64 n_), (7, .slice al2 l.length cl2), (8, .int .i64 ((l.length : Nat) : Int)), (9, .int .i64 z)]) (fun _ => []) (fun _ => h) 0 q185 (.cons rfl (.cons rfl (.cons rfl (.cons rfl (.cons rfl (.nil)))))) rfl (FH.le_refl _) ?_
  rintro t9 q185
  have hF := q186 t9 q185
  show J _ _ _ _ _ [(0, .slice al2 l.length cl2), (1, .int .i64 n_), (7, .slice al2 l.length cl2), (8, .int .i64 ((l.length : Nat) : Int)), (9, .int .i64 t9)] [] h
  refine .seq ?_
  refine .region ?_
  refine .v (bi rfl rfl rfl) rfl rfl rfl ?_
  refine .nil ?_
  refine .seqN ?_
  refine .seq ?_
  refine .cond rfl (fun q189 => ?_) (fun q189 => ?_)
  · replace hF := hF.1 q189
    refine .skip ?_
    refine .seqN ?_
    refine .seq ?_
    refine .block ?_
    refine .seq ?_
    refine .region ?_
    refine .v (mv rfl) rfl rfl rfl ?_
    obtain ⟨q212, hF⟩ := hF
    refine .v (ix rfl rfl tS22 (_q1.ne (by decide) (inb_pos q212)) q212) rfl rfl rfl ?_
    refine .v (ld1 (v := .int .i64 (gt l t9)) rfl tO3 (cellH (_q1.elemF q212 (by decide) 0 _ rfl))) rfl rfl rfl ?_
    refine .v (asg rfl) rfl rfl rfl ?_
    refine .v (asg rfl) rfl rfl rfl ?_
    refine .nil ?_
    refine .seqN ?_
    refine .share (σ := Bool) (fun z => F_isSet_J1 K z t9 I1 μ1) (fun z => [(0, .slice al2 l.length cl2), (1, .int .i64 n_), (7, .slice al2 l.length cl2), (8, .int .i64 ((l.length : Nat) : Int)), (9, .int .i64 t9), (33, .bool z)]) (fun _ => []) (fun _ => h) ?_ (fun q217 => ?_)
    · rintro t33 hF
      show J _ _ _ _ _ [(0, .slice al2 l.length cl2), (1, .int .i64 n_), (7, .slice al2 l.length cl2), (8, .int .i64 ((l.length : Nat) : Int)), (9, .int .i64 t9), (33, .bool t33)] [] h
      refine .cond rfl (fun q218 => ?_) (fun q218 => ?_)
      · replace hF := hF.1 q218
        refine .seq ?_
        refine .region ?_
        refine .v (asg rfl) rfl rfl rfl ?_
        refine .nil ?_
        refine .seqN ?_
        refine .ret ?_
        refine .blkR ?_
        refine .seqR ?_
        refine .seqR ?_
        refine .blkR ?_
        refine .seqR ?_
        refine .res1 rfl (rvT rfl) (fun w' S => ⟨false, hF, rfl, S.below⟩)
      replace hF := hF.2 q218
      refine .skip ?_
      refine .blkN ?_
      refine .seqN ?_
      refine .region ?_
      refine .v (bi rfl rfl rfl) rfl rfl rfl ?_
      refine .v (mv rfl) rfl rfl rfl ?_
      refine .nil ?_
      exact .round (IntKind.i64.wrap (t9 + 1)) hF.1 hF.2 (.cons rfl (.cons rfl (.cons rfl (.cons rfl (.cons rfl (.nil)))))) rfl (FH.le_refl _)
    refine .region ?_
    refine .v (mv rfl) rfl rfl rfl ?_
    refine .v (bi rfl rfl rfl) rfl rfl rfl ?_
    refine .v (mv rfl) rfl rfl rfl ?_
    rcases Bool.eq_false_or_eq_true (decide ((gt l t9) < 0)) with q219 | q219
    · replace hF := hF.1 q219
      refine .gS rfl rfl rfl q219 rfl rfl ?_
      refine .gS rfl rfl rfl q219 rfl rfl ?_
      refine .gS rfl rfl rfl q219 rfl rfl ?_
      refine .v (pkT rfl q219 rfl) rfl rfl rfl ?_
      refine .v (mv rfl) rfl rfl rfl ?_
      refine .gS rfl rfl rfl rfl rfl rfl ?_
      refine .gS rfl rfl rfl rfl rfl rfl ?_
      refine .gS rfl rfl rfl rfl rfl rfl ?_
      refine .gU rfl rfl rfl rfl rfl ?_
      refine .gU rfl rfl rfl rfl rfl ?_
      refine .gU rfl rfl rfl rfl rfl ?_
      refine .gU rfl rfl rfl rfl rfl ?_
      refine .gU rfl rfl rfl rfl rfl ?_
      refine .gU rfl rfl rfl rfl rfl ?_
      refine .gU rfl rfl rfl rfl rfl ?_
      refine .gS rfl rfl rfl rfl rfl rfl ?_
      refine .v (pkT rfl rfl rfl) rfl rfl rfl ?_
      refine .nil ?_
      exact .use q217 true hF (.cons rfl (.cons rfl (.cons rfl (.cons rfl (.cons rfl (.cons rfl (.nil))))))) rfl (FH.le_refl _)
    replace hF := hF.2 q219
    refine .gv (mv rfl) rfl rfl rfl q219 rfl rfl ?_
    refine .gv (mv rfl) rfl rfl rfl q219 rfl rfl ?_
    refine .gv (bi rfl rfl rfl) rfl rfl rfl q219 rfl rfl ?_
    refine .v (pkF rfl q219 rfl) rfl rfl rfl ?_
    refine .v (mv rfl) rfl rfl rfl ?_
    rcases Bool.eq_false_or_eq_true (decide (n_ ≤ (gt l t9))) with q220 | q220
    · replace hF := hF.1 q220
      refine .gS rfl rfl rfl q220 rfl rfl ?_
      refine .gS rfl rfl rfl q220 rfl rfl ?_
      refine .gS rfl rfl rfl q220 rfl rfl ?_
      refine .gU rfl rfl rfl rfl rfl ?_
      refine .gU rfl rfl rfl rfl rfl ?_
      refine .gU rfl rfl rfl rfl rfl ?_
      refine .gU rfl rfl rfl rfl rfl ?_
      refine .gU rfl rfl rfl rfl rfl ?_
      refine .gU rfl rfl rfl rfl rfl ?_
      refine .gU rfl rfl rfl rfl rfl ?_
      refine .gS rfl rfl rfl q220 rfl rfl ?_
      refine .v (pkT rfl q220 rfl) rfl rfl rfl ?_
      refine .nil ?_
      exact .use q217 true hF (.cons rfl (.cons rfl (.cons rfl (.cons rfl (.cons rfl (.cons rfl (.nil))))))) rfl (FH.le_refl _)
    replace hF := hF.2 q220
    refine .gv (mv rfl) rfl rfl rfl q220 rfl rfl ?_
    refine .gv (bi rfl rfl rfl) rfl rfl rfl q220 rfl rfl ?_
    refine .gv (mv rfl) rfl rfl rfl q220 rfl rfl ?_
    rcases Bool.eq_false_or_eq_true (decide (0 < t9)) with q221 | q221
    · replace hF := hF.1 q221
      refine .gv (mv rfl) rfl rfl rfl q221 rfl rfl ?_
      refine .gv (mv rfl) rfl rfl rfl q221 rfl rfl ?_
      refine .gv (mv rfl) rfl rfl rfl q221 rfl rfl ?_
      refine .gv (bi rfl rfl rfl) rfl rfl rfl q221 rfl rfl ?_
      obtain ⟨q222, hF⟩ := hF
      refine .gv (ix rfl rfl tS22 (_q1.ne (by decide) (inb_pos q222)) q222) rfl rfl rfl q221 rfl rfl ?_
      refine .gv (ld1 (v := .int .i64 (gt l (IntKind.i64.wrap (t9 - 1)))) rfl tO3 (cellH (_q1.elemF q222 (by decide) 0 _ rfl))) rfl rfl rfl q221 rfl rfl ?_
      refine .gv (bi rfl rfl rfl) rfl rfl rfl q221 rfl rfl ?_
      refine .gv (pkT rfl q221 rfl) rfl rfl rfl q220 rfl rfl ?_
      refine .v (pkF rfl q220 rfl) rfl rfl rfl ?_
      refine .nil ?_
      exact .use q217 (decide ((gt l t9) ≤ (gt l (IntKind.i64.wrap (t9 - 1))))) hF (.cons rfl (.cons rfl (.cons rfl (.cons rfl (.cons rfl (.cons rfl (.nil))))))) rfl (FH.le_refl _)
    replace hF := hF.2 q221
    refine .gS rfl rfl rfl q221 rfl rfl ?_
    refine .gS rfl rfl rfl q221 rfl rfl ?_
    refine .gS rfl rfl rfl q221 rfl rfl ?_
    refine .gS rfl rfl rfl q221 rfl rfl ?_
    refine .gS rfl rfl rfl q221 rfl rfl ?_
    refine .gS rfl rfl rfl q221 rfl rfl ?_
    refine .gS rfl rfl rfl q221 rfl rfl ?_
    refine .gv (pkF rfl q221 rfl) rfl rfl rfl q220 rfl rfl ?_
    refine .v (pkF rfl q220 rfl) rfl rfl rfl ?_
    refine .nil ?_
    exact .use q217 false hF (.cons rfl (.cons rfl (.cons rfl (.cons rfl (.cons rfl (.cons rfl (.nil))))))) rfl (FH.le_refl _)
  replace hF := hF.2 q189
  refine .exit ?_
  refine .seqX ?_
  refine .seqX ?_
  refine .blkX ?_
  refine .seqN ?_
  refine .seq ?_
  refine .region ?_
  refine .v (asg rfl) rfl rfl rfl ?_
  refine .nil ?_
  refine .seqN ?_
  refine .ret ?_
  refine .res1 rfl (rvT rfl) (fun w' S => ⟨true, hF, rfl, S.below⟩)

theorem c_isSet {h : FH} {w : World} (hs : Sub h w) (l : List Int) (al2 : Option Addr) (cl2 : Nat) (_q1 : RSl h al2 l) (_q2 : l.length ≤ cl2) (n_ : Int) (hp : pre_isSet l n_) : Calls Tryz.prog 61 #[.slice al2 l.length cl2, .int .i64 n_] w fun e w' => e = .returned (.bool (sp_isSet l n_)) ∧ Below w.heap.size w w' :=
  (w_isSet hs l al2 cl2 _q1 _q2 n_ (fun r => r = sp_isSet l n_) (ok_isSet l n_ hp)).mono fun _ _ ⟨_, hk, he, hb⟩ => ⟨by rw [he, hk], hb⟩

theorem w_rIsSet {h : FH} {w : World} (hs : Sub h w) (l : List Int) (al2 : Option Addr) (cl2 : Nat) (_q1 : RSl h al2 l) (_q2 : l.length ≤ cl2) (n_ : Int) (K : Bool → Prop) (hF : F_rIsSet l n_ K) : Calls Tryz.prog 26 #[.slice al2 l.length cl2, .int .i64 n_] w fun e w' => ∃ r : Bool, K r ∧ e = .returned (.bool r) ∧ Below w.heap.size w w' := by
  refine enter (args := [.slice al2 l.length cl2, .int .i64 n_]) Tryz.func26 rfl Tryz.ntmps26 rfl hs ?_
  refine .seq ?_
  refine .region ?_
  refine .v (asg rfl) rfl rfl rfl ?_
  refine .nil ?_
  refine .seqN ?_
  refine .seq ?_
  refine .seq ?_
  refine .region ?_
  refine .v (asg rfl) rfl rfl rfl ?_
  refine .nil ?_
  refine .seqN ?_
  refine .block ?_
  obtain ⟨I1, μ1, q195, q196⟩ := hF
  refine .loop' (σ := Int) (fun z => I1 z) (fun z => μ1 z) (fun z => [(0, .slice al2 l.length cl2), (1, .int .i64 n_), (5, .int .i64 z)]) (fun _ => []) (fun _ => h) 0 q195 (.cons rfl (.cons rfl (.cons rfl (.nil)))) rfl (FH.le_refl _) ?_
  rintro i q195
  have hF := q196 i q195
  show J _ _ _ _ _ [(0, .slice al2 l.length cl2), (1, .int .i64 n_), (5, .int .i64 i)] [] h
  refine .seq ?_
  refine .seq ?_
  refine .region ?_
  refine .v (mv rfl) rfl rfl rfl ?_
  refine .v (mv rfl) rfl rfl rfl ?_
  refine .v (ln rfl tS22.is) rfl rfl rfl ?_
  refine .v (bi rfl rfl rfl) rfl rfl rfl ?_
  refine .nil ?_
  refine .seqN ?_
  refine .cond rfl (fun q198 => ?_) (fun q198 => ?_)
  · replace hF := hF.1 q198
    refine .skip ?_
    refine .seqN ?_
    refine .seq ?_
    refine .block ?_
    refine .share (σ := Bool) (fun z => F_rIsSet_J1 K z i I1 μ1) (fun z => [(0, .slice al2 l.length cl2), (1, .int .i64 n_), (5, .int .i64 i), (35, .bool z)]) (fun _ => []) (fun _ => h) ?_ (fun q228 => ?_)
    · rintro t35 hF
      show J _ _ _ _ _ [(0, .slice al2 l.length cl2), (1, .int .i64 n_), (5, .int .i64 i), (35, .bool t35)] [] h
      refine .cond rfl (fun q229 => ?_) (fun q229 => ?_)
      · replace hF := hF.1 q229
        refine .seq ?_
        refine .region ?_
        refine .v (asg rfl) rfl rfl rfl ?_
        refine .nil ?_
        refine .seqN ?_
        refine .ret ?_
        refine .blkR ?_
        refine .seqR ?_
        refine .seqR ?_
        refine .blkR ?_
        refine .seqR ?_
        refine .res1 rfl (rvT rfl) (fun w' S => ⟨false, hF, rfl, S.below⟩)
      replace hF := hF.2 q229
      refine .skip ?_
      refine .blkN ?_
      refine .seqN ?_
      refine .region ?_
      refine .v (mv rfl) rfl rfl rfl ?_
      refine .v (bi rfl rfl rfl) rfl rfl rfl ?_
      refine .v (asg rfl) rfl rfl rfl ?_
      refine .nil ?_
      exact .round (IntKind.i64.wrap (i + 1)) hF.1 hF.2 (.cons rfl (.cons rfl (.cons rfl (.nil)))) rfl (FH.le_refl _)
    refine .open_ (by kernel_rfl) (by kernel_rfl) ?_
    refine .v (mv rfl) rfl rfl rfl ?_
    refine .v (mv rfl) rfl rfl rfl ?_
    obtain ⟨q230, hF⟩ := hF
    refine .v (ix rfl rfl tS22 (_q1.ne (by decide) (inb_pos q230)) q230) rfl rfl rfl ?_
    refine .v (ld1 (v := .int .i64 (gt l i)) rfl tO3 (cellH (_q1.elemF q230 (by decide) 0 _ rfl))) rfl rfl rfl ?_
    refine .v (mv rfl) rfl rfl rfl ?_
    refine .v (bi rfl rfl rfl) rfl rfl rfl ?_
    obtain ⟨r2, q231⟩ : ∃ y_ : Bool, y_ = sp_in_ (gt l i) 0 (IntKind.i64.wrap (n_ - 1)) := ⟨_, rfl⟩
    replace hF := hF r2 q231
    refine .c (cl (v := .bool r2) Tryz.call25 rfl rfl (fun w S => (by rw [q231]; exact c_in_ S.sub (gt l i) 0 (IntKind.i64.wrap (n_ - 1)) ))) rfl rfl rfl ?_
    refine .v (nt rfl) rfl rfl rfl ?_
    refine .v (mv rfl) rfl rfl rfl ?_
    rcases Bool.eq_false_or_eq_true (!r2) with q232 | q232
    · replace hF := hF.1 q232
      refine .gS rfl rfl rfl q232 rfl rfl ?_
      refine .gS rfl rfl rfl q232 rfl rfl ?_
      refine .gS rfl rfl rfl q232 rfl rfl ?_
      refine .gU rfl rfl rfl rfl rfl ?_
      refine .gU rfl rfl rfl rfl rfl ?_
      refine .gU rfl rfl rfl rfl rfl ?_
      refine .gU rfl rfl rfl rfl rfl ?_
      refine .gU rfl rfl rfl rfl rfl ?_
      refine .gU rfl rfl rfl rfl rfl ?_
      refine .gU rfl rfl rfl rfl rfl ?_
      refine .gU rfl rfl rfl rfl rfl ?_
      refine .gU rfl rfl rfl rfl rfl ?_
      refine .gU rfl rfl rfl rfl rfl ?_
      refine .gS rfl rfl rfl q232 rfl rfl ?_
      refine .v (pkT rfl q232 rfl) rfl rfl rfl ?_
      refine .fin ?_
      exact .use q228 true hF (.cons rfl (.cons rfl (.cons rfl (.cons rfl (.nil))))) rfl (FH.le_refl _)
    replace hF := hF.2 q232
    refine .gv (mv rfl) rfl rfl rfl q232 rfl rfl ?_
    refine .gv (bi rfl rfl rfl) rfl rfl rfl q232 rfl rfl ?_
    refine .gv (mv rfl) rfl rfl rfl q232 rfl rfl ?_
    rcases Bool.eq_false_or_eq_true (decide (0 < i)) with q233 | q233
    · replace hF := hF.1 q233
      refine .gv (mv rfl) rfl rfl rfl q233 rfl rfl ?_
      refine .gv (mv rfl) rfl rfl rfl q233 rfl rfl ?_
      refine .gv (ix rfl rfl tS22 (_q1.ne (by decide) (inb_pos q230)) q230) rfl rfl rfl q233 rfl rfl ?_
      refine .gv (ld1 (v := .int .i64 (gt l i)) rfl tO3 (cellH (_q1.elemF q230 (by decide) 0 _ rfl))) rfl rfl rfl q233 rfl rfl ?_
      refine .gv (mv rfl) rfl rfl rfl q233 rfl rfl ?_
      refine .gv (mv rfl) rfl rfl rfl q233 rfl rfl ?_
      refine .gv (bi rfl rfl rfl) rfl rfl rfl q233 rfl rfl ?_
      obtain ⟨q234, hF⟩ := hF
      refine .gv (ix rfl rfl tS22 (_q1.ne (by decide) (inb_pos q234)) q234) rfl rfl rfl q233 rfl rfl ?_
      refine .gv (ld1 (v := .int .i64 (gt l (IntKind.i64.wrap (i - 1)))) rfl tO3 (cellH (_q1.elemF q234 (by decide) 0 _ rfl))) rfl rfl rfl q233 rfl rfl ?_
      refine .gv (bi rfl rfl rfl) rfl rfl rfl q233 rfl rfl ?_
      refine .gv (pkT rfl q233 rfl) rfl rfl rfl q232 rfl rfl ?_
      refine .v (pkF rfl q232 rfl) rfl rfl rfl ?_
      refine .fin ?_
      exact .use q228 (decide ((gt l i) ≤ (gt l (IntKind.i64.wrap (i - 1))))) hF (.cons rfl (.cons rfl (.cons rfl (.cons rfl (.nil))))) rfl (FH.le_refl _)
    replace hF := hF.2 q233
    refine .gS rfl rfl rfl q233 rfl rfl ?_
    refine .gS rfl rfl rfl q233 rfl rfl ?_
    refine .gS rfl rfl rfl q233 rfl rfl ?_
    refine .gS rfl rfl rfl q233 rfl rfl ?_
    refine .gS rfl rfl rfl q233 rfl rfl ?_
    refine .gS rfl rfl rfl q233 rfl rfl ?_
    refine .gS rfl rfl rfl q233 rfl rfl ?_
    refine .gS rfl rfl rfl q233 rfl rfl ?_
    refine .gS rfl rfl rfl q233 rfl rfl ?_
    refine .gS rfl rfl rfl q233 rfl rfl ?_
    refine .gv (pkF rfl q233 rfl) rfl rfl rfl q232 rfl rfl ?_
    refine .v (pkF rfl q232 rfl) rfl rfl rfl ?_
    refine .fin ?_
    exact .use q228 false hF (.cons rfl (.cons rfl (.cons rfl (.cons rfl (.nil))))) rfl (FH.le_refl _)
  replace hF := hF.2 q198
  refine .exit ?_
  refine .seqX ?_
  refine .seqX ?_
  refine .blkX ?_
  refine .seqN ?_
  refine .seq ?_
  refine .region ?_
  refine .v (asg rfl) rfl rfl rfl ?_
  refine .nil ?_
  refine .seqN ?_
  refine .ret ?_
  refine .res1 rfl (rvT rfl) (fun w' S => ⟨true, hF, rfl, S.below⟩)

theorem c_rIsSet {h : FH} {w : World} (hs : Sub h w) (l : List Int) (al2 : Option Addr) (cl2 : Nat) (_q1 : RSl h al2 l) (_q2 : l.length ≤ cl2) (n_ : Int) (hp : pre_isSet l n_) : Calls Tryz.prog 26 #[.slice al2 l.length cl2, .int .i64 n_] w fun e w' => e = .returned (.bool (sp_isSet l n_)) ∧ Below w.heap.size w w' :=
  (w_rIsSet hs l al2 cl2 _q1 _q2 n_ (fun r => r = sp_isSet l n_) (ok_rIsSet l n_ hp)).mono fun _ _ ⟨_, hk, he, hb⟩ => ⟨by rw [he, hk], hb⟩

theorem w_meets1 {h : FH} {w : World} (hs : Sub h w) (x : Int) (x2 : List Int) (ax2 : Option Addr) (cx2 : Nat) (_q1 : RSl h ax2 x2) (_q2 : x2.length ≤ cx2) (px2 : Addr) (_q3 : CellsAt h px2 [.slice ax2 x2.length cx2]) (K : Bool → Prop) (hF : F_meets1 x x2 K) : Calls Tryz.prog 125 #[.int .i64 x, .pointer (some px2)] w fun e w' => ∃ r : Bool, K r ∧ e = .returned (.bool r) ∧ Below w.heap.size w w' := by
  refine enter (args := [.int .i64 x, .pointer (some px2)]) Tryz.func125 rfl Tryz.ntmps125 rfl hs ?_
  refine .seq ?_
  refine .region ?_
  refine .v (asg rfl) rfl rfl rfl ?_
  refine .nil ?_
  refine .seqN ?_
  refine .seq ?_
  refine .region ?_
  refine .v (ld1 (v := .slice ax2 x2.length cx2) rfl tO22 (cellH (CellsAt.mono (FH.le_refl _) _q3 0 _ rfl))) rfl rfl rfl ?_
  refine .v (mv rfl) rfl rfl rfl ?_
  obtain ⟨q4, hF⟩ := hF
  obtain ⟨r2, q5⟩ : ∃ y_ : Int × Bool, y_ = sp_bsearch x2 x := ⟨_, rfl⟩
  replace hF := hF r2 q5
  refine .c (cl (v := .tuple #[.int .i64 r2.1, .bool r2.2]) Tryz.call104 rfl rfl (fun w S => (by rw [q5]; exact c_bsearch S.sub x2 ax2 cx2 _q1 _q2 x q4))) rfl rfl rfl ?_
  refine .v (mv rfl) rfl rfl rfl ?_
  refine .v (ext rfl rfl) rfl rfl rfl ?_
  refine .v (ext rfl rfl) rfl rfl rfl ?_
  refine .v (asg rfl) rfl rfl rfl ?_
  refine .v (asg rfl) rfl rfl rfl ?_
  refine .nil ?_
  refine .seqN ?_
  refine .seq ?_
  refine .region ?_
  refine .v (mv rfl) rfl rfl rfl ?_
  refine .v (asg rfl) rfl rfl rfl ?_
  refine .nil ?_
  refine .seqN ?_
  refine .ret ?_
  refine .res1 rfl (rvT rfl) (fun w' S => ⟨r2.2, hF, rfl, S.below⟩)

theorem c_meets1 {h : FH} {w : World} (hs : Sub h w) (x : Int) (x2 : List Int) (ax2 : Option Addr) (cx2 : Nat) (_q1 : RSl h ax2 x2) (_q2 : x2.length ≤ cx2) (px2 : Addr) (_q3 : CellsAt h px2 [.slice ax2 x2.length cx2]) (hp : pre_meets1 x x2) : Calls Tryz.prog 125 #[.int .i64 x, .pointer (some px2)] w fun e w' => e = .returned (.bool (sp_meets1 x x2)) ∧ Below w.heap.size w w' :=
  (w_meets1 hs x x2 ax2 cx2 _q1 _q2 px2 _q3 (fun r => r = sp_meets1 x x2) (ok_meets1 x x2 hp)).mono fun _ _ ⟨_, hk, he, hb⟩ => ⟨by rw [he, hk], hb⟩

theorem w_meets {h : FH} {w : World} (hs : Sub h w) (a : List Int) (aa : Option Addr) (ca : Nat) (_q1 : RSl h aa a) (_q2 : a.length ≤ ca) (b : List Int) (ab : Option Addr) (cb : Nat) (_q3 : RSl h ab b) (_q4 : b.length ≤ cb) (K : Bool → Prop) (hF : F_meets a b K) : Calls Tryz.prog 115 #[.slice aa a.length ca, .slice ab b.length cb] w fun e w' => ∃ r : Bool, K r ∧ e = .returned (.bool r) ∧ Below w.heap.size w w' := by
  refine enter (args := [.slice aa a.length ca, .slice ab b.length cb]) Tryz.func115 rfl Tryz.ntmps115 rfl hs ?_
  refine .seq ?_
  refine .region ?_
  refine bx (vs := [.slice ab b.length cb]) rfl rfl rfl (fun pb => ?_)
  refine .v (asg rfl) rfl rfl rfl ?_
  refine .nil ?_
  refine .seqN ?_
  refine .seq ?_
  refine .region ?_
  refine .v (mv rfl) rfl rfl rfl ?_
  refine .v (mkf (vf := []) (vc := [.pointer (some pb)]) rfl rfl) rfl rfl rfl ?_
  obtain ⟨q5, hF⟩ := hF
  obtain ⟨r2, q6⟩ : ∃ y_ : Bool, y_ = sp_any a (fun y_ : Int => sp_meets1 y_ b) (fun y_ : Int => pre_meets1 y_ b) := ⟨_, rfl⟩
  replace hF := hF r2 q6
  refine .c (cl (v := .bool r2) Tryz.call124 rfl rfl (fun w S => (by rw [q6]; obtain ⟨h_, hl_, hs_, hb_⟩ := lookB S (k := 0) rfl; exact c_containsF hs_ a aa ca (RSl.mono hl_ _q1) _q2 (fun y_ : Int => sp_meets1 y_ b) (fun y_ : Int => pre_meets1 y_ b) 125 #[] #[.pointer (some pb)] Tryz.call125 (fun x w' hD hs' => c_meets1 hs' x b ab cb (RSl.mono hl_ _q3) _q4 pb hb_ hD) q5))) rfl rfl rfl ?_
  refine .v (asg rfl) rfl rfl rfl ?_
  refine .nil ?_
  refine .seqN ?_
  refine .ret ?_
  refine .res1 rfl (rvT rfl) (fun w' S => ⟨r2, hF, rfl, S.below⟩)

theorem c_meets {h : FH} {w : World} (hs : Sub h w) (a : List Int) (aa : Option Addr) (ca : Nat) (_q1 : RSl h aa a) (_q2 : a.length ≤ ca) (b : List Int) (ab : Option Addr) (cb : Nat) (_q3 : RSl h ab b) (_q4 : b.length ≤ cb) (hp : pre_meets a b) : Calls Tryz.prog 115 #[.slice aa a.length ca, .slice ab b.length cb] w fun e w' => e = .returned (.bool (sp_meets a b)) ∧ Below w.heap.size w w' :=
  (w_meets hs a aa ca _q1 _q2 b ab cb _q3 _q4 (fun r => r = sp_meets a b) (ok_meets a b hp)).mono fun _ _ ⟨_, hk, he, hb⟩ => ⟨by rw [he, hk], hb⟩

theorem w_disjoint {h : FH} {w : World} (hs : Sub h w) (a : List Int) (aa : Option Addr) (ca : Nat) (_q1 : RSl h aa a) (_q2 : a.length ≤ ca) (b : List Int) (ab : Option Addr) (cb : Nat) (_q3 : RSl h ab b) (_q4 : b.length ≤ cb) (K : Bool → Prop) (hF : F_disjoint a b K) : Calls Tryz.prog 89 #[.slice aa a.length ca, .slice ab b.length cb] w fun e w' => ∃ r : Bool, K r ∧ e = .returned (.bool r) ∧ Below w.heap.size w w' := by
  refine enter (args := [.slice aa a.length ca, .slice ab b.length cb]) Tryz.func89 rfl Tryz.ntmps89 rfl hs ?_
  refine .seq ?_
  refine .region ?_
  refine .v (asg rfl) rfl rfl rfl ?_
  refine .nil ?_
  refine .seqN ?_
  refine .seq ?_
  refine .seq ?_
  refine .region ?_
  refine .v (asg rfl) rfl rfl rfl ?_
  refine .nil ?_
  refine .seqN ?_
  refine .block ?_
  obtain ⟨I1, μ1, q77, q78⟩ := hF
  refine .loop' (σ := Int) (fun z => I1 z) (fun z => μ1 z) (fun z => [(0, .slice aa a.length ca), (1, .slice ab b.length cb), (5, .int .i64 z)]) (fun _ => []) (fun _ => h) 0 q77 (.cons rfl (.cons rfl (.cons rfl (.nil)))) rfl (FH.le_refl _) ?_
  rintro i q77
  have hF := q78 i q77
  show J _ _ _ _ _ [(0, .slice aa a.length ca), (1, .slice ab b.length cb), (5, .int .i64 i)] [] h
  refine .seq ?_
  refine .seq ?_
  refine .region ?_
  refine .v (mv rfl) rfl rfl rfl ?_
  refine .v (mv rfl) rfl rfl rfl ?_
  refine .v (ln rfl tS22.is) rfl rfl rfl ?_
  refine .v (bi rfl rfl rfl) rfl rfl rfl ?_
  refine .nil ?_
  refine .seqN ?_
  refine .cond rfl (fun q80 => ?_) (fun q80 => ?_)
  · replace hF := hF.1 q80
    refine .skip ?_
    refine .seqN ?_
    refine .seq ?_
    refine .block ?_
    refine .seq ?_
    refine .region ?_
    refine .v (mv rfl) rfl rfl rfl ?_
    refine .v (mv rfl) rfl rfl rfl ?_
    refine .v (mv rfl) rfl rfl rfl ?_
    obtain ⟨q89, hF⟩ := hF
    refine .v (ix rfl rfl tS22 (_q1.ne (by decide) (inb_pos q89)) q89) rfl rfl rfl ?_
    refine .v (ld1 (v := .int .i64 (gt a i)) rfl tO3 (cellH (_q1.elemF q89 (by decide) 0 _ rfl))) rfl rfl rfl ?_
    obtain ⟨q90, hF⟩ := hF
    obtain ⟨r2, q91⟩ : ∃ y_ : Bool, y_ = sp_has b (gt a i) := ⟨_, rfl⟩
    replace hF := hF r2 q91
    refine .c (cl (v := .bool r2) Tryz.call76 rfl rfl (fun w S => (by rw [q91]; exact c_has S.sub b ab cb _q3 _q4 (gt a i) q90))) rfl rfl rfl ?_
    refine .nil ?_
    refine .seqN ?_
    refine .cond rfl (fun q92 => ?_) (fun q92 => ?_)
    · replace hF := hF.1 q92
      refine .seq ?_
      refine .region ?_
      refine .v (asg rfl) rfl rfl rfl ?_
      refine .nil ?_
      refine .seqN ?_
      refine .ret ?_
      refine .blkR ?_
      refine .seqR ?_
      refine .seqR ?_
      refine .blkR ?_
      refine .seqR ?_
      refine .res1 rfl (rvT rfl) (fun w' S => ⟨false, hF, rfl, S.below⟩)
    replace hF := hF.2 q92
    refine .skip ?_
    refine .blkN ?_
    refine .seqN ?_
    refine .region ?_
    refine .v (mv rfl) rfl rfl rfl ?_
    refine .v (bi rfl rfl rfl) rfl rfl rfl ?_
    refine .v (asg rfl) rfl rfl rfl ?_
    refine .nil ?_
    exact .round (IntKind.i64.wrap (i + 1)) hF.1 hF.2 (.cons rfl (.cons rfl (.cons rfl (.nil)))) rfl (FH.le_refl _)
  replace hF := hF.2 q80
  refine .exit ?_
  refine .seqX ?_
  refine .seqX ?_
  refine .blkX ?_
  refine .seqN ?_
  refine .seq ?_
  refine .region ?_
  refine .v (asg rfl) rfl rfl rfl ?_
  refine .nil ?_
  refine .seqN ?_
  refine .ret ?_
  refine .res1 rfl (rvT rfl) (fun w' S => ⟨true, hF, rfl, S.below⟩)

theorem c_disjoint {h : FH} {w : World} (hs : Sub h w) (a : List Int) (aa : Option Addr) (ca : Nat) (_q1 : RSl h aa a) (_q2 : a.length ≤ ca) (b : List Int) (ab : Option Addr) (cb : Nat) (_q3 : RSl h ab b) (_q4 : b.length ≤ cb) (hp : pre_disjoint a b) : Calls Tryz.prog 89 #[.slice aa a.length ca, .slice ab b.length cb] w fun e w' => e = .returned (.bool (sp_disjoint a b)) ∧ Below w.heap.size w w' :=
  (w_disjoint hs a aa ca _q1 _q2 b ab cb _q3 _q4 (fun r => r = sp_disjoint a b) (ok_disjoint a b hp)).mono fun _ _ ⟨_, hk, he, hb⟩ => ⟨by rw [he, hk], hb⟩

set_option maxHeartbeats 8000000 in
theorem w_operator {h : FH} {w : World} (hs : Sub h w) (o : Operator) (ao : Option Addr) (co : Nat) (_q1 : RSl h ao o.pre) (_q2 : o.pre.length ≤ co) (ao2 : Option Addr) (co2 : Nat) (_q3 : RSl h ao2 o.add) (_q4 : o.add.length ≤ co2) (ao3 : Option Addr) (co3 : Nat) (_q5 : RSl h ao3 o.del) (_q6 : o.del.length ≤ co3) (facts : Int) (K : Int → Prop) (hF : F_operator o facts K) : Calls Tryz.prog 102 #[.agg #[.slice ao o.pre.length co, .slice ao2 o.add.length co2, .slice ao3 o.del.length co3, .int .i64 o.cost], .int .i64 facts] w fun e w' => ∃ r : Int, K r ∧ e = .returned (.int .i64 r) ∧ Below w.heap.size w w' := by
  refine enter (args := [.agg #[.slice ao o.pre.length co, .slice ao2 o.add.length co2, .slice ao3 o.del.length co3, .int .i64 o.cost], .int .i64 facts]) Tryz.func102 rfl Tryz.ntmps102 rfl hs ?_
  refine .seq ?_
  refine .region ?_
  refine bx (vs := [.slice ao o.pre.length co, .slice ao2 o.add.length co2, .slice ao3 o.del.length co3, .int .i64 o.cost]) rfl rfl rfl (fun po => ?_)
  refine .v (asg rfl) rfl rfl rfl ?_
  refine .nil ?_
  refine .seqN ?_
  refine .seq ?_
  refine .block ?_
  refine .share (σ := Bool) (fun z => F_operator_J1 o K z) (fun z => [(2, .pointer (some po)), (5, .bool z)]) (fun _ => [Box po [.slice ao o.pre.length co, .slice ao2 o.add.length co2, .slice ao3 o.del.length co3, .int .i64 o.cost]]) (fun _ => h) ?_ (fun q74 => ?_)
  · rintro t5 hF
    show J _ _ _ _ _ [(2, .pointer (some po)), (5, .bool t5)] [Box po [.slice ao o.pre.length co, .slice ao2 o.add.length co2, .slice ao3 o.del.length co3, .int .i64 o.cost]] h
    refine .cond rfl (fun q75 => ?_) (fun q75 => ?_)
    · replace hF := hF.1 q75
      refine .seq ?_
      refine .region ?_
      refine .v (asg rfl) rfl rfl rfl ?_
      refine .nil ?_
      refine .seqN ?_
      refine .ret ?_
      refine .blkR ?_
      refine .seqR ?_
      refine .res1 rfl (rvT rfl) (fun w' S => ⟨5, hF, rfl, S.below⟩)
    replace hF := hF.2 q75
    refine .share (σ := Bool) (fun z => F_operator_J2 K z) (fun z => [(32, .bool z)]) (fun _ => []) (fun _ => h) ?_ (fun q77 => ?_)
    · rintro t32 hF
      show J _ _ _ _ _ [(32, .bool t32)] [] h
      refine .cond rfl (fun q78 => ?_) (fun q78 => ?_)
      · replace hF := hF.1 q78
        refine .seq ?_
        refine .region ?_
        refine .v (asg rfl) rfl rfl rfl ?_
        refine .nil ?_
        refine .seqN ?_
        refine .ret ?_
        refine .blkR ?_
        refine .seqR ?_
        refine .res1 rfl (rvT rfl) (fun w' S => ⟨3, hF, rfl, S.below⟩)
      replace hF := hF.2 q78
      refine .skip ?_
      refine .blkN ?_
      refine .seqN ?_
      refine .seq ?_
      refine .region ?_
      refine .v (asg rfl) rfl rfl rfl ?_
      refine .nil ?_
      refine .seqN ?_
      refine .ret ?_
      refine .res1 rfl (rvT rfl) (fun w' S => ⟨0, hF, rfl, S.below⟩)
    refine .region ?_
    refine .v (fa rfl tF54_3) rfl rfl rfl ?_
    refine .v (ld1 rfl tO3 (cellB (off := 3) (k := 0) rfl rfl)) rfl rfl rfl ?_
    refine .v (bi rfl rfl rfl) rfl rfl rfl ?_
    refine .v (mv rfl) rfl rfl rfl ?_
    rcases Bool.eq_false_or_eq_true (decide (o.cost < 0)) with q79 | q79
    · replace hF := hF.1 q79
      refine .gS rfl rfl rfl q79 rfl rfl ?_
      refine .gS rfl rfl rfl q79 rfl rfl ?_
      refine .gS rfl rfl rfl q79 rfl rfl ?_
      refine .v (pkT rfl q79 rfl) rfl rfl rfl ?_
      refine .v (asg rfl) rfl rfl rfl ?_
      refine .nil ?_
      refine .sel0 [] (by decide) rfl ?_
      exact .use q77 true hF (.cons rfl (.nil)) rfl (FH.le_refl _)
    replace hF := hF.2 q79
    refine .gv (fa rfl tF54_3) rfl rfl rfl q79 rfl rfl ?_
    refine .gv (ld1 rfl tO3 (cellB (off := 3) (k := 0) rfl rfl)) rfl rfl rfl q79 rfl rfl ?_
    refine .gv (bi rfl rfl rfl) rfl rfl rfl q79 rfl rfl ?_
    refine .v (pkF rfl q79 rfl) rfl rfl rfl ?_
    refine .v (asg rfl) rfl rfl rfl ?_
    refine .nil ?_
    refine .sel0 [] (by decide) rfl ?_
    exact .use q77 (decide (100 < o.cost)) hF (.cons rfl (.nil)) rfl (FH.le_refl _)
  refine .region ?_
  refine .v (fa rfl tF54_0) rfl rfl rfl ?_
  refine .v (ld1 rfl tO22 (cellB (off := 0) (k := 0) rfl rfl)) rfl rfl rfl ?_
  refine .v (mv rfl) rfl rfl rfl ?_
  obtain ⟨q80, hF⟩ := hF
  obtain ⟨r2, q81⟩ : ∃ y_ : Bool, y_ = sp_isSet o.pre facts := ⟨_, rfl⟩
  replace hF := hF r2 q81
  refine .c (cl (v := .bool r2) Tryz.call61 rfl rfl (fun w S => (by rw [q81]; exact c_isSet S.sub o.pre ao co _q1 _q2 facts q80))) rfl rfl rfl ?_
  refine .v (nt rfl) rfl rfl rfl ?_
  refine .v (mv rfl) rfl rfl rfl ?_
  rcases Bool.eq_false_or_eq_true (!r2) with q82 | q82
  · replace hF := hF.1 q82
    refine .gS rfl rfl rfl q82 rfl rfl ?_
    refine .gS rfl rfl rfl q82 rfl rfl ?_
    refine .gS rfl rfl rfl q82 rfl rfl ?_
    refine .gS rfl rfl rfl q82 rfl rfl ?_
    refine .gS rfl rfl rfl q82 rfl rfl ?_
    refine .v (pkT rfl q82 rfl) rfl rfl rfl ?_
    refine .v (mv rfl) rfl rfl rfl ?_
    refine .gS rfl rfl rfl rfl rfl rfl ?_
    refine .gS rfl rfl rfl rfl rfl rfl ?_
    refine .gS rfl rfl rfl rfl rfl rfl ?_
    refine .gS rfl rfl rfl rfl rfl rfl ?_
    refine .gS rfl rfl rfl rfl rfl rfl ?_
    refine .v (pkT rfl rfl rfl) rfl rfl rfl ?_
    refine .v (mv rfl) rfl rfl rfl ?_
    refine .gS rfl rfl rfl rfl rfl rfl ?_
    refine .gS rfl rfl rfl rfl rfl rfl ?_
    refine .gS rfl rfl rfl rfl rfl rfl ?_
    refine .gS rfl rfl rfl rfl rfl rfl ?_
    refine .gS rfl rfl rfl rfl rfl rfl ?_
    refine .v (pkT rfl rfl rfl) rfl rfl rfl ?_
    refine .v (asg rfl) rfl rfl rfl ?_
    refine .nil ?_
    exact .use q74 true hF (.cons rfl (.cons rfl (.nil))) rfl (FH.le_refl _)
  replace hF := hF.2 q82
  refine .gv (fa rfl tF54_1) rfl rfl rfl q82 rfl rfl ?_
  refine .gv (ld1 rfl tO22 (cellB (off := 1) (k := 0) rfl rfl)) rfl rfl rfl q82 rfl rfl ?_
  refine .gv (mv rfl) rfl rfl rfl q82 rfl rfl ?_
  obtain ⟨q83, hF⟩ := hF
  obtain ⟨r3, q84⟩ : ∃ y_ : Bool, y_ = sp_isSet o.add facts := ⟨_, rfl⟩
  replace hF := hF r3 q84
  refine .gc (cl (v := .bool r3) Tryz.call61 rfl rfl (fun w S => (by rw [q84]; exact c_isSet S.sub o.add ao2 co2 _q3 _q4 facts q83))) rfl rfl rfl q82 rfl rfl ?_
  refine .gv (nt rfl) rfl rfl rfl q82 rfl rfl ?_
  refine .v (pkF rfl q82 rfl) rfl rfl rfl ?_
  refine .v (mv rfl) rfl rfl rfl ?_
  rcases Bool.eq_false_or_eq_true (!r3) with q85 | q85
  · replace hF := hF.1 q85
    refine .gS rfl rfl rfl q85 rfl rfl ?_
    refine .gS rfl rfl rfl q85 rfl rfl ?_
    refine .gS rfl rfl rfl q85 rfl rfl ?_
    refine .gS rfl rfl rfl q85 rfl rfl ?_
    refine .gS rfl rfl rfl q85 rfl rfl ?_
    refine .v (pkT rfl q85 rfl) rfl rfl rfl ?_
    refine .v (mv rfl) rfl rfl rfl ?_
    refine .gS rfl rfl rfl rfl rfl rfl ?_
    refine .gS rfl rfl rfl rfl rfl rfl ?_
    refine .gS rfl rfl rfl rfl rfl rfl ?_
    refine .gS rfl rfl rfl rfl rfl rfl ?_
    refine .gS rfl rfl rfl rfl rfl rfl ?_
    refine .v (pkT rfl rfl rfl) rfl rfl rfl ?_
    refine .v (asg rfl) rfl rfl rfl ?_
    refine .nil ?_
    exact .use q74 true hF (.cons rfl (.cons rfl (.nil))) rfl (FH.le_refl _)
  replace hF := hF.2 q85
  refine .gv (fa rfl tF54_2) rfl rfl rfl q85 rfl rfl ?_
  refine .gv (ld1 rfl tO22 (cellB (off := 2) (k := 0) rfl rfl)) rfl rfl rfl q85 rfl rfl ?_
  refine .gv (mv rfl) rfl rfl rfl q85 rfl rfl ?_
  obtain ⟨q86, hF⟩ := hF
  obtain ⟨r4, q87⟩ : ∃ y_ : Bool, y_ = sp_isSet o.del facts := ⟨_, rfl⟩
  replace hF := hF r4 q87
  refine .gc (cl (v := .bool r4) Tryz.call61 rfl rfl (fun w S => (by rw [q87]; exact c_isSet S.sub o.del ao3 co3 _q5 _q6 facts q86))) rfl rfl rfl q85 rfl rfl ?_
  refine .gv (nt rfl) rfl rfl rfl q85 rfl rfl ?_
  refine .v (pkF rfl q85 rfl) rfl rfl rfl ?_
  refine .v (mv rfl) rfl rfl rfl ?_
  rcases Bool.eq_false_or_eq_true (!r4) with q88 | q88
  · replace hF := hF.1 q88
    refine .gS rfl rfl rfl q88 rfl rfl ?_
    refine .gS rfl rfl rfl q88 rfl rfl ?_
    refine .gS rfl rfl rfl q88 rfl rfl ?_
    refine .gS rfl rfl rfl q88 rfl rfl ?_
    refine .gS rfl rfl rfl q88 rfl rfl ?_
    refine .v (pkT rfl q88 rfl) rfl rfl rfl ?_
    refine .v (asg rfl) rfl rfl rfl ?_
    refine .nil ?_
    exact .use q74 true hF (.cons rfl (.cons rfl (.nil))) rfl (FH.le_refl _)
  replace hF := hF.2 q88
  refine .gv (fa rfl tF54_1) rfl rfl rfl q88 rfl rfl ?_
  refine .gv (ld1 rfl tO22 (cellB (off := 1) (k := 0) rfl rfl)) rfl rfl rfl q88 rfl rfl ?_
  refine .gv (fa rfl tF54_2) rfl rfl rfl q88 rfl rfl ?_
  refine .gv (ld1 rfl tO22 (cellB (off := 2) (k := 0) rfl rfl)) rfl rfl rfl q88 rfl rfl ?_
  obtain ⟨q89, hF⟩ := hF
  obtain ⟨r5, q90⟩ : ∃ y_ : Bool, y_ = sp_meets o.add o.del := ⟨_, rfl⟩
  replace hF := hF r5 q90
  refine .gc (cl (v := .bool r5) Tryz.call115 rfl rfl (fun w S => (by rw [q90]; exact c_meets S.sub o.add ao2 co2 _q3 _q4 o.del ao3 co3 _q5 _q6 q89))) rfl rfl rfl q88 rfl rfl ?_
  refine .v (pkF rfl q88 rfl) rfl rfl rfl ?_
  refine .v (asg rfl) rfl rfl rfl ?_
  refine .nil ?_
  exact .use q74 r5 hF (.cons rfl (.cons rfl (.nil))) rfl (FH.le_refl _)

theorem c_operator {h : FH} {w : World} (hs : Sub h w) (o : Operator) (ao : Option Addr) (co : Nat) (_q1 : RSl h ao o.pre) (_q2 : o.pre.length ≤ co) (ao2 : Option Addr) (co2 : Nat) (_q3 : RSl h ao2 o.add) (_q4 : o.add.length ≤ co2) (ao3 : Option Addr) (co3 : Nat) (_q5 : RSl h ao3 o.del) (_q6 : o.del.length ≤ co3) (facts : Int) (hp : pre_operator o facts) : Calls Tryz.prog 102 #[.agg #[.slice ao o.pre.length co, .slice ao2 o.add.length co2, .slice ao3 o.del.length co3, .int .i64 o.cost], .int .i64 facts] w fun e w' => e = .returned (.int .i64 (sp_operator o facts)) ∧ Below w.heap.size w w' :=
  (w_operator hs o ao co _q1 _q2 ao2 co2 _q3 _q4 ao3 co3 _q5 _q6 facts (fun r => r = sp_operator o facts) (ok_operator o facts hp)).mono fun _ _ ⟨_, hk, he, hb⟩ => ⟨by rw [he, hk], hb⟩

set_option maxHeartbeats 8000000 in
theorem w_validate {h : FH} {w : World} (hs : Sub h w) (t : Task) (at_ : Option Addr) (ct : Nat) (_q1 : RSl h at_ t.init) (_q2 : t.init.length ≤ ct) (at_2 : Option Addr) (ct2 : Nat) (_q3 : RSl h at_2 t.goal) (_q4 : t.goal.length ≤ ct2) (at_3 : Option Addr) (ct3 : Nat) (_q5 : RSl h at_3 t.ops) (_q6 : t.ops.length ≤ ct3) (K : Fault → Prop) (hF : F_validate t K) : Calls Tryz.prog 79 #[.agg #[.int .i64 t.facts, .slice at_ t.init.length ct, .slice at_2 t.goal.length ct2, .slice at_3 t.ops.length ct3]] w fun e w' => ∃ r : Fault, K r ∧ e = .returned (.agg #[.int .i64 r.code, .int .i64 r.index]) ∧ Below w.heap.size w w' := by
  refine enter (args := [.agg #[.int .i64 t.facts, .slice at_ t.init.length ct, .slice at_2 t.goal.length ct2, .slice at_3 t.ops.length ct3]]) Tryz.func79 rfl Tryz.ntmps79 rfl hs ?_
  refine .seq ?_
  refine .region ?_
  refine bx (vs := [.int .i64 t.facts, .slice at_ t.init.length ct, .slice at_2 t.goal.length ct2, .slice at_3 t.ops.length ct3]) rfl rfl rfl (fun pt => ?_)
  refine al tZ27 rfl (fun pv => ?_)
  refine .nil ?_
  refine .seqN ?_
  refine .seq ?_
  refine .block ?_
  refine .share (σ := Bool) (fun z => F_validate_J1 t K z) (fun z => [(1, .pointer (some pt)), (2, .pointer (some pv)), (6, .bool z)]) (fun _ => [Box pt [.int .i64 t.facts, .slice at_ t.init.length ct, .slice at_2 t.goal.length ct2, .slice at_3 t.ops.length ct3], Box pv [.int .i64 0, .int .i64 0]]) (fun _ => h) ?_ (fun q30 => ?_)
  · rintro t6 hF
    show J _ _ _ _ _ [(1, .pointer (some pt)), (2, .pointer (some pv)), (6, .bool t6)] [Box pt [.int .i64 t.facts, .slice at_ t.init.length ct, .slice at_2 t.goal.length ct2, .slice at_3 t.ops.length ct3], Box pv [.int .i64 0, .int .i64 0]] h
    refine .cond rfl (fun q31 => ?_) (fun q31 => ?_)
    · replace hF := hF.1 q31
      refine .seq ?_
      refine .region ?_
      refine .v (bld (cs := #[.int .i64 3, .int .i64 (-1)]) (pv := [(0, .int .i64 3), (1, .int .i64 (-1))]) tB27 rfl rfl) rfl rfl rfl ?_
      refine st (p := pv) (off := 0) (k := 1) (vs := [.int .i64 3, .int .i64 (-1)]) rfl rfl rfl (fun w => (tA27 w).2) rfl rfl rfl rfl ?_
      refine .cast (A' := [Box pt [.int .i64 t.facts, .slice at_ t.init.length ct, .slice at_2 t.goal.length ct2, .slice at_3 t.ops.length ct3], Box pv [.int .i64 3, .int .i64 (-1)]]) rfl ?_
      refine .nil ?_
      refine .seqN ?_
      refine .ret ?_
      refine .blkR ?_
      refine .seqR ?_
      refine .res1 rfl (rvC rfl tA27 (k := 1) rfl rfl) (fun w' S => ⟨(⟨3, (-1)⟩ : Fault), hF, rfl, S.below⟩)
    replace hF := hF.2 q31
    refine .seq ?_
    refine .region ?_
    refine .v (fa rfl tF25_1) rfl rfl rfl ?_
    refine .v (ld1 rfl tO22 (cellB (off := 1) (k := 0) rfl rfl)) rfl rfl rfl ?_
    refine .v (fa rfl tF25_0) rfl rfl rfl ?_
    refine .v (ld1 rfl tO3 (cellB (off := 0) (k := 0) rfl rfl)) rfl rfl rfl ?_
    obtain ⟨q32, hF⟩ := hF
    obtain ⟨r2, q33⟩ : ∃ y_ : Bool, y_ = sp_isSet t.init t.facts := ⟨_, rfl⟩
    replace hF := hF r2 q33
    refine .c (cl (v := .bool r2) Tryz.call61 rfl rfl (fun w S => (by rw [q33]; exact c_isSet S.sub t.init at_ ct _q1 _q2 t.facts q32))) rfl rfl rfl ?_
    refine .v (nt rfl) rfl rfl rfl ?_
    refine .v (asg rfl) rfl rfl rfl ?_
    refine .nil ?_
    refine .seqN ?_
    refine .cond rfl (fun q34 => ?_) (fun q34 => ?_)
    · replace hF := hF.1 q34
      refine .seq ?_
      refine .region ?_
      refine .v (bld (cs := #[.int .i64 5, .int .i64 (-2)]) (pv := [(0, .int .i64 5), (1, .int .i64 (-2))]) tB27 rfl rfl) rfl rfl rfl ?_
      refine st (p := pv) (off := 0) (k := 1) (vs := [.int .i64 5, .int .i64 (-2)]) rfl rfl rfl (fun w => (tA27 w).2) rfl rfl rfl rfl ?_
      refine .cast (A' := [Box pt [.int .i64 t.facts, .slice at_ t.init.length ct, .slice at_2 t.goal.length ct2, .slice at_3 t.ops.length ct3], Box pv [.int .i64 5, .int .i64 (-2)]]) rfl ?_
      refine .nil ?_
      refine .seqN ?_
      refine .ret ?_
      refine .blkR ?_
      refine .seqR ?_
      refine .res1 rfl (rvC rfl tA27 (k := 1) rfl rfl) (fun w' S => ⟨(⟨5, (-2)⟩ : Fault), hF, rfl, S.below⟩)
    replace hF := hF.2 q34
    refine .seq ?_
    refine .region ?_
    refine .v (fa rfl tF25_2) rfl rfl rfl ?_
    refine .v (ld1 rfl tO22 (cellB (off := 2) (k := 0) rfl rfl)) rfl rfl rfl ?_
    refine .v (fa rfl tF25_0) rfl rfl rfl ?_
    refine .v (ld1 rfl tO3 (cellB (off := 0) (k := 0) rfl rfl)) rfl rfl rfl ?_
    obtain ⟨q35, hF⟩ := hF
    obtain ⟨r3, q36⟩ : ∃ y_ : Bool, y_ = sp_isSet t.goal t.facts := ⟨_, rfl⟩
    replace hF := hF r3 q36
    refine .c (cl (v := .bool r3) Tryz.call61 rfl rfl (fun w S => (by rw [q36]; exact c_isSet S.sub t.goal at_2 ct2 _q3 _q4 t.facts q35))) rfl rfl rfl ?_
    refine .v (nt rfl) rfl rfl rfl ?_
    refine .v (asg rfl) rfl rfl rfl ?_
    refine .nil ?_
    refine .seqN ?_
    refine .cond rfl (fun q37 => ?_) (fun q37 => ?_)
    · replace hF := hF.1 q37
      refine .seq ?_
      refine .region ?_
      refine .v (bld (cs := #[.int .i64 5, .int .i64 (-3)]) (pv := [(0, .int .i64 5), (1, .int .i64 (-3))]) tB27 rfl rfl) rfl rfl rfl ?_
      refine st (p := pv) (off := 0) (k := 1) (vs := [.int .i64 5, .int .i64 (-3)]) rfl rfl rfl (fun w => (tA27 w).2) rfl rfl rfl rfl ?_
      refine .cast (A' := [Box pt [.int .i64 t.facts, .slice at_ t.init.length ct, .slice at_2 t.goal.length ct2, .slice at_3 t.ops.length ct3], Box pv [.int .i64 5, .int .i64 (-3)]]) rfl ?_
      refine .nil ?_
      refine .seqN ?_
      refine .ret ?_
      refine .blkR ?_
      refine .seqR ?_
      refine .res1 rfl (rvC rfl tA27 (k := 1) rfl rfl) (fun w' S => ⟨(⟨5, (-3)⟩ : Fault), hF, rfl, S.below⟩)
    replace hF := hF.2 q37
    refine .seq ?_
    refine .region ?_
    refine .v (fa rfl tF25_3) rfl rfl rfl ?_
    refine .v (ld1 rfl tO23 (cellB (off := 3) (k := 0) rfl rfl)) rfl rfl rfl ?_
    refine .v (ln rfl tS23.is) rfl rfl rfl ?_
    refine .v (bi rfl rfl rfl) rfl rfl rfl ?_
    refine .v (asg rfl) rfl rfl rfl ?_
    refine .nil ?_
    refine .seqN ?_
    refine .cond rfl (fun q38 => ?_) (fun q38 => ?_)
    · replace hF := hF.1 q38
      refine .seq ?_
      refine .region ?_
      refine .v (bld (cs := #[.int .i64 2, .int .i64 (-1)]) (pv := [(0, .int .i64 2), (1, .int .i64 (-1))]) tB27 rfl rfl) rfl rfl rfl ?_
      refine st (p := pv) (off := 0) (k := 1) (vs := [.int .i64 2, .int .i64 (-1)]) rfl rfl rfl (fun w => (tA27 w).2) rfl rfl rfl rfl ?_
      refine .cast (A' := [Box pt [.int .i64 t.facts, .slice at_ t.init.length ct, .slice at_2 t.goal.length ct2, .slice at_3 t.ops.length ct3], Box pv [.int .i64 2, .int .i64 (-1)]]) rfl ?_
      refine .nil ?_
      refine .seqN ?_
      refine .ret ?_
      refine .blkR ?_
      refine .seqR ?_
      refine .res1 rfl (rvC rfl tA27 (k := 1) rfl rfl) (fun w' S => ⟨(⟨2, (-1)⟩ : Fault), hF, rfl, S.below⟩)
    replace hF := hF.2 q38
    refine .skip ?_
    refine .blkN ?_
    refine .seqN ?_
    refine .seq ?_
    refine .seq ?_
    refine .region ?_
    refine .v (fa rfl tF25_3) rfl rfl rfl ?_
    refine .v (ld1 rfl tO23 (cellB (off := 3) (k := 0) rfl rfl)) rfl rfl rfl ?_
    refine .v (ln rfl tS23.is) rfl rfl rfl ?_
    refine .v (mv rfl) rfl rfl rfl ?_
    refine .nil ?_
    refine .seqN ?_
    refine .block ?_
    obtain ⟨I1, μ1, q221, q222⟩ := hF
    refine .loop' (σ := Int) (fun z => I1 z) (fun z => μ1 z) (fun z => [(1, .pointer (some pt)), (2, .pointer (some pv)), (39, .slice at_3 t.ops.length ct3), (40, .int .i64 ((t.ops.length : Nat) : Int)), (41, .int .i64 z)]) (fun _ => [Box pt [.int .i64 t.facts, .slice at_ t.init.length ct, .slice at_2 t.goal.length ct2, .slice at_3 t.ops.length ct3], Box pv [.int .i64 0, .int .i64 0]]) (fun _ => h) 0 q221 (.cons rfl (.cons rfl (.cons rfl (.cons rfl (.cons rfl (.nil)))))) rfl (FH.le_refl _) ?_
    rintro t41 q221
    have hF := q222 t41 q221
    show J _ _ _ _ _ [(1, .pointer (some pt)), (2, .pointer (some pv)), (39, .slice at_3 t.ops.length ct3), (40, .int .i64 ((t.ops.length : Nat) : Int)), (41, .int .i64 t41)] [Box pt [.int .i64 t.facts, .slice at_ t.init.length ct, .slice at_2 t.goal.length ct2, .slice at_3 t.ops.length ct3], Box pv [.int .i64 0, .int .i64 0]] h
    refine .seq ?_
    refine .region ?_
    refine .v (bi rfl rfl rfl) rfl rfl rfl ?_
    refine .nil ?_
    refine .seqN ?_
    refine .seq ?_
    refine .cond rfl (fun q225 => ?_) (fun q225 => ?_)
    · replace hF := hF.1 q225
      refine .skip ?_
      refine .seqN ?_
      refine .seq ?_
      refine .block ?_
      refine .seq ?_
      refine .region ?_
      refine .v (mv rfl) rfl rfl rfl ?_
      obtain ⟨q248, hF⟩ := hF
      refine .v (ix rfl rfl tS23 (_q5.ne (by decide) (inb_pos q248)) q248) rfl rfl rfl ?_
      obtain ⟨_, ⟨a, c, a2, c2, a3, c3, rfl, ⟨q249, q250⟩, ⟨q251, q252⟩, q253, q254⟩, q255⟩ := _q5.elem q248
      refine .v (ldA (cs := [.slice a ((gt t.ops t41).pre.length) c, .slice a2 ((gt t.ops t41).add.length) c2, .slice a3 ((gt t.ops t41).del.length) c3, .int .i64 ((gt t.ops t41).cost)]) rfl tA54 rfl (cellsH (q255 (by decide)))) rfl rfl rfl ?_
      refine al tZ54 rfl (fun po => ?_)
      refine .v (asg rfl) rfl rfl rfl ?_
      refine st (p := po) (off := 0) (k := 0) (vs := [.slice a ((gt t.ops t41).pre.length) c, .slice a2 ((gt t.ops t41).add.length) c2, .slice a3 ((gt t.ops t41).del.length) c3, .int .i64 ((gt t.ops t41).cost)]) rfl rfl rfl (fun w => (tA54 w).2) rfl rfl rfl rfl ?_
      refine .cast (A' := [Box po [.slice a ((gt t.ops t41).pre.length) c, .slice a2 ((gt t.ops t41).add.length) c2, .slice a3 ((gt t.ops t41).del.length) c3, .int .i64 ((gt t.ops t41).cost)], Box pt [.int .i64 t.facts, .slice at_ t.init.length ct, .slice at_2 t.goal.length ct2, .slice at_3 t.ops.length ct3], Box pv [.int .i64 0, .int .i64 0]]) rfl ?_
      refine .nil ?_
      refine .seqN ?_
      refine .seq ?_
      refine .region ?_
      refine .v (ldA (cs := [.slice a ((gt t.ops t41).pre.length) c, .slice a2 ((gt t.ops t41).add.length) c2, .slice a3 ((gt t.ops t41).del.length) c3, .int .i64 ((gt t.ops t41).cost)]) rfl tA54 rfl (cellsB (off := 0) (k := 0) rfl (m := 4) rfl)) rfl rfl rfl ?_
      refine .v (fa rfl tF25_0) rfl rfl rfl ?_
      refine .v (ld1 rfl tO3 (cellB (off := 0) (k := 1) rfl rfl)) rfl rfl rfl ?_
      obtain ⟨q256, hF⟩ := hF
      obtain ⟨r4, q257⟩ : ∃ y_ : Int, y_ = sp_operator (gt t.ops t41) t.facts := ⟨_, rfl⟩
      replace hF := hF r4 q257
      refine .c (cl (v := .int .i64 r4) Tryz.call102 rfl rfl (fun w S => (by rw [q257]; exact c_operator S.sub (gt t.ops t41) a c q250 q249 a2 c2 q252 q251 a3 c3 q254 q253 t.facts q256))) rfl rfl rfl ?_
      refine .v (asg rfl) rfl rfl rfl ?_
      refine .nil ?_
      refine .seqN ?_
      refine .seq ?_
      refine .region ?_
      refine .v (mv rfl) rfl rfl rfl ?_
      refine .v (bi rfl rfl rfl) rfl rfl rfl ?_
      refine .nil ?_
      refine .seqN ?_
      refine .cond rfl (fun q258 => ?_) (fun q258 => ?_)
      · replace hF := hF.1 q258
        refine .seq ?_
        refine .region ?_
        refine .v (mv rfl) rfl rfl rfl ?_
        refine .v (mv rfl) rfl rfl rfl ?_
        refine .v (bld (cs := #[.int .i64 r4, .int .i64 t41]) (pv := [(0, .int .i64 r4), (1, .int .i64 t41)]) tB27 rfl rfl) rfl rfl rfl ?_
        refine st (p := pv) (off := 0) (k := 2) (vs := [.int .i64 r4, .int .i64 t41]) rfl rfl rfl (fun w => (tA27 w).2) rfl rfl rfl rfl ?_
        refine .cast (A' := [Box po [.slice a ((gt t.ops t41).pre.length) c, .slice a2 ((gt t.ops t41).add.length) c2, .slice a3 ((gt t.ops t41).del.length) c3, .int .i64 ((gt t.ops t41).cost)], Box pt [.int .i64 t.facts, .slice at_ t.init.length ct, .slice at_2 t.goal.length ct2, .slice at_3 t.ops.length ct3], Box pv [.int .i64 r4, .int .i64 t41]]) rfl ?_
        refine .nil ?_
        refine .seqN ?_
        refine .ret ?_
        refine .blkR ?_
        refine .seqR ?_
        refine .seqR ?_
        refine .blkR ?_
        refine .seqR ?_
        refine .res1 rfl (rvC rfl tA27 (k := 2) rfl rfl) (fun w' S => ⟨(⟨r4, t41⟩ : Fault), hF, rfl, S.below⟩)
      replace hF := hF.2 q258
      refine .skip ?_
      refine .blkN ?_
      refine .seqN ?_
      refine .region ?_
      refine .v (bi rfl rfl rfl) rfl rfl rfl ?_
      refine .v (mv rfl) rfl rfl rfl ?_
      refine .nil ?_
      refine .sel0 [1, 2] (by decide) rfl ?_
      exact .round (IntKind.i64.wrap (t41 + 1)) hF.1 hF.2 (.cons rfl (.cons rfl (.cons rfl (.cons rfl (.cons rfl (.nil)))))) rfl (FH.le_refl _)
    replace hF := hF.2 q225
    refine .exit ?_
    refine .seqX ?_
    refine .seqX ?_
    refine .blkX ?_
    refine .seqN ?_
    refine .seq ?_
    refine .region ?_
    refine .v (bld (cs := #[.int .i64 0, .int .i64 0]) (pv := []) tB27 rfl rfl) rfl rfl rfl ?_
    refine st (p := pv) (off := 0) (k := 1) (vs := [.int .i64 0, .int .i64 0]) rfl rfl rfl (fun w => (tA27 w).2) rfl rfl rfl rfl ?_
    refine .cast (A' := [Box pt [.int .i64 t.facts, .slice at_ t.init.length ct, .slice at_2 t.goal.length ct2, .slice at_3 t.ops.length ct3], Box pv [.int .i64 0, .int .i64 0]]) rfl ?_
    refine .nil ?_
    refine .seqN ?_
    refine .ret ?_
    refine .res1 rfl (rvC rfl tA27 (k := 1) rfl rfl) (fun w' S => ⟨(⟨0, 0⟩ : Fault), hF, rfl, S.below⟩)
  refine .region ?_
  refine .v (fa rfl tF25_0) rfl rfl rfl ?_
  refine .v (ld1 rfl tO3 (cellB (off := 0) (k := 1) rfl rfl)) rfl rfl rfl ?_
  refine .v (bi rfl rfl rfl) rfl rfl rfl ?_
  refine .v (mv rfl) rfl rfl rfl ?_
  rcases Bool.eq_false_or_eq_true (decide (t.facts < 0)) with q259 | q259
  · replace hF := hF.1 q259
    refine .gS rfl rfl rfl q259 rfl rfl ?_
    refine .gS rfl rfl rfl q259 rfl rfl ?_
    refine .gS rfl rfl rfl q259 rfl rfl ?_
    refine .v (pkT rfl q259 rfl) rfl rfl rfl ?_
    refine .v (asg rfl) rfl rfl rfl ?_
    refine .nil ?_
    refine .sel0 [1, 0] (by decide) rfl ?_
    exact .use q30 true hF (.cons rfl (.cons rfl (.cons rfl (.nil)))) rfl (FH.le_refl _)
  replace hF := hF.2 q259
  refine .gv (fa rfl tF25_0) rfl rfl rfl q259 rfl rfl ?_
  refine .gv (ld1 rfl tO3 (cellB (off := 0) (k := 1) rfl rfl)) rfl rfl rfl q259 rfl rfl ?_
  refine .gv (bi rfl rfl rfl) rfl rfl rfl q259 rfl rfl ?_
  refine .v (pkF rfl q259 rfl) rfl rfl rfl ?_
  refine .v (asg rfl) rfl rfl rfl ?_
  refine .nil ?_
  refine .sel0 [1, 0] (by decide) rfl ?_
  exact .use q30 (decide (24 < t.facts)) hF (.cons rfl (.cons rfl (.cons rfl (.nil)))) rfl (FH.le_refl _)

theorem c_validate {h : FH} {w : World} (hs : Sub h w) (t : Task) (at_ : Option Addr) (ct : Nat) (_q1 : RSl h at_ t.init) (_q2 : t.init.length ≤ ct) (at_2 : Option Addr) (ct2 : Nat) (_q3 : RSl h at_2 t.goal) (_q4 : t.goal.length ≤ ct2) (at_3 : Option Addr) (ct3 : Nat) (_q5 : RSl h at_3 t.ops) (_q6 : t.ops.length ≤ ct3) : Calls Tryz.prog 79 #[.agg #[.int .i64 t.facts, .slice at_ t.init.length ct, .slice at_2 t.goal.length ct2, .slice at_3 t.ops.length ct3]] w fun e w' => e = .returned (.agg #[.int .i64 (sp_validate t).code, .int .i64 (sp_validate t).index]) ∧ Below w.heap.size w w' :=
  (w_validate hs t at_ ct _q1 _q2 at_2 ct2 _q3 _q4 at_3 ct3 _q5 _q6 (fun r => r = sp_validate t) (ok_validate t)).mono fun _ _ ⟨_, hk, he, hb⟩ => ⟨by rw [he, hk], hb⟩

set_option maxHeartbeats 8000000 in
theorem w_taskFault {h : FH} {w : World} (hs : Sub h w) (t : Task) (at_ : Option Addr) (ct : Nat) (_q1 : RSl h at_ t.init) (_q2 : t.init.length ≤ ct) (at_2 : Option Addr) (ct2 : Nat) (_q3 : RSl h at_2 t.goal) (_q4 : t.goal.length ≤ ct2) (at_3 : Option Addr) (ct3 : Nat) (_q5 : RSl h at_3 t.ops) (_q6 : t.ops.length ≤ ct3) (K : Fault → Prop) (hF : F_taskFault t K) : Calls Tryz.prog 53 #[.agg #[.int .i64 t.facts, .slice at_ t.init.length ct, .slice at_2 t.goal.length ct2, .slice at_3 t.ops.length ct3]] w fun e w' => ∃ r : Fault, K r ∧ e = .returned (.agg #[.int .i64 r.code, .int .i64 r.index]) ∧ Below w.heap.size w w' := by
  refine enter (args := [.agg #[.int .i64 t.facts, .slice at_ t.init.length ct, .slice at_2 t.goal.length ct2, .slice at_3 t.ops.length ct3]]) Tryz.func53 rfl Tryz.ntmps53 rfl hs ?_
  refine .seq ?_
  refine .region ?_
  refine bx (vs := [.int .i64 t.facts, .slice at_ t.init.length ct, .slice at_2 t.goal.length ct2, .slice at_3 t.ops.length ct3]) rfl rfl rfl (fun pt => ?_)
  refine al tZ27 rfl (fun pv => ?_)
  refine .nil ?_
  refine .seqN ?_
  refine .seq ?_
  refine .seq ?_
  refine .region ?_
  refine .v (fa rfl tF25_0) rfl rfl rfl ?_
  refine .v (ld1 rfl tO3 (cellB (off := 0) (k := 1) rfl rfl)) rfl rfl rfl ?_
  obtain ⟨r2, q7⟩ : ∃ y_ : Bool, y_ = sp_in_ t.facts 0 24 := ⟨_, rfl⟩
  replace hF := hF r2 q7
  refine .c (cl (v := .bool r2) Tryz.call25 rfl rfl (fun w S => (by rw [q7]; exact c_in_ S.sub t.facts 0 24 ))) rfl rfl rfl ?_
  refine .v (nt rfl) rfl rfl rfl ?_
  refine .nil ?_
  refine .seqN ?_
  refine .cond rfl (fun q10 => ?_) (fun q10 => ?_)
  · replace hF := hF.1 q10
    refine .seq ?_
    refine .region ?_
    obtain ⟨r3, q11⟩ : ∃ y_ : Fault, y_ = sp_at_ 3 (-1) := ⟨_, rfl⟩
    replace hF := hF r3 q11
    refine .c (cl (v := .agg #[.int .i64 r3.code, .int .i64 r3.index]) Tryz.call18 rfl rfl (fun w S => (by rw [q11]; exact c_at_ S.sub 3 (-1) ))) rfl rfl rfl ?_
    refine st (p := pv) (off := 0) (k := 0) (vs := [.int .i64 r3.code, .int .i64 r3.index]) rfl rfl rfl (fun w => (tA27 w).2) rfl rfl rfl rfl ?_
    refine .cast (A' := [Box pv [.int .i64 r3.code, .int .i64 r3.index], Box pt [.int .i64 t.facts, .slice at_ t.init.length ct, .slice at_2 t.goal.length ct2, .slice at_3 t.ops.length ct3]]) rfl ?_
    refine .nil ?_
    refine .seqN ?_
    refine .ret ?_
    refine .seqR ?_
    refine .res1 rfl (rvC rfl tA27 (k := 0) rfl rfl) (fun w' S => ⟨r3, hF, rfl, S.below⟩)
  replace hF := hF.2 q10
  refine .skip ?_
  refine .seqN ?_
  refine .seq ?_
  refine .seq ?_
  refine .region ?_
  refine .v (fa rfl tF25_1) rfl rfl rfl ?_
  refine .v (ld1 rfl tO22 (cellB (off := 1) (k := 1) rfl rfl)) rfl rfl rfl ?_
  refine .v (fa rfl tF25_0) rfl rfl rfl ?_
  refine .v (ld1 rfl tO3 (cellB (off := 0) (k := 1) rfl rfl)) rfl rfl rfl ?_
  obtain ⟨q12, hF⟩ := hF
  obtain ⟨r4, q13⟩ : ∃ y_ : Bool, y_ = sp_isSet t.init t.facts := ⟨_, rfl⟩
  replace hF := hF r4 q13
  refine .c (cl (v := .bool r4) Tryz.call26 rfl rfl (fun w S => (by rw [q13]; exact c_rIsSet S.sub t.init at_ ct _q1 _q2 t.facts q12))) rfl rfl rfl ?_
  refine .v (nt rfl) rfl rfl rfl ?_
  refine .nil ?_
  refine .seqN ?_
  refine .cond rfl (fun q16 => ?_) (fun q16 => ?_)
  · replace hF := hF.1 q16
    refine .seq ?_
    refine .region ?_
    obtain ⟨r5, q17⟩ : ∃ y_ : Fault, y_ = sp_at_ 5 (-2) := ⟨_, rfl⟩
    replace hF := hF r5 q17
    refine .c (cl (v := .agg #[.int .i64 r5.code, .int .i64 r5.index]) Tryz.call18 rfl rfl (fun w S => (by rw [q17]; exact c_at_ S.sub 5 (-2) ))) rfl rfl rfl ?_
    refine st (p := pv) (off := 0) (k := 0) (vs := [.int .i64 r5.code, .int .i64 r5.index]) rfl rfl rfl (fun w => (tA27 w).2) rfl rfl rfl rfl ?_
    refine .cast (A' := [Box pv [.int .i64 r5.code, .int .i64 r5.index], Box pt [.int .i64 t.facts, .slice at_ t.init.length ct, .slice at_2 t.goal.length ct2, .slice at_3 t.ops.length ct3]]) rfl ?_
    refine .nil ?_
    refine .seqN ?_
    refine .ret ?_
    refine .seqR ?_
    refine .res1 rfl (rvC rfl tA27 (k := 0) rfl rfl) (fun w' S => ⟨r5, hF, rfl, S.below⟩)
  replace hF := hF.2 q16
  refine .skip ?_
  refine .seqN ?_
  refine .seq ?_
  refine .seq ?_
  refine .region ?_
  refine .v (fa rfl tF25_2) rfl rfl rfl ?_
  refine .v (ld1 rfl tO22 (cellB (off := 2) (k := 1) rfl rfl)) rfl rfl rfl ?_
  refine .v (fa rfl tF25_0) rfl rfl rfl ?_
  refine .v (ld1 rfl tO3 (cellB (off := 0) (k := 1) rfl rfl)) rfl rfl rfl ?_
  obtain ⟨q18, hF⟩ := hF
  obtain ⟨r6, q19⟩ : ∃ y_ : Bool, y_ = sp_isSet t.goal t.facts := ⟨_, rfl⟩
  replace hF := hF r6 q19
  refine .c (cl (v := .bool r6) Tryz.call26 rfl rfl (fun w S => (by rw [q19]; exact c_rIsSet S.sub t.goal at_2 ct2 _q3 _q4 t.facts q18))) rfl rfl rfl ?_
  refine .v (nt rfl) rfl rfl rfl ?_
  refine .nil ?_
  refine .seqN ?_
  refine .cond rfl (fun q22 => ?_) (fun q22 => ?_)
  · replace hF := hF.1 q22
    refine .seq ?_
    refine .region ?_
    obtain ⟨r7, q23⟩ : ∃ y_ : Fault, y_ = sp_at_ 5 (-3) := ⟨_, rfl⟩
    replace hF := hF r7 q23
    refine .c (cl (v := .agg #[.int .i64 r7.code, .int .i64 r7.index]) Tryz.call18 rfl rfl (fun w S => (by rw [q23]; exact c_at_ S.sub 5 (-3) ))) rfl rfl rfl ?_
    refine st (p := pv) (off := 0) (k := 0) (vs := [.int .i64 r7.code, .int .i64 r7.index]) rfl rfl rfl (fun w => (tA27 w).2) rfl rfl rfl rfl ?_
    refine .cast (A' := [Box pv [.int .i64 r7.code, .int .i64 r7.index], Box pt [.int .i64 t.facts, .slice at_ t.init.length ct, .slice at_2 t.goal.length ct2, .slice at_3 t.ops.length ct3]]) rfl ?_
    refine .nil ?_
    refine .seqN ?_
    refine .ret ?_
    refine .seqR ?_
    refine .res1 rfl (rvC rfl tA27 (k := 0) rfl rfl) (fun w' S => ⟨r7, hF, rfl, S.below⟩)
  replace hF := hF.2 q22
  refine .skip ?_
  refine .seqN ?_
  refine .seq ?_
  refine .seq ?_
  refine .region ?_
  refine .v (fa rfl tF25_3) rfl rfl rfl ?_
  refine .v (ld1 rfl tO23 (cellB (off := 3) (k := 1) rfl rfl)) rfl rfl rfl ?_
  refine .v (ln rfl tS23.is) rfl rfl rfl ?_
  refine .v (bi rfl rfl rfl) rfl rfl rfl ?_
  refine .nil ?_
  refine .seqN ?_
  refine .cond rfl (fun q26 => ?_) (fun q26 => ?_)
  · replace hF := hF.1 q26
    refine .seq ?_
    refine .region ?_
    obtain ⟨r8, q27⟩ : ∃ y_ : Fault, y_ = sp_at_ 2 (-1) := ⟨_, rfl⟩
    replace hF := hF r8 q27
    refine .c (cl (v := .agg #[.int .i64 r8.code, .int .i64 r8.index]) Tryz.call18 rfl rfl (fun w S => (by rw [q27]; exact c_at_ S.sub 2 (-1) ))) rfl rfl rfl ?_
    refine st (p := pv) (off := 0) (k := 0) (vs := [.int .i64 r8.code, .int .i64 r8.index]) rfl rfl rfl (fun w => (tA27 w).2) rfl rfl rfl rfl ?_
    refine .cast (A' := [Box pv [.int .i64 r8.code, .int .i64 r8.index], Box pt [.int .i64 t.facts, .slice at_ t.init.length ct, .slice at_2 t.goal.length ct2, .slice at_3 t.ops.length ct3]]) rfl ?_
    refine .nil ?_
    refine .seqN ?_
    refine .ret ?_
    refine .seqR ?_
    refine .res1 rfl (rvC rfl tA27 (k := 0) rfl rfl) (fun w' S => ⟨r8, hF, rfl, S.below⟩)
  replace hF := hF.2 q26
  refine .skip ?_
  refine .seqN ?_
  refine .seq ?_
  refine .seq ?_
  refine .region ?_
  refine .v (asg rfl) rfl rfl rfl ?_
  refine .nil ?_
  refine .seqN ?_
  refine .block ?_
  refine .sel0 [1, 0] (by decide) rfl ?_
  obtain ⟨I1, μ1, q610, q611⟩ := hF
  refine .loop' (σ := Int) (fun z => I1 z) (fun z => μ1 z) (fun z => [(1, .pointer (some pt)), (2, .pointer (some pv)), (3, .int .i64 z)]) (fun _ => [Box pt [.int .i64 t.facts, .slice at_ t.init.length ct, .slice at_2 t.goal.length ct2, .slice at_3 t.ops.length ct3], Box pv [.int .i64 0, .int .i64 0]]) (fun _ => h) 0 q610 (.cons rfl (.cons rfl (.cons rfl (.nil)))) rfl (FH.le_refl _) ?_
  rintro i q610
  have hF := q611 i q610
  show J _ _ _ _ _ [(1, .pointer (some pt)), (2, .pointer (some pv)), (3, .int .i64 i)] [Box pt [.int .i64 t.facts, .slice at_ t.init.length ct, .slice at_2 t.goal.length ct2, .slice at_3 t.ops.length ct3], Box pv [.int .i64 0, .int .i64 0]] h
  refine .seq ?_
  refine .seq ?_
  refine .region ?_
  refine .v (mv rfl) rfl rfl rfl ?_
  refine .v (fa rfl tF25_3) rfl rfl rfl ?_
  refine .v (ld1 rfl tO23 (cellB (off := 3) (k := 0) rfl rfl)) rfl rfl rfl ?_
  refine .v (ln rfl tS23.is) rfl rfl rfl ?_
  refine .v (bi rfl rfl rfl) rfl rfl rfl ?_
  refine .nil ?_
  refine .seqN ?_
  refine .cond rfl (fun q613 => ?_) (fun q613 => ?_)
  · replace hF := hF.1 q613
    refine .skip ?_
    refine .seqN ?_
    refine .seq ?_
    refine .block ?_
    refine .seq ?_
    refine .region ?_
    refine .v (fa rfl tF25_3) rfl rfl rfl ?_
    refine .v (ld1 rfl tO23 (cellB (off := 3) (k := 0) rfl rfl)) rfl rfl rfl ?_
    refine .v (mv rfl) rfl rfl rfl ?_
    obtain ⟨q690, hF⟩ := hF
    refine .v (ix rfl rfl tS23 (_q5.ne (by decide) (inb_pos q690)) q690) rfl rfl rfl ?_
    obtain ⟨_, ⟨a, c, a2, c2, a3, c3, rfl, ⟨q691, q692⟩, ⟨q693, q694⟩, q695, q696⟩, q697⟩ := _q5.elem q690
    refine .v (ldA (cs := [.slice a ((gt t.ops i).pre.length) c, .slice a2 ((gt t.ops i).add.length) c2, .slice a3 ((gt t.ops i).del.length) c3, .int .i64 ((gt t.ops i).cost)]) rfl tA54 rfl (cellsH (q697 (by decide)))) rfl rfl rfl ?_
    refine al tZ54 rfl (fun po => ?_)
    refine st (p := po) (off := 0) (k := 0) (vs := [.slice a ((gt t.ops i).pre.length) c, .slice a2 ((gt t.ops i).add.length) c2, .slice a3 ((gt t.ops i).del.length) c3, .int .i64 ((gt t.ops i).cost)]) rfl rfl rfl (fun w => (tA54 w).2) rfl rfl rfl rfl ?_
    refine .cast (A' := [Box po [.slice a ((gt t.ops i).pre.length) c, .slice a2 ((gt t.ops i).add.length) c2, .slice a3 ((gt t.ops i).del.length) c3, .int .i64 ((gt t.ops i).cost)], Box pt [.int .i64 t.facts, .slice at_ t.init.length ct, .slice at_2 t.goal.length ct2, .slice at_3 t.ops.length ct3], Box pv [.int .i64 0, .int .i64 0]]) rfl ?_
    refine .nil ?_
    refine .seqN ?_
    refine .seq ?_
    refine .share (σ := Bool) (fun z => F_taskFault_J1 t K z i I1 μ1) (fun z => [(1, .pointer (some pt)), (2, .pointer (some pv)), (3, .int .i64 i), (4, .pointer (some po)), (70, .bool z)]) (fun _ => [Box pt [.int .i64 t.facts, .slice at_ t.init.length ct, .slice at_2 t.goal.length ct2, .slice at_3 t.ops.length ct3], Box pv [.int .i64 0, .int .i64 0], Box po [.slice a ((gt t.ops i).pre.length) c, .slice a2 ((gt t.ops i).add.length) c2, .slice a3 ((gt t.ops i).del.length) c3, .int .i64 ((gt t.ops i).cost)]]) (fun _ => h) ?_ (fun q709 => ?_)
    · rintro t70 hF
      show J _ _ _ _ _ [(1, .pointer (some pt)), (2, .pointer (some pv)), (3, .int .i64 i), (4, .pointer (some po)), (70, .bool t70)] [Box pt [.int .i64 t.facts, .slice at_ t.init.length ct, .slice at_2 t.goal.length ct2, .slice at_3 t.ops.length ct3], Box pv [.int .i64 0, .int .i64 0], Box po [.slice a ((gt t.ops i).pre.length) c, .slice a2 ((gt t.ops i).add.length) c2, .slice a3 ((gt t.ops i).del.length) c3, .int .i64 ((gt t.ops i).cost)]] h
      refine .cond rfl (fun q712 => ?_) (fun q712 => ?_)
      · replace hF := hF.1 q712
        refine .seq ?_
        refine .region ?_
        refine .v (mv rfl) rfl rfl rfl ?_
        obtain ⟨r9, q713⟩ : ∃ y_ : Fault, y_ = sp_at_ 5 i := ⟨_, rfl⟩
        replace hF := hF r9 q713
        refine .c (cl (v := .agg #[.int .i64 r9.code, .int .i64 r9.index]) Tryz.call18 rfl rfl (fun w S => (by rw [q713]; exact c_at_ S.sub 5 i ))) rfl rfl rfl ?_
        refine st (p := pv) (off := 0) (k := 1) (vs := [.int .i64 r9.code, .int .i64 r9.index]) rfl rfl rfl (fun w => (tA27 w).2) rfl rfl rfl rfl ?_
        refine .cast (A' := [Box pt [.int .i64 t.facts, .slice at_ t.init.length ct, .slice at_2 t.goal.length ct2, .slice at_3 t.ops.length ct3], Box pv [.int .i64 r9.code, .int .i64 r9.index], Box po [.slice a ((gt t.ops i).pre.length) c, .slice a2 ((gt t.ops i).add.length) c2, .slice a3 ((gt t.ops i).del.length) c3, .int .i64 ((gt t.ops i).cost)]]) rfl ?_
        refine .nil ?_
        refine .seqN ?_
        refine .ret ?_
        refine .seqR ?_
        refine .blkR ?_
        refine .seqR ?_
        refine .seqR ?_
        refine .blkR ?_
        refine .seqR ?_
        refine .res1 rfl (rvC rfl tA27 (k := 1) rfl rfl) (fun w' S => ⟨r9, hF, rfl, S.below⟩)
      replace hF := hF.2 q712
      refine .skip ?_
      refine .seqN ?_
      refine .seq ?_
      refine .region ?_
      refine .v (fa rfl tF54_3) rfl rfl rfl ?_
      refine .v (ld1 rfl tO3 (cellB (off := 3) (k := 2) rfl rfl)) rfl rfl rfl ?_
      obtain ⟨r10, q714⟩ : ∃ y_ : Bool, y_ = sp_in_ ((gt t.ops i).cost) 0 100 := ⟨_, rfl⟩
      replace hF := hF r10 q714
      refine .c (cl (v := .bool r10) Tryz.call25 rfl rfl (fun w S => (by rw [q714]; exact c_in_ S.sub ((gt t.ops i).cost) 0 100 ))) rfl rfl rfl ?_
      refine .v (nt rfl) rfl rfl rfl ?_
      refine .nil ?_
      refine .seqN ?_
      refine .cond rfl (fun q715 => ?_) (fun q715 => ?_)
      · replace hF := hF.1 q715
        refine .seq ?_
        refine .region ?_
        refine .v (mv rfl) rfl rfl rfl ?_
        obtain ⟨r11, q716⟩ : ∃ y_ : Fault, y_ = sp_at_ 3 i := ⟨_, rfl⟩
        replace hF := hF r11 q716
        refine .c (cl (v := .agg #[.int .i64 r11.code, .int .i64 r11.index]) Tryz.call18 rfl rfl (fun w S => (by rw [q716]; exact c_at_ S.sub 3 i ))) rfl rfl rfl ?_
        refine st (p := pv) (off := 0) (k := 1) (vs := [.int .i64 r11.code, .int .i64 r11.index]) rfl rfl rfl (fun w => (tA27 w).2) rfl rfl rfl rfl ?_
        refine .cast (A' := [Box pt [.int .i64 t.facts, .slice at_ t.init.length ct, .slice at_2 t.goal.length ct2, .slice at_3 t.ops.length ct3], Box pv [.int .i64 r11.code, .int .i64 r11.index], Box po [.slice a ((gt t.ops i).pre.length) c, .slice a2 ((gt t.ops i).add.length) c2, .slice a3 ((gt t.ops i).del.length) c3, .int .i64 ((gt t.ops i).cost)]]) rfl ?_
        refine .nil ?_
        refine .seqN ?_
        refine .ret ?_
        refine .blkR ?_
        refine .seqR ?_
        refine .seqR ?_
        refine .blkR ?_
        refine .seqR ?_
        refine .res1 rfl (rvC rfl tA27 (k := 1) rfl rfl) (fun w' S => ⟨r11, hF, rfl, S.below⟩)
      replace hF := hF.2 q715
      refine .skip ?_
      refine .blkN ?_
      refine .seqN ?_
      refine .region ?_
      refine .v (mv rfl) rfl rfl rfl ?_
      refine .v (bi rfl rfl rfl) rfl rfl rfl ?_
      refine .v (asg rfl) rfl rfl rfl ?_
      refine .nil ?_
      refine .sel0 [0, 1] (by decide) rfl ?_
      exact .round (IntKind.i64.wrap (i + 1)) hF.1 hF.2 (.cons rfl (.cons rfl (.cons rfl (.nil)))) rfl (FH.le_refl _)
    refine .region ?_
    refine .v (fa rfl tF54_0) rfl rfl rfl ?_
    refine .v (ld1 rfl tO22 (cellB (off := 0) (k := 0) rfl rfl)) rfl rfl rfl ?_
    refine .v (fa rfl tF25_0) rfl rfl rfl ?_
    refine .v (ld1 rfl tO3 (cellB (off := 0) (k := 1) rfl rfl)) rfl rfl rfl ?_
    obtain ⟨q717, hF⟩ := hF
    obtain ⟨r12, q718⟩ : ∃ y_ : Bool, y_ = sp_isSet ((gt t.ops i).pre) t.facts := ⟨_, rfl⟩
    replace hF := hF r12 q718
    refine .c (cl (v := .bool r12) Tryz.call26 rfl rfl (fun w S => (by rw [q718]; exact c_rIsSet S.sub ((gt t.ops i).pre) a c q692 q691 t.facts q717))) rfl rfl rfl ?_
    refine .v (nt rfl) rfl rfl rfl ?_
    refine .v (mv rfl) rfl rfl rfl ?_
    rcases Bool.eq_false_or_eq_true (!r12) with q719 | q719
    · replace hF := hF.1 q719
      refine .gS rfl rfl rfl q719 rfl rfl ?_
      refine .gS rfl rfl rfl q719 rfl rfl ?_
      refine .gS rfl rfl rfl q719 rfl rfl ?_
      refine .gS rfl rfl rfl q719 rfl rfl ?_
      refine .gS rfl rfl rfl q719 rfl rfl ?_
      refine .gS rfl rfl rfl q719 rfl rfl ?_
      refine .v (pkT rfl q719 rfl) rfl rfl rfl ?_
      refine .v (mv rfl) rfl rfl rfl ?_
      refine .gS rfl rfl rfl rfl rfl rfl ?_
      refine .gS rfl rfl rfl rfl rfl rfl ?_
      refine .gS rfl rfl rfl rfl rfl rfl ?_
      refine .gS rfl rfl rfl rfl rfl rfl ?_
      refine .gS rfl rfl rfl rfl rfl rfl ?_
      refine .gS rfl rfl rfl rfl rfl rfl ?_
      refine .v (pkT rfl rfl rfl) rfl rfl rfl ?_
      refine .v (mv rfl) rfl rfl rfl ?_
      refine .gS rfl rfl rfl rfl rfl rfl ?_
      refine .gS rfl rfl rfl rfl rfl rfl ?_
      refine .gS rfl rfl rfl rfl rfl rfl ?_
      refine .gS rfl rfl rfl rfl rfl rfl ?_
      refine .gS rfl rfl rfl rfl rfl rfl ?_
      refine .gS rfl rfl rfl rfl rfl rfl ?_
      refine .v (pkT rfl rfl rfl) rfl rfl rfl ?_
      refine .nil ?_
      refine .sel0 [1, 2, 0] (by decide) rfl ?_
      exact .use q709 true hF (.cons rfl (.cons rfl (.cons rfl (.cons rfl (.cons rfl (.nil)))))) rfl (FH.le_refl _)
    replace hF := hF.2 q719
    refine .gv (fa rfl tF54_1) rfl rfl rfl q719 rfl rfl ?_
    refine .gv (ld1 rfl tO22 (cellB (off := 1) (k := 0) rfl rfl)) rfl rfl rfl q719 rfl rfl ?_
    refine .gv (fa rfl tF25_0) rfl rfl rfl q719 rfl rfl ?_
    refine .gv (ld1 rfl tO3 (cellB (off := 0) (k := 1) rfl rfl)) rfl rfl rfl q719 rfl rfl ?_
    obtain ⟨q720, hF⟩ := hF
    obtain ⟨r13, q721⟩ : ∃ y_ : Bool, y_ = sp_isSet ((gt t.ops i).add) t.facts := ⟨_, rfl⟩
    replace hF := hF r13 q721
    refine .gc (cl (v := .bool r13) Tryz.call26 rfl rfl (fun w S => (by rw [q721]; exact c_rIsSet S.sub ((gt t.ops i).add) a2 c2 q694 q693 t.facts q720))) rfl rfl rfl q719 rfl rfl ?_
    refine .gv (nt rfl) rfl rfl rfl q719 rfl rfl ?_
    refine .v (pkF rfl q719 rfl) rfl rfl rfl ?_
    refine .v (mv rfl) rfl rfl rfl ?_
    rcases Bool.eq_false_or_eq_true (!r13) with q722 | q722
    · replace hF := hF.1 q722
      refine .gS rfl rfl rfl q722 rfl rfl ?_
      refine .gS rfl rfl rfl q722 rfl rfl ?_
      refine .gS rfl rfl rfl q722 rfl rfl ?_
      refine .gS rfl rfl rfl q722 rfl rfl ?_
      refine .gS rfl rfl rfl q722 rfl rfl ?_
      refine .gS rfl rfl rfl q722 rfl rfl ?_
      refine .v (pkT rfl q722 rfl) rfl rfl rfl ?_
      refine .v (mv rfl) rfl rfl rfl ?_
      refine .gS rfl rfl rfl rfl rfl rfl ?_
      refine .gS rfl rfl rfl rfl rfl rfl ?_
      refine .gS rfl rfl rfl rfl rfl rfl ?_
      refine .gS rfl rfl rfl rfl rfl rfl ?_
      refine .gS rfl rfl rfl rfl rfl rfl ?_
      refine .gS rfl rfl rfl rfl rfl rfl ?_
      refine .v (pkT rfl rfl rfl) rfl rfl rfl ?_
      refine .nil ?_
      refine .sel0 [1, 2, 0] (by decide) rfl ?_
      exact .use q709 true hF (.cons rfl (.cons rfl (.cons rfl (.cons rfl (.cons rfl (.nil)))))) rfl (FH.le_refl _)
    replace hF := hF.2 q722
    refine .gv (fa rfl tF54_2) rfl rfl rfl q722 rfl rfl ?_
    refine .gv (ld1 rfl tO22 (cellB (off := 2) (k := 0) rfl rfl)) rfl rfl rfl q722 rfl rfl ?_
    refine .gv (fa rfl tF25_0) rfl rfl rfl q722 rfl rfl ?_
    refine .gv (ld1 rfl tO3 (cellB (off := 0) (k := 1) rfl rfl)) rfl rfl rfl q722 rfl rfl ?_
    obtain ⟨q723, hF⟩ := hF
    obtain ⟨r14, q724⟩ : ∃ y_ : Bool, y_ = sp_isSet ((gt t.ops i).del) t.facts := ⟨_, rfl⟩
    replace hF := hF r14 q724
    refine .gc (cl (v := .bool r14) Tryz.call26 rfl rfl (fun w S => (by rw [q724]; exact c_rIsSet S.sub ((gt t.ops i).del) a3 c3 q696 q695 t.facts q723))) rfl rfl rfl q722 rfl rfl ?_
    refine .gv (nt rfl) rfl rfl rfl q722 rfl rfl ?_
    refine .v (pkF rfl q722 rfl) rfl rfl rfl ?_
    refine .v (mv rfl) rfl rfl rfl ?_
    rcases Bool.eq_false_or_eq_true (!r14) with q725 | q725
    · replace hF := hF.1 q725
      refine .gS rfl rfl rfl q725 rfl rfl ?_
      refine .gS rfl rfl rfl q725 rfl rfl ?_
      refine .gS rfl rfl rfl q725 rfl rfl ?_
      refine .gS rfl rfl rfl q725 rfl rfl ?_
      refine .gS rfl rfl rfl q725 rfl rfl ?_
      refine .gS rfl rfl rfl q725 rfl rfl ?_
      refine .v (pkT rfl q725 rfl) rfl rfl rfl ?_
      refine .nil ?_
      refine .sel0 [1, 2, 0] (by decide) rfl ?_
      exact .use q709 true hF (.cons rfl (.cons rfl (.cons rfl (.cons rfl (.cons rfl (.nil)))))) rfl (FH.le_refl _)
    replace hF := hF.2 q725
    refine .gv (fa rfl tF54_1) rfl rfl rfl q725 rfl rfl ?_
    refine .gv (ld1 rfl tO22 (cellB (off := 1) (k := 0) rfl rfl)) rfl rfl rfl q725 rfl rfl ?_
    refine .gv (fa rfl tF54_2) rfl rfl rfl q725 rfl rfl ?_
    refine .gv (ld1 rfl tO22 (cellB (off := 2) (k := 0) rfl rfl)) rfl rfl rfl q725 rfl rfl ?_
    obtain ⟨q726, hF⟩ := hF
    obtain ⟨r15, q727⟩ : ∃ y_ : Bool, y_ = sp_disjoint ((gt t.ops i).add) ((gt t.ops i).del) := ⟨_, rfl⟩
    replace hF := hF r15 q727
    refine .gc (cl (v := .bool r15) Tryz.call89 rfl rfl (fun w S => (by rw [q727]; exact c_disjoint S.sub ((gt t.ops i).add) a2 c2 q694 q693 ((gt t.ops i).del) a3 c3 q696 q695 q726))) rfl rfl rfl q725 rfl rfl ?_
    refine .gv (nt rfl) rfl rfl rfl q725 rfl rfl ?_
    refine .v (pkF rfl q725 rfl) rfl rfl rfl ?_
    refine .nil ?_
    refine .sel0 [1, 2, 0] (by decide) rfl ?_
    exact .use q709 (!r15) hF (.cons rfl (.cons rfl (.cons rfl (.cons rfl (.cons rfl (.nil)))))) rfl (FH.le_refl _)
  replace hF := hF.2 q613
  refine .exit ?_
  refine .seqX ?_
  refine .seqX ?_
  refine .blkX ?_
  refine .seqN ?_
  refine .seq ?_
  refine .region ?_
  refine .v (bld (cs := #[.int .i64 0, .int .i64 0]) (pv := []) tB27 rfl rfl) rfl rfl rfl ?_
  refine st (p := pv) (off := 0) (k := 1) (vs := [.int .i64 0, .int .i64 0]) rfl rfl rfl (fun w => (tA27 w).2) rfl rfl rfl rfl ?_
  refine .cast (A' := [Box pt [.int .i64 t.facts, .slice at_ t.init.length ct, .slice at_2 t.goal.length ct2, .slice at_3 t.ops.length ct3], Box pv [.int .i64 0, .int .i64 0]]) rfl ?_
  refine .nil ?_
  refine .seqN ?_
  refine .ret ?_
  refine .res1 rfl (rvC rfl tA27 (k := 1) rfl rfl) (fun w' S => ⟨(⟨0, 0⟩ : Fault), hF, rfl, S.below⟩)

theorem c_taskFault {h : FH} {w : World} (hs : Sub h w) (t : Task) (at_ : Option Addr) (ct : Nat) (_q1 : RSl h at_ t.init) (_q2 : t.init.length ≤ ct) (at_2 : Option Addr) (ct2 : Nat) (_q3 : RSl h at_2 t.goal) (_q4 : t.goal.length ≤ ct2) (at_3 : Option Addr) (ct3 : Nat) (_q5 : RSl h at_3 t.ops) (_q6 : t.ops.length ≤ ct3) : Calls Tryz.prog 53 #[.agg #[.int .i64 t.facts, .slice at_ t.init.length ct, .slice at_2 t.goal.length ct2, .slice at_3 t.ops.length ct3]] w fun e w' => e = .returned (.agg #[.int .i64 (sp_validate t).code, .int .i64 (sp_validate t).index]) ∧ Below w.heap.size w w' :=
  (w_taskFault hs t at_ ct _q1 _q2 at_2 ct2 _q3 _q4 at_3 ct3 _q5 _q6 (fun r => r = sp_validate t) (ok_taskFault t)).mono fun _ _ ⟨_, hk, he, hb⟩ => ⟨by rw [he, hk], hb⟩

theorem w_steps {h : FH} {w : World} (hs : Sub h w) (operators : Int) (plan : List Int) (aplan : Option Addr) (cplan : Nat) (_q1 : RSl h aplan plan) (_q2 : plan.length ≤ cplan) (K : Fault → Prop) (hF : F_steps operators plan K) : Calls Tryz.prog 65 #[.int .i64 operators, .slice aplan plan.length cplan] w fun e w' => ∃ r : Fault, K r ∧ e = .returned (.agg #[.int .i64 r.code, .int .i64 r.index]) ∧ Below w.heap.size w w' := by
  refine enter (args := [.int .i64 operators, .slice aplan plan.length cplan]) Tryz.func65 rfl Tryz.ntmps65 rfl hs ?_
  refine .seq ?_
  refine .region ?_
  refine al tZ27 rfl (fun pv => ?_)
  refine .nil ?_
  refine .seqN ?_
  refine .seq ?_
  refine .seq ?_
  refine .region ?_
  refine .v (mv rfl) rfl rfl rfl ?_
  refine .v (ln rfl tS22.is) rfl rfl rfl ?_
  refine .v (bi rfl rfl rfl) rfl rfl rfl ?_
  refine .nil ?_
  refine .seqN ?_
  refine .cond rfl (fun q4 => ?_) (fun q4 => ?_)
  · replace hF := hF.1 q4
    refine .seq ?_
    refine .region ?_
    refine .v (bld (cs := #[.int .i64 2, .int .i64 (-5)]) (pv := [(0, .int .i64 2), (1, .int .i64 (-5))]) tB27 rfl rfl) rfl rfl rfl ?_
    refine st (p := pv) (off := 0) (k := 0) (vs := [.int .i64 2, .int .i64 (-5)]) rfl rfl rfl (fun w => (tA27 w).2) rfl rfl rfl rfl ?_
    refine .cast (A' := [Box pv [.int .i64 2, .int .i64 (-5)]]) rfl ?_
    refine .nil ?_
    refine .seqN ?_
    refine .ret ?_
    refine .seqR ?_
    refine .res1 rfl (rvC rfl tA27 (k := 0) rfl rfl) (fun w' S => ⟨(⟨2, (-5)⟩ : Fault), hF, rfl, S.below⟩)
  replace hF := hF.2 q4
  refine .skip ?_
  refine .seqN ?_
  refine .seq ?_
  refine .seq ?_
  refine .region ?_
  refine .v (mv rfl) rfl rfl rfl ?_
  refine .v (ln rfl tS22.is) rfl rfl rfl ?_
  refine .v (mv rfl) rfl rfl rfl ?_
  refine .nil ?_
  refine .seqN ?_
  refine .block ?_
  obtain ⟨I1, μ1, q97, q98⟩ := hF
  refine .loop' (σ := Int) (fun z => I1 z) (fun z => μ1 z) (fun z => [(0, .int .i64 operators), (4, .pointer (some pv)), (11, .slice aplan plan.length cplan), (12, .int .i64 ((plan.length : Nat) : Int)), (13, .int .i64 z)]) (fun _ => [Box pv [.int .i64 0, .int .i64 0]]) (fun _ => h) 0 q97 (.cons rfl (.cons rfl (.cons rfl (.cons rfl (.cons rfl (.nil)))))) rfl (FH.le_refl _) ?_
  rintro t13 q97
  have hF := q98 t13 q97
  show J _ _ _ _ _ [(0, .int .i64 operators), (4, .pointer (some pv)), (11, .slice aplan plan.length cplan), (12, .int .i64 ((plan.length : Nat) : Int)), (13, .int .i64 t13)] [Box pv [.int .i64 0, .int .i64 0]] h
  refine .seq ?_
  refine .region ?_
  refine .v (bi rfl rfl rfl) rfl rfl rfl ?_
  refine .nil ?_
  refine .seqN ?_
  refine .seq ?_
  refine .cond rfl (fun q101 => ?_) (fun q101 => ?_)
  · replace hF := hF.1 q101
    refine .skip ?_
    refine .seqN ?_
    refine .seq ?_
    refine .block ?_
    refine .seq ?_
    refine .region ?_
    obtain ⟨q112, hF⟩ := hF
    refine .v (ix rfl rfl tS22 (_q1.ne (by decide) (inb_pos q112)) q112) rfl rfl rfl ?_
    refine .v (ld1 (v := .int .i64 (gt plan t13)) rfl tO3 (cellH (_q1.elemF q112 (by decide) 0 _ rfl))) rfl rfl rfl ?_
    refine .v (asg rfl) rfl rfl rfl ?_
    refine .nil ?_
    refine .seqN ?_
    refine .share (σ := Bool) (fun z => F_steps_J1 K z t13 I1 μ1) (fun z => [(0, .int .i64 operators), (4, .pointer (some pv)), (11, .slice aplan plan.length cplan), (12, .int .i64 ((plan.length : Nat) : Int)), (13, .int .i64 t13), (23, .bool z)]) (fun _ => [Box pv [.int .i64 0, .int .i64 0]]) (fun _ => h) ?_ (fun q114 => ?_)
    · rintro t23 hF
      show J _ _ _ _ _ [(0, .int .i64 operators), (4, .pointer (some pv)), (11, .slice aplan plan.length cplan), (12, .int .i64 ((plan.length : Nat) : Int)), (13, .int .i64 t13), (23, .bool t23)] [Box pv [.int .i64 0, .int .i64 0]] h
      refine .cond rfl (fun q115 => ?_) (fun q115 => ?_)
      · replace hF := hF.1 q115
        refine .seq ?_
        refine .region ?_
        refine .v (bld (cs := #[.int .i64 3, .int .i64 (-6)]) (pv := [(0, .int .i64 3), (1, .int .i64 (-6))]) tB27 rfl rfl) rfl rfl rfl ?_
        refine st (p := pv) (off := 0) (k := 0) (vs := [.int .i64 3, .int .i64 (-6)]) rfl rfl rfl (fun w => (tA27 w).2) rfl rfl rfl rfl ?_
        refine .cast (A' := [Box pv [.int .i64 3, .int .i64 (-6)]]) rfl ?_
        refine .nil ?_
        refine .seqN ?_
        refine .ret ?_
        refine .blkR ?_
        refine .seqR ?_
        refine .seqR ?_
        refine .blkR ?_
        refine .seqR ?_
        refine .res1 rfl (rvC rfl tA27 (k := 0) rfl rfl) (fun w' S => ⟨(⟨3, (-6)⟩ : Fault), hF, rfl, S.below⟩)
      replace hF := hF.2 q115
      refine .skip ?_
      refine .blkN ?_
      refine .seqN ?_
      refine .region ?_
      refine .v (bi rfl rfl rfl) rfl rfl rfl ?_
      refine .v (mv rfl) rfl rfl rfl ?_
      refine .nil ?_
      exact .round (IntKind.i64.wrap (t13 + 1)) hF.1 hF.2 (.cons rfl (.cons rfl (.cons rfl (.cons rfl (.cons rfl (.nil)))))) rfl (FH.le_refl _)
    refine .region ?_
    refine .v (mv rfl) rfl rfl rfl ?_
    refine .v (bi rfl rfl rfl) rfl rfl rfl ?_
    refine .v (mv rfl) rfl rfl rfl ?_
    rcases Bool.eq_false_or_eq_true (decide ((gt plan t13) < 0)) with q116 | q116
    · replace hF := hF.1 q116
      refine .gS rfl rfl rfl q116 rfl rfl ?_
      refine .gS rfl rfl rfl q116 rfl rfl ?_
      refine .gS rfl rfl rfl q116 rfl rfl ?_
      refine .v (pkT rfl q116 rfl) rfl rfl rfl ?_
      refine .nil ?_
      exact .use q114 true hF (.cons rfl (.cons rfl (.cons rfl (.cons rfl (.cons rfl (.cons rfl (.nil))))))) rfl (FH.le_refl _)
    replace hF := hF.2 q116
    refine .gv (mv rfl) rfl rfl rfl q116 rfl rfl ?_
    refine .gv (mv rfl) rfl rfl rfl q116 rfl rfl ?_
    refine .gv (bi rfl rfl rfl) rfl rfl rfl q116 rfl rfl ?_
    refine .v (pkF rfl q116 rfl) rfl rfl rfl ?_
    refine .nil ?_
    exact .use q114 (decide (operators ≤ (gt plan t13))) hF (.cons rfl (.cons rfl (.cons rfl (.cons rfl (.cons rfl (.cons rfl (.nil))))))) rfl (FH.le_refl _)
  replace hF := hF.2 q101
  refine .exit ?_
  refine .seqX ?_
  refine .seqX ?_
  refine .blkX ?_
  refine .seqN ?_
  refine .seq ?_
  refine .region ?_
  refine .v (bld (cs := #[.int .i64 0, .int .i64 0]) (pv := []) tB27 rfl rfl) rfl rfl rfl ?_
  refine st (p := pv) (off := 0) (k := 0) (vs := [.int .i64 0, .int .i64 0]) rfl rfl rfl (fun w => (tA27 w).2) rfl rfl rfl rfl ?_
  refine .cast (A' := [Box pv [.int .i64 0, .int .i64 0]]) rfl ?_
  refine .nil ?_
  refine .seqN ?_
  refine .ret ?_
  refine .res1 rfl (rvC rfl tA27 (k := 0) rfl rfl) (fun w' S => ⟨(⟨0, 0⟩ : Fault), hF, rfl, S.below⟩)

theorem c_steps {h : FH} {w : World} (hs : Sub h w) (operators : Int) (plan : List Int) (aplan : Option Addr) (cplan : Nat) (_q1 : RSl h aplan plan) (_q2 : plan.length ≤ cplan) (hp : pre_steps operators plan) : Calls Tryz.prog 65 #[.int .i64 operators, .slice aplan plan.length cplan] w fun e w' => e = .returned (.agg #[.int .i64 (sp_steps operators plan).code, .int .i64 (sp_steps operators plan).index]) ∧ Below w.heap.size w w' :=
  (w_steps hs operators plan aplan cplan _q1 _q2 (fun r => r = sp_steps operators plan) (ok_steps operators plan hp)).mono fun _ _ ⟨_, hk, he, hb⟩ => ⟨by rw [he, hk], hb⟩

theorem w_stepsFault {h : FH} {w : World} (hs : Sub h w) (operators : Int) (plan : List Int) (aplan : Option Addr) (cplan : Nat) (_q1 : RSl h aplan plan) (_q2 : plan.length ≤ cplan) (K : Fault → Prop) (hF : F_stepsFault operators plan K) : Calls Tryz.prog 30 #[.int .i64 operators, .slice aplan plan.length cplan] w fun e w' => ∃ r : Fault, K r ∧ e = .returned (.agg #[.int .i64 r.code, .int .i64 r.index]) ∧ Below w.heap.size w w' := by
  refine enter (args := [.int .i64 operators, .slice aplan plan.length cplan]) Tryz.func30 rfl Tryz.ntmps30 rfl hs ?_
  refine .seq ?_
  refine .region ?_
  refine al tZ27 rfl (fun pv => ?_)
  refine .nil ?_
  refine .seqN ?_
  refine .seq ?_
  refine .seq ?_
  refine .region ?_
  refine .v (mv rfl) rfl rfl rfl ?_
  refine .v (ln rfl tS22.is) rfl rfl rfl ?_
  refine .v (bi rfl rfl rfl) rfl rfl rfl ?_
  refine .nil ?_
  refine .seqN ?_
  refine .cond rfl (fun q5 => ?_) (fun q5 => ?_)
  · replace hF := hF.1 q5
    refine .seq ?_
    refine .region ?_
    obtain ⟨r2, q6⟩ : ∃ y_ : Fault, y_ = sp_at_ 2 (-5) := ⟨_, rfl⟩
    replace hF := hF r2 q6
    refine .c (cl (v := .agg #[.int .i64 r2.code, .int .i64 r2.index]) Tryz.call18 rfl rfl (fun w S => (by rw [q6]; exact c_at_ S.sub 2 (-5) ))) rfl rfl rfl ?_
    refine st (p := pv) (off := 0) (k := 0) (vs := [.int .i64 r2.code, .int .i64 r2.index]) rfl rfl rfl (fun w => (tA27 w).2) rfl rfl rfl rfl ?_
    refine .cast (A' := [Box pv [.int .i64 r2.code, .int .i64 r2.index]]) rfl ?_
    refine .nil ?_
    refine .seqN ?_
    refine .ret ?_
    refine .seqR ?_
    refine .res1 rfl (rvC rfl tA27 (k := 0) rfl rfl) (fun w' S => ⟨r2, hF, rfl, S.below⟩)
  replace hF := hF.2 q5
  refine .skip ?_
  refine .seqN ?_
  refine .seq ?_
  refine .seq ?_
  refine .region ?_
  refine .v (asg rfl) rfl rfl rfl ?_
  refine .nil ?_
  refine .seqN ?_
  refine .block ?_
  obtain ⟨I1, μ1, q79, q80⟩ := hF
  refine .loop' (σ := Int) (fun z => I1 z) (fun z => μ1 z) (fun z => [(0, .int .i64 operators), (1, .slice aplan plan.length cplan), (4, .pointer (some pv)), (5, .int .i64 z)]) (fun _ => [Box pv [.int .i64 0, .int .i64 0]]) (fun _ => h) 0 q79 (.cons rfl (.cons rfl (.cons rfl (.cons rfl (.nil))))) rfl (FH.le_refl _) ?_
  rintro i q79
  have hF := q80 i q79
  show J _ _ _ _ _ [(0, .int .i64 operators), (1, .slice aplan plan.length cplan), (4, .pointer (some pv)), (5, .int .i64 i)] [Box pv [.int .i64 0, .int .i64 0]] h
  refine .seq ?_
  refine .seq ?_
  refine .region ?_
  refine .v (mv rfl) rfl rfl rfl ?_
  refine .v (mv rfl) rfl rfl rfl ?_
  refine .v (ln rfl tS22.is) rfl rfl rfl ?_
  refine .v (bi rfl rfl rfl) rfl rfl rfl ?_
  refine .nil ?_
  refine .seqN ?_
  refine .cond rfl (fun q82 => ?_) (fun q82 => ?_)
  · replace hF := hF.1 q82
    refine .skip ?_
    refine .seqN ?_
    refine .seq ?_
    refine .block ?_
    refine .seq ?_
    refine .region ?_
    refine .v (mv rfl) rfl rfl rfl ?_
    refine .v (mv rfl) rfl rfl rfl ?_
    obtain ⟨q91, hF⟩ := hF
    refine .v (ix rfl rfl tS22 (_q1.ne (by decide) (inb_pos q91)) q91) rfl rfl rfl ?_
    refine .v (ld1 (v := .int .i64 (gt plan i)) rfl tO3 (cellH (_q1.elemF q91 (by decide) 0 _ rfl))) rfl rfl rfl ?_
    refine .v (mv rfl) rfl rfl rfl ?_
    refine .v (bi rfl rfl rfl) rfl rfl rfl ?_
    obtain ⟨r3, q92⟩ : ∃ y_ : Bool, y_ = sp_in_ (gt plan i) 0 (IntKind.i64.wrap (operators - 1)) := ⟨_, rfl⟩
    replace hF := hF r3 q92
    refine .c (cl (v := .bool r3) Tryz.call25 rfl rfl (fun w S => (by rw [q92]; exact c_in_ S.sub (gt plan i) 0 (IntKind.i64.wrap (operators - 1)) ))) rfl rfl rfl ?_
    refine .v (nt rfl) rfl rfl rfl ?_
    refine .nil ?_
    refine .seqN ?_
    refine .cond rfl (fun q93 => ?_) (fun q93 => ?_)
    · replace hF := hF.1 q93
      refine .seq ?_
      refine .region ?_
      obtain ⟨r4, q94⟩ : ∃ y_ : Fault, y_ = sp_at_ 3 (-6) := ⟨_, rfl⟩
      replace hF := hF r4 q94
      refine .c (cl (v := .agg #[.int .i64 r4.code, .int .i64 r4.index]) Tryz.call18 rfl rfl (fun w S => (by rw [q94]; exact c_at_ S.sub 3 (-6) ))) rfl rfl rfl ?_
      refine st (p := pv) (off := 0) (k := 0) (vs := [.int .i64 r4.code, .int .i64 r4.index]) rfl rfl rfl (fun w => (tA27 w).2) rfl rfl rfl rfl ?_
      refine .cast (A' := [Box pv [.int .i64 r4.code, .int .i64 r4.index]]) rfl ?_
      refine .nil ?_
      refine .seqN ?_
      refine .ret ?_
      refine .blkR ?_
      refine .seqR ?_
      refine .seqR ?_
      refine .blkR ?_
      refine .seqR ?_
      refine .res1 rfl (rvC rfl tA27 (k := 0) rfl rfl) (fun w' S => ⟨r4, hF, rfl, S.below⟩)
    replace hF := hF.2 q93
    refine .skip ?_
    refine .blkN ?_
    refine .seqN ?_
    refine .region ?_
    refine .v (mv rfl) rfl rfl rfl ?_
    refine .v (bi rfl rfl rfl) rfl rfl rfl ?_
    refine .v (asg rfl) rfl rfl rfl ?_
    refine .nil ?_
    exact .round (IntKind.i64.wrap (i + 1)) hF.1 hF.2 (.cons rfl (.cons rfl (.cons rfl (.cons rfl (.nil))))) rfl (FH.le_refl _)
  replace hF := hF.2 q82
  refine .exit ?_
  refine .seqX ?_
  refine .seqX ?_
  refine .blkX ?_
  refine .seqN ?_
  refine .seq ?_
  refine .region ?_
  refine .v (bld (cs := #[.int .i64 0, .int .i64 0]) (pv := []) tB27 rfl rfl) rfl rfl rfl ?_
  refine st (p := pv) (off := 0) (k := 0) (vs := [.int .i64 0, .int .i64 0]) rfl rfl rfl (fun w => (tA27 w).2) rfl rfl rfl rfl ?_
  refine .cast (A' := [Box pv [.int .i64 0, .int .i64 0]]) rfl ?_
  refine .nil ?_
  refine .seqN ?_
  refine .ret ?_
  refine .res1 rfl (rvC rfl tA27 (k := 0) rfl rfl) (fun w' S => ⟨(⟨0, 0⟩ : Fault), hF, rfl, S.below⟩)

theorem c_stepsFault {h : FH} {w : World} (hs : Sub h w) (operators : Int) (plan : List Int) (aplan : Option Addr) (cplan : Nat) (_q1 : RSl h aplan plan) (_q2 : plan.length ≤ cplan) (hp : pre_steps operators plan) : Calls Tryz.prog 30 #[.int .i64 operators, .slice aplan plan.length cplan] w fun e w' => e = .returned (.agg #[.int .i64 (sp_steps operators plan).code, .int .i64 (sp_steps operators plan).index]) ∧ Below w.heap.size w w' :=
  (w_stepsFault hs operators plan aplan cplan _q1 _q2 (fun r => r = sp_steps operators plan) (ok_stepsFault operators plan hp)).mono fun _ _ ⟨_, hk, he, hb⟩ => ⟨by rw [he, hk], hb⟩

theorem w_subset {h : FH} {w : World} (hs : Sub h w) (part : List Int) (apart : Option Addr) (cpart : Nat) (_q1 : RSl h apart part) (_q2 : part.length ≤ cpart) (l : List Int) (al2 : Option Addr) (cl2 : Nat) (_q3 : RSl h al2 l) (_q4 : l.length ≤ cl2) (K : Bool → Prop) (hF : F_subset part l K) : Calls Tryz.prog 63 #[.slice apart part.length cpart, .slice al2 l.length cl2] w fun e w' => ∃ r : Bool, K r ∧ e = .returned (.bool r) ∧ Below w.heap.size w w' := by
  refine enter (args := [.slice apart part.length cpart, .slice al2 l.length cl2]) Tryz.func63 rfl Tryz.ntmps63 rfl hs ?_
  refine .seq ?_
  refine .region ?_
  refine .v (asg rfl) rfl rfl rfl ?_
  refine .nil ?_
  refine .seqN ?_
  refine .seq ?_
  refine .seq ?_
  refine .region ?_
  refine .v (asg rfl) rfl rfl rfl ?_
  refine .nil ?_
  refine .seqN ?_
  refine .block ?_
  obtain ⟨I1, μ1, q77, q78⟩ := hF
  refine .loop' (σ := Int) (fun z => I1 z) (fun z => μ1 z) (fun z => [(0, .slice apart part.length cpart), (1, .slice al2 l.length cl2), (5, .int .i64 z)]) (fun _ => []) (fun _ => h) 0 q77 (.cons rfl (.cons rfl (.cons rfl (.nil)))) rfl (FH.le_refl _) ?_
  rintro i q77
  have hF := q78 i q77
  show J _ _ _ _ _ [(0, .slice apart part.length cpart), (1, .slice al2 l.length cl2), (5, .int .i64 i)] [] h
  refine .seq ?_
  refine .seq ?_
  refine .region ?_
  refine .v (mv rfl) rfl rfl rfl ?_
  refine .v (mv rfl) rfl rfl rfl ?_
  refine .v (ln rfl tS22.is) rfl rfl rfl ?_
  refine .v (bi rfl rfl rfl) rfl rfl rfl ?_
  refine .nil ?_
  refine .seqN ?_
  refine .cond rfl (fun q80 => ?_) (fun q80 => ?_)
  · replace hF := hF.1 q80
    refine .skip ?_
    refine .seqN ?_
    refine .seq ?_
    refine .block ?_
    refine .seq ?_
    refine .region ?_
    refine .v (mv rfl) rfl rfl rfl ?_
    refine .v (mv rfl) rfl rfl rfl ?_
    refine .v (mv rfl) rfl rfl rfl ?_
    obtain ⟨q89, hF⟩ := hF
    refine .v (ix rfl rfl tS22 (_q1.ne (by decide) (inb_pos q89)) q89) rfl rfl rfl ?_
    refine .v (ld1 (v := .int .i64 (gt part i)) rfl tO3 (cellH (_q1.elemF q89 (by decide) 0 _ rfl))) rfl rfl rfl ?_
    obtain ⟨q90, hF⟩ := hF
    obtain ⟨r2, q91⟩ : ∃ y_ : Bool, y_ = sp_has l (gt part i) := ⟨_, rfl⟩
    replace hF := hF r2 q91
    refine .c (cl (v := .bool r2) Tryz.call76 rfl rfl (fun w S => (by rw [q91]; exact c_has S.sub l al2 cl2 _q3 _q4 (gt part i) q90))) rfl rfl rfl ?_
    refine .v (nt rfl) rfl rfl rfl ?_
    refine .nil ?_
    refine .seqN ?_
    refine .cond rfl (fun q92 => ?_) (fun q92 => ?_)
    · replace hF := hF.1 q92
      refine .seq ?_
      refine .region ?_
      refine .v (asg rfl) rfl rfl rfl ?_
      refine .nil ?_
      refine .seqN ?_
      refine .ret ?_
      refine .blkR ?_
      refine .seqR ?_
      refine .seqR ?_
      refine .blkR ?_
      refine .seqR ?_
      refine .res1 rfl (rvT rfl) (fun w' S => ⟨false, hF, rfl, S.below⟩)
    replace hF := hF.2 q92
    refine .skip ?_
    refine .blkN ?_
    refine .seqN ?_
    refine .region ?_
    refine .v (mv rfl) rfl rfl rfl ?_
    refine .v (bi rfl rfl rfl) rfl rfl rfl ?_
    refine .v (asg rfl) rfl rfl rfl ?_
    refine .nil ?_
    exact .round (IntKind.i64.wrap (i + 1)) hF.1 hF.2 (.cons rfl (.cons rfl (.cons rfl (.nil)))) rfl (FH.le_refl _)
  replace hF := hF.2 q80
  refine .exit ?_
  refine .seqX ?_
  refine .seqX ?_
  refine .blkX ?_
  refine .seqN ?_
  refine .seq ?_
  refine .region ?_
  refine .v (asg rfl) rfl rfl rfl ?_
  refine .nil ?_
  refine .seqN ?_
  refine .ret ?_
  refine .res1 rfl (rvT rfl) (fun w' S => ⟨true, hF, rfl, S.below⟩)

theorem c_subset {h : FH} {w : World} (hs : Sub h w) (part : List Int) (apart : Option Addr) (cpart : Nat) (_q1 : RSl h apart part) (_q2 : part.length ≤ cpart) (l : List Int) (al2 : Option Addr) (cl2 : Nat) (_q3 : RSl h al2 l) (_q4 : l.length ≤ cl2) (hp : pre_subset part l) : Calls Tryz.prog 63 #[.slice apart part.length cpart, .slice al2 l.length cl2] w fun e w' => e = .returned (.bool (sp_subset part l)) ∧ Below w.heap.size w w' :=
  (w_subset hs part apart cpart _q1 _q2 l al2 cl2 _q3 _q4 (fun r => r = sp_subset part l) (ok_subset part l hp)).mono fun _ _ ⟨_, hk, he, hb⟩ => ⟨by rw [he, hk], hb⟩

theorem w_applies {h : FH} {w : World} (hs : Sub h w) (t : Task) (at_ : Option Addr) (ct : Nat) (_q1 : RSl h at_ t.init) (_q2 : t.init.length ≤ ct) (at_2 : Option Addr) (ct2 : Nat) (_q3 : RSl h at_2 t.goal) (_q4 : t.goal.length ≤ ct2) (at_3 : Option Addr) (ct3 : Nat) (_q5 : RSl h at_3 t.ops) (_q6 : t.ops.length ≤ ct3) (s_ : List Int) (as_ : Option Addr) (cs_ : Nat) (_q7 : RSl h as_ s_) (_q8 : s_.length ≤ cs_) (op : Int) (K : Bool → Prop) (hF : F_applies t s_ op K) : Calls Tryz.prog 78 #[.agg #[.int .i64 t.facts, .slice at_ t.init.length ct, .slice at_2 t.goal.length ct2, .slice at_3 t.ops.length ct3], .slice as_ s_.length cs_, .int .i64 op] w fun e w' => ∃ r : Bool, K r ∧ e = .returned (.bool r) ∧ Below w.heap.size w w' := by
  refine enter (args := [.agg #[.int .i64 t.facts, .slice at_ t.init.length ct, .slice at_2 t.goal.length ct2, .slice at_3 t.ops.length ct3], .slice as_ s_.length cs_, .int .i64 op]) Tryz.func78 rfl Tryz.ntmps78 rfl hs ?_
  refine .seq ?_
  refine .region ?_
  refine bx (vs := [.int .i64 t.facts, .slice at_ t.init.length ct, .slice at_2 t.goal.length ct2, .slice at_3 t.ops.length ct3]) rfl rfl rfl (fun pt => ?_)
  refine .v (asg rfl) rfl rfl rfl ?_
  refine .nil ?_
  refine .seqN ?_
  refine .seq ?_
  refine .region ?_
  refine .v (fa rfl tF25_3) rfl rfl rfl ?_
  refine .v (ld1 rfl tO23 (cellB (off := 3) (k := 0) rfl rfl)) rfl rfl rfl ?_
  refine .v (mv rfl) rfl rfl rfl ?_
  obtain ⟨q9, hF⟩ := hF
  refine .v (ix rfl rfl tS23 (_q5.ne (by decide) (inb_pos q9)) q9) rfl rfl rfl ?_
  refine .v (fa rfl tF54_0) rfl rfl rfl ?_
  obtain ⟨_, ⟨a, c, a2, c2, a3, c3, rfl, ⟨q10, q11⟩, ⟨q12, q13⟩, q14, q15⟩, q16⟩ := _q5.elem q9
  refine .v (ld1 (v := .slice a ((gt t.ops op).pre.length) c) rfl tO22 (cellH (q16 (by decide) 0 _ rfl))) rfl rfl rfl ?_
  refine .v (mv rfl) rfl rfl rfl ?_
  obtain ⟨q17, hF⟩ := hF
  obtain ⟨r2, q18⟩ : ∃ y_ : Bool, y_ = sp_subset ((gt t.ops op).pre) s_ := ⟨_, rfl⟩
  replace hF := hF r2 q18
  refine .c (cl (v := .bool r2) Tryz.call63 rfl rfl (fun w S => (by rw [q18]; exact c_subset S.sub ((gt t.ops op).pre) a c q11 q10 s_ as_ cs_ _q7 _q8 q17))) rfl rfl rfl ?_
  refine .v (asg rfl) rfl rfl rfl ?_
  refine .nil ?_
  refine .seqN ?_
  refine .ret ?_
  refine .res1 rfl (rvT rfl) (fun w' S => ⟨r2, hF, rfl, S.below⟩)

theorem c_applies {h : FH} {w : World} (hs : Sub h w) (t : Task) (at_ : Option Addr) (ct : Nat) (_q1 : RSl h at_ t.init) (_q2 : t.init.length ≤ ct) (at_2 : Option Addr) (ct2 : Nat) (_q3 : RSl h at_2 t.goal) (_q4 : t.goal.length ≤ ct2) (at_3 : Option Addr) (ct3 : Nat) (_q5 : RSl h at_3 t.ops) (_q6 : t.ops.length ≤ ct3) (s_ : List Int) (as_ : Option Addr) (cs_ : Nat) (_q7 : RSl h as_ s_) (_q8 : s_.length ≤ cs_) (op : Int) (hp : pre_applies t s_ op) : Calls Tryz.prog 78 #[.agg #[.int .i64 t.facts, .slice at_ t.init.length ct, .slice at_2 t.goal.length ct2, .slice at_3 t.ops.length ct3], .slice as_ s_.length cs_, .int .i64 op] w fun e w' => e = .returned (.bool (sp_applies t s_ op)) ∧ Below w.heap.size w w' :=
  (w_applies hs t at_ ct _q1 _q2 at_2 ct2 _q3 _q4 at_3 ct3 _q5 _q6 s_ as_ cs_ _q7 _q8 op (fun r => r = sp_applies t s_ op) (ok_applies t s_ op hp)).mono fun _ _ ⟨_, hk, he, hb⟩ => ⟨by rw [he, hk], hb⟩

set_option maxHeartbeats 8000000 in
theorem w_after {h : FH} {w : World} (hs : Sub h w) (t : Task) (at_ : Option Addr) (ct : Nat) (_q1 : RSl h at_ t.init) (_q2 : t.init.length ≤ ct) (at_2 : Option Addr) (ct2 : Nat) (_q3 : RSl h at_2 t.goal) (_q4 : t.goal.length ≤ ct2) (at_3 : Option Addr) (ct3 : Nat) (_q5 : RSl h at_3 t.ops) (_q6 : t.ops.length ≤ ct3) (s_ : List Int) (as_ : Option Addr) (cs_ : Nat) (_q7 : RSl h as_ s_) (_q8 : s_.length ≤ cs_) (op : Int) (K : (List Int) → Prop) (hF : F_after t s_ op K) : Calls Tryz.prog 64 #[.agg #[.int .i64 t.facts, .slice at_ t.init.length ct, .slice at_2 t.goal.length ct2, .slice at_3 t.ops.length ct3], .slice as_ s_.length cs_, .int .i64 op] w fun e w' => ∃ (r : List Int) (z : Option Addr × Nat) (h1 : FH), K r ∧ e = .returned (.slice z.1 r.length z.2) ∧ FH.le h h1 ∧ (RSl h1 z.1 r ∧ r.length ≤ z.2) ∧ SH (Kp.all w h) h1 w' [] := by
  refine enter (args := [.agg #[.int .i64 t.facts, .slice at_ t.init.length ct, .slice at_2 t.goal.length ct2, .slice at_3 t.ops.length ct3], .slice as_ s_.length cs_, .int .i64 op]) Tryz.func64 rfl Tryz.ntmps64 rfl hs ?_
  refine .seq ?_
  refine .region ?_
  refine bx (vs := [.int .i64 t.facts, .slice at_ t.init.length ct, .slice at_2 t.goal.length ct2, .slice at_3 t.ops.length ct3]) rfl rfl rfl (fun pt => ?_)
  refine .v (asg rfl) rfl rfl rfl ?_
  refine .nil ?_
  refine .seqN ?_
  refine .seq ?_
  refine .region ?_
  refine .v (asg rfl) rfl rfl rfl ?_
  refine .nil ?_
  refine .seqN ?_
  refine .seq ?_
  refine .seq ?_
  refine .region ?_
  refine .v (asg rfl) rfl rfl rfl ?_
  refine .nil ?_
  refine .seqN ?_
  refine .block ?_
  refine .nilSl 3 1 ?_
  refine .cast (A' := [OwnSl 3 1 none (([] : List Int).length) 0 (flL ([] : List Int)), Box pt [.int .i64 t.facts, .slice at_ t.init.length ct, .slice at_2 t.goal.length ct2, .slice at_3 t.ops.length ct3]]) rfl ?_
  refine .sel0 [1, 0] (by decide) rfl ?_
  obtain ⟨I1, μ1, q396, q397⟩ := hF
  refine .loop' (σ := Int × List Int × Option Addr × Nat) (fun z => I1 z.1 z.2.1) (fun z => μ1 z.1 z.2.1) (fun z => [(1, .slice as_ s_.length cs_), (2, .int .i64 op), (3, .pointer (some pt)), (7, .slice z.2.2.1 z.2.1.length z.2.2.2), (8, .int .i64 z.1)]) (fun z => [Box pt [.int .i64 t.facts, .slice at_ t.init.length ct, .slice at_2 t.goal.length ct2, .slice at_3 t.ops.length ct3], OwnSl 3 1 z.2.2.1 z.2.1.length z.2.2.2 (flL z.2.1)]) (fun _ => h) (0, ([] : List Int), none, 0) q396 (.cons rfl (.cons rfl (.cons rfl (.cons rfl (.cons rfl (.nil)))))) rfl (FH.le_refl _) ?_
  rintro ⟨p, out, aout, cout⟩ q396
  have hF := q397 p out q396
  show J _ _ _ _ _ [(1, .slice as_ s_.length cs_), (2, .int .i64 op), (3, .pointer (some pt)), (7, .slice aout out.length cout), (8, .int .i64 p)] [Box pt [.int .i64 t.facts, .slice at_ t.init.length ct, .slice at_2 t.goal.length ct2, .slice at_3 t.ops.length ct3], OwnSl 3 1 aout out.length cout (flL out)] h
  refine .seq ?_
  refine .seq ?_
  refine .region ?_
  refine .v (mv rfl) rfl rfl rfl ?_
  refine .v (fa rfl tF25_0) rfl rfl rfl ?_
  refine .v (ld1 rfl tO3 (cellB (off := 0) (k := 0) rfl rfl)) rfl rfl rfl ?_
  refine .v (bi rfl rfl rfl) rfl rfl rfl ?_
  refine .nil ?_
  refine .seqN ?_
  refine .cond rfl (fun q399 => ?_) (fun q399 => ?_)
  · replace hF := hF.1 q399
    refine .skip ?_
    refine .seqN ?_
    refine .share (σ := List Int × Option Addr × Nat) (fun z => F_after_J1 out p I1 μ1 z.1) (fun z => [(1, .slice as_ s_.length cs_), (2, .int .i64 op), (3, .pointer (some pt)), (7, .slice z.2.1 z.1.length z.2.2), (8, .int .i64 p)]) (fun z => [Box pt [.int .i64 t.facts, .slice at_ t.init.length ct, .slice at_2 t.goal.length ct2, .slice at_3 t.ops.length ct3], OwnSl 3 1 z.2.1 z.1.length z.2.2 (flL z.1)]) (fun _ => h) ?_ (fun q437 => ?_)
    · rintro ⟨out3, aout3, cout3⟩ hF
      show J _ _ _ _ _ [(1, .slice as_ s_.length cs_), (2, .int .i64 op), (3, .pointer (some pt)), (7, .slice aout3 out3.length cout3), (8, .int .i64 p)] [Box pt [.int .i64 t.facts, .slice at_ t.init.length ct, .slice at_2 t.goal.length ct2, .slice at_3 t.ops.length ct3], OwnSl 3 1 aout3 out3.length cout3 (flL out3)] h
      refine .region ?_
      refine .v (mv rfl) rfl rfl rfl ?_
      refine .v (bi rfl rfl rfl) rfl rfl rfl ?_
      refine .v (asg rfl) rfl rfl rfl ?_
      refine .nil ?_
      exact .round (IntKind.i64.wrap (p + 1), out3, aout3, cout3) hF.1 hF.2 (.cons rfl (.cons rfl (.cons rfl (.cons rfl (.cons rfl (.nil)))))) rfl (FH.le_refl _)
    refine .block ?_
    refine .share (σ := Bool) (fun z => F_after_J2 z out p I1 μ1) (fun z => [(1, .slice as_ s_.length cs_), (2, .int .i64 op), (3, .pointer (some pt)), (7, .slice aout out.length cout), (8, .int .i64 p), (38, .bool z)]) (fun _ => [Box pt [.int .i64 t.facts, .slice at_ t.init.length ct, .slice at_2 t.goal.length ct2, .slice at_3 t.ops.length ct3], OwnSl 3 1 aout out.length cout (flL out)]) (fun _ => h) ?_ (fun q454 => ?_)
    · rintro t38 hF
      show J _ _ _ _ _ [(1, .slice as_ s_.length cs_), (2, .int .i64 op), (3, .pointer (some pt)), (7, .slice aout out.length cout), (8, .int .i64 p), (38, .bool t38)] [Box pt [.int .i64 t.facts, .slice at_ t.init.length ct, .slice at_2 t.goal.length ct2, .slice at_3 t.ops.length ct3], OwnSl 3 1 aout out.length cout (flL out)] h
      refine .cond rfl (fun q455 => ?_) (fun q455 => ?_)
      · replace hF := hF.1 q455
        refine .region ?_
        refine .v (mv rfl) rfl rfl rfl ?_
        refine .v (mv rfl) rfl rfl rfl ?_
        refine bs2 (cs := #[.int .i64 p]) (pv := [(0, .int .i64 p)]) tS22 rfl rfl (by decide) (by decide) rfl rfl rfl (fun a _ => ?_)
        refine .cast (A' := [OwnSl 3 1 a (([p] : List Int).length) 1 (flL ([p] : List Int)), Box pt [.int .i64 t.facts, .slice at_ t.init.length ct, .slice at_2 t.goal.length ct2, .slice at_3 t.ops.length ct3], OwnSl 3 1 aout out.length cout (flL out)]) rfl ?_
        obtain ⟨q457, hF⟩ := hF
        have q458 : out.length + ([p] : List Int).length = ((out ++ ([p] : List Int))).length := len_app rfl rfl
        refine app (k := 2) (news := flL ([p] : List Int)) (cs' := flL (out ++ ([p] : List Int))) (nm := ((out ++ ([p] : List Int))).length) tS22 rfl (by decide) rfl rfl rfl (by rw [flL_len]; rfl) (srcS (k := 0) rfl) (flL_one _) (room_of q458 q457).1 (room_of q458 q457).2 q458 (flL_append _ _).symm rfl (fun a2 c => ?_)
        refine .cast (A' := [OwnSl 3 1 a (([p] : List Int).length) 1 (flL ([p] : List Int)), Box pt [.int .i64 t.facts, .slice at_ t.init.length ct, .slice at_2 t.goal.length ct2, .slice at_3 t.ops.length ct3], OwnSl 3 1 a2 ((out ++ ([p] : List Int)).length) c (flL (out ++ ([p] : List Int)))]) rfl ?_
        refine .v (asg rfl) rfl rfl rfl ?_
        refine .nil ?_
        refine .blkN ?_
        refine .sel0 [1, 2] (by decide) rfl ?_
        exact .use q437 ((out ++ ([p] : List Int)), a2, c) hF (.cons rfl (.cons rfl (.cons rfl (.cons rfl (.cons rfl (.nil)))))) rfl (FH.le_refl _)
      replace hF := hF.2 q455
      refine .skip ?_
      refine .blkN ?_
      exact .use q437 (out, aout, cout) hF (.cons rfl (.cons rfl (.cons rfl (.cons rfl (.cons rfl (.nil)))))) rfl (FH.le_refl _)
    refine .region ?_
    refine .v (fa rfl tF25_3) rfl rfl rfl ?_
    refine .v (ld1 rfl tO23 (cellB (off := 3) (k := 0) rfl rfl)) rfl rfl rfl ?_
    refine .v (mv rfl) rfl rfl rfl ?_
    obtain ⟨q459, hF⟩ := hF
    refine .v (ix rfl rfl tS23 (_q5.ne (by decide) (inb_pos q459)) q459) rfl rfl rfl ?_
    refine .v (fa rfl tF54_1) rfl rfl rfl ?_
    obtain ⟨_, ⟨a3, c2, a4, c3, a5, c4, rfl, ⟨q460, q461⟩, ⟨q462, q463⟩, q464, q465⟩, q466⟩ := _q5.elem q459
    refine .v (ld1 (v := .slice a4 ((gt t.ops op).add.length) c3) rfl tO22 (cellH (q466 (by decide) 1 _ rfl))) rfl rfl rfl ?_
    refine .v (mv rfl) rfl rfl rfl ?_
    obtain ⟨q467, hF⟩ := hF
    obtain ⟨r2, q468⟩ : ∃ y_ : Bool, y_ = sp_has ((gt t.ops op).add) p := ⟨_, rfl⟩
    replace hF := hF r2 q468
    refine .c (cl (v := .bool r2) Tryz.call76 rfl rfl (fun w S => (by rw [q468]; exact c_has S.sub ((gt t.ops op).add) a4 c3 q463 q462 p q467))) rfl rfl rfl ?_
    refine .v (mv rfl) rfl rfl rfl ?_
    rcases Bool.eq_false_or_eq_true (r2) with q469 | q469
    · replace hF := hF.1 q469
      refine .gS rfl rfl rfl q469 rfl rfl ?_
      refine .gS rfl rfl rfl q469 rfl rfl ?_
      refine .gS rfl rfl rfl q469 rfl rfl ?_
      refine .gS rfl rfl rfl q469 rfl rfl ?_
      refine .gU rfl rfl rfl rfl rfl ?_
      refine .gU rfl rfl rfl rfl rfl ?_
      refine .gU rfl rfl rfl rfl rfl ?_
      refine .gU rfl rfl rfl rfl rfl ?_
      refine .gU rfl rfl rfl rfl rfl ?_
      refine .gU rfl rfl rfl rfl rfl ?_
      refine .gU rfl rfl rfl rfl rfl ?_
      refine .gU rfl rfl rfl rfl rfl ?_
      refine .gU rfl rfl rfl rfl rfl ?_
      refine .gS rfl rfl rfl q469 rfl rfl ?_
      refine .v (pkT rfl q469 rfl) rfl rfl rfl ?_
      refine .nil ?_
      exact .use q454 true hF (.cons rfl (.cons rfl (.cons rfl (.cons rfl (.cons rfl (.cons rfl (.nil))))))) rfl (FH.le_refl _)
    replace hF := hF.2 q469
    refine .gv (mv rfl) rfl rfl rfl q469 rfl rfl ?_
    refine .gv (mv rfl) rfl rfl rfl q469 rfl rfl ?_
    obtain ⟨q470, hF⟩ := hF
    obtain ⟨r3, q471⟩ : ∃ y_ : Bool, y_ = sp_has s_ p := ⟨_, rfl⟩
    replace hF := hF r3 q471
    refine .gc (cl (v := .bool r3) Tryz.call76 rfl rfl (fun w S => (by rw [q471]; exact c_has S.sub s_ as_ cs_ _q7 _q8 p q470))) rfl rfl rfl q469 rfl rfl ?_
    refine .gv (mv rfl) rfl rfl rfl q469 rfl rfl ?_
    rcases Bool.eq_false_or_eq_true (r3) with q472 | q472
    · replace hF := hF.1 q472
      refine .gv (fa rfl tF25_3) rfl rfl rfl q472 rfl rfl ?_
      refine .gv (ld1 rfl tO23 (cellB (off := 3) (k := 0) rfl rfl)) rfl rfl rfl q472 rfl rfl ?_
      refine .gv (mv rfl) rfl rfl rfl q472 rfl rfl ?_
      refine .gv (ix rfl rfl tS23 (_q5.ne (by decide) (inb_pos q459)) q459) rfl rfl rfl q472 rfl rfl ?_
      refine .gv (fa rfl tF54_2) rfl rfl rfl q472 rfl rfl ?_
      refine .gv (ld1 (v := .slice a5 ((gt t.ops op).del.length) c4) rfl tO22 (cellH (q466 (by decide) 2 _ rfl))) rfl rfl rfl q472 rfl rfl ?_
      refine .gv (mv rfl) rfl rfl rfl q472 rfl rfl ?_
      obtain ⟨q473, hF⟩ := hF
      obtain ⟨r4, q474⟩ : ∃ y_ : Bool, y_ = sp_has ((gt t.ops op).del) p := ⟨_, rfl⟩
      replace hF := hF r4 q474
      refine .gc (cl (v := .bool r4) Tryz.call76 rfl rfl (fun w S => (by rw [q474]; exact c_has S.sub ((gt t.ops op).del) a5 c4 q465 q464 p q473))) rfl rfl rfl q472 rfl rfl ?_
      refine .gv (nt rfl) rfl rfl rfl q472 rfl rfl ?_
      refine .gv (pkT rfl q472 rfl) rfl rfl rfl q469 rfl rfl ?_
      refine .v (pkF rfl q469 rfl) rfl rfl rfl ?_
      refine .nil ?_
      exact .use q454 (!r4) hF (.cons rfl (.cons rfl (.cons rfl (.cons rfl (.cons rfl (.cons rfl (.nil))))))) rfl (FH.le_refl _)
    replace hF := hF.2 q472
    refine .gS rfl rfl rfl q472 rfl rfl ?_
    refine .gS rfl rfl rfl q472 rfl rfl ?_
    refine .gS rfl rfl rfl q472 rfl rfl ?_
    refine .gS rfl rfl rfl q472 rfl rfl ?_
    refine .gS rfl rfl rfl q472 rfl rfl ?_
    refine .gS rfl rfl rfl q472 rfl rfl ?_
    refine .gS rfl rfl rfl q472 rfl rfl ?_
    refine .gS rfl rfl rfl q472 rfl rfl ?_
    refine .gS rfl rfl rfl q472 rfl rfl ?_
    refine .gv (pkF rfl q472 rfl) rfl rfl rfl q469 rfl rfl ?_
    refine .v (pkF rfl q469 rfl) rfl rfl rfl ?_
    refine .nil ?_
    exact .use q454 false hF (.cons rfl (.cons rfl (.cons rfl (.cons rfl (.cons rfl (.cons rfl (.nil))))))) rfl (FH.le_refl _)
  replace hF := hF.2 q399
  refine .exit ?_
  refine .seqX ?_
  refine .seqX ?_
  refine .blkX ?_
  refine .seqN ?_
  refine .seq ?_
  refine .region ?_
  refine .v (mv rfl) rfl rfl rfl ?_
  refine .v (asg rfl) rfl rfl rfl ?_
  refine .nil ?_
  refine .seqN ?_
  refine .freezeL (k := 1) rfl (fun h1 le1 q476 q475 => ?_)
  refine .cast (A' := [Box pt [.int .i64 t.facts, .slice at_ t.init.length ct, .slice at_2 t.goal.length ct2, .slice at_3 t.ops.length ct3], tru]) rfl ?_
  refine .ret ?_
  refine .res1 rfl (rvT rfl) (fun w' S => ⟨out, (aout, cout), h1, hF, rfl, (le1), ⟨(RSl.of q475), (q476)⟩, S.none⟩)

theorem c_after {h : FH} {w : World} (hs : Sub h w) (t : Task) (at_ : Option Addr) (ct : Nat) (_q1 : RSl h at_ t.init) (_q2 : t.init.length ≤ ct) (at_2 : Option Addr) (ct2 : Nat) (_q3 : RSl h at_2 t.goal) (_q4 : t.goal.length ≤ ct2) (at_3 : Option Addr) (ct3 : Nat) (_q5 : RSl h at_3 t.ops) (_q6 : t.ops.length ≤ ct3) (s_ : List Int) (as_ : Option Addr) (cs_ : Nat) (_q7 : RSl h as_ s_) (_q8 : s_.length ≤ cs_) (op : Int) (hp : pre_after t s_ op) : Calls Tryz.prog 64 #[.agg #[.int .i64 t.facts, .slice at_ t.init.length ct, .slice at_2 t.goal.length ct2, .slice at_3 t.ops.length ct3], .slice as_ s_.length cs_, .int .i64 op] w fun e w' => ∃ (z : Option Addr × Nat) (h1 : FH), e = .returned (.slice z.1 (sp_after t s_ op).length z.2) ∧ FH.le h h1 ∧ (RSl h1 z.1 (sp_after t s_ op) ∧ (sp_after t s_ op).length ≤ z.2) ∧ SH (Kp.all w h) h1 w' [] :=
  (w_after hs t at_ ct _q1 _q2 at_2 ct2 _q3 _q4 at_3 ct3 _q5 _q6 s_ as_ cs_ _q7 _q8 op (fun r => r = sp_after t s_ op) (ok_after t s_ op hp)).mono fun _ _ ⟨r, z, h1, hk, he, hl, hf, hS⟩ => by subst hk; exact ⟨z, h1, he, hl, hf, hS⟩

end Go.Proofs.YtojoehfldbimpaaGreatDoor.Pl

