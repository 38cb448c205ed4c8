/- The walks: from what each function asks to what it does; printed from the code. No condition. -/
import Derived.Test.YtkcamohhjaibaaaW3
namespace Go.Proofs.Ytkcamohhjaibaaa.Pl
open Go Go.RowKit
theorem w_awaited {h : FH} {w : World} (hs : Sub h w) (K : Bool → Prop) (hF : F_awaited  K) : Calls Try.prog 7 #[] w fun e w' => ∃ r : Bool, K r ∧ e = .returned (.bool r) ∧ Below w.heap.size w w' := by
  refine enter (args := []) Try.func7 rfl Try.ntmps7 rfl hs ?_
  refine .seq ?_
  refine .region ?_
  refine .v (asg rfl) rfl rfl rfl ?_
  refine .nil ?_
  refine .seqN ?_
  refine .seq ?_
  refine .region ?_
  refine .v (bld (cs := #[.int .i64 1, .int .i64 2, .int .i64 0, .int .i64 9]) (pv := [(0, .int .i64 1), (1, .int .i64 2), (2, .int .i64 0), (3, .int .i64 9)]) tB48 rfl rfl) rfl rfl rfl ?_
  refine bs2 (cs := #[.int .i64 1, .int .i64 2, .int .i64 0, .int .i64 9]) (pv := [(0, .agg #[.int .i64 1, .int .i64 2, .int .i64 0, .int .i64 9])]) tS22 rfl rfl (by decide) (by decide) rfl rfl rfl (fun a _ => ?_)
  refine .cast (A' := [OwnSl 48 4 a (([(⟨1, 2, 0, 9⟩ : Link)] : List Link).length) 1 (flL ([(⟨1, 2, 0, 9⟩ : Link)] : List Link))]) rfl ?_
  refine .v (bld (cs := #[.int .i64 3, .slice a (([(⟨1, 2, 0, 9⟩ : Link)] : List Link).length) 1]) (pv := [(0, .int .i64 3), (1, .slice a (([(⟨1, 2, 0, 9⟩ : Link)] : List Link).length) 1)]) tB24 rfl rfl) rfl rfl rfl ?_
  refine .v (bld (cs := #[.int .i64 0, .int .i64 1, .int .i64 1, .int .i64 3]) (pv := [(0, .int .i64 0), (1, .int .i64 1), (2, .int .i64 1), (3, .int .i64 3)]) tB48 rfl rfl) rfl rfl rfl ?_
  refine bs2 (cs := #[.int .i64 0, .int .i64 1, .int .i64 1, .int .i64 3]) (pv := [(0, .agg #[.int .i64 0, .int .i64 1, .int .i64 1, .int .i64 3])]) tS22 rfl rfl (by decide) (by decide) rfl rfl rfl (fun a2 _ => ?_)
  refine .cast (A' := [OwnSl 48 4 a2 (([(⟨0, 1, 1, 3⟩ : Link)] : List Link).length) 1 (flL ([(⟨0, 1, 1, 3⟩ : Link)] : List Link)), OwnSl 48 4 a (([(⟨1, 2, 0, 9⟩ : Link)] : List Link).length) 1 (flL ([(⟨1, 2, 0, 9⟩ : Link)] : List Link))]) rfl ?_
  refine .v (bld (cs := #[.int .i64 3, .slice a (([(⟨1, 2, 0, 9⟩ : Link)] : List Link).length) 1, .slice a2 (([(⟨0, 1, 1, 3⟩ : Link)] : List Link).length) 1]) (pv := [(0, .agg #[.int .i64 3, .slice a (([(⟨1, 2, 0, 9⟩ : Link)] : List Link).length) 1]), (1, .slice a2 (([(⟨0, 1, 1, 3⟩ : Link)] : List Link).length) 1)]) tB26 rfl rfl) rfl rfl rfl ?_
  refine al tZ26 rfl (fun pu => ?_)
  refine st (p := pu) (off := 0) (k := 0) (vs := [.int .i64 3, .slice a (([(⟨1, 2, 0, 9⟩ : Link)] : List Link).length) 1, .slice a2 (([(⟨0, 1, 1, 3⟩ : Link)] : List Link).length) 1]) rfl rfl rfl (fun w => (tA26 w).2) rfl rfl rfl rfl ?_
  refine .cast (A' := [Box pu [.int .i64 3, .slice a (([(⟨1, 2, 0, 9⟩ : Link)] : List Link).length) 1, .slice a2 (([(⟨0, 1, 1, 3⟩ : Link)] : List Link).length) 1], OwnSl 48 4 a2 (([(⟨0, 1, 1, 3⟩ : Link)] : List Link).length) 1 (flL ([(⟨0, 1, 1, 3⟩ : Link)] : List Link)), OwnSl 48 4 a (([(⟨1, 2, 0, 9⟩ : Link)] : List Link).length) 1 (flL ([(⟨1, 2, 0, 9⟩ : Link)] : List Link))]) rfl ?_
  refine .nil ?_
  refine .seqN ?_
  refine .seq ?_
  refine .region ?_
  refine .v (ldA (cs := [.int .i64 3, .slice a (([(⟨1, 2, 0, 9⟩ : Link)] : List Link).length) 1, .slice a2 (([(⟨0, 1, 1, 3⟩ : Link)] : List Link).length) 1]) rfl tA26 rfl (cellsB (off := 0) (k := 0) rfl (m := 3) rfl)) rfl rfl rfl ?_
  refine .freezeL (k := 2) rfl (fun h1 le1 q4 q3 => ?_)
  refine .cast (A' := [Box pu [.int .i64 3, .slice a (([(⟨1, 2, 0, 9⟩ : Link)] : List Link).length) 1, .slice a2 (([(⟨0, 1, 1, 3⟩ : Link)] : List Link).length) 1], OwnSl 48 4 a2 (([(⟨0, 1, 1, 3⟩ : Link)] : List Link).length) 1 (flL ([(⟨0, 1, 1, 3⟩ : Link)] : List Link)), tru]) rfl ?_
  refine .freezeL (k := 1) rfl (fun h2 le2 q6 q5 => ?_)
  refine .cast (A' := [Box pu [.int .i64 3, .slice a (([(⟨1, 2, 0, 9⟩ : Link)] : List Link).length) 1, .slice a2 (([(⟨0, 1, 1, 3⟩ : Link)] : List Link).length) 1], tru, tru]) rfl ?_
  obtain ⟨r2, q7⟩ : ∃ y_ : List Int × Bool × Fault, y_ = sp_strong (⟨(⟨3, ([(⟨1, 2, 0, 9⟩ : Link)] : List Link)⟩ : Network), ([(⟨0, 1, 1, 3⟩ : Link)] : List Link)⟩ : Uncertain) := ⟨_, rfl⟩
  replace hF := hF r2 q7
  refine clO (α := Option Addr × Nat) (V := fun z => .tuple #[.slice z.1 r2.1.length z.2, .bool r2.2.1, .agg #[.int .i64 r2.2.2.code, .int .i64 r2.2.2.index]]) (Ψ := fun z => True) (B := fun z => [OwnSl 3 1 z.1 r2.1.length z.2 (flL r2.1)]) Try.call10 rfl rfl (fun w S => (by rw [q7]; exact c_strong S.sub (⟨(⟨3, ([(⟨1, 2, 0, 9⟩ : Link)] : List Link)⟩ : Network), ([(⟨0, 1, 1, 3⟩ : Link)] : List Link)⟩ : Uncertain) a 1 ((RSl.of q3).mono (le2)) (q4) a2 1 (RSl.of q5) (q6) )) rfl (fun z _ => ?_)
  obtain ⟨a3, c⟩ := z
  refine .cast (A' := [OwnSl 3 1 a3 r2.1.length c (flL r2.1), Box pu [.int .i64 3, .slice a (([(⟨1, 2, 0, 9⟩ : Link)] : List Link).length) 1, .slice a2 (([(⟨0, 1, 1, 3⟩ : Link)] : List Link).length) 1], tru, tru]) rfl ?_
  refine .v (mv rfl) rfl rfl rfl ?_
  refine .v (ext rfl rfl) rfl rfl rfl ?_
  refine .v (ext rfl rfl) rfl rfl rfl ?_
  refine .v (ext rfl rfl) rfl rfl rfl ?_
  refine al tZ28 rfl (fun pf => ?_)
  refine .v (asg rfl) rfl rfl rfl ?_
  refine .v (asg rfl) rfl rfl rfl ?_
  refine st (p := pf) (off := 0) (k := 0) (vs := [.int .i64 r2.2.2.code, .int .i64 r2.2.2.index]) rfl rfl rfl (fun w => (tA28 w).2) rfl rfl rfl rfl ?_
  refine .cast (A' := [Box pf [.int .i64 r2.2.2.code, .int .i64 r2.2.2.index], OwnSl 3 1 a3 r2.1.length c (flL r2.1), Box pu [.int .i64 3, .slice a (([(⟨1, 2, 0, 9⟩ : Link)] : List Link).length) 1, .slice a2 (([(⟨0, 1, 1, 3⟩ : Link)] : List Link).length) 1], tru, tru]) rfl ?_
  refine .nil ?_
  refine .seqN ?_
  refine .seq ?_
  refine .region ?_
  refine .v (fa rfl tF28_0) rfl rfl rfl ?_
  refine .v (ld1 rfl tO3 (cellB (off := 0) (k := 0) rfl rfl)) rfl rfl rfl ?_
  refine .v (bi rfl rfl rfl) rfl rfl rfl ?_
  refine .v (mv rfl) rfl rfl rfl ?_
  rcases Bool.eq_false_or_eq_true (r2.2.2.code == 0) with q17 | q17
  · replace hF := hF.1 q17
    refine .gv (mv rfl) rfl rfl rfl q17 rfl rfl ?_
    refine .v (pkT rfl q17 rfl) rfl rfl rfl ?_
    refine .v (mv rfl) rfl rfl rfl ?_
    rcases Bool.eq_false_or_eq_true (r2.2.1) with q18 | q18
    · replace hF := hF.1 q18
      refine .gv (mv rfl) rfl rfl rfl q18 rfl rfl ?_
      refine .gR rfl rfl rfl q18 ?_
      refine bs2 (cs := #[.int .i64 0, .int .i64 (-1), .int .i64 3]) (pv := [(0, .int .i64 0), (1, .int .i64 (-1)), (2, .int .i64 3)]) tS35 rfl rfl (by decide) (by decide) rfl rfl rfl (fun a4 _ => ?_)
      refine .cast (A' := [OwnSl 3 1 a4 (([0, (-1), 3] : List Int).length) 3 (flL ([0, (-1), 3] : List Int)), Box pf [.int .i64 r2.2.2.code, .int .i64 r2.2.2.index], OwnSl 3 1 a3 r2.1.length c (flL r2.1), Box pu [.int .i64 3, .slice a (([(⟨1, 2, 0, 9⟩ : Link)] : List Link).length) 1, .slice a2 (([(⟨0, 1, 1, 3⟩ : Link)] : List Link).length) 1], tru, tru]) rfl ?_
      refine .freezeL (k := 2) rfl (fun h5 le5 q21 q20 => ?_)
      refine .cast (A' := [OwnSl 3 1 a4 (([0, (-1), 3] : List Int).length) 3 (flL ([0, (-1), 3] : List Int)), Box pf [.int .i64 r2.2.2.code, .int .i64 r2.2.2.index], tru, Box pu [.int .i64 3, .slice a (([(⟨1, 2, 0, 9⟩ : Link)] : List Link).length) 1, .slice a2 (([(⟨0, 1, 1, 3⟩ : Link)] : List Link).length) 1], tru, tru]) rfl ?_
      refine .freezeL (k := 0) rfl (fun h6 le6 q23 q22 => ?_)
      refine .cast (A' := [tru, Box pf [.int .i64 r2.2.2.code, .int .i64 r2.2.2.index], tru, Box pu [.int .i64 3, .slice a (([(⟨1, 2, 0, 9⟩ : Link)] : List Link).length) 1, .slice a2 (([(⟨0, 1, 1, 3⟩ : Link)] : List Link).length) 1], tru, tru]) rfl ?_
      obtain ⟨q24, hF⟩ := hF
      obtain ⟨r3, q25⟩ : ∃ y_ : Bool, y_ = sp_numbers r2.1 ([0, (-1), 3] : List Int) := ⟨_, rfl⟩
      replace hF := hF r3 q25
      refine .gc (cl (v := .bool r3) Try.call18 rfl rfl (fun w S => (by rw [q25]; exact c_numbers S.sub r2.1 a3 c ((RSl.of q20).mono (le6)) (q21) ([0, (-1), 3] : List Int) a4 3 (RSl.of q22) (q23) q24))) rfl rfl rfl q18 rfl rfl ?_
      refine .v (pkT rfl q18 rfl) rfl rfl rfl ?_
      refine .v (asg rfl) rfl rfl rfl ?_
      refine .nil ?_
      refine .seqN ?_
      refine .ret ?_
      refine .res1 rfl (rvT rfl) (fun w' S => ⟨r3, hF, rfl, S.below⟩)
    replace hF := hF.2 q18
    refine .gS rfl rfl rfl q18 rfl rfl ?_
    refine .gS rfl rfl rfl q18 rfl rfl ?_
    refine .gS rfl rfl rfl q18 rfl rfl ?_
    refine .v (pkF rfl q18 rfl) rfl rfl rfl ?_
    refine .v (asg rfl) rfl rfl rfl ?_
    refine .nil ?_
    refine .seqN ?_
    refine .ret ?_
    refine .res1 rfl (rvT rfl) (fun w' S => ⟨false, hF, rfl, S.below⟩)
  replace hF := hF.2 q17
  refine .gS rfl rfl rfl q17 rfl rfl ?_
  refine .v (pkF rfl q17 rfl) rfl rfl rfl ?_
  refine .v (mv rfl) rfl rfl rfl ?_
  refine .gS rfl rfl rfl rfl rfl rfl ?_
  refine .gS rfl rfl rfl rfl rfl rfl ?_
  refine .gS rfl rfl rfl rfl rfl rfl ?_
  refine .v (pkF rfl rfl rfl) rfl rfl rfl ?_
  refine .v (asg rfl) rfl rfl rfl ?_
  refine .nil ?_
  refine .seqN ?_
  refine .ret ?_
  refine .res1 rfl (rvT rfl) (fun w' S => ⟨false, hF, rfl, S.below⟩)

theorem c_awaited {h : FH} {w : World} (hs : Sub h w) : Calls Try.prog 7 #[] w fun e w' => e = .returned (.bool (sp_awaited)) ∧ Below w.heap.size w w' :=
  (w_awaited hs  (fun r => r = sp_awaited) (ok_awaited )).mono fun _ _ ⟨_, hk, he, hb⟩ => ⟨by rw [he, hk], hb⟩

set_option maxHeartbeats 8000000 in
theorem w_lawWeakMatchesSpec {h : FH} {w : World} (hs : Sub h w) (u : Uncertain) (au : Option Addr) (cu : Nat) (_q1 : RSl h au u.network.links) (_q2 : u.network.links.length ≤ cu) (au2 : Option Addr) (cu2 : Nat) (_q3 : RSl h au2 u.contingent) (_q4 : u.contingent.length ≤ cu2) (K : Bool → Prop) (hF : F_lawWeakMatchesSpec u K) : Calls Try.prog 3 #[.agg #[.int .i64 u.network.events, .slice au u.network.links.length cu, .slice au2 u.contingent.length cu2]] w fun e w' => ∃ r : Bool, K r ∧ e = .returned (.bool r) ∧ Below w.heap.size w w' := by
  refine enter (args := [.agg #[.int .i64 u.network.events, .slice au u.network.links.length cu, .slice au2 u.contingent.length cu2]]) Try.func3 rfl Try.ntmps3 rfl hs ?_
  refine .seq ?_
  refine .region ?_
  refine bx (vs := [.int .i64 u.network.events, .slice au u.network.links.length cu, .slice au2 u.contingent.length cu2]) rfl rfl rfl (fun pu => ?_)
  refine .v (asg rfl) rfl rfl rfl ?_
  refine .nil ?_
  refine .seqN ?_
  refine .seq ?_
  refine .region ?_
  refine .v (ldA (cs := [.int .i64 u.network.events, .slice au u.network.links.length cu, .slice au2 u.contingent.length cu2]) rfl tA26 rfl (cellsB (off := 0) (k := 0) rfl (m := 3) rfl)) rfl rfl rfl ?_
  obtain ⟨r2, q5⟩ : ∃ y_ : Bool × Fault, y_ = sp_weak u := ⟨_, rfl⟩
  replace hF := hF r2 q5
  refine .c (cl (v := .tuple #[.bool r2.1, .agg #[.int .i64 r2.2.code, .int .i64 r2.2.index]]) Try.call5 rfl rfl (fun w S => (by rw [q5]; exact c_weak S.sub u au cu _q1 _q2 au2 cu2 _q3 _q4 ))) rfl rfl rfl ?_
  refine .v (mv rfl) rfl rfl rfl ?_
  refine .v (ext rfl rfl) rfl rfl rfl ?_
  refine .v (ext rfl rfl) rfl rfl rfl ?_
  refine al tZ28 rfl (fun pf => ?_)
  refine .v (asg rfl) rfl rfl rfl ?_
  refine st (p := pf) (off := 0) (k := 0) (vs := [.int .i64 r2.2.code, .int .i64 r2.2.index]) rfl rfl rfl (fun w => (tA28 w).2) rfl rfl rfl rfl ?_
  refine .cast (A' := [Box pf [.int .i64 r2.2.code, .int .i64 r2.2.index], Box pu [.int .i64 u.network.events, .slice au u.network.links.length cu, .slice au2 u.contingent.length cu2]]) rfl ?_
  refine .nil ?_
  refine .seqN ?_
  refine .seq ?_
  refine .region ?_
  refine .v (ldA (cs := [.int .i64 u.network.events, .slice au u.network.links.length cu, .slice au2 u.contingent.length cu2]) rfl tA26 rfl (cellsB (off := 0) (k := 1) rfl (m := 3) rfl)) rfl rfl rfl ?_
  obtain ⟨r3, q6⟩ : ∃ y_ : Fault, y_ = sp_uvalidate u := ⟨_, rfl⟩
  replace hF := hF r3 q6
  refine .c (cl (v := .agg #[.int .i64 r3.code, .int .i64 r3.index]) Try.call6 rfl rfl (fun w S => (by rw [q6]; exact c_uncertainFault S.sub u au cu _q1 _q2 au2 cu2 _q3 _q4 ))) rfl rfl rfl ?_
  refine al tZ28 rfl (fun pe => ?_)
  refine st (p := pe) (off := 0) (k := 0) (vs := [.int .i64 r3.code, .int .i64 r3.index]) rfl rfl rfl (fun w => (tA28 w).2) rfl rfl rfl rfl ?_
  refine .cast (A' := [Box pe [.int .i64 r3.code, .int .i64 r3.index], Box pf [.int .i64 r2.2.code, .int .i64 r2.2.index], Box pu [.int .i64 u.network.events, .slice au u.network.links.length cu, .slice au2 u.contingent.length cu2]]) rfl ?_
  refine .nil ?_
  refine .seqN ?_
  refine .seq ?_
  refine .seq ?_
  refine .region ?_
  refine .v (fa rfl tF28_0) rfl rfl rfl ?_
  refine .v (ld1 rfl tO3 (cellB (off := 0) (k := 0) rfl rfl)) rfl rfl rfl ?_
  refine .v (bi rfl rfl rfl) rfl rfl rfl ?_
  refine .nil ?_
  refine .seqN ?_
  refine .cond rfl (fun q14 => ?_) (fun q14 => ?_)
  · replace hF := hF.1 q14
    refine .seq ?_
    refine .region ?_
    refine .v (ldA (cs := [.int .i64 r2.2.code, .int .i64 r2.2.index]) rfl tA28 rfl (cellsB (off := 0) (k := 1) rfl (m := 2) rfl)) rfl rfl rfl ?_
    refine .v (ldA (cs := [.int .i64 r3.code, .int .i64 r3.index]) rfl tA28 rfl (cellsB (off := 0) (k := 0) rfl (m := 2) rfl)) rfl rfl rfl ?_
    refine .v (eq2 tE28 rfl rfl) rfl rfl rfl ?_
    refine .v (mv rfl) rfl rfl rfl ?_
    rcases Bool.eq_false_or_eq_true ((r2.2.code == r3.code) && (r2.2.index == r3.index)) with q18 | q18
    · replace hF := hF.1 q18
      refine .gv (mv rfl) rfl rfl rfl q18 rfl rfl ?_
      refine .gv (nt rfl) rfl rfl rfl q18 rfl rfl ?_
      refine .v (pkT rfl q18 rfl) rfl rfl rfl ?_
      refine .v (mv rfl) rfl rfl rfl ?_
      rcases Bool.eq_false_or_eq_true (!r2.1) with q19 | q19
      · replace hF := hF.1 q19
        obtain ⟨r4, q20⟩ : ∃ y_ : Bool, y_ = sp_awaited := ⟨_, rfl⟩
        replace hF := hF r4 q20
        refine .gc (cl (v := .bool r4) Try.call7 rfl rfl (fun w S => (by rw [q20]; exact c_awaited S.sub  ))) rfl rfl rfl q19 rfl rfl ?_
        refine .v (pkT rfl q19 rfl) rfl rfl rfl ?_
        refine .v (asg rfl) rfl rfl rfl ?_
        refine .nil ?_
        refine .seqN ?_
        refine .ret ?_
        refine .seqR ?_
        refine .res1 rfl (rvT rfl) (fun w' S => ⟨r4, hF, rfl, S.below⟩)
      replace hF := hF.2 q19
      refine .gS rfl rfl rfl q19 rfl rfl ?_
      refine .v (pkF rfl q19 rfl) rfl rfl rfl ?_
      refine .v (asg rfl) rfl rfl rfl ?_
      refine .nil ?_
      refine .seqN ?_
      refine .ret ?_
      refine .seqR ?_
      refine .res1 rfl (rvT rfl) (fun w' S => ⟨false, hF, rfl, S.below⟩)
    replace hF := hF.2 q18
    refine .gS rfl rfl rfl q18 rfl rfl ?_
    refine .gS rfl rfl rfl q18 rfl rfl ?_
    refine .v (pkF rfl q18 rfl) rfl rfl rfl ?_
    refine .v (mv rfl) rfl rfl rfl ?_
    refine .gS rfl rfl rfl rfl rfl rfl ?_
    refine .v (pkF rfl rfl rfl) rfl rfl rfl ?_
    refine .v (asg rfl) rfl rfl rfl ?_
    refine .nil ?_
    refine .seqN ?_
    refine .ret ?_
    refine .seqR ?_
    refine .res1 rfl (rvT rfl) (fun w' S => ⟨false, hF, rfl, S.below⟩)
  replace hF := hF.2 q14
  refine .skip ?_
  refine .seqN ?_
  refine .seq ?_
  refine .region ?_
  refine .v (fa rfl tF28_0) rfl rfl rfl ?_
  refine .v (ld1 rfl tO3 (cellB (off := 0) (k := 1) rfl rfl)) rfl rfl rfl ?_
  refine .v (bi rfl rfl rfl) rfl rfl rfl ?_
  refine .v (mv rfl) rfl rfl rfl ?_
  rcases Bool.eq_false_or_eq_true (r2.2.code == 0) with q30 | q30
  · replace hF := hF.1 q30
    refine .gv (ldA (cs := [.int .i64 u.network.events, .slice au u.network.links.length cu, .slice au2 u.contingent.length cu2]) rfl tA26 rfl (cellsB (off := 0) (k := 2) rfl (m := 3) rfl)) rfl rfl rfl q30 rfl rfl ?_
    obtain ⟨q31, hF⟩ := hF
    obtain ⟨r5, q32⟩ : ∃ y_ : Int, y_ = sp_choices u := ⟨_, rfl⟩
    replace hF := hF r5 q32
    refine .gc (cl (v := .int .i64 r5) Try.call8 rfl rfl (fun w S => (by rw [q32]; exact c_choices S.sub u au cu _q1 _q2 au2 cu2 _q3 _q4 q31))) rfl rfl rfl q30 rfl rfl ?_
    refine .gv (bi rfl rfl rfl) rfl rfl rfl q30 rfl rfl ?_
    refine .gv (mv rfl) rfl rfl rfl q30 rfl rfl ?_
    rcases Bool.eq_false_or_eq_true (decide (200 < r5)) with q33 | q33
    · replace hF := hF.1 q33
      refine .gS rfl rfl rfl q33 rfl rfl ?_
      refine .gS rfl rfl rfl q33 rfl rfl ?_
      refine .gS rfl rfl rfl q33 rfl rfl ?_
      refine .gS rfl rfl rfl q33 rfl rfl ?_
      refine .gv (pkT rfl q33 rfl) rfl rfl rfl q30 rfl rfl ?_
      refine .v (pkT rfl q30 rfl) rfl rfl rfl ?_
      refine .v (mv rfl) rfl rfl rfl ?_
      obtain ⟨r6, q34⟩ : ∃ y_ : Bool, y_ = sp_awaited := ⟨_, rfl⟩
      replace hF := hF r6 q34
      refine .gc (cl (v := .bool r6) Try.call7 rfl rfl (fun w S => (by rw [q34]; exact c_awaited S.sub  ))) rfl rfl rfl rfl rfl rfl ?_
      refine .v (pkT rfl rfl rfl) rfl rfl rfl ?_
      refine .v (asg rfl) rfl rfl rfl ?_
      refine .nil ?_
      refine .seqN ?_
      refine .ret ?_
      refine .res1 rfl (rvT rfl) (fun w' S => ⟨r6, hF, rfl, S.below⟩)
    replace hF := hF.2 q33
    refine .gv (mv rfl) rfl rfl rfl q33 rfl rfl ?_
    refine .gv (ldA (cs := [.int .i64 u.network.events, .slice au u.network.links.length cu, .slice au2 u.contingent.length cu2]) rfl tA26 rfl (cellsB (off := 0) (k := 2) rfl (m := 3) rfl)) rfl rfl rfl q33 rfl rfl ?_
    obtain ⟨q35, hF⟩ := hF
    obtain ⟨r7, q36⟩ : ∃ y_ : Bool, y_ = sp_weakFor u := ⟨_, rfl⟩
    replace hF := hF r7 q36
    refine .gc (cl (v := .bool r7) Try.call9 rfl rfl (fun w S => (by rw [q36]; exact c_weakFor S.sub u au cu _q1 _q2 au2 cu2 _q3 _q4 q35))) rfl rfl rfl q33 rfl rfl ?_
    refine .gv (beql Try.underlying4 rfl rfl) rfl rfl rfl q33 rfl rfl ?_
    refine .gv (pkF rfl q33 rfl) rfl rfl rfl q30 rfl rfl ?_
    refine .v (pkT rfl q30 rfl) rfl rfl rfl ?_
    refine .v (mv rfl) rfl rfl rfl ?_
    rcases Bool.eq_false_or_eq_true (r2.1 == r7) with q37 | q37
    · replace hF := hF.1 q37
      obtain ⟨r8, q38⟩ : ∃ y_ : Bool, y_ = sp_awaited := ⟨_, rfl⟩
      replace hF := hF r8 q38
      refine .gc (cl (v := .bool r8) Try.call7 rfl rfl (fun w S => (by rw [q38]; exact c_awaited S.sub  ))) rfl rfl rfl q37 rfl rfl ?_
      refine .v (pkT rfl q37 rfl) rfl rfl rfl ?_
      refine .v (asg rfl) rfl rfl rfl ?_
      refine .nil ?_
      refine .seqN ?_
      refine .ret ?_
      refine .res1 rfl (rvT rfl) (fun w' S => ⟨r8, hF, rfl, S.below⟩)
    replace hF := hF.2 q37
    refine .gS rfl rfl rfl q37 rfl rfl ?_
    refine .v (pkF rfl q37 rfl) rfl rfl rfl ?_
    refine .v (asg rfl) rfl rfl rfl ?_
    refine .nil ?_
    refine .seqN ?_
    refine .ret ?_
    refine .res1 rfl (rvT rfl) (fun w' S => ⟨false, hF, rfl, S.below⟩)
  replace hF := hF.2 q30
  refine .gS rfl rfl rfl q30 rfl rfl ?_
  refine .gS rfl rfl rfl q30 rfl rfl ?_
  refine .gS rfl rfl rfl q30 rfl rfl ?_
  refine .gS rfl rfl rfl q30 rfl rfl ?_
  refine .gU rfl rfl rfl rfl rfl ?_
  refine .gU rfl rfl rfl rfl rfl ?_
  refine .gU rfl rfl rfl rfl rfl ?_
  refine .gU rfl rfl rfl rfl rfl ?_
  refine .gS rfl rfl rfl q30 rfl rfl ?_
  refine .v (pkF rfl q30 rfl) rfl rfl rfl ?_
  refine .v (mv rfl) rfl rfl rfl ?_
  refine .gS rfl rfl rfl rfl rfl rfl ?_
  refine .v (pkF rfl rfl rfl) rfl rfl rfl ?_
  refine .v (asg rfl) rfl rfl rfl ?_
  refine .nil ?_
  refine .seqN ?_
  refine .ret ?_
  refine .res1 rfl (rvT rfl) (fun w' S => ⟨false, hF, rfl, S.below⟩)

theorem c_lawWeakMatchesSpec {h : FH} {w : World} (hs : Sub h w) (u : Uncertain) (au : Option Addr) (cu : Nat) (_q1 : RSl h au u.network.links) (_q2 : u.network.links.length ≤ cu) (au2 : Option Addr) (cu2 : Nat) (_q3 : RSl h au2 u.contingent) (_q4 : u.contingent.length ≤ cu2) : Calls Try.prog 3 #[.agg #[.int .i64 u.network.events, .slice au u.network.links.length cu, .slice au2 u.contingent.length cu2]] w fun e w' => e = .returned (.bool (sp_lawWeakMatchesSpec u)) ∧ Below w.heap.size w w' :=
  (w_lawWeakMatchesSpec hs u au cu _q1 _q2 au2 cu2 _q3 _q4 (fun r => r = sp_lawWeakMatchesSpec u) (ok_lawWeakMatchesSpec u)).mono fun _ _ ⟨_, hk, he, hb⟩ => ⟨by rw [he, hk], hb⟩

theorem w_lawStrongImpliesWeak {h : FH} {w : World} (hs : Sub h w) (u : Uncertain) (au : Option Addr) (cu : Nat) (_q1 : RSl h au u.network.links) (_q2 : u.network.links.length ≤ cu) (au2 : Option Addr) (cu2 : Nat) (_q3 : RSl h au2 u.contingent) (_q4 : u.contingent.length ≤ cu2) (K : Bool → Prop) (hF : F_lawStrongImpliesWeak u K) : Calls Try.prog 4 #[.agg #[.int .i64 u.network.events, .slice au u.network.links.length cu, .slice au2 u.contingent.length cu2]] w fun e w' => ∃ r : Bool, K r ∧ e = .returned (.bool r) ∧ Below w.heap.size w w' := by
  refine enter (args := [.agg #[.int .i64 u.network.events, .slice au u.network.links.length cu, .slice au2 u.contingent.length cu2]]) Try.func4 rfl Try.ntmps4 rfl hs ?_
  refine .seq ?_
  refine .region ?_
  refine bx (vs := [.int .i64 u.network.events, .slice au u.network.links.length cu, .slice au2 u.contingent.length cu2]) rfl rfl rfl (fun pu => ?_)
  refine .v (asg rfl) rfl rfl rfl ?_
  refine .nil ?_
  refine .seqN ?_
  refine .seq ?_
  refine .region ?_
  refine .v (ldA (cs := [.int .i64 u.network.events, .slice au u.network.links.length cu, .slice au2 u.contingent.length cu2]) rfl tA26 rfl (cellsB (off := 0) (k := 0) rfl (m := 3) rfl)) rfl rfl rfl ?_
  obtain ⟨r2, q5⟩ : ∃ y_ : List Int × Bool × Fault, y_ = sp_strong u := ⟨_, rfl⟩
  replace hF := hF r2 q5
  refine clO (α := Option Addr × Nat) (V := fun z => .tuple #[.slice z.1 r2.1.length z.2, .bool r2.2.1, .agg #[.int .i64 r2.2.2.code, .int .i64 r2.2.2.index]]) (Ψ := fun z => True) (B := fun z => [OwnSl 3 1 z.1 r2.1.length z.2 (flL r2.1)]) Try.call10 rfl rfl (fun w S => (by rw [q5]; exact c_strong S.sub u au cu _q1 _q2 au2 cu2 _q3 _q4 )) rfl (fun z _ => ?_)
  obtain ⟨a, c⟩ := z
  refine .cast (A' := [OwnSl 3 1 a r2.1.length c (flL r2.1), Box pu [.int .i64 u.network.events, .slice au u.network.links.length cu, .slice au2 u.contingent.length cu2]]) rfl ?_
  refine .v (mv rfl) rfl rfl rfl ?_
  refine .v (ext rfl rfl) rfl rfl rfl ?_
  refine .v (ext rfl rfl) rfl rfl rfl ?_
  refine .v (ext rfl rfl) rfl rfl rfl ?_
  refine al tZ28 rfl (fun pf => ?_)
  refine .v (asg rfl) rfl rfl rfl ?_
  refine .v (asg rfl) rfl rfl rfl ?_
  refine st (p := pf) (off := 0) (k := 0) (vs := [.int .i64 r2.2.2.code, .int .i64 r2.2.2.index]) rfl rfl rfl (fun w => (tA28 w).2) rfl rfl rfl rfl ?_
  refine .cast (A' := [Box pf [.int .i64 r2.2.2.code, .int .i64 r2.2.2.index], OwnSl 3 1 a r2.1.length c (flL r2.1), Box pu [.int .i64 u.network.events, .slice au u.network.links.length cu, .slice au2 u.contingent.length cu2]]) rfl ?_
  refine .nil ?_
  refine .seqN ?_
  refine .seq ?_
  refine .region ?_
  refine .v (ldA (cs := [.int .i64 u.network.events, .slice au u.network.links.length cu, .slice au2 u.contingent.length cu2]) rfl tA26 rfl (cellsB (off := 0) (k := 2) rfl (m := 3) rfl)) rfl rfl rfl ?_
  obtain ⟨r3, q6⟩ : ∃ y_ : Bool × Fault, y_ = sp_weak u := ⟨_, rfl⟩
  replace hF := hF r3 q6
  refine .c (cl (v := .tuple #[.bool r3.1, .agg #[.int .i64 r3.2.code, .int .i64 r3.2.index]]) Try.call5 rfl rfl (fun w S => (by rw [q6]; exact c_weak S.sub u au cu _q1 _q2 au2 cu2 _q3 _q4 ))) rfl rfl rfl ?_
  refine .v (mv rfl) rfl rfl rfl ?_
  refine .v (ext rfl rfl) rfl rfl rfl ?_
  refine .v (ext rfl rfl) rfl rfl rfl ?_
  refine al tZ28 rfl (fun pg => ?_)
  refine .v (asg rfl) rfl rfl rfl ?_
  refine st (p := pg) (off := 0) (k := 0) (vs := [.int .i64 r3.2.code, .int .i64 r3.2.index]) rfl rfl rfl (fun w => (tA28 w).2) rfl rfl rfl rfl ?_
  refine .cast (A' := [Box pg [.int .i64 r3.2.code, .int .i64 r3.2.index], Box pf [.int .i64 r2.2.2.code, .int .i64 r2.2.2.index], OwnSl 3 1 a r2.1.length c (flL r2.1), Box pu [.int .i64 u.network.events, .slice au u.network.links.length cu, .slice au2 u.contingent.length cu2]]) rfl ?_
  refine .nil ?_
  refine .seqN ?_
  refine .seq ?_
  refine .share (σ := Bool) (fun z => F_lawStrongImpliesWeak_J1 K r2 r3 z) (fun z => [(4, .bool r2.2.1), (5, .pointer (some pf)), (6, .bool r3.1), (7, .pointer (some pg)), (26, .bool z)]) (fun _ => [Box pf [.int .i64 r2.2.2.code, .int .i64 r2.2.2.index], Box pg [.int .i64 r3.2.code, .int .i64 r3.2.index]]) (fun _ => h) ?_ (fun q8 => ?_)
  · rintro t26 hF
    show J _ _ _ _ _ [(4, .bool r2.2.1), (5, .pointer (some pf)), (6, .bool r3.1), (7, .pointer (some pg)), (26, .bool t26)] [Box pf [.int .i64 r2.2.2.code, .int .i64 r2.2.2.index], Box pg [.int .i64 r3.2.code, .int .i64 r3.2.index]] h
    refine .cond rfl (fun q14 => ?_) (fun q14 => ?_)
    · replace hF := hF.1 q14
      refine .seq ?_
      refine .region ?_
      refine .v (ldA (cs := [.int .i64 r2.2.2.code, .int .i64 r2.2.2.index]) rfl tA28 rfl (cellsB (off := 0) (k := 0) rfl (m := 2) rfl)) rfl rfl rfl ?_
      refine .v (ldA (cs := [.int .i64 r3.2.code, .int .i64 r3.2.index]) rfl tA28 rfl (cellsB (off := 0) (k := 1) rfl (m := 2) rfl)) rfl rfl rfl ?_
      refine .v (eq2 tE28 rfl rfl) rfl rfl rfl ?_
      refine .v (mv rfl) rfl rfl rfl ?_
      rcases Bool.eq_false_or_eq_true ((r2.2.2.code == r3.2.code) && (r2.2.2.index == r3.2.index)) with q17 | q17
      · replace hF := hF.1 q17
        obtain ⟨r4, q18⟩ : ∃ y_ : Bool, y_ = sp_awaited := ⟨_, rfl⟩
        replace hF := hF r4 q18
        refine .gc (cl (v := .bool r4) Try.call7 rfl rfl (fun w S => (by rw [q18]; exact c_awaited S.sub  ))) rfl rfl rfl q17 rfl rfl ?_
        refine .v (pkT rfl q17 rfl) rfl rfl rfl ?_
        refine .v (asg rfl) rfl rfl rfl ?_
        refine .nil ?_
        refine .seqN ?_
        refine .ret ?_
        refine .seqR ?_
        refine .res1 rfl (rvT rfl) (fun w' S => ⟨r4, hF, rfl, S.below⟩)
      replace hF := hF.2 q17
      refine .gS rfl rfl rfl q17 rfl rfl ?_
      refine .v (pkF rfl q17 rfl) rfl rfl rfl ?_
      refine .v (asg rfl) rfl rfl rfl ?_
      refine .nil ?_
      refine .seqN ?_
      refine .ret ?_
      refine .seqR ?_
      refine .res1 rfl (rvT rfl) (fun w' S => ⟨false, hF, rfl, S.below⟩)
    replace hF := hF.2 q14
    refine .skip ?_
    refine .seqN ?_
    refine .seq ?_
    refine .region ?_
    refine .v (mv rfl) rfl rfl rfl ?_
    refine .v (nt rfl) rfl rfl rfl ?_
    refine .v (mv rfl) rfl rfl rfl ?_
    rcases Bool.eq_false_or_eq_true (!r2.2.1) with q23 | q23
    · replace hF := hF.1 q23
      refine .gS rfl rfl rfl q23 rfl rfl ?_
      refine .v (pkT rfl q23 rfl) rfl rfl rfl ?_
      refine .v (mv rfl) rfl rfl rfl ?_
      obtain ⟨r5, q24⟩ : ∃ y_ : Bool, y_ = sp_awaited := ⟨_, rfl⟩
      replace hF := hF r5 q24
      refine .gc (cl (v := .bool r5) Try.call7 rfl rfl (fun w S => (by rw [q24]; exact c_awaited S.sub  ))) rfl rfl rfl rfl rfl rfl ?_
      refine .v (pkT rfl rfl rfl) rfl rfl rfl ?_
      refine .v (asg rfl) rfl rfl rfl ?_
      refine .nil ?_
      refine .seqN ?_
      refine .ret ?_
      refine .res1 rfl (rvT rfl) (fun w' S => ⟨r5, hF, rfl, S.below⟩)
    replace hF := hF.2 q23
    refine .gv (mv rfl) rfl rfl rfl q23 rfl rfl ?_
    refine .v (pkF rfl q23 rfl) rfl rfl rfl ?_
    refine .v (mv rfl) rfl rfl rfl ?_
    rcases Bool.eq_false_or_eq_true (r3.1) with q25 | q25
    · replace hF := hF.1 q25
      obtain ⟨r6, q26⟩ : ∃ y_ : Bool, y_ = sp_awaited := ⟨_, rfl⟩
      replace hF := hF r6 q26
      refine .gc (cl (v := .bool r6) Try.call7 rfl rfl (fun w S => (by rw [q26]; exact c_awaited S.sub  ))) rfl rfl rfl q25 rfl rfl ?_
      refine .v (pkT rfl q25 rfl) rfl rfl rfl ?_
      refine .v (asg rfl) rfl rfl rfl ?_
      refine .nil ?_
      refine .seqN ?_
      refine .ret ?_
      refine .res1 rfl (rvT rfl) (fun w' S => ⟨r6, hF, rfl, S.below⟩)
    replace hF := hF.2 q25
    refine .gS rfl rfl rfl q25 rfl rfl ?_
    refine .v (pkF rfl q25 rfl) rfl rfl rfl ?_
    refine .v (asg rfl) rfl rfl rfl ?_
    refine .nil ?_
    refine .seqN ?_
    refine .ret ?_
    refine .res1 rfl (rvT rfl) (fun w' S => ⟨false, hF, rfl, S.below⟩)
  refine .region ?_
  refine .v (fa rfl tF28_0) rfl rfl rfl ?_
  refine .v (ld1 rfl tO3 (cellB (off := 0) (k := 1) rfl rfl)) rfl rfl rfl ?_
  refine .v (bi rfl rfl rfl) rfl rfl rfl ?_
  refine .v (mv rfl) rfl rfl rfl ?_
  rcases Bool.eq_false_or_eq_true (r2.2.2.code != 0) with q27 | q27
  · replace hF := hF.1 q27
    refine .gS rfl rfl rfl q27 rfl rfl ?_
    refine .gS rfl rfl rfl q27 rfl rfl ?_
    refine .gS rfl rfl rfl q27 rfl rfl ?_
    refine .v (pkT rfl q27 rfl) rfl rfl rfl ?_
    refine .nil ?_
    refine .sel0 [1, 0] (by decide) rfl ?_
    exact .use q8 true hF (.cons rfl (.cons rfl (.cons rfl (.cons rfl (.cons rfl (.nil)))))) rfl (FH.le_refl _)
  replace hF := hF.2 q27
  refine .gv (fa rfl tF28_0) rfl rfl rfl q27 rfl rfl ?_
  refine .gv (ld1 rfl tO3 (cellB (off := 0) (k := 0) rfl rfl)) rfl rfl rfl q27 rfl rfl ?_
  refine .gv (bi rfl rfl rfl) rfl rfl rfl q27 rfl rfl ?_
  refine .v (pkF rfl q27 rfl) rfl rfl rfl ?_
  refine .nil ?_
  refine .sel0 [1, 0] (by decide) rfl ?_
  exact .use q8 (r3.2.code != 0) hF (.cons rfl (.cons rfl (.cons rfl (.cons rfl (.cons rfl (.nil)))))) rfl (FH.le_refl _)

theorem c_lawStrongImpliesWeak {h : FH} {w : World} (hs : Sub h w) (u : Uncertain) (au : Option Addr) (cu : Nat) (_q1 : RSl h au u.network.links) (_q2 : u.network.links.length ≤ cu) (au2 : Option Addr) (cu2 : Nat) (_q3 : RSl h au2 u.contingent) (_q4 : u.contingent.length ≤ cu2) : Calls Try.prog 4 #[.agg #[.int .i64 u.network.events, .slice au u.network.links.length cu, .slice au2 u.contingent.length cu2]] w fun e w' => e = .returned (.bool (sp_lawStrongImpliesWeak u)) ∧ Below w.heap.size w w' :=
  (w_lawStrongImpliesWeak hs u au cu _q1 _q2 au2 cu2 _q3 _q4 (fun r => r = sp_lawStrongImpliesWeak u) (ok_lawStrongImpliesWeak u)).mono fun _ _ ⟨_, hk, he, hb⟩ => ⟨by rw [he, hk], hb⟩

end Go.Proofs.Ytkcamohhjaibaaa.Pl
