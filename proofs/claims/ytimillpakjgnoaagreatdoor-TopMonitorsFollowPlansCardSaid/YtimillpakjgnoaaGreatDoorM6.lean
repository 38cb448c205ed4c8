import Derived.Test.YtimillpakjgnoaaGreatDoorM1
import Derived.Test.YtimillpakjgnoaaGreatDoorM5
import Derived.Test.YtimillpakjgnoaaGreatDoorRows
import Derived.ProofKit
import Derived.OpenShut
import Derived.JoinedCond
import Derived.Carry
import Derived.Below
import Derived.ChangeSame
import Derived.Deep.Slices
import Derived.Deep.Fields
import Derived.Lib.SmallJoins
import Derived.SizedLaws
import Derived.Test.YtimillpakjgnoaaGreatDoorM2
namespace Go.Proofs.YtimillpakjgnoaaGreatDoor.Pl
open Go Go.RowKit
set_option maxHeartbeats 8000000 in
theorem w_h11Solved {h : FH} {w : World} (hs : Sub h w) (ht : TabH Tryz.prog h) (K : Bool → Prop) (hF : F_h11Solved  K) : Calls Tryz.prog 7 #[] w fun e w' => ∃ r : Bool, K r ∧ e = .returned (.bool r) ∧ Below w.heap.size w w' := by
 refine enter (args := []) Tryz.func7 rfl Tryz.ntmps7 rfl hs ?_
 refine .seq (.region (.V ag0 ?_))
 refine .nil (.seqN (.seq (.region ?_)))
 refine .inl Tryz.func25 rfl Tryz.ntmps25 Tryz.call25 rfl rfl rfl rfl (fun a q1 => ?_)
 refine .KA [] ?_
 refine .seq (.region ?_)
 refine al tZ25 rfl (fun pv => ?_)
 refine .nil (.seqN (.seq (.region ?_)))
 refine bs2 (cs := #[iV 0]) (pv := [(0, iV 0)]) tS22 rfl rfl (by decide) (by decide) rfl rfl rfl (fun a2 q2 => ?_)
 refine bs2 (cs := #[iV 0]) (pv := [(0, iV 0)]) tS22 rfl rfl (by decide) (by decide) rfl rfl rfl (fun a3 q3 => ?_)
 refine .V (bld (cs := #[.slice none 0 0, .slice a3 1 1, .slice none 0 0, iV 2]) (pv := [(1, .slice a3 1 1), (3, iV 2)]) tB114 rfl rfl) ?_
 refine bs2 (cs := #[.slice none 0 0, .slice a3 1 1, .slice none 0 0, iV 2]) (pv := [(0, .agg #[.slice none 0 0, .slice a3 1 1, .slice none 0 0, iV 2])]) tS23 rfl rfl (by decide) (by decide) rfl rfl rfl (fun a4 q4 => ?_)
 refine .V (bld (cs := #[iV 1, .slice none 0 0, .slice a2 1 1, .slice a4 1 1]) (pv := [(0, iV 1), (2, .slice a2 1 1), (3, .slice a4 1 1)]) tB25 rfl rfl) ?_
 refine st (p := pv) (off := 0) (k := 3) (vs := [iV 1, .slice none 0 0, .slice a2 1 1, .slice a4 1 1]) rfl rfl rfl (fun w => (tA25 w).2) rfl rfl rfl rfl ?_
 refine .nil (.seqN (.ret ?_))
 refine .res1 rfl (rvC rfl tA25 (k := 3) rfl rfl) (inl_back (v := .agg #[iV 1, .slice none 0 0, .slice a2 1 1, .slice a4 1 1]) q1 rfl ?_)
 refine .freezeL (k := 2) rfl (fun h1 le1 q6 q5 => ?_)
 have q7 : RSl h1 a2 ([0] : List Int) := (RSl.of (xs := ([0] : List Int)) q5)
 refine .freezeL (k := 1) rfl (fun h2 le2 q9 q8 => ?_)
 have q10 : RSl h2 a3 ([0] : List Int) := (RSl.of (xs := ([0] : List Int)) q8)
 refine .freezeL (k := 0) rfl (fun h3 le3 q12 q11 => ?_)
 have q13 : RSl h3 a4 ([(⟨[], ([0] : List Int), [], 2⟩ : Operator)] : List Operator) := (show RSl h3 a4 ([(⟨[], ([0] : List Int), [], 2⟩ : Operator)] : List Operator) from ⟨_, RepL.mono (le3) (show RepL h2 ([(⟨[], ([0] : List Int), [], 2⟩ : Operator)] : List Operator) [.slice none 0 0, .slice a3 1 1, .slice none 0 0, iV 2] from ⟨[.slice none 0 0, .slice a3 1 1, .slice none 0 0, iV 2], _, rfl, ⟨none, 0, a3, 1, none, 0, rfl, ⟨Nat.le_refl 0, RSl.nil_⟩, ⟨(show ([0] : List Int).length ≤ 1 from q9), q10⟩, ⟨Nat.le_refl 0, RSl.nil_⟩⟩, rfl⟩), q11⟩)
 refine .KA [tru, tru, tru, Box pv [iV 1, .slice none 0 0, .slice a2 1 1, .slice a4 1 1]] ?_
 obtain ⟨r2, q14⟩ : ∃ y_ : List Int × Bool × Fault, y_ = sp_bplan (⟨1, [], ([0] : List Int), ([(⟨[], ([0] : List Int), [], 2⟩ : Operator)] : List Operator)⟩ : Task) [] := ⟨_, rfl⟩
 replace hF := hF r2 q14
 refine clR (α := Option Addr × Nat) (Φ := fun h1 z => RSl h1 z.1 r2.1 ∧ r2.1.length ≤ z.2) (V := fun z => .tuple #[vSl z.1 r2.1 z.2, .bool r2.2.1, .agg #[iV r2.2.2.code, iV r2.2.2.index]]) Tryz.call5 rfl rfl (fun w S => (by rw [q14]; exact c_bplan S.sub (ht.mono (FH.le_trans (FH.le_trans (le1) (le2)) (le3))) (⟨1, [], ([0] : List Int), ([(⟨[], ([0] : List Int), [], 2⟩ : Operator)] : List Operator)⟩ : Task) none 0 RSl.nil_ (Nat.le_refl 0) a2 1 (q7.mono (FH.le_trans (le2) (le3))) (show ([0] : List Int).length ≤ 1 from q6) a4 1 q13 (show ([(⟨[], ([0] : List Int), [], 2⟩ : Operator)] : List Operator).length ≤ 1 from q12) [] none 0 RSl.nil_ (Nat.le_refl 0) )) rfl (fun z h4 le4 hz => ?_)
 obtain ⟨a5, c⟩ := z
 obtain ⟨q15, q16⟩ := hz
 obtain rfl : r2 = (([0] : List Int), true, (⟨0, 0⟩ : Fault)) := q14.trans (by decide +kernel)
 refine .V mv0 ?_
 refine .V (ext rfl rfl) ?_
 refine .V (ext rfl rfl) ?_
 refine .V (ext rfl rfl) ?_
 refine al tZ27 rfl (fun pf => ?_)
 refine .V ag0 ?_
 refine .V ag0 ?_
 refine st (p := pf) (off := 0) (k := 0) (vs := [iV 0, iV 0]) rfl rfl rfl (fun w => (tA27 w).2) rfl rfl rfl rfl ?_
 refine .nil (.seqN (.seq (.region ?_)))
 refine .inl Tryz.func25 rfl Tryz.ntmps25 Tryz.call25 rfl rfl rfl rfl (fun a6 q17 => ?_)
 refine .sel0 [0] (by decide) rfl ?_
 refine .KA [Box pf [iV 0, iV 0]] ?_
 refine .seq (.region ?_)
 refine al tZ25 rfl (fun pv2 => ?_)
 refine .nil (.seqN (.seq (.region ?_)))
 refine bs2 (cs := #[iV 0]) (pv := [(0, iV 0)]) tS22 rfl rfl (by decide) (by decide) rfl rfl rfl (fun a7 q18 => ?_)
 refine bs2 (cs := #[iV 0]) (pv := [(0, iV 0)]) tS22 rfl rfl (by decide) (by decide) rfl rfl rfl (fun a8 q19 => ?_)
 refine .V (bld (cs := #[.slice none 0 0, .slice a8 1 1, .slice none 0 0, iV 2]) (pv := [(1, .slice a8 1 1), (3, iV 2)]) tB114 rfl rfl) ?_
 refine bs2 (cs := #[.slice none 0 0, .slice a8 1 1, .slice none 0 0, iV 2]) (pv := [(0, .agg #[.slice none 0 0, .slice a8 1 1, .slice none 0 0, iV 2])]) tS23 rfl rfl (by decide) (by decide) rfl rfl rfl (fun a9 q20 => ?_)
 refine .V (bld (cs := #[iV 1, .slice none 0 0, .slice a7 1 1, .slice a9 1 1]) (pv := [(0, iV 1), (2, .slice a7 1 1), (3, .slice a9 1 1)]) tB25 rfl rfl) ?_
 refine st (p := pv2) (off := 0) (k := 3) (vs := [iV 1, .slice none 0 0, .slice a7 1 1, .slice a9 1 1]) rfl rfl rfl (fun w => (tA25 w).2) rfl rfl rfl rfl ?_
 refine .nil (.seqN (.ret ?_))
 refine .res1 rfl (rvC rfl tA25 (k := 3) rfl rfl) (inl_back (v := .agg #[iV 1, .slice none 0 0, .slice a7 1 1, .slice a9 1 1]) q17 rfl ?_)
 refine .inl Tryz.func26 rfl Tryz.ntmps26 Tryz.call26 rfl rfl rfl rfl (fun a10 q21 => ?_)
 refine .sel0 [0, 1, 2, 4] (by decide) rfl ?_
 refine .KA [OwnSl 114 4 a9 1 1 [.slice none 0 0, .slice a8 1 1, .slice none 0 0, iV 2], OwnSl 3 1 a8 1 1 [iV 0], OwnSl 3 1 a7 1 1 [iV 0], Box pf [iV 0, iV 0]] ?_
 refine .seq (.region ?_)
 refine bx (vs := [iV 1, .slice none 0 0, .slice a7 1 1, .slice a9 1 1]) rfl rfl rfl (fun pt => ?_)
 refine .V ag0 ?_
 refine al tZ27 rfl (fun pv3 => ?_)
 refine .nil (.seqN (.seq (.seq (.region (.V (ldA (cs := [iV 1, .slice none 0 0, .slice a7 1 1, .slice a9 1 1]) rfl tA25 rfl (cellsB (off := 0) (k := 1) rfl (m := 4) rfl)) ?_)))))
 refine .V mv0 ?_
 refine .inl Tryz.func54 rfl Tryz.ntmps54 Tryz.call54 rfl rfl rfl rfl (fun a11 q22 => ?_)
 refine .KA [Box pv3 [iV 0, iV 0], Box pt [iV 1, .slice none 0 0, .slice a7 1 1, .slice a9 1 1], OwnSl 114 4 a9 1 1 [.slice none 0 0, .slice a8 1 1, .slice none 0 0, iV 2], OwnSl 3 1 a8 1 1 [iV 0], OwnSl 3 1 a7 1 1 [iV 0], Box pf [iV 0, iV 0]] ?_
 refine .seq (.region ?_)
 refine bx (vs := [iV 1, .slice none 0 0, .slice a7 1 1, .slice a9 1 1]) rfl rfl rfl (fun pt2 => ?_)
 refine al tZ27 rfl (fun pv4 => ?_)
 refine .nil (.seqN (.seq (.seq (.region (.V (ldA (cs := [iV 1, .slice none 0 0, .slice a7 1 1, .slice a9 1 1]) rfl tA25 rfl (cellsB (off := 0) (k := 1) rfl (m := 4) rfl)) ?_)))))
 refine .freezeL (k := 6) rfl (fun h5 le5 q24 q23 => ?_)
 have q25 : RSl h5 a7 ([0] : List Int) := (RSl.of (xs := ([0] : List Int)) q23)
 refine .freezeL (k := 5) rfl (fun h6 le6 q27 q26 => ?_)
 have q28 : RSl h6 a8 ([0] : List Int) := (RSl.of (xs := ([0] : List Int)) q26)
 refine .freezeL (k := 4) rfl (fun h7 le7 q30 q29 => ?_)
 have q31 : RSl h7 a9 ([(⟨[], ([0] : List Int), [], 2⟩ : Operator)] : List Operator) := (show RSl h7 a9 ([(⟨[], ([0] : List Int), [], 2⟩ : Operator)] : List Operator) from ⟨_, RepL.mono (le7) (show RepL h6 ([(⟨[], ([0] : List Int), [], 2⟩ : Operator)] : List Operator) [.slice none 0 0, .slice a8 1 1, .slice none 0 0, iV 2] from ⟨[.slice none 0 0, .slice a8 1 1, .slice none 0 0, iV 2], _, rfl, ⟨none, 0, a8, 1, none, 0, rfl, ⟨Nat.le_refl 0, RSl.nil_⟩, ⟨(show ([0] : List Int).length ≤ 1 from q27), q28⟩, ⟨Nat.le_refl 0, RSl.nil_⟩⟩, rfl⟩), q29⟩)
 obtain ⟨r3, q32⟩ : ∃ y_ : Fault, y_ = sp_validate (⟨1, [], ([0] : List Int), ([(⟨[], ([0] : List Int), [], 2⟩ : Operator)] : List Operator)⟩ : Task) := ⟨_, rfl⟩
 replace hF := hF r3 q32
 have q33 : sp_validate (⟨1, [], ([0] : List Int), ([(⟨[], ([0] : List Int), [], 2⟩ : Operator)] : List Operator)⟩ : Task) = (⟨0, 0⟩ : Fault) := by decide +kernel
 refine .C (cl (v := .agg #[iV 0, iV 0]) Tryz.call37 rfl rfl (fun w S => (by have h_ := c_validate S.sub (⟨1, [], ([0] : List Int), ([(⟨[], ([0] : List Int), [], 2⟩ : Operator)] : List Operator)⟩ : Task) none 0 RSl.nil_ (Nat.le_refl 0) a7 1 (q25.mono (FH.le_trans (le6) (le7))) (show ([0] : List Int).length ≤ 1 from q24) a9 1 q31 (show ([(⟨[], ([0] : List Int), [], 2⟩ : Operator)] : List Operator).length ≤ 1 from q30) ; rw [q33] at h_; exact h_))) ?_
 refine al tZ27 rfl (fun pf2 => ?_)
 refine st (p := pf2) (off := 0) (k := 0) (vs := [iV 0, iV 0]) rfl rfl rfl (fun w => (tA27 w).2) rfl rfl rfl rfl ?_
 refine .nil (.seqN (.seq (.region (.V (ldA (cs := [iV 0, iV 0]) rfl tA27 rfl (cellsB (off := 0) (k := 0) rfl (m := 2) rfl)) ?_))))
 refine .V (bld (cs := #[iV 0, iV 0]) (pv := []) tB27 rfl rfl) ?_
 refine .V (ne2 tE27 rfl rfl) ?_
 refine .nil (.seqN ?_)
 refine .cond rfl (fun e => absurd (e.symm.trans rfl) (by decide)) (fun _ => ?_)
 refine .skip (.seqN (.seq (.seq (.region (.V mv0 ?_)))))
 refine .V bi0 ?_
 refine .V mv0 ?_
 refine .gv mv0 rfl rfl rfl rfl rfl rfl ?_
 refine .gv (fa rfl tF25_3) rfl rfl rfl rfl rfl rfl ?_
 refine .gv (ld1 rfl tO23 (cellB (off := 3) (k := 2) rfl rfl)) rfl rfl rfl rfl rfl rfl ?_
 refine .gv (ln rfl tS23.is) rfl rfl rfl rfl rfl rfl ?_
 refine .gv bi0 rfl rfl rfl rfl rfl rfl ?_
 refine .V (pkF rfl rfl rfl) ?_
 refine .nil (.seqN ?_)
 refine .cond rfl (fun e => absurd (e.symm.trans rfl) (by decide)) (fun _ => ?_)
 refine .skip (.seqN (.seq (.region (.V (bld (cs := #[iV 0, iV 0]) (pv := []) tB27 rfl rfl) ?_))))
 refine st (p := pv4) (off := 0) (k := 1) (vs := [iV 0, iV 0]) rfl rfl rfl (fun w => (tA27 w).2) rfl rfl rfl rfl ?_
 refine .nil (.seqN (.ret ?_))
 refine .res1 rfl (rvC rfl tA27 (k := 1) rfl rfl) (inl_back (v := .agg #[iV 0, iV 0]) q22 rfl ?_)
 refine al tZ27 rfl (fun pf3 => ?_)
 refine st (p := pf3) (off := 0) (k := 0) (vs := [iV 0, iV 0]) rfl rfl rfl (fun w => (tA27 w).2) rfl rfl rfl rfl ?_
 refine .nil (.seqN (.seq (.region (.V (ldA (cs := [iV 0, iV 0]) rfl tA27 rfl (cellsB (off := 0) (k := 0) rfl (m := 2) rfl)) ?_))))
 refine .V (bld (cs := #[iV 0, iV 0]) (pv := []) tB27 rfl rfl) ?_
 refine .V (ne2 tE27 rfl rfl) ?_
 refine .nil (.seqN ?_)
 refine .cond rfl (fun e => absurd (e.symm.trans rfl) (by decide)) (fun _ => ?_)
 refine .skip (.seqN (.seq (.region (.V (ldA (cs := [iV 1, .slice none 0 0, .slice a7 1 1, .slice a9 1 1]) rfl tA25 rfl (cellsB (off := 0) (k := 5) rfl (m := 4) rfl)) ?_))))
 refine .V mv0 ?_
 refine .inl Tryz.func55 rfl Tryz.ntmps55 Tryz.call55 rfl rfl rfl rfl (fun a12 q34 => ?_)
 refine .sel0 [4, 9] (by decide) rfl ?_
 refine .KA [Box pv3 [iV 0, iV 0], Box pf [iV 0, iV 0]] ?_
 refine .seq (.region ?_)
 refine bx (vs := [iV 1, .slice none 0 0, .slice a7 1 1, .slice a9 1 1]) rfl rfl rfl (fun pt3 => ?_)
 refine al tZ25 rfl (fun pv5 => ?_)
 refine al tZ27 rfl (fun pv6 => ?_)
 refine .nil (.seqN (.seq (.seq (.region (.V (ldA (cs := [iV 1, .slice none 0 0, .slice a7 1 1, .slice a9 1 1]) rfl tA25 rfl (cellsB (off := 0) (k := 2) rfl (m := 4) rfl)) ?_)))))
 refine .V mv0 ?_
 refine .inl Tryz.func77 rfl Tryz.ntmps77 Tryz.call77 rfl rfl rfl rfl (fun a13 q35 => ?_)
 refine .KA [Box pv6 [iV 0, iV 0], Box pv5 [iV 0, .slice none 0 0, .slice none 0 0, .slice none 0 0], Box pt3 [iV 1, .slice none 0 0, .slice a7 1 1, .slice a9 1 1], Box pv3 [iV 0, iV 0], Box pf [iV 0, iV 0]] ?_
 refine .seq (.region ?_)
 refine bx (vs := [iV 1, .slice none 0 0, .slice a7 1 1, .slice a9 1 1]) rfl rfl rfl (fun pt4 => ?_)
 refine al tZ27 rfl (fun pv7 => ?_)
 refine .nil (.seqN (.seq (.seq (.region (.V (ldA (cs := [iV 1, .slice none 0 0, .slice a7 1 1, .slice a9 1 1]) rfl tA25 rfl (cellsB (off := 0) (k := 1) rfl (m := 4) rfl)) ?_)))))
 obtain ⟨r4, q36⟩ : ∃ y_ : Fault, y_ = sp_validate (⟨1, [], ([0] : List Int), ([(⟨[], ([0] : List Int), [], 2⟩ : Operator)] : List Operator)⟩ : Task) := ⟨_, rfl⟩
 replace hF := hF r4 q36
 have q37 : sp_validate (⟨1, [], ([0] : List Int), ([(⟨[], ([0] : List Int), [], 2⟩ : Operator)] : List Operator)⟩ : Task) = (⟨0, 0⟩ : Fault) := by decide +kernel
 refine .C (cl (v := .agg #[iV 0, iV 0]) Tryz.call37 rfl rfl (fun w S => (by have h_ := c_validate S.sub (⟨1, [], ([0] : List Int), ([(⟨[], ([0] : List Int), [], 2⟩ : Operator)] : List Operator)⟩ : Task) none 0 RSl.nil_ (Nat.le_refl 0) a7 1 (q25.mono (FH.le_trans (le6) (le7))) (show ([0] : List Int).length ≤ 1 from q24) a9 1 q31 (show ([(⟨[], ([0] : List Int), [], 2⟩ : Operator)] : List Operator).length ≤ 1 from q30) ; rw [q37] at h_; exact h_))) ?_
 refine al tZ27 rfl (fun pf4 => ?_)
 refine st (p := pf4) (off := 0) (k := 0) (vs := [iV 0, iV 0]) rfl rfl rfl (fun w => (tA27 w).2) rfl rfl rfl rfl ?_
 refine .nil (.seqN (.seq (.region (.V (ldA (cs := [iV 0, iV 0]) rfl tA27 rfl (cellsB (off := 0) (k := 0) rfl (m := 2) rfl)) ?_))))
 refine .V (bld (cs := #[iV 0, iV 0]) (pv := []) tB27 rfl rfl) ?_
 refine .V (ne2 tE27 rfl rfl) ?_
 refine .nil (.seqN ?_)
 refine .cond rfl (fun e => absurd (e.symm.trans rfl) (by decide)) (fun _ => ?_)
 refine .skip (.seqN (.seq (.seq (.region (.V mv0 ?_)))))
 refine .V bi0 ?_
 refine .V mv0 ?_
 refine .gv mv0 rfl rfl rfl rfl rfl rfl ?_
 refine .gv (fa rfl tF25_3) rfl rfl rfl rfl rfl rfl ?_
 refine .gv (ld1 rfl tO23 (cellB (off := 3) (k := 2) rfl rfl)) rfl rfl rfl rfl rfl rfl ?_
 refine .gv (ln rfl tS23.is) rfl rfl rfl rfl rfl rfl ?_
 refine .gv bi0 rfl rfl rfl rfl rfl rfl ?_
 refine .V (pkF rfl rfl rfl) ?_
 refine .nil (.seqN ?_)
 refine .cond rfl (fun e => absurd (e.symm.trans rfl) (by decide)) (fun _ => ?_)
 refine .skip (.seqN (.seq (.region (.V (bld (cs := #[iV 0, iV 0]) (pv := []) tB27 rfl rfl) ?_))))
 refine st (p := pv7) (off := 0) (k := 1) (vs := [iV 0, iV 0]) rfl rfl rfl (fun w => (tA27 w).2) rfl rfl rfl rfl ?_
 refine .nil (.seqN (.ret ?_))
 refine .res1 rfl (rvC rfl tA27 (k := 1) rfl rfl) (inl_back (v := .agg #[iV 0, iV 0]) q35 rfl ?_)
 refine al tZ27 rfl (fun pf5 => ?_)
 refine st (p := pf5) (off := 0) (k := 0) (vs := [iV 0, iV 0]) rfl rfl rfl (fun w => (tA27 w).2) rfl rfl rfl rfl ?_
 refine .nil (.seqN (.seq (.region (.V (ldA (cs := [iV 0, iV 0]) rfl tA27 rfl (cellsB (off := 0) (k := 0) rfl (m := 2) rfl)) ?_))))
 refine .V (bld (cs := #[iV 0, iV 0]) (pv := []) tB27 rfl rfl) ?_
 refine .V (ne2 tE27 rfl rfl) ?_
 refine .nil (.seqN ?_)
 refine .cond rfl (fun e => absurd (e.symm.trans rfl) (by decide)) (fun _ => ?_)
 refine .skip (.seqN (.seq (.seq (.region (.V (fa rfl tF25_0) ?_)))))
 refine .V (ld1 rfl tO3 (cellB (off := 0) (k := 6) rfl rfl)) ?_
 refine .V bi0 ?_
 refine .nil (.seqN ?_)
 refine .cond rfl (fun e => absurd (e.symm.trans rfl) (by decide)) (fun _ => ?_)
 refine .skip (.seqN (.seq (.region (.V (ldA (cs := [iV 1, .slice none 0 0, .slice a7 1 1, .slice a9 1 1]) rfl tA25 rfl (cellsB (off := 0) (k := 6) rfl (m := 4) rfl)) ?_))))
 refine .inl Tryz.func78 rfl Tryz.ntmps78 Tryz.call78 rfl rfl rfl rfl (fun a14 q38 => ?_)
 refine .sel0 [4, 5, 7, 8] (by decide) rfl ?_
 refine .KA [Box pv6 [iV 0, iV 0], Box pv5 [iV 0, .slice none 0 0, .slice none 0 0, .slice none 0 0], Box pv3 [iV 0, iV 0], Box pf [iV 0, iV 0]] ?_
 refine .seq (.region ?_)
 refine bx (vs := [iV 1, .slice none 0 0, .slice a7 1 1, .slice a9 1 1]) rfl rfl rfl (fun pt5 => ?_)
 refine al tZ25 rfl (fun pv8 => ?_)
 refine .nil (.seqN (.seq ?_))
 refine .openA (s0 := [(1, .pointer (some pt5)), (2, .pointer (some pv8))]) [0, 1, 2, 3, 5, 6] [(0, .pointer (some (pt5.add 0))), (1, iV 1), (2, .pointer (some (pt5.add 1))), (3, .slice none 0 0), (5, .pointer (some (pt5.add 2))), (6, .slice a7 1 1)] (by kernel_rfl) sb [1, 2] [] rfl (by kernel_rfl) ?_
 refine .step [4, 9] 4 rfl (by kernel_rfl) (by kernel_rfl) (.v [] rfl rfl rfl rfl rfl rfl (fun _ => fa rfl tF25_0) (.v [(6, .pointer (some (pt5.add 0)))] rfl rfl rfl rfl rfl rfl (fun _ => ld1 rfl tO3 (cellB (off := 0) (k := 1) rfl rfl)) (.v [] rfl rfl rfl rfl rfl rfl (fun _ => fa rfl tF25_1) (.v [(8, .pointer (some (pt5.add 1)))] rfl rfl rfl rfl rfl rfl (fun _ => ld1 rfl tO22 (cellB (off := 1) (k := 1) rfl rfl)) (.v [] rfl rfl rfl rfl rfl rfl (fun _ => fa rfl tF25_2) (.v [(11, .pointer (some (pt5.add 2)))] rfl rfl rfl rfl rfl rfl (fun _ => ld1 rfl tO22 (cellB (off := 2) (k := 1) rfl rfl)) (.nil))))))) (.cons [(9, .slice none 0 0)] rfl rfl (fun sL hL => ?_) (.cons [] rfl rfl (fun sL hL => ?_) (.nil)))
 ·obtain ⟨q39, hF⟩ := hF
  obtain ⟨r5, q40⟩ : ∃ y_ : List Int, y_ = sp_clone [] := ⟨_, rfl⟩
  replace hF := hF r5 q40
  refine clO (α := Option Addr × Nat) (V := fun z => vSl z.1 r5 z.2) (Ψ := fun z => True) (B := fun z => [oL 3 1 z.1 r5 z.2]) Tryz.call57 rfl rfl (fun w S => (by rw [q40]; exact c_cloneO S.sub [] none 0 RSl.nil_ (Nat.le_refl 0) q39)) rfl (fun z _ => ?_)
  obtain ⟨a15, c2⟩ := z
  obtain rfl : r5 = ([] : List Int) := q40.trans (by decide +kernel)
  refine .nil ?_
  refine .ja (M := [3, 2]) (C' := [0, 1, 5, 6]) (pre := [(4, .slice a15 0 c2)]) [(1, .pointer (some pt5)), (2, .pointer (some pv8))] [1, 2] hL rfl rfl rfl rfl rfl sb rfl rfl (by kernel_rfl) ?_
  refine .step [7, 9] 7 rfl (by kernel_rfl) (by kernel_rfl) (.v [] rfl rfl rfl rfl rfl rfl (fun _ => fa rfl tF25_0) (.v [(6, .pointer (some (pt5.add 0)))] rfl rfl rfl rfl rfl rfl (fun _ => ld1 rfl tO3 (cellB (off := 0) (k := 2) rfl rfl)) (.v [] rfl rfl rfl rfl rfl rfl (fun _ => fa rfl tF25_2) (.v [(11, .pointer (some (pt5.add 2)))] rfl rfl rfl rfl rfl rfl (fun _ => ld1 rfl tO22 (cellB (off := 2) (k := 2) rfl rfl)) (.nil))))) (.cons [(12, .slice a7 1 1), (10, .slice a15 0 c2)] rfl rfl (fun sL hL => ?_) (.cons [] rfl rfl (fun sL hL => ?_) (.nil)))
  ·obtain ⟨q41, hF⟩ := hF
   obtain ⟨r6, q42⟩ : ∃ y_ : List Int, y_ = sp_clone ([0] : List Int) := ⟨_, rfl⟩
   replace hF := hF r6 q42
   refine clO (α := Option Addr × Nat) (V := fun z => vSl z.1 r6 z.2) (Ψ := fun z => True) (B := fun z => [oL 3 1 z.1 r6 z.2]) Tryz.call57 rfl rfl (fun w S => (by rw [q42]; exact c_cloneO S.sub ([0] : List Int) a7 1 (q25.mono (FH.le_trans (le6) (le7))) (show ([0] : List Int).length ≤ 1 from q24) q41)) rfl (fun z _ => ?_)
   obtain ⟨a16, c3⟩ := z
   obtain rfl : r6 = ([0] : List Int) := q42.trans (by decide +kernel)
   refine .nil ?_
   refine .ja (M := [6, 5]) (C' := [0, 1, 8]) (pre := [(7, .slice a16 1 c3), (8, .agg #[iV 1, .slice a15 0 c2, .slice a16 1 c3, .slice none 0 0])]) [(1, .pointer (some pt5)), (2, .pointer (some pv8))] [1, 2] hL rfl rfl rfl rfl rfl sb rfl rfl (by kernel_rfl) ?_
   refine .step [9] 9 rfl (by kernel_rfl) (by kernel_rfl) (.v [] rfl rfl rfl rfl rfl rfl (fun _ => fa rfl tF25_0) (.v [(6, .pointer (some (pt5.add 0)))] rfl rfl rfl rfl rfl rfl (fun _ => ld1 rfl tO3 (cellB (off := 0) (k := 3) rfl rfl)) (.v [(7, iV 1), (10, .slice a15 0 c2), (13, .slice a16 1 c3)] rfl rfl rfl rfl rfl rfl (fun _ => bld (cs := #[iV 1, .slice a15 0 c2, .slice a16 1 c3, .slice none 0 0]) (pv := [(0, iV 1), (1, .slice a15 0 c2), (2, .slice a16 1 c3)]) tB25 rfl rfl) (.nil)))) (.cons [] rfl rfl (fun sL hL => ?_) (.nil))
   refine al tZ25 rfl (fun pout => ?_)
   refine .nil ?_
   refine .ja (M := []) (C' := [0, 1, 8]) (pre := [(9, .pointer (some pout))]) [(1, .pointer (some pt5)), (2, .pointer (some pv8))] [1, 2] hL rfl rfl rfl rfl rfl sb rfl rfl (by kernel_rfl) ?_
   refine .step [10] 10 rfl (by kernel_rfl) (by kernel_rfl) (.v [] rfl rfl rfl rfl rfl rfl (fun _ => fa rfl tF25_0) (.v [(6, .pointer (some (pt5.add 0)))] rfl rfl rfl rfl rfl rfl (fun _ => ld1 rfl tO3 (cellB (off := 0) (k := 4) rfl rfl)) (.v [(7, iV 1), (10, .slice a15 0 c2), (13, .slice a16 1 c3)] rfl rfl rfl rfl rfl rfl (fun _ => bld (cs := #[iV 1, .slice a15 0 c2, .slice a16 1 c3, .slice none 0 0]) (pv := [(0, iV 1), (1, .slice a15 0 c2), (2, .slice a16 1 c3)]) tB25 rfl rfl) (.nil)))) (.cons [(3, .pointer (some pout)), (14, .agg #[iV 1, .slice a15 0 c2, .slice a16 1 c3, .slice none 0 0]), (13, .slice a16 1 c3), (6, .pointer (some (pt5.add 0))), (7, iV 1), (8, .pointer (some (pt5.add 1))), (9, .slice none 0 0), (10, .slice a15 0 c2), (11, .pointer (some (pt5.add 2))), (12, .slice a7 1 1), (13, .slice a16 1 c3), (14, .agg #[iV 1, .slice a15 0 c2, .slice a16 1 c3, .slice none 0 0]), (3, .pointer (some pout))] rfl rfl (fun sL hL => ?_) (.nil))
   refine st (p := pout) (off := 0) (k := 0) (vs := [iV 1, .slice a15 0 c2, .slice a16 1 c3, .slice none 0 0]) rfl rfl rfl (fun w => (tA25 w).2) rfl rfl rfl rfl ?_
   refine .nil ?_
   refine .jaN (M := [8, 0, 1]) (C' := []) (pre := []) [1, 2] hL rfl rfl rfl rfl rfl (by kernel_rfl) ?_
   refine .last [(6, .pointer (some (pt5.add 0))), (7, iV 1), (8, .pointer (some (pt5.add 1))), (9, .slice none 0 0), (10, .slice a15 0 c2), (11, .pointer (some (pt5.add 2))), (12, .slice a7 1 1), (13, .slice a16 1 c3), (14, .agg #[iV 1, .slice a15 0 c2, .slice a16 1 c3, .slice none 0 0]), (3, .pointer (some pout))] rfl (by kernel_rfl) (.nil) rfl ?_
   refine .seqN (.seq (.seq (.region (.V (fa rfl tF25_3) ?_))))
   refine .V (ld1 rfl tO23 (cellB (off := 3) (k := 4) rfl rfl)) ?_
   refine .V (ln rfl tS23.is) ?_
   refine .V mv0 ?_
   refine .nil (.seqN (.block ?_))
   refine .rounds 90 ?_
   refine .seq (.region (.V bi0 ?_))
   refine .nil (.seqN (.seq ?_))
   refine .cond rfl (fun _ => ?_) (fun e => absurd (e.symm.trans rfl) (by decide))
   refine .skip (.seqN (.seq (.block (.seq (.region (.V (ix rfl rfl tS23 (q31.ne (by decide) (inb_pos (show inb ([(⟨[], ([0] : List Int), [], 2⟩ : Operator)] : List Operator) (0 : Int) from And.intro (by decide) (by decide)))) (show inb ([(⟨[], ([0] : List Int), [], 2⟩ : Operator)] : List Operator) (0 : Int) from And.intro (by decide) (by decide))) ?_))))))
   obtain ⟨_, ⟨a17, c4, a18, c5, a19, c6, rfl, ⟨q43, q44⟩, ⟨q45, q46⟩, q47, q48⟩, q49⟩ := q31.elem (show inb ([(⟨[], ([0] : List Int), [], 2⟩ : Operator)] : List Operator) (0 : Int) from And.intro (by decide) (by decide))
   refine .V (ldA (cs := [.slice a17 0 c4, .slice a18 1 c5, .slice a19 0 c6, iV 2]) rfl tA114 rfl (cellsH (q49 (by decide)))) ?_
   refine al tZ114 rfl (fun po => ?_)
   refine st (p := po) (off := 0) (k := 0) (vs := [.slice a17 0 c4, .slice a18 1 c5, .slice a19 0 c6, iV 2]) rfl rfl rfl (fun w => (tA114 w).2) rfl rfl rfl rfl ?_
   refine .nil (.seqN ?_)
   refine .openA (s0 := [(2, .pointer (some pv8)), (3, .pointer (some pout)), (5, .pointer (some po)), (16, .slice a9 1 1), (17, iV 1), (18, iV 0)]) [0, 1, 2, 3, 5, 6, 8, 9, 11, 12] [(0, .pointer (some (pout.add 3))), (1, .slice none 0 0), (2, .pointer (some (po.add 0))), (3, .slice a17 0 c4), (5, .pointer (some (po.add 1))), (6, .slice a18 1 c5), (8, .pointer (some (po.add 2))), (9, .slice a19 0 c6), (11, .pointer (some (po.add 3))), (12, iV 2)] (by kernel_rfl) sb [2, 3, 5, 16, 17, 18] [] rfl (by kernel_rfl) ?_
   refine .step [4] 4 rfl (by kernel_rfl) (by kernel_rfl) (.v [] rfl rfl rfl rfl rfl rfl (fun _ => fa rfl tF25_3) (.v [(22, .pointer (some (pout.add 3)))] rfl rfl rfl rfl rfl rfl (fun _ => ld1 rfl tO23 (cellB (off := 3) (k := 1) rfl rfl)) (.v [] rfl rfl rfl rfl rfl rfl (fun _ => fa rfl tF114_0) (.v [(24, .pointer (some (po.add 0)))] rfl rfl rfl rfl rfl rfl (fun _ => ld1 rfl tO22 (cellB (off := 0) (k := 0) rfl rfl)) (.v [] rfl rfl rfl rfl rfl rfl (fun _ => fa rfl tF114_1) (.v [(27, .pointer (some (po.add 1)))] rfl rfl rfl rfl rfl rfl (fun _ => ld1 rfl tO22 (cellB (off := 1) (k := 0) rfl rfl)) (.v [] rfl rfl rfl rfl rfl rfl (fun _ => fa rfl tF114_2) (.v [(30, .pointer (some (po.add 2)))] rfl rfl rfl rfl rfl rfl (fun _ => ld1 rfl tO22 (cellB (off := 2) (k := 0) rfl rfl)) (.v [] rfl rfl rfl rfl rfl rfl (fun _ => fa rfl tF114_3) (.v [(33, .pointer (some (po.add 3)))] rfl rfl rfl rfl rfl rfl (fun _ => ld1 rfl tO3 (cellB (off := 3) (k := 0) rfl rfl)) (.nil))))))))))) (.cons [(25, .slice a17 0 c4)] rfl rfl (fun sL hL => ?_) (.nil))
   obtain ⟨q50, hF⟩ := hF
   obtain ⟨r7, q51⟩ : ∃ y_ : List Int, y_ = sp_clone ([] : List Int) := ⟨_, rfl⟩
   replace hF := hF r7 q51
   refine clO (α := Option Addr × Nat) (V := fun z => vSl z.1 r7 z.2) (Ψ := fun z => True) (B := fun z => [oL 3 1 z.1 r7 z.2]) Tryz.call57 rfl rfl (fun w S => (by rw [q51]; exact c_cloneO S.sub ([] : List Int) a17 c4 q44 q43 q50)) rfl (fun z _ => ?_)
   obtain ⟨a20, c7⟩ := z
   obtain rfl : r7 = ([] : List Int) := q51.trans (by decide +kernel)
   refine .KA [OwnSl 3 1 a20 0 c7 [], Box po [.slice a17 0 c4, .slice a18 1 c5, .slice a19 0 c6, iV 2], Box pout [iV 1, .slice a15 0 c2, .slice a16 1 c3, .slice none 0 0], OwnSl 3 1 a16 1 c3 [iV 0], OwnSl 3 1 a15 0 c2 [], Box pv8 [iV 0, .slice none 0 0, .slice none 0 0, .slice none 0 0], Box pt5 [iV 1, .slice none 0 0, .slice a7 1 1, .slice a9 1 1], Box pv6 [iV 0, iV 0], Box pv5 [iV 0, .slice none 0 0, .slice none 0 0, .slice none 0 0], Box pv3 [iV 0, iV 0], Box pf [iV 0, iV 0]] ?_
   refine .nil ?_
   refine .ja (M := [3, 2]) (C' := [0, 1, 5, 6, 8, 9, 11, 12]) (pre := [(4, .slice a20 0 c7)]) [(2, .pointer (some pv8)), (3, .pointer (some pout)), (5, .pointer (some po)), (16, .slice a9 1 1), (17, iV 1), (18, iV 0)] [2, 3, 5, 16, 17, 18] hL rfl rfl rfl rfl rfl sb rfl rfl (by kernel_rfl) ?_
   refine .step [7] 7 rfl (by kernel_rfl) (by kernel_rfl) (.v [] rfl rfl rfl rfl rfl rfl (fun _ => fa rfl tF25_3) (.v [(22, .pointer (some (pout.add 3)))] rfl rfl rfl rfl rfl rfl (fun _ => ld1 rfl tO23 (cellB (off := 3) (k := 2) rfl rfl)) (.v [] rfl rfl rfl rfl rfl rfl (fun _ => fa rfl tF114_1) (.v [(27, .pointer (some (po.add 1)))] rfl rfl rfl rfl rfl rfl (fun _ => ld1 rfl tO22 (cellB (off := 1) (k := 1) rfl rfl)) (.v [] rfl rfl rfl rfl rfl rfl (fun _ => fa rfl tF114_2) (.v [(30, .pointer (some (po.add 2)))] rfl rfl rfl rfl rfl rfl (fun _ => ld1 rfl tO22 (cellB (off := 2) (k := 1) rfl rfl)) (.v [] rfl rfl rfl rfl rfl rfl (fun _ => fa rfl tF114_3) (.v [(33, .pointer (some (po.add 3)))] rfl rfl rfl rfl rfl rfl (fun _ => ld1 rfl tO3 (cellB (off := 3) (k := 1) rfl rfl)) (.nil))))))))) (.cons [(28, .slice a18 1 c5), (26, .slice a20 0 c7)] rfl rfl (fun sL hL => ?_) (.nil))
   obtain ⟨r8, q52⟩ : ∃ y_ : List Int, y_ = sp_clone ([0] : List Int) := ⟨_, rfl⟩
   replace hF := hF r8 q52
   refine clO (α := Option Addr × Nat) (V := fun z => vSl z.1 r8 z.2) (Ψ := fun z => True) (B := fun z => [oL 3 1 z.1 r8 z.2]) Tryz.call57 rfl rfl (fun w S => (by rw [q52]; exact c_cloneO S.sub ([0] : List Int) a18 c5 q46 q45 q41)) rfl (fun z _ => ?_)
   obtain ⟨a21, c8⟩ := z
   obtain rfl : r8 = ([0] : List Int) := q52.trans (by decide +kernel)
   refine .nil ?_
   refine .ja (M := [6, 5]) (C' := [0, 1, 8, 9, 11, 12]) (pre := [(7, .slice a21 1 c8)]) [(2, .pointer (some pv8)), (3, .pointer (some pout)), (5, .pointer (some po)), (16, .slice a9 1 1), (17, iV 1), (18, iV 0)] [2, 3, 5, 16, 17, 18] hL rfl rfl rfl rfl rfl sb rfl rfl (by kernel_rfl) ?_
   refine .step [10] 10 rfl (by kernel_rfl) (by kernel_rfl) (.v [] rfl rfl rfl rfl rfl rfl (fun _ => fa rfl tF25_3) (.v [(22, .pointer (some (pout.add 3)))] rfl rfl rfl rfl rfl rfl (fun _ => ld1 rfl tO23 (cellB (off := 3) (k := 3) rfl rfl)) (.v [] rfl rfl rfl rfl rfl rfl (fun _ => fa rfl tF114_2) (.v [(30, .pointer (some (po.add 2)))] rfl rfl rfl rfl rfl rfl (fun _ => ld1 rfl tO22 (cellB (off := 2) (k := 2) rfl rfl)) (.v [] rfl rfl rfl rfl rfl rfl (fun _ => fa rfl tF114_3) (.v [(33, .pointer (some (po.add 3)))] rfl rfl rfl rfl rfl rfl (fun _ => ld1 rfl tO3 (cellB (off := 3) (k := 2) rfl rfl)) (.nil))))))) (.cons [(31, .slice a19 0 c6), (29, .slice a21 1 c8)] rfl rfl (fun sL hL => ?_) (.nil))
   obtain ⟨r9, q53⟩ : ∃ y_ : List Int, y_ = sp_clone ([] : List Int) := ⟨_, rfl⟩
   replace hF := hF r9 q53
   refine clO (α := Option Addr × Nat) (V := fun z => vSl z.1 r9 z.2) (Ψ := fun z => True) (B := fun z => [oL 3 1 z.1 r9 z.2]) Tryz.call57 rfl rfl (fun w S => (by rw [q53]; exact c_cloneO S.sub ([] : List Int) a19 c6 q48 q47 q50)) rfl (fun z _ => ?_)
   obtain ⟨a22, c9⟩ := z
   obtain rfl : r9 = ([] : List Int) := q53.trans (by decide +kernel)
   refine .nil ?_
   refine .ja (M := [9, 8]) (C' := [0, 1, 11, 12, 13]) (pre := [(10, .slice a22 0 c9), (13, .agg #[.slice a20 0 c7, .slice a21 1 c8, .slice a22 0 c9, iV 2])]) [(2, .pointer (some pv8)), (3, .pointer (some pout)), (5, .pointer (some po)), (16, .slice a9 1 1), (17, iV 1), (18, iV 0)] [2, 3, 5, 16, 17, 18] hL rfl rfl rfl rfl rfl sb rfl rfl (by kernel_rfl) ?_
   refine .step [14] 14 rfl (by kernel_rfl) (by kernel_rfl) (.v [] rfl rfl rfl rfl rfl rfl (fun _ => fa rfl tF25_3) (.v [(22, .pointer (some (pout.add 3)))] rfl rfl rfl rfl rfl rfl (fun _ => ld1 rfl tO23 (cellB (off := 3) (k := 4) rfl rfl)) (.v [] rfl rfl rfl rfl rfl rfl (fun _ => fa rfl tF114_3) (.v [(33, .pointer (some (po.add 3)))] rfl rfl rfl rfl rfl rfl (fun _ => ld1 rfl tO3 (cellB (off := 3) (k := 3) rfl rfl)) (.v [(26, .slice a20 0 c7), (29, .slice a21 1 c8), (32, .slice a22 0 c9), (34, iV 2)] rfl rfl rfl rfl rfl rfl (fun _ => bld (cs := #[.slice a20 0 c7, .slice a21 1 c8, .slice a22 0 c9, iV 2]) (pv := [(0, .slice a20 0 c7), (1, .slice a21 1 c8), (2, .slice a22 0 c9), (3, iV 2)]) tB114 rfl rfl) (.nil)))))) (.cons [(35, .agg #[.slice a20 0 c7, .slice a21 1 c8, .slice a22 0 c9, iV 2])] rfl rfl (fun sL hL => ?_) (.nil))
   refine bs2 (cs := #[.slice a20 0 c7, .slice a21 1 c8, .slice a22 0 c9, iV 2]) (pv := [(0, .agg #[.slice a20 0 c7, .slice a21 1 c8, .slice a22 0 c9, iV 2])]) tS23 rfl rfl (by decide) (by decide) rfl rfl rfl (fun a23 q54 => ?_)
   refine .nil ?_
   refine .ja (M := [13, 12, 11]) (C' := [0, 1]) (pre := [(14, .slice a23 1 1)]) [(2, .pointer (some pv8)), (3, .pointer (some pout)), (5, .pointer (some po)), (16, .slice a9 1 1), (17, iV 1), (18, iV 0)] [2, 3, 5, 16, 17, 18] hL rfl rfl rfl rfl rfl sb rfl rfl (by kernel_rfl) ?_
   refine .step [15] 15 rfl (by kernel_rfl) (by kernel_rfl) (.v [] rfl rfl rfl rfl rfl rfl (fun _ => fa rfl tF25_3) (.v [(22, .pointer (some (pout.add 3)))] rfl rfl rfl rfl rfl rfl (fun _ => ld1 rfl tO23 (cellB (off := 3) (k := 5) rfl rfl)) (.nil))) (.cons [(23, .slice none 0 0), (36, .slice a23 1 1), (32, .slice a22 0 c9)] rfl rfl (fun sL hL => ?_) (.nil))
   refine .nilSl 114 4 ?_
   refine app (k := 0) (news := [.slice a20 0 c7, .slice a21 1 c8, .slice a22 0 c9, iV 2]) (cs' := [.slice a20 0 c7, .slice a21 1 c8, .slice a22 0 c9, iV 2]) (nm := 1) tS23 rfl (by decide) rfl rfl rfl rfl (srcS (k := 1) rfl) (oneAll rfl) (by decide) (by decide) rfl rfl rfl (fun a24 c10 => ?_)
   refine .nil ?_
   refine .ja (M := [1, 0]) (C' := [16]) (pre := [(15, .slice a24 1 c10), (16, .pointer (some (pout.add 3)))]) [(2, .pointer (some pv8)), (3, .pointer (some pout)), (5, .pointer (some po)), (16, .slice a9 1 1), (17, iV 1), (18, iV 0)] [2, 3, 5, 16, 17, 18] hL rfl rfl rfl rfl rfl sb rfl rfl (by kernel_rfl) ?_
   refine .step [17] 17 rfl (by kernel_rfl) (by kernel_rfl) (.v [(22, .pointer (some (pout.add 3))), (23, .slice none 0 0), (24, .pointer (some (po.add 0))), (25, .slice a17 0 c4), (26, .slice a20 0 c7), (27, .pointer (some (po.add 1))), (28, .slice a18 1 c5), (29, .slice a21 1 c8), (30, .pointer (some (po.add 2))), (31, .slice a19 0 c6), (32, .slice a22 0 c9), (33, .pointer (some (po.add 3))), (34, iV 2), (35, .agg #[.slice a20 0 c7, .slice a21 1 c8, .slice a22 0 c9, iV 2]), (36, .slice a23 1 1), (37, .slice a24 1 c10)] rfl rfl rfl rfl rfl rfl (fun _ => fa rfl tF25_3) (.nil)) (.cons [(38, .pointer (some (pout.add 3))), (37, .slice a24 1 c10), (37, .slice a24 1 c10), (22, .pointer (some (pout.add 3))), (23, .slice none 0 0), (24, .pointer (some (po.add 0))), (25, .slice a17 0 c4), (26, .slice a20 0 c7), (27, .pointer (some (po.add 1))), (28, .slice a18 1 c5), (29, .slice a21 1 c8), (30, .pointer (some (po.add 2))), (31, .slice a19 0 c6), (32, .slice a22 0 c9), (33, .pointer (some (po.add 3))), (34, iV 2), (35, .agg #[.slice a20 0 c7, .slice a21 1 c8, .slice a22 0 c9, iV 2]), (36, .slice a23 1 1), (37, .slice a24 1 c10)] rfl rfl (fun sL hL => ?_) (.nil))
   refine st (p := pout) (off := 3) (k := 6) (vs := [.slice a24 1 c10]) rfl rfl rfl (fun w => (tO23 w).2) rfl rfl rfl rfl ?_
   refine .KA [OwnSl 114 4 a24 1 c10 [.slice a20 0 c7, .slice a21 1 c8, .slice a22 0 c9, iV 2], OwnSl 114 4 a23 1 1 [.slice a20 0 c7, .slice a21 1 c8, .slice a22 0 c9, iV 2], OwnSl 3 1 a22 0 c9 [], OwnSl 3 1 a21 1 c8 [iV 0], OwnSl 3 1 a20 0 c7 [], Box po [.slice a17 0 c4, .slice a18 1 c5, .slice a19 0 c6, iV 2], Box pout [iV 1, .slice a15 0 c2, .slice a16 1 c3, .slice a24 1 c10], OwnSl 3 1 a16 1 c3 [iV 0], OwnSl 3 1 a15 0 c2 [], Box pv8 [iV 0, .slice none 0 0, .slice none 0 0, .slice none 0 0], Box pt5 [iV 1, .slice none 0 0, .slice a7 1 1, .slice a9 1 1], Box pv6 [iV 0, iV 0], Box pv5 [iV 0, .slice none 0 0, .slice none 0 0, .slice none 0 0], Box pv3 [iV 0, iV 0], Box pf [iV 0, iV 0]] ?_
   refine .nil ?_
   refine .jaN (M := [16]) (C' := []) (pre := []) [2, 3, 5, 16, 17, 18] hL rfl rfl rfl rfl rfl (by kernel_rfl) ?_
   refine .last [(22, .pointer (some (pout.add 3))), (23, .slice none 0 0), (24, .pointer (some (po.add 0))), (25, .slice a17 0 c4), (26, .slice a20 0 c7), (27, .pointer (some (po.add 1))), (28, .slice a18 1 c5), (29, .slice a21 1 c8), (30, .pointer (some (po.add 2))), (31, .slice a19 0 c6), (32, .slice a22 0 c9), (33, .pointer (some (po.add 3))), (34, iV 2), (35, .agg #[.slice a20 0 c7, .slice a21 1 c8, .slice a22 0 c9, iV 2]), (36, .slice a23 1 1), (37, .slice a24 1 c10), (38, .pointer (some (pout.add 3)))] rfl (by kernel_rfl) (.nil) rfl ?_
   refine .blkN (.seqN (.region (.V bi0 ?_)))
   refine .V mv0 ?_
   refine .nil ?_
   refine .more ?_
   refine .sub (s' := [(2, .pointer (some pv8)), (3, .pointer (some pout)), (16, .slice a9 1 1), (17, iV 1), (18, iV 1)]) sb ?_
   refine .sel0 [0, 2, 3, 4, 6, 7, 8, 9, 11, 12, 13, 14] (by decide) rfl ?_
   refine .KA [OwnSl 114 4 a24 1 c10 [.slice a20 0 c7, .slice a21 1 c8, .slice a22 0 c9, iV 2], OwnSl 3 1 a22 0 c9 [], OwnSl 3 1 a21 1 c8 [iV 0], OwnSl 3 1 a20 0 c7 [], Box pout [iV 1, .slice a15 0 c2, .slice a16 1 c3, .slice a24 1 c10], OwnSl 3 1 a16 1 c3 [iV 0], OwnSl 3 1 a15 0 c2 [], Box pv8 [iV 0, .slice none 0 0, .slice none 0 0, .slice none 0 0], Box pv6 [iV 0, iV 0], Box pv5 [iV 0, .slice none 0 0, .slice none 0 0, .slice none 0 0], Box pv3 [iV 0, iV 0], Box pf [iV 0, iV 0]] ?_
   refine .seq (.region (.V bi0 ?_))
   refine .nil (.seqN (.seq ?_))
   refine .cond rfl (fun e => absurd (e.symm.trans rfl) (by decide)) (fun _ => ?_)
   refine .exit (.seqX (.seqX (.blkX (.seqN (.seq (.region (.V (ldA (cs := [iV 1, .slice a15 0 c2, .slice a16 1 c3, .slice a24 1 c10]) rfl tA25 rfl (cellsB (off := 0) (k := 4) rfl (m := 4) rfl)) ?_)))))))
   refine st (p := pv8) (off := 0) (k := 7) (vs := [iV 1, .slice a15 0 c2, .slice a16 1 c3, .slice a24 1 c10]) rfl rfl rfl (fun w => (tA25 w).2) rfl rfl rfl rfl ?_
   refine .nil (.seqN (.ret ?_))
   refine .res1 rfl (rvC rfl tA25 (k := 7) rfl rfl) (inl_back (v := .agg #[iV 1, .slice a15 0 c2, .slice a16 1 c3, .slice a24 1 c10]) q38 rfl ?_)
   refine al tZ25 rfl (fun pout2 => ?_)
   refine st (p := pout2) (off := 0) (k := 0) (vs := [iV 1, .slice a15 0 c2, .slice a16 1 c3, .slice a24 1 c10]) rfl rfl rfl (fun w => (tA25 w).2) rfl rfl rfl rfl ?_
   refine .nil (.seqN (.seq (.region (.V (fa rfl tF25_2) ?_))))
   refine .V (ld1 rfl tO22 (cellB (off := 2) (k := 0) rfl rfl)) ?_
   refine .V (fa rfl tF25_0) ?_
   refine .V (ld1 rfl tO3 (cellB (off := 0) (k := 0) rfl rfl)) ?_
   refine bs2 (cs := #[iV 1]) (pv := [(0, iV 1)]) tS22 rfl rfl (by decide) (by decide) rfl rfl rfl (fun a25 q55 => ?_)
   refine app (k := 7) (news := [iV 1]) (cs' := [iV 0, iV 1]) (nm := 2) tS22 rfl (by decide) rfl rfl rfl rfl (srcS (k := 0) rfl) (oneAll rfl) (by decide) (by decide) rfl rfl rfl (fun a26 c11 => ?_)
   refine .V (fa rfl tF25_2) ?_
   refine st (p := pout2) (off := 2) (k := 1) (vs := [.slice a26 2 c11]) rfl rfl rfl (fun w => (tO22 w).2) rfl rfl rfl rfl ?_
   refine .nil (.seqN (.seq ?_))
   refine .openA (s0 := [(1, iV 0), (4, .pointer (some pv5)), (5, .pointer (some pv6)), (7, .pointer (some pout2))]) [0, 1, 2, 3, 4, 5, 6, 7, 8, 9, 10] [(0, .pointer (some (pout2.add 3))), (1, .slice a24 1 c10), (2, iV 0), (3, .pointer (some (pout2.add 3))), (4, .slice a24 1 c10), (5, iV 0), (6, .pointer (some (ead a24 ((0 : Int).toNat * 4)))), (7, .pointer (some ((ead a24 ((0 : Int).toNat * 4)).add 1))), (8, .slice a21 1 c8), (9, .pointer (some (pout2.add 0))), (10, iV 1)] (by kernel_rfl) sb [1, 4, 5, 7] [] rfl (by kernel_rfl) ?_
   refine .step [11] 11 rfl (by kernel_rfl) (by kernel_rfl) (.v [] rfl rfl rfl rfl rfl rfl (fun _ => fa rfl tF25_3) (.v [(30, .pointer (some (pout2.add 3)))] rfl rfl rfl rfl rfl rfl (fun _ => ld1 rfl tO23 (cellB (off := 3) (k := 1) rfl rfl)) (.v [] rfl rfl rfl rfl rfl rfl (fun _ => mv rfl) (.v [] rfl rfl rfl rfl rfl rfl (fun _ => fa rfl tF25_3) (.v [(33, .pointer (some (pout2.add 3)))] rfl rfl rfl rfl rfl rfl (fun _ => ld1 rfl tO23 (cellB (off := 3) (k := 1) rfl rfl)) (.v [] rfl rfl rfl rfl rfl rfl (fun _ => mv rfl) (.v [(34, .slice a24 1 c10), (35, iV 0)] rfl rfl rfl rfl rfl rfl (fun _ => ixS rfl rfl tS23 (k := 2) rfl (And.intro (by decide) (by decide))) (.v [(36, .pointer (some (ead a24 ((0 : Int).toNat * 4))))] rfl rfl rfl rfl rfl rfl (fun _ => fa rfl tF114_1) (.v [(37, .pointer (some ((ead a24 ((0 : Int).toNat * 4)).add 1)))] rfl rfl rfl rfl rfl rfl (fun _ => ld1 (v := .slice a21 1 c8) rfl tO22 (cellF (k := 2) rfl rfl)) (.v [] rfl rfl rfl rfl rfl rfl (fun _ => fa rfl tF25_0) (.v [(39, .pointer (some (pout2.add 0)))] rfl rfl rfl rfl rfl rfl (fun _ => ld1 rfl tO3 (cellB (off := 0) (k := 1) rfl rfl)) (.nil)))))))))))) (.cons [(40, iV 1)] rfl rfl (fun sL hL => ?_) (.nil))
   refine bs2 (cs := #[iV 1]) (pv := [(0, iV 1)]) tS22 rfl rfl (by decide) (by decide) rfl rfl rfl (fun a27 q56 => ?_)
   refine .nil ?_
   refine .ja (M := [10, 9]) (C' := [0, 1, 2, 3, 4, 5, 6, 7, 8]) (pre := [(11, .slice a27 1 1)]) [(1, iV 0), (4, .pointer (some pv5)), (5, .pointer (some pv6)), (7, .pointer (some pout2))] [1, 4, 5, 7] hL rfl rfl rfl rfl rfl sb rfl rfl (by kernel_rfl) ?_
   refine .step [12] 12 rfl (by kernel_rfl) (by kernel_rfl) (.v [] rfl rfl rfl rfl rfl rfl (fun _ => fa rfl tF25_3) (.v [(30, .pointer (some (pout2.add 3)))] rfl rfl rfl rfl rfl rfl (fun _ => ld1 rfl tO23 (cellB (off := 3) (k := 2) rfl rfl)) (.v [] rfl rfl rfl rfl rfl rfl (fun _ => mv rfl) (.v [] rfl rfl rfl rfl rfl rfl (fun _ => fa rfl tF25_3) (.v [(33, .pointer (some (pout2.add 3)))] rfl rfl rfl rfl rfl rfl (fun _ => ld1 rfl tO23 (cellB (off := 3) (k := 2) rfl rfl)) (.v [] rfl rfl rfl rfl rfl rfl (fun _ => mv rfl) (.v [(34, .slice a24 1 c10), (35, iV 0)] rfl rfl rfl rfl rfl rfl (fun _ => ixS rfl rfl tS23 (k := 3) rfl (And.intro (by decide) (by decide))) (.v [(36, .pointer (some (ead a24 ((0 : Int).toNat * 4))))] rfl rfl rfl rfl rfl rfl (fun _ => fa rfl tF114_1) (.v [(37, .pointer (some ((ead a24 ((0 : Int).toNat * 4)).add 1)))] rfl rfl rfl rfl rfl rfl (fun _ => ld1 (v := .slice a21 1 c8) rfl tO22 (cellF (k := 3) rfl rfl)) (.nil)))))))))) (.cons [(38, .slice a21 1 c8), (41, .slice a27 1 1)] rfl rfl (fun sL hL => ?_) (.nil))
   refine app (k := 5) (news := [iV 1]) (cs' := [iV 0, iV 1]) (nm := 2) tS22 rfl (by decide) rfl rfl rfl rfl (srcS (k := 0) rfl) (oneAll rfl) (by decide) (by decide) rfl rfl rfl (fun a28 c12 => ?_)
   refine .KA [OwnSl 3 1 a27 1 1 [iV 1], OwnSl 3 1 a25 1 1 [iV 1], Box pout2 [iV 1, .slice a15 0 c2, .slice a26 2 c11, .slice a24 1 c10], OwnSl 114 4 a24 1 c10 [.slice a20 0 c7, .slice a21 1 c8, .slice a22 0 c9, iV 2], OwnSl 3 1 a22 0 c9 [], OwnSl 3 1 a28 2 c12 [iV 0, iV 1], OwnSl 3 1 a20 0 c7 [], Box pout [iV 1, .slice a15 0 c2, .slice a16 1 c3, .slice a24 1 c10], OwnSl 3 1 a26 2 c11 [iV 0, iV 1], OwnSl 3 1 a15 0 c2 [], Box pv8 [iV 1, .slice a15 0 c2, .slice a16 1 c3, .slice a24 1 c10], Box pv6 [iV 0, iV 0], Box pv5 [iV 0, .slice none 0 0, .slice none 0 0, .slice none 0 0], Box pv3 [iV 0, iV 0], Box pf [iV 0, iV 0]] ?_
   refine .nil ?_
   refine .ja (M := [8, 7, 6, 4, 5, 3]) (C' := [0, 1, 2, 13, 14]) (pre := [(12, .slice a28 2 c12), (13, .pointer (some (ead a24 ((0 : Int).toNat * 4)))), (14, .pointer (some ((ead a24 ((0 : Int).toNat * 4)).add 1)))]) [(1, iV 0), (4, .pointer (some pv5)), (5, .pointer (some pv6)), (7, .pointer (some pout2))] [1, 4, 5, 7] hL rfl rfl rfl rfl rfl sb rfl rfl (by kernel_rfl) ?_
   refine .step [15] 15 rfl (by kernel_rfl) (by kernel_rfl) (.v [] rfl rfl rfl rfl rfl rfl (fun _ => fa rfl tF25_3) (.v [(30, .pointer (some (pout2.add 3)))] rfl rfl rfl rfl rfl rfl (fun _ => ld1 rfl tO23 (cellB (off := 3) (k := 2) rfl rfl)) (.v [] rfl rfl rfl rfl rfl rfl (fun _ => mv rfl) (.v [(31, .slice a24 1 c10), (32, iV 0), (30, .pointer (some (pout2.add 3))), (31, .slice a24 1 c10), (32, iV 0), (33, .pointer (some (pout2.add 3))), (34, .slice a24 1 c10), (35, iV 0), (36, .pointer (some (ead a24 ((0 : Int).toNat * 4)))), (37, .pointer (some ((ead a24 ((0 : Int).toNat * 4)).add 1))), (38, .slice a21 1 c8), (39, .pointer (some (pout2.add 0))), (40, iV 1), (41, .slice a27 1 1), (42, .slice a28 2 c12)] rfl rfl rfl rfl rfl rfl (fun _ => ixS rfl rfl tS23 (k := 3) rfl (And.intro (by decide) (by decide))) (.v [(43, .pointer (some (ead a24 ((0 : Int).toNat * 4)))), (30, .pointer (some (pout2.add 3))), (31, .slice a24 1 c10), (32, iV 0), (33, .pointer (some (pout2.add 3))), (34, .slice a24 1 c10), (35, iV 0), (36, .pointer (some (ead a24 ((0 : Int).toNat * 4)))), (37, .pointer (some ((ead a24 ((0 : Int).toNat * 4)).add 1))), (38, .slice a21 1 c8), (39, .pointer (some (pout2.add 0))), (40, iV 1), (41, .slice a27 1 1), (42, .slice a28 2 c12)] rfl rfl rfl rfl rfl rfl (fun _ => fa rfl tF114_1) (.nil)))))) (.cons [(44, .pointer (some ((ead a24 ((0 : Int).toNat * 4)).add 1))), (42, .slice a28 2 c12), (42, .slice a28 2 c12), (30, .pointer (some (pout2.add 3))), (31, .slice a24 1 c10), (32, iV 0), (33, .pointer (some (pout2.add 3))), (34, .slice a24 1 c10), (35, iV 0), (36, .pointer (some (ead a24 ((0 : Int).toNat * 4)))), (37, .pointer (some ((ead a24 ((0 : Int).toNat * 4)).add 1))), (38, .slice a21 1 c8), (39, .pointer (some (pout2.add 0))), (40, iV 1), (41, .slice a27 1 1), (42, .slice a28 2 c12)] rfl rfl (fun sL hL => ?_) (.nil))
   refine stS (k := 3) (off := 0 * 4 + 1) (cs' := [.slice a20 0 c7, .slice a28 2 c12, .slice a22 0 c9, iV 2]) rfl (fun q => ead_add q _ _) rfl rfl (fun w => (tO22 w).2) rfl rfl rfl (by decide) (Nat.le_of_ble_eq_true rfl) rfl ?_
   refine .nil ?_
   refine .jaN (M := [14, 0, 1, 2, 13]) (C' := []) (pre := []) [1, 4, 5, 7] hL rfl rfl rfl rfl rfl (by kernel_rfl) ?_
   refine .last [(30, .pointer (some (pout2.add 3))), (31, .slice a24 1 c10), (32, iV 0), (33, .pointer (some (pout2.add 3))), (34, .slice a24 1 c10), (35, iV 0), (36, .pointer (some (ead a24 ((0 : Int).toNat * 4)))), (37, .pointer (some ((ead a24 ((0 : Int).toNat * 4)).add 1))), (38, .slice a21 1 c8), (39, .pointer (some (pout2.add 0))), (40, iV 1), (41, .slice a27 1 1), (42, .slice a28 2 c12), (43, .pointer (some (ead a24 ((0 : Int).toNat * 4)))), (44, .pointer (some ((ead a24 ((0 : Int).toNat * 4)).add 1)))] rfl (by kernel_rfl) (.nil) rfl ?_
   refine .seqN (.seq (.region (.V (fa rfl tF25_0) ?_)))
   refine .V (ld1 rfl tO3 (cellB (off := 0) (k := 2) rfl rfl)) ?_
   refine .V bi0 ?_
   refine .V (fa rfl tF25_0) ?_
   refine st (p := pout2) (off := 0) (k := 2) (vs := [iV 2]) rfl rfl rfl (fun w => (tO3 w).2) rfl rfl rfl rfl ?_
   refine .nil (.seqN (.seq (.region (.V (ldA (cs := [iV 2, .slice a15 0 c2, .slice a26 2 c11, .slice a24 1 c10]) rfl tA25 rfl (cellsB (off := 0) (k := 2) rfl (m := 4) rfl)) ?_))))
   refine .V (bld (cs := #[iV 0, iV 0]) (pv := []) tB27 rfl rfl) ?_
   refine st (p := pv5) (off := 0) (k := 12) (vs := [iV 2, .slice a15 0 c2, .slice a26 2 c11, .slice a24 1 c10]) rfl rfl rfl (fun w => (tA25 w).2) rfl rfl rfl rfl ?_
   refine st (p := pv6) (off := 0) (k := 11) (vs := [iV 0, iV 0]) rfl rfl rfl (fun w => (tA27 w).2) rfl rfl rfl rfl ?_
   refine .nil (.seqN (.ret ?_))
   refine .res2 rfl (rvC rfl tA25 (k := 12) rfl rfl) (rvC rfl tA27 (k := 11) rfl rfl) (inl_back (v := .tuple #[.agg #[iV 2, .slice a15 0 c2, .slice a26 2 c11, .slice a24 1 c10], .agg #[iV 0, iV 0]]) q34 rfl ?_)
   refine .V mv0 ?_
   refine .V (ext rfl rfl) ?_
   refine .V (ext rfl rfl) ?_
   refine al tZ25 rfl (fun pu => ?_)
   refine al tZ27 rfl (fun pf6 => ?_)
   refine st (p := pu) (off := 0) (k := 1) (vs := [iV 2, .slice a15 0 c2, .slice a26 2 c11, .slice a24 1 c10]) rfl rfl rfl (fun w => (tA25 w).2) rfl rfl rfl rfl ?_
   refine st (p := pf6) (off := 0) (k := 0) (vs := [iV 0, iV 0]) rfl rfl rfl (fun w => (tA27 w).2) rfl rfl rfl rfl ?_
   refine .nil (.seqN (.seq (.seq (.region (.V (ldA (cs := [iV 0, iV 0]) rfl tA27 rfl (cellsB (off := 0) (k := 0) rfl (m := 2) rfl)) ?_)))))
   refine .V (bld (cs := #[iV 0, iV 0]) (pv := []) tB27 rfl rfl) ?_
   refine .V (ne2 tE27 rfl rfl) ?_
   refine .nil (.seqN ?_)
   refine .cond rfl (fun e => absurd (e.symm.trans rfl) (by decide)) (fun _ => ?_)
   refine .skip (.seqN (.seq (.region (.V (ldA (cs := [iV 2, .slice a15 0 c2, .slice a26 2 c11, .slice a24 1 c10]) rfl tA25 rfl (cellsB (off := 0) (k := 1) rfl (m := 4) rfl)) ?_))))
   refine .freezeL (k := 11) rfl (fun h8 le8 q58 q57 => ?_)
   have q59 : RSl h8 a15 ([] : List Int) := (RSl.of (xs := ([] : List Int)) q57)
   refine .KA [Box pf6 [iV 0, iV 0], Box pu [iV 2, .slice a15 0 c2, .slice a26 2 c11, .slice a24 1 c10], OwnSl 3 1 a27 1 1 [iV 1], OwnSl 3 1 a25 1 1 [iV 1], Box pout2 [iV 2, .slice a15 0 c2, .slice a26 2 c11, .slice a24 1 c10], OwnSl 114 4 a24 1 c10 [.slice a20 0 c7, .slice a28 2 c12, .slice a22 0 c9, iV 2], OwnSl 3 1 a22 0 c9 [], OwnSl 3 1 a28 2 c12 [iV 0, iV 1], OwnSl 3 1 a20 0 c7 [], Box pout [iV 1, .slice a15 0 c2, .slice a16 1 c3, .slice a24 1 c10], OwnSl 3 1 a26 2 c11 [iV 0, iV 1], tru, Box pv8 [iV 1, .slice a15 0 c2, .slice a16 1 c3, .slice a24 1 c10], Box pv6 [iV 0, iV 0], Box pv5 [iV 2, .slice a15 0 c2, .slice a26 2 c11, .slice a24 1 c10], Box pv3 [iV 0, iV 0], Box pf [iV 0, iV 0]] ?_
   refine .freezeL (k := 10) rfl (fun h9 le9 q61 q60 => ?_)
   have q62 : RSl h9 a26 ([0, 1] : List Int) := (RSl.of (xs := ([0, 1] : List Int)) q60)
   refine .freezeL (k := 8) rfl (fun h10 le10 q64 q63 => ?_)
   have q65 : RSl h10 a20 ([] : List Int) := (RSl.of (xs := ([] : List Int)) q63)
   refine .freezeL (k := 7) rfl (fun h11 le11 q67 q66 => ?_)
   have q68 : RSl h11 a28 ([0, 1] : List Int) := (RSl.of (xs := ([0, 1] : List Int)) q66)
   refine .freezeL (k := 6) rfl (fun h12 le12 q70 q69 => ?_)
   have q71 : RSl h12 a22 ([] : List Int) := (RSl.of (xs := ([] : List Int)) q69)
   refine .freezeL (k := 5) rfl (fun h13 le13 q73 q72 => ?_)
   have q74 : RSl h13 a24 ([(⟨([] : List Int), ([0, 1] : List Int), ([] : List Int), 2⟩ : Operator)] : List Operator) := (show RSl h13 a24 ([(⟨([] : List Int), ([0, 1] : List Int), ([] : List Int), 2⟩ : Operator)] : List Operator) from ⟨_, RepL.mono (le13) (show RepL h12 ([(⟨([] : List Int), ([0, 1] : List Int), ([] : List Int), 2⟩ : Operator)] : List Operator) [.slice a20 0 c7, .slice a28 2 c12, .slice a22 0 c9, iV 2] from ⟨[.slice a20 0 c7, .slice a28 2 c12, .slice a22 0 c9, iV 2], _, rfl, ⟨a20, c7, a28, c12, a22, c9, rfl, ⟨(show ([] : List Int).length ≤ c7 from q64), (q65.mono (FH.le_trans (le11) (le12)))⟩, ⟨(show ([0, 1] : List Int).length ≤ c12 from q67), (q68.mono (le12))⟩, ⟨(show ([] : List Int).length ≤ c9 from q70), q71⟩⟩, rfl⟩), q72⟩)
   obtain ⟨q75, hF⟩ := hF
   obtain ⟨r10, q76⟩ : ∃ y_ : Int × Fault, y_ = sp_optimalL (⟨2, ([] : List Int), ([0, 1] : List Int), ([(⟨([] : List Int), ([0, 1] : List Int), ([] : List Int), 2⟩ : Operator)] : List Operator)⟩ : Task) := ⟨_, rfl⟩
   replace hF := hF r10 q76
   have q77 : sp_optimalL (⟨2, ([] : List Int), ([0, 1] : List Int), ([(⟨([] : List Int), ([0, 1] : List Int), ([] : List Int), 2⟩ : Operator)] : List Operator)⟩ : Task) = (2, (⟨0, 0⟩ : Fault)) := by decide +kernel
   refine .C (cl (v := .tuple #[iV 2, .agg #[iV 0, iV 0]]) Tryz.call56 rfl rfl (fun w S => (by have h_ := c_optimalL S.sub (⟨2, ([] : List Int), ([0, 1] : List Int), ([(⟨([] : List Int), ([0, 1] : List Int), ([] : List Int), 2⟩ : Operator)] : List Operator)⟩ : Task) a15 c2 (q59.mono (FH.le_trans (FH.le_trans (FH.le_trans (FH.le_trans (le9) (le10)) (le11)) (le12)) (le13))) (show ([] : List Int).length ≤ c2 from q58) a26 c11 (q62.mono (FH.le_trans (FH.le_trans (FH.le_trans (le10) (le11)) (le12)) (le13))) (show ([0, 1] : List Int).length ≤ c11 from q61) a24 c10 q74 (show ([(⟨([] : List Int), ([0, 1] : List Int), ([] : List Int), 2⟩ : Operator)] : List Operator).length ≤ c10 from q73) q75; rw [q77] at h_; exact h_))) ?_
   refine .V (ext rfl rfl) ?_
   refine .V (ext rfl rfl) ?_
   refine .V ag0 ?_
   refine st (p := pv3) (off := 0) (k := 15) (vs := [iV 0, iV 0]) rfl rfl rfl (fun w => (tA27 w).2) rfl rfl rfl rfl ?_
   refine .nil (.seqN (.ret ?_))
   refine .res2 rfl (rvT rfl) (rvC rfl tA27 (k := 15) rfl rfl) (inl_back (v := .tuple #[iV 2, .agg #[iV 0, iV 0]]) q21 rfl ?_)
   refine .V mv0 ?_
   refine .V (ext rfl rfl) ?_
   refine .V (ext rfl rfl) ?_
   refine al tZ27 rfl (fun pg => ?_)
   refine .V ag0 ?_
   refine st (p := pg) (off := 0) (k := 0) (vs := [iV 0, iV 0]) rfl rfl rfl (fun w => (tA27 w).2) rfl rfl rfl rfl ?_
   refine .KA [Box pg [iV 0, iV 0], Box pf6 [iV 0, iV 0], Box pu [iV 2, .slice a15 0 c2, .slice a26 2 c11, .slice a24 1 c10], OwnSl 3 1 a27 1 1 [iV 1], OwnSl 3 1 a25 1 1 [iV 1], Box pout2 [iV 2, .slice a15 0 c2, .slice a26 2 c11, .slice a24 1 c10], tru, tru, tru, tru, Box pout [iV 1, .slice a15 0 c2, .slice a16 1 c3, .slice a24 1 c10], tru, tru, Box pv8 [iV 1, .slice a15 0 c2, .slice a16 1 c3, .slice a24 1 c10], Box pv6 [iV 0, iV 0], Box pv5 [iV 2, .slice a15 0 c2, .slice a26 2 c11, .slice a24 1 c10], Box pv3 [iV 0, iV 0], Box pf [iV 0, iV 0]] ?_
   refine .nil (.seqN (.seq (.region (.V (fa rfl tF27_0) ?_))))
   refine .V (ld1 rfl tO3 (cellB (off := 0) (k := 17) rfl rfl)) ?_
   refine .V bi0 ?_
   refine .V mv0 ?_
   refine .gv (fa rfl tF27_0) rfl rfl rfl rfl rfl rfl ?_
   refine .gv (ld1 rfl tO3 (cellB (off := 0) (k := 0) rfl rfl)) rfl rfl rfl rfl rfl rfl ?_
   refine .gv bi0 rfl rfl rfl rfl rfl rfl ?_
   refine .V (pkT rfl rfl rfl) ?_
   refine .V mv0 ?_
   refine .gv mv0 rfl rfl rfl rfl rfl rfl ?_
   refine .V (pkT rfl rfl rfl) ?_
   refine .V mv0 ?_
   refine .gv mv0 rfl rfl rfl rfl rfl rfl ?_
   refine .gR rfl rfl rfl rfl ?_
   refine bs2 (cs := #[iV 0]) (pv := [(0, iV 0)]) tS22 rfl rfl (by decide) (by decide) rfl rfl rfl (fun a29 q78 => ?_)
   refine .freezeL (k := 0) rfl (fun h14 le14 q80 q79 => ?_)
   have q81 : RSl h14 a29 ([0] : List Int) := (RSl.of (xs := ([0] : List Int)) q79)
   obtain ⟨q82, hF⟩ := hF
   obtain ⟨r11, q83⟩ : ∃ y_ : Bool, y_ = sp_ints ([0] : List Int) ([0] : List Int) := ⟨_, rfl⟩
   replace hF := hF r11 q83
   have q84 : sp_ints ([0] : List Int) ([0] : List Int) = true := by decide +kernel
   refine .gc (cl (v := .bool true) Tryz.call27 rfl rfl (fun w S => (by have h_ := c_ints S.sub ([0] : List Int) a5 c (q15.mono (FH.le_trans (FH.le_trans (FH.le_trans (FH.le_trans (FH.le_trans (FH.le_trans (FH.le_trans (FH.le_trans (FH.le_trans (le5) (le6)) (le7)) (le8)) (le9)) (le10)) (le11)) (le12)) (le13)) (le14))) q16 ([0] : List Int) a29 1 q81 (show ([0] : List Int).length ≤ 1 from q80) q82; rw [q84] at h_; exact h_))) rfl rfl rfl rfl rfl rfl ?_
   refine .V (pkT rfl rfl rfl) ?_
   refine .V mv0 ?_
   refine .gv mv0 rfl rfl rfl rfl rfl rfl ?_
   refine .gv bi0 rfl rfl rfl rfl rfl rfl ?_
   refine .V (pkT rfl rfl rfl) ?_
   refine .V ag0 ?_
   refine .nil (.seqN (.ret ?_))
   refine .res1 rfl (rvT rfl) (fun w' S => ⟨true, hF, rfl, S.below⟩)
  ·refine al tZ25 rfl (fun pout => ?_)
   refine .nil ?_
   refine .ja (M := []) (C' := [0, 1, 5, 6]) (pre := [(9, .pointer (some pout))]) [(1, .pointer (some pt5)), (2, .pointer (some pv8))] [1, 2] hL rfl rfl rfl rfl rfl sb rfl rfl (by kernel_rfl) ?_
   refine .step [7] 7 rfl (by kernel_rfl) (by kernel_rfl) (.v [] rfl rfl rfl rfl rfl rfl (fun _ => fa rfl tF25_0) (.v [(6, .pointer (some (pt5.add 0)))] rfl rfl rfl rfl rfl rfl (fun _ => ld1 rfl tO3 (cellB (off := 0) (k := 3) rfl rfl)) (.v [] rfl rfl rfl rfl rfl rfl (fun _ => fa rfl tF25_2) (.v [(11, .pointer (some (pt5.add 2)))] rfl rfl rfl rfl rfl rfl (fun _ => ld1 rfl tO22 (cellB (off := 2) (k := 3) rfl rfl)) (.nil))))) (.cons [(12, .slice a7 1 1), (10, .slice a15 0 c2)] rfl rfl (fun sL hL => ?_) (.nil))
   obtain ⟨q85, hF⟩ := hF
   obtain ⟨r6, q86⟩ : ∃ y_ : List Int, y_ = sp_clone ([0] : List Int) := ⟨_, rfl⟩
   replace hF := hF r6 q86
   refine clO (α := Option Addr × Nat) (V := fun z => vSl z.1 r6 z.2) (Ψ := fun z => True) (B := fun z => [oL 3 1 z.1 r6 z.2]) Tryz.call57 rfl rfl (fun w S => (by rw [q86]; exact c_cloneO S.sub ([0] : List Int) a7 1 (q25.mono (FH.le_trans (le6) (le7))) (show ([0] : List Int).length ≤ 1 from q24) q85)) rfl (fun z _ => ?_)
   obtain ⟨a16, c3⟩ := z
   obtain rfl : r6 = ([0] : List Int) := q86.trans (by decide +kernel)
   refine .nil ?_
   refine .ja (M := [6, 5]) (C' := [0, 1, 8]) (pre := [(7, .slice a16 1 c3), (8, .agg #[iV 1, .slice a15 0 c2, .slice a16 1 c3, .slice none 0 0])]) [(1, .pointer (some pt5)), (2, .pointer (some pv8))] [1, 2] hL rfl rfl rfl rfl rfl sb rfl rfl (by kernel_rfl) ?_
   refine .step [10] 10 rfl (by kernel_rfl) (by kernel_rfl) (.v [] rfl rfl rfl rfl rfl rfl (fun _ => fa rfl tF25_0) (.v [(6, .pointer (some (pt5.add 0)))] rfl rfl rfl rfl rfl rfl (fun _ => ld1 rfl tO3 (cellB (off := 0) (k := 4) rfl rfl)) (.v [(7, iV 1), (10, .slice a15 0 c2), (13, .slice a16 1 c3)] rfl rfl rfl rfl rfl rfl (fun _ => bld (cs := #[iV 1, .slice a15 0 c2, .slice a16 1 c3, .slice none 0 0]) (pv := [(0, iV 1), (1, .slice a15 0 c2), (2, .slice a16 1 c3)]) tB25 rfl rfl) (.nil)))) (.cons [(3, .pointer (some pout)), (14, .agg #[iV 1, .slice a15 0 c2, .slice a16 1 c3, .slice none 0 0]), (13, .slice a16 1 c3), (6, .pointer (some (pt5.add 0))), (7, iV 1), (8, .pointer (some (pt5.add 1))), (9, .slice none 0 0), (10, .slice a15 0 c2), (11, .pointer (some (pt5.add 2))), (12, .slice a7 1 1), (13, .slice a16 1 c3), (14, .agg #[iV 1, .slice a15 0 c2, .slice a16 1 c3, .slice none 0 0]), (3, .pointer (some pout))] rfl rfl (fun sL hL => ?_) (.nil))
   refine st (p := pout) (off := 0) (k := 1) (vs := [iV 1, .slice a15 0 c2, .slice a16 1 c3, .slice none 0 0]) rfl rfl rfl (fun w => (tA25 w).2) rfl rfl rfl rfl ?_
   refine .nil ?_
   refine .jaN (M := [8, 0, 1]) (C' := []) (pre := []) [1, 2] hL rfl rfl rfl rfl rfl (by kernel_rfl) ?_
   refine .last [(6, .pointer (some (pt5.add 0))), (7, iV 1), (8, .pointer (some (pt5.add 1))), (9, .slice none 0 0), (10, .slice a15 0 c2), (11, .pointer (some (pt5.add 2))), (12, .slice a7 1 1), (13, .slice a16 1 c3), (14, .agg #[iV 1, .slice a15 0 c2, .slice a16 1 c3, .slice none 0 0]), (3, .pointer (some pout))] rfl (by kernel_rfl) (.nil) rfl ?_
   refine .seqN (.seq (.seq (.region (.V (fa rfl tF25_3) ?_))))
   refine .V (ld1 rfl tO23 (cellB (off := 3) (k := 4) rfl rfl)) ?_
   refine .V (ln rfl tS23.is) ?_
   refine .V mv0 ?_
   refine .nil (.seqN (.block ?_))
   refine .rounds 90 ?_
   refine .seq (.region (.V bi0 ?_))
   refine .nil (.seqN (.seq ?_))
   refine .cond rfl (fun _ => ?_) (fun e => absurd (e.symm.trans rfl) (by decide))
   refine .skip (.seqN (.seq (.block (.seq (.region (.V (ix rfl rfl tS23 (q31.ne (by decide) (inb_pos (show inb ([(⟨[], ([0] : List Int), [], 2⟩ : Operator)] : List Operator) (0 : Int) from And.intro (by decide) (by decide)))) (show inb ([(⟨[], ([0] : List Int), [], 2⟩ : Operator)] : List Operator) (0 : Int) from And.intro (by decide) (by decide))) ?_))))))
   obtain ⟨_, ⟨a17, c4, a18, c5, a19, c6, rfl, ⟨q87, q88⟩, ⟨q89, q90⟩, q91, q92⟩, q93⟩ := q31.elem (show inb ([(⟨[], ([0] : List Int), [], 2⟩ : Operator)] : List Operator) (0 : Int) from And.intro (by decide) (by decide))
   refine .V (ldA (cs := [.slice a17 0 c4, .slice a18 1 c5, .slice a19 0 c6, iV 2]) rfl tA114 rfl (cellsH (q93 (by decide)))) ?_
   refine al tZ114 rfl (fun po => ?_)
   refine st (p := po) (off := 0) (k := 0) (vs := [.slice a17 0 c4, .slice a18 1 c5, .slice a19 0 c6, iV 2]) rfl rfl rfl (fun w => (tA114 w).2) rfl rfl rfl rfl ?_
   refine .nil (.seqN ?_)
   refine .openA (s0 := [(2, .pointer (some pv8)), (3, .pointer (some pout)), (5, .pointer (some po)), (16, .slice a9 1 1), (17, iV 1), (18, iV 0)]) [0, 1, 2, 3, 5, 6, 8, 9, 11, 12] [(0, .pointer (some (pout.add 3))), (1, .slice none 0 0), (2, .pointer (some (po.add 0))), (3, .slice a17 0 c4), (5, .pointer (some (po.add 1))), (6, .slice a18 1 c5), (8, .pointer (some (po.add 2))), (9, .slice a19 0 c6), (11, .pointer (some (po.add 3))), (12, iV 2)] (by kernel_rfl) sb [2, 3, 5, 16, 17, 18] [] rfl (by kernel_rfl) ?_
   refine .step [4] 4 rfl (by kernel_rfl) (by kernel_rfl) (.v [] rfl rfl rfl rfl rfl rfl (fun _ => fa rfl tF25_3) (.v [(22, .pointer (some (pout.add 3)))] rfl rfl rfl rfl rfl rfl (fun _ => ld1 rfl tO23 (cellB (off := 3) (k := 2) rfl rfl)) (.v [] rfl rfl rfl rfl rfl rfl (fun _ => fa rfl tF114_0) (.v [(24, .pointer (some (po.add 0)))] rfl rfl rfl rfl rfl rfl (fun _ => ld1 rfl tO22 (cellB (off := 0) (k := 0) rfl rfl)) (.v [] rfl rfl rfl rfl rfl rfl (fun _ => fa rfl tF114_1) (.v [(27, .pointer (some (po.add 1)))] rfl rfl rfl rfl rfl rfl (fun _ => ld1 rfl tO22 (cellB (off := 1) (k := 0) rfl rfl)) (.v [] rfl rfl rfl rfl rfl rfl (fun _ => fa rfl tF114_2) (.v [(30, .pointer (some (po.add 2)))] rfl rfl rfl rfl rfl rfl (fun _ => ld1 rfl tO22 (cellB (off := 2) (k := 0) rfl rfl)) (.v [] rfl rfl rfl rfl rfl rfl (fun _ => fa rfl tF114_3) (.v [(33, .pointer (some (po.add 3)))] rfl rfl rfl rfl rfl rfl (fun _ => ld1 rfl tO3 (cellB (off := 3) (k := 0) rfl rfl)) (.nil))))))))))) (.cons [(25, .slice a17 0 c4)] rfl rfl (fun sL hL => ?_) (.nil))
   obtain ⟨q94, hF⟩ := hF
   obtain ⟨r7, q95⟩ : ∃ y_ : List Int, y_ = sp_clone ([] : List Int) := ⟨_, rfl⟩
   replace hF := hF r7 q95
   refine clO (α := Option Addr × Nat) (V := fun z => vSl z.1 r7 z.2) (Ψ := fun z => True) (B := fun z => [oL 3 1 z.1 r7 z.2]) Tryz.call57 rfl rfl (fun w S => (by rw [q95]; exact c_cloneO S.sub ([] : List Int) a17 c4 q88 q87 q94)) rfl (fun z _ => ?_)
   obtain ⟨a20, c7⟩ := z
   obtain rfl : r7 = ([] : List Int) := q95.trans (by decide +kernel)
   refine .KA [OwnSl 3 1 a20 0 c7 [], Box po [.slice a17 0 c4, .slice a18 1 c5, .slice a19 0 c6, iV 2], OwnSl 3 1 a16 1 c3 [iV 0], Box pout [iV 1, .slice a15 0 c2, .slice a16 1 c3, .slice none 0 0], OwnSl 3 1 a15 0 c2 [], Box pv8 [iV 0, .slice none 0 0, .slice none 0 0, .slice none 0 0], Box pt5 [iV 1, .slice none 0 0, .slice a7 1 1, .slice a9 1 1], Box pv6 [iV 0, iV 0], Box pv5 [iV 0, .slice none 0 0, .slice none 0 0, .slice none 0 0], Box pv3 [iV 0, iV 0], Box pf [iV 0, iV 0]] ?_
   refine .nil ?_
   refine .ja (M := [3, 2]) (C' := [0, 1, 5, 6, 8, 9, 11, 12]) (pre := [(4, .slice a20 0 c7)]) [(2, .pointer (some pv8)), (3, .pointer (some pout)), (5, .pointer (some po)), (16, .slice a9 1 1), (17, iV 1), (18, iV 0)] [2, 3, 5, 16, 17, 18] hL rfl rfl rfl rfl rfl sb rfl rfl (by kernel_rfl) ?_
   refine .step [7] 7 rfl (by kernel_rfl) (by kernel_rfl) (.v [] rfl rfl rfl rfl rfl rfl (fun _ => fa rfl tF25_3) (.v [(22, .pointer (some (pout.add 3)))] rfl rfl rfl rfl rfl rfl (fun _ => ld1 rfl tO23 (cellB (off := 3) (k := 3) rfl rfl)) (.v [] rfl rfl rfl rfl rfl rfl (fun _ => fa rfl tF114_1) (.v [(27, .pointer (some (po.add 1)))] rfl rfl rfl rfl rfl rfl (fun _ => ld1 rfl tO22 (cellB (off := 1) (k := 1) rfl rfl)) (.v [] rfl rfl rfl rfl rfl rfl (fun _ => fa rfl tF114_2) (.v [(30, .pointer (some (po.add 2)))] rfl rfl rfl rfl rfl rfl (fun _ => ld1 rfl tO22 (cellB (off := 2) (k := 1) rfl rfl)) (.v [] rfl rfl rfl rfl rfl rfl (fun _ => fa rfl tF114_3) (.v [(33, .pointer (some (po.add 3)))] rfl rfl rfl rfl rfl rfl (fun _ => ld1 rfl tO3 (cellB (off := 3) (k := 1) rfl rfl)) (.nil))))))))) (.cons [(28, .slice a18 1 c5), (26, .slice a20 0 c7)] rfl rfl (fun sL hL => ?_) (.nil))
   obtain ⟨r8, q96⟩ : ∃ y_ : List Int, y_ = sp_clone ([0] : List Int) := ⟨_, rfl⟩
   replace hF := hF r8 q96
   refine clO (α := Option Addr × Nat) (V := fun z => vSl z.1 r8 z.2) (Ψ := fun z => True) (B := fun z => [oL 3 1 z.1 r8 z.2]) Tryz.call57 rfl rfl (fun w S => (by rw [q96]; exact c_cloneO S.sub ([0] : List Int) a18 c5 q90 q89 q85)) rfl (fun z _ => ?_)
   obtain ⟨a21, c8⟩ := z
   obtain rfl : r8 = ([0] : List Int) := q96.trans (by decide +kernel)
   refine .nil ?_
   refine .ja (M := [6, 5]) (C' := [0, 1, 8, 9, 11, 12]) (pre := [(7, .slice a21 1 c8)]) [(2, .pointer (some pv8)), (3, .pointer (some pout)), (5, .pointer (some po)), (16, .slice a9 1 1), (17, iV 1), (18, iV 0)] [2, 3, 5, 16, 17, 18] hL rfl rfl rfl rfl rfl sb rfl rfl (by kernel_rfl) ?_
   refine .step [10] 10 rfl (by kernel_rfl) (by kernel_rfl) (.v [] rfl rfl rfl rfl rfl rfl (fun _ => fa rfl tF25_3) (.v [(22, .pointer (some (pout.add 3)))] rfl rfl rfl rfl rfl rfl (fun _ => ld1 rfl tO23 (cellB (off := 3) (k := 4) rfl rfl)) (.v [] rfl rfl rfl rfl rfl rfl (fun _ => fa rfl tF114_2) (.v [(30, .pointer (some (po.add 2)))] rfl rfl rfl rfl rfl rfl (fun _ => ld1 rfl tO22 (cellB (off := 2) (k := 2) rfl rfl)) (.v [] rfl rfl rfl rfl rfl rfl (fun _ => fa rfl tF114_3) (.v [(33, .pointer (some (po.add 3)))] rfl rfl rfl rfl rfl rfl (fun _ => ld1 rfl tO3 (cellB (off := 3) (k := 2) rfl rfl)) (.nil))))))) (.cons [(31, .slice a19 0 c6), (29, .slice a21 1 c8)] rfl rfl (fun sL hL => ?_) (.nil))
   obtain ⟨r9, q97⟩ : ∃ y_ : List Int, y_ = sp_clone ([] : List Int) := ⟨_, rfl⟩
   replace hF := hF r9 q97
   refine clO (α := Option Addr × Nat) (V := fun z => vSl z.1 r9 z.2) (Ψ := fun z => True) (B := fun z => [oL 3 1 z.1 r9 z.2]) Tryz.call57 rfl rfl (fun w S => (by rw [q97]; exact c_cloneO S.sub ([] : List Int) a19 c6 q92 q91 q94)) rfl (fun z _ => ?_)
   obtain ⟨a22, c9⟩ := z
   obtain rfl : r9 = ([] : List Int) := q97.trans (by decide +kernel)
   refine .nil ?_
   refine .ja (M := [9, 8]) (C' := [0, 1, 11, 12, 13]) (pre := [(10, .slice a22 0 c9), (13, .agg #[.slice a20 0 c7, .slice a21 1 c8, .slice a22 0 c9, iV 2])]) [(2, .pointer (some pv8)), (3, .pointer (some pout)), (5, .pointer (some po)), (16, .slice a9 1 1), (17, iV 1), (18, iV 0)] [2, 3, 5, 16, 17, 18] hL rfl rfl rfl rfl rfl sb rfl rfl (by kernel_rfl) ?_
   refine .step [14] 14 rfl (by kernel_rfl) (by kernel_rfl) (.v [] rfl rfl rfl rfl rfl rfl (fun _ => fa rfl tF25_3) (.v [(22, .pointer (some (pout.add 3)))] rfl rfl rfl rfl rfl rfl (fun _ => ld1 rfl tO23 (cellB (off := 3) (k := 5) rfl rfl)) (.v [] rfl rfl rfl rfl rfl rfl (fun _ => fa rfl tF114_3) (.v [(33, .pointer (some (po.add 3)))] rfl rfl rfl rfl rfl rfl (fun _ => ld1 rfl tO3 (cellB (off := 3) (k := 3) rfl rfl)) (.v [(26, .slice a20 0 c7), (29, .slice a21 1 c8), (32, .slice a22 0 c9), (34, iV 2)] rfl rfl rfl rfl rfl rfl (fun _ => bld (cs := #[.slice a20 0 c7, .slice a21 1 c8, .slice a22 0 c9, iV 2]) (pv := [(0, .slice a20 0 c7), (1, .slice a21 1 c8), (2, .slice a22 0 c9), (3, iV 2)]) tB114 rfl rfl) (.nil)))))) (.cons [(35, .agg #[.slice a20 0 c7, .slice a21 1 c8, .slice a22 0 c9, iV 2])] rfl rfl (fun sL hL => ?_) (.nil))
   refine bs2 (cs := #[.slice a20 0 c7, .slice a21 1 c8, .slice a22 0 c9, iV 2]) (pv := [(0, .agg #[.slice a20 0 c7, .slice a21 1 c8, .slice a22 0 c9, iV 2])]) tS23 rfl rfl (by decide) (by decide) rfl rfl rfl (fun a23 q98 => ?_)
   refine .nil ?_
   refine .ja (M := [13, 12, 11]) (C' := [0, 1]) (pre := [(14, .slice a23 1 1)]) [(2, .pointer (some pv8)), (3, .pointer (some pout)), (5, .pointer (some po)), (16, .slice a9 1 1), (17, iV 1), (18, iV 0)] [2, 3, 5, 16, 17, 18] hL rfl rfl rfl rfl rfl sb rfl rfl (by kernel_rfl) ?_
   refine .step [15] 15 rfl (by kernel_rfl) (by kernel_rfl) (.v [] rfl rfl rfl rfl rfl rfl (fun _ => fa rfl tF25_3) (.v [(22, .pointer (some (pout.add 3)))] rfl rfl rfl rfl rfl rfl (fun _ => ld1 rfl tO23 (cellB (off := 3) (k := 6) rfl rfl)) (.nil))) (.cons [(23, .slice none 0 0), (36, .slice a23 1 1), (32, .slice a22 0 c9)] rfl rfl (fun sL hL => ?_) (.nil))
   refine .nilSl 114 4 ?_
   refine app (k := 0) (news := [.slice a20 0 c7, .slice a21 1 c8, .slice a22 0 c9, iV 2]) (cs' := [.slice a20 0 c7, .slice a21 1 c8, .slice a22 0 c9, iV 2]) (nm := 1) tS23 rfl (by decide) rfl rfl rfl rfl (srcS (k := 1) rfl) (oneAll rfl) (by decide) (by decide) rfl rfl rfl (fun a24 c10 => ?_)
   refine .nil ?_
   refine .ja (M := [1, 0]) (C' := [16]) (pre := [(15, .slice a24 1 c10), (16, .pointer (some (pout.add 3)))]) [(2, .pointer (some pv8)), (3, .pointer (some pout)), (5, .pointer (some po)), (16, .slice a9 1 1), (17, iV 1), (18, iV 0)] [2, 3, 5, 16, 17, 18] hL rfl rfl rfl rfl rfl sb rfl rfl (by kernel_rfl) ?_
   refine .step [17] 17 rfl (by kernel_rfl) (by kernel_rfl) (.v [(22, .pointer (some (pout.add 3))), (23, .slice none 0 0), (24, .pointer (some (po.add 0))), (25, .slice a17 0 c4), (26, .slice a20 0 c7), (27, .pointer (some (po.add 1))), (28, .slice a18 1 c5), (29, .slice a21 1 c8), (30, .pointer (some (po.add 2))), (31, .slice a19 0 c6), (32, .slice a22 0 c9), (33, .pointer (some (po.add 3))), (34, iV 2), (35, .agg #[.slice a20 0 c7, .slice a21 1 c8, .slice a22 0 c9, iV 2]), (36, .slice a23 1 1), (37, .slice a24 1 c10)] rfl rfl rfl rfl rfl rfl (fun _ => fa rfl tF25_3) (.nil)) (.cons [(38, .pointer (some (pout.add 3))), (37, .slice a24 1 c10), (37, .slice a24 1 c10), (22, .pointer (some (pout.add 3))), (23, .slice none 0 0), (24, .pointer (some (po.add 0))), (25, .slice a17 0 c4), (26, .slice a20 0 c7), (27, .pointer (some (po.add 1))), (28, .slice a18 1 c5), (29, .slice a21 1 c8), (30, .pointer (some (po.add 2))), (31, .slice a19 0 c6), (32, .slice a22 0 c9), (33, .pointer (some (po.add 3))), (34, iV 2), (35, .agg #[.slice a20 0 c7, .slice a21 1 c8, .slice a22 0 c9, iV 2]), (36, .slice a23 1 1), (37, .slice a24 1 c10)] rfl rfl (fun sL hL => ?_) (.nil))
   refine st (p := pout) (off := 3) (k := 7) (vs := [.slice a24 1 c10]) rfl rfl rfl (fun w => (tO23 w).2) rfl rfl rfl rfl ?_
   refine .KA [OwnSl 114 4 a24 1 c10 [.slice a20 0 c7, .slice a21 1 c8, .slice a22 0 c9, iV 2], OwnSl 114 4 a23 1 1 [.slice a20 0 c7, .slice a21 1 c8, .slice a22 0 c9, iV 2], OwnSl 3 1 a22 0 c9 [], OwnSl 3 1 a21 1 c8 [iV 0], OwnSl 3 1 a20 0 c7 [], Box po [.slice a17 0 c4, .slice a18 1 c5, .slice a19 0 c6, iV 2], OwnSl 3 1 a16 1 c3 [iV 0], Box pout [iV 1, .slice a15 0 c2, .slice a16 1 c3, .slice a24 1 c10], OwnSl 3 1 a15 0 c2 [], Box pv8 [iV 0, .slice none 0 0, .slice none 0 0, .slice none 0 0], Box pt5 [iV 1, .slice none 0 0, .slice a7 1 1, .slice a9 1 1], Box pv6 [iV 0, iV 0], Box pv5 [iV 0, .slice none 0 0, .slice none 0 0, .slice none 0 0], Box pv3 [iV 0, iV 0], Box pf [iV 0, iV 0]] ?_
   refine .nil ?_
   refine .jaN (M := [16]) (C' := []) (pre := []) [2, 3, 5, 16, 17, 18] hL rfl rfl rfl rfl rfl (by kernel_rfl) ?_
   refine .last [(22, .pointer (some (pout.add 3))), (23, .slice none 0 0), (24, .pointer (some (po.add 0))), (25, .slice a17 0 c4), (26, .slice a20 0 c7), (27, .pointer (some (po.add 1))), (28, .slice a18 1 c5), (29, .slice a21 1 c8), (30, .pointer (some (po.add 2))), (31, .slice a19 0 c6), (32, .slice a22 0 c9), (33, .pointer (some (po.add 3))), (34, iV 2), (35, .agg #[.slice a20 0 c7, .slice a21 1 c8, .slice a22 0 c9, iV 2]), (36, .slice a23 1 1), (37, .slice a24 1 c10), (38, .pointer (some (pout.add 3)))] rfl (by kernel_rfl) (.nil) rfl ?_
   refine .blkN (.seqN (.region (.V bi0 ?_)))
   refine .V mv0 ?_
   refine .nil ?_
   refine .more ?_
   refine .sub (s' := [(2, .pointer (some pv8)), (3, .pointer (some pout)), (16, .slice a9 1 1), (17, iV 1), (18, iV 1)]) sb ?_
   refine .sel0 [0, 2, 3, 4, 6, 7, 8, 9, 11, 12, 13, 14] (by decide) rfl ?_
   refine .KA [OwnSl 114 4 a24 1 c10 [.slice a20 0 c7, .slice a21 1 c8, .slice a22 0 c9, iV 2], OwnSl 3 1 a22 0 c9 [], OwnSl 3 1 a21 1 c8 [iV 0], OwnSl 3 1 a20 0 c7 [], OwnSl 3 1 a16 1 c3 [iV 0], Box pout [iV 1, .slice a15 0 c2, .slice a16 1 c3, .slice a24 1 c10], OwnSl 3 1 a15 0 c2 [], Box pv8 [iV 0, .slice none 0 0, .slice none 0 0, .slice none 0 0], Box pv6 [iV 0, iV 0], Box pv5 [iV 0, .slice none 0 0, .slice none 0 0, .slice none 0 0], Box pv3 [iV 0, iV 0], Box pf [iV 0, iV 0]] ?_
   refine .seq (.region (.V bi0 ?_))
   refine .nil (.seqN (.seq ?_))
   refine .cond rfl (fun e => absurd (e.symm.trans rfl) (by decide)) (fun _ => ?_)
   refine .exit (.seqX (.seqX (.blkX (.seqN (.seq (.region (.V (ldA (cs := [iV 1, .slice a15 0 c2, .slice a16 1 c3, .slice a24 1 c10]) rfl tA25 rfl (cellsB (off := 0) (k := 5) rfl (m := 4) rfl)) ?_)))))))
   refine st (p := pv8) (off := 0) (k := 7) (vs := [iV 1, .slice a15 0 c2, .slice a16 1 c3, .slice a24 1 c10]) rfl rfl rfl (fun w => (tA25 w).2) rfl rfl rfl rfl ?_
   refine .nil (.seqN (.ret ?_))
   refine .res1 rfl (rvC rfl tA25 (k := 7) rfl rfl) (inl_back (v := .agg #[iV 1, .slice a15 0 c2, .slice a16 1 c3, .slice a24 1 c10]) q38 rfl ?_)
   refine al tZ25 rfl (fun pout2 => ?_)
   refine st (p := pout2) (off := 0) (k := 0) (vs := [iV 1, .slice a15 0 c2, .slice a16 1 c3, .slice a24 1 c10]) rfl rfl rfl (fun w => (tA25 w).2) rfl rfl rfl rfl ?_
   refine .nil (.seqN (.seq (.region (.V (fa rfl tF25_2) ?_))))
   refine .V (ld1 rfl tO22 (cellB (off := 2) (k := 0) rfl rfl)) ?_
   refine .V (fa rfl tF25_0) ?_
   refine .V (ld1 rfl tO3 (cellB (off := 0) (k := 0) rfl rfl)) ?_
   refine bs2 (cs := #[iV 1]) (pv := [(0, iV 1)]) tS22 rfl rfl (by decide) (by decide) rfl rfl rfl (fun a25 q99 => ?_)
   refine app (k := 6) (news := [iV 1]) (cs' := [iV 0, iV 1]) (nm := 2) tS22 rfl (by decide) rfl rfl rfl rfl (srcS (k := 0) rfl) (oneAll rfl) (by decide) (by decide) rfl rfl rfl (fun a26 c11 => ?_)
   refine .V (fa rfl tF25_2) ?_
   refine st (p := pout2) (off := 2) (k := 1) (vs := [.slice a26 2 c11]) rfl rfl rfl (fun w => (tO22 w).2) rfl rfl rfl rfl ?_
   refine .nil (.seqN (.seq ?_))
   refine .openA (s0 := [(1, iV 0), (4, .pointer (some pv5)), (5, .pointer (some pv6)), (7, .pointer (some pout2))]) [0, 1, 2, 3, 4, 5, 6, 7, 8, 9, 10] [(0, .pointer (some (pout2.add 3))), (1, .slice a24 1 c10), (2, iV 0), (3, .pointer (some (pout2.add 3))), (4, .slice a24 1 c10), (5, iV 0), (6, .pointer (some (ead a24 ((0 : Int).toNat * 4)))), (7, .pointer (some ((ead a24 ((0 : Int).toNat * 4)).add 1))), (8, .slice a21 1 c8), (9, .pointer (some (pout2.add 0))), (10, iV 1)] (by kernel_rfl) sb [1, 4, 5, 7] [] rfl (by kernel_rfl) ?_
   refine .step [11] 11 rfl (by kernel_rfl) (by kernel_rfl) (.v [] rfl rfl rfl rfl rfl rfl (fun _ => fa rfl tF25_3) (.v [(30, .pointer (some (pout2.add 3)))] rfl rfl rfl rfl rfl rfl (fun _ => ld1 rfl tO23 (cellB (off := 3) (k := 1) rfl rfl)) (.v [] rfl rfl rfl rfl rfl rfl (fun _ => mv rfl) (.v [] rfl rfl rfl rfl rfl rfl (fun _ => fa rfl tF25_3) (.v [(33, .pointer (some (pout2.add 3)))] rfl rfl rfl rfl rfl rfl (fun _ => ld1 rfl tO23 (cellB (off := 3) (k := 1) rfl rfl)) (.v [] rfl rfl rfl rfl rfl rfl (fun _ => mv rfl) (.v [(34, .slice a24 1 c10), (35, iV 0)] rfl rfl rfl rfl rfl rfl (fun _ => ixS rfl rfl tS23 (k := 2) rfl (And.intro (by decide) (by decide))) (.v [(36, .pointer (some (ead a24 ((0 : Int).toNat * 4))))] rfl rfl rfl rfl rfl rfl (fun _ => fa rfl tF114_1) (.v [(37, .pointer (some ((ead a24 ((0 : Int).toNat * 4)).add 1)))] rfl rfl rfl rfl rfl rfl (fun _ => ld1 (v := .slice a21 1 c8) rfl tO22 (cellF (k := 2) rfl rfl)) (.v [] rfl rfl rfl rfl rfl rfl (fun _ => fa rfl tF25_0) (.v [(39, .pointer (some (pout2.add 0)))] rfl rfl rfl rfl rfl rfl (fun _ => ld1 rfl tO3 (cellB (off := 0) (k := 1) rfl rfl)) (.nil)))))))))))) (.cons [(40, iV 1)] rfl rfl (fun sL hL => ?_) (.nil))
   refine bs2 (cs := #[iV 1]) (pv := [(0, iV 1)]) tS22 rfl rfl (by decide) (by decide) rfl rfl rfl (fun a27 q100 => ?_)
   refine .nil ?_
   refine .ja (M := [10, 9]) (C' := [0, 1, 2, 3, 4, 5, 6, 7, 8]) (pre := [(11, .slice a27 1 1)]) [(1, iV 0), (4, .pointer (some pv5)), (5, .pointer (some pv6)), (7, .pointer (some pout2))] [1, 4, 5, 7] hL rfl rfl rfl rfl rfl sb rfl rfl (by kernel_rfl) ?_
   refine .step [12] 12 rfl (by kernel_rfl) (by kernel_rfl) (.v [] rfl rfl rfl rfl rfl rfl (fun _ => fa rfl tF25_3) (.v [(30, .pointer (some (pout2.add 3)))] rfl rfl rfl rfl rfl rfl (fun _ => ld1 rfl tO23 (cellB (off := 3) (k := 2) rfl rfl)) (.v [] rfl rfl rfl rfl rfl rfl (fun _ => mv rfl) (.v [] rfl rfl rfl rfl rfl rfl (fun _ => fa rfl tF25_3) (.v [(33, .pointer (some (pout2.add 3)))] rfl rfl rfl rfl rfl rfl (fun _ => ld1 rfl tO23 (cellB (off := 3) (k := 2) rfl rfl)) (.v [] rfl rfl rfl rfl rfl rfl (fun _ => mv rfl) (.v [(34, .slice a24 1 c10), (35, iV 0)] rfl rfl rfl rfl rfl rfl (fun _ => ixS rfl rfl tS23 (k := 3) rfl (And.intro (by decide) (by decide))) (.v [(36, .pointer (some (ead a24 ((0 : Int).toNat * 4))))] rfl rfl rfl rfl rfl rfl (fun _ => fa rfl tF114_1) (.v [(37, .pointer (some ((ead a24 ((0 : Int).toNat * 4)).add 1)))] rfl rfl rfl rfl rfl rfl (fun _ => ld1 (v := .slice a21 1 c8) rfl tO22 (cellF (k := 3) rfl rfl)) (.nil)))))))))) (.cons [(38, .slice a21 1 c8), (41, .slice a27 1 1)] rfl rfl (fun sL hL => ?_) (.nil))
   refine app (k := 5) (news := [iV 1]) (cs' := [iV 0, iV 1]) (nm := 2) tS22 rfl (by decide) rfl rfl rfl rfl (srcS (k := 0) rfl) (oneAll rfl) (by decide) (by decide) rfl rfl rfl (fun a28 c12 => ?_)
   refine .KA [OwnSl 3 1 a27 1 1 [iV 1], OwnSl 3 1 a25 1 1 [iV 1], Box pout2 [iV 1, .slice a15 0 c2, .slice a26 2 c11, .slice a24 1 c10], OwnSl 114 4 a24 1 c10 [.slice a20 0 c7, .slice a21 1 c8, .slice a22 0 c9, iV 2], OwnSl 3 1 a22 0 c9 [], OwnSl 3 1 a28 2 c12 [iV 0, iV 1], OwnSl 3 1 a20 0 c7 [], OwnSl 3 1 a26 2 c11 [iV 0, iV 1], Box pout [iV 1, .slice a15 0 c2, .slice a16 1 c3, .slice a24 1 c10], OwnSl 3 1 a15 0 c2 [], Box pv8 [iV 1, .slice a15 0 c2, .slice a16 1 c3, .slice a24 1 c10], Box pv6 [iV 0, iV 0], Box pv5 [iV 0, .slice none 0 0, .slice none 0 0, .slice none 0 0], Box pv3 [iV 0, iV 0], Box pf [iV 0, iV 0]] ?_
   refine .nil ?_
   refine .ja (M := [8, 7, 6, 4, 5, 3]) (C' := [0, 1, 2, 13, 14]) (pre := [(12, .slice a28 2 c12), (13, .pointer (some (ead a24 ((0 : Int).toNat * 4)))), (14, .pointer (some ((ead a24 ((0 : Int).toNat * 4)).add 1)))]) [(1, iV 0), (4, .pointer (some pv5)), (5, .pointer (some pv6)), (7, .pointer (some pout2))] [1, 4, 5, 7] hL rfl rfl rfl rfl rfl sb rfl rfl (by kernel_rfl) ?_
   refine .step [15] 15 rfl (by kernel_rfl) (by kernel_rfl) (.v [] rfl rfl rfl rfl rfl rfl (fun _ => fa rfl tF25_3) (.v [(30, .pointer (some (pout2.add 3)))] rfl rfl rfl rfl rfl rfl (fun _ => ld1 rfl tO23 (cellB (off := 3) (k := 2) rfl rfl)) (.v [] rfl rfl rfl rfl rfl rfl (fun _ => mv rfl) (.v [(31, .slice a24 1 c10), (32, iV 0), (30, .pointer (some (pout2.add 3))), (31, .slice a24 1 c10), (32, iV 0), (33, .pointer (some (pout2.add 3))), (34, .slice a24 1 c10), (35, iV 0), (36, .pointer (some (ead a24 ((0 : Int).toNat * 4)))), (37, .pointer (some ((ead a24 ((0 : Int).toNat * 4)).add 1))), (38, .slice a21 1 c8), (39, .pointer (some (pout2.add 0))), (40, iV 1), (41, .slice a27 1 1), (42, .slice a28 2 c12)] rfl rfl rfl rfl rfl rfl (fun _ => ixS rfl rfl tS23 (k := 3) rfl (And.intro (by decide) (by decide))) (.v [(43, .pointer (some (ead a24 ((0 : Int).toNat * 4)))), (30, .pointer (some (pout2.add 3))), (31, .slice a24 1 c10), (32, iV 0), (33, .pointer (some (pout2.add 3))), (34, .slice a24 1 c10), (35, iV 0), (36, .pointer (some (ead a24 ((0 : Int).toNat * 4)))), (37, .pointer (some ((ead a24 ((0 : Int).toNat * 4)).add 1))), (38, .slice a21 1 c8), (39, .pointer (some (pout2.add 0))), (40, iV 1), (41, .slice a27 1 1), (42, .slice a28 2 c12)] rfl rfl rfl rfl rfl rfl (fun _ => fa rfl tF114_1) (.nil)))))) (.cons [(44, .pointer (some ((ead a24 ((0 : Int).toNat * 4)).add 1))), (42, .slice a28 2 c12), (42, .slice a28 2 c12), (30, .pointer (some (pout2.add 3))), (31, .slice a24 1 c10), (32, iV 0), (33, .pointer (some (pout2.add 3))), (34, .slice a24 1 c10), (35, iV 0), (36, .pointer (some (ead a24 ((0 : Int).toNat * 4)))), (37, .pointer (some ((ead a24 ((0 : Int).toNat * 4)).add 1))), (38, .slice a21 1 c8), (39, .pointer (some (pout2.add 0))), (40, iV 1), (41, .slice a27 1 1), (42, .slice a28 2 c12)] rfl rfl (fun sL hL => ?_) (.nil))
   refine stS (k := 3) (off := 0 * 4 + 1) (cs' := [.slice a20 0 c7, .slice a28 2 c12, .slice a22 0 c9, iV 2]) rfl (fun q => ead_add q _ _) rfl rfl (fun w => (tO22 w).2) rfl rfl rfl (by decide) (Nat.le_of_ble_eq_true rfl) rfl ?_
   refine .nil ?_
   refine .jaN (M := [14, 0, 1, 2, 13]) (C' := []) (pre := []) [1, 4, 5, 7] hL rfl rfl rfl rfl rfl (by kernel_rfl) ?_
   refine .last [(30, .pointer (some (pout2.add 3))), (31, .slice a24 1 c10), (32, iV 0), (33, .pointer (some (pout2.add 3))), (34, .slice a24 1 c10), (35, iV 0), (36, .pointer (some (ead a24 ((0 : Int).toNat * 4)))), (37, .pointer (some ((ead a24 ((0 : Int).toNat * 4)).add 1))), (38, .slice a21 1 c8), (39, .pointer (some (pout2.add 0))), (40, iV 1), (41, .slice a27 1 1), (42, .slice a28 2 c12), (43, .pointer (some (ead a24 ((0 : Int).toNat * 4)))), (44, .pointer (some ((ead a24 ((0 : Int).toNat * 4)).add 1)))] rfl (by kernel_rfl) (.nil) rfl ?_
   refine .seqN (.seq (.region (.V (fa rfl tF25_0) ?_)))
   refine .V (ld1 rfl tO3 (cellB (off := 0) (k := 2) rfl rfl)) ?_
   refine .V bi0 ?_
   refine .V (fa rfl tF25_0) ?_
   refine st (p := pout2) (off := 0) (k := 2) (vs := [iV 2]) rfl rfl rfl (fun w => (tO3 w).2) rfl rfl rfl rfl ?_
   refine .nil (.seqN (.seq (.region (.V (ldA (cs := [iV 2, .slice a15 0 c2, .slice a26 2 c11, .slice a24 1 c10]) rfl tA25 rfl (cellsB (off := 0) (k := 2) rfl (m := 4) rfl)) ?_))))
   refine .V (bld (cs := #[iV 0, iV 0]) (pv := []) tB27 rfl rfl) ?_
   refine st (p := pv5) (off := 0) (k := 12) (vs := [iV 2, .slice a15 0 c2, .slice a26 2 c11, .slice a24 1 c10]) rfl rfl rfl (fun w => (tA25 w).2) rfl rfl rfl rfl ?_
   refine st (p := pv6) (off := 0) (k := 11) (vs := [iV 0, iV 0]) rfl rfl rfl (fun w => (tA27 w).2) rfl rfl rfl rfl ?_
   refine .nil (.seqN (.ret ?_))
   refine .res2 rfl (rvC rfl tA25 (k := 12) rfl rfl) (rvC rfl tA27 (k := 11) rfl rfl) (inl_back (v := .tuple #[.agg #[iV 2, .slice a15 0 c2, .slice a26 2 c11, .slice a24 1 c10], .agg #[iV 0, iV 0]]) q34 rfl ?_)
   refine .V mv0 ?_
   refine .V (ext rfl rfl) ?_
   refine .V (ext rfl rfl) ?_
   refine al tZ25 rfl (fun pu => ?_)
   refine al tZ27 rfl (fun pf6 => ?_)
   refine st (p := pu) (off := 0) (k := 1) (vs := [iV 2, .slice a15 0 c2, .slice a26 2 c11, .slice a24 1 c10]) rfl rfl rfl (fun w => (tA25 w).2) rfl rfl rfl rfl ?_
   refine st (p := pf6) (off := 0) (k := 0) (vs := [iV 0, iV 0]) rfl rfl rfl (fun w => (tA27 w).2) rfl rfl rfl rfl ?_
   refine .nil (.seqN (.seq (.seq (.region (.V (ldA (cs := [iV 0, iV 0]) rfl tA27 rfl (cellsB (off := 0) (k := 0) rfl (m := 2) rfl)) ?_)))))
   refine .V (bld (cs := #[iV 0, iV 0]) (pv := []) tB27 rfl rfl) ?_
   refine .V (ne2 tE27 rfl rfl) ?_
   refine .nil (.seqN ?_)
   refine .cond rfl (fun e => absurd (e.symm.trans rfl) (by decide)) (fun _ => ?_)
   refine .skip (.seqN (.seq (.region (.V (ldA (cs := [iV 2, .slice a15 0 c2, .slice a26 2 c11, .slice a24 1 c10]) rfl tA25 rfl (cellsB (off := 0) (k := 1) rfl (m := 4) rfl)) ?_))))
   refine .freezeL (k := 11) rfl (fun h15 le15 q102 q101 => ?_)
   have q103 : RSl h15 a15 ([] : List Int) := (RSl.of (xs := ([] : List Int)) q101)
   refine .KA [Box pf6 [iV 0, iV 0], Box pu [iV 2, .slice a15 0 c2, .slice a26 2 c11, .slice a24 1 c10], OwnSl 3 1 a27 1 1 [iV 1], OwnSl 3 1 a25 1 1 [iV 1], Box pout2 [iV 2, .slice a15 0 c2, .slice a26 2 c11, .slice a24 1 c10], OwnSl 114 4 a24 1 c10 [.slice a20 0 c7, .slice a28 2 c12, .slice a22 0 c9, iV 2], OwnSl 3 1 a22 0 c9 [], OwnSl 3 1 a28 2 c12 [iV 0, iV 1], OwnSl 3 1 a20 0 c7 [], OwnSl 3 1 a26 2 c11 [iV 0, iV 1], Box pout [iV 1, .slice a15 0 c2, .slice a16 1 c3, .slice a24 1 c10], tru, Box pv8 [iV 1, .slice a15 0 c2, .slice a16 1 c3, .slice a24 1 c10], Box pv6 [iV 0, iV 0], Box pv5 [iV 2, .slice a15 0 c2, .slice a26 2 c11, .slice a24 1 c10], Box pv3 [iV 0, iV 0], Box pf [iV 0, iV 0]] ?_
   refine .freezeL (k := 9) rfl (fun h16 le16 q105 q104 => ?_)
   have q106 : RSl h16 a26 ([0, 1] : List Int) := (RSl.of (xs := ([0, 1] : List Int)) q104)
   refine .freezeL (k := 8) rfl (fun h17 le17 q108 q107 => ?_)
   have q109 : RSl h17 a20 ([] : List Int) := (RSl.of (xs := ([] : List Int)) q107)
   refine .freezeL (k := 7) rfl (fun h18 le18 q111 q110 => ?_)
   have q112 : RSl h18 a28 ([0, 1] : List Int) := (RSl.of (xs := ([0, 1] : List Int)) q110)
   refine .freezeL (k := 6) rfl (fun h19 le19 q114 q113 => ?_)
   have q115 : RSl h19 a22 ([] : List Int) := (RSl.of (xs := ([] : List Int)) q113)
   refine .freezeL (k := 5) rfl (fun h20 le20 q117 q116 => ?_)
   have q118 : RSl h20 a24 ([(⟨([] : List Int), ([0, 1] : List Int), ([] : List Int), 2⟩ : Operator)] : List Operator) := (show RSl h20 a24 ([(⟨([] : List Int), ([0, 1] : List Int), ([] : List Int), 2⟩ : Operator)] : List Operator) from ⟨_, RepL.mono (le20) (show RepL h19 ([(⟨([] : List Int), ([0, 1] : List Int), ([] : List Int), 2⟩ : Operator)] : List Operator) [.slice a20 0 c7, .slice a28 2 c12, .slice a22 0 c9, iV 2] from ⟨[.slice a20 0 c7, .slice a28 2 c12, .slice a22 0 c9, iV 2], _, rfl, ⟨a20, c7, a28, c12, a22, c9, rfl, ⟨(show ([] : List Int).length ≤ c7 from q108), (q109.mono (FH.le_trans (le18) (le19)))⟩, ⟨(show ([0, 1] : List Int).length ≤ c12 from q111), (q112.mono (le19))⟩, ⟨(show ([] : List Int).length ≤ c9 from q114), q115⟩⟩, rfl⟩), q116⟩)
   obtain ⟨q119, hF⟩ := hF
   obtain ⟨r10, q120⟩ : ∃ y_ : Int × Fault, y_ = sp_optimalL (⟨2, ([] : List Int), ([0, 1] : List Int), ([(⟨([] : List Int), ([0, 1] : List Int), ([] : List Int), 2⟩ : Operator)] : List Operator)⟩ : Task) := ⟨_, rfl⟩
   replace hF := hF r10 q120
   have q121 : sp_optimalL (⟨2, ([] : List Int), ([0, 1] : List Int), ([(⟨([] : List Int), ([0, 1] : List Int), ([] : List Int), 2⟩ : Operator)] : List Operator)⟩ : Task) = (2, (⟨0, 0⟩ : Fault)) := by decide +kernel
   refine .C (cl (v := .tuple #[iV 2, .agg #[iV 0, iV 0]]) Tryz.call56 rfl rfl (fun w S => (by have h_ := c_optimalL S.sub (⟨2, ([] : List Int), ([0, 1] : List Int), ([(⟨([] : List Int), ([0, 1] : List Int), ([] : List Int), 2⟩ : Operator)] : List Operator)⟩ : Task) a15 c2 (q103.mono (FH.le_trans (FH.le_trans (FH.le_trans (FH.le_trans (le16) (le17)) (le18)) (le19)) (le20))) (show ([] : List Int).length ≤ c2 from q102) a26 c11 (q106.mono (FH.le_trans (FH.le_trans (FH.le_trans (le17) (le18)) (le19)) (le20))) (show ([0, 1] : List Int).length ≤ c11 from q105) a24 c10 q118 (show ([(⟨([] : List Int), ([0, 1] : List Int), ([] : List Int), 2⟩ : Operator)] : List Operator).length ≤ c10 from q117) q119; rw [q121] at h_; exact h_))) ?_
   refine .V (ext rfl rfl) ?_
   refine .V (ext rfl rfl) ?_
   refine .V ag0 ?_
   refine st (p := pv3) (off := 0) (k := 15) (vs := [iV 0, iV 0]) rfl rfl rfl (fun w => (tA27 w).2) rfl rfl rfl rfl ?_
   refine .nil (.seqN (.ret ?_))
   refine .res2 rfl (rvT rfl) (rvC rfl tA27 (k := 15) rfl rfl) (inl_back (v := .tuple #[iV 2, .agg #[iV 0, iV 0]]) q21 rfl ?_)
   refine .V mv0 ?_
   refine .V (ext rfl rfl) ?_
   refine .V (ext rfl rfl) ?_
   refine al tZ27 rfl (fun pg => ?_)
   refine .V ag0 ?_
   refine st (p := pg) (off := 0) (k := 0) (vs := [iV 0, iV 0]) rfl rfl rfl (fun w => (tA27 w).2) rfl rfl rfl rfl ?_
   refine .KA [Box pg [iV 0, iV 0], Box pf6 [iV 0, iV 0], Box pu [iV 2, .slice a15 0 c2, .slice a26 2 c11, .slice a24 1 c10], OwnSl 3 1 a27 1 1 [iV 1], OwnSl 3 1 a25 1 1 [iV 1], Box pout2 [iV 2, .slice a15 0 c2, .slice a26 2 c11, .slice a24 1 c10], tru, tru, tru, tru, tru, Box pout [iV 1, .slice a15 0 c2, .slice a16 1 c3, .slice a24 1 c10], tru, Box pv8 [iV 1, .slice a15 0 c2, .slice a16 1 c3, .slice a24 1 c10], Box pv6 [iV 0, iV 0], Box pv5 [iV 2, .slice a15 0 c2, .slice a26 2 c11, .slice a24 1 c10], Box pv3 [iV 0, iV 0], Box pf [iV 0, iV 0]] ?_
   refine .nil (.seqN (.seq (.region (.V (fa rfl tF27_0) ?_))))
   refine .V (ld1 rfl tO3 (cellB (off := 0) (k := 17) rfl rfl)) ?_
   refine .V bi0 ?_
   refine .V mv0 ?_
   refine .gv (fa rfl tF27_0) rfl rfl rfl rfl rfl rfl ?_
   refine .gv (ld1 rfl tO3 (cellB (off := 0) (k := 0) rfl rfl)) rfl rfl rfl rfl rfl rfl ?_
   refine .gv bi0 rfl rfl rfl rfl rfl rfl ?_
   refine .V (pkT rfl rfl rfl) ?_
   refine .V mv0 ?_
   refine .gv mv0 rfl rfl rfl rfl rfl rfl ?_
   refine .V (pkT rfl rfl rfl) ?_
   refine .V mv0 ?_
   refine .gv mv0 rfl rfl rfl rfl rfl rfl ?_
   refine .gR rfl rfl rfl rfl ?_
   refine bs2 (cs := #[iV 0]) (pv := [(0, iV 0)]) tS22 rfl rfl (by decide) (by decide) rfl rfl rfl (fun a29 q122 => ?_)
   refine .freezeL (k := 0) rfl (fun h21 le21 q124 q123 => ?_)
   have q125 : RSl h21 a29 ([0] : List Int) := (RSl.of (xs := ([0] : List Int)) q123)
   obtain ⟨q126, hF⟩ := hF
   obtain ⟨r11, q127⟩ : ∃ y_ : Bool, y_ = sp_ints ([0] : List Int) ([0] : List Int) := ⟨_, rfl⟩
   replace hF := hF r11 q127
   have q128 : sp_ints ([0] : List Int) ([0] : List Int) = true := by decide +kernel
   refine .gc (cl (v := .bool true) Tryz.call27 rfl rfl (fun w S => (by have h_ := c_ints S.sub ([0] : List Int) a5 c (q15.mono (FH.le_trans (FH.le_trans (FH.le_trans (FH.le_trans (FH.le_trans (FH.le_trans (FH.le_trans (FH.le_trans (FH.le_trans (le5) (le6)) (le7)) (le15)) (le16)) (le17)) (le18)) (le19)) (le20)) (le21))) q16 ([0] : List Int) a29 1 q125 (show ([0] : List Int).length ≤ 1 from q124) q126; rw [q128] at h_; exact h_))) rfl rfl rfl rfl rfl rfl ?_
   refine .V (pkT rfl rfl rfl) ?_
   refine .V mv0 ?_
   refine .gv mv0 rfl rfl rfl rfl rfl rfl ?_
   refine .gv bi0 rfl rfl rfl rfl rfl rfl ?_
   refine .V (pkT rfl rfl rfl) ?_
   refine .V ag0 ?_
   refine .nil (.seqN (.ret ?_))
   refine .res1 rfl (rvT rfl) (fun w' S => ⟨true, hF, rfl, S.below⟩)
 ·refine al tZ25 rfl (fun pout => ?_)
  refine .nil ?_
  refine .ja (M := []) (C' := [0, 1, 2, 3, 5, 6]) (pre := [(9, .pointer (some pout))]) [(1, .pointer (some pt5)), (2, .pointer (some pv8))] [1, 2] hL rfl rfl rfl rfl rfl sb rfl rfl (by kernel_rfl) ?_
  refine .step [4] 4 rfl (by kernel_rfl) (by kernel_rfl) (.v [] rfl rfl rfl rfl rfl rfl (fun _ => fa rfl tF25_0) (.v [(6, .pointer (some (pt5.add 0)))] rfl rfl rfl rfl rfl rfl (fun _ => ld1 rfl tO3 (cellB (off := 0) (k := 2) rfl rfl)) (.v [] rfl rfl rfl rfl rfl rfl (fun _ => fa rfl tF25_1) (.v [(8, .pointer (some (pt5.add 1)))] rfl rfl rfl rfl rfl rfl (fun _ => ld1 rfl tO22 (cellB (off := 1) (k := 2) rfl rfl)) (.v [] rfl rfl rfl rfl rfl rfl (fun _ => fa rfl tF25_2) (.v [(11, .pointer (some (pt5.add 2)))] rfl rfl rfl rfl rfl rfl (fun _ => ld1 rfl tO22 (cellB (off := 2) (k := 2) rfl rfl)) (.nil))))))) (.cons [(9, .slice none 0 0)] rfl rfl (fun sL hL => ?_) (.nil))
  obtain ⟨q129, hF⟩ := hF
  obtain ⟨r5, q130⟩ : ∃ y_ : List Int, y_ = sp_clone [] := ⟨_, rfl⟩
  replace hF := hF r5 q130
  refine clO (α := Option Addr × Nat) (V := fun z => vSl z.1 r5 z.2) (Ψ := fun z => True) (B := fun z => [oL 3 1 z.1 r5 z.2]) Tryz.call57 rfl rfl (fun w S => (by rw [q130]; exact c_cloneO S.sub [] none 0 RSl.nil_ (Nat.le_refl 0) q129)) rfl (fun z _ => ?_)
  obtain ⟨a15, c2⟩ := z
  obtain rfl : r5 = ([] : List Int) := q130.trans (by decide +kernel)
  refine .nil ?_
  refine .ja (M := [3, 2]) (C' := [0, 1, 5, 6]) (pre := [(4, .slice a15 0 c2)]) [(1, .pointer (some pt5)), (2, .pointer (some pv8))] [1, 2] hL rfl rfl rfl rfl rfl sb rfl rfl (by kernel_rfl) ?_
  refine .step [7] 7 rfl (by kernel_rfl) (by kernel_rfl) (.v [] rfl rfl rfl rfl rfl rfl (fun _ => fa rfl tF25_0) (.v [(6, .pointer (some (pt5.add 0)))] rfl rfl rfl rfl rfl rfl (fun _ => ld1 rfl tO3 (cellB (off := 0) (k := 3) rfl rfl)) (.v [] rfl rfl rfl rfl rfl rfl (fun _ => fa rfl tF25_2) (.v [(11, .pointer (some (pt5.add 2)))] rfl rfl rfl rfl rfl rfl (fun _ => ld1 rfl tO22 (cellB (off := 2) (k := 3) rfl rfl)) (.nil))))) (.cons [(12, .slice a7 1 1), (10, .slice a15 0 c2)] rfl rfl (fun sL hL => ?_) (.nil))
  obtain ⟨q131, hF⟩ := hF
  obtain ⟨r6, q132⟩ : ∃ y_ : List Int, y_ = sp_clone ([0] : List Int) := ⟨_, rfl⟩
  replace hF := hF r6 q132
  refine clO (α := Option Addr × Nat) (V := fun z => vSl z.1 r6 z.2) (Ψ := fun z => True) (B := fun z => [oL 3 1 z.1 r6 z.2]) Tryz.call57 rfl rfl (fun w S => (by rw [q132]; exact c_cloneO S.sub ([0] : List Int) a7 1 (q25.mono (FH.le_trans (le6) (le7))) (show ([0] : List Int).length ≤ 1 from q24) q131)) rfl (fun z _ => ?_)
  obtain ⟨a16, c3⟩ := z
  obtain rfl : r6 = ([0] : List Int) := q132.trans (by decide +kernel)
  refine .nil ?_
  refine .ja (M := [6, 5]) (C' := [0, 1, 8]) (pre := [(7, .slice a16 1 c3), (8, .agg #[iV 1, .slice a15 0 c2, .slice a16 1 c3, .slice none 0 0])]) [(1, .pointer (some pt5)), (2, .pointer (some pv8))] [1, 2] hL rfl rfl rfl rfl rfl sb rfl rfl (by kernel_rfl) ?_
  refine .step [10] 10 rfl (by kernel_rfl) (by kernel_rfl) (.v [] rfl rfl rfl rfl rfl rfl (fun _ => fa rfl tF25_0) (.v [(6, .pointer (some (pt5.add 0)))] rfl rfl rfl rfl rfl rfl (fun _ => ld1 rfl tO3 (cellB (off := 0) (k := 4) rfl rfl)) (.v [(7, iV 1), (10, .slice a15 0 c2), (13, .slice a16 1 c3)] rfl rfl rfl rfl rfl rfl (fun _ => bld (cs := #[iV 1, .slice a15 0 c2, .slice a16 1 c3, .slice none 0 0]) (pv := [(0, iV 1), (1, .slice a15 0 c2), (2, .slice a16 1 c3)]) tB25 rfl rfl) (.nil)))) (.cons [(3, .pointer (some pout)), (14, .agg #[iV 1, .slice a15 0 c2, .slice a16 1 c3, .slice none 0 0]), (13, .slice a16 1 c3), (6, .pointer (some (pt5.add 0))), (7, iV 1), (8, .pointer (some (pt5.add 1))), (9, .slice none 0 0), (10, .slice a15 0 c2), (11, .pointer (some (pt5.add 2))), (12, .slice a7 1 1), (13, .slice a16 1 c3), (14, .agg #[iV 1, .slice a15 0 c2, .slice a16 1 c3, .slice none 0 0]), (3, .pointer (some pout))] rfl rfl (fun sL hL => ?_) (.nil))
  refine st (p := pout) (off := 0) (k := 2) (vs := [iV 1, .slice a15 0 c2, .slice a16 1 c3, .slice none 0 0]) rfl rfl rfl (fun w => (tA25 w).2) rfl rfl rfl rfl ?_
  refine .nil ?_
  refine .jaN (M := [8, 0, 1]) (C' := []) (pre := []) [1, 2] hL rfl rfl rfl rfl rfl (by kernel_rfl) ?_
  refine .last [(6, .pointer (some (pt5.add 0))), (7, iV 1), (8, .pointer (some (pt5.add 1))), (9, .slice none 0 0), (10, .slice a15 0 c2), (11, .pointer (some (pt5.add 2))), (12, .slice a7 1 1), (13, .slice a16 1 c3), (14, .agg #[iV 1, .slice a15 0 c2, .slice a16 1 c3, .slice none 0 0]), (3, .pointer (some pout))] rfl (by kernel_rfl) (.nil) rfl ?_
  refine .seqN (.seq (.seq (.region (.V (fa rfl tF25_3) ?_))))
  refine .V (ld1 rfl tO23 (cellB (off := 3) (k := 4) rfl rfl)) ?_
  refine .V (ln rfl tS23.is) ?_
  refine .V mv0 ?_
  refine .nil (.seqN (.block ?_))
  refine .rounds 90 ?_
  refine .seq (.region (.V bi0 ?_))
  refine .nil (.seqN (.seq ?_))
  refine .cond rfl (fun _ => ?_) (fun e => absurd (e.symm.trans rfl) (by decide))
  refine .skip (.seqN (.seq (.block (.seq (.region (.V (ix rfl rfl tS23 (q31.ne (by decide) (inb_pos (show inb ([(⟨[], ([0] : List Int), [], 2⟩ : Operator)] : List Operator) (0 : Int) from And.intro (by decide) (by decide)))) (show inb ([(⟨[], ([0] : List Int), [], 2⟩ : Operator)] : List Operator) (0 : Int) from And.intro (by decide) (by decide))) ?_))))))
  obtain ⟨_, ⟨a17, c4, a18, c5, a19, c6, rfl, ⟨q133, q134⟩, ⟨q135, q136⟩, q137, q138⟩, q139⟩ := q31.elem (show inb ([(⟨[], ([0] : List Int), [], 2⟩ : Operator)] : List Operator) (0 : Int) from And.intro (by decide) (by decide))
  refine .V (ldA (cs := [.slice a17 0 c4, .slice a18 1 c5, .slice a19 0 c6, iV 2]) rfl tA114 rfl (cellsH (q139 (by decide)))) ?_
  refine al tZ114 rfl (fun po => ?_)
  refine st (p := po) (off := 0) (k := 0) (vs := [.slice a17 0 c4, .slice a18 1 c5, .slice a19 0 c6, iV 2]) rfl rfl rfl (fun w => (tA114 w).2) rfl rfl rfl rfl ?_
  refine .nil (.seqN ?_)
  refine .openA (s0 := [(2, .pointer (some pv8)), (3, .pointer (some pout)), (5, .pointer (some po)), (16, .slice a9 1 1), (17, iV 1), (18, iV 0)]) [0, 1, 2, 3, 5, 6, 8, 9, 11, 12] [(0, .pointer (some (pout.add 3))), (1, .slice none 0 0), (2, .pointer (some (po.add 0))), (3, .slice a17 0 c4), (5, .pointer (some (po.add 1))), (6, .slice a18 1 c5), (8, .pointer (some (po.add 2))), (9, .slice a19 0 c6), (11, .pointer (some (po.add 3))), (12, iV 2)] (by kernel_rfl) sb [2, 3, 5, 16, 17, 18] [] rfl (by kernel_rfl) ?_
  refine .step [4] 4 rfl (by kernel_rfl) (by kernel_rfl) (.v [] rfl rfl rfl rfl rfl rfl (fun _ => fa rfl tF25_3) (.v [(22, .pointer (some (pout.add 3)))] rfl rfl rfl rfl rfl rfl (fun _ => ld1 rfl tO23 (cellB (off := 3) (k := 3) rfl rfl)) (.v [] rfl rfl rfl rfl rfl rfl (fun _ => fa rfl tF114_0) (.v [(24, .pointer (some (po.add 0)))] rfl rfl rfl rfl rfl rfl (fun _ => ld1 rfl tO22 (cellB (off := 0) (k := 0) rfl rfl)) (.v [] rfl rfl rfl rfl rfl rfl (fun _ => fa rfl tF114_1) (.v [(27, .pointer (some (po.add 1)))] rfl rfl rfl rfl rfl rfl (fun _ => ld1 rfl tO22 (cellB (off := 1) (k := 0) rfl rfl)) (.v [] rfl rfl rfl rfl rfl rfl (fun _ => fa rfl tF114_2) (.v [(30, .pointer (some (po.add 2)))] rfl rfl rfl rfl rfl rfl (fun _ => ld1 rfl tO22 (cellB (off := 2) (k := 0) rfl rfl)) (.v [] rfl rfl rfl rfl rfl rfl (fun _ => fa rfl tF114_3) (.v [(33, .pointer (some (po.add 3)))] rfl rfl rfl rfl rfl rfl (fun _ => ld1 rfl tO3 (cellB (off := 3) (k := 0) rfl rfl)) (.nil))))))))))) (.cons [(25, .slice a17 0 c4)] rfl rfl (fun sL hL => ?_) (.nil))
  obtain ⟨q140, hF⟩ := hF
  obtain ⟨r7, q141⟩ : ∃ y_ : List Int, y_ = sp_clone ([] : List Int) := ⟨_, rfl⟩
  replace hF := hF r7 q141
  refine clO (α := Option Addr × Nat) (V := fun z => vSl z.1 r7 z.2) (Ψ := fun z => True) (B := fun z => [oL 3 1 z.1 r7 z.2]) Tryz.call57 rfl rfl (fun w S => (by rw [q141]; exact c_cloneO S.sub ([] : List Int) a17 c4 q134 q133 q140)) rfl (fun z _ => ?_)
  obtain ⟨a20, c7⟩ := z
  obtain rfl : r7 = ([] : List Int) := q141.trans (by decide +kernel)
  refine .KA [OwnSl 3 1 a20 0 c7 [], Box po [.slice a17 0 c4, .slice a18 1 c5, .slice a19 0 c6, iV 2], OwnSl 3 1 a16 1 c3 [iV 0], OwnSl 3 1 a15 0 c2 [], Box pout [iV 1, .slice a15 0 c2, .slice a16 1 c3, .slice none 0 0], Box pv8 [iV 0, .slice none 0 0, .slice none 0 0, .slice none 0 0], Box pt5 [iV 1, .slice none 0 0, .slice a7 1 1, .slice a9 1 1], Box pv6 [iV 0, iV 0], Box pv5 [iV 0, .slice none 0 0, .slice none 0 0, .slice none 0 0], Box pv3 [iV 0, iV 0], Box pf [iV 0, iV 0]] ?_
  refine .nil ?_
  refine .ja (M := [3, 2]) (C' := [0, 1, 5, 6, 8, 9, 11, 12]) (pre := [(4, .slice a20 0 c7)]) [(2, .pointer (some pv8)), (3, .pointer (some pout)), (5, .pointer (some po)), (16, .slice a9 1 1), (17, iV 1), (18, iV 0)] [2, 3, 5, 16, 17, 18] hL rfl rfl rfl rfl rfl sb rfl rfl (by kernel_rfl) ?_
  refine .step [7] 7 rfl (by kernel_rfl) (by kernel_rfl) (.v [] rfl rfl rfl rfl rfl rfl (fun _ => fa rfl tF25_3) (.v [(22, .pointer (some (pout.add 3)))] rfl rfl rfl rfl rfl rfl (fun _ => ld1 rfl tO23 (cellB (off := 3) (k := 4) rfl rfl)) (.v [] rfl rfl rfl rfl rfl rfl (fun _ => fa rfl tF114_1) (.v [(27, .pointer (some (po.add 1)))] rfl rfl rfl rfl rfl rfl (fun _ => ld1 rfl tO22 (cellB (off := 1) (k := 1) rfl rfl)) (.v [] rfl rfl rfl rfl rfl rfl (fun _ => fa rfl tF114_2) (.v [(30, .pointer (some (po.add 2)))] rfl rfl rfl rfl rfl rfl (fun _ => ld1 rfl tO22 (cellB (off := 2) (k := 1) rfl rfl)) (.v [] rfl rfl rfl rfl rfl rfl (fun _ => fa rfl tF114_3) (.v [(33, .pointer (some (po.add 3)))] rfl rfl rfl rfl rfl rfl (fun _ => ld1 rfl tO3 (cellB (off := 3) (k := 1) rfl rfl)) (.nil))))))))) (.cons [(28, .slice a18 1 c5), (26, .slice a20 0 c7)] rfl rfl (fun sL hL => ?_) (.nil))
  obtain ⟨r8, q142⟩ : ∃ y_ : List Int, y_ = sp_clone ([0] : List Int) := ⟨_, rfl⟩
  replace hF := hF r8 q142
  refine clO (α := Option Addr × Nat) (V := fun z => vSl z.1 r8 z.2) (Ψ := fun z => True) (B := fun z => [oL 3 1 z.1 r8 z.2]) Tryz.call57 rfl rfl (fun w S => (by rw [q142]; exact c_cloneO S.sub ([0] : List Int) a18 c5 q136 q135 q131)) rfl (fun z _ => ?_)
  obtain ⟨a21, c8⟩ := z
  obtain rfl : r8 = ([0] : List Int) := q142.trans (by decide +kernel)
  refine .nil ?_
  refine .ja (M := [6, 5]) (C' := [0, 1, 8, 9, 11, 12]) (pre := [(7, .slice a21 1 c8)]) [(2, .pointer (some pv8)), (3, .pointer (some pout)), (5, .pointer (some po)), (16, .slice a9 1 1), (17, iV 1), (18, iV 0)] [2, 3, 5, 16, 17, 18] hL rfl rfl rfl rfl rfl sb rfl rfl (by kernel_rfl) ?_
  refine .step [10] 10 rfl (by kernel_rfl) (by kernel_rfl) (.v [] rfl rfl rfl rfl rfl rfl (fun _ => fa rfl tF25_3) (.v [(22, .pointer (some (pout.add 3)))] rfl rfl rfl rfl rfl rfl (fun _ => ld1 rfl tO23 (cellB (off := 3) (k := 5) rfl rfl)) (.v [] rfl rfl rfl rfl rfl rfl (fun _ => fa rfl tF114_2) (.v [(30, .pointer (some (po.add 2)))] rfl rfl rfl rfl rfl rfl (fun _ => ld1 rfl tO22 (cellB (off := 2) (k := 2) rfl rfl)) (.v [] rfl rfl rfl rfl rfl rfl (fun _ => fa rfl tF114_3) (.v [(33, .pointer (some (po.add 3)))] rfl rfl rfl rfl rfl rfl (fun _ => ld1 rfl tO3 (cellB (off := 3) (k := 2) rfl rfl)) (.nil))))))) (.cons [(31, .slice a19 0 c6), (29, .slice a21 1 c8)] rfl rfl (fun sL hL => ?_) (.nil))
  obtain ⟨r9, q143⟩ : ∃ y_ : List Int, y_ = sp_clone ([] : List Int) := ⟨_, rfl⟩
  replace hF := hF r9 q143
  refine clO (α := Option Addr × Nat) (V := fun z => vSl z.1 r9 z.2) (Ψ := fun z => True) (B := fun z => [oL 3 1 z.1 r9 z.2]) Tryz.call57 rfl rfl (fun w S => (by rw [q143]; exact c_cloneO S.sub ([] : List Int) a19 c6 q138 q137 q140)) rfl (fun z _ => ?_)
  obtain ⟨a22, c9⟩ := z
  obtain rfl : r9 = ([] : List Int) := q143.trans (by decide +kernel)
  refine .nil ?_
  refine .ja (M := [9, 8]) (C' := [0, 1, 11, 12, 13]) (pre := [(10, .slice a22 0 c9), (13, .agg #[.slice a20 0 c7, .slice a21 1 c8, .slice a22 0 c9, iV 2])]) [(2, .pointer (some pv8)), (3, .pointer (some pout)), (5, .pointer (some po)), (16, .slice a9 1 1), (17, iV 1), (18, iV 0)] [2, 3, 5, 16, 17, 18] hL rfl rfl rfl rfl rfl sb rfl rfl (by kernel_rfl) ?_
  refine .step [14] 14 rfl (by kernel_rfl) (by kernel_rfl) (.v [] rfl rfl rfl rfl rfl rfl (fun _ => fa rfl tF25_3) (.v [(22, .pointer (some (pout.add 3)))] rfl rfl rfl rfl rfl rfl (fun _ => ld1 rfl tO23 (cellB (off := 3) (k := 6) rfl rfl)) (.v [] rfl rfl rfl rfl rfl rfl (fun _ => fa rfl tF114_3) (.v [(33, .pointer (some (po.add 3)))] rfl rfl rfl rfl rfl rfl (fun _ => ld1 rfl tO3 (cellB (off := 3) (k := 3) rfl rfl)) (.v [(26, .slice a20 0 c7), (29, .slice a21 1 c8), (32, .slice a22 0 c9), (34, iV 2)] rfl rfl rfl rfl rfl rfl (fun _ => bld (cs := #[.slice a20 0 c7, .slice a21 1 c8, .slice a22 0 c9, iV 2]) (pv := [(0, .slice a20 0 c7), (1, .slice a21 1 c8), (2, .slice a22 0 c9), (3, iV 2)]) tB114 rfl rfl) (.nil)))))) (.cons [(35, .agg #[.slice a20 0 c7, .slice a21 1 c8, .slice a22 0 c9, iV 2])] rfl rfl (fun sL hL => ?_) (.nil))
  refine bs2 (cs := #[.slice a20 0 c7, .slice a21 1 c8, .slice a22 0 c9, iV 2]) (pv := [(0, .agg #[.slice a20 0 c7, .slice a21 1 c8, .slice a22 0 c9, iV 2])]) tS23 rfl rfl (by decide) (by decide) rfl rfl rfl (fun a23 q144 => ?_)
  refine .nil ?_
  refine .ja (M := [13, 12, 11]) (C' := [0, 1]) (pre := [(14, .slice a23 1 1)]) [(2, .pointer (some pv8)), (3, .pointer (some pout)), (5, .pointer (some po)), (16, .slice a9 1 1), (17, iV 1), (18, iV 0)] [2, 3, 5, 16, 17, 18] hL rfl rfl rfl rfl rfl sb rfl rfl (by kernel_rfl) ?_
  refine .step [15] 15 rfl (by kernel_rfl) (by kernel_rfl) (.v [] rfl rfl rfl rfl rfl rfl (fun _ => fa rfl tF25_3) (.v [(22, .pointer (some (pout.add 3)))] rfl rfl rfl rfl rfl rfl (fun _ => ld1 rfl tO23 (cellB (off := 3) (k := 7) rfl rfl)) (.nil))) (.cons [(23, .slice none 0 0), (36, .slice a23 1 1), (32, .slice a22 0 c9)] rfl rfl (fun sL hL => ?_) (.nil))
  refine .nilSl 114 4 ?_
  refine app (k := 0) (news := [.slice a20 0 c7, .slice a21 1 c8, .slice a22 0 c9, iV 2]) (cs' := [.slice a20 0 c7, .slice a21 1 c8, .slice a22 0 c9, iV 2]) (nm := 1) tS23 rfl (by decide) rfl rfl rfl rfl (srcS (k := 1) rfl) (oneAll rfl) (by decide) (by decide) rfl rfl rfl (fun a24 c10 => ?_)
  refine .nil ?_
  refine .ja (M := [1, 0]) (C' := [16]) (pre := [(15, .slice a24 1 c10), (16, .pointer (some (pout.add 3)))]) [(2, .pointer (some pv8)), (3, .pointer (some pout)), (5, .pointer (some po)), (16, .slice a9 1 1), (17, iV 1), (18, iV 0)] [2, 3, 5, 16, 17, 18] hL rfl rfl rfl rfl rfl sb rfl rfl (by kernel_rfl) ?_
  refine .step [17] 17 rfl (by kernel_rfl) (by kernel_rfl) (.v [(22, .pointer (some (pout.add 3))), (23, .slice none 0 0), (24, .pointer (some (po.add 0))), (25, .slice a17 0 c4), (26, .slice a20 0 c7), (27, .pointer (some (po.add 1))), (28, .slice a18 1 c5), (29, .slice a21 1 c8), (30, .pointer (some (po.add 2))), (31, .slice a19 0 c6), (32, .slice a22 0 c9), (33, .pointer (some (po.add 3))), (34, iV 2), (35, .agg #[.slice a20 0 c7, .slice a21 1 c8, .slice a22 0 c9, iV 2]), (36, .slice a23 1 1), (37, .slice a24 1 c10)] rfl rfl rfl rfl rfl rfl (fun _ => fa rfl tF25_3) (.nil)) (.cons [(38, .pointer (some (pout.add 3))), (37, .slice a24 1 c10), (37, .slice a24 1 c10), (22, .pointer (some (pout.add 3))), (23, .slice none 0 0), (24, .pointer (some (po.add 0))), (25, .slice a17 0 c4), (26, .slice a20 0 c7), (27, .pointer (some (po.add 1))), (28, .slice a18 1 c5), (29, .slice a21 1 c8), (30, .pointer (some (po.add 2))), (31, .slice a19 0 c6), (32, .slice a22 0 c9), (33, .pointer (some (po.add 3))), (34, iV 2), (35, .agg #[.slice a20 0 c7, .slice a21 1 c8, .slice a22 0 c9, iV 2]), (36, .slice a23 1 1), (37, .slice a24 1 c10)] rfl rfl (fun sL hL => ?_) (.nil))
  refine st (p := pout) (off := 3) (k := 8) (vs := [.slice a24 1 c10]) rfl rfl rfl (fun w => (tO23 w).2) rfl rfl rfl rfl ?_
  refine .KA [OwnSl 114 4 a24 1 c10 [.slice a20 0 c7, .slice a21 1 c8, .slice a22 0 c9, iV 2], OwnSl 114 4 a23 1 1 [.slice a20 0 c7, .slice a21 1 c8, .slice a22 0 c9, iV 2], OwnSl 3 1 a22 0 c9 [], OwnSl 3 1 a21 1 c8 [iV 0], OwnSl 3 1 a20 0 c7 [], Box po [.slice a17 0 c4, .slice a18 1 c5, .slice a19 0 c6, iV 2], OwnSl 3 1 a16 1 c3 [iV 0], OwnSl 3 1 a15 0 c2 [], Box pout [iV 1, .slice a15 0 c2, .slice a16 1 c3, .slice a24 1 c10], Box pv8 [iV 0, .slice none 0 0, .slice none 0 0, .slice none 0 0], Box pt5 [iV 1, .slice none 0 0, .slice a7 1 1, .slice a9 1 1], Box pv6 [iV 0, iV 0], Box pv5 [iV 0, .slice none 0 0, .slice none 0 0, .slice none 0 0], Box pv3 [iV 0, iV 0], Box pf [iV 0, iV 0]] ?_
  refine .nil ?_
  refine .jaN (M := [16]) (C' := []) (pre := []) [2, 3, 5, 16, 17, 18] hL rfl rfl rfl rfl rfl (by kernel_rfl) ?_
  refine .last [(22, .pointer (some (pout.add 3))), (23, .slice none 0 0), (24, .pointer (some (po.add 0))), (25, .slice a17 0 c4), (26, .slice a20 0 c7), (27, .pointer (some (po.add 1))), (28, .slice a18 1 c5), (29, .slice a21 1 c8), (30, .pointer (some (po.add 2))), (31, .slice a19 0 c6), (32, .slice a22 0 c9), (33, .pointer (some (po.add 3))), (34, iV 2), (35, .agg #[.slice a20 0 c7, .slice a21 1 c8, .slice a22 0 c9, iV 2]), (36, .slice a23 1 1), (37, .slice a24 1 c10), (38, .pointer (some (pout.add 3)))] rfl (by kernel_rfl) (.nil) rfl ?_
  refine .blkN (.seqN (.region (.V bi0 ?_)))
  refine .V mv0 ?_
  refine .nil ?_
  refine .more ?_
  refine .sub (s' := [(2, .pointer (some pv8)), (3, .pointer (some pout)), (16, .slice a9 1 1), (17, iV 1), (18, iV 1)]) sb ?_
  refine .sel0 [0, 2, 3, 4, 6, 7, 8, 9, 11, 12, 13, 14] (by decide) rfl ?_
  refine .KA [OwnSl 114 4 a24 1 c10 [.slice a20 0 c7, .slice a21 1 c8, .slice a22 0 c9, iV 2], OwnSl 3 1 a22 0 c9 [], OwnSl 3 1 a21 1 c8 [iV 0], OwnSl 3 1 a20 0 c7 [], OwnSl 3 1 a16 1 c3 [iV 0], OwnSl 3 1 a15 0 c2 [], Box pout [iV 1, .slice a15 0 c2, .slice a16 1 c3, .slice a24 1 c10], Box pv8 [iV 0, .slice none 0 0, .slice none 0 0, .slice none 0 0], Box pv6 [iV 0, iV 0], Box pv5 [iV 0, .slice none 0 0, .slice none 0 0, .slice none 0 0], Box pv3 [iV 0, iV 0], Box pf [iV 0, iV 0]] ?_
  refine .seq (.region (.V bi0 ?_))
  refine .nil (.seqN (.seq ?_))
  refine .cond rfl (fun e => absurd (e.symm.trans rfl) (by decide)) (fun _ => ?_)
  refine .exit (.seqX (.seqX (.blkX (.seqN (.seq (.region (.V (ldA (cs := [iV 1, .slice a15 0 c2, .slice a16 1 c3, .slice a24 1 c10]) rfl tA25 rfl (cellsB (off := 0) (k := 6) rfl (m := 4) rfl)) ?_)))))))
  refine st (p := pv8) (off := 0) (k := 7) (vs := [iV 1, .slice a15 0 c2, .slice a16 1 c3, .slice a24 1 c10]) rfl rfl rfl (fun w => (tA25 w).2) rfl rfl rfl rfl ?_
  refine .nil (.seqN (.ret ?_))
  refine .res1 rfl (rvC rfl tA25 (k := 7) rfl rfl) (inl_back (v := .agg #[iV 1, .slice a15 0 c2, .slice a16 1 c3, .slice a24 1 c10]) q38 rfl ?_)
  refine al tZ25 rfl (fun pout2 => ?_)
  refine st (p := pout2) (off := 0) (k := 0) (vs := [iV 1, .slice a15 0 c2, .slice a16 1 c3, .slice a24 1 c10]) rfl rfl rfl (fun w => (tA25 w).2) rfl rfl rfl rfl ?_
  refine .nil (.seqN (.seq (.region (.V (fa rfl tF25_2) ?_))))
  refine .V (ld1 rfl tO22 (cellB (off := 2) (k := 0) rfl rfl)) ?_
  refine .V (fa rfl tF25_0) ?_
  refine .V (ld1 rfl tO3 (cellB (off := 0) (k := 0) rfl rfl)) ?_
  refine bs2 (cs := #[iV 1]) (pv := [(0, iV 1)]) tS22 rfl rfl (by decide) (by decide) rfl rfl rfl (fun a25 q145 => ?_)
  refine app (k := 6) (news := [iV 1]) (cs' := [iV 0, iV 1]) (nm := 2) tS22 rfl (by decide) rfl rfl rfl rfl (srcS (k := 0) rfl) (oneAll rfl) (by decide) (by decide) rfl rfl rfl (fun a26 c11 => ?_)
  refine .V (fa rfl tF25_2) ?_
  refine st (p := pout2) (off := 2) (k := 1) (vs := [.slice a26 2 c11]) rfl rfl rfl (fun w => (tO22 w).2) rfl rfl rfl rfl ?_
  refine .nil (.seqN (.seq ?_))
  refine .openA (s0 := [(1, iV 0), (4, .pointer (some pv5)), (5, .pointer (some pv6)), (7, .pointer (some pout2))]) [0, 1, 2, 3, 4, 5, 6, 7, 8, 9, 10] [(0, .pointer (some (pout2.add 3))), (1, .slice a24 1 c10), (2, iV 0), (3, .pointer (some (pout2.add 3))), (4, .slice a24 1 c10), (5, iV 0), (6, .pointer (some (ead a24 ((0 : Int).toNat * 4)))), (7, .pointer (some ((ead a24 ((0 : Int).toNat * 4)).add 1))), (8, .slice a21 1 c8), (9, .pointer (some (pout2.add 0))), (10, iV 1)] (by kernel_rfl) sb [1, 4, 5, 7] [] rfl (by kernel_rfl) ?_
  refine .step [11] 11 rfl (by kernel_rfl) (by kernel_rfl) (.v [] rfl rfl rfl rfl rfl rfl (fun _ => fa rfl tF25_3) (.v [(30, .pointer (some (pout2.add 3)))] rfl rfl rfl rfl rfl rfl (fun _ => ld1 rfl tO23 (cellB (off := 3) (k := 1) rfl rfl)) (.v [] rfl rfl rfl rfl rfl rfl (fun _ => mv rfl) (.v [] rfl rfl rfl rfl rfl rfl (fun _ => fa rfl tF25_3) (.v [(33, .pointer (some (pout2.add 3)))] rfl rfl rfl rfl rfl rfl (fun _ => ld1 rfl tO23 (cellB (off := 3) (k := 1) rfl rfl)) (.v [] rfl rfl rfl rfl rfl rfl (fun _ => mv rfl) (.v [(34, .slice a24 1 c10), (35, iV 0)] rfl rfl rfl rfl rfl rfl (fun _ => ixS rfl rfl tS23 (k := 2) rfl (And.intro (by decide) (by decide))) (.v [(36, .pointer (some (ead a24 ((0 : Int).toNat * 4))))] rfl rfl rfl rfl rfl rfl (fun _ => fa rfl tF114_1) (.v [(37, .pointer (some ((ead a24 ((0 : Int).toNat * 4)).add 1)))] rfl rfl rfl rfl rfl rfl (fun _ => ld1 (v := .slice a21 1 c8) rfl tO22 (cellF (k := 2) rfl rfl)) (.v [] rfl rfl rfl rfl rfl rfl (fun _ => fa rfl tF25_0) (.v [(39, .pointer (some (pout2.add 0)))] rfl rfl rfl rfl rfl rfl (fun _ => ld1 rfl tO3 (cellB (off := 0) (k := 1) rfl rfl)) (.nil)))))))))))) (.cons [(40, iV 1)] rfl rfl (fun sL hL => ?_) (.nil))
  refine bs2 (cs := #[iV 1]) (pv := [(0, iV 1)]) tS22 rfl rfl (by decide) (by decide) rfl rfl rfl (fun a27 q146 => ?_)
  refine .nil ?_
  refine .ja (M := [10, 9]) (C' := [0, 1, 2, 3, 4, 5, 6, 7, 8]) (pre := [(11, .slice a27 1 1)]) [(1, iV 0), (4, .pointer (some pv5)), (5, .pointer (some pv6)), (7, .pointer (some pout2))] [1, 4, 5, 7] hL rfl rfl rfl rfl rfl sb rfl rfl (by kernel_rfl) ?_
  refine .step [12] 12 rfl (by kernel_rfl) (by kernel_rfl) (.v [] rfl rfl rfl rfl rfl rfl (fun _ => fa rfl tF25_3) (.v [(30, .pointer (some (pout2.add 3)))] rfl rfl rfl rfl rfl rfl (fun _ => ld1 rfl tO23 (cellB (off := 3) (k := 2) rfl rfl)) (.v [] rfl rfl rfl rfl rfl rfl (fun _ => mv rfl) (.v [] rfl rfl rfl rfl rfl rfl (fun _ => fa rfl tF25_3) (.v [(33, .pointer (some (pout2.add 3)))] rfl rfl rfl rfl rfl rfl (fun _ => ld1 rfl tO23 (cellB (off := 3) (k := 2) rfl rfl)) (.v [] rfl rfl rfl rfl rfl rfl (fun _ => mv rfl) (.v [(34, .slice a24 1 c10), (35, iV 0)] rfl rfl rfl rfl rfl rfl (fun _ => ixS rfl rfl tS23 (k := 3) rfl (And.intro (by decide) (by decide))) (.v [(36, .pointer (some (ead a24 ((0 : Int).toNat * 4))))] rfl rfl rfl rfl rfl rfl (fun _ => fa rfl tF114_1) (.v [(37, .pointer (some ((ead a24 ((0 : Int).toNat * 4)).add 1)))] rfl rfl rfl rfl rfl rfl (fun _ => ld1 (v := .slice a21 1 c8) rfl tO22 (cellF (k := 3) rfl rfl)) (.nil)))))))))) (.cons [(38, .slice a21 1 c8), (41, .slice a27 1 1)] rfl rfl (fun sL hL => ?_) (.nil))
  refine app (k := 5) (news := [iV 1]) (cs' := [iV 0, iV 1]) (nm := 2) tS22 rfl (by decide) rfl rfl rfl rfl (srcS (k := 0) rfl) (oneAll rfl) (by decide) (by decide) rfl rfl rfl (fun a28 c12 => ?_)
  refine .KA [OwnSl 3 1 a27 1 1 [iV 1], OwnSl 3 1 a25 1 1 [iV 1], Box pout2 [iV 1, .slice a15 0 c2, .slice a26 2 c11, .slice a24 1 c10], OwnSl 114 4 a24 1 c10 [.slice a20 0 c7, .slice a21 1 c8, .slice a22 0 c9, iV 2], OwnSl 3 1 a22 0 c9 [], OwnSl 3 1 a28 2 c12 [iV 0, iV 1], OwnSl 3 1 a20 0 c7 [], OwnSl 3 1 a26 2 c11 [iV 0, iV 1], OwnSl 3 1 a15 0 c2 [], Box pout [iV 1, .slice a15 0 c2, .slice a16 1 c3, .slice a24 1 c10], Box pv8 [iV 1, .slice a15 0 c2, .slice a16 1 c3, .slice a24 1 c10], Box pv6 [iV 0, iV 0], Box pv5 [iV 0, .slice none 0 0, .slice none 0 0, .slice none 0 0], Box pv3 [iV 0, iV 0], Box pf [iV 0, iV 0]] ?_
  refine .nil ?_
  refine .ja (M := [8, 7, 6, 4, 5, 3]) (C' := [0, 1, 2, 13, 14]) (pre := [(12, .slice a28 2 c12), (13, .pointer (some (ead a24 ((0 : Int).toNat * 4)))), (14, .pointer (some ((ead a24 ((0 : Int).toNat * 4)).add 1)))]) [(1, iV 0), (4, .pointer (some pv5)), (5, .pointer (some pv6)), (7, .pointer (some pout2))] [1, 4, 5, 7] hL rfl rfl rfl rfl rfl sb rfl rfl (by kernel_rfl) ?_
  refine .step [15] 15 rfl (by kernel_rfl) (by kernel_rfl) (.v [] rfl rfl rfl rfl rfl rfl (fun _ => fa rfl tF25_3) (.v [(30, .pointer (some (pout2.add 3)))] rfl rfl rfl rfl rfl rfl (fun _ => ld1 rfl tO23 (cellB (off := 3) (k := 2) rfl rfl)) (.v [] rfl rfl rfl rfl rfl rfl (fun _ => mv rfl) (.v [(31, .slice a24 1 c10), (32, iV 0), (30, .pointer (some (pout2.add 3))), (31, .slice a24 1 c10), (32, iV 0), (33, .pointer (some (pout2.add 3))), (34, .slice a24 1 c10), (35, iV 0), (36, .pointer (some (ead a24 ((0 : Int).toNat * 4)))), (37, .pointer (some ((ead a24 ((0 : Int).toNat * 4)).add 1))), (38, .slice a21 1 c8), (39, .pointer (some (pout2.add 0))), (40, iV 1), (41, .slice a27 1 1), (42, .slice a28 2 c12)] rfl rfl rfl rfl rfl rfl (fun _ => ixS rfl rfl tS23 (k := 3) rfl (And.intro (by decide) (by decide))) (.v [(43, .pointer (some (ead a24 ((0 : Int).toNat * 4)))), (30, .pointer (some (pout2.add 3))), (31, .slice a24 1 c10), (32, iV 0), (33, .pointer (some (pout2.add 3))), (34, .slice a24 1 c10), (35, iV 0), (36, .pointer (some (ead a24 ((0 : Int).toNat * 4)))), (37, .pointer (some ((ead a24 ((0 : Int).toNat * 4)).add 1))), (38, .slice a21 1 c8), (39, .pointer (some (pout2.add 0))), (40, iV 1), (41, .slice a27 1 1), (42, .slice a28 2 c12)] rfl rfl rfl rfl rfl rfl (fun _ => fa rfl tF114_1) (.nil)))))) (.cons [(44, .pointer (some ((ead a24 ((0 : Int).toNat * 4)).add 1))), (42, .slice a28 2 c12), (42, .slice a28 2 c12), (30, .pointer (some (pout2.add 3))), (31, .slice a24 1 c10), (32, iV 0), (33, .pointer (some (pout2.add 3))), (34, .slice a24 1 c10), (35, iV 0), (36, .pointer (some (ead a24 ((0 : Int).toNat * 4)))), (37, .pointer (some ((ead a24 ((0 : Int).toNat * 4)).add 1))), (38, .slice a21 1 c8), (39, .pointer (some (pout2.add 0))), (40, iV 1), (41, .slice a27 1 1), (42, .slice a28 2 c12)] rfl rfl (fun sL hL => ?_) (.nil))
  refine stS (k := 3) (off := 0 * 4 + 1) (cs' := [.slice a20 0 c7, .slice a28 2 c12, .slice a22 0 c9, iV 2]) rfl (fun q => ead_add q _ _) rfl rfl (fun w => (tO22 w).2) rfl rfl rfl (by decide) (Nat.le_of_ble_eq_true rfl) rfl ?_
  refine .nil ?_
  refine .jaN (M := [14, 0, 1, 2, 13]) (C' := []) (pre := []) [1, 4, 5, 7] hL rfl rfl rfl rfl rfl (by kernel_rfl) ?_
  refine .last [(30, .pointer (some (pout2.add 3))), (31, .slice a24 1 c10), (32, iV 0), (33, .pointer (some (pout2.add 3))), (34, .slice a24 1 c10), (35, iV 0), (36, .pointer (some (ead a24 ((0 : Int).toNat * 4)))), (37, .pointer (some ((ead a24 ((0 : Int).toNat * 4)).add 1))), (38, .slice a21 1 c8), (39, .pointer (some (pout2.add 0))), (40, iV 1), (41, .slice a27 1 1), (42, .slice a28 2 c12), (43, .pointer (some (ead a24 ((0 : Int).toNat * 4)))), (44, .pointer (some ((ead a24 ((0 : Int).toNat * 4)).add 1)))] rfl (by kernel_rfl) (.nil) rfl ?_
  refine .seqN (.seq (.region (.V (fa rfl tF25_0) ?_)))
  refine .V (ld1 rfl tO3 (cellB (off := 0) (k := 2) rfl rfl)) ?_
  refine .V bi0 ?_
  refine .V (fa rfl tF25_0) ?_
  refine st (p := pout2) (off := 0) (k := 2) (vs := [iV 2]) rfl rfl rfl (fun w => (tO3 w).2) rfl rfl rfl rfl ?_
  refine .nil (.seqN (.seq (.region (.V (ldA (cs := [iV 2, .slice a15 0 c2, .slice a26 2 c11, .slice a24 1 c10]) rfl tA25 rfl (cellsB (off := 0) (k := 2) rfl (m := 4) rfl)) ?_))))
  refine .V (bld (cs := #[iV 0, iV 0]) (pv := []) tB27 rfl rfl) ?_
  refine st (p := pv5) (off := 0) (k := 12) (vs := [iV 2, .slice a15 0 c2, .slice a26 2 c11, .slice a24 1 c10]) rfl rfl rfl (fun w => (tA25 w).2) rfl rfl rfl rfl ?_
  refine st (p := pv6) (off := 0) (k := 11) (vs := [iV 0, iV 0]) rfl rfl rfl (fun w => (tA27 w).2) rfl rfl rfl rfl ?_
  refine .nil (.seqN (.ret ?_))
  refine .res2 rfl (rvC rfl tA25 (k := 12) rfl rfl) (rvC rfl tA27 (k := 11) rfl rfl) (inl_back (v := .tuple #[.agg #[iV 2, .slice a15 0 c2, .slice a26 2 c11, .slice a24 1 c10], .agg #[iV 0, iV 0]]) q34 rfl ?_)
  refine .V mv0 ?_
  refine .V (ext rfl rfl) ?_
  refine .V (ext rfl rfl) ?_
  refine al tZ25 rfl (fun pu => ?_)
  refine al tZ27 rfl (fun pf6 => ?_)
  refine st (p := pu) (off := 0) (k := 1) (vs := [iV 2, .slice a15 0 c2, .slice a26 2 c11, .slice a24 1 c10]) rfl rfl rfl (fun w => (tA25 w).2) rfl rfl rfl rfl ?_
  refine st (p := pf6) (off := 0) (k := 0) (vs := [iV 0, iV 0]) rfl rfl rfl (fun w => (tA27 w).2) rfl rfl rfl rfl ?_
  refine .nil (.seqN (.seq (.seq (.region (.V (ldA (cs := [iV 0, iV 0]) rfl tA27 rfl (cellsB (off := 0) (k := 0) rfl (m := 2) rfl)) ?_)))))
  refine .V (bld (cs := #[iV 0, iV 0]) (pv := []) tB27 rfl rfl) ?_
  refine .V (ne2 tE27 rfl rfl) ?_
  refine .nil (.seqN ?_)
  refine .cond rfl (fun e => absurd (e.symm.trans rfl) (by decide)) (fun _ => ?_)
  refine .skip (.seqN (.seq (.region (.V (ldA (cs := [iV 2, .slice a15 0 c2, .slice a26 2 c11, .slice a24 1 c10]) rfl tA25 rfl (cellsB (off := 0) (k := 1) rfl (m := 4) rfl)) ?_))))
  refine .freezeL (k := 10) rfl (fun h22 le22 q148 q147 => ?_)
  have q149 : RSl h22 a15 ([] : List Int) := (RSl.of (xs := ([] : List Int)) q147)
  refine .KA [Box pf6 [iV 0, iV 0], Box pu [iV 2, .slice a15 0 c2, .slice a26 2 c11, .slice a24 1 c10], OwnSl 3 1 a27 1 1 [iV 1], OwnSl 3 1 a25 1 1 [iV 1], Box pout2 [iV 2, .slice a15 0 c2, .slice a26 2 c11, .slice a24 1 c10], OwnSl 114 4 a24 1 c10 [.slice a20 0 c7, .slice a28 2 c12, .slice a22 0 c9, iV 2], OwnSl 3 1 a22 0 c9 [], OwnSl 3 1 a28 2 c12 [iV 0, iV 1], OwnSl 3 1 a20 0 c7 [], OwnSl 3 1 a26 2 c11 [iV 0, iV 1], tru, Box pout [iV 1, .slice a15 0 c2, .slice a16 1 c3, .slice a24 1 c10], Box pv8 [iV 1, .slice a15 0 c2, .slice a16 1 c3, .slice a24 1 c10], Box pv6 [iV 0, iV 0], Box pv5 [iV 2, .slice a15 0 c2, .slice a26 2 c11, .slice a24 1 c10], Box pv3 [iV 0, iV 0], Box pf [iV 0, iV 0]] ?_
  refine .freezeL (k := 9) rfl (fun h23 le23 q151 q150 => ?_)
  have q152 : RSl h23 a26 ([0, 1] : List Int) := (RSl.of (xs := ([0, 1] : List Int)) q150)
  refine .freezeL (k := 8) rfl (fun h24 le24 q154 q153 => ?_)
  have q155 : RSl h24 a20 ([] : List Int) := (RSl.of (xs := ([] : List Int)) q153)
  refine .freezeL (k := 7) rfl (fun h25 le25 q157 q156 => ?_)
  have q158 : RSl h25 a28 ([0, 1] : List Int) := (RSl.of (xs := ([0, 1] : List Int)) q156)
  refine .freezeL (k := 6) rfl (fun h26 le26 q160 q159 => ?_)
  have q161 : RSl h26 a22 ([] : List Int) := (RSl.of (xs := ([] : List Int)) q159)
  refine .freezeL (k := 5) rfl (fun h27 le27 q163 q162 => ?_)
  have q164 : RSl h27 a24 ([(⟨([] : List Int), ([0, 1] : List Int), ([] : List Int), 2⟩ : Operator)] : List Operator) := (show RSl h27 a24 ([(⟨([] : List Int), ([0, 1] : List Int), ([] : List Int), 2⟩ : Operator)] : List Operator) from ⟨_, RepL.mono (le27) (show RepL h26 ([(⟨([] : List Int), ([0, 1] : List Int), ([] : List Int), 2⟩ : Operator)] : List Operator) [.slice a20 0 c7, .slice a28 2 c12, .slice a22 0 c9, iV 2] from ⟨[.slice a20 0 c7, .slice a28 2 c12, .slice a22 0 c9, iV 2], _, rfl, ⟨a20, c7, a28, c12, a22, c9, rfl, ⟨(show ([] : List Int).length ≤ c7 from q154), (q155.mono (FH.le_trans (le25) (le26)))⟩, ⟨(show ([0, 1] : List Int).length ≤ c12 from q157), (q158.mono (le26))⟩, ⟨(show ([] : List Int).length ≤ c9 from q160), q161⟩⟩, rfl⟩), q162⟩)
  obtain ⟨q165, hF⟩ := hF
  obtain ⟨r10, q166⟩ : ∃ y_ : Int × Fault, y_ = sp_optimalL (⟨2, ([] : List Int), ([0, 1] : List Int), ([(⟨([] : List Int), ([0, 1] : List Int), ([] : List Int), 2⟩ : Operator)] : List Operator)⟩ : Task) := ⟨_, rfl⟩
  replace hF := hF r10 q166
  have q167 : sp_optimalL (⟨2, ([] : List Int), ([0, 1] : List Int), ([(⟨([] : List Int), ([0, 1] : List Int), ([] : List Int), 2⟩ : Operator)] : List Operator)⟩ : Task) = (2, (⟨0, 0⟩ : Fault)) := by decide +kernel
  refine .C (cl (v := .tuple #[iV 2, .agg #[iV 0, iV 0]]) Tryz.call56 rfl rfl (fun w S => (by have h_ := c_optimalL S.sub (⟨2, ([] : List Int), ([0, 1] : List Int), ([(⟨([] : List Int), ([0, 1] : List Int), ([] : List Int), 2⟩ : Operator)] : List Operator)⟩ : Task) a15 c2 (q149.mono (FH.le_trans (FH.le_trans (FH.le_trans (FH.le_trans (le23) (le24)) (le25)) (le26)) (le27))) (show ([] : List Int).length ≤ c2 from q148) a26 c11 (q152.mono (FH.le_trans (FH.le_trans (FH.le_trans (le24) (le25)) (le26)) (le27))) (show ([0, 1] : List Int).length ≤ c11 from q151) a24 c10 q164 (show ([(⟨([] : List Int), ([0, 1] : List Int), ([] : List Int), 2⟩ : Operator)] : List Operator).length ≤ c10 from q163) q165; rw [q167] at h_; exact h_))) ?_
  refine .V (ext rfl rfl) ?_
  refine .V (ext rfl rfl) ?_
  refine .V ag0 ?_
  refine st (p := pv3) (off := 0) (k := 15) (vs := [iV 0, iV 0]) rfl rfl rfl (fun w => (tA27 w).2) rfl rfl rfl rfl ?_
  refine .nil (.seqN (.ret ?_))
  refine .res2 rfl (rvT rfl) (rvC rfl tA27 (k := 15) rfl rfl) (inl_back (v := .tuple #[iV 2, .agg #[iV 0, iV 0]]) q21 rfl ?_)
  refine .V mv0 ?_
  refine .V (ext rfl rfl) ?_
  refine .V (ext rfl rfl) ?_
  refine al tZ27 rfl (fun pg => ?_)
  refine .V ag0 ?_
  refine st (p := pg) (off := 0) (k := 0) (vs := [iV 0, iV 0]) rfl rfl rfl (fun w => (tA27 w).2) rfl rfl rfl rfl ?_
  refine .KA [Box pg [iV 0, iV 0], Box pf6 [iV 0, iV 0], Box pu [iV 2, .slice a15 0 c2, .slice a26 2 c11, .slice a24 1 c10], OwnSl 3 1 a27 1 1 [iV 1], OwnSl 3 1 a25 1 1 [iV 1], Box pout2 [iV 2, .slice a15 0 c2, .slice a26 2 c11, .slice a24 1 c10], tru, tru, tru, tru, tru, tru, Box pout [iV 1, .slice a15 0 c2, .slice a16 1 c3, .slice a24 1 c10], Box pv8 [iV 1, .slice a15 0 c2, .slice a16 1 c3, .slice a24 1 c10], Box pv6 [iV 0, iV 0], Box pv5 [iV 2, .slice a15 0 c2, .slice a26 2 c11, .slice a24 1 c10], Box pv3 [iV 0, iV 0], Box pf [iV 0, iV 0]] ?_
  refine .nil (.seqN (.seq (.region (.V (fa rfl tF27_0) ?_))))
  refine .V (ld1 rfl tO3 (cellB (off := 0) (k := 17) rfl rfl)) ?_
  refine .V bi0 ?_
  refine .V mv0 ?_
  refine .gv (fa rfl tF27_0) rfl rfl rfl rfl rfl rfl ?_
  refine .gv (ld1 rfl tO3 (cellB (off := 0) (k := 0) rfl rfl)) rfl rfl rfl rfl rfl rfl ?_
  refine .gv bi0 rfl rfl rfl rfl rfl rfl ?_
  refine .V (pkT rfl rfl rfl) ?_
  refine .V mv0 ?_
  refine .gv mv0 rfl rfl rfl rfl rfl rfl ?_
  refine .V (pkT rfl rfl rfl) ?_
  refine .V mv0 ?_
  refine .gv mv0 rfl rfl rfl rfl rfl rfl ?_
  refine .gR rfl rfl rfl rfl ?_
  refine bs2 (cs := #[iV 0]) (pv := [(0, iV 0)]) tS22 rfl rfl (by decide) (by decide) rfl rfl rfl (fun a29 q168 => ?_)
  refine .freezeL (k := 0) rfl (fun h28 le28 q170 q169 => ?_)
  have q171 : RSl h28 a29 ([0] : List Int) := (RSl.of (xs := ([0] : List Int)) q169)
  obtain ⟨q172, hF⟩ := hF
  obtain ⟨r11, q173⟩ : ∃ y_ : Bool, y_ = sp_ints ([0] : List Int) ([0] : List Int) := ⟨_, rfl⟩
  replace hF := hF r11 q173
  have q174 : sp_ints ([0] : List Int) ([0] : List Int) = true := by decide +kernel
  refine .gc (cl (v := .bool true) Tryz.call27 rfl rfl (fun w S => (by have h_ := c_ints S.sub ([0] : List Int) a5 c (q15.mono (FH.le_trans (FH.le_trans (FH.le_trans (FH.le_trans (FH.le_trans (FH.le_trans (FH.le_trans (FH.le_trans (FH.le_trans (le5) (le6)) (le7)) (le22)) (le23)) (le24)) (le25)) (le26)) (le27)) (le28))) q16 ([0] : List Int) a29 1 q171 (show ([0] : List Int).length ≤ 1 from q170) q172; rw [q174] at h_; exact h_))) rfl rfl rfl rfl rfl rfl ?_
  refine .V (pkT rfl rfl rfl) ?_
  refine .V mv0 ?_
  refine .gv mv0 rfl rfl rfl rfl rfl rfl ?_
  refine .gv bi0 rfl rfl rfl rfl rfl rfl ?_
  refine .V (pkT rfl rfl rfl) ?_
  refine .V ag0 ?_
  refine .nil (.seqN (.ret ?_))
  refine .res1 rfl (rvT rfl) (fun w' S => ⟨true, hF, rfl, S.below⟩)
theorem c_h11Solved {h : FH} {w : World} (hs : Sub h w) (ht : TabH Tryz.prog h) : Calls Tryz.prog 7 #[] w fun e w' => e = .returned (.bool (sp_h11Solved)) ∧ Below w.heap.size w w' :=
 (w_h11Solved hs ht  (fun r => r = sp_h11Solved) (ok_h11Solved )).mono fun _ _ ⟨_, hk, he, hb⟩ => ⟨by rw [he, hk], hb⟩
set_option maxHeartbeats 8000000 in
theorem w_lawMonitors {h : FH} {w : World} (hs : Sub h w) (ht : TabH Tryz.prog h) (t : Task) (at_ : Option Addr) (ct : Nat) (_q1 : RSl h at_ t.init) (_q2 : t.init.length ≤ ct) (at_2 : Option Addr) (ct2 : Nat) (_q3 : RSl h at_2 t.goal) (_q4 : t.goal.length ≤ ct2) (at_3 : Option Addr) (ct3 : Nat) (_q5 : RSl h at_3 t.ops) (_q6 : t.ops.length ≤ ct3) (plan : List Int) (aplan : Option Addr) (cplan : Nat) (_q7 : RSl h aplan plan) (_q8 : plan.length ≤ cplan) (i : Int) (K : Bool → Prop) (hF : F_lawMonitors t plan i K) : Calls Tryz.prog 4 #[.agg #[iV t.facts, .slice at_ t.init.length ct, .slice at_2 t.goal.length ct2, .slice at_3 t.ops.length ct3], .slice aplan plan.length cplan, iV i] w fun e w' => ∃ r : Bool, K r ∧ e = .returned (.bool r) ∧ Below w.heap.size w w' := by
 refine enter (args := [.agg (tF t at_ ct at_2 ct2 at_3 ct3).toArray, vSl aplan plan cplan, iV i]) Tryz.func4 rfl Tryz.ntmps4 rfl hs ?_
 refine .seq (.region ?_)
 refine bx (vs := (tF t at_ ct at_2 ct2 at_3 ct3)) rfl rfl rfl (fun pt => ?_)
 refine .V ag0 ?_
 refine .nil (.seqN (.seq (.region (.V (ldA (cs := (tF t at_ ct at_2 ct2 at_3 ct3)) rfl tA25 rfl (cellsB (off := 0) (k := 0) rfl (m := 4) rfl)) ?_))))
 refine .V mv0 ?_
 obtain ⟨r2, q9⟩ : ∃ y_ : Bool × Fault, y_ = sp_solves t plan := ⟨_, rfl⟩
 replace hF := hF r2 q9
 refine .C (cl (v := .tuple #[.bool r2.1, .agg #[iV r2.2.code, iV r2.2.index]]) Tryz.call8 rfl rfl (fun w S => (by rw [q9]; exact c_solves S.sub t at_ ct _q1 _q2 at_2 ct2 _q3 _q4 at_3 ct3 _q5 _q6 plan aplan cplan _q7 _q8 ))) ?_
 refine .V mv0 ?_
 refine .V (ext rfl rfl) ?_
 refine .V (ext rfl rfl) ?_
 refine al tZ27 rfl (fun pf => ?_)
 refine .V ag0 ?_
 refine st (p := pf) (off := 0) (k := 0) (vs := [iV r2.2.code, iV r2.2.index]) rfl rfl rfl (fun w => (tA27 w).2) rfl rfl rfl rfl ?_
 refine .KA [Box pf [iV r2.2.code, iV r2.2.index], Box pt (tF t at_ ct at_2 ct2 at_3 ct3)] ?_
 refine .nil (.seqN (.seq (.region (.V (ldA (cs := (tF t at_ ct at_2 ct2 at_3 ct3)) rfl tA25 rfl (cellsB (off := 0) (k := 1) rfl (m := 4) rfl)) ?_))))
 refine .V (fa rfl tF25_1) ?_
 refine .V (ld1 rfl tO22 (cellB (off := 1) (k := 1) rfl rfl)) ?_
 refine .V mv0 ?_
 obtain ⟨r3, q10⟩ : ∃ y_ : List (List Int) × Fault, y_ = sp_play t t.init plan := ⟨_, rfl⟩
 replace hF := hF r3 q10
 refine clR (α := Option Addr × Nat) (Φ := fun h1 z => RSl h1 z.1 r3.1 ∧ r3.1.length ≤ z.2) (V := fun z => .tuple #[vSl z.1 r3.1 z.2, .agg #[iV r3.2.code, iV r3.2.index]]) Tryz.call9 rfl rfl (fun w S => (by rw [q10]; exact c_play S.sub t at_ ct _q1 _q2 at_2 ct2 _q3 _q4 at_3 ct3 _q5 _q6 t.init at_ ct _q1 _q2 plan aplan cplan _q7 _q8 )) rfl (fun z h1 le1 hz => ?_)
 obtain ⟨a, c⟩ := z
 obtain ⟨q11, q12⟩ := hz
 refine .V mv0 ?_
 refine .V (ext rfl rfl) ?_
 refine .V (ext rfl rfl) ?_
 refine al tZ27 rfl (fun pg => ?_)
 refine .V ag0 ?_
 refine st (p := pg) (off := 0) (k := 0) (vs := [iV r3.2.code, iV r3.2.index]) rfl rfl rfl (fun w => (tA27 w).2) rfl rfl rfl rfl ?_
 refine .KA [Box pg [iV r3.2.code, iV r3.2.index], Box pf [iV r2.2.code, iV r2.2.index], Box pt (tF t at_ ct at_2 ct2 at_3 ct3)] ?_
 refine .nil (.seqN (.seq ?_))
 refine .share (σ := Bool) (fun z => F_lawMonitors_J1 t plan i K r3 z) (fun z => [(1, vSl aplan plan cplan), (2, iV i), (3, .pointer (some pt)), (9, vSl a r3.1 c), (10, .pointer (some pg)), (44, .bool z)]) (fun _ => [Box pt (tF t at_ ct at_2 ct2 at_3 ct3), Box pg [iV r3.2.code, iV r3.2.index]]) (fun _ => h1) ?_ (fun q16 => ?_)
 ·rintro t44 hF
  show J _ _ _ _ _ [(1, vSl aplan plan cplan), (2, iV i), (3, .pointer (some pt)), (9, vSl a r3.1 c), (10, .pointer (some pg)), (44, .bool t44)] [Box pt (tF t at_ ct at_2 ct2 at_3 ct3), Box pg [iV r3.2.code, iV r3.2.index]] h1
  refine .cond rfl (fun q19 => ?_) (fun q19 => ?_)
  ·replace hF := hF.1 q19
   refine .seq (.region ?_)
   obtain ⟨r4, q20⟩ : ∃ y_ : Bool, y_ = sp_h11Solved := ⟨_, rfl⟩
   replace hF := hF r4 q20
   refine .C (cl (v := .bool r4) Tryz.call7 rfl rfl (fun w S => (by rw [q20]; exact c_h11Solved S.sub (ht.mono (le1)) ))) ?_
   refine .V ag0 ?_
   refine .nil (.seqN (.ret (.seqR ?_)))
   refine .res1 rfl (rvT rfl) (fun w' S => ⟨r4, hF, rfl, S.below⟩)
  replace hF := hF.2 q19
  refine .skip (.seqN (.seq ?_))
  refine .share (σ := Bool) (fun z => F_lawMonitors_J2 t plan i K r3 z) (fun z => [(1, vSl aplan plan cplan), (2, iV i), (3, .pointer (some pt)), (9, vSl a r3.1 c), (56, .bool z)]) (fun _ => [Box pt (tF t at_ ct at_2 ct2 at_3 ct3)]) (fun _ => h1) ?_ (fun q23 => ?_)
  ·rintro t56 hF
   show J _ _ _ _ _ [(1, vSl aplan plan cplan), (2, iV i), (3, .pointer (some pt)), (9, vSl a r3.1 c), (56, .bool t56)] [Box pt (tF t at_ ct at_2 ct2 at_3 ct3)] h1
   refine .cond rfl (fun q25 => ?_) (fun q25 => ?_)
   ·replace hF := hF.1 q25
    refine .seq (.region (.V ag0 ?_))
    refine .nil (.seqN (.ret (.seqR ?_)))
    refine .res1 rfl (rvT rfl) (fun w' S => ⟨false, hF, rfl, S.below⟩)
   replace hF := hF.2 q25
   refine .skip (.seqN ?_)
   refine .share (σ := List Int × Bool × Int × Int × Option Addr × Nat × Addr × FH) (fun z => F_lawMonitors_J3 t plan i K r3 z.2.2.1 z.1 z.2.1 ∧ RSl z.2.2.2.2.2.2.2 z.2.2.2.2.1 z.1 ∧ z.1.length ≤ z.2.2.2.2.2.1 ∧ FH.le h1 z.2.2.2.2.2.2.2) (fun z => [(1, vSl aplan plan cplan), (2, iV i), (3, .pointer (some pt)), (9, vSl a r3.1 c), (11, vSl z.2.2.2.2.1 z.1 z.2.2.2.2.2.1), (12, .bool z.2.1), (13, .pointer (some z.2.2.2.2.2.2.1))]) (fun z => [Box pt (tF t at_ ct at_2 ct2 at_3 ct3), Box z.2.2.2.2.2.2.1 [iV z.2.2.1, iV z.2.2.2.1]]) (fun z => z.2.2.2.2.2.2.2) ?_ (fun q39 => ?_)
   ·rintro ⟨lost, can, x, x2, alost, clost, p, h4⟩ ⟨hF, q36, q37, q38⟩
    show J _ _ _ _ _ [(1, vSl aplan plan cplan), (2, iV i), (3, .pointer (some pt)), (9, vSl a r3.1 c), (11, vSl alost lost clost), (12, .bool can), (13, .pointer (some p))] [Box pt (tF t at_ ct at_2 ct2 at_3 ct3), Box p [iV x, iV x2]] h4
    refine .seq ?_
    obtain ⟨q45, hF⟩ := hF
    obtain ⟨_, ⟨a2, c2, rfl, q46, q47⟩, q48⟩ := q11.elem q45
    obtain ⟨r5, q49⟩ : ∃ y_ : Int × Bool × Fault, y_ = sp_resume t plan (gt r3.1 i) := ⟨_, rfl⟩
    replace hF := hF r5 q49
    refine .openA (s0 := [(1, vSl aplan plan cplan), (2, iV i), (3, .pointer (some pt)), (9, vSl a r3.1 c), (11, vSl alost lost clost), (12, .bool can), (13, .pointer (some p))]) [0, 1, 2, 3, 4, 5, 6, 7, 8, 9, 10] [(0, .agg (tF t at_ ct at_2 ct2 at_3 ct3).toArray), (1, vSl aplan plan cplan), (2, vSl a r3.1 c), (3, iV i), (4, .pointer (some (ead a (i.toNat * 1)))), (5, .slice a2 ((gt r3.1 i).length) c2), (6, .tuple #[iV r5.1, .bool r5.2.1, .agg #[iV r5.2.2.code, iV r5.2.2.index]]), (7, .tuple #[iV r5.1, .bool r5.2.1, .agg #[iV r5.2.2.code, iV r5.2.2.index]]), (8, iV r5.1), (9, .bool r5.2.1), (10, .agg #[iV r5.2.2.code, iV r5.2.2.index])] (by kernel_rfl) sb [1, 2, 3, 9, 11, 12, 13] [] rfl (by kernel_rfl) ?_
    refine .step [11] 11 rfl (by kernel_rfl) (by kernel_rfl) (.v [] rfl rfl rfl rfl rfl rfl (fun _ => ldA (cs := (tF t at_ ct at_2 ct2 at_3 ct3)) rfl tA25 rfl (cellsB (off := 0) (k := 0) rfl (m := 4) rfl)) (.v [] rfl rfl rfl rfl rfl rfl (fun _ => mv rfl) (.v [] rfl rfl rfl rfl rfl rfl (fun _ => mv rfl) (.v [] rfl rfl rfl rfl rfl rfl (fun _ => mv rfl) (.v [(72, vSl a r3.1 c), (73, iV i)] rfl rfl rfl rfl rfl rfl (fun _ => ix rfl rfl tS35 (q11.ne (by decide) (inb_pos q45)) q45) (.v [(74, .pointer (some (ead a (i.toNat * 1))))] rfl rfl rfl rfl rfl rfl (fun _ => ld1 (v := .slice a2 ((gt r3.1 i).length) c2) rfl tO22 (cellH ((fun q => (q48 q).mono (q38)) (by decide) 0 _ rfl))) (.c [(70, .agg (tF t at_ ct at_2 ct2 at_3 ct3).toArray), (71, vSl aplan plan cplan), (75, .slice a2 ((gt r3.1 i).length) c2)] rfl rfl rfl rfl rfl rfl (fun _ => cl (v := .tuple #[iV r5.1, .bool r5.2.1, .agg #[iV r5.2.2.code, iV r5.2.2.index]]) Tryz.call12 rfl rfl (fun w S => (by rw [q49]; exact c_resume S.sub t at_ ct (_q1.mono (FH.le_trans (le1) (q38))) _q2 at_2 ct2 (_q3.mono (FH.le_trans (le1) (q38))) _q4 at_3 ct3 (_q5.mono (FH.le_trans (le1) (q38))) _q6 plan aplan cplan (_q7.mono (FH.le_trans (le1) (q38))) _q8 (gt r3.1 i) a2 c2 (q47.mono (q38)) q46 ))) (.v [(76, .tuple #[iV r5.1, .bool r5.2.1, .agg #[iV r5.2.2.code, iV r5.2.2.index]])] rfl rfl rfl rfl rfl rfl (fun _ => mv rfl) (.v [(69, .tuple #[iV r5.1, .bool r5.2.1, .agg #[iV r5.2.2.code, iV r5.2.2.index]])] rfl rfl rfl rfl rfl rfl (fun _ => ext rfl rfl) (.v [(69, .tuple #[iV r5.1, .bool r5.2.1, .agg #[iV r5.2.2.code, iV r5.2.2.index]])] rfl rfl rfl rfl rfl rfl (fun _ => ext rfl rfl) (.v [(69, .tuple #[iV r5.1, .bool r5.2.1, .agg #[iV r5.2.2.code, iV r5.2.2.index]])] rfl rfl rfl rfl rfl rfl (fun _ => ext rfl rfl) (.nil)))))))))))) (.cons [] rfl rfl (fun sL hL => ?_) (.nil))
    refine al tZ27 rfl (fun pe => ?_)
    refine .nil ?_
    refine .ja (M := []) (C' := [0, 1, 2, 3, 4, 5, 6, 7, 8, 9, 10, 12, 13]) (pre := [(11, .pointer (some pe)), (12, iV r5.1), (13, .bool r5.2.1)]) [(1, vSl aplan plan cplan), (2, iV i), (3, .pointer (some pt)), (9, vSl a r3.1 c), (11, vSl alost lost clost), (12, .bool can), (13, .pointer (some p))] [1, 2, 3, 9, 11, 12, 13] hL rfl rfl rfl rfl rfl sb rfl rfl (by kernel_rfl) ?_
    refine .step [14] 14 rfl (by kernel_rfl) (by kernel_rfl) (.v [] rfl rfl rfl rfl rfl rfl (fun _ => ldA (cs := (tF t at_ ct at_2 ct2 at_3 ct3)) rfl tA25 rfl (cellsB (off := 0) (k := 1) rfl (m := 4) rfl)) (.v [] rfl rfl rfl rfl rfl rfl (fun _ => mv rfl) (.v [] rfl rfl rfl rfl rfl rfl (fun _ => mv rfl) (.v [] rfl rfl rfl rfl rfl rfl (fun _ => mv rfl) (.v [(72, vSl a r3.1 c), (73, iV i)] rfl rfl rfl rfl rfl rfl (fun _ => ix rfl rfl tS35 (q11.ne (by decide) (inb_pos q45)) q45) (.v [(74, .pointer (some (ead a (i.toNat * 1))))] rfl rfl rfl rfl rfl rfl (fun _ => ld1 (v := .slice a2 ((gt r3.1 i).length) c2) rfl tO22 (cellH ((fun q => (q48 q).mono (q38)) (by decide) 0 _ rfl))) (.c [(70, .agg (tF t at_ ct at_2 ct2 at_3 ct3).toArray), (71, vSl aplan plan cplan), (75, .slice a2 ((gt r3.1 i).length) c2)] rfl rfl rfl rfl rfl rfl (fun _ => cl (v := .tuple #[iV r5.1, .bool r5.2.1, .agg #[iV r5.2.2.code, iV r5.2.2.index]]) Tryz.call12 rfl rfl (fun w S => (by rw [q49]; exact c_resume S.sub t at_ ct (_q1.mono (FH.le_trans (le1) (q38))) _q2 at_2 ct2 (_q3.mono (FH.le_trans (le1) (q38))) _q4 at_3 ct3 (_q5.mono (FH.le_trans (le1) (q38))) _q6 plan aplan cplan (_q7.mono (FH.le_trans (le1) (q38))) _q8 (gt r3.1 i) a2 c2 (q47.mono (q38)) q46 ))) (.v [(76, .tuple #[iV r5.1, .bool r5.2.1, .agg #[iV r5.2.2.code, iV r5.2.2.index]])] rfl rfl rfl rfl rfl rfl (fun _ => mv rfl) (.v [(69, .tuple #[iV r5.1, .bool r5.2.1, .agg #[iV r5.2.2.code, iV r5.2.2.index]])] rfl rfl rfl rfl rfl rfl (fun _ => ext rfl rfl) (.v [(69, .tuple #[iV r5.1, .bool r5.2.1, .agg #[iV r5.2.2.code, iV r5.2.2.index]])] rfl rfl rfl rfl rfl rfl (fun _ => ext rfl rfl) (.v [(69, .tuple #[iV r5.1, .bool r5.2.1, .agg #[iV r5.2.2.code, iV r5.2.2.index]])] rfl rfl rfl rfl rfl rfl (fun _ => ext rfl rfl) (.v [(77, iV r5.1), (76, .tuple #[iV r5.1, .bool r5.2.1, .agg #[iV r5.2.2.code, iV r5.2.2.index]]), (70, .agg (tF t at_ ct at_2 ct2 at_3 ct3).toArray), (71, vSl aplan plan cplan), (72, vSl a r3.1 c), (73, iV i), (74, .pointer (some (ead a (i.toNat * 1)))), (75, .slice a2 ((gt r3.1 i).length) c2), (76, .tuple #[iV r5.1, .bool r5.2.1, .agg #[iV r5.2.2.code, iV r5.2.2.index]]), (69, .tuple #[iV r5.1, .bool r5.2.1, .agg #[iV r5.2.2.code, iV r5.2.2.index]]), (77, iV r5.1), (16, .pointer (some pe))] rfl rfl rfl rfl rfl rfl (fun _ => asg rfl) (.v [(78, .bool r5.2.1), (14, iV r5.1), (70, .agg (tF t at_ ct at_2 ct2 at_3 ct3).toArray), (71, vSl aplan plan cplan), (72, vSl a r3.1 c), (73, iV i), (74, .pointer (some (ead a (i.toNat * 1)))), (75, .slice a2 ((gt r3.1 i).length) c2), (76, .tuple #[iV r5.1, .bool r5.2.1, .agg #[iV r5.2.2.code, iV r5.2.2.index]]), (69, .tuple #[iV r5.1, .bool r5.2.1, .agg #[iV r5.2.2.code, iV r5.2.2.index]]), (77, iV r5.1), (78, .bool r5.2.1), (16, .pointer (some pe)), (14, iV r5.1)] rfl rfl rfl rfl rfl rfl (fun _ => asg rfl) (.nil)))))))))))))) (.cons [(16, .pointer (some pe)), (79, .agg #[iV r5.2.2.code, iV r5.2.2.index]), (15, .bool r5.2.1), (70, .agg (tF t at_ ct at_2 ct2 at_3 ct3).toArray), (71, vSl aplan plan cplan), (72, vSl a r3.1 c), (73, iV i), (74, .pointer (some (ead a (i.toNat * 1)))), (75, .slice a2 ((gt r3.1 i).length) c2), (76, .tuple #[iV r5.1, .bool r5.2.1, .agg #[iV r5.2.2.code, iV r5.2.2.index]]), (69, .tuple #[iV r5.1, .bool r5.2.1, .agg #[iV r5.2.2.code, iV r5.2.2.index]]), (77, iV r5.1), (78, .bool r5.2.1), (79, .agg #[iV r5.2.2.code, iV r5.2.2.index]), (16, .pointer (some pe)), (14, iV r5.1), (15, .bool r5.2.1)] rfl rfl (fun sL hL => ?_) (.nil))
    refine st (p := pe) (off := 0) (k := 0) (vs := [iV r5.2.2.code, iV r5.2.2.index]) rfl rfl rfl (fun w => (tA27 w).2) rfl rfl rfl rfl ?_
    refine .KA [Box pe [iV r5.2.2.code, iV r5.2.2.index], Box pt (tF t at_ ct at_2 ct2 at_3 ct3), Box p [iV x, iV x2]] ?_
    refine .nil ?_
    refine .jaN (M := [10, 13, 0, 1, 2, 3, 4, 5, 6, 7, 8, 9, 12]) (C' := []) (pre := []) [1, 2, 3, 9, 11, 12, 13] hL rfl rfl rfl rfl rfl (by kernel_rfl) ?_
    refine .last [(70, .agg (tF t at_ ct at_2 ct2 at_3 ct3).toArray), (71, vSl aplan plan cplan), (72, vSl a r3.1 c), (73, iV i), (74, .pointer (some (ead a (i.toNat * 1)))), (75, .slice a2 ((gt r3.1 i).length) c2), (76, .tuple #[iV r5.1, .bool r5.2.1, .agg #[iV r5.2.2.code, iV r5.2.2.index]]), (69, .tuple #[iV r5.1, .bool r5.2.1, .agg #[iV r5.2.2.code, iV r5.2.2.index]]), (77, iV r5.1), (78, .bool r5.2.1), (79, .agg #[iV r5.2.2.code, iV r5.2.2.index]), (16, .pointer (some pe)), (14, iV r5.1), (15, .bool r5.2.1)] rfl (by kernel_rfl) (.nil) rfl ?_
    refine .seqN (.seq (.region (.V (fa rfl tF27_0) ?_)))
    refine .V (ld1 rfl tO3 (cellB (off := 0) (k := 2) rfl rfl)) ?_
    refine .V bi0 ?_
    refine .V mv0 ?_
    rcases Bool.eq_false_or_eq_true (x == 0) with q57 | q57
    ·replace hF := hF.1 q57
     refine .GV (fa rfl tF27_0) q57 ?_
     refine .GV (ld1 rfl tO3 (cellB (off := 0) (k := 0) rfl rfl)) q57 ?_
     refine .GV bi0 q57 ?_
     refine .V (pkT rfl q57 rfl) ?_
     refine .V mv0 ?_
     rcases Bool.eq_false_or_eq_true (r5.2.2.code == 0) with q58 | q58
     ·replace hF := hF.1 q58
      refine .GV mv0 q58 ?_
      refine .V (pkT rfl q58 rfl) ?_
      refine .V mv0 ?_
      rcases Bool.eq_false_or_eq_true (can) with q59 | q59
      ·replace hF := hF.1 q59
       refine .GV mv0 q59 ?_
       refine .V (pkT rfl q59 rfl) ?_
       refine .V mv0 ?_
       rcases Bool.eq_false_or_eq_true (r5.2.1) with q60 | q60
       ·replace hF := hF.1 q60
        refine .GV mv0 q60 ?_
        refine .GV (ln rfl tS22.is) q60 ?_
        refine .GV bi0 q60 ?_
        refine .V (pkT rfl q60 rfl) ?_
        refine .V mv0 ?_
        rcases Bool.eq_false_or_eq_true (((lost.length : Nat) : Int) == 0) with q61 | q61
        ·replace hF := hF.1 q61
         refine .GV mv0 q61 ?_
         refine .GV mv0 q61 ?_
         refine .GV bi0 q61 ?_
         refine .V (pkT rfl q61 rfl) ?_
         refine .V mv0 ?_
         rcases Bool.eq_false_or_eq_true (decide (i ≤ r5.1)) with q62 | q62
         ·replace hF := hF.1 q62
          obtain ⟨r6, q63⟩ : ∃ y_ : Bool, y_ = sp_h11Solved := ⟨_, rfl⟩
          replace hF := hF r6 q63
          refine .gc (cl (v := .bool r6) Tryz.call7 rfl rfl (fun w S => (by rw [q63]; exact c_h11Solved S.sub (ht.mono (FH.le_trans (le1) (q38))) ))) rfl rfl rfl q62 rfl rfl ?_
          refine .V (pkT rfl q62 rfl) ?_
          refine .V ag0 ?_
          refine .nil (.seqN (.ret ?_))
          refine .res1 rfl (rvT rfl) (fun w' S => ⟨r6, hF, rfl, S.below⟩)
         replace hF := hF.2 q62
         refine .GS q62 ?_
         refine .V (pkF rfl q62 rfl) ?_
         refine .V ag0 ?_
         refine .nil (.seqN (.ret ?_))
         refine .res1 rfl (rvT rfl) (fun w' S => ⟨false, hF, rfl, S.below⟩)
        replace hF := hF.2 q61
        refine .GS q61 ?_
        refine .GS q61 ?_
        refine .GS q61 ?_
        refine .V (pkF rfl q61 rfl) ?_
        refine .V mv0 ?_
        refine .gS rfl rfl rfl rfl rfl rfl ?_
        refine .V (pkF rfl rfl rfl) ?_
        refine .V ag0 ?_
        refine .nil (.seqN (.ret ?_))
        refine .res1 rfl (rvT rfl) (fun w' S => ⟨false, hF, rfl, S.below⟩)
       replace hF := hF.2 q60
       refine .GS q60 ?_
       refine .GS q60 ?_
       refine .GS q60 ?_
       refine .V (pkF rfl q60 rfl) ?_
       refine .V mv0 ?_
       refine .gS rfl rfl rfl rfl rfl rfl ?_
       refine .gS rfl rfl rfl rfl rfl rfl ?_
       refine .gS rfl rfl rfl rfl rfl rfl ?_
       refine .V (pkF rfl rfl rfl) ?_
       refine .V mv0 ?_
       refine .gS rfl rfl rfl rfl rfl rfl ?_
       refine .V (pkF rfl rfl rfl) ?_
       refine .V ag0 ?_
       refine .nil (.seqN (.ret ?_))
       refine .res1 rfl (rvT rfl) (fun w' S => ⟨false, hF, rfl, S.below⟩)
      replace hF := hF.2 q59
      refine .GS q59 ?_
      refine .V (pkF rfl q59 rfl) ?_
      refine .V mv0 ?_
      refine .gS rfl rfl rfl rfl rfl rfl ?_
      refine .gS rfl rfl rfl rfl rfl rfl ?_
      refine .gS rfl rfl rfl rfl rfl rfl ?_
      refine .V (pkF rfl rfl rfl) ?_
      refine .V mv0 ?_
      refine .gS rfl rfl rfl rfl rfl rfl ?_
      refine .gS rfl rfl rfl rfl rfl rfl ?_
      refine .gS rfl rfl rfl rfl rfl rfl ?_
      refine .V (pkF rfl rfl rfl) ?_
      refine .V mv0 ?_
      refine .gS rfl rfl rfl rfl rfl rfl ?_
      refine .V (pkF rfl rfl rfl) ?_
      refine .V ag0 ?_
      refine .nil (.seqN (.ret ?_))
      refine .res1 rfl (rvT rfl) (fun w' S => ⟨false, hF, rfl, S.below⟩)
     replace hF := hF.2 q58
     refine .GS q58 ?_
     refine .V (pkF rfl q58 rfl) ?_
     refine .V mv0 ?_
     refine .gS rfl rfl rfl rfl rfl rfl ?_
     refine .V (pkF rfl rfl rfl) ?_
     refine .V mv0 ?_
     refine .gS rfl rfl rfl rfl rfl rfl ?_
     refine .gS rfl rfl rfl rfl rfl rfl ?_
     refine .gS rfl rfl rfl rfl rfl rfl ?_
     refine .V (pkF rfl rfl rfl) ?_
     refine .V mv0 ?_
     refine .gS rfl rfl rfl rfl rfl rfl ?_
     refine .gS rfl rfl rfl rfl rfl rfl ?_
     refine .gS rfl rfl rfl rfl rfl rfl ?_
     refine .V (pkF rfl rfl rfl) ?_
     refine .V mv0 ?_
     refine .gS rfl rfl rfl rfl rfl rfl ?_
     refine .V (pkF rfl rfl rfl) ?_
     refine .V ag0 ?_
     refine .nil (.seqN (.ret ?_))
     refine .res1 rfl (rvT rfl) (fun w' S => ⟨false, hF, rfl, S.below⟩)
    replace hF := hF.2 q57
    refine .GS q57 ?_
    refine .GS q57 ?_
    refine .GS q57 ?_
    refine .V (pkF rfl q57 rfl) ?_
    refine .V mv0 ?_
    refine .gS rfl rfl rfl rfl rfl rfl ?_
    refine .V (pkF rfl rfl rfl) ?_
    refine .V mv0 ?_
    refine .gS rfl rfl rfl rfl rfl rfl ?_
    refine .V (pkF rfl rfl rfl) ?_
    refine .V mv0 ?_
    refine .gS rfl rfl rfl rfl rfl rfl ?_
    refine .gS rfl rfl rfl rfl rfl rfl ?_
    refine .gS rfl rfl rfl rfl rfl rfl ?_
    refine .V (pkF rfl rfl rfl) ?_
    refine .V mv0 ?_
    refine .gS rfl rfl rfl rfl rfl rfl ?_
    refine .gS rfl rfl rfl rfl rfl rfl ?_
    refine .gS rfl rfl rfl rfl rfl rfl ?_
    refine .V (pkF rfl rfl rfl) ?_
    refine .V mv0 ?_
    refine .gS rfl rfl rfl rfl rfl rfl ?_
    refine .V (pkF rfl rfl rfl) ?_
    refine .V ag0 ?_
    refine .nil (.seqN (.ret ?_))
    refine .res1 rfl (rvT rfl) (fun w' S => ⟨false, hF, rfl, S.below⟩)
   obtain ⟨q64, hF⟩ := hF
   obtain ⟨_, ⟨a3, c3, rfl, q65, q66⟩, q67⟩ := q11.elem q64
   refine .openA (s0 := [(1, vSl aplan plan cplan), (2, iV i), (3, .pointer (some pt)), (9, vSl a r3.1 c)]) [0, 1, 2, 3, 4, 5, 6] [(0, .agg (tF t at_ ct at_2 ct2 at_3 ct3).toArray), (1, vSl aplan plan cplan), (2, vSl a r3.1 c), (3, iV i), (4, .pointer (some (ead a (i.toNat * 1)))), (5, .slice a3 ((gt r3.1 i).length) c3), (6, iV i)] (by kernel_rfl) sb [1, 2, 3, 9] [] rfl (by kernel_rfl) ?_
   refine .step [7, 12] 7 rfl (by kernel_rfl) (by kernel_rfl) (.v [] rfl rfl rfl rfl rfl rfl (fun _ => ldA (cs := (tF t at_ ct at_2 ct2 at_3 ct3)) rfl tA25 rfl (cellsB (off := 0) (k := 0) rfl (m := 4) rfl)) (.v [] rfl rfl rfl rfl rfl rfl (fun _ => mv rfl) (.v [] rfl rfl rfl rfl rfl rfl (fun _ => mv rfl) (.v [] rfl rfl rfl rfl rfl rfl (fun _ => mv rfl) (.v [(60, vSl a r3.1 c), (61, iV i)] rfl rfl rfl rfl rfl rfl (fun _ => ix rfl rfl tS35 (q11.ne (by decide) (inb_pos q64)) q64) (.v [(62, .pointer (some (ead a (i.toNat * 1))))] rfl rfl rfl rfl rfl rfl (fun _ => ld1 (v := .slice a3 ((gt r3.1 i).length) c3) rfl tO22 (cellH (q67 (by decide) 0 _ rfl))) (.v [] rfl rfl rfl rfl rfl rfl (fun _ => mv rfl) (.nil)))))))) (.cons [(58, .agg (tF t at_ ct at_2 ct2 at_3 ct3).toArray), (59, vSl aplan plan cplan), (63, .slice a3 ((gt r3.1 i).length) c3), (64, iV i)] rfl rfl (fun sL hL => ?_) (.cons [] rfl rfl (fun sL hL => ?_) (.nil)))
   ·obtain ⟨r7, q68⟩ : ∃ y_ : List Int × Bool × Fault, y_ = sp_missing t plan (gt r3.1 i) i := ⟨_, rfl⟩
    replace hF := hF r7 q68
    refine clR (α := Option Addr × Nat) (Φ := fun h1 z => RSl h1 z.1 r7.1 ∧ r7.1.length ≤ z.2) (V := fun z => .tuple #[vSl z.1 r7.1 z.2, .bool r7.2.1, .agg #[iV r7.2.2.code, iV r7.2.2.index]]) Tryz.call11 rfl rfl (fun w S => (by rw [q68]; exact c_missing S.sub t at_ ct (_q1.mono (le1)) _q2 at_2 ct2 (_q3.mono (le1)) _q4 at_3 ct3 (_q5.mono (le1)) _q6 plan aplan cplan (_q7.mono (le1)) _q8 (gt r3.1 i) a3 c3 q66 q65 i )) rfl (fun z h5 le5 hz => ?_)
    obtain ⟨a4, c4⟩ := z
    obtain ⟨q69, q70⟩ := hz
    refine .nil ?_
    refine .ja (M := [0, 1, 5, 6, 4, 2, 3]) (C' := [8, 9, 10, 11]) (pre := [(7, .tuple #[vSl a4 r7.1 c4, .bool r7.2.1, .agg #[iV r7.2.2.code, iV r7.2.2.index]]), (8, .tuple #[vSl a4 r7.1 c4, .bool r7.2.1, .agg #[iV r7.2.2.code, iV r7.2.2.index]]), (9, vSl a4 r7.1 c4), (10, .bool r7.2.1), (11, .agg #[iV r7.2.2.code, iV r7.2.2.index])]) [(1, vSl aplan plan cplan), (2, iV i), (3, .pointer (some pt)), (9, vSl a r3.1 c)] [1, 2, 3, 9] hL rfl rfl rfl rfl rfl sb rfl rfl (by kernel_rfl) ?_
    refine .step [12] 12 rfl (by kernel_rfl) (by kernel_rfl) (.v [(65, .tuple #[vSl a4 r7.1 c4, .bool r7.2.1, .agg #[iV r7.2.2.code, iV r7.2.2.index]])] rfl rfl rfl rfl rfl rfl (fun _ => mv rfl) (.v [(57, .tuple #[vSl a4 r7.1 c4, .bool r7.2.1, .agg #[iV r7.2.2.code, iV r7.2.2.index]])] rfl rfl rfl rfl rfl rfl (fun _ => ext rfl rfl) (.v [(57, .tuple #[vSl a4 r7.1 c4, .bool r7.2.1, .agg #[iV r7.2.2.code, iV r7.2.2.index]])] rfl rfl rfl rfl rfl rfl (fun _ => ext rfl rfl) (.v [(57, .tuple #[vSl a4 r7.1 c4, .bool r7.2.1, .agg #[iV r7.2.2.code, iV r7.2.2.index]])] rfl rfl rfl rfl rfl rfl (fun _ => ext rfl rfl) (.nil))))) (.cons [] rfl rfl (fun sL hL => ?_) (.nil))
    refine al tZ27 rfl (fun ph => ?_)
    refine .nil ?_
    refine .ja (M := []) (C' := [8, 9, 10, 11, 13, 14]) (pre := [(12, .pointer (some ph)), (13, vSl a4 r7.1 c4), (14, .bool r7.2.1)]) [(1, vSl aplan plan cplan), (2, iV i), (3, .pointer (some pt)), (9, vSl a r3.1 c)] [1, 2, 3, 9] hL rfl rfl rfl rfl rfl sb rfl rfl (by kernel_rfl) ?_
    refine .step [15] 15 rfl (by kernel_rfl) (by kernel_rfl) (.v [(65, .tuple #[vSl a4 r7.1 c4, .bool r7.2.1, .agg #[iV r7.2.2.code, iV r7.2.2.index]])] rfl rfl rfl rfl rfl rfl (fun _ => mv rfl) (.v [(57, .tuple #[vSl a4 r7.1 c4, .bool r7.2.1, .agg #[iV r7.2.2.code, iV r7.2.2.index]])] rfl rfl rfl rfl rfl rfl (fun _ => ext rfl rfl) (.v [(57, .tuple #[vSl a4 r7.1 c4, .bool r7.2.1, .agg #[iV r7.2.2.code, iV r7.2.2.index]])] rfl rfl rfl rfl rfl rfl (fun _ => ext rfl rfl) (.v [(57, .tuple #[vSl a4 r7.1 c4, .bool r7.2.1, .agg #[iV r7.2.2.code, iV r7.2.2.index]])] rfl rfl rfl rfl rfl rfl (fun _ => ext rfl rfl) (.v [(66, vSl a4 r7.1 c4), (65, .tuple #[vSl a4 r7.1 c4, .bool r7.2.1, .agg #[iV r7.2.2.code, iV r7.2.2.index]]), (58, .agg (tF t at_ ct at_2 ct2 at_3 ct3).toArray), (59, vSl aplan plan cplan), (60, vSl a r3.1 c), (61, iV i), (62, .pointer (some (ead a (i.toNat * 1)))), (63, .slice a3 ((gt r3.1 i).length) c3), (64, iV i), (65, .tuple #[vSl a4 r7.1 c4, .bool r7.2.1, .agg #[iV r7.2.2.code, iV r7.2.2.index]]), (57, .tuple #[vSl a4 r7.1 c4, .bool r7.2.1, .agg #[iV r7.2.2.code, iV r7.2.2.index]]), (66, vSl a4 r7.1 c4), (13, .pointer (some ph))] rfl rfl rfl rfl rfl rfl (fun _ => asg rfl) (.v [(67, .bool r7.2.1), (11, vSl a4 r7.1 c4), (58, .agg (tF t at_ ct at_2 ct2 at_3 ct3).toArray), (59, vSl aplan plan cplan), (60, vSl a r3.1 c), (61, iV i), (62, .pointer (some (ead a (i.toNat * 1)))), (63, .slice a3 ((gt r3.1 i).length) c3), (64, iV i), (65, .tuple #[vSl a4 r7.1 c4, .bool r7.2.1, .agg #[iV r7.2.2.code, iV r7.2.2.index]]), (57, .tuple #[vSl a4 r7.1 c4, .bool r7.2.1, .agg #[iV r7.2.2.code, iV r7.2.2.index]]), (66, vSl a4 r7.1 c4), (67, .bool r7.2.1), (13, .pointer (some ph)), (11, vSl a4 r7.1 c4)] rfl rfl rfl rfl rfl rfl (fun _ => asg rfl) (.nil))))))) (.cons [(13, .pointer (some ph)), (68, .agg #[iV r7.2.2.code, iV r7.2.2.index]), (12, .bool r7.2.1), (58, .agg (tF t at_ ct at_2 ct2 at_3 ct3).toArray), (59, vSl aplan plan cplan), (60, vSl a r3.1 c), (61, iV i), (62, .pointer (some (ead a (i.toNat * 1)))), (63, .slice a3 ((gt r3.1 i).length) c3), (64, iV i), (65, .tuple #[vSl a4 r7.1 c4, .bool r7.2.1, .agg #[iV r7.2.2.code, iV r7.2.2.index]]), (57, .tuple #[vSl a4 r7.1 c4, .bool r7.2.1, .agg #[iV r7.2.2.code, iV r7.2.2.index]]), (66, vSl a4 r7.1 c4), (67, .bool r7.2.1), (68, .agg #[iV r7.2.2.code, iV r7.2.2.index]), (13, .pointer (some ph)), (11, vSl a4 r7.1 c4), (12, .bool r7.2.1)] rfl rfl (fun sL hL => ?_) (.nil))
    refine st (p := ph) (off := 0) (k := 0) (vs := [iV r7.2.2.code, iV r7.2.2.index]) rfl rfl rfl (fun w => (tA27 w).2) rfl rfl rfl rfl ?_
    refine .KA [Box ph [iV r7.2.2.code, iV r7.2.2.index], Box pt (tF t at_ ct at_2 ct2 at_3 ct3)] ?_
    refine .nil ?_
    refine .jaN (M := [11, 14, 8, 9, 10, 13]) (C' := []) (pre := []) [1, 2, 3, 9] hL rfl rfl rfl rfl rfl (by kernel_rfl) ?_
    refine .last [(58, .agg (tF t at_ ct at_2 ct2 at_3 ct3).toArray), (59, vSl aplan plan cplan), (60, vSl a r3.1 c), (61, iV i), (62, .pointer (some (ead a (i.toNat * 1)))), (63, .slice a3 ((gt r3.1 i).length) c3), (64, iV i), (65, .tuple #[vSl a4 r7.1 c4, .bool r7.2.1, .agg #[iV r7.2.2.code, iV r7.2.2.index]]), (57, .tuple #[vSl a4 r7.1 c4, .bool r7.2.1, .agg #[iV r7.2.2.code, iV r7.2.2.index]]), (66, vSl a4 r7.1 c4), (67, .bool r7.2.1), (68, .agg #[iV r7.2.2.code, iV r7.2.2.index]), (13, .pointer (some ph)), (11, vSl a4 r7.1 c4), (12, .bool r7.2.1)] rfl (by kernel_rfl) (.nil) rfl ?_
    refine .sel0 [1, 0] (by decide) rfl ?_
    exact .US q39 (r7.1, r7.2.1, r7.2.2.code, r7.2.2.index, a4, c4, ph, h5) ⟨hF, q69, q70, (le5)⟩
   ·refine al tZ27 rfl (fun ph => ?_)
    refine .nil ?_
    refine .ja (M := []) (C' := [0, 1, 2, 3, 4, 5, 6]) (pre := [(12, .pointer (some ph))]) [(1, vSl aplan plan cplan), (2, iV i), (3, .pointer (some pt)), (9, vSl a r3.1 c)] [1, 2, 3, 9] hL rfl rfl rfl rfl rfl sb rfl rfl (by kernel_rfl) ?_
    refine .step [7] 7 rfl (by kernel_rfl) (by kernel_rfl) (.v [] rfl rfl rfl rfl rfl rfl (fun _ => ldA (cs := (tF t at_ ct at_2 ct2 at_3 ct3)) rfl tA25 rfl (cellsB (off := 0) (k := 1) rfl (m := 4) rfl)) (.v [] rfl rfl rfl rfl rfl rfl (fun _ => mv rfl) (.v [] rfl rfl rfl rfl rfl rfl (fun _ => mv rfl) (.v [] rfl rfl rfl rfl rfl rfl (fun _ => mv rfl) (.v [(60, vSl a r3.1 c), (61, iV i)] rfl rfl rfl rfl rfl rfl (fun _ => ix rfl rfl tS35 (q11.ne (by decide) (inb_pos q64)) q64) (.v [(62, .pointer (some (ead a (i.toNat * 1))))] rfl rfl rfl rfl rfl rfl (fun _ => ld1 (v := .slice a3 ((gt r3.1 i).length) c3) rfl tO22 (cellH (q67 (by decide) 0 _ rfl))) (.v [] rfl rfl rfl rfl rfl rfl (fun _ => mv rfl) (.nil)))))))) (.cons [(58, .agg (tF t at_ ct at_2 ct2 at_3 ct3).toArray), (59, vSl aplan plan cplan), (63, .slice a3 ((gt r3.1 i).length) c3), (64, iV i)] rfl rfl (fun sL hL => ?_) (.nil))
    obtain ⟨r7, q71⟩ : ∃ y_ : List Int × Bool × Fault, y_ = sp_missing t plan (gt r3.1 i) i := ⟨_, rfl⟩
    replace hF := hF r7 q71
    refine clR (α := Option Addr × Nat) (Φ := fun h1 z => RSl h1 z.1 r7.1 ∧ r7.1.length ≤ z.2) (V := fun z => .tuple #[vSl z.1 r7.1 z.2, .bool r7.2.1, .agg #[iV r7.2.2.code, iV r7.2.2.index]]) Tryz.call11 rfl rfl (fun w S => (by rw [q71]; exact c_missing S.sub t at_ ct (_q1.mono (le1)) _q2 at_2 ct2 (_q3.mono (le1)) _q4 at_3 ct3 (_q5.mono (le1)) _q6 plan aplan cplan (_q7.mono (le1)) _q8 (gt r3.1 i) a3 c3 q66 q65 i )) rfl (fun z h6 le6 hz => ?_)
    obtain ⟨a4, c4⟩ := z
    obtain ⟨q72, q73⟩ := hz
    refine .nil ?_
    refine .ja (M := [0, 1, 5, 6, 4, 2, 3]) (C' := [8, 9, 10, 11, 13, 14]) (pre := [(7, .tuple #[vSl a4 r7.1 c4, .bool r7.2.1, .agg #[iV r7.2.2.code, iV r7.2.2.index]]), (8, .tuple #[vSl a4 r7.1 c4, .bool r7.2.1, .agg #[iV r7.2.2.code, iV r7.2.2.index]]), (9, vSl a4 r7.1 c4), (10, .bool r7.2.1), (11, .agg #[iV r7.2.2.code, iV r7.2.2.index]), (13, vSl a4 r7.1 c4), (14, .bool r7.2.1)]) [(1, vSl aplan plan cplan), (2, iV i), (3, .pointer (some pt)), (9, vSl a r3.1 c)] [1, 2, 3, 9] hL rfl rfl rfl rfl rfl sb rfl rfl (by kernel_rfl) ?_
    refine .step [15] 15 rfl (by kernel_rfl) (by kernel_rfl) (.v [(65, .tuple #[vSl a4 r7.1 c4, .bool r7.2.1, .agg #[iV r7.2.2.code, iV r7.2.2.index]])] rfl rfl rfl rfl rfl rfl (fun _ => mv rfl) (.v [(57, .tuple #[vSl a4 r7.1 c4, .bool r7.2.1, .agg #[iV r7.2.2.code, iV r7.2.2.index]])] rfl rfl rfl rfl rfl rfl (fun _ => ext rfl rfl) (.v [(57, .tuple #[vSl a4 r7.1 c4, .bool r7.2.1, .agg #[iV r7.2.2.code, iV r7.2.2.index]])] rfl rfl rfl rfl rfl rfl (fun _ => ext rfl rfl) (.v [(57, .tuple #[vSl a4 r7.1 c4, .bool r7.2.1, .agg #[iV r7.2.2.code, iV r7.2.2.index]])] rfl rfl rfl rfl rfl rfl (fun _ => ext rfl rfl) (.v [(66, vSl a4 r7.1 c4), (65, .tuple #[vSl a4 r7.1 c4, .bool r7.2.1, .agg #[iV r7.2.2.code, iV r7.2.2.index]]), (58, .agg (tF t at_ ct at_2 ct2 at_3 ct3).toArray), (59, vSl aplan plan cplan), (60, vSl a r3.1 c), (61, iV i), (62, .pointer (some (ead a (i.toNat * 1)))), (63, .slice a3 ((gt r3.1 i).length) c3), (64, iV i), (65, .tuple #[vSl a4 r7.1 c4, .bool r7.2.1, .agg #[iV r7.2.2.code, iV r7.2.2.index]]), (57, .tuple #[vSl a4 r7.1 c4, .bool r7.2.1, .agg #[iV r7.2.2.code, iV r7.2.2.index]]), (66, vSl a4 r7.1 c4), (13, .pointer (some ph))] rfl rfl rfl rfl rfl rfl (fun _ => asg rfl) (.v [(67, .bool r7.2.1), (11, vSl a4 r7.1 c4), (58, .agg (tF t at_ ct at_2 ct2 at_3 ct3).toArray), (59, vSl aplan plan cplan), (60, vSl a r3.1 c), (61, iV i), (62, .pointer (some (ead a (i.toNat * 1)))), (63, .slice a3 ((gt r3.1 i).length) c3), (64, iV i), (65, .tuple #[vSl a4 r7.1 c4, .bool r7.2.1, .agg #[iV r7.2.2.code, iV r7.2.2.index]]), (57, .tuple #[vSl a4 r7.1 c4, .bool r7.2.1, .agg #[iV r7.2.2.code, iV r7.2.2.index]]), (66, vSl a4 r7.1 c4), (67, .bool r7.2.1), (13, .pointer (some ph)), (11, vSl a4 r7.1 c4)] rfl rfl rfl rfl rfl rfl (fun _ => asg rfl) (.nil))))))) (.cons [(13, .pointer (some ph)), (68, .agg #[iV r7.2.2.code, iV r7.2.2.index]), (12, .bool r7.2.1), (58, .agg (tF t at_ ct at_2 ct2 at_3 ct3).toArray), (59, vSl aplan plan cplan), (60, vSl a r3.1 c), (61, iV i), (62, .pointer (some (ead a (i.toNat * 1)))), (63, .slice a3 ((gt r3.1 i).length) c3), (64, iV i), (65, .tuple #[vSl a4 r7.1 c4, .bool r7.2.1, .agg #[iV r7.2.2.code, iV r7.2.2.index]]), (57, .tuple #[vSl a4 r7.1 c4, .bool r7.2.1, .agg #[iV r7.2.2.code, iV r7.2.2.index]]), (66, vSl a4 r7.1 c4), (67, .bool r7.2.1), (68, .agg #[iV r7.2.2.code, iV r7.2.2.index]), (13, .pointer (some ph)), (11, vSl a4 r7.1 c4), (12, .bool r7.2.1)] rfl rfl (fun sL hL => ?_) (.nil))
    refine st (p := ph) (off := 0) (k := 0) (vs := [iV r7.2.2.code, iV r7.2.2.index]) rfl rfl rfl (fun w => (tA27 w).2) rfl rfl rfl rfl ?_
    refine .KA [Box ph [iV r7.2.2.code, iV r7.2.2.index], Box pt (tF t at_ ct at_2 ct2 at_3 ct3)] ?_
    refine .nil ?_
    refine .jaN (M := [11, 14, 8, 9, 10, 13]) (C' := []) (pre := []) [1, 2, 3, 9] hL rfl rfl rfl rfl rfl (by kernel_rfl) ?_
    refine .last [(58, .agg (tF t at_ ct at_2 ct2 at_3 ct3).toArray), (59, vSl aplan plan cplan), (60, vSl a r3.1 c), (61, iV i), (62, .pointer (some (ead a (i.toNat * 1)))), (63, .slice a3 ((gt r3.1 i).length) c3), (64, iV i), (65, .tuple #[vSl a4 r7.1 c4, .bool r7.2.1, .agg #[iV r7.2.2.code, iV r7.2.2.index]]), (57, .tuple #[vSl a4 r7.1 c4, .bool r7.2.1, .agg #[iV r7.2.2.code, iV r7.2.2.index]]), (66, vSl a4 r7.1 c4), (67, .bool r7.2.1), (68, .agg #[iV r7.2.2.code, iV r7.2.2.index]), (13, .pointer (some ph)), (11, vSl a4 r7.1 c4), (12, .bool r7.2.1)] rfl (by kernel_rfl) (.nil) rfl ?_
    refine .sel0 [1, 0] (by decide) rfl ?_
    exact .US q39 (r7.1, r7.2.1, r7.2.2.code, r7.2.2.index, a4, c4, ph, h6) ⟨hF, q72, q73, (le6)⟩
  refine .region (.V (fa rfl tF27_0) ?_)
  refine .V (ld1 rfl tO3 (cellB (off := 0) (k := 1) rfl rfl)) ?_
  refine .V bi0 ?_
  refine .V mv0 ?_
  rcases Bool.eq_false_or_eq_true (r3.2.code != 0) with q74 | q74
  ·replace hF := hF.1 q74
   refine .GS q74 ?_
   refine .GS q74 ?_
   refine .GS q74 ?_
   refine .GS q74 ?_
   refine .GS q74 ?_
   refine .GS q74 ?_
   refine .V (pkT rfl q74 rfl) ?_
   refine .nil ?_
   refine .sel0 [0] (by decide) rfl ?_
   exact .US q23 true hF
  replace hF := hF.2 q74
  refine .GV mv0 q74 ?_
  refine .GV (ln rfl tS35.is) q74 ?_
  refine .GV mv0 q74 ?_
  refine .GV (ln rfl tS22.is) q74 ?_
  refine .GV bi0 q74 ?_
  obtain ⟨x3, q75⟩ : ∃ y_ : Bool, y_ = (((r3.1.length : Nat) : Int) != (wr (((plan.length : Nat) : Int) + 1))) := ⟨_, rfl⟩
  replace hF := hF x3 q75
  refine .gv (v := .bool x3) (by rw [q75]; exact bi rfl rfl rfl) rfl rfl rfl q74 rfl rfl ?_
  refine .V (pkF rfl q74 rfl) ?_
  refine .nil ?_
  refine .sel0 [0] (by decide) rfl ?_
  exact .US q23 x3 hF
 refine .region (.V (fa rfl tF27_0) ?_)
 refine .V (ld1 rfl tO3 (cellB (off := 0) (k := 1) rfl rfl)) ?_
 refine .V bi0 ?_
 refine .V mv0 ?_
 rcases Bool.eq_false_or_eq_true (r2.2.code != 0) with q76 | q76
 ·replace hF := hF.1 q76
  refine .GS q76 ?_
  refine .GS q76 ?_
  refine .V (pkT rfl q76 rfl) ?_
  refine .V mv0 ?_
  refine .gS rfl rfl rfl rfl rfl rfl ?_
  refine .gS rfl rfl rfl rfl rfl rfl ?_
  refine .gS rfl rfl rfl rfl rfl rfl ?_
  refine .gS rfl rfl rfl rfl rfl rfl ?_
  refine .gS rfl rfl rfl rfl rfl rfl ?_
  refine .V (pkT rfl rfl rfl) ?_
  refine .nil ?_
  refine .sel0 [2, 0] (by decide) rfl ?_
  exact .US q16 true hF
 replace hF := hF.2 q76
 refine .GV mv0 q76 ?_
 refine .GV (nt rfl) q76 ?_
 refine .V (pkF rfl q76 rfl) ?_
 refine .V mv0 ?_
 rcases Bool.eq_false_or_eq_true (!r2.1) with q77 | q77
 ·replace hF := hF.1 q77
  refine .GS q77 ?_
  refine .GS q77 ?_
  refine .GS q77 ?_
  refine .GS q77 ?_
  refine .GS q77 ?_
  refine .V (pkT rfl q77 rfl) ?_
  refine .nil ?_
  refine .sel0 [2, 0] (by decide) rfl ?_
  exact .US q16 true hF
 replace hF := hF.2 q77
 refine .GV mv0 q77 ?_
 refine .GV mv0 q77 ?_
 refine .GV (ln rfl tS22.is) q77 ?_
 obtain ⟨r8, q78⟩ : ∃ y_ : Bool, y_ = sp_in_ i 0 ((plan.length : Nat) : Int) := ⟨_, rfl⟩
 replace hF := hF r8 q78
 refine .gc (cl (v := .bool r8) Tryz.call10 rfl rfl (fun w S => (by rw [q78]; exact c_in_ S.sub i 0 ((plan.length : Nat) : Int) ))) rfl rfl rfl q77 rfl rfl ?_
 refine .GV (nt rfl) q77 ?_
 refine .V (pkF rfl q77 rfl) ?_
 refine .nil ?_
 refine .sel0 [2, 0] (by decide) rfl ?_
 exact .US q16 (!r8) hF
theorem c_lawMonitors {h : FH} {w : World} (hs : Sub h w) (ht : TabH Tryz.prog h) (t : Task) (at_ : Option Addr) (ct : Nat) (_q1 : RSl h at_ t.init) (_q2 : t.init.length ≤ ct) (at_2 : Option Addr) (ct2 : Nat) (_q3 : RSl h at_2 t.goal) (_q4 : t.goal.length ≤ ct2) (at_3 : Option Addr) (ct3 : Nat) (_q5 : RSl h at_3 t.ops) (_q6 : t.ops.length ≤ ct3) (plan : List Int) (aplan : Option Addr) (cplan : Nat) (_q7 : RSl h aplan plan) (_q8 : plan.length ≤ cplan) (i : Int) : Calls Tryz.prog 4 #[.agg #[iV t.facts, .slice at_ t.init.length ct, .slice at_2 t.goal.length ct2, .slice at_3 t.ops.length ct3], .slice aplan plan.length cplan, iV i] w fun e w' => e = .returned (.bool (sp_lawMonitors t plan i)) ∧ Below w.heap.size w w' :=
 (w_lawMonitors hs ht t at_ ct _q1 _q2 at_2 ct2 _q3 _q4 at_3 ct3 _q5 _q6 plan aplan cplan _q7 _q8 i (fun r => r = sp_lawMonitors t plan i) (ok_lawMonitors t plan i)).mono fun _ _ ⟨_, hk, he, hb⟩ => ⟨by rw [he, hk], hb⟩
end Go.Proofs.YtimillpakjgnoaaGreatDoor.Pl

namespace Go.Proofs.YtimillpakjgnoaaGreatDoor.Pl
open Go Go.RowKit
end Go.Proofs.YtimillpakjgnoaaGreatDoor.Pl

namespace Go.Proofs.YtimillpakjgnoaaGreatDoor.Pl
open Go Go.RowKit Go.WideShapes Go.ChangeShapes Go.ChangeAt Go.Joins Go.Deep
section
variable {H : Type} {enc : TypeId × Value → H} {P : Program}
theorem all_stays (hl : laidOutB P = true) {W W' : World} (hb : Go.RowKit.Below W.heap.size W W') {sp : Nat → Bool} : ∀ (ts : List TypeId) (vs : List Value) (ds : List (DataW H)) (ps : List MemPlace),
  (ts.all fun t => P.readableRec t && decide (t < P.types.size)) = true → DataW.TrodAll enc P W 0 (fun _ => true) true ts vs ds ps → (∀ x ∈ ps, x.block < W.heap.size) → (∀ x ∈ ps, sp x.block = true) → DataW.TrodAll enc P W' 0 sp true ts vs ds ps
 | [], vs, ds, ps, _, h, _, _ => by
  cases vs with
  | nil => cases ds with
   | nil => exact h
   | cons _ _ => exact h.elim
  | cons _ _ => exact h.elim
 | t :: ts, vs, ds, ps, hr, h, hlt, hsp => by
  obtain ⟨v0, vs0, d0, ds0, p0, q0, rfl, rfl, rfl, h0, r0⟩ := trodAll_cons h
  simp only [List.all_cons, Bool.and_eq_true, decide_eq_true_eq] at hr
  refine trodAll_cons_mk (WideElems.Trod_stays hl hr.1.1 hr.1.2 h0 (fun x hx => hb.same (hlt x (by simp [hx]))) (fun x hx => hsp x (by simp [hx]))) ?_
  exact all_stays hl hb ts vs0 ds0 q0 (by simpa using hr.2) r0 (fun x hx => hlt x (by simp [hx])) (fun x hx => hsp x (by simp [hx]))
def hold (W : World) : FH := fun b => W.heap[b]?
theorem hold_sub (W : World) : Sub (hold W) W := fun _ _ e => e
theorem hold_cell {W : World} {a : Addr} {v : Value} (e : W.cell? a = some v) : (hold W).cell a = some v := by
 unfold World.cell? at e
 unfold FH.cell hold
 cases hb : W.heap[a.block]? with
 | none => rw [hb] at e; cases e
 | some o => rw [hb] at e; cases o <;> simp_all
theorem rsl_of {α : Type} [Rep α] {h : FH} : ∀ (xs : List α) (a : Addr), (∀ (i : Nat) (x : α), xs[i]? = some x → ∃ cs, Rep.rep h x cs ∧ CellsAt h (a.add (i * Rep.sz α)) cs) → RSl h (some a) xs
 | [], a, _ => RSl.nil_
 | x :: r, a, hx => by
  obtain ⟨cs, h1, h2⟩ := hx 0 x rfl
  obtain ⟨ds, g1, g2⟩ := rsl_of r (a.add (Rep.sz α)) fun i y hy => by
   obtain ⟨c, k1, k2⟩ := hx (i + 1) y (by simpa using hy)
   refine ⟨c, k1, ?_⟩
   rw [add_add, show Rep.sz α + i * Rep.sz α = (i + 1) * Rep.sz α by rw [Nat.add_mul]; omega]
   exact k2
  have hl := Rep.len h1
  refine ⟨cs ++ ds, ⟨cs, ds, rfl, h1, g1⟩, fun j v e => ⟨by simp, ?_⟩⟩
  show h.cell (a.add j) = some v
  by_cases hj : j < cs.length
  ·rw [List.getElem?_append_left hj] at e
   have := h2 j v e
   rwa [add_add, Nat.zero_mul, Nat.zero_add] at this
  ·rw [List.getElem?_append_right (by omega)] at e
   have := (g2 (j - cs.length) v e).2
   have e2 : ead (some (a.add (Rep.sz α))) (j - cs.length) = a.add j := by
    show (a.add (Rep.sz α)).add (j - cs.length) = a.add j
    rw [add_add, hl]; congr 1; omega
   rwa [e2] at this
class Bytes (α : Type) where
 n : Nat
instance : Bytes Int := ⟨8⟩
instance {α : Type} : Bytes (List α) := ⟨24⟩
class Siz (α : Type) where
 siz : α → Prop
instance : Siz Int := ⟨fun _ => True⟩
instance : Siz Bool := ⟨fun _ => True⟩
instance {α : Type} [Bytes α] [Siz α] : Siz (List α) := ⟨fun xs => xs.length * Bytes.n α ≤ reachBytes ∧ ∀ x ∈ xs, Siz.siz x⟩
def Reads (P : Program) (α : Type) [Rep α] [Siz α] (t : TypeId) : Prop := ∀ (H : Type) (enc : TypeId × Value → H) (w : World) (b : Nat) (sp : Nat → Bool) (hd : Bool) (n : Nat) (cs : List Value) (z : DataW H × List MemPlace), DataW.trod enc P w b sp hd n t cs = some z →
 ∃ x : α, Rep.rep (hold w) x cs ∧ ((∀ m ∈ z.1.weights P t, m ≤ reachBytes) → Siz.siz x)
theorem reads_int {t : TypeId} (ht : P.underlying t = some (.int .i64)) : Reads P Int t := fun H enc w b sp hd n cs z h => by
 obtain ⟨x, e, _⟩ := DataW.trod_int ht h
 exact ⟨x, e, fun _ => trivial⟩
theorem listed_ {α : Type} {p : Nat → α → Prop} : ∀ (m : Nat), (∀ i, i < m → ∃ x : α, p i x) → ∃ xs : List α, xs.length = m ∧ ∀ (i : Nat) (x : α), xs[i]? = some x → p i x
 | 0, _ => ⟨[], rfl, fun i x e => by simp at e⟩
 | k + 1, hx => by
  obtain ⟨xs, h1, h2⟩ := listed_ k fun i hi => hx i (by omega)
  obtain ⟨x, h3⟩ := hx k (by omega)
  refine ⟨xs ++ [x], by simp [h1], fun i y e => ?_⟩
  by_cases hik : i < xs.length
  ·rw [List.getElem?_append_left hik] at e; exact h2 i y e
  ·rw [List.getElem?_append_right (by omega)] at e
   have e0 : i - xs.length = 0 := by have := (List.getElem?_eq_some_iff.1 e).1; simp at this; omega
   rw [e0] at e
   simp at e; subst e
   have : i = k := by omega
   subst this
   exact h3
theorem weights_all {e : TypeId} : ∀ {l : List (DataW H)} {d : DataW H}, d ∈ l → ∀ n ∈ d.weights P e, n ∈ DataW.weightsAll P e l
 | [], _, h, _, _ => by cases h
 | x :: r, d, h, n, hn => by
  simp only [DataW.weightsAll, List.mem_append]
  rcases List.mem_cons.1 h with rfl | h
  ·exact .inl hn
  ·exact .inr (weights_all h n hn)
theorem reads_slice {α : Type} [Rep α] [Bytes α] [Siz α] {t e : TypeId} (ht : P.underlying t = some (.slice e)) (hc : P.cellsOf e = Rep.sz α) (hby : P.bytesOf e = Bytes.n α) (he : Reads P α e) : Reads P (List α) t := fun H enc w b sp hd n cs z h => by
 rcases open_slice ht h with ⟨rfl, _⟩ | ⟨a, len, cap, m, n', D, Q, rfl, _, hl, _, hm, hz, hi⟩
 ·exact ⟨[], ⟨none, 0, rfl, Nat.le_refl _, RSl.nil_⟩, fun _ => ⟨by simp, fun x hx => by cases hx⟩⟩
 ·have hx : ∀ i, i < len → ∃ x : α, (∃ cs, Rep.rep (hold w) x cs ∧ CellsAt (hold w) (a.add (i * Rep.sz α)) cs) ∧ ((∀ m ∈ (D i).weights P e, m ≤ reachBytes) → Siz.siz x) := fun i hlt => by
   have hlm : len ≤ m := by rw [hm]; split <;> omega
   obtain ⟨cs', hcs, ht'⟩ := hi i (by omega)
   obtain ⟨x, hx, hsz⟩ := he H enc w b sp hd n' cs' _ ht'
   obtain ⟨_, hcl, hat⟩ := World.cells?_some hcs
   refine ⟨x, ⟨cs', hx, fun j v e => hold_cell ?_⟩, hsz⟩
   rw [hc] at hat hcl
   rw [hat j (by rw [← hcl]; exact (List.getElem?_eq_some_iff.1 e).1)]
   exact e
  obtain ⟨xs, hxl, hxs⟩ := listed_ len hx
  refine ⟨xs, ⟨some a, cap, by rw [hxl], by omega, rsl_of xs a fun i x hix => (hxs i x hix).1⟩, fun hw => ⟨?_, fun x hx => ?_⟩⟩
  ·have := hw ((((List.range len).map D).length + ((List.range (m - len)).map fun j => D (len + j)).length) * P.bytesOf e) (by rw [hz]; simp [DataW.weights, ht])
   simp only [List.length_map, List.length_range] at this
   rw [hxl, ← hby]
   refine Nat.le_trans (Nat.mul_le_mul_right _ ?_) this
   omega
  ·obtain ⟨i, hi', hix⟩ := List.mem_iff_getElem.1 hx
   refine (hxs i x (by rw [List.getElem?_eq_getElem hi', hix])).2 fun k hk => hw k ?_
   rw [hz]
   simp only [DataW.weights, ht, List.mem_cons, List.mem_append]
   refine .inr (.inl (weights_all (d := D i) ?_ k hk))
   exact List.mem_map.2 ⟨i, List.mem_range.2 (by omega), rfl⟩
theorem reads_field {α : Type} [Rep α] [Siz α] {fs : Array Field} {t : TypeId} {w : World} {b : Nat} {sp : Nat → Bool} {hd : Bool} {n : Nat} {cs : List Value} {xs : List (DataW H × List MemPlace)} (hs : P.underlying t = some (.struct fs)) (hlen : xs.length = fs.size) (hf : ∀ (i : Nat) (f : Field), fs[i]? = some f → DataW.trod enc P w b sp hd n f.type ((cs.drop f.offset).take (P.cellsOf f.type)) = xs[i]?)
  (i : Nat) {f : Field} (hi : fs[i]? = some f) (r : Reads P α f.type) : ∃ x : α, Rep.rep (hold w) x ((cs.drop f.offset).take (P.cellsOf f.type)) ∧ ((∀ m ∈ (DataW.agg (xs.map (·.1))).weights P t, m ≤ reachBytes) → Siz.siz x) := by
 have h1 := hf i f hi
 have hlt : i < xs.length := by rw [hlen]; exact (Array.getElem?_eq_some_iff.1 hi).1
 rw [List.getElem?_eq_getElem hlt] at h1
 obtain ⟨x, hx, hw⟩ := r H enc w b sp hd n _ _ h1
 refine ⟨x, hx, fun hm => hw fun m hm' => hm m ?_⟩
 simp only [DataW.weights, hs]
 refine DataW.weights_mem_each (j := i) (t := f.type) (d := xs[i].1) ?_ ?_ m hm'
 ·rw [List.getElem?_map, Array.getElem?_toList, hi]; rfl
 ·rw [List.getElem?_map, List.getElem?_eq_getElem hlt]; rfl
theorem open_aggR {α : Type} [Rep α] [Siz α] {r : Reach} {b0 b : Nat} {sp : Nat → Bool} {hd : Bool} {t : TypeId} {fs : Array Field} {w : World} {v : Value} {d : DataW H} {p : List MemPlace} (hs : P.underlying t = some (.struct fs)) (hr : Reads P α t) (hv : Value.okWide P w r b0 t v) (h : DataW.Trod enc P w b sp hd t v d p) :
  ∃ (x : α) (cs : List Value), v = .agg cs.toArray ∧ Rep.rep (hold w) x cs ∧ ((∀ m ∈ d.weights P t, m ≤ reachBytes) → Siz.siz x) := by
 obtain ⟨cs, rfl, _⟩ := okWide_struct hs hv
 obtain ⟨fuel, hf⟩ := h
 obtain ⟨x, hx, hz⟩ := hr H enc w b sp hd fuel _ _ hf
 exact ⟨x, cs.toList, by simp, hx, hz⟩
theorem open_sliceR {α : Type} [Rep α] [Bytes α] [Siz α] {r : Reach} {b0 b : Nat} {sp : Nat → Bool} {hd : Bool} {t e : TypeId} {w : World} {v : Value} {d : DataW H} {p : List MemPlace} (hs : P.underlying t = some (.slice e)) (hr : Reads P (List α) t) (hv : Value.okWide P w r b0 t v) (h : DataW.Trod enc P w b sp hd t v d p) :
  ∃ (xs : List α) (a : Option Addr) (c : Nat), v = .slice a xs.length c ∧ xs.length ≤ c ∧ RSl (hold w) a xs ∧ ((∀ m ∈ d.weights P t, m ≤ reachBytes) → Siz.siz xs) := by
 obtain ⟨a, len, cap, rfl⟩ := okWide_slice hs hv
 obtain ⟨fuel, hf⟩ := h
 obtain ⟨xs, ⟨a', c', e1, hl, hr'⟩, hz⟩ := hr H enc w b sp hd fuel _ _ hf
 have e2 : (Value.slice a len cap).cells.toList = [Value.slice a len cap] := rfl
 rw [e2] at e1
 simp only [List.cons.injEq, and_true, Value.slice.injEq] at e1
 obtain ⟨rfl, rfl, rfl⟩ := e1
 exact ⟨xs, a, cap, rfl, hl, hr', hz⟩
end
end Go.Proofs.YtimillpakjgnoaaGreatDoor.Pl

namespace Go.Proofs.YtimillpakjgnoaaGreatDoor.Pl
open Go Go.RowKit Go.WideShapes Go.ChangeShapes Go.ChangeAt Go.Joins Go.Deep
instance : Bytes Operator := ⟨80⟩
instance : Siz Operator := ⟨fun x => Siz.siz x.pre ∧ Siz.siz x.add ∧ Siz.siz x.del ∧ Siz.siz x.cost⟩
instance : Bytes Task := ⟨80⟩
instance : Siz Task := ⟨fun x => Siz.siz x.facts ∧ Siz.siz x.init ∧ Siz.siz x.goal ∧ Siz.siz x.ops⟩
theorem cells3 : Tryz.prog.cellsOf 3 = 1 := by kernel_rfl
theorem cells22 : Tryz.prog.cellsOf 22 = 1 := by kernel_rfl
theorem cells23 : Tryz.prog.cellsOf 23 = 1 := by kernel_rfl
theorem cells25 : Tryz.prog.cellsOf 25 = 4 := by kernel_rfl
theorem cells114 : Tryz.prog.cellsOf 114 = 4 := by kernel_rfl
theorem list4 {β : Type} {l : List β} (h : l.length = 4) : ∃ c0 c1 c2 c3, l = [c0, c1, c2, c3] := by
 match l, h with
 | [c0, c1, c2, c3], _ => exact ⟨c0, c1, c2, c3, rfl⟩
theorem reads_3 : Reads Tryz.prog Int 3 := reads_int Tryz.underlying3
theorem reads_22 : Reads Tryz.prog (List Int) 22 := reads_slice Tryz.underlying22 cells3 (by kernel_rfl) reads_3
theorem reads_114 : Reads Tryz.prog Operator 114 := fun H enc w b sp hd n cs z h => by
 obtain ⟨xs, n', _, rfl, hl, hlen, hf⟩ := DataW.trod_struct Tryz.underlying114 h
 obtain ⟨x0, r0, s0⟩ := reads_field Tryz.underlying114 hlen hf 0 rfl reads_22
 obtain ⟨x1, r1, s1⟩ := reads_field Tryz.underlying114 hlen hf 1 rfl reads_22
 obtain ⟨x2, r2, s2⟩ := reads_field Tryz.underlying114 hlen hf 2 rfl reads_22
 obtain ⟨x3, r3, s3⟩ := reads_field Tryz.underlying114 hlen hf 3 rfl reads_3
 rw [cells114] at hl
 obtain ⟨c0, c1, c2, c3, rfl⟩ := list4 hl
 replace r0 : Rep.rep (hold w) x0 (([c0, c1, c2, c3] : List Value).drop 0 |>.take (Tryz.prog.cellsOf 22)) := r0
 rw [cells22] at r0
 replace r1 : Rep.rep (hold w) x1 (([c0, c1, c2, c3] : List Value).drop 1 |>.take (Tryz.prog.cellsOf 22)) := r1
 rw [cells22] at r1
 replace r2 : Rep.rep (hold w) x2 (([c0, c1, c2, c3] : List Value).drop 2 |>.take (Tryz.prog.cellsOf 22)) := r2
 rw [cells22] at r2
 replace r3 : Rep.rep (hold w) x3 (([c0, c1, c2, c3] : List Value).drop 3 |>.take (Tryz.prog.cellsOf 3)) := r3
 rw [cells3] at r3
 obtain ⟨a0_0, k0_0, e0, l0_0, q0_0⟩ := r0
 replace e0 : ([c0] : List Value) = _ := e0
 simp only [List.cons.injEq, and_true] at e0
 obtain rfl := e0
 obtain ⟨a1_0, k1_0, e1, l1_0, q1_0⟩ := r1
 replace e1 : ([c1] : List Value) = _ := e1
 simp only [List.cons.injEq, and_true] at e1
 obtain rfl := e1
 obtain ⟨a2_0, k2_0, e2, l2_0, q2_0⟩ := r2
 replace e2 : ([c2] : List Value) = _ := e2
 simp only [List.cons.injEq, and_true] at e2
 obtain rfl := e2
 have e3 : ([c3] : List Value) = [.int .i64 x3] := r3
 simp only [List.cons.injEq, and_true] at e3
 obtain rfl := e3
 exact ⟨⟨x0, x1, x2, x3⟩, ⟨a0_0, k0_0, a1_0, k1_0, a2_0, k2_0, rfl, ⟨l0_0, q0_0⟩, ⟨l1_0, q1_0⟩, ⟨l2_0, q2_0⟩⟩, fun hw => ⟨s0 hw, s1 hw, s2 hw, s3 hw⟩⟩
theorem reads_23 : Reads Tryz.prog (List Operator) 23 := reads_slice Tryz.underlying23 cells114 (by kernel_rfl) reads_114
theorem reads_25 : Reads Tryz.prog Task 25 := fun H enc w b sp hd n cs z h => by
 obtain ⟨xs, n', _, rfl, hl, hlen, hf⟩ := DataW.trod_struct Tryz.underlying25 h
 obtain ⟨x0, r0, s0⟩ := reads_field Tryz.underlying25 hlen hf 0 rfl reads_3
 obtain ⟨x1, r1, s1⟩ := reads_field Tryz.underlying25 hlen hf 1 rfl reads_22
 obtain ⟨x2, r2, s2⟩ := reads_field Tryz.underlying25 hlen hf 2 rfl reads_22
 obtain ⟨x3, r3, s3⟩ := reads_field Tryz.underlying25 hlen hf 3 rfl reads_23
 rw [cells25] at hl
 obtain ⟨c0, c1, c2, c3, rfl⟩ := list4 hl
 replace r0 : Rep.rep (hold w) x0 (([c0, c1, c2, c3] : List Value).drop 0 |>.take (Tryz.prog.cellsOf 3)) := r0
 rw [cells3] at r0
 replace r1 : Rep.rep (hold w) x1 (([c0, c1, c2, c3] : List Value).drop 1 |>.take (Tryz.prog.cellsOf 22)) := r1
 rw [cells22] at r1
 replace r2 : Rep.rep (hold w) x2 (([c0, c1, c2, c3] : List Value).drop 2 |>.take (Tryz.prog.cellsOf 22)) := r2
 rw [cells22] at r2
 replace r3 : Rep.rep (hold w) x3 (([c0, c1, c2, c3] : List Value).drop 3 |>.take (Tryz.prog.cellsOf 23)) := r3
 rw [cells23] at r3
 have e0 : ([c0] : List Value) = [.int .i64 x0] := r0
 simp only [List.cons.injEq, and_true] at e0
 obtain rfl := e0
 obtain ⟨a1_0, k1_0, e1, l1_0, q1_0⟩ := r1
 replace e1 : ([c1] : List Value) = _ := e1
 simp only [List.cons.injEq, and_true] at e1
 obtain rfl := e1
 obtain ⟨a2_0, k2_0, e2, l2_0, q2_0⟩ := r2
 replace e2 : ([c2] : List Value) = _ := e2
 simp only [List.cons.injEq, and_true] at e2
 obtain rfl := e2
 obtain ⟨a3_0, k3_0, e3, l3_0, q3_0⟩ := r3
 replace e3 : ([c3] : List Value) = _ := e3
 simp only [List.cons.injEq, and_true] at e3
 obtain rfl := e3
 exact ⟨⟨x0, x1, x2, x3⟩, ⟨a1_0, k1_0, a2_0, k2_0, a3_0, k3_0, rfl, ⟨l1_0, q1_0⟩, ⟨l2_0, q2_0⟩, ⟨l3_0, q3_0⟩⟩, fun hw => ⟨s0 hw, s1 hw, s2 hw, s3 hw⟩⟩
end Go.Proofs.YtimillpakjgnoaaGreatDoor.Pl

