import Derived.Test.YtimillpakjgnoaaGreatDoorM1
import Derived.Test.YtimillpakjgnoaaGreatDoorM2
import Derived.Ground.NamesProg
import Derived.Test.YtimillpakjgnoaaGreatDoorChecked
import Derived.Shelf.SlSortCmp.NoneTotal
import Derived.Ground.SlsfProg
namespace Go.Proofs.YtimillpakjgnoaaGreatDoor.Pl
open Go Go.RowKit
abbrev tF (t : Task) (a : Option Addr) (c : Nat) (a2 : Option Addr) (c2 : Nat) (a3 : Option Addr) (c3 : Nat) (r : List Value := []) : List Value := iV t.facts :: vSl a t.init c :: vSl a2 t.goal c2 :: vSl a3 t.ops c3 :: r
theorem w_in_ {h : FH} {w : World} (hs : Sub h w) (n_ : Int) (low : Int) (high : Int) (K : Bool → Prop) (hF : F_in_ n_ low high K) : Calls Tryz.prog 10 #[iV n_, iV low, iV high] w fun e w' => ∃ r : Bool, K r ∧ e = .returned (.bool r) ∧ Below w.heap.size w w' := by
 refine enter (args := [iV n_, iV low, iV high]) Tryz.func10 rfl Tryz.ntmps10 rfl hs ?_
 refine .seq (.region (.V ag0 ?_))
 refine .nil (.seqN (.seq (.region (.V mv0 ?_))))
 refine .V mv0 ?_
 refine .V bi0 ?_
 refine .V mv0 ?_
 rcases Bool.eq_false_or_eq_true (decide (low ≤ n_)) with q2 | q2
 ·replace hF := hF.1 q2
  refine .GV mv0 q2 ?_
  refine .GV mv0 q2 ?_
  refine .GV bi0 q2 ?_
  refine .V (pkT rfl q2 rfl) ?_
  refine .V ag0 ?_
  refine .nil (.seqN (.ret ?_))
  refine .res1 rfl (rvT rfl) (fun w' S => ⟨decide (n_ ≤ high), hF, rfl, S.below⟩)
 replace hF := hF.2 q2
 refine .GS q2 ?_
 refine .GS q2 ?_
 refine .GS q2 ?_
 refine .V (pkF rfl q2 rfl) ?_
 refine .V ag0 ?_
 refine .nil (.seqN (.ret ?_))
 refine .res1 rfl (rvT rfl) (fun w' S => ⟨false, hF, rfl, S.below⟩)
theorem c_in_ {h : FH} {w : World} (hs : Sub h w) (n_ : Int) (low : Int) (high : Int) : Calls Tryz.prog 10 #[iV n_, iV low, iV high] w fun e w' => e = .returned (.bool (sp_in_ n_ low high)) ∧ Below w.heap.size w w' :=
 (w_in_ hs n_ low high (fun r => r = sp_in_ n_ low high) (ok_in_ n_ low high)).mono fun _ _ ⟨_, hk, he, hb⟩ => ⟨by rw [he, hk], hb⟩
theorem w_isNaN1 {h : FH} {w : World} (hs : Sub h w) (x : Int) (K : Bool → Prop) (hF : F_isNaN1 x K) : Calls Tryz.prog 98 #[iV x] w fun e w' => ∃ r : Bool, K r ∧ e = .returned (.bool r) ∧ Below w.heap.size w w' := by
 refine enter (args := [iV x]) Tryz.func98 rfl Tryz.ntmps98 rfl hs ?_
 refine .seq (.region (.V ag0 ?_))
 refine .nil (.seqN (.seq (.region (.V mv0 ?_))))
 refine .V mv0 ?_
 refine .V bi0 ?_
 refine .V ag0 ?_
 refine .nil (.seqN (.ret ?_))
 refine .res1 rfl (rvT rfl) (fun w' S => ⟨x != x, hF, rfl, S.below⟩)
theorem c_isNaN1 {h : FH} {w : World} (hs : Sub h w) (x : Int) : Calls Tryz.prog 98 #[iV x] w fun e w' => e = .returned (.bool (sp_isNaN1 x)) ∧ Below w.heap.size w w' :=
 (w_isNaN1 hs x (fun r => r = sp_isNaN1 x) (ok_isNaN1 x)).mono fun _ _ ⟨_, hk, he, hb⟩ => ⟨by rw [he, hk], hb⟩
theorem w_isNaN2 {h : FH} {w : World} (hs : Sub h w) (x : Int) (K : Bool → Prop) (hF : F_isNaN2 x K) : Calls Tryz.prog 84 #[iV x] w fun e w' => ∃ r : Bool, K r ∧ e = .returned (.bool r) ∧ Below w.heap.size w w' := by
 refine enter (args := [iV x]) Tryz.func84 rfl Tryz.ntmps84 rfl hs ?_
 refine .seq (.region (.V ag0 ?_))
 refine .nil (.seqN (.seq (.region (.V mv0 ?_))))
 refine .V mv0 ?_
 refine .V bi0 ?_
 refine .V ag0 ?_
 refine .nil (.seqN (.ret ?_))
 refine .res1 rfl (rvT rfl) (fun w' S => ⟨x != x, hF, rfl, S.below⟩)
theorem c_isNaN2 {h : FH} {w : World} (hs : Sub h w) (x : Int) : Calls Tryz.prog 84 #[iV x] w fun e w' => e = .returned (.bool (sp_isNaN1 x)) ∧ Below w.heap.size w w' :=
 (w_isNaN2 hs x (fun r => r = sp_isNaN1 x) (ok_isNaN2 x)).mono fun _ _ ⟨_, hk, he, hb⟩ => ⟨by rw [he, hk], hb⟩
theorem w_less {h : FH} {w : World} (hs : Sub h w) (x : Int) (y : Int) (K : Bool → Prop) (hF : F_less x y K) : Calls Tryz.prog 83 #[iV x, iV y] w fun e w' => ∃ r : Bool, K r ∧ e = .returned (.bool r) ∧ Below w.heap.size w w' := by
 refine enter (args := [iV x, iV y]) Tryz.func83 rfl Tryz.ntmps83 rfl hs ?_
 refine .seq (.region (.V ag0 ?_))
 refine .nil (.seqN (.seq (.region (.V mv0 ?_))))
 obtain ⟨r2, q5⟩ : ∃ y_ : Bool, y_ = sp_isNaN1 x := ⟨_, rfl⟩
 replace hF := hF r2 q5
 refine .C (cl (v := .bool r2) Tryz.call98 rfl rfl (fun w S => (by rw [q5]; exact c_isNaN1 S.sub x ))) ?_
 refine .V mv0 ?_
 rcases Bool.eq_false_or_eq_true (r2) with q6 | q6
 ·replace hF := hF.1 q6
  refine .GV mv0 q6 ?_
  obtain ⟨r3, q7⟩ : ∃ y_ : Bool, y_ = sp_isNaN1 y := ⟨_, rfl⟩
  replace hF := hF r3 q7
  refine .gc (cl (v := .bool r3) Tryz.call98 rfl rfl (fun w S => (by rw [q7]; exact c_isNaN1 S.sub y ))) rfl rfl rfl q6 rfl rfl ?_
  refine .GV (nt rfl) q6 ?_
  refine .V (pkT rfl q6 rfl) ?_
  refine .V mv0 ?_
  rcases Bool.eq_false_or_eq_true (!r3) with q8 | q8
  ·replace hF := hF.1 q8
   refine .GS q8 ?_
   refine .GS q8 ?_
   refine .GS q8 ?_
   refine .V (pkT rfl q8 rfl) ?_
   refine .V ag0 ?_
   refine .nil (.seqN (.ret ?_))
   refine .res1 rfl (rvT rfl) (fun w' S => ⟨true, hF, rfl, S.below⟩)
  replace hF := hF.2 q8
  refine .GV mv0 q8 ?_
  refine .GV mv0 q8 ?_
  refine .GV bi0 q8 ?_
  refine .V (pkF rfl q8 rfl) ?_
  refine .V ag0 ?_
  refine .nil (.seqN (.ret ?_))
  refine .res1 rfl (rvT rfl) (fun w' S => ⟨decide (x < y), hF, rfl, S.below⟩)
 replace hF := hF.2 q6
 refine .GS q6 ?_
 refine .GS q6 ?_
 refine .GS q6 ?_
 refine .V (pkF rfl q6 rfl) ?_
 refine .V mv0 ?_
 refine .gv mv0 rfl rfl rfl rfl rfl rfl ?_
 refine .gv mv0 rfl rfl rfl rfl rfl rfl ?_
 refine .gv bi0 rfl rfl rfl rfl rfl rfl ?_
 refine .V (pkF rfl rfl rfl) ?_
 refine .V ag0 ?_
 refine .nil (.seqN (.ret ?_))
 refine .res1 rfl (rvT rfl) (fun w' S => ⟨decide (x < y), hF, rfl, S.below⟩)
theorem c_less {h : FH} {w : World} (hs : Sub h w) (x : Int) (y : Int) : Calls Tryz.prog 83 #[iV x, iV y] w fun e w' => e = .returned (.bool (sp_less x y)) ∧ Below w.heap.size w w' :=
 (w_less hs x y (fun r => r = sp_less x y) (ok_less x y)).mono fun _ _ ⟨_, hk, he, hb⟩ => ⟨by rw [he, hk], hb⟩
set_option maxHeartbeats 8000000 in
theorem w_bsearch {h : FH} {w : World} (hs : Sub h w) (x : List Int) (ax : Option Addr) (cx : Nat) (_q1 : RSl h ax x) (_q2 : x.length ≤ cx) (target : Int) (K : (Int × Bool) → Prop) (hF : F_bsearch x target K) : Calls Tryz.prog 62 #[.slice ax x.length cx, iV target] w fun e w' => ∃ r : Int × Bool, K r ∧ e = .returned (.tuple #[iV r.1, .bool r.2]) ∧ Below w.heap.size w w' := by
 refine enter (args := [vSl ax x cx, iV target]) Tryz.func62 rfl Tryz.ntmps62 rfl hs ?_
 refine .seq (.region (.V ag0 ?_))
 refine .V ag0 ?_
 refine .nil (.seqN (.seq (.region (.V mv0 ?_))))
 refine .V (ln rfl tS22.is) ?_
 refine .V ag0 ?_
 refine .nil (.seqN (.seq (.region (.V mv0 ?_))))
 refine .V ag0 ?_
 refine .V ag0 ?_
 refine .nil (.seqN (.seq (.block ?_)))
 obtain ⟨I1, μ1, q55, q56⟩ := hF
 refine .loop' (σ := Int × Int) (fun z => I1 z.1 z.2) (fun z => μ1 z.1 z.2) (fun z => [(0, vSl ax x cx), (1, iV target), (6, iV ((x.length : Nat) : Int)), (7, iV z.1), (8, iV z.2)]) (fun _ => []) (fun _ => h) (0, ((x.length : Nat) : Int)) q55 sb rfl (FH.le_refl _) ?_
 rintro ⟨i, j⟩ q55
 have hF := q56 i j q55
 show J _ _ _ _ _ [(0, vSl ax x cx), (1, iV target), (6, iV ((x.length : Nat) : Int)), (7, iV i), (8, iV j)] [] h
 refine .seq (.seq (.region (.V mv0 ?_)))
 refine .V mv0 ?_
 refine .V bi0 ?_
 refine .nil (.seqN ?_)
 refine .cond rfl (fun q58 => ?_) (fun q58 => ?_)
 ·replace hF := hF.1 q58
  refine .skip (.seqN (.block (.seq (.region (.V mv0 ?_)))))
  refine .V mv0 ?_
  refine .V bi0 ?_
  refine .V (cv Tryz.underlying3 Tryz.underlying138 rfl) ?_
  obtain ⟨x2, q59⟩ : ∃ y_ : Int, y_ = (Int.fdiv (IntKind.u64.wrap (wr (i + j))) (2 ^ (min ((1 : Int)).toNat (IntKind.bits .u64)))) := ⟨_, rfl⟩
  replace hF := hF x2 q59
  refine .v (v := .int .u64 x2) (by rw [q59]; exact bsh rfl rfl (by decide) rfl) rfl rfl rfl ?_
  refine .V (cv Tryz.underlying138 Tryz.underlying3 rfl) ?_
  refine .V ag0 ?_
  refine .nil (.seqN (.seq (.region (.V mv0 ?_))))
  refine .V mv0 ?_
  obtain ⟨q60, hF⟩ := hF
  refine .V (ix rfl rfl tS22 (_q1.ne (by decide) (inb_pos q60)) q60) ?_
  refine .V (ld1 (v := iV (gt x (wr (x2)))) rfl tO3 (cellH (_q1.elemF q60 (by decide) 0 _ rfl))) ?_
  refine .V mv0 ?_
  obtain ⟨r2, q61⟩ : ∃ y_ : Bool, y_ = sp_less (gt x (wr (x2))) target := ⟨_, rfl⟩
  replace hF := hF r2 q61
  refine .C (cl (v := .bool r2) Tryz.call83 rfl rfl (fun w S => (by rw [q61]; exact c_less S.sub (gt x (wr (x2))) target ))) ?_
  refine .nil (.seqN ?_)
  refine .cond rfl (fun q62 => ?_) (fun q62 => ?_)
  ·replace hF := hF.1 q62
   refine .region (.V mv0 ?_)
   refine .V bi0 ?_
   refine .V ag0 ?_
   refine .nil (.blkN ?_)
   exact .RO (wr ((wr (x2)) + 1), j) hF.1 hF.2
  replace hF := hF.2 q62
  refine .region (.V mv0 ?_)
  refine .V ag0 ?_
  refine .nil (.blkN ?_)
  exact .RO (i, wr (x2)) hF.1 hF.2
 replace hF := hF.2 q58
 refine .exit (.seqX (.seqX (.blkX (.seqN (.seq (.region (.V mv0 ?_)))))))
 refine .V mv0 ?_
 refine .V mv0 ?_
 refine .V bi0 ?_
 refine .V mv0 ?_
 rcases Bool.eq_false_or_eq_true (decide (i < ((x.length : Nat) : Int))) with q69 | q69
 ·replace hF := hF.1 q69
  refine .GV mv0 q69 ?_
  refine .GV mv0 q69 ?_
  obtain ⟨q70, hF⟩ := hF
  refine .GV (ix rfl rfl tS22 (_q1.ne (by decide) (inb_pos q70)) q70) q69 ?_
  refine .GV (ld1 (v := iV (gt x i)) rfl tO3 (cellH (_q1.elemF q70 (by decide) 0 _ rfl))) q69 ?_
  refine .GV mv0 q69 ?_
  refine .GV bi0 q69 ?_
  refine .GV mv0 q69 ?_
  rcases Bool.eq_false_or_eq_true ((gt x i) == target) with q71 | q71
  ·replace hF := hF.1 q71
   refine .GS q71 ?_
   refine .GS q71 ?_
   refine .GS q71 ?_
   refine .GS q71 ?_
   refine .GS q71 ?_
   refine .GS q71 ?_
   refine .GU ?_
   refine .GU ?_
   refine .GS q71 ?_
   refine .GV (pkT rfl q71 rfl) q69 ?_
   refine .V (pkT rfl q69 rfl) ?_
   refine .V ag0 ?_
   refine .V ag0 ?_
   refine .nil (.seqN (.ret ?_))
   refine .res2 rfl (rvT rfl) (rvT rfl) (fun w' S => ⟨(i, true), hF, rfl, S.below⟩)
  replace hF := hF.2 q71
  refine .GV mv0 q71 ?_
  refine .GV mv0 q71 ?_
  refine .GV (ix rfl rfl tS22 (_q1.ne (by decide) (inb_pos q70)) q70) q71 ?_
  refine .GV (ld1 (v := iV (gt x i)) rfl tO3 (cellH (_q1.elemF q70 (by decide) 0 _ rfl))) q71 ?_
  obtain ⟨r3, q72⟩ : ∃ y_ : Bool, y_ = sp_isNaN1 (gt x i) := ⟨_, rfl⟩
  replace hF := hF r3 q72
  refine .gc (cl (v := .bool r3) Tryz.call84 rfl rfl (fun w S => (by rw [q72]; exact c_isNaN2 S.sub (gt x i) ))) rfl rfl rfl q71 rfl rfl ?_
  refine .GV mv0 q71 ?_
  rcases Bool.eq_false_or_eq_true (r3) with q73 | q73
  ·replace hF := hF.1 q73
   refine .GV mv0 q73 ?_
   obtain ⟨r4, q74⟩ : ∃ y_ : Bool, y_ = sp_isNaN1 target := ⟨_, rfl⟩
   replace hF := hF r4 q74
   refine .gc (cl (v := .bool r4) Tryz.call84 rfl rfl (fun w S => (by rw [q74]; exact c_isNaN2 S.sub target ))) rfl rfl rfl q73 rfl rfl ?_
   refine .GV (pkT rfl q73 rfl) q71 ?_
   refine .GV (pkF rfl q71 rfl) q69 ?_
   refine .V (pkT rfl q69 rfl) ?_
   refine .V ag0 ?_
   refine .V ag0 ?_
   refine .nil (.seqN (.ret ?_))
   refine .res2 rfl (rvT rfl) (rvT rfl) (fun w' S => ⟨(i, r4), hF, rfl, S.below⟩)
  replace hF := hF.2 q73
  refine .GS q73 ?_
  refine .GS q73 ?_
  refine .GV (pkF rfl q73 rfl) q71 ?_
  refine .GV (pkF rfl q71 rfl) q69 ?_
  refine .V (pkT rfl q69 rfl) ?_
  refine .V ag0 ?_
  refine .V ag0 ?_
  refine .nil (.seqN (.ret ?_))
  refine .res2 rfl (rvT rfl) (rvT rfl) (fun w' S => ⟨(i, false), hF, rfl, S.below⟩)
 replace hF := hF.2 q69
 refine .GS q69 ?_
 refine .GS q69 ?_
 refine .GS q69 ?_
 refine .GS q69 ?_
 refine .GS q69 ?_
 refine .GS q69 ?_
 refine .GS q69 ?_
 refine .GU ?_
 refine .GU ?_
 refine .GU ?_
 refine .GU ?_
 refine .GU ?_
 refine .GU ?_
 refine .GU ?_
 refine .GU ?_
 refine .GU ?_
 refine .GS q69 ?_
 refine .V (pkF rfl q69 rfl) ?_
 refine .V ag0 ?_
 refine .V ag0 ?_
 refine .nil (.seqN (.ret ?_))
 refine .res2 rfl (rvT rfl) (rvT rfl) (fun w' S => ⟨(i, false), hF, rfl, S.below⟩)
theorem c_bsearch {h : FH} {w : World} (hs : Sub h w) (x : List Int) (ax : Option Addr) (cx : Nat) (_q1 : RSl h ax x) (_q2 : x.length ≤ cx) (target : Int) (hp : pre_bsearch x target) : Calls Tryz.prog 62 #[.slice ax x.length cx, iV target] w fun e w' => e = .returned (.tuple #[iV (sp_bsearch x target).1, .bool (sp_bsearch x target).2]) ∧ Below w.heap.size w w' :=
 (w_bsearch hs x ax cx _q1 _q2 target (fun r => r = sp_bsearch x target) (ok_bsearch x target hp)).mono fun _ _ ⟨_, hk, he, hb⟩ => ⟨by rw [he, hk], hb⟩
theorem w_indexF {h : FH} {w : World} (hs : Sub h w) (s_ : List Int) (as_ : Option Addr) (cs_ : Nat) (_q1 : RSl h as_ s_) (_q2 : s_.length ≤ cs_) (pf : Int → Bool) (Df : Int → Prop) (ff : FuncId) (firstf capsf : Array Value) (hff : ∀ args w, (callFunc ff args).run Tryz.prog w = .ok (.enter ff args) w) (hpf : ∀ (x : Int) (w' : World), Df x → Sub h w' → Calls Tryz.prog ff (firstf.toList ++ [(iV x : Value)] ++ capsf.toList).toArray w' fun e w'' => e = .returned (.bool (pf x)) ∧ Below w'.heap.size w' w'') (K : Int → Prop) (hF : F_indexF s_ pf Df K) : Calls Tryz.prog 104 #[.slice as_ s_.length cs_, .func (.func ff) firstf capsf] w fun e w' => ∃ r : Int, K r ∧ e = .returned (iV r) ∧ Below w.heap.size w w' := by
 refine enter (args := [vSl as_ s_ cs_, .func (.func ff) firstf capsf]) Tryz.func104 rfl Tryz.ntmps104 rfl hs ?_
 refine .seq (.region (.V ag0 ?_))
 refine .nil (.seqN (.seq (.seq (.region (.V mv0 ?_)))))
 refine .V (ln rfl tS22.is) ?_
 refine .V mv0 ?_
 refine .nil (.seqN (.block ?_))
 obtain ⟨I1, μ1, q80, q81⟩ := hF
 refine .loop' (σ := Int) (fun z => I1 z) (fun z => μ1 z) (fun z => [(0, vSl as_ s_ cs_), (1, .func (.func ff) firstf capsf), (7, iV ((s_.length : Nat) : Int)), (8, iV z)]) (fun _ => []) (fun _ => h) 0 q80 sb rfl (FH.le_refl _) ?_
 rintro t8 q80
 have hF := q81 t8 q80
 show J _ _ _ _ _ [(0, vSl as_ s_ cs_), (1, .func (.func ff) firstf capsf), (7, iV ((s_.length : Nat) : Int)), (8, iV t8)] [] h
 refine .seq (.region (.V bi0 ?_))
 refine .nil (.seqN (.seq ?_))
 refine .cond rfl (fun q84 => ?_) (fun q84 => ?_)
 ·replace hF := hF.1 q84
  refine .skip (.seqN (.seq (.block (.seq (.region (.V mv0 ?_))))))
  refine .V ag0 ?_
  refine .nil (.seqN (.seq (.region (.V mv0 ?_))))
  refine .V mv0 ?_
  refine .V mv0 ?_
  obtain ⟨q93, hF⟩ := hF
  refine .V (ix rfl rfl tS22 (_q1.ne (by decide) (inb_pos q93)) q93) ?_
  refine .V (ld1 (v := iV (gt s_ t8)) rfl tO3 (cellH (_q1.elemF q93 (by decide) 0 _ rfl))) ?_
  obtain ⟨q94, hF⟩ := hF
  obtain ⟨r2, q95⟩ : ∃ y_ : Bool, y_ = pf (gt s_ t8) := ⟨_, rfl⟩
  replace hF := hF r2 q95
  refine .C (cl (v := .bool r2) hff rfl rfl (fun w S => (by rw [q95]; exact hpf (gt s_ t8) w q94 (S.sub.anti (FH.le_refl _))))) ?_
  refine .nil (.seqN ?_)
  refine .cond rfl (fun q96 => ?_) (fun q96 => ?_)
  ·replace hF := hF.1 q96
   refine .seq (.region (.V mv0 ?_))
   refine .V ag0 ?_
   refine .nil (.seqN (.ret (.blkR (.seqR (.seqR (.blkR (.seqR ?_)))))))
   refine .res1 rfl (rvT rfl) (fun w' S => ⟨t8, hF, rfl, S.below⟩)
  replace hF := hF.2 q96
  refine .skip (.blkN (.seqN (.region (.V bi0 ?_))))
  refine .V mv0 ?_
  refine .nil ?_
  exact .RO (wr (t8 + 1)) hF.1 hF.2
 replace hF := hF.2 q84
 refine .exit (.seqX (.seqX (.blkX (.seqN (.seq (.region (.V ag0 ?_)))))))
 refine .nil (.seqN (.ret ?_))
 refine .res1 rfl (rvT rfl) (fun w' S => ⟨(-1), hF, rfl, S.below⟩)
theorem c_indexF {h : FH} {w : World} (hs : Sub h w) (s_ : List Int) (as_ : Option Addr) (cs_ : Nat) (_q1 : RSl h as_ s_) (_q2 : s_.length ≤ cs_) (pf : Int → Bool) (Df : Int → Prop) (ff : FuncId) (firstf capsf : Array Value) (hff : ∀ args w, (callFunc ff args).run Tryz.prog w = .ok (.enter ff args) w) (hpf : ∀ (x : Int) (w' : World), Df x → Sub h w' → Calls Tryz.prog ff (firstf.toList ++ [(iV x : Value)] ++ capsf.toList).toArray w' fun e w'' => e = .returned (.bool (pf x)) ∧ Below w'.heap.size w' w'') (hp : pre_any s_ pf Df) : Calls Tryz.prog 104 #[.slice as_ s_.length cs_, .func (.func ff) firstf capsf] w fun e w' => e = .returned (iV (sp_indexF s_ pf Df)) ∧ Below w.heap.size w w' :=
 (w_indexF hs s_ as_ cs_ _q1 _q2 pf Df ff firstf capsf hff hpf (fun r => r = sp_indexF s_ pf Df) (ok_indexF s_ pf Df hp)).mono fun _ _ ⟨_, hk, he, hb⟩ => ⟨by rw [he, hk], hb⟩
theorem w_containsF {h : FH} {w : World} (hs : Sub h w) (s_ : List Int) (as_ : Option Addr) (cs_ : Nat) (_q1 : RSl h as_ s_) (_q2 : s_.length ≤ cs_) (pf : Int → Bool) (Df : Int → Prop) (ff : FuncId) (firstf capsf : Array Value) (hff : ∀ args w, (callFunc ff args).run Tryz.prog w = .ok (.enter ff args) w) (hpf : ∀ (x : Int) (w' : World), Df x → Sub h w' → Calls Tryz.prog ff (firstf.toList ++ [(iV x : Value)] ++ capsf.toList).toArray w' fun e w'' => e = .returned (.bool (pf x)) ∧ Below w'.heap.size w' w'') (K : Bool → Prop) (hF : F_containsF s_ pf Df K) : Calls Tryz.prog 81 #[.slice as_ s_.length cs_, .func (.func ff) firstf capsf] w fun e w' => ∃ r : Bool, K r ∧ e = .returned (.bool r) ∧ Below w.heap.size w w' := by
 refine enter (args := [vSl as_ s_ cs_, .func (.func ff) firstf capsf]) Tryz.func81 rfl Tryz.ntmps81 rfl hs ?_
 refine .seq (.region (.V ag0 ?_))
 refine .nil (.seqN (.seq (.region (.V mv0 ?_))))
 refine .V mv0 ?_
 obtain ⟨q3, hF⟩ := hF
 obtain ⟨r2, q4⟩ : ∃ y_ : Int, y_ = sp_indexF s_ pf Df := ⟨_, rfl⟩
 replace hF := hF r2 q4
 refine .C (cl (v := iV r2) Tryz.call104 rfl rfl (fun w S => (by rw [q4]; exact c_indexF S.sub s_ as_ cs_ _q1 _q2 pf Df ff firstf capsf hff hpf q3))) ?_
 refine .V bi0 ?_
 refine .V ag0 ?_
 refine .nil (.seqN (.ret ?_))
 refine .res1 rfl (rvT rfl) (fun w' S => ⟨decide (0 ≤ r2), hF, rfl, S.below⟩)
theorem c_containsF {h : FH} {w : World} (hs : Sub h w) (s_ : List Int) (as_ : Option Addr) (cs_ : Nat) (_q1 : RSl h as_ s_) (_q2 : s_.length ≤ cs_) (pf : Int → Bool) (Df : Int → Prop) (ff : FuncId) (firstf capsf : Array Value) (hff : ∀ args w, (callFunc ff args).run Tryz.prog w = .ok (.enter ff args) w) (hpf : ∀ (x : Int) (w' : World), Df x → Sub h w' → Calls Tryz.prog ff (firstf.toList ++ [(iV x : Value)] ++ capsf.toList).toArray w' fun e w'' => e = .returned (.bool (pf x)) ∧ Below w'.heap.size w' w'') (hp : pre_any s_ pf Df) : Calls Tryz.prog 81 #[.slice as_ s_.length cs_, .func (.func ff) firstf capsf] w fun e w' => e = .returned (.bool (sp_any s_ pf Df)) ∧ Below w.heap.size w w' :=
 (w_containsF hs s_ as_ cs_ _q1 _q2 pf Df ff firstf capsf hff hpf (fun r => r = sp_any s_ pf Df) (ok_containsF s_ pf Df hp)).mono fun _ _ ⟨_, hk, he, hb⟩ => ⟨by rw [he, hk], hb⟩
set_option maxHeartbeats 8000000 in
theorem w_isSet {h : FH} {w : World} (hs : Sub h w) (l : List Int) (al2 : Option Addr) (cl2 : Nat) (_q1 : RSl h al2 l) (_q2 : l.length ≤ cl2) (n_ : Int) (K : Bool → Prop) (hF : F_isSet l n_ K) : Calls Tryz.prog 38 #[.slice al2 l.length cl2, iV n_] w fun e w' => ∃ r : Bool, K r ∧ e = .returned (.bool r) ∧ Below w.heap.size w w' := by
 refine enter (args := [vSl al2 l cl2, iV n_]) Tryz.func38 rfl Tryz.ntmps38 rfl hs ?_
 refine .seq (.region (.V ag0 ?_))
 refine .nil (.seqN (.seq (.seq (.region (.V mv0 ?_)))))
 refine .V (ln rfl tS22.is) ?_
 refine .V mv0 ?_
 refine .nil (.seqN (.block ?_))
 obtain ⟨I1, μ1, q161, q162⟩ := hF
 refine .loop' (σ := Int) (fun z => I1 z) (fun z => μ1 z) (fun z => [(0, vSl al2 l cl2), (1, iV n_), (7, vSl al2 l cl2), (8, iV ((l.length : Nat) : Int)), (9, iV z)]) (fun _ => []) (fun _ => h) 0 q161 sb rfl (FH.le_refl _) ?_
 rintro t9 q161
 have hF := q162 t9 q161
 show J _ _ _ _ _ [(0, vSl al2 l cl2), (1, iV n_), (7, vSl al2 l cl2), (8, iV ((l.length : Nat) : Int)), (9, iV t9)] [] h
 refine .seq (.region (.V bi0 ?_))
 refine .nil (.seqN (.seq ?_))
 refine .cond rfl (fun q165 => ?_) (fun q165 => ?_)
 ·replace hF := hF.1 q165
  refine .skip (.seqN (.seq (.block (.seq (.region (.V mv0 ?_))))))
  obtain ⟨q188, hF⟩ := hF
  refine .V (ix rfl rfl tS22 (_q1.ne (by decide) (inb_pos q188)) q188) ?_
  refine .V (ld1 (v := iV (gt l t9)) rfl tO3 (cellH (_q1.elemF q188 (by decide) 0 _ rfl))) ?_
  refine .V ag0 ?_
  refine .V ag0 ?_
  refine .nil (.seqN ?_)
  refine .share (σ := Bool) (fun z => F_isSet_J1 K z t9 I1 μ1) (fun z => [(0, vSl al2 l cl2), (1, iV n_), (7, vSl al2 l cl2), (8, iV ((l.length : Nat) : Int)), (9, iV t9), (33, .bool z)]) (fun _ => []) (fun _ => h) ?_ (fun q193 => ?_)
  ·rintro t33 hF
   show J _ _ _ _ _ [(0, vSl al2 l cl2), (1, iV n_), (7, vSl al2 l cl2), (8, iV ((l.length : Nat) : Int)), (9, iV t9), (33, .bool t33)] [] h
   refine .cond rfl (fun q194 => ?_) (fun q194 => ?_)
   ·replace hF := hF.1 q194
    refine .seq (.region (.V ag0 ?_))
    refine .nil (.seqN (.ret (.blkR (.seqR (.seqR (.blkR (.seqR ?_)))))))
    refine .res1 rfl (rvT rfl) (fun w' S => ⟨false, hF, rfl, S.below⟩)
   replace hF := hF.2 q194
   refine .skip (.blkN (.seqN (.region (.V bi0 ?_))))
   refine .V mv0 ?_
   refine .nil ?_
   exact .RO (wr (t9 + 1)) hF.1 hF.2
  refine .region (.V mv0 ?_)
  refine .V bi0 ?_
  refine .V mv0 ?_
  rcases Bool.eq_false_or_eq_true (decide ((gt l t9) < 0)) with q195 | q195
  ·replace hF := hF.1 q195
   refine .GS q195 ?_
   refine .GS q195 ?_
   refine .GS q195 ?_
   refine .V (pkT rfl q195 rfl) ?_
   refine .V mv0 ?_
   refine .gS rfl rfl rfl rfl rfl rfl ?_
   refine .gS rfl rfl rfl rfl rfl rfl ?_
   refine .gS rfl rfl rfl rfl rfl rfl ?_
   refine .GU ?_
   refine .GU ?_
   refine .GU ?_
   refine .GU ?_
   refine .GU ?_
   refine .GU ?_
   refine .GU ?_
   refine .gS rfl rfl rfl rfl rfl rfl ?_
   refine .V (pkT rfl rfl rfl) ?_
   refine .nil ?_
   exact .US q193 true hF
  replace hF := hF.2 q195
  refine .GV mv0 q195 ?_
  refine .GV mv0 q195 ?_
  refine .GV bi0 q195 ?_
  refine .V (pkF rfl q195 rfl) ?_
  refine .V mv0 ?_
  rcases Bool.eq_false_or_eq_true (decide (n_ ≤ (gt l t9))) with q196 | q196
  ·replace hF := hF.1 q196
   refine .GS q196 ?_
   refine .GS q196 ?_
   refine .GS q196 ?_
   refine .GU ?_
   refine .GU ?_
   refine .GU ?_
   refine .GU ?_
   refine .GU ?_
   refine .GU ?_
   refine .GU ?_
   refine .GS q196 ?_
   refine .V (pkT rfl q196 rfl) ?_
   refine .nil ?_
   exact .US q193 true hF
  replace hF := hF.2 q196
  refine .GV mv0 q196 ?_
  refine .GV bi0 q196 ?_
  refine .GV mv0 q196 ?_
  rcases Bool.eq_false_or_eq_true (decide (0 < t9)) with q197 | q197
  ·replace hF := hF.1 q197
   refine .GV mv0 q197 ?_
   refine .GV mv0 q197 ?_
   refine .GV mv0 q197 ?_
   refine .GV bi0 q197 ?_
   obtain ⟨q198, hF⟩ := hF
   refine .GV (ix rfl rfl tS22 (_q1.ne (by decide) (inb_pos q198)) q198) q197 ?_
   refine .GV (ld1 (v := iV (gt l (wr (t9 - 1)))) rfl tO3 (cellH (_q1.elemF q198 (by decide) 0 _ rfl))) q197 ?_
   refine .GV bi0 q197 ?_
   refine .GV (pkT rfl q197 rfl) q196 ?_
   refine .V (pkF rfl q196 rfl) ?_
   refine .nil ?_
   exact .US q193 (decide ((gt l t9) ≤ (gt l (wr (t9 - 1))))) hF
  replace hF := hF.2 q197
  refine .GS q197 ?_
  refine .GS q197 ?_
  refine .GS q197 ?_
  refine .GS q197 ?_
  refine .GS q197 ?_
  refine .GS q197 ?_
  refine .GS q197 ?_
  refine .GV (pkF rfl q197 rfl) q196 ?_
  refine .V (pkF rfl q196 rfl) ?_
  refine .nil ?_
  exact .US q193 false hF
 replace hF := hF.2 q165
 refine .exit (.seqX (.seqX (.blkX (.seqN (.seq (.region (.V ag0 ?_)))))))
 refine .nil (.seqN (.ret ?_))
 refine .res1 rfl (rvT rfl) (fun w' S => ⟨true, hF, rfl, S.below⟩)
theorem c_isSet {h : FH} {w : World} (hs : Sub h w) (l : List Int) (al2 : Option Addr) (cl2 : Nat) (_q1 : RSl h al2 l) (_q2 : l.length ≤ cl2) (n_ : Int) (hp : pre_isSet l n_) : Calls Tryz.prog 38 #[.slice al2 l.length cl2, iV n_] w fun e w' => e = .returned (.bool (sp_isSet l n_)) ∧ Below w.heap.size w w' :=
 (w_isSet hs l al2 cl2 _q1 _q2 n_ (fun r => r = sp_isSet l n_) (ok_isSet l n_ hp)).mono fun _ _ ⟨_, hk, he, hb⟩ => ⟨by rw [he, hk], hb⟩
theorem w_meets1 {h : FH} {w : World} (hs : Sub h w) (x : Int) (x2 : List Int) (ax2 : Option Addr) (cx2 : Nat) (_q1 : RSl h ax2 x2) (_q2 : x2.length ≤ cx2) (px2 : Addr) (_q3 : CellsAt h px2 [.slice ax2 x2.length cx2]) (K : Bool → Prop) (hF : F_meets1 x x2 K) : Calls Tryz.prog 82 #[iV x, .pointer (some px2)] w fun e w' => ∃ r : Bool, K r ∧ e = .returned (.bool r) ∧ Below w.heap.size w w' := by
 refine enter (args := [iV x, .pointer (some px2)]) Tryz.func82 rfl Tryz.ntmps82 rfl hs ?_
 refine .seq (.region (.V ag0 ?_))
 refine .nil (.seqN (.seq (.region (.V (ld1 (v := vSl ax2 x2 cx2) rfl tO22 (cellH (CellsAt.mono (FH.le_refl _) _q3 0 _ rfl))) ?_))))
 refine .V mv0 ?_
 obtain ⟨q4, hF⟩ := hF
 obtain ⟨r2, q5⟩ : ∃ y_ : Int × Bool, y_ = sp_bsearch x2 x := ⟨_, rfl⟩
 replace hF := hF r2 q5
 refine .C (cl (v := .tuple #[iV r2.1, .bool r2.2]) Tryz.call62 rfl rfl (fun w S => (by rw [q5]; exact c_bsearch S.sub x2 ax2 cx2 _q1 _q2 x q4))) ?_
 refine .V mv0 ?_
 refine .V (ext rfl rfl) ?_
 refine .V (ext rfl rfl) ?_
 refine .V ag0 ?_
 refine .V ag0 ?_
 refine .nil (.seqN (.seq (.region (.V mv0 ?_))))
 refine .V ag0 ?_
 refine .nil (.seqN (.ret ?_))
 refine .res1 rfl (rvT rfl) (fun w' S => ⟨r2.2, hF, rfl, S.below⟩)
theorem c_meets1 {h : FH} {w : World} (hs : Sub h w) (x : Int) (x2 : List Int) (ax2 : Option Addr) (cx2 : Nat) (_q1 : RSl h ax2 x2) (_q2 : x2.length ≤ cx2) (px2 : Addr) (_q3 : CellsAt h px2 [.slice ax2 x2.length cx2]) (hp : pre_meets1 x x2) : Calls Tryz.prog 82 #[iV x, .pointer (some px2)] w fun e w' => e = .returned (.bool (sp_meets1 x x2)) ∧ Below w.heap.size w w' :=
 (w_meets1 hs x x2 ax2 cx2 _q1 _q2 px2 _q3 (fun r => r = sp_meets1 x x2) (ok_meets1 x x2 hp)).mono fun _ _ ⟨_, hk, he, hb⟩ => ⟨by rw [he, hk], hb⟩
theorem w_meets {h : FH} {w : World} (hs : Sub h w) (a : List Int) (aa : Option Addr) (ca : Nat) (_q1 : RSl h aa a) (_q2 : a.length ≤ ca) (b : List Int) (ab : Option Addr) (cb : Nat) (_q3 : RSl h ab b) (_q4 : b.length ≤ cb) (K : Bool → Prop) (hF : F_meets a b K) : Calls Tryz.prog 61 #[.slice aa a.length ca, .slice ab b.length cb] w fun e w' => ∃ r : Bool, K r ∧ e = .returned (.bool r) ∧ Below w.heap.size w w' := by
 refine enter (args := [vSl aa a ca, vSl ab b cb]) Tryz.func61 rfl Tryz.ntmps61 rfl hs ?_
 refine .seq (.region ?_)
 refine bx (vs := [vSl ab b cb]) rfl rfl rfl (fun pb => ?_)
 refine .V ag0 ?_
 refine .nil (.seqN (.seq (.region (.V mv0 ?_))))
 refine .V (mkf (vf := []) (vc := [.pointer (some pb)]) rfl rfl) ?_
 obtain ⟨q5, hF⟩ := hF
 obtain ⟨r2, q6⟩ : ∃ y_ : Bool, y_ = sp_any a (fun y_ : Int => sp_meets1 y_ b) (fun y_ : Int => pre_meets1 y_ b) := ⟨_, rfl⟩
 replace hF := hF r2 q6
 refine .C (cl (v := .bool r2) Tryz.call81 rfl rfl (fun w S => (by rw [q6]; obtain ⟨h_, hl_, hs_, hb_⟩ := lookB S (k := 0) rfl; exact c_containsF hs_ a aa ca (RSl.mono hl_ _q1) _q2 (fun y_ : Int => sp_meets1 y_ b) (fun y_ : Int => pre_meets1 y_ b) 82 #[] #[.pointer (some pb)] Tryz.call82 (fun x w' hD hs' => c_meets1 hs' x b ab cb (RSl.mono hl_ _q3) _q4 pb hb_ hD) q5))) ?_
 refine .V ag0 ?_
 refine .nil (.seqN (.ret ?_))
 refine .res1 rfl (rvT rfl) (fun w' S => ⟨r2, hF, rfl, S.below⟩)
theorem c_meets {h : FH} {w : World} (hs : Sub h w) (a : List Int) (aa : Option Addr) (ca : Nat) (_q1 : RSl h aa a) (_q2 : a.length ≤ ca) (b : List Int) (ab : Option Addr) (cb : Nat) (_q3 : RSl h ab b) (_q4 : b.length ≤ cb) (hp : pre_meets a b) : Calls Tryz.prog 61 #[.slice aa a.length ca, .slice ab b.length cb] w fun e w' => e = .returned (.bool (sp_meets a b)) ∧ Below w.heap.size w w' :=
 (w_meets hs a aa ca _q1 _q2 b ab cb _q3 _q4 (fun r => r = sp_meets a b) (ok_meets a b hp)).mono fun _ _ ⟨_, hk, he, hb⟩ => ⟨by rw [he, hk], hb⟩
set_option maxHeartbeats 8000000 in
theorem w_operator {h : FH} {w : World} (hs : Sub h w) (o : Operator) (ao : Option Addr) (co : Nat) (_q1 : RSl h ao o.pre) (_q2 : o.pre.length ≤ co) (ao2 : Option Addr) (co2 : Nat) (_q3 : RSl h ao2 o.add) (_q4 : o.add.length ≤ co2) (ao3 : Option Addr) (co3 : Nat) (_q5 : RSl h ao3 o.del) (_q6 : o.del.length ≤ co3) (facts : Int) (K : Int → Prop) (hF : F_operator o facts K) : Calls Tryz.prog 65 #[.agg #[.slice ao o.pre.length co, .slice ao2 o.add.length co2, .slice ao3 o.del.length co3, iV o.cost], iV facts] w fun e w' => ∃ r : Int, K r ∧ e = .returned (iV r) ∧ Below w.heap.size w w' := by
 refine enter (args := [.agg #[vSl ao o.pre co, vSl ao2 o.add co2, vSl ao3 o.del co3, iV o.cost], iV facts]) Tryz.func65 rfl Tryz.ntmps65 rfl hs ?_
 refine .seq (.region ?_)
 refine bx (vs := [vSl ao o.pre co, vSl ao2 o.add co2, vSl ao3 o.del co3, iV o.cost]) rfl rfl rfl (fun po => ?_)
 refine .V ag0 ?_
 refine .nil (.seqN (.seq (.block ?_)))
 refine .share (σ := Bool) (fun z => F_operator_J1 o K z) (fun z => [(2, .pointer (some po)), (5, .bool z)]) (fun _ => [Box po [vSl ao o.pre co, vSl ao2 o.add co2, vSl ao3 o.del co3, iV o.cost]]) (fun _ => h) ?_ (fun q74 => ?_)
 ·rintro t5 hF
  show J _ _ _ _ _ [(2, .pointer (some po)), (5, .bool t5)] [Box po [vSl ao o.pre co, vSl ao2 o.add co2, vSl ao3 o.del co3, iV o.cost]] h
  refine .cond rfl (fun q75 => ?_) (fun q75 => ?_)
  ·replace hF := hF.1 q75
   refine .seq (.region (.V ag0 ?_))
   refine .nil (.seqN (.ret (.blkR (.seqR ?_))))
   refine .res1 rfl (rvT rfl) (fun w' S => ⟨5, hF, rfl, S.below⟩)
  replace hF := hF.2 q75
  refine .share (σ := Bool) (fun z => F_operator_J2 K z) (fun z => [(32, .bool z)]) (fun _ => []) (fun _ => h) ?_ (fun q77 => ?_)
  ·rintro t32 hF
   show J _ _ _ _ _ [(32, .bool t32)] [] h
   refine .cond rfl (fun q78 => ?_) (fun q78 => ?_)
   ·replace hF := hF.1 q78
    refine .seq (.region (.V ag0 ?_))
    refine .nil (.seqN (.ret (.blkR (.seqR ?_))))
    refine .res1 rfl (rvT rfl) (fun w' S => ⟨3, hF, rfl, S.below⟩)
   replace hF := hF.2 q78
   refine .skip (.blkN (.seqN (.seq (.region (.V ag0 ?_)))))
   refine .nil (.seqN (.ret ?_))
   refine .res1 rfl (rvT rfl) (fun w' S => ⟨0, hF, rfl, S.below⟩)
  refine .region (.V (fa rfl tF114_3) ?_)
  refine .V (ld1 rfl tO3 (cellB (off := 3) (k := 0) rfl rfl)) ?_
  refine .V bi0 ?_
  refine .V mv0 ?_
  rcases Bool.eq_false_or_eq_true (decide (o.cost < 0)) with q79 | q79
  ·replace hF := hF.1 q79
   refine .GS q79 ?_
   refine .GS q79 ?_
   refine .GS q79 ?_
   refine .V (pkT rfl q79 rfl) ?_
   refine .V ag0 ?_
   refine .nil ?_
   refine .sel0 [] (by decide) rfl ?_
   exact .US q77 true hF
  replace hF := hF.2 q79
  refine .GV (fa rfl tF114_3) q79 ?_
  refine .GV (ld1 rfl tO3 (cellB (off := 3) (k := 0) rfl rfl)) q79 ?_
  refine .GV bi0 q79 ?_
  refine .V (pkF rfl q79 rfl) ?_
  refine .V ag0 ?_
  refine .nil ?_
  refine .sel0 [] (by decide) rfl ?_
  exact .US q77 (decide (100 < o.cost)) hF
 refine .region (.V (fa rfl tF114_0) ?_)
 refine .V (ld1 rfl tO22 (cellB (off := 0) (k := 0) rfl rfl)) ?_
 refine .V mv0 ?_
 obtain ⟨q80, hF⟩ := hF
 obtain ⟨r2, q81⟩ : ∃ y_ : Bool, y_ = sp_isSet o.pre facts := ⟨_, rfl⟩
 replace hF := hF r2 q81
 refine .C (cl (v := .bool r2) Tryz.call38 rfl rfl (fun w S => (by rw [q81]; exact c_isSet S.sub o.pre ao co _q1 _q2 facts q80))) ?_
 refine .V (nt rfl) ?_
 refine .V mv0 ?_
 rcases Bool.eq_false_or_eq_true (!r2) with q82 | q82
 ·replace hF := hF.1 q82
  refine .GS q82 ?_
  refine .GS q82 ?_
  refine .GS q82 ?_
  refine .GS q82 ?_
  refine .GS q82 ?_
  refine .V (pkT rfl q82 rfl) ?_
  refine .V mv0 ?_
  refine .gS rfl rfl rfl rfl rfl rfl ?_
  refine .gS rfl rfl rfl rfl rfl rfl ?_
  refine .gS rfl rfl rfl rfl rfl rfl ?_
  refine .gS rfl rfl rfl rfl rfl rfl ?_
  refine .gS rfl rfl rfl rfl rfl rfl ?_
  refine .V (pkT rfl rfl rfl) ?_
  refine .V mv0 ?_
  refine .gS rfl rfl rfl rfl rfl rfl ?_
  refine .gS rfl rfl rfl rfl rfl rfl ?_
  refine .gS rfl rfl rfl rfl rfl rfl ?_
  refine .gS rfl rfl rfl rfl rfl rfl ?_
  refine .gS rfl rfl rfl rfl rfl rfl ?_
  refine .V (pkT rfl rfl rfl) ?_
  refine .V ag0 ?_
  refine .nil ?_
  exact .US q74 true hF
 replace hF := hF.2 q82
 refine .GV (fa rfl tF114_1) q82 ?_
 refine .GV (ld1 rfl tO22 (cellB (off := 1) (k := 0) rfl rfl)) q82 ?_
 refine .GV mv0 q82 ?_
 obtain ⟨q83, hF⟩ := hF
 obtain ⟨r3, q84⟩ : ∃ y_ : Bool, y_ = sp_isSet o.add facts := ⟨_, rfl⟩
 replace hF := hF r3 q84
 refine .gc (cl (v := .bool r3) Tryz.call38 rfl rfl (fun w S => (by rw [q84]; exact c_isSet S.sub o.add ao2 co2 _q3 _q4 facts q83))) rfl rfl rfl q82 rfl rfl ?_
 refine .GV (nt rfl) q82 ?_
 refine .V (pkF rfl q82 rfl) ?_
 refine .V mv0 ?_
 rcases Bool.eq_false_or_eq_true (!r3) with q85 | q85
 ·replace hF := hF.1 q85
  refine .GS q85 ?_
  refine .GS q85 ?_
  refine .GS q85 ?_
  refine .GS q85 ?_
  refine .GS q85 ?_
  refine .V (pkT rfl q85 rfl) ?_
  refine .V mv0 ?_
  refine .gS rfl rfl rfl rfl rfl rfl ?_
  refine .gS rfl rfl rfl rfl rfl rfl ?_
  refine .gS rfl rfl rfl rfl rfl rfl ?_
  refine .gS rfl rfl rfl rfl rfl rfl ?_
  refine .gS rfl rfl rfl rfl rfl rfl ?_
  refine .V (pkT rfl rfl rfl) ?_
  refine .V ag0 ?_
  refine .nil ?_
  exact .US q74 true hF
 replace hF := hF.2 q85
 refine .GV (fa rfl tF114_2) q85 ?_
 refine .GV (ld1 rfl tO22 (cellB (off := 2) (k := 0) rfl rfl)) q85 ?_
 refine .GV mv0 q85 ?_
 obtain ⟨q86, hF⟩ := hF
 obtain ⟨r4, q87⟩ : ∃ y_ : Bool, y_ = sp_isSet o.del facts := ⟨_, rfl⟩
 replace hF := hF r4 q87
 refine .gc (cl (v := .bool r4) Tryz.call38 rfl rfl (fun w S => (by rw [q87]; exact c_isSet S.sub o.del ao3 co3 _q5 _q6 facts q86))) rfl rfl rfl q85 rfl rfl ?_
 refine .GV (nt rfl) q85 ?_
 refine .V (pkF rfl q85 rfl) ?_
 refine .V mv0 ?_
 rcases Bool.eq_false_or_eq_true (!r4) with q88 | q88
 ·replace hF := hF.1 q88
  refine .GS q88 ?_
  refine .GS q88 ?_
  refine .GS q88 ?_
  refine .GS q88 ?_
  refine .GS q88 ?_
  refine .V (pkT rfl q88 rfl) ?_
  refine .V ag0 ?_
  refine .nil ?_
  exact .US q74 true hF
 replace hF := hF.2 q88
 refine .GV (fa rfl tF114_1) q88 ?_
 refine .GV (ld1 rfl tO22 (cellB (off := 1) (k := 0) rfl rfl)) q88 ?_
 refine .GV (fa rfl tF114_2) q88 ?_
 refine .GV (ld1 rfl tO22 (cellB (off := 2) (k := 0) rfl rfl)) q88 ?_
 obtain ⟨q89, hF⟩ := hF
 obtain ⟨r5, q90⟩ : ∃ y_ : Bool, y_ = sp_meets o.add o.del := ⟨_, rfl⟩
 replace hF := hF r5 q90
 refine .gc (cl (v := .bool r5) Tryz.call61 rfl rfl (fun w S => (by rw [q90]; exact c_meets S.sub o.add ao2 co2 _q3 _q4 o.del ao3 co3 _q5 _q6 q89))) rfl rfl rfl q88 rfl rfl ?_
 refine .V (pkF rfl q88 rfl) ?_
 refine .V ag0 ?_
 refine .nil ?_
 exact .US q74 r5 hF
theorem c_operator {h : FH} {w : World} (hs : Sub h w) (o : Operator) (ao : Option Addr) (co : Nat) (_q1 : RSl h ao o.pre) (_q2 : o.pre.length ≤ co) (ao2 : Option Addr) (co2 : Nat) (_q3 : RSl h ao2 o.add) (_q4 : o.add.length ≤ co2) (ao3 : Option Addr) (co3 : Nat) (_q5 : RSl h ao3 o.del) (_q6 : o.del.length ≤ co3) (facts : Int) (hp : pre_operator o facts) : Calls Tryz.prog 65 #[.agg #[.slice ao o.pre.length co, .slice ao2 o.add.length co2, .slice ao3 o.del.length co3, iV o.cost], iV facts] w fun e w' => e = .returned (iV (sp_operator o facts)) ∧ Below w.heap.size w w' :=
 (w_operator hs o ao co _q1 _q2 ao2 co2 _q3 _q4 ao3 co3 _q5 _q6 facts (fun r => r = sp_operator o facts) (ok_operator o facts hp)).mono fun _ _ ⟨_, hk, he, hb⟩ => ⟨by rw [he, hk], hb⟩
set_option maxHeartbeats 8000000 in
theorem w_validate {h : FH} {w : World} (hs : Sub h w) (t : Task) (at_ : Option Addr) (ct : Nat) (_q1 : RSl h at_ t.init) (_q2 : t.init.length ≤ ct) (at_2 : Option Addr) (ct2 : Nat) (_q3 : RSl h at_2 t.goal) (_q4 : t.goal.length ≤ ct2) (at_3 : Option Addr) (ct3 : Nat) (_q5 : RSl h at_3 t.ops) (_q6 : t.ops.length ≤ ct3) (K : Fault → Prop) (hF : F_validate t K) : Calls Tryz.prog 37 #[.agg #[iV t.facts, .slice at_ t.init.length ct, .slice at_2 t.goal.length ct2, .slice at_3 t.ops.length ct3]] w fun e w' => ∃ r : Fault, K r ∧ e = .returned (.agg #[iV r.code, iV r.index]) ∧ Below w.heap.size w w' := by
 refine enter (args := [.agg (tF t at_ ct at_2 ct2 at_3 ct3).toArray]) Tryz.func37 rfl Tryz.ntmps37 rfl hs ?_
 refine .seq (.region ?_)
 refine bx (vs := (tF t at_ ct at_2 ct2 at_3 ct3)) rfl rfl rfl (fun pt => ?_)
 refine al tZ27 rfl (fun pv => ?_)
 refine .nil (.seqN (.seq (.block ?_)))
 refine .share (σ := Bool) (fun z => F_validate_J1 t K z) (fun z => [(1, .pointer (some pt)), (2, .pointer (some pv)), (6, .bool z)]) (fun _ => [Box pt (tF t at_ ct at_2 ct2 at_3 ct3), Box pv [iV 0, iV 0]]) (fun _ => h) ?_ (fun q30 => ?_)
 ·rintro t6 hF
  show J _ _ _ _ _ [(1, .pointer (some pt)), (2, .pointer (some pv)), (6, .bool t6)] [Box pt (tF t at_ ct at_2 ct2 at_3 ct3), Box pv [iV 0, iV 0]] h
  refine .cond rfl (fun q31 => ?_) (fun q31 => ?_)
  ·replace hF := hF.1 q31
   refine .seq (.region (.V (bld (cs := #[iV 3, iV (-1)]) (pv := [(0, iV 3), (1, iV (-1))]) tB27 rfl rfl) ?_))
   refine st (p := pv) (off := 0) (k := 1) (vs := [iV 3, iV (-1)]) rfl rfl rfl (fun w => (tA27 w).2) rfl rfl rfl rfl ?_
   refine .KA [Box pt (tF t at_ ct at_2 ct2 at_3 ct3), Box pv [iV 3, iV (-1)]] ?_
   refine .nil (.seqN (.ret (.blkR (.seqR ?_))))
   refine .res1 rfl (rvC rfl tA27 (k := 1) rfl rfl) (fun w' S => ⟨(⟨3, (-1)⟩ : Fault), hF, rfl, S.below⟩)
  replace hF := hF.2 q31
  refine .seq (.region (.V (fa rfl tF25_1) ?_))
  refine .V (ld1 rfl tO22 (cellB (off := 1) (k := 0) rfl rfl)) ?_
  refine .V (fa rfl tF25_0) ?_
  refine .V (ld1 rfl tO3 (cellB (off := 0) (k := 0) rfl rfl)) ?_
  obtain ⟨q32, hF⟩ := hF
  obtain ⟨r2, q33⟩ : ∃ y_ : Bool, y_ = sp_isSet t.init t.facts := ⟨_, rfl⟩
  replace hF := hF r2 q33
  refine .C (cl (v := .bool r2) Tryz.call38 rfl rfl (fun w S => (by rw [q33]; exact c_isSet S.sub t.init at_ ct _q1 _q2 t.facts q32))) ?_
  refine .V (nt rfl) ?_
  refine .V ag0 ?_
  refine .nil (.seqN ?_)
  refine .cond rfl (fun q34 => ?_) (fun q34 => ?_)
  ·replace hF := hF.1 q34
   refine .seq (.region (.V (bld (cs := #[iV 5, iV (-2)]) (pv := [(0, iV 5), (1, iV (-2))]) tB27 rfl rfl) ?_))
   refine st (p := pv) (off := 0) (k := 1) (vs := [iV 5, iV (-2)]) rfl rfl rfl (fun w => (tA27 w).2) rfl rfl rfl rfl ?_
   refine .KA [Box pt (tF t at_ ct at_2 ct2 at_3 ct3), Box pv [iV 5, iV (-2)]] ?_
   refine .nil (.seqN (.ret (.blkR (.seqR ?_))))
   refine .res1 rfl (rvC rfl tA27 (k := 1) rfl rfl) (fun w' S => ⟨(⟨5, (-2)⟩ : Fault), hF, rfl, S.below⟩)
  replace hF := hF.2 q34
  refine .seq (.region (.V (fa rfl tF25_2) ?_))
  refine .V (ld1 rfl tO22 (cellB (off := 2) (k := 0) rfl rfl)) ?_
  refine .V (fa rfl tF25_0) ?_
  refine .V (ld1 rfl tO3 (cellB (off := 0) (k := 0) rfl rfl)) ?_
  obtain ⟨q35, hF⟩ := hF
  obtain ⟨r3, q36⟩ : ∃ y_ : Bool, y_ = sp_isSet t.goal t.facts := ⟨_, rfl⟩
  replace hF := hF r3 q36
  refine .C (cl (v := .bool r3) Tryz.call38 rfl rfl (fun w S => (by rw [q36]; exact c_isSet S.sub t.goal at_2 ct2 _q3 _q4 t.facts q35))) ?_
  refine .V (nt rfl) ?_
  refine .V ag0 ?_
  refine .nil (.seqN ?_)
  refine .cond rfl (fun q37 => ?_) (fun q37 => ?_)
  ·replace hF := hF.1 q37
   refine .seq (.region (.V (bld (cs := #[iV 5, iV (-3)]) (pv := [(0, iV 5), (1, iV (-3))]) tB27 rfl rfl) ?_))
   refine st (p := pv) (off := 0) (k := 1) (vs := [iV 5, iV (-3)]) rfl rfl rfl (fun w => (tA27 w).2) rfl rfl rfl rfl ?_
   refine .KA [Box pt (tF t at_ ct at_2 ct2 at_3 ct3), Box pv [iV 5, iV (-3)]] ?_
   refine .nil (.seqN (.ret (.blkR (.seqR ?_))))
   refine .res1 rfl (rvC rfl tA27 (k := 1) rfl rfl) (fun w' S => ⟨(⟨5, (-3)⟩ : Fault), hF, rfl, S.below⟩)
  replace hF := hF.2 q37
  refine .seq (.region (.V (fa rfl tF25_3) ?_))
  refine .V (ld1 rfl tO23 (cellB (off := 3) (k := 0) rfl rfl)) ?_
  refine .V (ln rfl tS23.is) ?_
  refine .V bi0 ?_
  refine .V ag0 ?_
  refine .nil (.seqN ?_)
  refine .cond rfl (fun q38 => ?_) (fun q38 => ?_)
  ·replace hF := hF.1 q38
   refine .seq (.region (.V (bld (cs := #[iV 2, iV (-1)]) (pv := [(0, iV 2), (1, iV (-1))]) tB27 rfl rfl) ?_))
   refine st (p := pv) (off := 0) (k := 1) (vs := [iV 2, iV (-1)]) rfl rfl rfl (fun w => (tA27 w).2) rfl rfl rfl rfl ?_
   refine .KA [Box pt (tF t at_ ct at_2 ct2 at_3 ct3), Box pv [iV 2, iV (-1)]] ?_
   refine .nil (.seqN (.ret (.blkR (.seqR ?_))))
   refine .res1 rfl (rvC rfl tA27 (k := 1) rfl rfl) (fun w' S => ⟨(⟨2, (-1)⟩ : Fault), hF, rfl, S.below⟩)
  replace hF := hF.2 q38
  refine .skip (.blkN (.seqN (.seq (.seq (.region (.V (fa rfl tF25_3) ?_))))))
  refine .V (ld1 rfl tO23 (cellB (off := 3) (k := 0) rfl rfl)) ?_
  refine .V (ln rfl tS23.is) ?_
  refine .V mv0 ?_
  refine .nil (.seqN (.block ?_))
  obtain ⟨I1, μ1, q221, q222⟩ := hF
  refine .loop' (σ := Int) (fun z => I1 z) (fun z => μ1 z) (fun z => [(1, .pointer (some pt)), (2, .pointer (some pv)), (39, vSl at_3 t.ops ct3), (40, iV ((t.ops.length : Nat) : Int)), (41, iV z)]) (fun _ => [Box pt (tF t at_ ct at_2 ct2 at_3 ct3), Box pv [iV 0, iV 0]]) (fun _ => h) 0 q221 sb rfl (FH.le_refl _) ?_
  rintro t41 q221
  have hF := q222 t41 q221
  show J _ _ _ _ _ [(1, .pointer (some pt)), (2, .pointer (some pv)), (39, vSl at_3 t.ops ct3), (40, iV ((t.ops.length : Nat) : Int)), (41, iV t41)] [Box pt (tF t at_ ct at_2 ct2 at_3 ct3), Box pv [iV 0, iV 0]] h
  refine .seq (.region (.V bi0 ?_))
  refine .nil (.seqN (.seq ?_))
  refine .cond rfl (fun q225 => ?_) (fun q225 => ?_)
  ·replace hF := hF.1 q225
   refine .skip (.seqN (.seq (.block (.seq (.region (.V mv0 ?_))))))
   obtain ⟨q248, hF⟩ := hF
   refine .V (ix rfl rfl tS23 (_q5.ne (by decide) (inb_pos q248)) q248) ?_
   obtain ⟨_, ⟨a, c, a2, c2, a3, c3, rfl, ⟨q249, q250⟩, ⟨q251, q252⟩, q253, q254⟩, q255⟩ := _q5.elem q248
   refine .V (ldA (cs := [.slice a ((gt t.ops t41).pre.length) c, .slice a2 ((gt t.ops t41).add.length) c2, .slice a3 ((gt t.ops t41).del.length) c3, iV ((gt t.ops t41).cost)]) rfl tA114 rfl (cellsH (q255 (by decide)))) ?_
   refine al tZ114 rfl (fun po => ?_)
   refine .V ag0 ?_
   refine st (p := po) (off := 0) (k := 0) (vs := [.slice a ((gt t.ops t41).pre.length) c, .slice a2 ((gt t.ops t41).add.length) c2, .slice a3 ((gt t.ops t41).del.length) c3, iV ((gt t.ops t41).cost)]) rfl rfl rfl (fun w => (tA114 w).2) rfl rfl rfl rfl ?_
   refine .KA [Box po [.slice a ((gt t.ops t41).pre.length) c, .slice a2 ((gt t.ops t41).add.length) c2, .slice a3 ((gt t.ops t41).del.length) c3, iV ((gt t.ops t41).cost)], Box pt (tF t at_ ct at_2 ct2 at_3 ct3), Box pv [iV 0, iV 0]] ?_
   refine .nil (.seqN (.seq (.region (.V (ldA (cs := [.slice a ((gt t.ops t41).pre.length) c, .slice a2 ((gt t.ops t41).add.length) c2, .slice a3 ((gt t.ops t41).del.length) c3, iV ((gt t.ops t41).cost)]) rfl tA114 rfl (cellsB (off := 0) (k := 0) rfl (m := 4) rfl)) ?_))))
   refine .V (fa rfl tF25_0) ?_
   refine .V (ld1 rfl tO3 (cellB (off := 0) (k := 1) rfl rfl)) ?_
   obtain ⟨q256, hF⟩ := hF
   obtain ⟨r4, q257⟩ : ∃ y_ : Int, y_ = sp_operator (gt t.ops t41) t.facts := ⟨_, rfl⟩
   replace hF := hF r4 q257
   refine .C (cl (v := iV r4) Tryz.call65 rfl rfl (fun w S => (by rw [q257]; exact c_operator S.sub (gt t.ops t41) a c q250 q249 a2 c2 q252 q251 a3 c3 q254 q253 t.facts q256))) ?_
   refine .V ag0 ?_
   refine .nil (.seqN (.seq (.region (.V mv0 ?_))))
   refine .V bi0 ?_
   refine .nil (.seqN ?_)
   refine .cond rfl (fun q258 => ?_) (fun q258 => ?_)
   ·replace hF := hF.1 q258
    refine .seq (.region (.V mv0 ?_))
    refine .V mv0 ?_
    refine .V (bld (cs := #[iV r4, iV t41]) (pv := [(0, iV r4), (1, iV t41)]) tB27 rfl rfl) ?_
    refine st (p := pv) (off := 0) (k := 2) (vs := [iV r4, iV t41]) rfl rfl rfl (fun w => (tA27 w).2) rfl rfl rfl rfl ?_
    refine .KA [Box po [.slice a ((gt t.ops t41).pre.length) c, .slice a2 ((gt t.ops t41).add.length) c2, .slice a3 ((gt t.ops t41).del.length) c3, iV ((gt t.ops t41).cost)], Box pt (tF t at_ ct at_2 ct2 at_3 ct3), Box pv [iV r4, iV t41]] ?_
    refine .nil (.seqN (.ret (.blkR (.seqR (.seqR (.blkR (.seqR ?_)))))))
    refine .res1 rfl (rvC rfl tA27 (k := 2) rfl rfl) (fun w' S => ⟨(⟨r4, t41⟩ : Fault), hF, rfl, S.below⟩)
   replace hF := hF.2 q258
   refine .skip (.blkN (.seqN (.region (.V bi0 ?_))))
   refine .V mv0 ?_
   refine .nil ?_
   refine .sel0 [1, 2] (by decide) rfl ?_
   exact .RO (wr (t41 + 1)) hF.1 hF.2
  replace hF := hF.2 q225
  refine .exit (.seqX (.seqX (.blkX (.seqN (.seq (.region (.V (bld (cs := #[iV 0, iV 0]) (pv := []) tB27 rfl rfl) ?_)))))))
  refine st (p := pv) (off := 0) (k := 1) (vs := [iV 0, iV 0]) rfl rfl rfl (fun w => (tA27 w).2) rfl rfl rfl rfl ?_
  refine .KA [Box pt (tF t at_ ct at_2 ct2 at_3 ct3), Box pv [iV 0, iV 0]] ?_
  refine .nil (.seqN (.ret ?_))
  refine .res1 rfl (rvC rfl tA27 (k := 1) rfl rfl) (fun w' S => ⟨(⟨0, 0⟩ : Fault), hF, rfl, S.below⟩)
 refine .region (.V (fa rfl tF25_0) ?_)
 refine .V (ld1 rfl tO3 (cellB (off := 0) (k := 1) rfl rfl)) ?_
 refine .V bi0 ?_
 refine .V mv0 ?_
 rcases Bool.eq_false_or_eq_true (decide (t.facts < 0)) with q259 | q259
 ·replace hF := hF.1 q259
  refine .GS q259 ?_
  refine .GS q259 ?_
  refine .GS q259 ?_
  refine .V (pkT rfl q259 rfl) ?_
  refine .V ag0 ?_
  refine .nil ?_
  refine .sel0 [1, 0] (by decide) rfl ?_
  exact .US q30 true hF
 replace hF := hF.2 q259
 refine .GV (fa rfl tF25_0) q259 ?_
 refine .GV (ld1 rfl tO3 (cellB (off := 0) (k := 1) rfl rfl)) q259 ?_
 refine .GV bi0 q259 ?_
 refine .V (pkF rfl q259 rfl) ?_
 refine .V ag0 ?_
 refine .nil ?_
 refine .sel0 [1, 0] (by decide) rfl ?_
 exact .US q30 (decide (24 < t.facts)) hF
theorem c_validate {h : FH} {w : World} (hs : Sub h w) (t : Task) (at_ : Option Addr) (ct : Nat) (_q1 : RSl h at_ t.init) (_q2 : t.init.length ≤ ct) (at_2 : Option Addr) (ct2 : Nat) (_q3 : RSl h at_2 t.goal) (_q4 : t.goal.length ≤ ct2) (at_3 : Option Addr) (ct3 : Nat) (_q5 : RSl h at_3 t.ops) (_q6 : t.ops.length ≤ ct3) : Calls Tryz.prog 37 #[.agg #[iV t.facts, .slice at_ t.init.length ct, .slice at_2 t.goal.length ct2, .slice at_3 t.ops.length ct3]] w fun e w' => e = .returned (.agg #[iV (sp_validate t).code, iV (sp_validate t).index]) ∧ Below w.heap.size w w' :=
 (w_validate hs t at_ ct _q1 _q2 at_2 ct2 _q3 _q4 at_3 ct3 _q5 _q6 (fun r => r = sp_validate t) (ok_validate t)).mono fun _ _ ⟨_, hk, he, hb⟩ => ⟨by rw [he, hk], hb⟩
theorem w_steps {h : FH} {w : World} (hs : Sub h w) (operators : Int) (plan : List Int) (aplan : Option Addr) (cplan : Nat) (_q1 : RSl h aplan plan) (_q2 : plan.length ≤ cplan) (K : Fault → Prop) (hF : F_steps operators plan K) : Calls Tryz.prog 31 #[iV operators, .slice aplan plan.length cplan] w fun e w' => ∃ r : Fault, K r ∧ e = .returned (.agg #[iV r.code, iV r.index]) ∧ Below w.heap.size w w' := by
 refine enter (args := [iV operators, vSl aplan plan cplan]) Tryz.func31 rfl Tryz.ntmps31 rfl hs ?_
 refine .seq (.region ?_)
 refine al tZ27 rfl (fun pv => ?_)
 refine .nil (.seqN (.seq (.seq (.region (.V mv0 ?_)))))
 refine .V (ln rfl tS22.is) ?_
 refine .V bi0 ?_
 refine .nil (.seqN ?_)
 refine .cond rfl (fun q4 => ?_) (fun q4 => ?_)
 ·replace hF := hF.1 q4
  refine .seq (.region (.V (bld (cs := #[iV 2, iV (-5)]) (pv := [(0, iV 2), (1, iV (-5))]) tB27 rfl rfl) ?_))
  refine st (p := pv) (off := 0) (k := 0) (vs := [iV 2, iV (-5)]) rfl rfl rfl (fun w => (tA27 w).2) rfl rfl rfl rfl ?_
  refine .KA [Box pv [iV 2, iV (-5)]] ?_
  refine .nil (.seqN (.ret (.seqR ?_)))
  refine .res1 rfl (rvC rfl tA27 (k := 0) rfl rfl) (fun w' S => ⟨(⟨2, (-5)⟩ : Fault), hF, rfl, S.below⟩)
 replace hF := hF.2 q4
 refine .skip (.seqN (.seq (.seq (.region (.V mv0 ?_)))))
 refine .V (ln rfl tS22.is) ?_
 refine .V mv0 ?_
 refine .nil (.seqN (.block ?_))
 obtain ⟨I1, μ1, q97, q98⟩ := hF
 refine .loop' (σ := Int) (fun z => I1 z) (fun z => μ1 z) (fun z => [(0, iV operators), (4, .pointer (some pv)), (11, vSl aplan plan cplan), (12, iV ((plan.length : Nat) : Int)), (13, iV z)]) (fun _ => [Box pv [iV 0, iV 0]]) (fun _ => h) 0 q97 sb rfl (FH.le_refl _) ?_
 rintro t13 q97
 have hF := q98 t13 q97
 show J _ _ _ _ _ [(0, iV operators), (4, .pointer (some pv)), (11, vSl aplan plan cplan), (12, iV ((plan.length : Nat) : Int)), (13, iV t13)] [Box pv [iV 0, iV 0]] h
 refine .seq (.region (.V bi0 ?_))
 refine .nil (.seqN (.seq ?_))
 refine .cond rfl (fun q101 => ?_) (fun q101 => ?_)
 ·replace hF := hF.1 q101
  refine .skip (.seqN (.seq (.block (.seq (.region ?_)))))
  obtain ⟨q112, hF⟩ := hF
  refine .V (ix rfl rfl tS22 (_q1.ne (by decide) (inb_pos q112)) q112) ?_
  refine .V (ld1 (v := iV (gt plan t13)) rfl tO3 (cellH (_q1.elemF q112 (by decide) 0 _ rfl))) ?_
  refine .V ag0 ?_
  refine .nil (.seqN ?_)
  refine .share (σ := Bool) (fun z => F_steps_J1 K z t13 I1 μ1) (fun z => [(0, iV operators), (4, .pointer (some pv)), (11, vSl aplan plan cplan), (12, iV ((plan.length : Nat) : Int)), (13, iV t13), (23, .bool z)]) (fun _ => [Box pv [iV 0, iV 0]]) (fun _ => h) ?_ (fun q114 => ?_)
  ·rintro t23 hF
   show J _ _ _ _ _ [(0, iV operators), (4, .pointer (some pv)), (11, vSl aplan plan cplan), (12, iV ((plan.length : Nat) : Int)), (13, iV t13), (23, .bool t23)] [Box pv [iV 0, iV 0]] h
   refine .cond rfl (fun q115 => ?_) (fun q115 => ?_)
   ·replace hF := hF.1 q115
    refine .seq (.region (.V (bld (cs := #[iV 3, iV (-6)]) (pv := [(0, iV 3), (1, iV (-6))]) tB27 rfl rfl) ?_))
    refine st (p := pv) (off := 0) (k := 0) (vs := [iV 3, iV (-6)]) rfl rfl rfl (fun w => (tA27 w).2) rfl rfl rfl rfl ?_
    refine .KA [Box pv [iV 3, iV (-6)]] ?_
    refine .nil (.seqN (.ret (.blkR (.seqR (.seqR (.blkR (.seqR ?_)))))))
    refine .res1 rfl (rvC rfl tA27 (k := 0) rfl rfl) (fun w' S => ⟨(⟨3, (-6)⟩ : Fault), hF, rfl, S.below⟩)
   replace hF := hF.2 q115
   refine .skip (.blkN (.seqN (.region (.V bi0 ?_))))
   refine .V mv0 ?_
   refine .nil ?_
   exact .RO (wr (t13 + 1)) hF.1 hF.2
  refine .region (.V mv0 ?_)
  refine .V bi0 ?_
  refine .V mv0 ?_
  rcases Bool.eq_false_or_eq_true (decide ((gt plan t13) < 0)) with q116 | q116
  ·replace hF := hF.1 q116
   refine .GS q116 ?_
   refine .GS q116 ?_
   refine .GS q116 ?_
   refine .V (pkT rfl q116 rfl) ?_
   refine .nil ?_
   exact .US q114 true hF
  replace hF := hF.2 q116
  refine .GV mv0 q116 ?_
  refine .GV mv0 q116 ?_
  refine .GV bi0 q116 ?_
  refine .V (pkF rfl q116 rfl) ?_
  refine .nil ?_
  exact .US q114 (decide (operators ≤ (gt plan t13))) hF
 replace hF := hF.2 q101
 refine .exit (.seqX (.seqX (.blkX (.seqN (.seq (.region (.V (bld (cs := #[iV 0, iV 0]) (pv := []) tB27 rfl rfl) ?_)))))))
 refine st (p := pv) (off := 0) (k := 0) (vs := [iV 0, iV 0]) rfl rfl rfl (fun w => (tA27 w).2) rfl rfl rfl rfl ?_
 refine .KA [Box pv [iV 0, iV 0]] ?_
 refine .nil (.seqN (.ret ?_))
 refine .res1 rfl (rvC rfl tA27 (k := 0) rfl rfl) (fun w' S => ⟨(⟨0, 0⟩ : Fault), hF, rfl, S.below⟩)
theorem c_steps {h : FH} {w : World} (hs : Sub h w) (operators : Int) (plan : List Int) (aplan : Option Addr) (cplan : Nat) (_q1 : RSl h aplan plan) (_q2 : plan.length ≤ cplan) (hp : pre_steps operators plan) : Calls Tryz.prog 31 #[iV operators, .slice aplan plan.length cplan] w fun e w' => e = .returned (.agg #[iV (sp_steps operators plan).code, iV (sp_steps operators plan).index]) ∧ Below w.heap.size w w' :=
 (w_steps hs operators plan aplan cplan _q1 _q2 (fun r => r = sp_steps operators plan) (ok_steps operators plan hp)).mono fun _ _ ⟨_, hk, he, hb⟩ => ⟨by rw [he, hk], hb⟩
theorem w_planFault {h : FH} {w : World} (hs : Sub h w) (t : Task) (at_ : Option Addr) (ct : Nat) (_q1 : RSl h at_ t.init) (_q2 : t.init.length ≤ ct) (at_2 : Option Addr) (ct2 : Nat) (_q3 : RSl h at_2 t.goal) (_q4 : t.goal.length ≤ ct2) (at_3 : Option Addr) (ct3 : Nat) (_q5 : RSl h at_3 t.ops) (_q6 : t.ops.length ≤ ct3) (plan : List Int) (aplan : Option Addr) (cplan : Nat) (_q7 : RSl h aplan plan) (_q8 : plan.length ≤ cplan) (K : Fault → Prop) (hF : F_planFault t plan K) : Calls Tryz.prog 28 #[.agg #[iV t.facts, .slice at_ t.init.length ct, .slice at_2 t.goal.length ct2, .slice at_3 t.ops.length ct3], .slice aplan plan.length cplan] w fun e w' => ∃ r : Fault, K r ∧ e = .returned (.agg #[iV r.code, iV r.index]) ∧ Below w.heap.size w w' := by
 refine enter (args := [.agg (tF t at_ ct at_2 ct2 at_3 ct3).toArray, vSl aplan plan cplan]) Tryz.func28 rfl Tryz.ntmps28 rfl hs ?_
 refine .seq (.region ?_)
 refine bx (vs := (tF t at_ ct at_2 ct2 at_3 ct3)) rfl rfl rfl (fun pt => ?_)
 refine al tZ27 rfl (fun pv => ?_)
 refine .nil (.seqN (.seq (.seq (.region (.V (ldA (cs := (tF t at_ ct at_2 ct2 at_3 ct3)) rfl tA25 rfl (cellsB (off := 0) (k := 1) rfl (m := 4) rfl)) ?_)))))
 obtain ⟨r2, q9⟩ : ∃ y_ : Fault, y_ = sp_validate t := ⟨_, rfl⟩
 replace hF := hF r2 q9
 refine .C (cl (v := .agg #[iV r2.code, iV r2.index]) Tryz.call37 rfl rfl (fun w S => (by rw [q9]; exact c_validate S.sub t at_ ct _q1 _q2 at_2 ct2 _q3 _q4 at_3 ct3 _q5 _q6 ))) ?_
 refine al tZ27 rfl (fun pf => ?_)
 refine st (p := pf) (off := 0) (k := 0) (vs := [iV r2.code, iV r2.index]) rfl rfl rfl (fun w => (tA27 w).2) rfl rfl rfl rfl ?_
 refine .KA [Box pf [iV r2.code, iV r2.index], Box pv [iV 0, iV 0], Box pt (tF t at_ ct at_2 ct2 at_3 ct3)] ?_
 refine .nil (.seqN (.seq (.region (.V (ldA (cs := [iV r2.code, iV r2.index]) rfl tA27 rfl (cellsB (off := 0) (k := 0) rfl (m := 2) rfl)) ?_))))
 refine .V (bld (cs := #[iV 0, iV 0]) (pv := []) tB27 rfl rfl) ?_
 refine .V (ne2 tE27 rfl rfl) ?_
 refine .nil (.seqN ?_)
 refine .cond rfl (fun q11 => ?_) (fun q11 => ?_)
 ·replace hF := hF.1 q11
  refine .seq (.region (.V (ldA (cs := [iV r2.code, iV r2.index]) rfl tA27 rfl (cellsB (off := 0) (k := 0) rfl (m := 2) rfl)) ?_))
  refine st (p := pv) (off := 0) (k := 1) (vs := [iV r2.code, iV r2.index]) rfl rfl rfl (fun w => (tA27 w).2) rfl rfl rfl rfl ?_
  refine .KA [Box pf [iV r2.code, iV r2.index], Box pv [iV r2.code, iV r2.index], Box pt (tF t at_ ct at_2 ct2 at_3 ct3)] ?_
  refine .nil (.seqN (.ret (.seqR ?_)))
  refine .res1 rfl (rvC rfl tA27 (k := 1) rfl rfl) (fun w' S => ⟨r2, hF, rfl, S.below⟩)
 replace hF := hF.2 q11
 refine .skip (.seqN (.seq (.region (.V (fa rfl tF25_3) ?_))))
 refine .V (ld1 rfl tO23 (cellB (off := 3) (k := 2) rfl rfl)) ?_
 refine .V (ln rfl tS23.is) ?_
 refine .V mv0 ?_
 obtain ⟨q12, hF⟩ := hF
 obtain ⟨r3, q13⟩ : ∃ y_ : Fault, y_ = sp_steps ((t.ops.length : Nat) : Int) plan := ⟨_, rfl⟩
 replace hF := hF r3 q13
 refine .C (cl (v := .agg #[iV r3.code, iV r3.index]) Tryz.call31 rfl rfl (fun w S => (by rw [q13]; exact c_steps S.sub ((t.ops.length : Nat) : Int) plan aplan cplan _q7 _q8 q12))) ?_
 refine st (p := pv) (off := 0) (k := 1) (vs := [iV r3.code, iV r3.index]) rfl rfl rfl (fun w => (tA27 w).2) rfl rfl rfl rfl ?_
 refine .KA [Box pf [iV r2.code, iV r2.index], Box pv [iV r3.code, iV r3.index], Box pt (tF t at_ ct at_2 ct2 at_3 ct3)] ?_
 refine .nil (.seqN (.ret ?_))
 refine .res1 rfl (rvC rfl tA27 (k := 1) rfl rfl) (fun w' S => ⟨r3, hF, rfl, S.below⟩)
theorem c_planFault {h : FH} {w : World} (hs : Sub h w) (t : Task) (at_ : Option Addr) (ct : Nat) (_q1 : RSl h at_ t.init) (_q2 : t.init.length ≤ ct) (at_2 : Option Addr) (ct2 : Nat) (_q3 : RSl h at_2 t.goal) (_q4 : t.goal.length ≤ ct2) (at_3 : Option Addr) (ct3 : Nat) (_q5 : RSl h at_3 t.ops) (_q6 : t.ops.length ≤ ct3) (plan : List Int) (aplan : Option Addr) (cplan : Nat) (_q7 : RSl h aplan plan) (_q8 : plan.length ≤ cplan) : Calls Tryz.prog 28 #[.agg #[iV t.facts, .slice at_ t.init.length ct, .slice at_2 t.goal.length ct2, .slice at_3 t.ops.length ct3], .slice aplan plan.length cplan] w fun e w' => e = .returned (.agg #[iV (sp_planFault t plan).code, iV (sp_planFault t plan).index]) ∧ Below w.heap.size w w' :=
 (w_planFault hs t at_ ct _q1 _q2 at_2 ct2 _q3 _q4 at_3 ct3 _q5 _q6 plan aplan cplan _q7 _q8 (fun r => r = sp_planFault t plan) (ok_planFault t plan)).mono fun _ _ ⟨_, hk, he, hb⟩ => ⟨by rw [he, hk], hb⟩
theorem w_clone {h : FH} {w : World} (hs : Sub h w) (s_ : List Int) (as_ : Option Addr) (cs_ : Nat) (_q1 : RSl h as_ s_) (_q2 : s_.length ≤ cs_) (K : (List Int) → Prop) (hF : F_clone s_ K) : Calls Tryz.prog 57 #[.slice as_ s_.length cs_] w fun e w' => ∃ (r : List Int) (z : Option Addr × Nat) (h1 : FH), K r ∧ e = .returned (.slice z.1 r.length z.2) ∧ FH.le h h1 ∧ (RSl h1 z.1 r ∧ r.length ≤ z.2) ∧ SH (Kp.all w h) h1 w' [] := by
 refine enter (args := [vSl as_ s_ cs_]) Tryz.func57 rfl Tryz.ntmps57 rfl hs ?_
 refine .seq (.region (.V ag0 ?_))
 refine .nil (.seqN (.seq (.seq (.region (.V mv0 ?_)))))
 refine .V (eqnil tS22.is rfl rfl) ?_
 refine .nil (.seqN ?_)
 refine .cond rfl (fun q4 => ?_) (fun _ => ?_)
 ·replace hF := hF.1 (RSl.nil_of _q1 (by decide) q4)
  refine .seq (.region (.V ag0 ?_))
  refine .nil (.seqN (.ret (.seqR ?_)))
  refine .res1 rfl (rvT rfl) (fun w' S => ⟨([] : List Int), (none, 0), h, hF, rfl, (FH.le_refl _), ⟨RSl.nil_, (Nat.le_refl 0)⟩, S.none⟩)
 replace hF := hF.2
 refine .skip (.seqN (.seq (.region ?_)))
 refine bs2 (cs := #[]) (pv := []) tS22 rfl rfl (by decide) (by decide) rfl rfl rfl (fun a _ => ?_)
 refine .KA [oL 3 1 a ([] : List Int) 0] ?_
 refine .V mv0 ?_
 obtain ⟨q6, hF⟩ := hF
 have q7 : ([] : List Int).length + s_.length = ((([] : List Int) ++ s_)).length := len_app rfl rfl
 refine app (k := 0) (news := flL s_) (cs' := flL (([] : List Int) ++ s_)) (nm := ((([] : List Int) ++ s_)).length) tS22 rfl (by decide) rfl rfl rfl ((flL_len _).trans rfl) (srcH (fun q => _q1.ne (by decide) q) (_q1.raw)) (flL_one _) (room_of q7 q6).1 (room_of q7 q6).2 q7 (flL_append _ _).symm rfl (fun a2 c => ?_)
 refine .KA [oL 3 1 a2 (([] : List Int) ++ s_) c] ?_
 refine .V ag0 ?_
 refine .nil (.seqN ?_)
 refine .freezeL (k := 0) rfl (fun h1 le1 q9 q8 => ?_)
 refine .KA [tru] ?_
 refine .ret ?_
 refine .res1 rfl (rvT rfl) (fun w' S => ⟨(([] : List Int) ++ s_), (a2, c), h1, hF, rfl, (le1), ⟨(RSl.of q8), (q9)⟩, S.none⟩)
theorem c_clone {h : FH} {w : World} (hs : Sub h w) (s_ : List Int) (as_ : Option Addr) (cs_ : Nat) (_q1 : RSl h as_ s_) (_q2 : s_.length ≤ cs_) (hp : pre_clone s_) : Calls Tryz.prog 57 #[.slice as_ s_.length cs_] w fun e w' => ∃ (z : Option Addr × Nat) (h1 : FH), e = .returned (.slice z.1 (sp_clone s_).length z.2) ∧ FH.le h h1 ∧ (RSl h1 z.1 (sp_clone s_) ∧ (sp_clone s_).length ≤ z.2) ∧ SH (Kp.all w h) h1 w' [] :=
 (w_clone hs s_ as_ cs_ _q1 _q2 (fun r => r = sp_clone s_) (ok_clone s_ hp)).mono fun _ _ ⟨r, z, h1, hk, he, hl, hf, hS⟩ => by subst hk; exact ⟨z, h1, he, hl, hf, hS⟩
theorem w_cloneO {h : FH} {w : World} (hs : Sub h w) (s_ : List Int) (as_ : Option Addr) (cs_ : Nat) (_q1 : RSl h as_ s_) (_q2 : s_.length ≤ cs_) (K : (List Int) → Prop) (hF : F_cloneO s_ K) : Calls Tryz.prog 57 #[.slice as_ s_.length cs_] w fun e w' => ∃ (r : List Int) (z : Option Addr × Nat) (h1 : FH), K r ∧ e = .returned (.slice z.1 r.length z.2) ∧ FH.le h h1 ∧ True ∧ SH (Kp.all w h) h1 w' [OwnSl 3 1 z.1 r.length z.2 (flL r)] := by
 refine enter (args := [vSl as_ s_ cs_]) Tryz.func57 rfl Tryz.ntmps57 rfl hs ?_
 refine .seq (.region (.V ag0 ?_))
 refine .nil (.seqN (.seq (.seq (.region (.V mv0 ?_)))))
 refine .V (eqnil tS22.is rfl rfl) ?_
 refine .nil (.seqN ?_)
 refine .cond rfl (fun q4 => ?_) (fun _ => ?_)
 ·replace hF := hF.1 (RSl.nil_of _q1 (by decide) q4)
  refine .seq (.region (.V ag0 ?_))
  refine .nil (.seqN ?_)
  refine .nilSl 3 1 ?_
  refine .KA [oL 3 1 none ([] : List Int) 0] ?_
  refine .ret (.seqR ?_)
  refine .res1 rfl (rvT rfl) (fun w' S => ⟨([] : List Int), (none, 0), h, hF, rfl, (FH.le_refl _), trivial, S.pick (k := 0) rfl⟩)
 replace hF := hF.2
 refine .skip (.seqN (.seq (.region ?_)))
 refine bs2 (cs := #[]) (pv := []) tS22 rfl rfl (by decide) (by decide) rfl rfl rfl (fun a _ => ?_)
 refine .KA [oL 3 1 a ([] : List Int) 0] ?_
 refine .V mv0 ?_
 obtain ⟨q6, hF⟩ := hF
 have q7 : ([] : List Int).length + s_.length = ((([] : List Int) ++ s_)).length := len_app rfl rfl
 refine app (k := 0) (news := flL s_) (cs' := flL (([] : List Int) ++ s_)) (nm := ((([] : List Int) ++ s_)).length) tS22 rfl (by decide) rfl rfl rfl ((flL_len _).trans rfl) (srcH (fun q => _q1.ne (by decide) q) (_q1.raw)) (flL_one _) (room_of q7 q6).1 (room_of q7 q6).2 q7 (flL_append _ _).symm rfl (fun a2 c => ?_)
 refine .KA [oL 3 1 a2 (([] : List Int) ++ s_) c] ?_
 refine .V ag0 ?_
 refine .nil (.seqN (.ret ?_))
 refine .res1 rfl (rvT rfl) (fun w' S => ⟨(([] : List Int) ++ s_), (a2, c), h, hF, rfl, (FH.le_refl _), trivial, S.pick (k := 0) rfl⟩)
theorem c_cloneO {h : FH} {w : World} (hs : Sub h w) (s_ : List Int) (as_ : Option Addr) (cs_ : Nat) (_q1 : RSl h as_ s_) (_q2 : s_.length ≤ cs_) (hp : pre_clone s_) : Calls Tryz.prog 57 #[.slice as_ s_.length cs_] w fun e w' => ∃ (z : Option Addr × Nat) (h0 h1 : FH), e = .returned (.slice z.1 (sp_clone s_).length z.2) ∧ (True) ∧ FH.le h h1 ∧ SH (Kp.all w h0) h1 w' [OwnSl 3 1 z.1 (sp_clone s_).length z.2 (flL (sp_clone s_))] :=
 (w_cloneO hs s_ as_ cs_ _q1 _q2 (fun r => r = sp_clone s_) (ok_cloneO s_ hp)).mono fun _ _ ⟨r, z, h1, hk, he, hl, hψ, hS⟩ => by subst hk; exact ⟨z, h, h1, he, hψ, hl, hS⟩
theorem w_update {h : FH} {w : World} (hs : Sub h w) (s_ : List Int) (as_ : Option Addr) (cs_ : Nat) (_q1 : RSl h as_ s_) (_q2 : s_.length ≤ cs_) (add : List Int) (aadd : Option Addr) (cadd : Nat) (_q3 : RSl h aadd add) (_q4 : add.length ≤ cadd) (del : List Int) (adel : Option Addr) (cdel : Nat) (_q5 : RSl h adel del) (_q6 : del.length ≤ cdel) (K : (List Int) → Prop) (hF : F_update s_ add del K) : Calls Tryz.prog 35 #[.slice as_ s_.length cs_, .slice aadd add.length cadd, .slice adel del.length cdel] w fun e w' => ∃ (r : List Int) (z : Option Addr × Nat) (h1 : FH), K r ∧ e = .returned (.slice z.1 r.length z.2) ∧ FH.le h h1 ∧ True ∧ SH (Kp.all w h) h1 w' [OwnSl 3 1 z.1 r.length z.2 (flL r)] := by
 refine enter (args := [vSl as_ s_ cs_, vSl aadd add cadd, vSl adel del cdel]) Tryz.func35 rfl Tryz.ntmps35 rfl hs ?_
 refine .seq (.region (.V ag0 ?_))
 refine .nil (.seqN (.seq (.region (.V ag0 ?_))))
 refine .nil (.seqN (.seq (.seq (.region (.V mv0 ?_)))))
 refine .V (ln rfl tS22.is) ?_
 refine .V mv0 ?_
 refine .nil (.seqN (.block ?_))
 refine .nilSl 3 1 ?_
 refine .KA [oL 3 1 none ([] : List Int) 0] ?_
 obtain ⟨I1, μ1, q99, q100⟩ := hF
 refine .loop' (σ := Int × List Int × Option Addr × Nat) (fun z => I1 z.1 z.2.1) (fun z => μ1 z.1 z.2.1) (fun z => [(1, vSl aadd add cadd), (2, vSl adel del cdel), (7, vSl z.2.2.1 z.2.1 z.2.2.2), (12, vSl as_ s_ cs_), (13, iV ((s_.length : Nat) : Int)), (14, iV z.1)]) (fun z => [oL 3 1 z.2.2.1 z.2.1 z.2.2.2]) (fun _ => h) (0, ([] : List Int), none, 0) q99 sb rfl (FH.le_refl _) ?_
 rintro ⟨t14, out, aout, cout⟩ q99
 have hF := q100 t14 out q99
 show J _ _ _ _ _ [(1, vSl aadd add cadd), (2, vSl adel del cdel), (7, vSl aout out cout), (12, vSl as_ s_ cs_), (13, iV ((s_.length : Nat) : Int)), (14, iV t14)] [oL 3 1 aout out cout] h
 refine .seq (.region (.V bi0 ?_))
 refine .nil (.seqN (.seq ?_))
 refine .cond rfl (fun q103 => ?_) (fun q103 => ?_)
 ·replace hF := hF.1 q103
  refine .skip (.seqN ?_)
  refine .share (σ := List Int × Option Addr × Nat) (fun z => F_update_J1 out t14 I1 μ1 z.1) (fun z => [(1, vSl aadd add cadd), (2, vSl adel del cdel), (7, vSl z.2.1 z.1 z.2.2), (12, vSl as_ s_ cs_), (13, iV ((s_.length : Nat) : Int)), (14, iV t14)]) (fun z => [oL 3 1 z.2.1 z.1 z.2.2]) (fun _ => h) ?_ (fun q111 => ?_)
  ·rintro ⟨out3, aout3, cout3⟩ hF
   show J _ _ _ _ _ [(1, vSl aadd add cadd), (2, vSl adel del cdel), (7, vSl aout3 out3 cout3), (12, vSl as_ s_ cs_), (13, iV ((s_.length : Nat) : Int)), (14, iV t14)] [oL 3 1 aout3 out3 cout3] h
   refine .region (.V bi0 ?_)
   refine .V mv0 ?_
   refine .nil ?_
   exact .RO (wr (t14 + 1), out3, aout3, cout3) hF.1 hF.2
  refine .block (.seq (.region ?_))
  obtain ⟨q112, hF⟩ := hF
  refine .V (ix rfl rfl tS22 (_q1.ne (by decide) (inb_pos q112)) q112) ?_
  refine .V (ld1 (v := iV (gt s_ t14)) rfl tO3 (cellH (_q1.elemF q112 (by decide) 0 _ rfl))) ?_
  refine .V ag0 ?_
  refine .nil (.seqN (.seq (.region (.V mv0 ?_))))
  refine .V mv0 ?_
  obtain ⟨q113, hF⟩ := hF
  obtain ⟨r2, q114⟩ : ∃ y_ : Int × Bool, y_ = sp_bsearch del (gt s_ t14) := ⟨_, rfl⟩
  replace hF := hF r2 q114
  refine .C (cl (v := .tuple #[iV r2.1, .bool r2.2]) Tryz.call62 rfl rfl (fun w S => (by rw [q114]; exact c_bsearch S.sub del adel cdel _q5 _q6 (gt s_ t14) q113))) ?_
  refine .V mv0 ?_
  refine .V (ext rfl rfl) ?_
  refine .V (ext rfl rfl) ?_
  refine .V ag0 ?_
  refine .V ag0 ?_
  refine .nil (.seqN (.seq (.region (.V mv0 ?_))))
  refine .V (nt rfl) ?_
  refine .nil (.seqN ?_)
  refine .cond rfl (fun q115 => ?_) (fun q115 => ?_)
  ·replace hF := hF.1 q115
   refine .region (.V mv0 ?_)
   refine .V mv0 ?_
   refine bs2 (cs := #[iV (gt s_ t14)]) (pv := [(0, iV (gt s_ t14))]) tS22 rfl rfl (by decide) (by decide) rfl rfl rfl (fun a _ => ?_)
   refine .KA [oL 3 1 a ([(gt s_ t14)] : List Int) 1, oL 3 1 aout out cout] ?_
   obtain ⟨q117, hF⟩ := hF
   have q118 : out.length + ([(gt s_ t14)] : List Int).length = ((out ++ ([(gt s_ t14)] : List Int))).length := len_app rfl rfl
   refine app (k := 1) (news := flL ([(gt s_ t14)] : List Int)) (cs' := flL (out ++ ([(gt s_ t14)] : List Int))) (nm := ((out ++ ([(gt s_ t14)] : List Int))).length) tS22 rfl (by decide) rfl rfl rfl ((flL_len _).trans rfl) (srcS (k := 0) rfl) (flL_one _) (room_of q118 q117).1 (room_of q118 q117).2 q118 (flL_append _ _).symm rfl (fun a2 c => ?_)
   refine .KA [oL 3 1 a ([(gt s_ t14)] : List Int) 1, oL 3 1 a2 (out ++ ([(gt s_ t14)] : List Int)) c] ?_
   refine .V ag0 ?_
   refine .nil (.blkN ?_)
   refine .sel0 [1] (by decide) rfl ?_
   exact .US q111 ((out ++ ([(gt s_ t14)] : List Int)), a2, c) hF
  replace hF := hF.2 q115
  refine .skip (.blkN ?_)
  exact .US q111 (out, aout, cout) hF
 replace hF := hF.2 q103
 refine .exit (.seqX (.seqX (.blkX (.seqN (.seq (.region (.V mv0 ?_)))))))
 refine .V mv0 ?_
 obtain ⟨q119, hF⟩ := hF
 have q120 : out.length + add.length = ((out ++ add)).length := len_app rfl rfl
 refine app (k := 0) (news := flL add) (cs' := flL (out ++ add)) (nm := ((out ++ add)).length) tS22 rfl (by decide) rfl rfl rfl ((flL_len _).trans rfl) (srcH (fun q => _q3.ne (by decide) q) (_q3.raw)) (flL_one _) (room_of q120 q119).1 (room_of q120 q119).2 q120 (flL_append _ _).symm rfl (fun a3 c2 => ?_)
 refine .KA [oL 3 1 a3 (out ++ add) c2] ?_
 refine .V ag0 ?_
 refine .nil (.seqN (.seq (.region (.V mv0 ?_))))
 obtain ⟨q121, hF⟩ := hF
 obtain ⟨r3, q122⟩ : ∃ y_ : List Int, y_ = sp_sort (out ++ add) := ⟨_, rfl⟩
 replace hF := hF r3 q122
 refine callX (k := 0) (v := .tuple #[]) (X' := OwnSl 3 1 a3 ((out ++ add).length) c2 (flL r3)) rfl Tryz.call63 rfl rfl (fun w g hx sg hd hs' => ?_) rfl ?_
 ·rw [q122]; exact c_sort hs' (out ++ add) a3 c2 hx sg hd q121
 have q123 : r3.length = (out ++ add).length := by rw [q122]; exact (sort_len (out ++ add)).trans rfl
 refine .KA [OwnSl 3 1 a3 ((out ++ add).length) c2 (flL r3)] ?_
 refine .nil (.seqN (.seq (.region (.V mv0 ?_))))
 obtain ⟨q124, hF⟩ := hF
 obtain ⟨r4, q125⟩ : ∃ y_ : List Int, y_ = sp_compact r3 := ⟨_, rfl⟩
 replace hF := hF r4 q125
 refine callX (k := 0) (v := vSl a3 r4 c2) (X' := oL 3 1 a3 r4 c2) rfl Tryz.call64 rfl rfl (fun w g hx sg hd hs' => ?_) rfl ?_
 ·rw [q125]; have hc_ := c_compact hs' r3 a3 c2 (own_n (q123).symm hx) sg hd q124; rw [q123] at hc_; exact hc_
 refine .KA [oL 3 1 a3 r4 c2] ?_
 refine .V ag0 ?_
 refine .nil (.seqN (.ret ?_))
 refine .res1 rfl (rvT rfl) (fun w' S => ⟨r4, (a3, c2), h, hF, rfl, (FH.le_refl _), trivial, S.pick (k := 0) rfl⟩)
theorem c_update {h : FH} {w : World} (hs : Sub h w) (s_ : List Int) (as_ : Option Addr) (cs_ : Nat) (_q1 : RSl h as_ s_) (_q2 : s_.length ≤ cs_) (add : List Int) (aadd : Option Addr) (cadd : Nat) (_q3 : RSl h aadd add) (_q4 : add.length ≤ cadd) (del : List Int) (adel : Option Addr) (cdel : Nat) (_q5 : RSl h adel del) (_q6 : del.length ≤ cdel) (hp : pre_update s_ add del) : Calls Tryz.prog 35 #[.slice as_ s_.length cs_, .slice aadd add.length cadd, .slice adel del.length cdel] w fun e w' => ∃ (z : Option Addr × Nat) (h0 h1 : FH), e = .returned (.slice z.1 (sp_update s_ add del).length z.2) ∧ (True) ∧ FH.le h h1 ∧ SH (Kp.all w h0) h1 w' [OwnSl 3 1 z.1 (sp_update s_ add del).length z.2 (flL (sp_update s_ add del))] :=
 (w_update hs s_ as_ cs_ _q1 _q2 add aadd cadd _q3 _q4 del adel cdel _q5 _q6 (fun r => r = sp_update s_ add del) (ok_update s_ add del hp)).mono fun _ _ ⟨r, z, h1, hk, he, hl, hψ, hS⟩ => by subst hk; exact ⟨z, h, h1, he, hψ, hl, hS⟩
set_option maxHeartbeats 8000000 in
theorem w_contains2 {h : FH} {w : World} (hs : Sub h w) (s_ : List Int) (as_ : Option Addr) (cs_ : Nat) (_q1 : RSl h as_ s_) (_q2 : s_.length ≤ cs_) (part : List Int) (apart : Option Addr) (cpart : Nat) (_q3 : RSl h apart part) (_q4 : part.length ≤ cpart) (K : Bool → Prop) (hF : F_contains2 s_ part K) : Calls Tryz.prog 36 #[.slice as_ s_.length cs_, .slice apart part.length cpart] w fun e w' => ∃ r : Bool, K r ∧ e = .returned (.bool r) ∧ Below w.heap.size w w' := by
 refine enter (args := [vSl as_ s_ cs_, vSl apart part cpart]) Tryz.func36 rfl Tryz.ntmps36 rfl hs ?_
 refine .seq (.region (.V ag0 ?_))
 refine .nil (.seqN (.seq (.region (.V ag0 ?_))))
 refine .nil (.seqN (.seq (.seq (.region (.V mv0 ?_)))))
 refine .V (ln rfl tS22.is) ?_
 refine .V mv0 ?_
 refine .nil (.seqN (.block ?_))
 obtain ⟨I1, μ1, q1162, q1163⟩ := hF
 refine .loop' (σ := Int × Int) (fun z => I1 z.1 z.2) (fun z => μ1 z.1 z.2) (fun z => [(0, vSl as_ s_ cs_), (5, iV z.1), (8, vSl apart part cpart), (9, iV ((part.length : Nat) : Int)), (10, iV z.2)]) (fun _ => []) (fun _ => h) (0, 0) q1162 sb rfl (FH.le_refl _) ?_
 rintro ⟨i, t10⟩ q1162
 have hF := q1163 i t10 q1162
 show J _ _ _ _ _ [(0, vSl as_ s_ cs_), (5, iV i), (8, vSl apart part cpart), (9, iV ((part.length : Nat) : Int)), (10, iV t10)] [] h
 refine .seq (.region (.V bi0 ?_))
 refine .nil (.seqN (.seq ?_))
 refine .cond rfl (fun q1166 => ?_) (fun q1166 => ?_)
 ·replace hF := hF.1 q1166
  refine .skip (.seqN (.seq (.block (.seq (.region ?_)))))
  obtain ⟨q1319, hF⟩ := hF
  refine .V (ix rfl rfl tS22 (_q3.ne (by decide) (inb_pos q1319)) q1319) ?_
  refine .V (ld1 (v := iV (gt part t10)) rfl tO3 (cellH (_q3.elemF q1319 (by decide) 0 _ rfl))) ?_
  refine .V ag0 ?_
  refine .nil (.seqN (.seq (.block ?_)))
  obtain ⟨I2, μ2, q1380, q1381⟩ := hF
  refine .loop' (σ := Int) (fun z => I2 z) (fun z => μ2 z) (fun z => [(0, vSl as_ s_ cs_), (5, iV z), (7, iV (gt part t10)), (8, vSl apart part cpart), (9, iV ((part.length : Nat) : Int)), (10, iV t10)]) (fun _ => []) (fun _ => h) i q1380 sb rfl (FH.le_refl _) ?_
  rintro i3 q1380
  have hF := q1381 i3 q1380
  show J _ _ _ _ _ [(0, vSl as_ s_ cs_), (5, iV i3), (7, iV (gt part t10)), (8, vSl apart part cpart), (9, iV ((part.length : Nat) : Int)), (10, iV t10)] [] h
  refine .seq ?_
  refine .share (σ := Bool) (fun z => F_contains2_J1 s_ part K z i I2 μ2 t10 i3 I1 μ1) (fun z => [(0, vSl as_ s_ cs_), (5, iV i3), (7, iV (gt part t10)), (8, vSl apart part cpart), (9, iV ((part.length : Nat) : Int)), (10, iV t10), (25, .bool z)]) (fun _ => []) (fun _ => h) ?_ (fun q1384 => ?_)
  ·rintro t25 hF
   show J _ _ _ _ _ [(0, vSl as_ s_ cs_), (5, iV i3), (7, iV (gt part t10)), (8, vSl apart part cpart), (9, iV ((part.length : Nat) : Int)), (10, iV t10), (25, .bool t25)] [] h
   refine .cond rfl (fun q1386 => ?_) (fun q1386 => ?_)
   ·replace hF := hF.1 q1386
    refine .skip (.seqN (.block (.region (.V mv0 ?_))))
    refine .V bi0 ?_
    refine .V ag0 ?_
    refine .nil (.blkN ?_)
    exact .RO (wr (i3 + 1)) hF.1 hF.2
   replace hF := hF.2 q1386
   refine .exit (.seqX (.seqX (.blkX (.seqN ?_))))
   refine .share (σ := Bool) (fun z => F_contains2_J2 K i z t10 i3 I1 μ1) (fun z => [(0, vSl as_ s_ cs_), (5, iV i3), (8, vSl apart part cpart), (9, iV ((part.length : Nat) : Int)), (10, iV t10), (39, .bool z)]) (fun _ => []) (fun _ => h) ?_ (fun q1389 => ?_)
   ·rintro t39 hF
    show J _ _ _ _ _ [(0, vSl as_ s_ cs_), (5, iV i3), (8, vSl apart part cpart), (9, iV ((part.length : Nat) : Int)), (10, iV t10), (39, .bool t39)] [] h
    refine .cond rfl (fun q1390 => ?_) (fun q1390 => ?_)
    ·replace hF := hF.1 q1390
     refine .seq (.region (.V ag0 ?_))
     refine .nil (.seqN (.ret (.blkR (.seqR (.seqR (.blkR (.seqR ?_)))))))
     refine .res1 rfl (rvT rfl) (fun w' S => ⟨false, hF, rfl, S.below⟩)
    replace hF := hF.2 q1390
    refine .skip (.blkN (.seqN (.region (.V bi0 ?_))))
    refine .V mv0 ?_
    refine .nil ?_
    exact .RO (i3, wr (t10 + 1)) hF.1 hF.2
   refine .region (.V mv0 ?_)
   refine .V mv0 ?_
   refine .V (ln rfl tS22.is) ?_
   refine .V bi0 ?_
   refine .V mv0 ?_
   rcases Bool.eq_false_or_eq_true (i3 == ((s_.length : Nat) : Int)) with q1391 | q1391
   ·replace hF := hF.1 q1391
    refine .GS q1391 ?_
    refine .GS q1391 ?_
    refine .GS q1391 ?_
    refine .GS q1391 ?_
    refine .GS q1391 ?_
    refine .GS q1391 ?_
    refine .V (pkT rfl q1391 rfl) ?_
    refine .nil ?_
    exact .US q1389 true hF
   replace hF := hF.2 q1391
   refine .GV mv0 q1391 ?_
   refine .GV mv0 q1391 ?_
   obtain ⟨q1392, hF⟩ := hF
   refine .GV (ix rfl rfl tS22 (_q1.ne (by decide) (inb_pos q1392)) q1392) q1391 ?_
   refine .GV (ld1 (v := iV (gt s_ i3)) rfl tO3 (cellH (_q1.elemF q1392 (by decide) 0 _ rfl))) q1391 ?_
   refine .GV mv0 q1391 ?_
   refine .GV bi0 q1391 ?_
   refine .V (pkF rfl q1391 rfl) ?_
   refine .nil ?_
   exact .US q1389 ((gt s_ i3) != (gt part t10)) hF
  refine .region (.V mv0 ?_)
  refine .V mv0 ?_
  refine .V (ln rfl tS22.is) ?_
  refine .V bi0 ?_
  refine .V mv0 ?_
  rcases Bool.eq_false_or_eq_true (decide (i3 < ((s_.length : Nat) : Int))) with q1393 | q1393
  ·replace hF := hF.1 q1393
   refine .GV mv0 q1393 ?_
   refine .GV mv0 q1393 ?_
   obtain ⟨q1394, hF⟩ := hF
   refine .GV (ix rfl rfl tS22 (_q1.ne (by decide) (inb_pos q1394)) q1394) q1393 ?_
   refine .GV (ld1 (v := iV (gt s_ i3)) rfl tO3 (cellH (_q1.elemF q1394 (by decide) 0 _ rfl))) q1393 ?_
   refine .GV mv0 q1393 ?_
   refine .GV bi0 q1393 ?_
   refine .V (pkT rfl q1393 rfl) ?_
   refine .nil ?_
   exact .US q1384 (decide ((gt s_ i3) < (gt part t10))) hF
  replace hF := hF.2 q1393
  refine .GS q1393 ?_
  refine .GS q1393 ?_
  refine .GS q1393 ?_
  refine .GS q1393 ?_
  refine .GS q1393 ?_
  refine .GS q1393 ?_
  refine .V (pkF rfl q1393 rfl) ?_
  refine .nil ?_
  exact .US q1384 false hF
 replace hF := hF.2 q1166
 refine .exit (.seqX (.seqX (.blkX (.seqN (.seq (.region (.V ag0 ?_)))))))
 refine .nil (.seqN (.ret ?_))
 refine .res1 rfl (rvT rfl) (fun w' S => ⟨true, hF, rfl, S.below⟩)
theorem c_contains2 {h : FH} {w : World} (hs : Sub h w) (s_ : List Int) (as_ : Option Addr) (cs_ : Nat) (_q1 : RSl h as_ s_) (_q2 : s_.length ≤ cs_) (part : List Int) (apart : Option Addr) (cpart : Nat) (_q3 : RSl h apart part) (_q4 : part.length ≤ cpart) (hp : pre_contains2 s_ part) : Calls Tryz.prog 36 #[.slice as_ s_.length cs_, .slice apart part.length cpart] w fun e w' => e = .returned (.bool (sp_contains2 s_ part)) ∧ Below w.heap.size w w' :=
 (w_contains2 hs s_ as_ cs_ _q1 _q2 part apart cpart _q3 _q4 (fun r => r = sp_contains2 s_ part) (ok_contains2 s_ part hp)).mono fun _ _ ⟨_, hk, he, hb⟩ => ⟨by rw [he, hk], hb⟩
theorem w_can {h : FH} {w : World} (hs : Sub h w) (t : Task) (at_ : Option Addr) (ct : Nat) (_q1 : RSl h at_ t.init) (_q2 : t.init.length ≤ ct) (at_2 : Option Addr) (ct2 : Nat) (_q3 : RSl h at_2 t.goal) (_q4 : t.goal.length ≤ ct2) (at_3 : Option Addr) (ct3 : Nat) (_q5 : RSl h at_3 t.ops) (_q6 : t.ops.length ≤ ct3) (s_ : List Int) (as_ : Option Addr) (cs_ : Nat) (_q7 : RSl h as_ s_) (_q8 : s_.length ≤ cs_) (op : Int) (K : Bool → Prop) (hF : F_can t s_ op K) : Calls Tryz.prog 58 #[.agg #[iV t.facts, .slice at_ t.init.length ct, .slice at_2 t.goal.length ct2, .slice at_3 t.ops.length ct3], .slice as_ s_.length cs_, iV op] w fun e w' => ∃ r : Bool, K r ∧ e = .returned (.bool r) ∧ Below w.heap.size w w' := by
 refine enter (args := [.agg (tF t at_ ct at_2 ct2 at_3 ct3).toArray, vSl as_ s_ cs_, iV op]) Tryz.func58 rfl Tryz.ntmps58 rfl hs ?_
 refine .seq (.region ?_)
 refine bx (vs := (tF t at_ ct at_2 ct2 at_3 ct3)) rfl rfl rfl (fun pt => ?_)
 refine .V ag0 ?_
 refine .nil (.seqN (.seq (.region (.V mv0 ?_))))
 refine .V (fa rfl tF25_3) ?_
 refine .V (ld1 rfl tO23 (cellB (off := 3) (k := 0) rfl rfl)) ?_
 refine .V mv0 ?_
 obtain ⟨q9, hF⟩ := hF
 refine .V (ix rfl rfl tS23 (_q5.ne (by decide) (inb_pos q9)) q9) ?_
 refine .V (fa rfl tF114_0) ?_
 obtain ⟨_, ⟨a, c, a2, c2, a3, c3, rfl, ⟨q10, q11⟩, ⟨q12, q13⟩, q14, q15⟩, q16⟩ := _q5.elem q9
 refine .V (ld1 (v := .slice a ((gt t.ops op).pre.length) c) rfl tO22 (cellH (q16 (by decide) 0 _ rfl))) ?_
 obtain ⟨q17, hF⟩ := hF
 obtain ⟨r2, q18⟩ : ∃ y_ : Bool, y_ = sp_contains2 s_ ((gt t.ops op).pre) := ⟨_, rfl⟩
 replace hF := hF r2 q18
 refine .C (cl (v := .bool r2) Tryz.call36 rfl rfl (fun w S => (by rw [q18]; exact c_contains2 S.sub s_ as_ cs_ _q7 _q8 ((gt t.ops op).pre) a c q11 q10 q17))) ?_
 refine .V ag0 ?_
 refine .nil (.seqN (.ret ?_))
 refine .res1 rfl (rvT rfl) (fun w' S => ⟨r2, hF, rfl, S.below⟩)
theorem c_can {h : FH} {w : World} (hs : Sub h w) (t : Task) (at_ : Option Addr) (ct : Nat) (_q1 : RSl h at_ t.init) (_q2 : t.init.length ≤ ct) (at_2 : Option Addr) (ct2 : Nat) (_q3 : RSl h at_2 t.goal) (_q4 : t.goal.length ≤ ct2) (at_3 : Option Addr) (ct3 : Nat) (_q5 : RSl h at_3 t.ops) (_q6 : t.ops.length ≤ ct3) (s_ : List Int) (as_ : Option Addr) (cs_ : Nat) (_q7 : RSl h as_ s_) (_q8 : s_.length ≤ cs_) (op : Int) (hp : pre_can t s_ op) : Calls Tryz.prog 58 #[.agg #[iV t.facts, .slice at_ t.init.length ct, .slice at_2 t.goal.length ct2, .slice at_3 t.ops.length ct3], .slice as_ s_.length cs_, iV op] w fun e w' => e = .returned (.bool (sp_applies t s_ op)) ∧ Below w.heap.size w w' :=
 (w_can hs t at_ ct _q1 _q2 at_2 ct2 _q3 _q4 at_3 ct3 _q5 _q6 s_ as_ cs_ _q7 _q8 op (fun r => r = sp_applies t s_ op) (ok_can t s_ op hp)).mono fun _ _ ⟨_, hk, he, hb⟩ => ⟨by rw [he, hk], hb⟩
theorem w_next {h : FH} {w : World} (hs : Sub h w) (t : Task) (at_ : Option Addr) (ct : Nat) (_q1 : RSl h at_ t.init) (_q2 : t.init.length ≤ ct) (at_2 : Option Addr) (ct2 : Nat) (_q3 : RSl h at_2 t.goal) (_q4 : t.goal.length ≤ ct2) (at_3 : Option Addr) (ct3 : Nat) (_q5 : RSl h at_3 t.ops) (_q6 : t.ops.length ≤ ct3) (s_ : List Int) (as_ : Option Addr) (cs_ : Nat) (_q7 : RSl h as_ s_) (_q8 : s_.length ≤ cs_) (op : Int) (K : (List Int) → Prop) (hF : F_next t s_ op K) : Calls Tryz.prog 59 #[.agg #[iV t.facts, .slice at_ t.init.length ct, .slice at_2 t.goal.length ct2, .slice at_3 t.ops.length ct3], .slice as_ s_.length cs_, iV op] w fun e w' => ∃ (r : List Int) (z : Option Addr × Nat) (h1 : FH), K r ∧ e = .returned (.slice z.1 r.length z.2) ∧ FH.le h h1 ∧ (RSl h1 z.1 r ∧ r.length ≤ z.2) ∧ SH (Kp.all w h) h1 w' [] := by
 refine enter (args := [.agg (tF t at_ ct at_2 ct2 at_3 ct3).toArray, vSl as_ s_ cs_, iV op]) Tryz.func59 rfl Tryz.ntmps59 rfl hs ?_
 refine .seq (.region ?_)
 refine bx (vs := (tF t at_ ct at_2 ct2 at_3 ct3)) rfl rfl rfl (fun pt => ?_)
 refine .V ag0 ?_
 refine .nil (.seqN (.seq (.region (.V (fa rfl tF25_3) ?_))))
 refine .V (ld1 rfl tO23 (cellB (off := 3) (k := 0) rfl rfl)) ?_
 refine .V mv0 ?_
 obtain ⟨q9, hF⟩ := hF
 refine .V (ix rfl rfl tS23 (_q5.ne (by decide) (inb_pos q9)) q9) ?_
 obtain ⟨_, ⟨a, c, a2, c2, a3, c3, rfl, ⟨q10, q11⟩, ⟨q12, q13⟩, q14, q15⟩, q16⟩ := _q5.elem q9
 refine .V (ldA (cs := [.slice a ((gt t.ops op).pre.length) c, .slice a2 ((gt t.ops op).add.length) c2, .slice a3 ((gt t.ops op).del.length) c3, iV ((gt t.ops op).cost)]) rfl tA114 rfl (cellsH (q16 (by decide)))) ?_
 refine al tZ114 rfl (fun po => ?_)
 refine st (p := po) (off := 0) (k := 0) (vs := [.slice a ((gt t.ops op).pre.length) c, .slice a2 ((gt t.ops op).add.length) c2, .slice a3 ((gt t.ops op).del.length) c3, iV ((gt t.ops op).cost)]) rfl rfl rfl (fun w => (tA114 w).2) rfl rfl rfl rfl ?_
 refine .KA [Box po [.slice a ((gt t.ops op).pre.length) c, .slice a2 ((gt t.ops op).add.length) c2, .slice a3 ((gt t.ops op).del.length) c3, iV ((gt t.ops op).cost)], Box pt (tF t at_ ct at_2 ct2 at_3 ct3)] ?_
 refine .nil (.seqN (.seq (.region (.V mv0 ?_))))
 refine .V (fa rfl tF114_1) ?_
 refine .V (ld1 rfl tO22 (cellB (off := 1) (k := 0) rfl rfl)) ?_
 refine .V (fa rfl tF114_2) ?_
 refine .V (ld1 rfl tO22 (cellB (off := 2) (k := 0) rfl rfl)) ?_
 obtain ⟨q17, hF⟩ := hF
 obtain ⟨r2, q18⟩ : ∃ y_ : List Int, y_ = sp_update s_ ((gt t.ops op).add) ((gt t.ops op).del) := ⟨_, rfl⟩
 replace hF := hF r2 q18
 refine clO (α := Option Addr × Nat) (V := fun z => vSl z.1 r2 z.2) (Ψ := fun z => True) (B := fun z => [oL 3 1 z.1 r2 z.2]) Tryz.call35 rfl rfl (fun w S => (by rw [q18]; exact c_update S.sub s_ as_ cs_ _q7 _q8 ((gt t.ops op).add) a2 c2 q13 q12 ((gt t.ops op).del) a3 c3 q15 q14 q17)) rfl (fun z _ => ?_)
 obtain ⟨a4, c4⟩ := z
 refine .KA [oL 3 1 a4 r2 c4, Box po [.slice a ((gt t.ops op).pre.length) c, .slice a2 ((gt t.ops op).add.length) c2, .slice a3 ((gt t.ops op).del.length) c3, iV ((gt t.ops op).cost)], Box pt (tF t at_ ct at_2 ct2 at_3 ct3)] ?_
 refine .V ag0 ?_
 refine .nil (.seqN ?_)
 refine .freezeL (k := 0) rfl (fun h1 le1 q20 q19 => ?_)
 refine .KA [tru, Box po [.slice a ((gt t.ops op).pre.length) c, .slice a2 ((gt t.ops op).add.length) c2, .slice a3 ((gt t.ops op).del.length) c3, iV ((gt t.ops op).cost)], Box pt (tF t at_ ct at_2 ct2 at_3 ct3)] ?_
 refine .ret ?_
 refine .res1 rfl (rvT rfl) (fun w' S => ⟨r2, (a4, c4), h1, hF, rfl, (le1), ⟨(RSl.of q19), (q20)⟩, S.none⟩)
theorem c_next {h : FH} {w : World} (hs : Sub h w) (t : Task) (at_ : Option Addr) (ct : Nat) (_q1 : RSl h at_ t.init) (_q2 : t.init.length ≤ ct) (at_2 : Option Addr) (ct2 : Nat) (_q3 : RSl h at_2 t.goal) (_q4 : t.goal.length ≤ ct2) (at_3 : Option Addr) (ct3 : Nat) (_q5 : RSl h at_3 t.ops) (_q6 : t.ops.length ≤ ct3) (s_ : List Int) (as_ : Option Addr) (cs_ : Nat) (_q7 : RSl h as_ s_) (_q8 : s_.length ≤ cs_) (op : Int) (hp : pre_next t s_ op) : Calls Tryz.prog 59 #[.agg #[iV t.facts, .slice at_ t.init.length ct, .slice at_2 t.goal.length ct2, .slice at_3 t.ops.length ct3], .slice as_ s_.length cs_, iV op] w fun e w' => ∃ (z : Option Addr × Nat) (h1 : FH), e = .returned (.slice z.1 (sp_after t s_ op).length z.2) ∧ FH.le h h1 ∧ (RSl h1 z.1 (sp_after t s_ op) ∧ (sp_after t s_ op).length ≤ z.2) ∧ SH (Kp.all w h) h1 w' [] :=
 (w_next hs t at_ ct _q1 _q2 at_2 ct2 _q3 _q4 at_3 ct3 _q5 _q6 s_ as_ cs_ _q7 _q8 op (fun r => r = sp_after t s_ op) (ok_next t s_ op hp)).mono fun _ _ ⟨r, z, h1, hk, he, hl, hf, hS⟩ => by subst hk; exact ⟨z, h1, he, hl, hf, hS⟩
theorem w_srun {h : FH} {w : World} (hs : Sub h w) (t : Task) (at_ : Option Addr) (ct : Nat) (_q1 : RSl h at_ t.init) (_q2 : t.init.length ≤ ct) (at_2 : Option Addr) (ct2 : Nat) (_q3 : RSl h at_2 t.goal) (_q4 : t.goal.length ≤ ct2) (at_3 : Option Addr) (ct3 : Nat) (_q5 : RSl h at_3 t.ops) (_q6 : t.ops.length ≤ ct3) (s_ : List Int) (as_ : Option Addr) (cs_ : Nat) (_q7 : RSl h as_ s_) (_q8 : s_.length ≤ cs_) (plan : List Int) (aplan : Option Addr) (cplan : Nat) (_q9 : RSl h aplan plan) (_q10 : plan.length ≤ cplan) (K : (List (List Int)) → Prop) (hF : F_srun t s_ plan K) : Calls Tryz.prog 32 #[.agg #[iV t.facts, .slice at_ t.init.length ct, .slice at_2 t.goal.length ct2, .slice at_3 t.ops.length ct3], .slice as_ s_.length cs_, .slice aplan plan.length cplan] w fun e w' => ∃ (r : List (List Int)) (z : Option Addr × Nat) (h1 : FH), K r ∧ e = .returned (.slice z.1 r.length z.2) ∧ FH.le h h1 ∧ (RSl h1 z.1 r ∧ r.length ≤ z.2) ∧ SH (Kp.all w h) h1 w' [] := by
 refine enter (args := [.agg (tF t at_ ct at_2 ct2 at_3 ct3).toArray, vSl as_ s_ cs_, vSl aplan plan cplan]) Tryz.func32 rfl Tryz.ntmps32 rfl hs ?_
 refine .seq (.region ?_)
 refine bx (vs := (tF t at_ ct at_2 ct2 at_3 ct3)) rfl rfl rfl (fun pt => ?_)
 refine .V ag0 ?_
 refine .nil (.seqN (.seq (.region (.V mv0 ?_))))
 obtain ⟨q11, hF⟩ := hF
 obtain ⟨r2, q12⟩ : ∃ y_ : List Int, y_ = sp_clone s_ := ⟨_, rfl⟩
 replace hF := hF r2 q12
 refine clR (α := Option Addr × Nat) (Φ := fun h1 z => RSl h1 z.1 r2 ∧ r2.length ≤ z.2) (V := fun z => vSl z.1 r2 z.2) Tryz.call57 rfl rfl (fun w S => (by rw [q12]; exact c_clone S.sub s_ as_ cs_ _q7 _q8 q11)) rfl (fun z h1 le1 hz => ?_)
 obtain ⟨a, c⟩ := z
 obtain ⟨q13, q14⟩ := hz
 refine bs2 (cs := #[vSl a r2 c]) (pv := [(0, vSl a r2 c)]) tS35 rfl rfl (by decide) (by decide) rfl rfl rfl (fun a2 _ => ?_)
 refine .KA [OwnSl 22 1 a2 (([r2] : List (List Int)).length) 1 [vSl a r2 c], Box pt (tF t at_ ct at_2 ct2 at_3 ct3)] ?_
 refine .V ag0 ?_
 refine .nil (.seqN (.seq (.seq (.region (.V mv0 ?_)))))
 refine .V (ln rfl tS22.is) ?_
 refine .V mv0 ?_
 refine .nil (.seqN (.block ?_))
 refine .sel0 [1, 0] (by decide) rfl ?_
 obtain ⟨I1, μ1, q260, q261⟩ := hF
 refine .loop' (σ := List Int × Int × List (List Int) × Option Addr × Nat × Option Addr × Nat × List Value × FH) (fun z => I1 z.1 z.2.1 z.2.2.1 ∧ RSl z.2.2.2.2.2.2.2.2 z.2.2.2.1 z.1 ∧ z.1.length ≤ z.2.2.2.2.1 ∧ RepL z.2.2.2.2.2.2.2.2 z.2.2.1 z.2.2.2.2.2.2.2.1 ∧ FH.le h1 z.2.2.2.2.2.2.2.2) (fun z => μ1 z.1 z.2.1 z.2.2.1) (fun z => [(1, vSl z.2.2.2.1 z.1 z.2.2.2.2.1), (3, .pointer (some pt)), (7, vSl z.2.2.2.2.2.1 z.2.2.1 z.2.2.2.2.2.2.1), (13, vSl aplan plan cplan), (14, iV ((plan.length : Nat) : Int)), (15, iV z.2.1)]) (fun z => [Box pt (tF t at_ ct at_2 ct2 at_3 ct3), OwnSl 22 1 z.2.2.2.2.2.1 z.2.2.1.length z.2.2.2.2.2.2.1 z.2.2.2.2.2.2.2.1]) (fun z => z.2.2.2.2.2.2.2.2) (s_, 0, ([r2] : List (List Int)), as_, cs_, a2, 1, [vSl a r2 c], h1) ⟨q260, (_q7.mono (le1)), _q8, (show RepL h1 ([r2] : List (List Int)) [vSl a r2 c] from ⟨[vSl a r2 c], _, rfl, ⟨a, c, rfl, q14, q13⟩, rfl⟩), (FH.le_refl _)⟩ sb rfl (FH.le_refl _) ?_
 rintro ⟨s_2, t15, out, as2, cs, aout, cout, csout, h20⟩ ⟨q260, q210, q211, q212, q213⟩
 have hF := q261 s_2 t15 out q260
 show J _ _ _ _ _ [(1, vSl as2 s_2 cs), (3, .pointer (some pt)), (7, vSl aout out cout), (13, vSl aplan plan cplan), (14, iV ((plan.length : Nat) : Int)), (15, iV t15)] [Box pt (tF t at_ ct at_2 ct2 at_3 ct3), OwnSl 22 1 aout out.length cout csout] h20
 refine .seq (.region (.V bi0 ?_))
 refine .nil (.seqN (.seq ?_))
 refine .cond rfl (fun q264 => ?_) (fun q264 => ?_)
 ·replace hF := hF.1 q264
  refine .skip (.seqN (.seq (.block (.seq (.region ?_)))))
  obtain ⟨q291, hF⟩ := hF
  refine .V (ix rfl rfl tS22 (_q9.ne (by decide) (inb_pos q291)) q291) ?_
  refine .V (ld1 (v := iV (gt plan t15)) rfl tO3 (cellH ((_q9.mono (FH.le_trans (le1) (q213))).elemF q291 (by decide) 0 _ rfl))) ?_
  refine .V ag0 ?_
  refine .nil (.seqN (.seq (.seq (.region (.V (ldA (cs := (tF t at_ ct at_2 ct2 at_3 ct3)) rfl tA25 rfl (cellsB (off := 0) (k := 0) rfl (m := 4) rfl)) ?_)))))
  refine .V mv0 ?_
  refine .V mv0 ?_
  obtain ⟨q292, hF⟩ := hF
  obtain ⟨r3, q293⟩ : ∃ y_ : Bool, y_ = sp_applies t s_2 (gt plan t15) := ⟨_, rfl⟩
  replace hF := hF r3 q293
  refine .C (cl (v := .bool r3) Tryz.call58 rfl rfl (fun w S => (by rw [q293]; exact c_can S.sub t at_ ct (_q1.mono (FH.le_trans (le1) (q213))) _q2 at_2 ct2 (_q3.mono (FH.le_trans (le1) (q213))) _q4 at_3 ct3 (_q5.mono (FH.le_trans (le1) (q213))) _q6 s_2 as2 cs q210 q211 (gt plan t15) q292))) ?_
  refine .V (nt rfl) ?_
  refine .nil (.seqN ?_)
  refine .cond rfl (fun q295 => ?_) (fun q295 => ?_)
  ·replace hF := hF.1 q295
   refine .exit (.seqX ?_)
   refine .blkY rfl ?_
   refine .seqX (.seqX (.blkX (.seqN (.seq (.region (.V mv0 ?_))))))
   refine .V ag0 ?_
   refine .nil (.seqN ?_)
   refine .freezeL (k := 1) rfl (fun h27 le27 q297 q296 => ?_)
   refine .KA [Box pt (tF t at_ ct at_2 ct2 at_3 ct3), tru] ?_
   refine .ret ?_
   refine .res1 rfl (rvT rfl) (fun w' S => ⟨out, (aout, cout), h27, hF, rfl, (FH.le_trans (FH.le_trans (le1) (q213)) (le27)), ⟨(show RSl h27 aout out from ⟨_, q212.mono (le27), q296⟩), (q297)⟩, S.none⟩)
  replace hF := hF.2 q295
  refine .skip (.seqN (.seq (.region (.V (ldA (cs := (tF t at_ ct at_2 ct2 at_3 ct3)) rfl tA25 rfl (cellsB (off := 0) (k := 0) rfl (m := 4) rfl)) ?_))))
  refine .V mv0 ?_
  refine .V mv0 ?_
  obtain ⟨q298, hF⟩ := hF
  obtain ⟨r4, q299⟩ : ∃ y_ : List Int, y_ = sp_after t s_2 (gt plan t15) := ⟨_, rfl⟩
  replace hF := hF r4 q299
  refine clR (α := Option Addr × Nat) (Φ := fun h1 z => RSl h1 z.1 r4 ∧ r4.length ≤ z.2) (V := fun z => vSl z.1 r4 z.2) Tryz.call59 rfl rfl (fun w S => (by rw [q299]; exact c_next S.sub t at_ ct (_q1.mono (FH.le_trans (le1) (q213))) _q2 at_2 ct2 (_q3.mono (FH.le_trans (le1) (q213))) _q4 at_3 ct3 (_q5.mono (FH.le_trans (le1) (q213))) _q6 s_2 as2 cs q210 q211 (gt plan t15) q298)) rfl (fun z h28 le28 hz => ?_)
  obtain ⟨a3, c2⟩ := z
  obtain ⟨q300, q301⟩ := hz
  refine .V ag0 ?_
  refine .nil (.seqN (.region (.V mv0 ?_)))
  refine .V mv0 ?_
  refine bs2 (cs := #[vSl a3 r4 c2]) (pv := [(0, vSl a3 r4 c2)]) tS35 rfl rfl (by decide) (by decide) rfl rfl rfl (fun a4 _ => ?_)
  refine .KA [OwnSl 22 1 a4 (([r4] : List (List Int)).length) 1 [vSl a3 r4 c2], Box pt (tF t at_ ct at_2 ct2 at_3 ct3), OwnSl 22 1 aout out.length cout csout] ?_
  obtain ⟨q303, hF⟩ := hF
  have q304 : out.length + ([r4] : List (List Int)).length = ((out ++ ([r4] : List (List Int)))).length := len_app rfl rfl
  have q305 := RepL.append (RepL.mono (le28) q212) (show RepL h28 ([r4] : List (List Int)) [.slice a3 r4.length c2] from ⟨[.slice a3 r4.length c2], _, rfl, ⟨a3, c2, rfl, q301, q300⟩, rfl⟩)
  refine app (k := 2) (news := [vSl a3 r4 c2]) (cs' := (csout ++ [vSl a3 r4 c2])) (nm := ((out ++ ([r4] : List (List Int)))).length) tS35 rfl (by decide) rfl rfl rfl (RepL.len (show RepL h28 ([r4] : List (List Int)) [vSl a3 r4 c2] from ⟨[vSl a3 r4 c2], _, rfl, ⟨a3, c2, rfl, q301, q300⟩, rfl⟩)) (srcS (k := 0) rfl) (RepL.one (show RepL h28 ([r4] : List (List Int)) [vSl a3 r4 c2] from ⟨[vSl a3 r4 c2], _, rfl, ⟨a3, c2, rfl, q301, q300⟩, rfl⟩)) (room_of q304 q303).1 (room_of q304 q303).2 q304 rfl rfl (fun a5 c3 => ?_)
  refine .KA [OwnSl 22 1 a4 (([r4] : List (List Int)).length) 1 [vSl a3 r4 c2], Box pt (tF t at_ ct at_2 ct2 at_3 ct3), OwnSl 22 1 a5 ((out ++ ([r4] : List (List Int))).length) c3 (csout ++ [vSl a3 r4 c2])] ?_
  refine .V ag0 ?_
  refine .nil (.blkN (.seqN (.region (.V bi0 ?_))))
  refine .V mv0 ?_
  refine .nil ?_
  refine .sel0 [1, 2] (by decide) rfl ?_
  exact .RO (r4, wr (t15 + 1), (out ++ ([r4] : List (List Int))), a3, c2, a5, c3, (csout ++ [vSl a3 r4 c2]), h28) ⟨hF.1, q300, q301, q305, (FH.le_trans (q213) (le28))⟩ hF.2
 replace hF := hF.2 q264
 refine .exit (.seqX (.seqX (.blkX (.seqN (.seq (.region (.V mv0 ?_)))))))
 refine .V ag0 ?_
 refine .nil (.seqN ?_)
 refine .freezeL (k := 1) rfl (fun h29 le29 q307 q306 => ?_)
 refine .KA [Box pt (tF t at_ ct at_2 ct2 at_3 ct3), tru] ?_
 refine .ret ?_
 refine .res1 rfl (rvT rfl) (fun w' S => ⟨out, (aout, cout), h29, hF, rfl, (FH.le_trans (FH.le_trans (le1) (q213)) (le29)), ⟨(show RSl h29 aout out from ⟨_, q212.mono (le29), q306⟩), (q307)⟩, S.none⟩)
theorem c_srun {h : FH} {w : World} (hs : Sub h w) (t : Task) (at_ : Option Addr) (ct : Nat) (_q1 : RSl h at_ t.init) (_q2 : t.init.length ≤ ct) (at_2 : Option Addr) (ct2 : Nat) (_q3 : RSl h at_2 t.goal) (_q4 : t.goal.length ≤ ct2) (at_3 : Option Addr) (ct3 : Nat) (_q5 : RSl h at_3 t.ops) (_q6 : t.ops.length ≤ ct3) (s_ : List Int) (as_ : Option Addr) (cs_ : Nat) (_q7 : RSl h as_ s_) (_q8 : s_.length ≤ cs_) (plan : List Int) (aplan : Option Addr) (cplan : Nat) (_q9 : RSl h aplan plan) (_q10 : plan.length ≤ cplan) (hp : pre_srun t s_ plan) : Calls Tryz.prog 32 #[.agg #[iV t.facts, .slice at_ t.init.length ct, .slice at_2 t.goal.length ct2, .slice at_3 t.ops.length ct3], .slice as_ s_.length cs_, .slice aplan plan.length cplan] w fun e w' => ∃ (z : Option Addr × Nat) (h1 : FH), e = .returned (.slice z.1 (sp_srun t s_ plan).length z.2) ∧ FH.le h h1 ∧ (RSl h1 z.1 (sp_srun t s_ plan) ∧ (sp_srun t s_ plan).length ≤ z.2) ∧ SH (Kp.all w h) h1 w' [] :=
 (w_srun hs t at_ ct _q1 _q2 at_2 ct2 _q3 _q4 at_3 ct3 _q5 _q6 s_ as_ cs_ _q7 _q8 plan aplan cplan _q9 _q10 (fun r => r = sp_srun t s_ plan) (ok_srun t s_ plan hp)).mono fun _ _ ⟨r, z, h1, hk, he, hl, hf, hS⟩ => by subst hk; exact ⟨z, h1, he, hl, hf, hS⟩
theorem w_works {h : FH} {w : World} (hs : Sub h w) (t : Task) (at_ : Option Addr) (ct : Nat) (_q1 : RSl h at_ t.init) (_q2 : t.init.length ≤ ct) (at_2 : Option Addr) (ct2 : Nat) (_q3 : RSl h at_2 t.goal) (_q4 : t.goal.length ≤ ct2) (at_3 : Option Addr) (ct3 : Nat) (_q5 : RSl h at_3 t.ops) (_q6 : t.ops.length ≤ ct3) (s_ : List Int) (as_ : Option Addr) (cs_ : Nat) (_q7 : RSl h as_ s_) (_q8 : s_.length ≤ cs_) (plan : List Int) (aplan : Option Addr) (cplan : Nat) (_q9 : RSl h aplan plan) (_q10 : plan.length ≤ cplan) (K : Bool → Prop) (hF : F_works t s_ plan K) : Calls Tryz.prog 29 #[.agg #[iV t.facts, .slice at_ t.init.length ct, .slice at_2 t.goal.length ct2, .slice at_3 t.ops.length ct3], .slice as_ s_.length cs_, .slice aplan plan.length cplan] w fun e w' => ∃ r : Bool, K r ∧ e = .returned (.bool r) ∧ Below w.heap.size w w' := by
 refine enter (args := [.agg (tF t at_ ct at_2 ct2 at_3 ct3).toArray, vSl as_ s_ cs_, vSl aplan plan cplan]) Tryz.func29 rfl Tryz.ntmps29 rfl hs ?_
 refine .seq (.region ?_)
 refine bx (vs := (tF t at_ ct at_2 ct2 at_3 ct3)) rfl rfl rfl (fun pt => ?_)
 refine .V ag0 ?_
 refine .nil (.seqN (.seq (.region (.V (ldA (cs := (tF t at_ ct at_2 ct2 at_3 ct3)) rfl tA25 rfl (cellsB (off := 0) (k := 0) rfl (m := 4) rfl)) ?_))))
 refine .V mv0 ?_
 refine .V mv0 ?_
 obtain ⟨q11, hF⟩ := hF
 obtain ⟨r2, q12⟩ : ∃ y_ : List (List Int), y_ = sp_srun t s_ plan := ⟨_, rfl⟩
 replace hF := hF r2 q12
 refine clR (α := Option Addr × Nat) (Φ := fun h1 z => RSl h1 z.1 r2 ∧ r2.length ≤ z.2) (V := fun z => vSl z.1 r2 z.2) Tryz.call32 rfl rfl (fun w S => (by rw [q12]; exact c_srun S.sub t at_ ct _q1 _q2 at_2 ct2 _q3 _q4 at_3 ct3 _q5 _q6 s_ as_ cs_ _q7 _q8 plan aplan cplan _q9 _q10 q11)) rfl (fun z h1 le1 hz => ?_)
 obtain ⟨a, c⟩ := z
 obtain ⟨q13, q14⟩ := hz
 refine .V ag0 ?_
 refine .nil (.seqN (.seq ?_))
 refine .open_ (by kernel_rfl) (by kernel_rfl) ?_
 refine .V mv0 ?_
 refine .V (ln rfl tS35.is) ?_
 refine .V mv0 ?_
 refine .V (ln rfl tS22.is) ?_
 refine .V bi0 ?_
 obtain ⟨x, q23⟩ : ∃ y_ : Bool, y_ = (((r2.length : Nat) : Int) == (wr (((plan.length : Nat) : Int) + 1))) := ⟨_, rfl⟩
 replace hF := hF x q23
 refine .v (v := .bool x) (by rw [q23]; exact bi rfl rfl rfl) rfl rfl rfl ?_
 refine .V mv0 ?_
 rcases Bool.eq_false_or_eq_true (x) with q24 | q24
 ·replace hF := hF.1 q24
  refine .GV mv0 q24 ?_
  refine .GV mv0 q24 ?_
  refine .GV (ln rfl tS22.is) q24 ?_
  obtain ⟨q25, hF⟩ := hF
  refine .GV (ix rfl rfl tS35 (q13.ne (by decide) (inb_pos q25)) q25) q24 ?_
  obtain ⟨_, ⟨a2, c2, rfl, q26, q27⟩, q28⟩ := q13.elem q25
  refine .GV (ld1 (v := .slice a2 ((gt r2 ((plan.length : Nat) : Int)).length) c2) rfl tO22 (cellH (q28 (by decide) 0 _ rfl))) q24 ?_
  refine .GV (fa rfl tF25_2) q24 ?_
  refine .GV (ld1 rfl tO22 (cellB (off := 2) (k := 0) rfl rfl)) q24 ?_
  obtain ⟨q29, hF⟩ := hF
  obtain ⟨r3, q30⟩ : ∃ y_ : Bool, y_ = sp_contains2 (gt r2 ((plan.length : Nat) : Int)) t.goal := ⟨_, rfl⟩
  replace hF := hF r3 q30
  refine .gc (cl (v := .bool r3) Tryz.call36 rfl rfl (fun w S => (by rw [q30]; exact c_contains2 S.sub (gt r2 ((plan.length : Nat) : Int)) a2 c2 q27 q26 t.goal at_2 ct2 (_q3.mono (le1)) _q4 q29))) rfl rfl rfl q24 rfl rfl ?_
  refine .V (pkT rfl q24 rfl) ?_
  refine .V ag0 ?_
  refine .fin ?_
  refine .seqN (.ret ?_)
  refine .res1 rfl (rvT rfl) (fun w' S => ⟨r3, hF, rfl, S.below⟩)
 replace hF := hF.2 q24
 refine .GS q24 ?_
 refine .GS q24 ?_
 refine .GS q24 ?_
 refine .GS q24 ?_
 refine .GS q24 ?_
 refine .GS q24 ?_
 refine .GS q24 ?_
 refine .GS q24 ?_
 refine .V (pkF rfl q24 rfl) ?_
 refine .V ag0 ?_
 refine .fin ?_
 refine .seqN (.ret ?_)
 refine .res1 rfl (rvT rfl) (fun w' S => ⟨false, hF, rfl, S.below⟩)
theorem c_works {h : FH} {w : World} (hs : Sub h w) (t : Task) (at_ : Option Addr) (ct : Nat) (_q1 : RSl h at_ t.init) (_q2 : t.init.length ≤ ct) (at_2 : Option Addr) (ct2 : Nat) (_q3 : RSl h at_2 t.goal) (_q4 : t.goal.length ≤ ct2) (at_3 : Option Addr) (ct3 : Nat) (_q5 : RSl h at_3 t.ops) (_q6 : t.ops.length ≤ ct3) (s_ : List Int) (as_ : Option Addr) (cs_ : Nat) (_q7 : RSl h as_ s_) (_q8 : s_.length ≤ cs_) (plan : List Int) (aplan : Option Addr) (cplan : Nat) (_q9 : RSl h aplan plan) (_q10 : plan.length ≤ cplan) (hp : pre_works t s_ plan) : Calls Tryz.prog 29 #[.agg #[iV t.facts, .slice at_ t.init.length ct, .slice at_2 t.goal.length ct2, .slice at_3 t.ops.length ct3], .slice as_ s_.length cs_, .slice aplan plan.length cplan] w fun e w' => e = .returned (.bool (sp_rworks t s_ plan)) ∧ Below w.heap.size w w' :=
 (w_works hs t at_ ct _q1 _q2 at_2 ct2 _q3 _q4 at_3 ct3 _q5 _q6 s_ as_ cs_ _q7 _q8 plan aplan cplan _q9 _q10 (fun r => r = sp_rworks t s_ plan) (ok_works t s_ plan hp)).mono fun _ _ ⟨_, hk, he, hb⟩ => ⟨by rw [he, hk], hb⟩
theorem w_solves {h : FH} {w : World} (hs : Sub h w) (t : Task) (at_ : Option Addr) (ct : Nat) (_q1 : RSl h at_ t.init) (_q2 : t.init.length ≤ ct) (at_2 : Option Addr) (ct2 : Nat) (_q3 : RSl h at_2 t.goal) (_q4 : t.goal.length ≤ ct2) (at_3 : Option Addr) (ct3 : Nat) (_q5 : RSl h at_3 t.ops) (_q6 : t.ops.length ≤ ct3) (plan : List Int) (aplan : Option Addr) (cplan : Nat) (_q7 : RSl h aplan plan) (_q8 : plan.length ≤ cplan) (K : (Bool × Fault) → Prop) (hF : F_solves t plan K) : Calls Tryz.prog 8 #[.agg #[iV t.facts, .slice at_ t.init.length ct, .slice at_2 t.goal.length ct2, .slice at_3 t.ops.length ct3], .slice aplan plan.length cplan] w fun e w' => ∃ r : Bool × Fault, K r ∧ e = .returned (.tuple #[.bool r.1, .agg #[iV r.2.code, iV r.2.index]]) ∧ Below w.heap.size w w' := by
 refine enter (args := [.agg (tF t at_ ct at_2 ct2 at_3 ct3).toArray, vSl aplan plan cplan]) Tryz.func8 rfl Tryz.ntmps8 rfl hs ?_
 refine .seq (.region ?_)
 refine bx (vs := (tF t at_ ct at_2 ct2 at_3 ct3)) rfl rfl rfl (fun pt => ?_)
 refine .V ag0 ?_
 refine al tZ27 rfl (fun pv => ?_)
 refine .nil (.seqN (.seq (.seq (.region (.V (ldA (cs := (tF t at_ ct at_2 ct2 at_3 ct3)) rfl tA25 rfl (cellsB (off := 0) (k := 1) rfl (m := 4) rfl)) ?_)))))
 refine .V mv0 ?_
 obtain ⟨r2, q9⟩ : ∃ y_ : Fault, y_ = sp_planFault t plan := ⟨_, rfl⟩
 replace hF := hF r2 q9
 refine .C (cl (v := .agg #[iV r2.code, iV r2.index]) Tryz.call28 rfl rfl (fun w S => (by rw [q9]; exact c_planFault S.sub t at_ ct _q1 _q2 at_2 ct2 _q3 _q4 at_3 ct3 _q5 _q6 plan aplan cplan _q7 _q8 ))) ?_
 refine al tZ27 rfl (fun pf => ?_)
 refine st (p := pf) (off := 0) (k := 0) (vs := [iV r2.code, iV r2.index]) rfl rfl rfl (fun w => (tA27 w).2) rfl rfl rfl rfl ?_
 refine .KA [Box pf [iV r2.code, iV r2.index], Box pv [iV 0, iV 0], Box pt (tF t at_ ct at_2 ct2 at_3 ct3)] ?_
 refine .nil (.seqN (.seq (.region (.V (ldA (cs := [iV r2.code, iV r2.index]) rfl tA27 rfl (cellsB (off := 0) (k := 0) rfl (m := 2) rfl)) ?_))))
 refine .V (bld (cs := #[iV 0, iV 0]) (pv := []) tB27 rfl rfl) ?_
 refine .V (ne2 tE27 rfl rfl) ?_
 refine .nil (.seqN ?_)
 refine .cond rfl (fun q11 => ?_) (fun q11 => ?_)
 ·replace hF := hF.1 q11
  refine .seq ?_
  refine .openL (by kernel_rfl) rfl (by kernel_rfl) (by kernel_rfl) ?_
  refine .V (ldA (cs := [iV r2.code, iV r2.index]) rfl tA27 rfl (cellsB (off := 0) (k := 0) rfl (m := 2) rfl)) ?_
  refine .V ag0 ?_
  refine .tail ?_
  refine st (p := pv) (off := 0) (k := 1) (vs := [iV r2.code, iV r2.index]) rfl rfl rfl (fun w => (tA27 w).2) rfl rfl rfl rfl ?_
  refine .KA [Box pf [iV r2.code, iV r2.index], Box pv [iV r2.code, iV r2.index], Box pt (tF t at_ ct at_2 ct2 at_3 ct3)] ?_
  refine .nil (.seqN (.ret (.seqR ?_)))
  refine .res2 rfl (rvT rfl) (rvC rfl tA27 (k := 1) rfl rfl) (fun w' S => ⟨(false, r2), hF, rfl, S.below⟩)
 replace hF := hF.2 q11
 refine .skip (.seqN (.seq (.region (.V (ldA (cs := (tF t at_ ct at_2 ct2 at_3 ct3)) rfl tA25 rfl (cellsB (off := 0) (k := 2) rfl (m := 4) rfl)) ?_))))
 refine .V (fa rfl tF25_1) ?_
 refine .V (ld1 rfl tO22 (cellB (off := 1) (k := 2) rfl rfl)) ?_
 refine .V mv0 ?_
 obtain ⟨q12, hF⟩ := hF
 obtain ⟨r3, q13⟩ : ∃ y_ : Bool, y_ = sp_rworks t t.init plan := ⟨_, rfl⟩
 replace hF := hF r3 q13
 refine .C (cl (v := .bool r3) Tryz.call29 rfl rfl (fun w S => (by rw [q13]; exact c_works S.sub t at_ ct _q1 _q2 at_2 ct2 _q3 _q4 at_3 ct3 _q5 _q6 t.init at_ ct _q1 _q2 plan aplan cplan _q7 _q8 q12))) ?_
 refine .V (bld (cs := #[iV 0, iV 0]) (pv := []) tB27 rfl rfl) ?_
 refine .V ag0 ?_
 refine st (p := pv) (off := 0) (k := 1) (vs := [iV 0, iV 0]) rfl rfl rfl (fun w => (tA27 w).2) rfl rfl rfl rfl ?_
 refine .KA [Box pf [iV r2.code, iV r2.index], Box pv [iV 0, iV 0], Box pt (tF t at_ ct at_2 ct2 at_3 ct3)] ?_
 refine .nil (.seqN (.ret ?_))
 refine .res2 rfl (rvT rfl) (rvC rfl tA27 (k := 1) rfl rfl) (fun w' S => ⟨(r3, (⟨0, 0⟩ : Fault)), hF, rfl, S.below⟩)
theorem c_solves {h : FH} {w : World} (hs : Sub h w) (t : Task) (at_ : Option Addr) (ct : Nat) (_q1 : RSl h at_ t.init) (_q2 : t.init.length ≤ ct) (at_2 : Option Addr) (ct2 : Nat) (_q3 : RSl h at_2 t.goal) (_q4 : t.goal.length ≤ ct2) (at_3 : Option Addr) (ct3 : Nat) (_q5 : RSl h at_3 t.ops) (_q6 : t.ops.length ≤ ct3) (plan : List Int) (aplan : Option Addr) (cplan : Nat) (_q7 : RSl h aplan plan) (_q8 : plan.length ≤ cplan) : Calls Tryz.prog 8 #[.agg #[iV t.facts, .slice at_ t.init.length ct, .slice at_2 t.goal.length ct2, .slice at_3 t.ops.length ct3], .slice aplan plan.length cplan] w fun e w' => e = .returned (.tuple #[.bool (sp_solves t plan).1, .agg #[iV (sp_solves t plan).2.code, iV (sp_solves t plan).2.index]]) ∧ Below w.heap.size w w' :=
 (w_solves hs t at_ ct _q1 _q2 at_2 ct2 _q3 _q4 at_3 ct3 _q5 _q6 plan aplan cplan _q7 _q8 (fun r => r = sp_solves t plan) (ok_solves t plan)).mono fun _ _ ⟨_, hk, he, hb⟩ => ⟨by rw [he, hk], hb⟩
theorem w_compare {h : FH} {w : World} (hs : Sub h w) (x : Int) (y : Int) (K : Int → Prop) (hF : F_compare x y K) : Calls Tryz.prog 76 #[iV x, iV y] w fun e w' => ∃ r : Int, K r ∧ e = .returned (iV r) ∧ Below w.heap.size w w' := by
 refine enter (args := [iV x, iV y]) Tryz.func76 rfl Tryz.ntmps76 rfl hs ?_
 refine .seq (.region (.V ag0 ?_))
 refine .nil (.seqN (.seq (.region (.V mv0 ?_))))
 obtain ⟨r2, q1⟩ : ∃ y_ : Bool, y_ = sp_isNaN1 x := ⟨_, rfl⟩
 replace hF := hF r2 q1
 refine .C (cl (v := .bool r2) Tryz.call98 rfl rfl (fun w S => (by rw [q1]; exact c_isNaN1 S.sub x ))) ?_
 refine .V ag0 ?_
 refine .nil (.seqN (.seq (.region (.V mv0 ?_))))
 obtain ⟨r3, q2⟩ : ∃ y_ : Bool, y_ = sp_isNaN1 y := ⟨_, rfl⟩
 replace hF := hF r3 q2
 refine .C (cl (v := .bool r3) Tryz.call98 rfl rfl (fun w S => (by rw [q2]; exact c_isNaN1 S.sub y ))) ?_
 refine .V ag0 ?_
 refine .nil (.seqN (.seq (.seq (.region (.V mv0 ?_)))))
 refine .nil (.seqN ?_)
 refine .cond rfl (fun q6 => ?_) (fun q6 => ?_)
 ·replace hF := hF.1 q6
  refine .seq (.seq (.region (.V mv0 ?_)))
  refine .nil (.seqN ?_)
  refine .cond rfl (fun q8 => ?_) (fun q8 => ?_)
  ·replace hF := hF.1 q8
   refine .seq (.region (.V ag0 ?_))
   refine .nil (.seqN (.ret (.seqR (.seqR ?_))))
   refine .res1 rfl (rvT rfl) (fun w' S => ⟨0, hF, rfl, S.below⟩)
  replace hF := hF.2 q8
  refine .skip (.seqN (.seq (.region (.V ag0 ?_))))
  refine .nil (.seqN (.ret (.seqR ?_)))
  refine .res1 rfl (rvT rfl) (fun w' S => ⟨(-1), hF, rfl, S.below⟩)
 replace hF := hF.2 q6
 refine .skip (.seqN (.seq (.seq (.region (.V mv0 ?_)))))
 refine .nil (.seqN ?_)
 refine .cond rfl (fun q10 => ?_) (fun q10 => ?_)
 ·replace hF := hF.1 q10
  refine .seq (.region (.V ag0 ?_))
  refine .nil (.seqN (.ret (.seqR ?_)))
  refine .res1 rfl (rvT rfl) (fun w' S => ⟨1, hF, rfl, S.below⟩)
 replace hF := hF.2 q10
 refine .skip (.seqN (.seq (.seq (.region (.V mv0 ?_)))))
 refine .V mv0 ?_
 refine .V bi0 ?_
 refine .nil (.seqN ?_)
 refine .cond rfl (fun q12 => ?_) (fun q12 => ?_)
 ·replace hF := hF.1 q12
  refine .seq (.region (.V ag0 ?_))
  refine .nil (.seqN (.ret (.seqR ?_)))
  refine .res1 rfl (rvT rfl) (fun w' S => ⟨(-1), hF, rfl, S.below⟩)
 replace hF := hF.2 q12
 refine .skip (.seqN (.seq (.seq (.region (.V mv0 ?_)))))
 refine .V mv0 ?_
 refine .V bi0 ?_
 refine .nil (.seqN ?_)
 refine .cond rfl (fun q14 => ?_) (fun q14 => ?_)
 ·replace hF := hF.1 q14
  refine .seq (.region (.V ag0 ?_))
  refine .nil (.seqN (.ret (.seqR ?_)))
  refine .res1 rfl (rvT rfl) (fun w' S => ⟨1, hF, rfl, S.below⟩)
 replace hF := hF.2 q14
 refine .skip (.seqN (.seq (.region (.V ag0 ?_))))
 refine .nil (.seqN (.ret ?_))
 refine .res1 rfl (rvT rfl) (fun w' S => ⟨0, hF, rfl, S.below⟩)
theorem c_compare {h : FH} {w : World} (hs : Sub h w) (x : Int) (y : Int) : Calls Tryz.prog 76 #[iV x, iV y] w fun e w' => e = .returned (iV (sp_compare x y)) ∧ Below w.heap.size w w' :=
 (w_compare hs x y (fun r => r = sp_compare x y) (ok_compare x y)).mono fun _ _ ⟨_, hk, he, hb⟩ => ⟨by rw [he, hk], hb⟩
end Go.Proofs.YtimillpakjgnoaaGreatDoor.Pl

namespace Go.Proofs
open Go.Shelf
def YtimillpakjgnoaaGreatDoor.lays176_ren : Go.Shelf.Ren := ⟨fun | 176 => 43 | 249 => 71 | 288 => 87 | 283 => 121 | 284 => 122 | 285 => 123 | 286 => 124 | 129 => 97 | 317 => 140 | 318 => 141 | 319 => 142 | 320 => 143 | 337 => 149 | 338 => 150 | n => n, fun | 37 => 81 | 2 => 2 | 3 => 3 | 53 => 148 | 4 => 4 | 9 => 9 | 171 => 181 | 0 => 0 | 173 => 183 | 212 => 211 | 51 => 60 | 5 => 5 | 20 => 20 | 213 => 212 | 46 => 138 | 232 => 224 | 233 => 225 | n => n, fun | 17 => 0 | 18 => 1 | 19 => 2 | n => n⟩
theorem YtimillpakjgnoaaGreatDoor.lays176 : Go.Proofs.LaysM.n176 Tryz.prog YtimillpakjgnoaaGreatDoor.lays176_ren := {
  mixed := by kernel_rfl
  f129 := Tryz.func97.trans (congrArg some (by kernel_rfl))
  f176 := Tryz.func43.trans (congrArg some (by kernel_rfl))
  f249 := Tryz.func71.trans (congrArg some (by kernel_rfl))
  f283 := Tryz.func121.trans (congrArg some (by kernel_rfl))
  f284 := Tryz.func122.trans (congrArg some (by kernel_rfl))
  f285 := Tryz.func123.trans (congrArg some (by kernel_rfl))
  f286 := Tryz.func124.trans (congrArg some (by kernel_rfl))
  f288 := Tryz.func87.trans (congrArg some (by kernel_rfl))
  f317 := Tryz.func140.trans (congrArg some (by kernel_rfl))
  f318 := Tryz.func141.trans (congrArg some (by kernel_rfl))
  f319 := Tryz.func142.trans (congrArg some (by kernel_rfl))
  f320 := Tryz.func143.trans (congrArg some (by kernel_rfl))
  f337 := Tryz.func149.trans (congrArg some (by kernel_rfl))
  f338 := Tryz.func150.trans (congrArg some (by kernel_rfl))
  t0 := Tryz.underlying0
  a0 := Tryz.isAgg0
  z0 := Tryz.sizeOf0
  v0 := Tryz.zeroValue0
  t2 := Tryz.underlying2
  a2 := Tryz.isAgg2
  z2 := Tryz.sizeOf2
  v2 := Tryz.zeroValue2
  t3 := Tryz.underlying3
  a3 := Tryz.isAgg3
  z3 := Tryz.sizeOf3
  v3 := Tryz.zeroValue3
  t4 := Tryz.underlying4
  a4 := Tryz.isAgg4
  z4 := Tryz.sizeOf4
  v4 := Tryz.zeroValue4
  t5 := Tryz.underlying5
  a5 := Tryz.isAgg5
  z5 := Tryz.sizeOf5
  v5 := Tryz.zeroValue5
  t9 := Tryz.underlying9
  a9 := Tryz.isAgg9
  z9 := Tryz.sizeOf9
  v9 := Tryz.zeroValue9
  t20 := Tryz.underlying20
  a20 := Tryz.isAgg20
  z20 := Tryz.sizeOf20
  v20 := Tryz.zeroValue20
  t37 := Tryz.underlying81
  a37 := Tryz.isAgg81
  z37 := Tryz.sizeOf81
  v37 := Tryz.zeroValue81
  t46 := Tryz.underlying138
  a46 := Tryz.isAgg138
  z46 := Tryz.sizeOf138
  v46 := Tryz.zeroValue138
  t51 := Tryz.underlying60
  a51 := Tryz.isAgg60
  z51 := Tryz.sizeOf60
  v51 := Tryz.zeroValue60
  t53 := Tryz.underlying148
  a53 := Tryz.isAgg148
  z53 := Tryz.sizeOf148
  v53 := Tryz.zeroValue148
  t171 := Tryz.underlying181
  a171 := Tryz.isAgg181
  z171 := Tryz.sizeOf181
  v171 := Tryz.zeroValue181
  t173 := Tryz.underlying183
  a173 := Tryz.isAgg183
  z173 := Tryz.sizeOf183
  v173 := Tryz.zeroValue183
  t212 := Tryz.underlying211
  a212 := Tryz.isAgg211
  z212 := Tryz.sizeOf211
  v212 := Tryz.zeroValue211
  t213 := Tryz.underlying212
  a213 := Tryz.isAgg212
  z213 := Tryz.sizeOf212
  t232 := Tryz.underlying224
  a232 := Tryz.isAgg224
  z232 := Tryz.sizeOf224
  v232 := Tryz.zeroValue224
  t233 := Tryz.underlying225
  a233 := Tryz.isAgg225
  z233 := Tryz.sizeOf225
  v233 := Tryz.zeroValue225
  g17 := by kernel_rfl
  g18 := by kernel_rfl
  g19 := by kernel_rfl
  i0 := by kernel_rfl
  i2 := by kernel_rfl
  i3 := by kernel_rfl
  i4 := by kernel_rfl
  i5 := by kernel_rfl
  i9 := by kernel_rfl
  i20 := by kernel_rfl
  i37 := by kernel_rfl
  i46 := by kernel_rfl
  i51 := by kernel_rfl
  i53 := by kernel_rfl
  i171 := by kernel_rfl
  i173 := by kernel_rfl
  i212 := by kernel_rfl
  i232 := by kernel_rfl
  i233 := by kernel_rfl
  m17 := by kernel_rfl
  m18 := by kernel_rfl
  m19 := by kernel_rfl }
end Go.Proofs

namespace Go.Proofs.YtimillpakjgnoaaGreatDoor.Pl
open Go Go.RowKit
theorem w_key {h : FH} {w : World} (hs : Sub h w) (ht : TabH Tryz.prog h) (l : List (List Int)) (al2 : Option Addr) (cl2 : Nat) (_q1 : RSl h al2 l) (_q2 : l.length ≤ cl2) (K : (List UInt8) → Prop) (hF : F_key l K) : Calls Tryz.prog 17 #[.slice al2 l.length cl2] w fun e w' => ∃ r : List UInt8, K r ∧ e = .returned (strV r) ∧ Below w.heap.size w w' := by
 refine enter (args := [vSl al2 l cl2]) Tryz.func17 rfl Tryz.ntmps17 rfl hs ?_
 refine .seq (.region (.V ag0 ?_))
 refine .nil (.seqN (.seq (.region (.V ag0 ?_))))
 refine .nil (.seqN (.seq (.seq (.region (.V mv0 ?_)))))
 refine .V (ln rfl tS35.is) ?_
 refine .V mv0 ?_
 refine .nil (.seqN (.block ?_))
 refine .nilSl 5 1 ?_
 refine .KA [oL 5 1 none ([] : List UInt8) 0] ?_
 obtain ⟨I1, μ1, q2075, q2076⟩ := hF
 refine .loop' (σ := Int × List UInt8 × Option Addr × Nat) (fun z => I1 z.1 z.2.1) (fun z => μ1 z.1 z.2.1) (fun z => [(3, vSl z.2.2.1 z.2.1 z.2.2.2), (8, vSl al2 l cl2), (9, iV ((l.length : Nat) : Int)), (10, iV z.1)]) (fun z => [oL 5 1 z.2.2.1 z.2.1 z.2.2.2]) (fun _ => h) (0, ([] : List UInt8), none, 0) q2075 sb rfl (FH.le_refl _) ?_
 rintro ⟨t10, b, ab, cb⟩ q2075
 have hF := q2076 t10 b q2075
 show J _ _ _ _ _ [(3, vSl ab b cb), (8, vSl al2 l cl2), (9, iV ((l.length : Nat) : Int)), (10, iV t10)] [oL 5 1 ab b cb] h
 refine .seq (.region (.V bi0 ?_))
 refine .nil (.seqN (.seq ?_))
 refine .cond rfl (fun q2079 => ?_) (fun q2079 => ?_)
 ·replace hF := hF.1 q2079
  refine .skip (.seqN (.seq (.block (.seq (.region ?_)))))
  obtain ⟨q2354, hF⟩ := hF
  refine .V (ix rfl rfl tS35 (_q1.ne (by decide) (inb_pos q2354)) q2354) ?_
  obtain ⟨_, ⟨a, c, rfl, q2355, q2356⟩, q2357⟩ := _q1.elem q2354
  refine .V (ld1 (v := .slice a ((gt l t10).length) c) rfl tO22 (cellH (q2357 (by decide) 0 _ rfl))) ?_
  refine .V ag0 ?_
  refine .nil (.seqN (.seq (.seq (.region (.V mv0 ?_)))))
  refine .V (ln rfl tS22.is) ?_
  refine .V mv0 ?_
  refine .nil (.seqN (.block ?_))
  obtain ⟨I2, μ2, q2465, q2466⟩ := hF
  refine .loop' (σ := Int × List UInt8 × Option Addr × Nat) (fun z => I2 z.1 z.2.1) (fun z => μ2 z.1 z.2.1) (fun z => [(3, vSl z.2.2.1 z.2.1 z.2.2.2), (8, vSl al2 l cl2), (9, iV ((l.length : Nat) : Int)), (10, iV t10), (14, .slice a ((gt l t10).length) c), (15, iV (((gt l t10).length : Nat) : Int)), (16, iV z.1)]) (fun z => [oL 5 1 z.2.2.1 z.2.1 z.2.2.2]) (fun _ => h) (0, b, ab, cb) q2465 sb rfl (FH.le_refl _) ?_
  rintro ⟨t16, b3, ab3, cb3⟩ q2465
  have hF := q2466 t16 b3 q2465
  show J _ _ _ _ _ [(3, vSl ab3 b3 cb3), (8, vSl al2 l cl2), (9, iV ((l.length : Nat) : Int)), (10, iV t10), (14, .slice a ((gt l t10).length) c), (15, iV (((gt l t10).length : Nat) : Int)), (16, iV t16)] [oL 5 1 ab3 b3 cb3] h
  refine .seq (.region (.V bi0 ?_))
  refine .nil (.seqN (.seq ?_))
  refine .cond rfl (fun q2469 => ?_) (fun q2469 => ?_)
  ·replace hF := hF.1 q2469
   refine .skip (.seqN (.seq (.block (.seq (.region ?_)))))
   obtain ⟨q2482, hF⟩ := hF
   refine .V (ix rfl rfl tS22 (q2356.ne (by decide) (inb_pos q2482)) q2482) ?_
   refine .V (ld1 (v := iV (gt (gt l t10) t16)) rfl tO3 (cellH (q2356.elemF q2482 (by decide) 0 _ rfl))) ?_
   refine .V ag0 ?_
   refine .nil (.seqN (.region (.V mv0 ?_)))
   refine .V mv0 ?_
   obtain ⟨q2483, q2484, hF⟩ := hF
   refine ai2 (bs := b3) YtimillpakjgnoaaGreatDoor.lays176 hs ht Tryz.call43 rfl rfl rfl rfl rfl q2483 q2484 rfl (fun a2 c2 => ?_)
   refine .KA [oL 5 1 a2 (b3 ++ Lib.itoa (gt (gt l t10) t16)) c2] ?_
   refine bs2 (cs := #[.int .u8 44]) (pv := [(0, .int .u8 44)]) tS81 rfl rfl (by decide) (by decide) rfl rfl rfl (fun a3 _ => ?_)
   refine .KA [oL 5 1 a3 ([44] : List UInt8) 1, oL 5 1 a2 (b3 ++ Lib.itoa (gt (gt l t10) t16)) c2] ?_
   obtain ⟨q2486, hF⟩ := hF
   have q2487 : (b3 ++ Lib.itoa (gt (gt l t10) t16)).length + ([44] : List UInt8).length = (((b3 ++ Lib.itoa (gt (gt l t10) t16)) ++ ([44] : List UInt8))).length := len_app rfl rfl
   refine app (k := 1) (news := flL ([44] : List UInt8)) (cs' := flL ((b3 ++ Lib.itoa (gt (gt l t10) t16)) ++ ([44] : List UInt8))) (nm := (((b3 ++ Lib.itoa (gt (gt l t10) t16)) ++ ([44] : List UInt8))).length) tS81 rfl (by decide) rfl rfl rfl ((flL_len _).trans rfl) (srcS (k := 0) rfl) (flL_one _) (room_of q2487 q2486).1 (room_of q2487 q2486).2 q2487 (flL_append _ _).symm rfl (fun a4 c3 => ?_)
   refine .KA [oL 5 1 a3 ([44] : List UInt8) 1, oL 5 1 a4 ((b3 ++ Lib.itoa (gt (gt l t10) t16)) ++ ([44] : List UInt8)) c3] ?_
   refine .V ag0 ?_
   refine .nil (.blkN (.seqN (.region (.V bi0 ?_))))
   refine .V mv0 ?_
   refine .nil ?_
   refine .sel0 [1] (by decide) rfl ?_
   exact .RO (wr (t16 + 1), ((b3 ++ Lib.itoa (gt (gt l t10) t16)) ++ ([44] : List UInt8)), a4, c3) hF.1 hF.2
  replace hF := hF.2 q2469
  refine .exit (.seqX (.seqX (.blkX (.seqN (.region (.V mv0 ?_))))))
  refine bs2 (cs := #[.int .u8 59]) (pv := [(0, .int .u8 59)]) tS81 rfl rfl (by decide) (by decide) rfl rfl rfl (fun a5 _ => ?_)
  refine .KA [oL 5 1 a5 ([59] : List UInt8) 1, oL 5 1 ab3 b3 cb3] ?_
  obtain ⟨q2489, hF⟩ := hF
  have q2490 : b3.length + ([59] : List UInt8).length = ((b3 ++ ([59] : List UInt8))).length := len_app rfl rfl
  refine app (k := 1) (news := flL ([59] : List UInt8)) (cs' := flL (b3 ++ ([59] : List UInt8))) (nm := ((b3 ++ ([59] : List UInt8))).length) tS81 rfl (by decide) rfl rfl rfl ((flL_len _).trans rfl) (srcS (k := 0) rfl) (flL_one _) (room_of q2490 q2489).1 (room_of q2490 q2489).2 q2490 (flL_append _ _).symm rfl (fun a6 c4 => ?_)
  refine .KA [oL 5 1 a5 ([59] : List UInt8) 1, oL 5 1 a6 (b3 ++ ([59] : List UInt8)) c4] ?_
  refine .V ag0 ?_
  refine .nil (.blkN (.seqN (.region (.V bi0 ?_))))
  refine .V mv0 ?_
  refine .nil ?_
  refine .sel0 [1] (by decide) rfl ?_
  exact .RO (wr (t10 + 1), (b3 ++ ([59] : List UInt8)), a6, c4) hF.1 hF.2
 replace hF := hF.2 q2079
 refine .exit (.seqX (.seqX (.blkX (.seqN (.seq (.region (.V mv0 ?_)))))))
 refine .V (cvO (k := 0) Tryz.underlying81 Tryz.underlying5 Tryz.underlying9 rfl rfl) ?_
 refine .V ag0 ?_
 refine .nil (.seqN (.ret ?_))
 refine .res1 rfl (rvT rfl) (fun w' S => ⟨b, hF, rfl, S.below⟩)
theorem c_key {h : FH} {w : World} (hs : Sub h w) (ht : TabH Tryz.prog h) (l : List (List Int)) (al2 : Option Addr) (cl2 : Nat) (_q1 : RSl h al2 l) (_q2 : l.length ≤ cl2) (hp : pre_key l) : Calls Tryz.prog 17 #[.slice al2 l.length cl2] w fun e w' => e = .returned (strV (sp_key l)) ∧ Below w.heap.size w w' :=
 (w_key hs ht l al2 cl2 _q1 _q2 (fun r => r = sp_key l) (ok_key l hp)).mono fun _ _ ⟨_, hk, he, hb⟩ => ⟨by rw [he, hk], hb⟩
set_option maxHeartbeats 8000000 in
theorem w_scompare {h : FH} {w : World} (hs : Sub h w) (s1 : List Int) (as1 : Option Addr) (cs1 : Nat) (_q1 : RSl h as1 s1) (_q2 : s1.length ≤ cs1) (s2 : List Int) (as2 : Option Addr) (cs2 : Nat) (_q3 : RSl h as2 s2) (_q4 : s2.length ≤ cs2) (K : Int → Prop) (hF : F_scompare s1 s2 K) : Calls Tryz.prog 51 #[.slice as1 s1.length cs1, .slice as2 s2.length cs2] w fun e w' => ∃ r : Int, K r ∧ e = .returned (iV r) ∧ Below w.heap.size w w' := by
 refine enter (args := [vSl as1 s1 cs1, vSl as2 s2 cs2]) Tryz.func51 rfl Tryz.ntmps51 rfl hs ?_
 refine .seq (.region (.V ag0 ?_))
 refine .nil (.seqN (.seq (.seq (.region (.V mv0 ?_)))))
 refine .V (ln rfl tS22.is) ?_
 refine .V mv0 ?_
 refine .nil (.seqN (.block ?_))
 obtain ⟨I1, μ1, q112, q113⟩ := hF
 refine .loop' (σ := Int) (fun z => I1 z) (fun z => μ1 z) (fun z => [(0, vSl as1 s1 cs1), (1, vSl as2 s2 cs2), (9, vSl as1 s1 cs1), (10, iV ((s1.length : Nat) : Int)), (11, iV z)]) (fun _ => []) (fun _ => h) 0 q112 sb rfl (FH.le_refl _) ?_
 rintro t11 q112
 have hF := q113 t11 q112
 show J _ _ _ _ _ [(0, vSl as1 s1 cs1), (1, vSl as2 s2 cs2), (9, vSl as1 s1 cs1), (10, iV ((s1.length : Nat) : Int)), (11, iV t11)] [] h
 refine .seq (.region (.V bi0 ?_))
 refine .nil (.seqN (.seq ?_))
 refine .cond rfl (fun q116 => ?_) (fun q116 => ?_)
 ·replace hF := hF.1 q116
  refine .skip (.seqN (.seq (.block (.seq (.region (.V mv0 ?_))))))
  obtain ⟨q129, hF⟩ := hF
  refine .V (ix rfl rfl tS22 (_q1.ne (by decide) (inb_pos q129)) q129) ?_
  refine .V (ld1 (v := iV (gt s1 t11)) rfl tO3 (cellH (_q1.elemF q129 (by decide) 0 _ rfl))) ?_
  refine .V ag0 ?_
  refine .V ag0 ?_
  refine .nil (.seqN (.seq (.seq (.region (.V mv0 ?_)))))
  refine .V mv0 ?_
  refine .V (ln rfl tS22.is) ?_
  refine .V bi0 ?_
  refine .nil (.seqN ?_)
  refine .cond rfl (fun q131 => ?_) (fun q131 => ?_)
  ·replace hF := hF.1 q131
   refine .seq (.region (.V ag0 ?_))
   refine .nil (.seqN (.ret (.seqR (.blkR (.seqR (.seqR (.blkR (.seqR ?_))))))))
   refine .res1 rfl (rvT rfl) (fun w' S => ⟨1, hF, rfl, S.below⟩)
  replace hF := hF.2 q131
  refine .skip (.seqN (.seq (.region (.V mv0 ?_))))
  refine .V mv0 ?_
  obtain ⟨q132, hF⟩ := hF
  refine .V (ix rfl rfl tS22 (_q3.ne (by decide) (inb_pos q132)) q132) ?_
  refine .V (ld1 (v := iV (gt s2 t11)) rfl tO3 (cellH (_q3.elemF q132 (by decide) 0 _ rfl))) ?_
  refine .V ag0 ?_
  refine .nil (.seqN (.seq (.region (.V mv0 ?_))))
  refine .V mv0 ?_
  obtain ⟨r2, q133⟩ : ∃ y_ : Int, y_ = sp_compare (gt s1 t11) (gt s2 t11) := ⟨_, rfl⟩
  replace hF := hF r2 q133
  refine .C (cl (v := iV r2) Tryz.call76 rfl rfl (fun w S => (by rw [q133]; exact c_compare S.sub (gt s1 t11) (gt s2 t11) ))) ?_
  refine .V ag0 ?_
  refine .nil (.seqN (.seq (.region (.V mv0 ?_))))
  refine .V bi0 ?_
  refine .nil (.seqN ?_)
  refine .cond rfl (fun q134 => ?_) (fun q134 => ?_)
  ·replace hF := hF.1 q134
   refine .seq (.region (.V mv0 ?_))
   refine .V ag0 ?_
   refine .nil (.seqN (.ret (.blkR (.seqR (.seqR (.blkR (.seqR ?_)))))))
   refine .res1 rfl (rvT rfl) (fun w' S => ⟨r2, hF, rfl, S.below⟩)
  replace hF := hF.2 q134
  refine .skip (.blkN (.seqN (.region (.V bi0 ?_))))
  refine .V mv0 ?_
  refine .nil ?_
  exact .RO (wr (t11 + 1)) hF.1 hF.2
 replace hF := hF.2 q116
 refine .exit (.seqX (.seqX (.blkX (.seqN (.seq (.seq (.region (.V mv0 ?_))))))))
 refine .V (ln rfl tS22.is) ?_
 refine .V mv0 ?_
 refine .V (ln rfl tS22.is) ?_
 refine .V bi0 ?_
 refine .nil (.seqN ?_)
 refine .cond rfl (fun q136 => ?_) (fun q136 => ?_)
 ·replace hF := hF.1 q136
  refine .seq (.region (.V ag0 ?_))
  refine .nil (.seqN (.ret (.seqR ?_)))
  refine .res1 rfl (rvT rfl) (fun w' S => ⟨(-1), hF, rfl, S.below⟩)
 replace hF := hF.2 q136
 refine .skip (.seqN (.seq (.region (.V ag0 ?_))))
 refine .nil (.seqN (.ret ?_))
 refine .res1 rfl (rvT rfl) (fun w' S => ⟨0, hF, rfl, S.below⟩)
theorem c_scompare {h : FH} {w : World} (hs : Sub h w) (s1 : List Int) (as1 : Option Addr) (cs1 : Nat) (_q1 : RSl h as1 s1) (_q2 : s1.length ≤ cs1) (s2 : List Int) (as2 : Option Addr) (cs2 : Nat) (_q3 : RSl h as2 s2) (_q4 : s2.length ≤ cs2) (hp : pre_scompare s1 s2) : Calls Tryz.prog 51 #[.slice as1 s1.length cs1, .slice as2 s2.length cs2] w fun e w' => e = .returned (iV (sp_scompare s1 s2)) ∧ Below w.heap.size w w' :=
 (w_scompare hs s1 as1 cs1 _q1 _q2 s2 as2 cs2 _q3 _q4 (fun r => r = sp_scompare s1 s2) (ok_scompare s1 s2 hp)).mono fun _ _ ⟨_, hk, he, hb⟩ => ⟨by rw [he, hk], hb⟩
theorem w_sequal {h : FH} {w : World} (hs : Sub h w) (s1 : List Int) (as1 : Option Addr) (cs1 : Nat) (_q1 : RSl h as1 s1) (_q2 : s1.length ≤ cs1) (s2 : List Int) (as2 : Option Addr) (cs2 : Nat) (_q3 : RSl h as2 s2) (_q4 : s2.length ≤ cs2) (K : Bool → Prop) (hF : F_sequal s1 s2 K) : Calls Tryz.prog 70 #[.slice as1 s1.length cs1, .slice as2 s2.length cs2] w fun e w' => ∃ r : Bool, K r ∧ e = .returned (.bool r) ∧ Below w.heap.size w w' := by
 refine enter (args := [vSl as1 s1 cs1, vSl as2 s2 cs2]) Tryz.func70 rfl Tryz.ntmps70 rfl hs ?_
 refine .seq (.region (.V ag0 ?_))
 refine .nil (.seqN (.seq (.seq (.region (.V mv0 ?_)))))
 refine .V (ln rfl tS22.is) ?_
 refine .V mv0 ?_
 refine .V (ln rfl tS22.is) ?_
 refine .V bi0 ?_
 refine .nil (.seqN ?_)
 refine .cond rfl (fun q6 => ?_) (fun q6 => ?_)
 ·replace hF := hF.1 q6
  refine .seq (.region (.V ag0 ?_))
  refine .nil (.seqN (.ret (.seqR ?_)))
  refine .res1 rfl (rvT rfl) (fun w' S => ⟨false, hF, rfl, S.below⟩)
 replace hF := hF.2 q6
 refine .skip (.seqN (.seq (.seq (.region (.V mv0 ?_)))))
 refine .V (ln rfl tS22.is) ?_
 refine .V mv0 ?_
 refine .nil (.seqN (.block ?_))
 obtain ⟨I1, μ1, q69, q70⟩ := hF
 refine .loop' (σ := Int) (fun z => I1 z) (fun z => μ1 z) (fun z => [(0, vSl as1 s1 cs1), (1, vSl as2 s2 cs2), (12, iV ((s1.length : Nat) : Int)), (13, iV z)]) (fun _ => []) (fun _ => h) 0 q69 sb rfl (FH.le_refl _) ?_
 rintro t13 q69
 have hF := q70 t13 q69
 show J _ _ _ _ _ [(0, vSl as1 s1 cs1), (1, vSl as2 s2 cs2), (12, iV ((s1.length : Nat) : Int)), (13, iV t13)] [] h
 refine .seq (.region (.V bi0 ?_))
 refine .nil (.seqN (.seq ?_))
 refine .cond rfl (fun q73 => ?_) (fun q73 => ?_)
 ·replace hF := hF.1 q73
  refine .skip (.seqN (.seq (.block (.seq (.region (.V mv0 ?_))))))
  refine .V ag0 ?_
  refine .nil (.seqN (.seq ?_))
  refine .open_ (by kernel_rfl) (by kernel_rfl) ?_
  refine .V mv0 ?_
  refine .V mv0 ?_
  obtain ⟨q80, hF⟩ := hF
  refine .V (ix rfl rfl tS22 (_q1.ne (by decide) (inb_pos q80)) q80) ?_
  refine .V (ld1 (v := iV (gt s1 t13)) rfl tO3 (cellH (_q1.elemF q80 (by decide) 0 _ rfl))) ?_
  refine .V mv0 ?_
  refine .V mv0 ?_
  obtain ⟨q81, hF⟩ := hF
  refine .V (ix rfl rfl tS22 (_q3.ne (by decide) (inb_pos q81)) q81) ?_
  refine .V (ld1 (v := iV (gt s2 t13)) rfl tO3 (cellH (_q3.elemF q81 (by decide) 0 _ rfl))) ?_
  refine .V bi0 ?_
  refine .fin ?_
  refine .seqN ?_
  refine .cond rfl (fun q82 => ?_) (fun q82 => ?_)
  ·replace hF := hF.1 q82
   refine .seq (.region (.V ag0 ?_))
   refine .nil (.seqN (.ret (.blkR (.seqR (.seqR (.blkR (.seqR ?_)))))))
   refine .res1 rfl (rvT rfl) (fun w' S => ⟨false, hF, rfl, S.below⟩)
  replace hF := hF.2 q82
  refine .skip (.blkN (.seqN (.region (.V bi0 ?_))))
  refine .V mv0 ?_
  refine .nil ?_
  exact .RO (wr (t13 + 1)) hF.1 hF.2
 replace hF := hF.2 q73
 refine .exit (.seqX (.seqX (.blkX (.seqN (.seq (.region (.V ag0 ?_)))))))
 refine .nil (.seqN (.ret ?_))
 refine .res1 rfl (rvT rfl) (fun w' S => ⟨true, hF, rfl, S.below⟩)
theorem c_sequal {h : FH} {w : World} (hs : Sub h w) (s1 : List Int) (as1 : Option Addr) (cs1 : Nat) (_q1 : RSl h as1 s1) (_q2 : s1.length ≤ cs1) (s2 : List Int) (as2 : Option Addr) (cs2 : Nat) (_q3 : RSl h as2 s2) (_q4 : s2.length ≤ cs2) (hp : pre_sequal s1 s2) : Calls Tryz.prog 70 #[.slice as1 s1.length cs1, .slice as2 s2.length cs2] w fun e w' => e = .returned (.bool (sp_sequal s1 s2)) ∧ Below w.heap.size w w' :=
 (w_sequal hs s1 as1 cs1 _q1 _q2 s2 as2 cs2 _q3 _q4 (fun r => r = sp_sequal s1 s2) (ok_sequal s1 s2 hp)).mono fun _ _ ⟨_, hk, he, hb⟩ => ⟨by rw [he, hk], hb⟩
theorem w_indexR {h : FH} {w : World} (hs : Sub h w) (s_ : List (List Int)) (as_ : Option Addr) (cs_ : Nat) (_q1 : RSl h as_ s_) (_q2 : s_.length ≤ cs_) (pf : (List Int) → Bool) (Df : (List Int) → Prop) (ff : FuncId) (firstf capsf : Array Value) (hff : ∀ args w, (callFunc ff args).run Tryz.prog w = .ok (.enter ff args) w) (hpf : ∀ (x : List Int) (a : Option Addr) (c : Nat), RSl h a x → x.length ≤ c → ∀ (w' : World), Df x → Sub h w' → Calls Tryz.prog ff (firstf.toList ++ [(.slice a x.length c : Value)] ++ capsf.toList).toArray w' fun e w'' => e = .returned (.bool (pf x)) ∧ Below w'.heap.size w' w'') (K : Int → Prop) (hF : F_indexR s_ pf Df K) : Calls Tryz.prog 72 #[.slice as_ s_.length cs_, .func (.func ff) firstf capsf] w fun e w' => ∃ r : Int, K r ∧ e = .returned (iV r) ∧ Below w.heap.size w w' := by
 refine enter (args := [vSl as_ s_ cs_, .func (.func ff) firstf capsf]) Tryz.func72 rfl Tryz.ntmps72 rfl hs ?_
 refine .seq (.region (.V ag0 ?_))
 refine .nil (.seqN (.seq (.seq (.region (.V mv0 ?_)))))
 refine .V (ln rfl tS35.is) ?_
 refine .V mv0 ?_
 refine .nil (.seqN (.block ?_))
 obtain ⟨I1, μ1, q125, q126⟩ := hF
 refine .loop' (σ := Int) (fun z => I1 z) (fun z => μ1 z) (fun z => [(0, vSl as_ s_ cs_), (1, .func (.func ff) firstf capsf), (7, iV ((s_.length : Nat) : Int)), (8, iV z)]) (fun _ => []) (fun _ => h) 0 q125 sb rfl (FH.le_refl _) ?_
 rintro t8 q125
 have hF := q126 t8 q125
 show J _ _ _ _ _ [(0, vSl as_ s_ cs_), (1, .func (.func ff) firstf capsf), (7, iV ((s_.length : Nat) : Int)), (8, iV t8)] [] h
 refine .seq (.region (.V bi0 ?_))
 refine .nil (.seqN (.seq ?_))
 refine .cond rfl (fun q129 => ?_) (fun q129 => ?_)
 ·replace hF := hF.1 q129
  refine .skip (.seqN (.seq (.block (.seq (.region (.V mv0 ?_))))))
  refine .V ag0 ?_
  refine .nil (.seqN (.seq (.region (.V mv0 ?_))))
  refine .V mv0 ?_
  refine .V mv0 ?_
  obtain ⟨q144, hF⟩ := hF
  refine .V (ix rfl rfl tS35 (_q1.ne (by decide) (inb_pos q144)) q144) ?_
  obtain ⟨_, ⟨a, c, rfl, q145, q146⟩, q147⟩ := _q1.elem q144
  refine .V (ld1 (v := .slice a ((gt s_ t8).length) c) rfl tO22 (cellH (q147 (by decide) 0 _ rfl))) ?_
  obtain ⟨q148, hF⟩ := hF
  obtain ⟨r2, q149⟩ : ∃ y_ : Bool, y_ = pf (gt s_ t8) := ⟨_, rfl⟩
  replace hF := hF r2 q149
  refine .C (cl (v := .bool r2) hff rfl rfl (fun w S => (by rw [q149]; exact hpf (gt s_ t8) a c q146 q145 w q148 (S.sub.anti (FH.le_refl _))))) ?_
  refine .nil (.seqN ?_)
  refine .cond rfl (fun q150 => ?_) (fun q150 => ?_)
  ·replace hF := hF.1 q150
   refine .seq (.region (.V mv0 ?_))
   refine .V ag0 ?_
   refine .nil (.seqN (.ret (.blkR (.seqR (.seqR (.blkR (.seqR ?_)))))))
   refine .res1 rfl (rvT rfl) (fun w' S => ⟨t8, hF, rfl, S.below⟩)
  replace hF := hF.2 q150
  refine .skip (.blkN (.seqN (.region (.V bi0 ?_))))
  refine .V mv0 ?_
  refine .nil ?_
  exact .RO (wr (t8 + 1)) hF.1 hF.2
 replace hF := hF.2 q129
 refine .exit (.seqX (.seqX (.blkX (.seqN (.seq (.region (.V ag0 ?_)))))))
 refine .nil (.seqN (.ret ?_))
 refine .res1 rfl (rvT rfl) (fun w' S => ⟨(-1), hF, rfl, S.below⟩)
theorem c_indexR {h : FH} {w : World} (hs : Sub h w) (s_ : List (List Int)) (as_ : Option Addr) (cs_ : Nat) (_q1 : RSl h as_ s_) (_q2 : s_.length ≤ cs_) (pf : (List Int) → Bool) (Df : (List Int) → Prop) (ff : FuncId) (firstf capsf : Array Value) (hff : ∀ args w, (callFunc ff args).run Tryz.prog w = .ok (.enter ff args) w) (hpf : ∀ (x : List Int) (a : Option Addr) (c : Nat), RSl h a x → x.length ≤ c → ∀ (w' : World), Df x → Sub h w' → Calls Tryz.prog ff (firstf.toList ++ [(.slice a x.length c : Value)] ++ capsf.toList).toArray w' fun e w'' => e = .returned (.bool (pf x)) ∧ Below w'.heap.size w' w'') (hp : pre_any s_ pf Df) : Calls Tryz.prog 72 #[.slice as_ s_.length cs_, .func (.func ff) firstf capsf] w fun e w' => e = .returned (iV (sp_indexF s_ pf Df)) ∧ Below w.heap.size w w' :=
 (w_indexR hs s_ as_ cs_ _q1 _q2 pf Df ff firstf capsf hff hpf (fun r => r = sp_indexF s_ pf Df) (ok_indexR s_ pf Df hp)).mono fun _ _ ⟨_, hk, he, hb⟩ => ⟨by rw [he, hk], hb⟩
theorem w_containsR {h : FH} {w : World} (hs : Sub h w) (s_ : List (List Int)) (as_ : Option Addr) (cs_ : Nat) (_q1 : RSl h as_ s_) (_q2 : s_.length ≤ cs_) (pf : (List Int) → Bool) (Df : (List Int) → Prop) (ff : FuncId) (firstf capsf : Array Value) (hff : ∀ args w, (callFunc ff args).run Tryz.prog w = .ok (.enter ff args) w) (hpf : ∀ (x : List Int) (a : Option Addr) (c : Nat), RSl h a x → x.length ≤ c → ∀ (w' : World), Df x → Sub h w' → Calls Tryz.prog ff (firstf.toList ++ [(.slice a x.length c : Value)] ++ capsf.toList).toArray w' fun e w'' => e = .returned (.bool (pf x)) ∧ Below w'.heap.size w' w'') (K : Bool → Prop) (hF : F_containsR s_ pf Df K) : Calls Tryz.prog 45 #[.slice as_ s_.length cs_, .func (.func ff) firstf capsf] w fun e w' => ∃ r : Bool, K r ∧ e = .returned (.bool r) ∧ Below w.heap.size w w' := by
 refine enter (args := [vSl as_ s_ cs_, .func (.func ff) firstf capsf]) Tryz.func45 rfl Tryz.ntmps45 rfl hs ?_
 refine .seq (.region (.V ag0 ?_))
 refine .nil (.seqN (.seq (.region (.V mv0 ?_))))
 refine .V mv0 ?_
 obtain ⟨q3, hF⟩ := hF
 obtain ⟨r2, q4⟩ : ∃ y_ : Int, y_ = sp_indexF s_ pf Df := ⟨_, rfl⟩
 replace hF := hF r2 q4
 refine .C (cl (v := iV r2) Tryz.call72 rfl rfl (fun w S => (by rw [q4]; exact c_indexR S.sub s_ as_ cs_ _q1 _q2 pf Df ff firstf capsf hff hpf q3))) ?_
 refine .V bi0 ?_
 refine .V ag0 ?_
 refine .nil (.seqN (.ret ?_))
 refine .res1 rfl (rvT rfl) (fun w' S => ⟨decide (0 ≤ r2), hF, rfl, S.below⟩)
theorem c_containsR {h : FH} {w : World} (hs : Sub h w) (s_ : List (List Int)) (as_ : Option Addr) (cs_ : Nat) (_q1 : RSl h as_ s_) (_q2 : s_.length ≤ cs_) (pf : (List Int) → Bool) (Df : (List Int) → Prop) (ff : FuncId) (firstf capsf : Array Value) (hff : ∀ args w, (callFunc ff args).run Tryz.prog w = .ok (.enter ff args) w) (hpf : ∀ (x : List Int) (a : Option Addr) (c : Nat), RSl h a x → x.length ≤ c → ∀ (w' : World), Df x → Sub h w' → Calls Tryz.prog ff (firstf.toList ++ [(.slice a x.length c : Value)] ++ capsf.toList).toArray w' fun e w'' => e = .returned (.bool (pf x)) ∧ Below w'.heap.size w' w'') (hp : pre_any s_ pf Df) : Calls Tryz.prog 45 #[.slice as_ s_.length cs_, .func (.func ff) firstf capsf] w fun e w' => e = .returned (.bool (sp_any s_ pf Df)) ∧ Below w.heap.size w w' :=
 (w_containsR hs s_ as_ cs_ _q1 _q2 pf Df ff firstf capsf hff hpf (fun r => r = sp_any s_ pf Df) (ok_containsR s_ pf Df hp)).mono fun _ _ ⟨_, hk, he, hb⟩ => ⟨by rw [he, hk], hb⟩
theorem w_reverse {h : FH} {w : World} (hs : Sub h w) (s_ : List Int) (as_ : Option Addr) (cs_ : Nat) {gX : FH} (ownX : OwnSl 3 1 as_ s_.length cs_ (flL s_) gX) (subX : Sub gX w) (disX : Disj h gX) (K : (List Int) → Prop) (hF : F_reverse s_ K) : Calls Tryz.prog 44 #[.slice as_ s_.length cs_] w fun e w' => ∃ r : List Int, K r ∧ e = .returned (.tuple #[]) ∧ SH (Kp.ex w h gX) h w' [OwnSl 3 1 as_ s_.length cs_ (flL r)] := by
 refine enterX (X := oL 3 1 as_ s_ cs_) (args := [vSl as_ s_ cs_]) Tryz.func44 rfl Tryz.ntmps44 rfl hs subX disX ownX ?_
 refine .seq (.region (.V mv0 ?_))
 refine .V (ln rfl tS22.is) ?_
 refine .V bi0 ?_
 refine .V ag0 ?_
 refine .V ag0 ?_
 refine .nil (.seqN (.block ?_))
 obtain ⟨I1, μ1, q52, q53⟩ := hF
 refine .loop' (σ := Int × Int × List Int) (fun z => I1 z.1 z.2.1 z.2.2 ∧ z.2.2.length = s_.length) (fun z => μ1 z.1 z.2.1 z.2.2) (fun z => [(0, vSl as_ s_ cs_), (2, iV z.1), (3, iV z.2.1)]) (fun z => [OwnSl 3 1 as_ s_.length cs_ (flL z.2.2)]) (fun _ => h) (0, wr (((s_.length : Nat) : Int) - 1), s_) ⟨q52, rfl⟩ sb rfl (FH.le_refl _) ?_
 rintro ⟨i, j, s_2⟩ ⟨q52, q27⟩
 have hF := q53 i j s_2 q52
 show J _ _ _ _ _ [(0, vSl as_ s_ cs_), (2, iV i), (3, iV j)] [OwnSl 3 1 as_ s_.length cs_ (flL s_2)] h
 refine .seq (.seq (.region (.V mv0 ?_)))
 refine .V mv0 ?_
 refine .V bi0 ?_
 refine .nil (.seqN ?_)
 refine .cond rfl (fun q55 => ?_) (fun q55 => ?_)
 ·replace hF := hF.1 q55
  refine .skip (.seqN (.seq (.block ?_)))
  obtain ⟨q70, q71, hF⟩ := hF
  refine .openA (s0 := [(0, vSl as_ s_ cs_), (2, iV i), (3, iV j)]) [0, 1, 2, 3, 4, 5, 6, 7, 8, 9, 10, 11, 12] [(0, vSl as_ s_ cs_), (1, iV i), (2, vSl as_ s_ cs_), (3, iV j), (4, vSl as_ s_ cs_), (5, iV j), (6, .pointer (some (ead as_ (j.toNat * 1)))), (7, iV (gt s_2 j)), (8, vSl as_ s_ cs_), (9, iV i), (10, .pointer (some (ead as_ (i.toNat * 1)))), (11, iV (gt s_2 i)), (12, .pointer (some (ead as_ (i.toNat * 1))))] (by kernel_rfl) sb [0, 2, 3] [] rfl (by kernel_rfl) ?_
  refine .step [13] 13 rfl (by kernel_rfl) (by kernel_rfl) (.v [] rfl rfl rfl rfl rfl rfl (fun _ => mv rfl) (.v [] rfl rfl rfl rfl rfl rfl (fun _ => mv rfl) (.v [] rfl rfl rfl rfl rfl rfl (fun _ => mv rfl) (.v [] rfl rfl rfl rfl rfl rfl (fun _ => mv rfl) (.v [] rfl rfl rfl rfl rfl rfl (fun _ => mv rfl) (.v [] rfl rfl rfl rfl rfl rfl (fun _ => mv rfl) (.v [(18, vSl as_ s_ cs_), (19, iV j)] rfl rfl rfl rfl rfl rfl (fun _ => ixS rfl rfl tS22 (k := 0) rfl (inb_n q70 q27)) (.v [(20, .pointer (some (ead as_ (j.toNat * 1))))] rfl rfl rfl rfl rfl rfl (fun _ => ld1 (v := iV (gt s_2 j)) rfl tO3 (cellS (k := 0) rfl (flL_get q70 (j := 0) rfl))) (.v [] rfl rfl rfl rfl rfl rfl (fun _ => mv rfl) (.v [] rfl rfl rfl rfl rfl rfl (fun _ => mv rfl) (.v [(22, vSl as_ s_ cs_), (23, iV i)] rfl rfl rfl rfl rfl rfl (fun _ => ixS rfl rfl tS22 (k := 0) rfl (inb_n q71 q27)) (.v [(24, .pointer (some (ead as_ (i.toNat * 1))))] rfl rfl rfl rfl rfl rfl (fun _ => ld1 (v := iV (gt s_2 i)) rfl tO3 (cellS (k := 0) rfl (flL_get q71 (j := 0) rfl))) (.v [(14, vSl as_ s_ cs_), (15, iV i), (14, vSl as_ s_ cs_), (15, iV i), (18, vSl as_ s_ cs_), (19, iV j), (20, .pointer (some (ead as_ (j.toNat * 1)))), (21, iV (gt s_2 j)), (25, iV (gt s_2 i))] rfl rfl rfl rfl rfl rfl (fun _ => ixS rfl rfl tS22 (k := 0) rfl (inb_n q71 q27)) (.nil)))))))))))))) (.cons [(26, .pointer (some (ead as_ (i.toNat * 1)))), (21, iV (gt s_2 j)), (14, vSl as_ s_ cs_), (15, iV i), (18, vSl as_ s_ cs_), (19, iV j), (20, .pointer (some (ead as_ (j.toNat * 1)))), (21, iV (gt s_2 j)), (25, iV (gt s_2 i))] rfl rfl (fun sL hL => ?_) (.nil))
  obtain ⟨d, q72⟩ : ∃ y_ : List Int, y_ = (s_2.set (i).toNat (gt s_2 j)) := ⟨_, rfl⟩
  replace hF := hF d q72
  refine stS (k := 0) (cs' := flL d) rfl (fun _ => rfl) rfl rfl (fun w => (tO3 w).2) rfl rfl rfl (by rw [← q27]; exact inb_pos q71) (fl_room q71) (by rw [q72]; exact flL_set q71 (gt s_2 j)) ?_
  have q73 : d.length = s_.length := by rw [q72]; exact List.length_set.trans q27
  refine .KA [OwnSl 3 1 as_ s_.length cs_ (flL d)] ?_
  refine .nil ?_
  obtain ⟨q74, hF⟩ := hF
  refine .jaN (M := [12, 7, 0, 1, 4, 5, 6, 11, 10, 8, 9]) (C' := [2, 3, 14]) (pre := [(14, .pointer (some (ead as_ (j.toNat * 1))))]) [0, 2, 3] hL rfl rfl rfl rfl rfl (by kernel_rfl) ?_
  refine .step [15] 15 rfl (by kernel_rfl) (by kernel_rfl) (.v [] rfl rfl rfl rfl rfl rfl (fun _ => mv rfl) (.v [] rfl rfl rfl rfl rfl rfl (fun _ => mv rfl) (.v [(16, vSl as_ s_ cs_), (17, iV j), (14, vSl as_ s_ cs_), (15, iV i), (16, vSl as_ s_ cs_), (17, iV j), (18, vSl as_ s_ cs_), (19, iV j), (20, .pointer (some (ead as_ (j.toNat * 1)))), (21, iV (gt s_2 j)), (22, vSl as_ s_ cs_), (23, iV i), (24, .pointer (some (ead as_ (i.toNat * 1)))), (25, iV (gt s_2 i)), (26, .pointer (some (ead as_ (i.toNat * 1))))] rfl rfl rfl rfl rfl rfl (fun _ => ixS rfl rfl tS22 (k := 0) rfl (inb_n q74 q73)) (.nil)))) (.cons [(27, .pointer (some (ead as_ (j.toNat * 1)))), (25, iV (gt s_2 i)), (14, vSl as_ s_ cs_), (15, iV i), (16, vSl as_ s_ cs_), (17, iV j), (18, vSl as_ s_ cs_), (19, iV j), (20, .pointer (some (ead as_ (j.toNat * 1)))), (21, iV (gt s_2 j)), (22, vSl as_ s_ cs_), (23, iV i), (24, .pointer (some (ead as_ (i.toNat * 1)))), (25, iV (gt s_2 i)), (26, .pointer (some (ead as_ (i.toNat * 1))))] rfl rfl (fun sL hL => ?_) (.nil))
  obtain ⟨d2, q75⟩ : ∃ y_ : List Int, y_ = (d.set (j).toNat (gt s_2 i)) := ⟨_, rfl⟩
  replace hF := hF d2 q75
  refine stS (k := 0) (cs' := flL d2) rfl (fun _ => rfl) rfl rfl (fun w => (tO3 w).2) rfl rfl rfl (by rw [← q73]; exact inb_pos q74) (fl_room q74) (by rw [q75]; exact flL_set q74 (gt s_2 i)) ?_
  have q76 : d2.length = s_.length := by rw [q75]; exact List.length_set.trans q73
  refine .KA [OwnSl 3 1 as_ s_.length cs_ (flL d2)] ?_
  refine .nil ?_
  refine .jaN (M := [14, 2, 3]) (C' := []) (pre := []) [0, 2, 3] hL rfl rfl rfl rfl rfl (by kernel_rfl) ?_
  refine .last [(14, vSl as_ s_ cs_), (15, iV i), (16, vSl as_ s_ cs_), (17, iV j), (18, vSl as_ s_ cs_), (19, iV j), (20, .pointer (some (ead as_ (j.toNat * 1)))), (21, iV (gt s_2 j)), (22, vSl as_ s_ cs_), (23, iV i), (24, .pointer (some (ead as_ (i.toNat * 1)))), (25, iV (gt s_2 i)), (26, .pointer (some (ead as_ (i.toNat * 1)))), (27, .pointer (some (ead as_ (j.toNat * 1))))] rfl (by kernel_rfl) (.nil) rfl ?_
  refine .blkN (.seqN (.region (.V mv0 ?_)))
  refine .V bi0 ?_
  refine .V mv0 ?_
  refine .V bi0 ?_
  refine .V ag0 ?_
  refine .V ag0 ?_
  refine .nil ?_
  exact .RO (wr (i + 1), wr (j - 1), d2) ⟨hF.1, q76⟩ hF.2
 replace hF := hF.2 q55
 refine .exit (.seqX (.seqX (.blkX ?_)))
 refine .res0 (.inr rfl) rfl (fun w' S => ⟨s_2, hF, rfl, S.pick (k := 0) rfl⟩)
theorem c_reverse {h : FH} {w : World} (hs : Sub h w) (s_ : List Int) (as_ : Option Addr) (cs_ : Nat) {gX : FH} (ownX : OwnSl 3 1 as_ s_.length cs_ (flL s_) gX) (subX : Sub gX w) (disX : Disj h gX) (hp : pre_reverse s_) : Calls Tryz.prog 44 #[.slice as_ s_.length cs_] w fun e w' => e = .returned (.tuple #[]) ∧ SH (Kp.ex w h gX) h w' [OwnSl 3 1 as_ s_.length cs_ (flL (sp_reverse s_))] :=
 (w_reverse hs s_ as_ cs_ ownX subX disX (fun r => r = sp_reverse s_) (ok_reverse s_ hp)).mono fun _ _ ⟨r, hk, he, hS⟩ => ⟨he, by rw [← hk]; exact hS⟩
theorem w_unknownFault {h : FH} {w : World} (hs : Sub h w) (t : Task) (at_ : Option Addr) (ct : Nat) (_q1 : RSl h at_ t.init) (_q2 : t.init.length ≤ ct) (at_2 : Option Addr) (ct2 : Nat) (_q3 : RSl h at_2 t.goal) (_q4 : t.goal.length ≤ ct2) (at_3 : Option Addr) (ct3 : Nat) (_q5 : RSl h at_3 t.ops) (_q6 : t.ops.length ≤ ct3) (unknown : List Int) (aunknown : Option Addr) (cunknown : Nat) (_q7 : RSl h aunknown unknown) (_q8 : unknown.length ≤ cunknown) (K : Fault → Prop) (hF : F_unknownFault t unknown K) : Calls Tryz.prog 13 #[.agg #[iV t.facts, .slice at_ t.init.length ct, .slice at_2 t.goal.length ct2, .slice at_3 t.ops.length ct3], .slice aunknown unknown.length cunknown] w fun e w' => ∃ r : Fault, K r ∧ e = .returned (.agg #[iV r.code, iV r.index]) ∧ Below w.heap.size w w' := by
 refine enter (args := [.agg (tF t at_ ct at_2 ct2 at_3 ct3).toArray, vSl aunknown unknown cunknown]) Tryz.func13 rfl Tryz.ntmps13 rfl hs ?_
 refine .seq (.region ?_)
 refine bx (vs := (tF t at_ ct at_2 ct2 at_3 ct3)) rfl rfl rfl (fun pt => ?_)
 refine al tZ27 rfl (fun pv => ?_)
 refine .nil (.seqN (.seq (.seq (.region (.V (ldA (cs := (tF t at_ ct at_2 ct2 at_3 ct3)) rfl tA25 rfl (cellsB (off := 0) (k := 1) rfl (m := 4) rfl)) ?_)))))
 obtain ⟨r2, q9⟩ : ∃ y_ : Fault, y_ = sp_validate t := ⟨_, rfl⟩
 replace hF := hF r2 q9
 refine .C (cl (v := .agg #[iV r2.code, iV r2.index]) Tryz.call37 rfl rfl (fun w S => (by rw [q9]; exact c_validate S.sub t at_ ct _q1 _q2 at_2 ct2 _q3 _q4 at_3 ct3 _q5 _q6 ))) ?_
 refine al tZ27 rfl (fun pf => ?_)
 refine st (p := pf) (off := 0) (k := 0) (vs := [iV r2.code, iV r2.index]) rfl rfl rfl (fun w => (tA27 w).2) rfl rfl rfl rfl ?_
 refine .KA [Box pf [iV r2.code, iV r2.index], Box pv [iV 0, iV 0], Box pt (tF t at_ ct at_2 ct2 at_3 ct3)] ?_
 refine .nil (.seqN (.seq (.region (.V (ldA (cs := [iV r2.code, iV r2.index]) rfl tA27 rfl (cellsB (off := 0) (k := 0) rfl (m := 2) rfl)) ?_))))
 refine .V (bld (cs := #[iV 0, iV 0]) (pv := []) tB27 rfl rfl) ?_
 refine .V (ne2 tE27 rfl rfl) ?_
 refine .nil (.seqN ?_)
 refine .cond rfl (fun q11 => ?_) (fun q11 => ?_)
 ·replace hF := hF.1 q11
  refine .seq (.region (.V (ldA (cs := [iV r2.code, iV r2.index]) rfl tA27 rfl (cellsB (off := 0) (k := 0) rfl (m := 2) rfl)) ?_))
  refine st (p := pv) (off := 0) (k := 1) (vs := [iV r2.code, iV r2.index]) rfl rfl rfl (fun w => (tA27 w).2) rfl rfl rfl rfl ?_
  refine .KA [Box pf [iV r2.code, iV r2.index], Box pv [iV r2.code, iV r2.index], Box pt (tF t at_ ct at_2 ct2 at_3 ct3)] ?_
  refine .nil (.seqN (.ret (.seqR ?_)))
  refine .res1 rfl (rvC rfl tA27 (k := 1) rfl rfl) (fun w' S => ⟨r2, hF, rfl, S.below⟩)
 replace hF := hF.2 q11
 refine .skip (.seqN (.seq (.block (.seq (.region (.V mv0 ?_))))))
 refine .V (ln rfl tS22.is) ?_
 refine .V bi0 ?_
 refine .V ag0 ?_
 refine .nil (.seqN ?_)
 refine .cond rfl (fun q20 => ?_) (fun q20 => ?_)
 ·replace hF := hF.1 q20
  refine .seq (.region (.V (bld (cs := #[iV 2, iV (-8)]) (pv := [(0, iV 2), (1, iV (-8))]) tB27 rfl rfl) ?_))
  refine st (p := pv) (off := 0) (k := 1) (vs := [iV 2, iV (-8)]) rfl rfl rfl (fun w => (tA27 w).2) rfl rfl rfl rfl ?_
  refine .KA [Box pf [iV r2.code, iV r2.index], Box pv [iV 2, iV (-8)], Box pt (tF t at_ ct at_2 ct2 at_3 ct3)] ?_
  refine .nil (.seqN (.ret (.blkR (.seqR ?_))))
  refine .res1 rfl (rvC rfl tA27 (k := 1) rfl rfl) (fun w' S => ⟨(⟨2, (-8)⟩ : Fault), hF, rfl, S.below⟩)
 replace hF := hF.2 q20
 refine .seq (.region (.V mv0 ?_))
 refine .V (fa rfl tF25_0) ?_
 refine .V (ld1 rfl tO3 (cellB (off := 0) (k := 2) rfl rfl)) ?_
 obtain ⟨q21, hF⟩ := hF
 obtain ⟨r3, q22⟩ : ∃ y_ : Bool, y_ = sp_isSet unknown t.facts := ⟨_, rfl⟩
 replace hF := hF r3 q22
 refine .C (cl (v := .bool r3) Tryz.call38 rfl rfl (fun w S => (by rw [q22]; exact c_isSet S.sub unknown aunknown cunknown _q7 _q8 t.facts q21))) ?_
 refine .V (nt rfl) ?_
 refine .V ag0 ?_
 refine .nil (.seqN ?_)
 refine .cond rfl (fun q23 => ?_) (fun q23 => ?_)
 ·replace hF := hF.1 q23
  refine .seq (.region (.V (bld (cs := #[iV 5, iV (-8)]) (pv := [(0, iV 5), (1, iV (-8))]) tB27 rfl rfl) ?_))
  refine st (p := pv) (off := 0) (k := 1) (vs := [iV 5, iV (-8)]) rfl rfl rfl (fun w => (tA27 w).2) rfl rfl rfl rfl ?_
  refine .KA [Box pf [iV r2.code, iV r2.index], Box pv [iV 5, iV (-8)], Box pt (tF t at_ ct at_2 ct2 at_3 ct3)] ?_
  refine .nil (.seqN (.ret (.blkR (.seqR ?_))))
  refine .res1 rfl (rvC rfl tA27 (k := 1) rfl rfl) (fun w' S => ⟨(⟨5, (-8)⟩ : Fault), hF, rfl, S.below⟩)
 replace hF := hF.2 q23
 refine .skip (.blkN (.seqN (.seq (.region (.V (bld (cs := #[iV 0, iV 0]) (pv := []) tB27 rfl rfl) ?_)))))
 refine st (p := pv) (off := 0) (k := 1) (vs := [iV 0, iV 0]) rfl rfl rfl (fun w => (tA27 w).2) rfl rfl rfl rfl ?_
 refine .KA [Box pf [iV r2.code, iV r2.index], Box pv [iV 0, iV 0], Box pt (tF t at_ ct at_2 ct2 at_3 ct3)] ?_
 refine .nil (.seqN (.ret ?_))
 refine .res1 rfl (rvC rfl tA27 (k := 1) rfl rfl) (fun w' S => ⟨(⟨0, 0⟩ : Fault), hF, rfl, S.below⟩)
theorem c_unknownFault {h : FH} {w : World} (hs : Sub h w) (t : Task) (at_ : Option Addr) (ct : Nat) (_q1 : RSl h at_ t.init) (_q2 : t.init.length ≤ ct) (at_2 : Option Addr) (ct2 : Nat) (_q3 : RSl h at_2 t.goal) (_q4 : t.goal.length ≤ ct2) (at_3 : Option Addr) (ct3 : Nat) (_q5 : RSl h at_3 t.ops) (_q6 : t.ops.length ≤ ct3) (unknown : List Int) (aunknown : Option Addr) (cunknown : Nat) (_q7 : RSl h aunknown unknown) (_q8 : unknown.length ≤ cunknown) : Calls Tryz.prog 13 #[.agg #[iV t.facts, .slice at_ t.init.length ct, .slice at_2 t.goal.length ct2, .slice at_3 t.ops.length ct3], .slice aunknown unknown.length cunknown] w fun e w' => e = .returned (.agg #[iV (sp_unknownFault t unknown).code, iV (sp_unknownFault t unknown).index]) ∧ Below w.heap.size w w' :=
 (w_unknownFault hs t at_ ct _q1 _q2 at_2 ct2 _q3 _q4 at_3 ct3 _q5 _q6 unknown aunknown cunknown _q7 _q8 (fun r => r = sp_unknownFault t unknown) (ok_unknownFault t unknown)).mono fun _ _ ⟨_, hk, he, hb⟩ => ⟨by rw [he, hk], hb⟩
theorem w_sure1 {h : FH} {w : World} (hs : Sub h w) (s_ : List Int) (as_ : Option Addr) (cs_ : Nat) (_q1 : RSl h as_ s_) (_q2 : s_.length ≤ cs_) (x : List Int) (ax : Option Addr) (cx : Nat) (_q3 : RSl h ax x) (_q4 : x.length ≤ cx) (px : Addr) (_q5 : CellsAt h px [.slice ax x.length cx]) (K : Bool → Prop) (hF : F_sure1 s_ x K) : Calls Tryz.prog 46 #[.slice as_ s_.length cs_, .pointer (some px)] w fun e w' => ∃ r : Bool, K r ∧ e = .returned (.bool r) ∧ Below w.heap.size w w' := by
 refine enter (args := [vSl as_ s_ cs_, .pointer (some px)]) Tryz.func46 rfl Tryz.ntmps46 rfl hs ?_
 refine .seq (.region (.V ag0 ?_))
 refine .nil (.seqN (.seq (.region (.V mv0 ?_))))
 refine .V (ld1 (v := vSl ax x cx) rfl tO22 (cellH (CellsAt.mono (FH.le_refl _) _q5 0 _ rfl))) ?_
 obtain ⟨q6, hF⟩ := hF
 obtain ⟨r2, q7⟩ : ∃ y_ : Bool, y_ = sp_contains2 s_ x := ⟨_, rfl⟩
 replace hF := hF r2 q7
 refine .C (cl (v := .bool r2) Tryz.call36 rfl rfl (fun w S => (by rw [q7]; exact c_contains2 S.sub s_ as_ cs_ _q1 _q2 x ax cx _q3 _q4 q6))) ?_
 refine .V (nt rfl) ?_
 refine .V ag0 ?_
 refine .nil (.seqN (.ret ?_))
 refine .res1 rfl (rvT rfl) (fun w' S => ⟨!r2, hF, rfl, S.below⟩)
theorem c_sure1 {h : FH} {w : World} (hs : Sub h w) (s_ : List Int) (as_ : Option Addr) (cs_ : Nat) (_q1 : RSl h as_ s_) (_q2 : s_.length ≤ cs_) (x : List Int) (ax : Option Addr) (cx : Nat) (_q3 : RSl h ax x) (_q4 : x.length ≤ cx) (px : Addr) (_q5 : CellsAt h px [.slice ax x.length cx]) (hp : pre_sure1 s_ x) : Calls Tryz.prog 46 #[.slice as_ s_.length cs_, .pointer (some px)] w fun e w' => e = .returned (.bool (sp_sure1 s_ x)) ∧ Below w.heap.size w w' :=
 (w_sure1 hs s_ as_ cs_ _q1 _q2 x ax cx _q3 _q4 px _q5 (fun r => r = sp_sure1 s_ x) (ok_sure1 s_ x hp)).mono fun _ _ ⟨_, hk, he, hb⟩ => ⟨by rw [he, hk], hb⟩
theorem w_sure {h : FH} {w : World} (hs : Sub h w) (worlds : List (List Int)) (aworlds : Option Addr) (cworlds : Nat) (_q1 : RSl h aworlds worlds) (_q2 : worlds.length ≤ cworlds) (facts : List Int) (afacts : Option Addr) (cfacts : Nat) (_q3 : RSl h afacts facts) (_q4 : facts.length ≤ cfacts) (K : Bool → Prop) (hF : F_sure worlds facts K) : Calls Tryz.prog 20 #[.slice aworlds worlds.length cworlds, .slice afacts facts.length cfacts] w fun e w' => ∃ r : Bool, K r ∧ e = .returned (.bool r) ∧ Below w.heap.size w w' := by
 refine enter (args := [vSl aworlds worlds cworlds, vSl afacts facts cfacts]) Tryz.func20 rfl Tryz.ntmps20 rfl hs ?_
 refine .seq (.region ?_)
 refine bx (vs := [vSl afacts facts cfacts]) rfl rfl rfl (fun pfacts => ?_)
 refine .V ag0 ?_
 refine .nil (.seqN (.seq (.region (.V mv0 ?_))))
 refine .V (mkf (vf := []) (vc := [.pointer (some pfacts)]) rfl rfl) ?_
 obtain ⟨q5, hF⟩ := hF
 obtain ⟨r2, q6⟩ : ∃ y_ : Bool, y_ = sp_any worlds (fun y_ : List Int => sp_sure1 y_ facts) (fun y_ : List Int => pre_sure1 y_ facts) := ⟨_, rfl⟩
 replace hF := hF r2 q6
 refine .C (cl (v := .bool r2) Tryz.call45 rfl rfl (fun w S => (by rw [q6]; obtain ⟨h_, hl_, hs_, hb_⟩ := lookB S (k := 0) rfl; exact c_containsR hs_ worlds aworlds cworlds (RSl.mono hl_ _q1) _q2 (fun y_ : List Int => sp_sure1 y_ facts) (fun y_ : List Int => pre_sure1 y_ facts) 46 #[] #[.pointer (some pfacts)] Tryz.call46 (fun x a_ c_ r_ l_ w' hD hs' => c_sure1 hs' x a_ c_ r_ l_ facts afacts cfacts (RSl.mono hl_ _q3) _q4 pfacts hb_ hD) q5))) ?_
 refine .V (nt rfl) ?_
 refine .V ag0 ?_
 refine .nil (.seqN (.ret ?_))
 refine .res1 rfl (rvT rfl) (fun w' S => ⟨!r2, hF, rfl, S.below⟩)
theorem c_sure {h : FH} {w : World} (hs : Sub h w) (worlds : List (List Int)) (aworlds : Option Addr) (cworlds : Nat) (_q1 : RSl h aworlds worlds) (_q2 : worlds.length ≤ cworlds) (facts : List Int) (afacts : Option Addr) (cfacts : Nat) (_q3 : RSl h afacts facts) (_q4 : facts.length ≤ cfacts) (hp : pre_sure worlds facts) : Calls Tryz.prog 20 #[.slice aworlds worlds.length cworlds, .slice afacts facts.length cfacts] w fun e w' => e = .returned (.bool (sp_sure worlds facts)) ∧ Below w.heap.size w w' :=
 (w_sure hs worlds aworlds cworlds _q1 _q2 facts afacts cfacts _q3 _q4 (fun r => r = sp_sure worlds facts) (ok_sure worlds facts hp)).mono fun _ _ ⟨_, hk, he, hb⟩ => ⟨by rw [he, hk], hb⟩
end Go.Proofs.YtimillpakjgnoaaGreatDoor.Pl

namespace Go.Proofs.YtimillpakjgnoaaGreatDoor.Pl.Pd
open Go Go.RowKit
def dr (w : World) : Nat := w.drawn
theorem dr_drew (w : World) : dr w ≤ dr w.drew := by unfold dr; first | exact Nat.le_succ _ | exact Nat.le_refl _
theorem run_dr {p : Program} {α : Type} (m : Sem α) (w w' : World) (v : α) (h : m.run p w = .ok v w') : dr w ≤ dr w' := by
 have := run_drawn m w w' v h
 unfold dr; omega
structure Below (B : Nat) (w w' : World) : Prop where
 os : w'.os = w.os
 tape : w'.tape = w.tape
 output : w'.output = w.output
 size : w.heap.size ≤ w'.heap.size
 block : ∀ k, k < B → w'.heap[k]? = w.heap[k]?
 drawn : dr w ≤ dr w'
theorem Below.toK {B : Nat} {w w' : World} (h : Below B w w') : Go.RowKit.Below B w w' := ⟨h.os, h.tape, h.output, h.size, h.block⟩
theorem Below.refl (B : Nat) (w : World) : Below B w w := ⟨rfl, rfl, rfl, Nat.le_refl _, fun _ _ => rfl, Nat.le_refl _⟩
theorem Below.drew {B : Nat} {a w : World} (h : Below B a w) : Below B a w.drew := ⟨h.os, h.tape, h.output, h.size, h.block, Nat.le_trans h.drawn (dr_drew _)⟩
theorem Below.alloc {B : Nat} {a w : World} (h : Below B a w) (hB : B ≤ w.heap.size) (o : Obj) : Below B a (w.alloc o) :=
 have k := h.toK.alloc hB o
 ⟨k.os, k.tape, k.output, k.size, k.block, h.drawn⟩
structure Kept (K : Kp) (w : World) : Prop where
 os : w.os = K.w.os
 tape : w.tape = K.w.tape
 output : w.output = K.w.output
 size : K.w.heap.size ≤ w.heap.size
 block : ∀ b, K.keep b → w.heap[b]? = K.w.heap[b]?
 drawn : dr K.w ≤ dr w
theorem Kept.start (w : World) (h : FH) : Kept (Kp.all w h) w := ⟨rfl, rfl, rfl, Nat.le_refl _, fun _ _ => rfl, Nat.le_refl _⟩
theorem Kept.below {w w' : World} {h : FH} (k : Kept (Kp.all w h) w') : Below w.heap.size w w' := ⟨k.os, k.tape, k.output, k.size, k.block, k.drawn⟩
structure SH (K : Kp) (h : FH) (w : World) (A : List Asrt) : Prop where
 kept : Kept K w
 sub : Sub h w
 fresh : ∀ b, h b ≠ none → K.h b ≠ none ∨ ¬ K.keep b
 parts : ∃ gs, Parts K h w A gs
section
variable {K : Kp} {h : FH} {w : World} {A : List Asrt}
theorem SH.start (w : World) (h : FH) (s : Sub h w) : SH (Kp.all w h) h w [] :=
 ⟨Kept.start w h, s, fun _ h => .inl h, [], rfl, by simp, by simp, by simp⟩
theorem SH.below {w0 : World} {h0 : FH} (s : SH (Kp.all w0 h0) h w A) : Below w0.heap.size w0 w := s.kept.below
theorem SH.anti {h' : FH} (hl : FH.le h h') (s : SH K h' w A) : SH K h w A := by
 obtain ⟨gs, p1, p2, p3, p4⟩ := s.parts
 refine ⟨s.kept, s.sub.anti hl, fun b hb => s.fresh b (by
  cases e : h b with
  | none => exact absurd e hb
  | some o => rw [hl b o e]; simp), gs, p1, p2, fun i g hi => ?_, p4⟩
 have o := p3 i g hi
 refine ⟨fun b => ?_, o.sub, o.free⟩
 rcases o.disj b with e | e
 ·cases hb : h b with
  | none => exact .inl rfl
  | some x => rw [hl _ _ hb] at e; cases e
 ·exact .inr e
theorem SH.ext {w' : World} (s : SH K h w A) (hb : Below w.heap.size w w') : SH K h w' A := by
 obtain ⟨gs, p1, p2, p3, p4⟩ := s.parts
 refine ⟨⟨hb.os.trans s.kept.os, hb.tape.trans s.kept.tape, hb.output.trans s.kept.output, Nat.le_trans s.kept.size hb.size, fun b hk => ?_, Nat.le_trans s.kept.drawn hb.drawn⟩, s.sub.ext hb.block, s.fresh, gs, p1, p2, fun i g hi => ⟨(p3 i g hi).disj, (p3 i g hi).sub.ext hb.block, (p3 i g hi).free⟩, p4⟩
 rw [hb.block b (Nat.lt_of_lt_of_le (K.lt b hk) s.kept.size)]
 exact s.kept.block b hk
theorem SH.upd {k : Nat} {X : Asrt} (s : SH K h w A) (hk : A[k]? = some X) :
  ∃ g, X g ∧ Own K h w g ∧ ∀ (X' : Asrt) (g' : FH) (w' : World), X' g' → Sub g' w' → (∀ b, g' b ≠ none → g b ≠ none ∨ w.heap.size ≤ b) →
   (∀ b, b < w.heap.size → g b = none → w'.heap[b]? = w.heap[b]?) → w'.os = w.os → w'.tape = w.tape → w'.output = w.output → w.heap.size ≤ w'.heap.size → dr w ≤ dr w' →
   SH K h w' (A.set k X') := by
 obtain ⟨gs, p1, p2, p3, p4⟩ := s.parts
 have hkl : k < gs.length := by rw [p1]; exact (List.getElem?_eq_some_iff.1 hk).1
 have hg : gs[k]? = some gs[k] := List.getElem?_eq_getElem hkl
 have own := p3 k _ hg
 refine ⟨gs[k], p2 k _ X hg hk, own, fun X' g' w' hx hs hdom hsame h1 h2 h3 hsz hdr => ?_⟩
 have out : ∀ b, b < w.heap.size → (∃ i g, i ≠ k ∧ gs[i]? = some g ∧ g b ≠ none) → w'.heap[b]? = w.heap[b]? := fun b hb ⟨i, g, hi, hgi, hne⟩ => by
  refine hsame b hb ?_
  rcases p4 i k g _ hi hgi hg b with e | e
  ·exact absurd e hne
  ·exact e
 refine ⟨⟨h1.trans s.kept.os, h2.trans s.kept.tape, h3.trans s.kept.output, Nat.le_trans s.kept.size hsz, fun b hkb => ?_, Nat.le_trans s.kept.drawn hdr⟩, fun b o e => ?_, s.fresh, gs.set k g', by simp [p1], fun i g Y hi hY => ?_, fun i g hi => ?_, fun i j g g2 hij hi hj => ?_⟩
 ·have hb := Nat.lt_of_lt_of_le (K.lt b hkb) s.kept.size
  refine (hsame b hb ?_).trans (s.kept.block b hkb)
  cases e : gs[k] b with
  | none => rfl
  | some o => exact absurd hkb (own.free b (by simp [e]))
 ·have hb := s.sub.lt e
  refine (hsame b hb ?_).trans (s.sub b o e)
  rcases own.disj b with e' | e'
  ·rw [e] at e'; cases e'
  ·exact e'
 ·rcases list_set_get hi with ⟨rfl, rfl, _⟩ | ⟨hne, hi'⟩
  ·rcases list_set_get hY with ⟨_, rfl, _⟩ | ⟨hne, _⟩
   ·exact hx
   ·exact absurd rfl hne
  ·rcases list_set_get hY with ⟨rfl, _, _⟩ | ⟨_, hY'⟩
   ·exact absurd rfl hne
   ·exact p2 i g Y hi' hY'
 ·rcases list_set_get hi with ⟨rfl, rfl, _⟩ | ⟨hne, hi'⟩
  ·refine ⟨fun b => ?_, hs, fun b hb hkb => ?_⟩
   ·cases e : g b with
    | none => exact .inr rfl
    | some o =>
     refine .inl ?_
     rcases hdom b (by simp [e]) with e' | e'
     ·rcases own.disj b with x | x
      ·exact x
      ·exact absurd x e'
     ·cases hh : h b with
      | none => rfl
      | some o' => have := s.sub.lt hh; omega
   ·rcases hdom b hb with e' | e'
    ·exact own.free b e' hkb
    ·have := Nat.lt_of_lt_of_le (K.lt b hkb) s.kept.size; omega
  ·have o := p3 i g hi'
   refine ⟨o.disj, fun b ob e => ?_, o.free⟩
   exact (out b (o.sub.lt e) ⟨i, g, hne, hi', by simp [e]⟩).trans (o.sub b ob e)
 ·have key : ∀ i g, i ≠ k → gs[i]? = some g → Disj g' g := fun i g hne hi' b => by
   cases e : g' b with
   | none => exact .inl rfl
   | some o =>
    refine .inr ?_
    rcases hdom b (by simp [e]) with e' | e'
    ·rcases p4 i k g _ hne hi' hg b with x | x
     ·exact x
     ·exact absurd x e'
    ·cases hh : g b with
     | none => rfl
     | some o' => have := (p3 i g hi').sub.lt hh; omega
  rcases list_set_get hi with ⟨rfl, rfl, _⟩ | ⟨hne, hi'⟩
  ·rcases list_set_get hj with ⟨rfl, _, _⟩ | ⟨hne2, hj'⟩
   ·exact absurd rfl hij
   ·exact key j g2 hne2 hj'
  ·rcases list_set_get hj with ⟨rfl, rfl, _⟩ | ⟨hne2, hj'⟩
   ·exact (key i g hne hi').symm
   ·exact p4 i j g g2 hij hi' hj'
theorem SH.push {w' : World} {X : Asrt} {g : FH} (s : SH K h w A) (hb : Below w.heap.size w w') (hx : X g) (hs : Sub g w') (hnew : ∀ b, g b ≠ none → w.heap.size ≤ b) : SH K h w' (X :: A) := by
 have s' := s.ext hb
 obtain ⟨gs0, q1, q2, q3, q4⟩ := s.parts
 refine ⟨s'.kept, s'.sub, s.fresh, g :: gs0, by simp [q1], fun i g1 Y hi hY => ?_, fun i g1 hi => ?_, fun i j g1 g2 hij hi hj => ?_⟩
 ·cases i with
  | zero => simp at hi hY; subst hi; subst hY; exact hx
  | succ i => simp at hi hY; exact q2 i g1 Y hi hY
 ·cases i with
  | zero =>
   simp at hi; subst hi
   refine ⟨fun b => ?_, hs, fun b hb' hk => ?_⟩
   ·cases e : h b with
    | none => exact .inl rfl
    | some o =>
     refine .inr ?_
     cases e2 : g b with
     | none => rfl
     | some o2 => have h1 := s.sub.lt e; have h2 := hnew b (by simp [e2]); omega
   ·have h1 := hnew b hb'; have h2 := Nat.lt_of_lt_of_le (K.lt b hk) s.kept.size; omega
  | succ i => simp at hi; exact ⟨(q3 i g1 hi).disj, (q3 i g1 hi).sub.ext hb.block, (q3 i g1 hi).free⟩
 ·have key : ∀ i g1, gs0[i]? = some g1 → Disj g g1 := fun i g1 hi b => by
   cases e : g1 b with
   | none => exact .inr rfl
   | some o =>
    refine .inl ?_
    cases e2 : g b with
    | none => rfl
    | some o2 => have h1 := (q3 i g1 hi).sub.lt e; have h2 := hnew b (by simp [e2]); omega
  cases i with
  | zero =>
   simp at hi; subst hi
   cases j with
   | zero => exact absurd rfl hij
   | succ j => simp at hj; exact key j g2 hj
  | succ i =>
   simp at hi
   cases j with
   | zero => simp at hj; subst hj; exact (key i g1 hi).symm
   | succ j => simp at hj; exact q4 i j g1 g2 (by omega) hi hj
theorem SH.merge {w' : World} {h0 h1 : FH} {B : List Asrt} (s : SH K h w A) (r : SH (Kp.all w h0) h1 w' B) (fr : ∀ b, h1 b ≠ none → h b ≠ none ∨ w.heap.size ≤ b) : SH K h1 w' (B ++ A) := by
 have s' := s.ext r.below
 obtain ⟨gs, p1, p2, p3, p4⟩ := s.parts
 obtain ⟨gr, r1, r2, r3, r4⟩ := r.parts
 have old : ∀ (i : Nat) (g : FH) (b : Nat), gs[i]? = some g → g b ≠ none → b < w.heap.size := fun i g b hi hb => by
  cases e : g b with
  | none => exact absurd e hb
  | some o => exact (p3 i g hi).sub.lt e
 have new : ∀ (i : Nat) (g : FH) (b : Nat), gr[i]? = some g → g b ≠ none → w.heap.size ≤ b := fun i g b hi hb => Nat.le_of_not_lt ((r3 i g hi).free b hb)
 have cut : ∀ (i : Nat) (X : FH), (gr ++ gs)[i]? = some X → (i < gr.length ∧ gr[i]? = some X) ∨ (gr.length ≤ i ∧ gs[i - gr.length]? = some X) := fun i X hi => by
  by_cases hlt : i < gr.length
  ·rw [List.getElem?_append_left hlt] at hi; exact .inl ⟨hlt, hi⟩
  ·rw [List.getElem?_append_right (by omega)] at hi; exact .inr ⟨by omega, hi⟩
 refine ⟨s'.kept, r.sub, fun b hb => ?_, gr ++ gs, by simp [p1, r1], fun i g X hi hX => ?_, fun i g hi => ?_, fun i j g g2 hij hi hj => ?_⟩
 ·rcases fr b hb with e | e
  ·exact s.fresh b e
  ·exact .inr fun hk => by have := Nat.lt_of_lt_of_le (K.lt b hk) s.kept.size; omega
 ·rcases cut i g hi with ⟨hlt, hi'⟩ | ⟨hge, hi'⟩
  ·rw [List.getElem?_append_left (by omega)] at hX; exact r2 i g X hi' hX
  ·rw [List.getElem?_append_right (by omega)] at hX; rw [r1] at hi'; exact p2 _ g X hi' hX
 ·rcases cut i g hi with ⟨hlt, hi'⟩ | ⟨hge, hi'⟩
  ·refine ⟨(r3 i g hi').disj, (r3 i g hi').sub, fun b hb hk => ?_⟩
   have h1 := new i g b hi' hb
   have := Nat.lt_of_lt_of_le (K.lt b hk) s.kept.size; omega
  ·refine ⟨fun b => ?_, (p3 _ g hi').sub.ext r.below.block, (p3 _ g hi').free⟩
   cases e : g b with
   | none => exact .inr rfl
   | some o =>
    refine .inl ?_
    cases e1 : h1 b with
    | none => rfl
    | some o1 =>
     have hb := old _ g b hi' (by simp [e])
     rcases fr b (by simp [e1]) with x | x
     ·rcases (p3 _ g hi').disj b with y | y
      ·exact absurd y x
      ·rw [e] at y; cases y
     ·omega
 ·have key : ∀ (i j : Nat) (g g2 : FH), gr[i]? = some g → gs[j]? = some g2 → Disj g g2 := fun i j g g2 hi hj b => by
   cases e : g b with
   | none => exact .inl rfl
   | some o =>
    refine .inr ?_
    cases e2 : g2 b with
    | none => rfl
    | some o2 => have h1 := new i g b hi (by simp [e]); have h2 := old j g2 b hj (by simp [e2]); omega
  rcases cut i g hi with ⟨hlt, hi'⟩ | ⟨hge, hi'⟩
  ·rcases cut j g2 hj with ⟨hlt2, hj'⟩ | ⟨hge2, hj'⟩
   ·exact r4 i j g g2 hij hi' hj'
   ·exact key i _ g g2 hi' hj'
  ·rcases cut j g2 hj with ⟨hlt2, hj'⟩ | ⟨hge2, hj'⟩
   ·exact (key j _ g2 g hj' hi').symm
   ·exact p4 _ _ g g2 (by omega) hi' hj'
theorem SH.freeze {k : Nat} {X : Asrt} (s : SH K h w A) (hk : A[k]? = some X) : ∃ g, X g ∧ Disj h g ∧ SH K (h.join g) w (A.set k tru) := by
 obtain ⟨gs, p1, p2, p3, p4⟩ := s.parts
 have hkl : k < gs.length := by rw [p1]; exact (List.getElem?_eq_some_iff.1 hk).1
 have hg : gs[k]? = some gs[k] := List.getElem?_eq_getElem hkl
 have own := p3 k _ hg
 refine ⟨gs[k], p2 k _ X hg hk, own.disj, s.kept, s.sub.join own.sub, fun b hb => ?_, gs.set k (fun _ => none), by simp [p1], fun i g Y hi hY => ?_, fun i g hi => ?_, fun i j g g2 hij hi hj => ?_⟩
 ·cases e : h b with
  | some o => exact s.fresh b (by simp [e])
  | none => exact .inr (own.free b (by simpa [FH.join, e] using hb))
 ·rcases list_set_get hi with ⟨rfl, rfl, _⟩ | ⟨hne, hi'⟩
  ·rcases list_set_get hY with ⟨_, rfl, _⟩ | ⟨hne, _⟩
   ·trivial
   ·exact absurd rfl hne
  ·rcases list_set_get hY with ⟨rfl, _, _⟩ | ⟨_, hY'⟩
   ·exact absurd rfl hne
   ·exact p2 i g Y hi' hY'
 ·rcases list_set_get hi with ⟨rfl, rfl, _⟩ | ⟨hne, hi'⟩
  ·exact ⟨fun _ => .inr rfl, (fun _ _ e => by cases e), (fun _ e => absurd rfl e)⟩
  ·have o := p3 i g hi'
   refine ⟨fun b => ?_, o.sub, o.free⟩
   rcases o.disj b with e | e
   ·rcases p4 i k g _ hne hi' hg b with x | x
    ·exact .inr x
    ·exact .inl (by simp [FH.join, e, x])
   ·exact .inr e
 ·rcases list_set_get hi with ⟨rfl, rfl, _⟩ | ⟨hne, hi'⟩
  ·exact fun _ => .inl rfl
  ·rcases list_set_get hj with ⟨rfl, rfl, _⟩ | ⟨hne2, hj'⟩
   ·exact fun _ => .inr rfl
   ·exact p4 i j g g2 hij hi' hj'
theorem SH.drop {X : Asrt} (s : SH K h w (X :: A)) : SH K h w A := by
 obtain ⟨gs, p1, p2, p3, p4⟩ := s.parts
 cases gs with
 | nil => simp at p1
 | cons g gs =>
  refine ⟨s.kept, s.sub, s.fresh, gs, by simpa using p1, fun i g1 Y hi hY => p2 (i + 1) g1 Y (by simpa using hi) (by simpa using hY), fun i g1 hi => p3 (i + 1) g1 (by simpa using hi), fun i j g1 g2 hij hi hj => p4 (i + 1) (j + 1) g1 g2 (by omega) (by simpa using hi) (by simpa using hj)⟩
end
section
variable {P : Program} {K : Kp} {n : Fr}
def J (P : Program) (K : Kp) (n : Fr) (c : Code) (Q : Exit → Act → World → Prop) (s : St) (A : List Asrt) (h : FH) : Prop :=
 ∀ a w, Holds n s a → SH K h w A → WC P n.ro c Q a w
def JL (P : Program) (K : Kp) (n : Fr) (ops : Array Oper) (l : List Oper) (Q : Exit → Act → World → Prop) (s : St) (A : List Asrt) (h : FH) : Prop :=
 ∀ a w, Holds n s a → SH K h w A → WL P n.ro ops Q l a w
def E (K : Kp) (n : Fr) (Q : Exit → Act → World → Prop) (e : Exit) (s : St) (A : List Asrt) (h : FH) : Prop :=
 ∀ a w, Holds n s a → SH K h w A → Q e a w
variable {Q : Exit → Act → World → Prop} {s s' : St} {A : List Asrt} {h h' : FH}
theorem J.up (hl : FH.le h h') {c : Code} (j : J P K n c Q s A h) : J P K n c Q s A h' := fun a w H S => j a w H (S.anti hl)
theorem J.sub (hs : SubSt s' s) {c : Code} (j : J P K n c Q s' A h) : J P K n c Q s A h := fun a w H S => j a w (H.sub hs) S
theorem J.drop {c : Code} {X : Asrt} (j : J P K n c Q s A h) : J P K n c Q s (X :: A) h := fun a w H S => j a w H S.drop
theorem J.seq {x y : Code} (j : J P K n x (Exit.then (fun a w => WC P n.ro y Q a w) Q) s A h) : J P K n (.seq x y) Q s A h := by
 obtain ⟨m, ro, dl⟩ := n
 cases ro with
 | none => exact fun a w H S => wp_seq (j a w H S)
 | some l => exact fun a w H S => wpIn_seq (j a w H S)
theorem J.cond {c : Operand} {x y : Code} {b : Bool} (hc : ev s c = some (.bool b)) (ht : b = true → J P K n x Q s A h) (hf : b = false → J P K n y Q s A h) : J P K n (.cond c x y) Q s A h := by
 obtain ⟨m, ro, dl⟩ := n
 cases ro with
 | none => exact fun a w H S => wp_cond_split (H.ev hc) (fun e => ht e a w H S) (fun e => hf e a w H S)
 | some l => exact fun a w H S => wpIn_cond_split (H.ev hc) (fun e => ht e a w H S) (fun e => hf e a w H S)
theorem J.block {id : Nat} {c : Code} (j : J P K n c (Exit.inBlock id Q) s A h) : J P K n (.block id c) Q s A h := by
 obtain ⟨m, ro, dl⟩ := n
 cases ro with
 | none => exact fun a w H S => wp_block (j a w H S)
 | some l => exact fun a w H S => wpIn_block (j a w H S)
theorem J.region {id : Nat} {l : List Oper} (j : JL P K n l.toArray l Q s A h) : J P K n (.region id l.toArray false) Q s A h := by
 obtain ⟨m, ro, dl⟩ := n
 cases ro with
 | none => exact fun a w H S => wp_region_lit (j a w H S)
 | some l => exact fun a w H S => wpIn_region_lit (j a w H S)
theorem J.skip (j : E K n Q .normal s A h) : J P K n .skip Q s A h := by
 obtain ⟨m, ro, dl⟩ := n
 cases ro with
 | none => exact fun a w H S => wp_skip (j a w H S)
 | some l => exact fun a w H S => wpIn_skip (j a w H S)
theorem J.exit {id : Nat} (j : E K n Q (.exit id) s A h) : J P K n (.exit id) Q s A h := by
 obtain ⟨m, ro, dl⟩ := n
 cases ro with
 | none => exact fun a w H S => wp_exit (j a w H S)
 | some l => exact fun a w H S => wpIn_exit (j a w H S)
theorem J.ret (j : E K n Q .ret s A h) : J P K n .ret Q s A h := by
 obtain ⟨m, ro, dl⟩ := n
 cases ro with
 | none => exact fun a w H S => wp_ret (j a w H S)
 | some l => exact fun a w H S => wpIn_ret (j a w H S)
theorem JL.nil {ops : Array Oper} (j : E K n Q .normal s A h) : JL P K n ops [] Q s A h := by
 obtain ⟨m, ro, dl⟩ := n
 cases ro with
 | none => exact fun a w H S => wpList_nil (P := P) (ops := ops) (j a w H S)
 | some l => exact fun a w H S => wpListIn_nil (F := FR l) (n := 0) (P := P) (ops := ops) (j a w H S)
theorem JL.up (hl : FH.le h h') {ops : Array Oper} {l : List Oper} (j : JL P K n ops l Q s A h) : JL P K n ops l Q s A h' := fun a w H S => j a w H (S.anti hl)
theorem JL.sub (hs : SubSt s' s) {ops : Array Oper} {l : List Oper} (j : JL P K n ops l Q s' A h) : JL P K n ops l Q s A h := fun a w H S => j a w (H.sub hs) S
theorem JL.drop {ops : Array Oper} {l : List Oper} {X : Asrt} (j : JL P K n ops l Q s A h) : JL P K n ops l Q s (X :: A) h := fun a w H S => j a w H S.drop
theorem E.up {e : Exit} (hl : FH.le h h') (j : E K n Q e s A h) : E K n Q e s A h' := fun a w H S => j a w H (S.anti hl)
theorem E.sub {e : Exit} (hs : SubSt s' s) (j : E K n Q e s' A h) : E K n Q e s A h := fun a w H S => j a w (H.sub hs) S
theorem E.drop {e : Exit} {X : Asrt} (j : E K n Q e s A h) : E K n Q e s (X :: A) h := fun a w H S => j a w H S.drop
theorem E.seqN {y : Code} (j : J P K n y Q s A h) : E K n (Exit.then (fun a w => WC P n.ro y Q a w) Q) .normal s A h := j
theorem E.seqR {F : Act → World → Prop} (j : E K n Q .ret s A h) : E K n (Exit.then F Q) .ret s A h := j
theorem E.seqX {F : Act → World → Prop} {i : Nat} (j : E K n Q (.exit i) s A h) : E K n (Exit.then F Q) (.exit i) s A h := j
theorem E.blkN {id : Nat} (j : E K n Q .normal s A h) : E K n (Exit.inBlock id Q) .normal s A h := j
theorem E.blkR {id : Nat} (j : E K n Q .ret s A h) : E K n (Exit.inBlock id Q) .ret s A h := j
theorem E.blkX {id : Nat} (j : E K n Q .normal s A h) : E K n (Exit.inBlock id Q) (.exit id) s A h := fun a w H S => by
 simp only [Exit.inBlock, if_true]; exact j a w H S
theorem J.loopN {σ : Type} (I : σ → Prop) (μ : σ → Nat) (N : σ → Fr) (S : σ → St) (M : σ → List Asrt) (F : σ → FH) {c : Code} (x0 : σ) (hI : I x0) (hn : ∀ x, (N x).ro = n.ro) (h0 : N x0 = n)
  (round : ∀ x, I x → J P K (N x) c (Exit.then (fun a w => ∃ y, I y ∧ μ y < μ x ∧ Holds (N y) (S y) a ∧ SH K (F y) w (M y)) Q) (S x) (M x) (F x)) :
  J P K n (.loop c) Q (S x0) (M x0) (F x0) := fun a w H Sh => by
 refine WC.loop (fun a w => ∃ x, I x ∧ Holds (N x) (S x) a ∧ SH K (F x) w (M x)) (fun a w => leastOf fun k => ∃ x, μ x = k ∧ I x ∧ Holds (N x) (S x) a ∧ SH K (F x) w (M x)) ⟨x0, hI, by rw [h0]; exact H, Sh⟩ ?_
 intro a w hx
 have he : ∃ k, ∃ x, μ x = k ∧ I x ∧ Holds (N x) (S x) a ∧ SH K (F x) w (M x) := by obtain ⟨x, h⟩ := hx; exact ⟨μ x, x, rfl, h⟩
 obtain ⟨⟨x, h0, h1, h2, h3⟩, _⟩ := leastOf_spec he
 have hr := round x h1 a w h2 h3
 rw [hn] at hr
 refine WC.mono (fun e a' w' q => ?_) hr
 cases e with
 | normal =>
  obtain ⟨y, y1, y2, y3, y4⟩ := q
  refine ⟨⟨y, y1, y3, y4⟩, ?_⟩
  have hl := (leastOf_spec (p := fun k => ∃ x, μ x = k ∧ I x ∧ Holds (N x) (S x) a' ∧ SH K (F x) w' (M x)) ⟨μ y, y, rfl, y1, y3, y4⟩).2 (μ y) ⟨y, rfl, y1, y3, y4⟩
  exact Nat.lt_of_le_of_lt hl (by rw [← h0]; exact y2)
 | exit id => exact q
 | goto l => exact q
 | ret => exact q
 | panic ch => exact q
 | outgrown => exact q
theorem J.loop {σ : Type} (I : σ → Prop) (μ : σ → Nat) (S : σ → St) (M : σ → List Asrt) (F : σ → FH) {c : Code} (x0 : σ) (hI : I x0)
  (round : ∀ x, I x → J P K n c (Exit.then (fun a w => ∃ y, I y ∧ μ y < μ x ∧ Holds n (S y) a ∧ SH K (F y) w (M y)) Q) (S x) (M x) (F x)) :
  J P K n (.loop c) Q (S x0) (M x0) (F x0) := J.loopN I μ (fun _ => n) S M F x0 hI (fun _ => rfl) rfl round
theorem E.round {σ : Type} {I : σ → Prop} {μ : σ → Nat} {S : σ → St} {M : σ → List Asrt} {F : σ → FH} {m : Nat} (y : σ) (hI : I y) (hμ : μ y < m) (hs : SubSt (S y) s) (hm : M y = A) (hf : FH.le (F y) h) :
  E K n (Exit.then (fun a w => ∃ y, I y ∧ μ y < m ∧ Holds n (S y) a ∧ SH K (F y) w (M y)) Q) .normal s A h :=
 fun a w H Sh => ⟨y, hI, hμ, H.sub hs, by rw [hm]; exact Sh.anti hf⟩
end
section
variable {P : Program}
variable {K : Kp} {n : Fr} {ops : Array Oper} {Q : Exit → Act → World → Prop} {s : St} {A : List Asrt} {h : FH} {rest : List Oper}
def VF (P : Program) (K : Kp) (n : Fr) (s : St) (A : List Asrt) (h : FH) (o : Oper) (v : Value) : Prop := ∀ a w, Holds n s a → SH K h w A → (execOp a.eval o).run P w = .ok (.value v) w
def CF (P : Program) (K : Kp) (n : Fr) (s : St) (A : List Asrt) (h : FH) (o : Oper) (v : Value) : Prop := ∀ a w, Holds n s a → SH K h w A →
 ∃ f args, (execOp a.eval o).run P w = .ok (.enter f args) w ∧ Calls P f args w fun e w' => e = .returned v ∧ Below w.heap.size w w'
theorem JL.v {o : Oper} {d : Nat} {v : Value} (hx : VF P K n s A h o v) (hg : o.guard = none) (hd : o.dst = some d) (hn : Nat.blt d n.sz = true)
  (k : JL P K n ops rest Q ((d, v) :: s) A h) : JL P K n ops (o :: rest) Q s A h :=
 fun a w H S => WL.val hg (hx a w H S) (k _ w (by rw [hd]; exact H.put v hn) S)
theorem JL.c {o : Oper} {d : Nat} {v : Value} (hx : CF P K n s A h o v) (hg : o.guard = none) (hd : o.dst = some d) (hn : Nat.blt d n.sz = true)
  (k : JL P K n ops rest Q ((d, v) :: s) A h) : JL P K n ops (o :: rest) Q s A h :=
 fun a w H S => by
  obtain ⟨f, args, hr, hc⟩ := hx a w H S
  exact WL.enter hg hr (hc.mono fun e w' ⟨he, hb⟩ => ⟨v, he, k _ w' (by rw [hd]; exact H.put v hn) (S.ext hb)⟩)
theorem JL.valW {o : Oper} {d : Nat} (hg : o.guard = none) (hd : o.dst = some d) (hn : Nat.blt d n.sz = true)
  (hx : ∀ a w, Holds n s a → SH K h w A → ∃ v w' A' h', (execOp a.eval o).run P w = .ok (.value v) w' ∧ SH K h' w' A' ∧ JL P K n ops rest Q ((d, v) :: s) A' h') : JL P K n ops (o :: rest) Q s A h :=
 fun a w H S => by
  obtain ⟨v, w', A', h', hr, hs, k⟩ := hx a w H S
  exact WL.val hg hr (k _ w' (by rw [hd]; exact H.put v hn) hs)
theorem JL.callW {o : Oper} {d : Nat} {f : FuncId} {args : Array Value} (hg : o.guard = none) (hd : o.dst = some d) (hn : Nat.blt d n.sz = true)
  (hx : ∀ a w, Holds n s a → SH K h w A → (execOp a.eval o).run P w = .ok (.enter f args) w)
  (hc : ∀ w, SH K h w A → Calls P f args w fun e w' => ∃ v A' h', e = .returned v ∧ SH K h' w' A' ∧ JL P K n ops rest Q ((d, v) :: s) A' h') : JL P K n ops (o :: rest) Q s A h :=
 fun a w H S => WL.enter hg (hx a w H S) ((hc w S).mono fun e w' ⟨v, A', h', he, hs, k⟩ => ⟨v, he, k _ w' (by rw [hd]; exact H.put v hn) hs⟩)
section ops
variable {dd : Option Tmp} {gd : Option (Nat × Bool)} {ty : TypeId} {pos : String} {af : Array Edge}
theorem mv {x : Operand} {v : Value} (hx : ev s x = some v) : VF P K n s A h ⟨dd, .move x, ty, pos, af, gd⟩ (v) :=
 (fun a w H _ => by simp [execOp, H.ev hx])
theorem asg {x : Operand} {v : Value} (hx : ev s x = some v) : VF P K n s A h ⟨dd, .assign x, ty, pos, af, gd⟩ (v) :=
 (fun a w H _ => by simp [execOp, H.ev hx])
theorem bi {op : BinOp} {x y : Operand} {t t' : TypeId} {ki : IntKind} {i j : Int} {v : Value} (hx : ev s x = some (.int ki i)) (hy : ev s y = some (.int ki j)) (hv : ibin op ki i j = some v) : VF P K n s A h ⟨dd, .binOp op t x y t', ty, pos, af, gd⟩ (v) :=
 (fun a w H _ => by
  obtain ⟨e1, e2⟩ := run_ibin (P := P) hv x y t w
  simp [execOp, H.ev hx, H.ev hy, e1, e2])
theorem bsh {op : BinOp} {x y : Operand} {t t' : TypeId} {ki kj : IntKind} {i j : Int} {v : Value} (hx : ev s x = some (.int ki i)) (hy : ev s y = some (.int kj j)) (h0 : 0 ≤ j) (hv : shiftV op ki i j = some v) : VF P K n s A h ⟨dd, .binOp op t x y t', ty, pos, af, gd⟩ (v) :=
 (fun a w H _ => by
  have h0' : ¬ j < 0 := by omega
  cases op <;> simp only [shiftV] at hv <;> first | (cases hv; done) | (obtain rfl := Option.some.inj hv; simp [execOp, H.ev hx, H.ev hy, eqGuard_at_int, binOp_shl, binOp_shr, Op.shift, h0']))
theorem ix {x y : Operand} {t e : TypeId} {a : Option Addr} {len cap sz by_ : Nat} {zs : List Value} {ki : IntKind} {i : Int} (hx : ev s x = some (.slice a len cap)) (hy : ev s y = some (.int ki i)) (ht : TSl P t e sz by_ zs) (ha : a ≠ none) (hi : 0 ≤ i ∧ i < len) : VF P K n s A h ⟨dd, .indexAddr t x y, ty, pos, af, gd⟩ (.pointer (some (ead a (i.toNat * sz)))) :=
 (fun ac w H _ => by
  obtain ⟨ii, z, h1, h2, h3, h4, h5⟩ := ht.info
  cases a with
  | none => exact absurd rfl ha
  | some p => simp [execOp, H.ev hx, H.ev hy, Instr.indexAt, asIntOf, run_underlying ht.und, sizeOf, typeInfo, h1, h3, hi, ead])
theorem ln {x : Operand} {t : TypeId} {a : Option Addr} {len cap : Nat} (hx : ev s x = some (.slice a len cap)) (ht : TIsSl P t) : VF P K n s A h ⟨dd, .call { callee := .builtin .len, args := #[x], argTypes := #[t] }, ty, pos, af, gd⟩ (.int .i64 (len : Int)) :=
 (fun ac w H _ => by
  obtain ⟨e, he⟩ := ht
  simp [execOp, resolve, invoke, builtin, H.ev hx, Builtin.len_, run_underlying he, goInt])
theorem ext {x : Operand} {vs : Array Value} {i : Nat} {v : Value} (hx : ev s x = some (.tuple vs)) (hv : vs[i]? = some v) : VF P K n s A h ⟨dd, .extract x i, ty, pos, af, gd⟩ (v) :=
 (fun ac w H _ => by simp [execOp, H.ev hx, Instr.extract, hv])
end ops
end
section
variable {P : Program} {K : Kp} {n : Fr} {ops : Array Oper} {Q : Exit → Act → World → Prop} {s : St} {A : List Asrt} {h : FH} {rest : List Oper} {d : Nat} {dd : Option Tmp} {gd : Option (Nat × Bool)} {ty : TypeId} {pos : String} {af : Array Edge}
theorem ld1 {x : Operand} {t : TypeId} {p : Addr} {v : Value} (hx : ev s x = some (.pointer (some p))) (ht : TOne P t) (hc : ∀ w, SH K h w A → w.cell? p = some v) : VF P K n s A h ⟨dd, .load t x, ty, pos, af, gd⟩ (v) :=
 (fun ac w H S => by
  simp [execOp, H.ev hx, Instr.loadAt, Instr.sureAddr, loadVar, (ht w).1, run_load, hc w S])
theorem cellH {p : Addr} {v : Value} (hv : h.cell p = some v) : ∀ w, SH K h w A → w.cell? p = some v := fun _ S => S.sub.cell hv
theorem below_alloc (w : World) (o : Obj) : Below w.heap.size w (w.alloc o) := (Below.refl _ _).alloc (Nat.le_refl _) o
theorem SH.new {w : World} {X : Asrt} {o : Obj} (S : SH K h w A) (hX : X (FH.one w.heap.size o)) : SH K h (w.alloc o) (X :: A) :=
 S.push (below_alloc w o) hX (Sub.one (heap_alloc_new w o)) (fun b hb => by rw [FH.one_ne hb]; exact Nat.le_refl _)
theorem bs {t e : TypeId} {len sz by_ : Nat} {zs : List Value} {parts : Array (Nat × Operand)} {pv : List (Nat × Value)} {cs : Array Value} (ht : TSl P t e sz by_ zs)
  (hp : (parts.toList.map (fun p => (ev s p.2).map (fun v => (p.1, v)))) = pv.map some) (hlen : len * sz ≤ 1000) (hml : len ≤ 1000)
  (hf : Instr.fill (fun i => some (i * sz, sz)) ((Array.range (len * sz)).map (zs.toArray[· % zs.toArray.size]!)) pv = some cs) (hc : cs.size = len * sz) (hn : Nat.blt d n.sz = true)
  (k : ∀ a, a ≠ none → JL P K n ops rest Q ((d, .slice a len len) :: s) (OwnSl e sz a len len cs.toList :: A) h) : JL P K n ops (⟨some d, .buildSlice t len parts, ty, pos, af, none⟩ :: rest) Q s A h :=
 JL.valW rfl rfl hn (fun ac w H S => by
  obtain ⟨i, z, h1, h2, h3, h4, h5⟩ := ht.info
  have key : ∀ (l : List (Nat × Operand)) (pv : List (Nat × Value)), (l.map (fun p => (ev s p.2).map (fun v => (p.1, v)))) = pv.map some → l.map (fun p => (p.1, ac.eval p.2)) = pv := by
   intro l
   induction l with
   | nil => intro pv hpv; cases pv with
    | nil => rfl
    | cons p r => simp at hpv
   | cons x r ih => intro pv hpv; cases pv with
    | nil => simp at hpv
    | cons p q =>
     simp only [List.map_cons, List.cons.injEq] at hpv
     obtain ⟨h1, h2⟩ := hpv
     obtain ⟨v, hv, hv2⟩ := Option.map_eq_some_iff.1 h1
     simp only [List.map_cons, ih q h2, H.ev hv, hv2]
  have ee : (parts.map (fun x => (x.1, ac.eval x.2))).toList = pv := by rw [Array.toList_map]; exact key _ _ hp
  have hzc : z.cells = zs.toArray := by rw [← h5]
  have erun : (Instr.buildSlice t len (parts.map (fun x => (x.1, ac.eval x.2)))).run P w = .ok (.slice (some ⟨w.heap.size, 0, none⟩) len len) (w.alloc (.cells cs e)) := by
   subst h3
   have hbig : ¬ len * i.size > 2 ^ 24 := by omega
   unfold Instr.buildSlice
   rw [Sem.run_bind, run_underlying ht.und]
   simp only [Result.andThen_ok, Sem.run_bind, sizeOf, typeInfo, run_program, h1, Sem.run_pure, if_neg hbig, ee]
   by_cases h0 : len * i.size = 0
   ·have e0 : (Array.range (len * i.size)).map ((#[] : Array Value)[· % (#[] : Array Value).size]!) = (Array.range (len * i.size)).map (zs.toArray[· % zs.toArray.size]!) := by rw [h0]; simp
    rw [if_pos h0]
    simp only [Sem.run_bind, Sem.run_pure, Result.andThen_ok, e0, hf]
    rfl
   ·rw [if_neg h0]
    simp only [Sem.run_bind, zeroValue, typeInfo, run_program, h1, h2, hzc, Sem.run_pure, Result.andThen_ok, hf]
    rfl
  exact ⟨_, _, _, h, by simp only [execOp, Sem.run_bind, erun]; rfl, S.new (X := OwnSl e sz (some ⟨w.heap.size, 0, none⟩) len len cs.toList) ⟨by simp [hc], .inr ⟨_, cs, rfl, rfl, Nat.le_refl _, by simp only [maxLen]; omega, hc, by rw [List.take_of_length_le]; simp [hc]⟩⟩, k _ (by simp)⟩)
theorem append_step {w : World} {t e : TypeId} {k sz by_ nn c m c2 : Nat} {a a2 : Option Addr} {zs cs news : List Value} (S : SH K h w A) (ht : TSl P t e sz by_ zs) (hsz : zs.length = sz) (hpos : 0 < sz) (hk : A[k]? = some (OwnSl e sz a nn c cs))
  (hl : news.length = m * sz) (hne : 0 < m → a2 ≠ none) (hnews : ∀ j u, news[j]? = some u → w.cell? (ead a2 j) = some u) (h1 : ∀ u ∈ news, u.oneCell' = true) (h63 : nn + m ≤ maxLen) (hb : (nn + m) * by_ ≤ 140737488355328) (ty : TypeId) :
  ∃ a' c' w', (Builtin.append_ #[t, t] ty #[.slice a nn c, .slice a2 m c2]).run P w = .ok (.slice a' (nn + m) c') w' ∧ SH K h w' (A.set k (OwnSl e sz a' (nn + m) c' (cs ++ news))) := by
 obtain ⟨i, z, i1, i2, i3, i4, i5⟩ := ht.info
 obtain ⟨g, hX, own, up⟩ := S.upd hk
 have hown := hX.row own.sub
 have hzs : z.cells.size = sz := by rw [← Array.length_toList, i5, hsz]
 rcases a2 with _ | ad
 ·have hm : m = 0 := by
   rcases Nat.eq_zero_or_pos m with h0 | h0
   ·exact h0
   ·exact absurd rfl (hne h0)
  subst hm
  have hn : news = [] := List.eq_nil_of_length_eq_zero (by simpa using hl)
  subst hn
  refine ⟨a, c, w, ?_, ?_⟩
  ·rcases hown.2 with ⟨e1, rfl⟩ | ⟨g', cap, cur, e1, _, _, hnc, _⟩
   ·injection e1 with e1 e2 e3; subst e1; subst e3
    simp [Builtin.append_, run_underlying ht.und, sizeOf, typeInfo, i1, Builtin.lenOf, Builtin.firstCells]
   ·injection e1 with e1 e2 e3; subst e1; subst e3
    simp [Builtin.append_, run_underlying ht.und, sizeOf, typeInfo, i1, Builtin.lenOf, Builtin.firstCells, hnc, storeCells]
  ·simp only [Nat.add_zero, List.append_nil]
   exact up _ g w hX own.sub (fun b hb => .inl hb) (fun _ _ _ => rfl) rfl rfl rfl (Nat.le_refl _) (Nat.le_refl _)
 ·obtain ⟨v', w', hr, h2, h3, _, h5⟩ := run_append_own_at (P := P) w 0 t ty e i z sz by_ ht.und i1 i2 i3 i4 hzs hpos (.slice a nn c) nn cs hown ad m c2 news hl hnews h1 h63 hb (Nat.zero_le _)
  have hgr : ∀ b, some b ≠ (Value.slice a nn c).ownBlock → b < w.heap.size → w'.heap[b]? = w.heap[b]? := fun b hb hlt => h3.block b hlt hb
  have hin : ∀ b, (Value.slice a nn c).ownBlock = some b → g b ≠ none := fun b hb => by
   rcases hX.2 with ⟨rfl, _⟩ | ⟨b', cur, rfl, rfl, _⟩
   ·simp [Value.ownBlock] at hb
   ·simp [Value.ownBlock] at hb; subst hb; rw [FH.one_self]; simp
  rcases h2.2 with ⟨rfl, h0⟩ | ⟨g', cap, cur, rfl, _, hg', q1, q2, q3, q4⟩
  ·refine ⟨none, 0, w', by rw [hr]; congr 1; simp [h0], ?_⟩
   have hnil : cs ++ news = [] := List.eq_nil_of_length_eq_zero (by rw [List.length_append, hX.1, hl, ← Nat.add_mul, h0]; simp)
   rw [hnil, h0]
   exact up _ (fun _ => none) w' ⟨by simp, .inl ⟨rfl, rfl, rfl, rfl⟩⟩ (fun _ _ x => by cases x) (fun _ x => absurd rfl x) (fun b hb hg => hgr b (fun x => hin b x.symm hg) hb) h3.os h3.tape h3.output h3.size (run_dr _ _ _ _ hr)
  ·refine ⟨some ⟨g', 0, none⟩, cap, w', hr, ?_⟩
   refine up _ (FH.one g' (.cells cur e (0, 0))) w' ⟨h2.1, .inr ⟨g', cur, rfl, rfl, q1, q2, q3, q4⟩⟩ (Sub.one hg') (fun b hb => ?_) (fun b hb hg => hgr b (fun x => hin b x.symm hg) hb) h3.os h3.tape h3.output h3.size (run_dr _ _ _ _ hr)
   rw [FH.one_ne hb]
   rcases h5 with h5 | h5
   ·exact .inl (hin g' h5.symm)
   ·have : g' = w.heap.size := by simpa [Value.ownBlock] using h5
    exact .inr (by omega)
theorem app {t e : TypeId} {x y : Operand} {k sz by_ nn c m c2 nm : Nat} {a a2 : Option Addr} {zs cs news cs' : List Value} (ht : TSl P t e sz by_ zs) (hsz : zs.length = sz) (hpos : 0 < sz) (hx : ev s x = some (.slice a nn c)) (hy : ev s y = some (.slice a2 m c2)) (hk : A[k]? = some (OwnSl e sz a nn c cs))
  (hl : news.length = m * sz) (hnews : ∀ w, SH K h w A → (0 < m → a2 ≠ none) ∧ ∀ j u, news[j]? = some u → w.cell? (ead a2 j) = some u) (h1 : ∀ u ∈ news, u.oneCell' = true) (h63 : nn + m ≤ maxLen) (hb : (nn + m) * by_ ≤ 140737488355328) (hnm : nn + m = nm) (hcs : cs ++ news = cs') (hn : Nat.blt d n.sz = true)
  (kk : ∀ a' c', JL P K n ops rest Q ((d, .slice a' nm c') :: s) (A.set k (OwnSl e sz a' nm c' cs')) h) : JL P K n ops (⟨some d, .call { callee := .builtin .append, args := #[x, y], argTypes := #[t, t] }, ty, pos, af, none⟩ :: rest) Q s A h :=
 JL.valW rfl rfl hn (fun ac w H S => by
  subst hnm; subst hcs
  obtain ⟨a', c', w', hr, hs⟩ := append_step (c2 := c2) S ht hsz hpos hk hl (hnews w S).1 (hnews w S).2 h1 h63 hb ty
  refine ⟨_, w', _, h, ?_, hs, kk a' c'⟩
  simp only [execOp, resolve, invoke, builtin, Sem.run_bind, Sem.run_pure, Result.andThen_ok, List.map_toArray, List.map_cons, List.map_nil, H.ev hx, H.ev hy, hr])
theorem JL.nilSl (e : TypeId) (sz : Nat) {l : List Oper} (k : JL P K n ops l Q s (OwnSl e sz none 0 0 [] :: A) h) : JL P K n ops l Q s A h := fun a w H S =>
 k a w H (S.push (Below.refl _ _) (g := fun _ => none) ⟨by simp, .inl ⟨rfl, rfl, rfl, rfl⟩⟩ (fun _ _ x => by cases x) (fun _ x => absurd rfl x))
theorem J.nilSl (e : TypeId) (sz : Nat) {c : Code} (k : J P K n c Q s (OwnSl e sz none 0 0 [] :: A) h) : J P K n c Q s A h := fun a w H S =>
 k a w H (S.push (Below.refl _ _) (g := fun _ => none) ⟨by simp, .inl ⟨rfl, rfl, rfl, rfl⟩⟩ (fun _ _ x => by cases x) (fun _ x => absurd rfl x))
theorem srcS {k : Nat} {e : TypeId} {sz m c : Nat} {a : Option Addr} {cs : List Value} (hk : A[k]? = some (OwnSl e sz a m c cs)) : ∀ w, SH K h w A → (0 < m → a ≠ none) ∧ ∀ j u, cs[j]? = some u → w.cell? (ead a j) = some u := fun w S => by
 obtain ⟨g, hx, own, _⟩ := S.upd hk
 exact ⟨hx.ne, fun j u e => own.sub.cell (hx.cells j u e).2⟩
theorem JL.freeze {k : Nat} {e : TypeId} {sz m c : Nat} {a : Option Addr} {cs : List Value} {l : List Oper} (hk : A[k]? = some (OwnSl e sz a m c cs)) (kk : ∀ h', FH.le h h' → (0 < m → a ≠ none) → RawSl h' a cs → JL P K n ops l Q s (A.set k tru) h') : JL P K n ops l Q s A h := fun ac w H S => by
 obtain ⟨g, hx, hd, S'⟩ := S.freeze hk
 exact kk _ (FH.le_join_left h g) hx.ne (hx.cells.mono (FH.le_join_right hd)) ac w H S'
theorem J.freeze {k : Nat} {e : TypeId} {sz m c : Nat} {a : Option Addr} {cs : List Value} {l : Code} (hk : A[k]? = some (OwnSl e sz a m c cs)) (kk : ∀ h', FH.le h h' → (0 < m → a ≠ none) → RawSl h' a cs → J P K n l Q s (A.set k tru) h') : J P K n l Q s A h := fun ac w H S => by
 obtain ⟨g, hx, hd, S'⟩ := S.freeze hk
 exact kk _ (FH.le_join_left h g) hx.ne (hx.cells.mono (FH.le_join_right hd)) ac w H S'
theorem cl {f : FuncId} {x : Operand} {xs : Array Operand} {ts : Array TypeId} {first cap : Array Value} {vs : List Value} {v : Value} (hf : ∀ args w, (callFunc f args).run P w = .ok (.enter f args) w)
  (hx : ev s x = some (.func (.func f) first cap)) (hv : evs s xs.toList = some vs) (hc : ∀ w, SH K h w A → Calls P f (first.toList ++ vs ++ cap.toList).toArray w fun e w' => e = .returned v ∧ Below w.heap.size w w') : CF P K n s A h ⟨dd, .call { callee := .value x, args := xs, argTypes := ts }, ty, pos, af, gd⟩ v :=
 fun _ w H S => ⟨f, _, call_exec H hf hx hv rfl, hc w S⟩
theorem clR {α : Type} {V : α → Value} {Φ : FH → α → Prop} {B : α → List Asrt} {f : FuncId} {x : Operand} {xs : Array Operand} {ts : Array TypeId} {first cap : Array Value} {vs : List Value} (hf : ∀ args w, (callFunc f args).run P w = .ok (.enter f args) w)
  (hx : ev s x = some (.func (.func f) first cap)) (hv : evs s xs.toList = some vs) (hc : ∀ w, SH K h w A → Calls P f (first.toList ++ vs ++ cap.toList).toArray w fun e w' => ∃ (r : α) (h1 : FH), e = .returned (V r) ∧ FH.le h h1 ∧ Φ h1 r ∧ SH (Kp.all w h) h1 w' (B r)) (hn : Nat.blt d n.sz = true)
  (k : ∀ r h1, FH.le h h1 → Φ h1 r → JL P K n ops rest Q ((d, V r) :: s) (B r ++ A) h1) : JL P K n ops (⟨some d, .call { callee := .value x, args := xs, argTypes := ts }, ty, pos, af, none⟩ :: rest) Q s A h :=
 JL.callW rfl rfl hn (fun _ _ H _ => call_exec H hf hx hv rfl) (fun w S => (hc w S).mono fun _ _ ⟨r, h1, he, hl, hφ, sr⟩ => ⟨V r, B r ++ A, h1, he, S.merge sr (fun b hb => by
  rcases sr.fresh b hb with q | q
  ·exact .inl q
  ·exact .inr (Nat.le_of_not_lt q)), k r h1 hl hφ⟩)
end
section
variable {P : Program} {K : Kp} {n : Fr} {s : St} {A : List Asrt} {h : FH} {fn : Func} {R : Ending → World → Prop}
def RV (P : Program) (K : Kp) (n : Fr) (s : St) (A : List Asrt) (h : FH) (r : ResultVar) (v : Value) : Prop := ∀ a w, Holds n s a → SH K h w A →
 (resOne a.tmps r).run P w = .ok v w
theorem rvT {t : Nat} {v : Value} (hv : get s t = some v) : RV P K n s A h (.tmp t) v := fun a w H _ => by simp only [resOne, H.getD hv]; rfl
theorem E.res1 {m_ : Nat} {ro_ : Option (Option Nat)} {r : ResultVar} {v : Value} (hr : fn.results = #[r]) (h1 : RV P K ⟨m_, ro_, []⟩ s A h r v) (k : ∀ w, SH K h w A → R (.returned v) w) : E K ⟨m_, ro_, []⟩ (bodyPost P fn R) .ret s A h := fun a w H S => by
 refine ⟨H.defers, v, ?_, k w S⟩
 have e1 := h1 a w H S
 simp only [results_eq, hr, Sem.run_bind, List.mapM_toArray, List.mapM_cons, List.mapM_nil, e1, Sem.run_map, Result.andThen_ok, Sem.run_pure]
 rfl
theorem enter {f : FuncId} {c : Code} {args : List Value} {w : World} (hf : P.funcs[f]? = some fn) (hb : fn.body = some c) {n : Nat} (hn : fn.ntmps = n) (hle : Nat.ble args.length n = true) (hs : Sub h w)
  (j : J P (Kp.all w h) ⟨n, none, []⟩ c (bodyPost P fn R) (start 0 args) [] h) : Calls P f args.toArray w R := by
 have hl : args.length ≤ n := by simpa using hle
 refine calls_of_wp hf hb (j _ w ⟨rfl, ?_, fun t v e => ?_⟩ (SH.start w h hs))
 ·simp [hn]; omega
 ·obtain ⟨_, h2⟩ := get_start 0 args t v e
  simp only [Nat.sub_zero] at h2
  have hlt : t < args.length := (List.getElem?_eq_some_iff.1 h2).1
  rw [Array.getElem?_append_left (by simpa using hlt)]
  simpa using h2
end
section
variable {P : Program} {K : Kp} {n : Fr} {ops : Array Oper} {Q : Exit → Act → World → Prop} {s : St} {A : List Asrt} {h : FH}
theorem J.loop' {σ : Type} (I : σ → Prop) (μ : σ → Nat) (S : σ → St) (M : σ → List Asrt) (F : σ → FH) {c : Code} (x0 : σ) (hI : I x0) (hs : SubSt (S x0) s) (hm : M x0 = A) (hf : FH.le (F x0) h)
  (round : ∀ x, I x → J P K n c (Exit.then (fun a w => ∃ y, I y ∧ μ y < μ x ∧ Holds n (S y) a ∧ SH K (F y) w (M y)) Q) (S x) (M x) (F x)) :
  J P K n (.loop c) Q s A h := by
 subst hm
 exact .up hf (.sub hs (.loop I μ S M F x0 hI round))
end
section
variable {P : Program} {K : Kp} {n : Fr} {ops : Array Oper} {Q : Exit → Act → World → Prop} {s : St} {A : List Asrt} {h : FH} {rest : List Oper} {R : Act → Prop}
def QL (P : Program) (K : Kp) (n : Fr) (ops : Array Oper) (l : List Oper) (R : Act → Prop) (s : St) (A : List Asrt) (h : FH) : Prop := ∀ a, Holds n s a → wpQuiet P ops (fun w => SH K h w A) R l a
theorem QL.nil (hr : ∀ a, Holds n s a → R a) : QL P K n ops [] R s A h := fun a H => wpQuiet_nil (hr a H)
theorem QL.v {o : Oper} {d : Nat} {v : Value} (hx : VF P K n s A h o v) (hg : o.guard = none) (hd : o.dst = some d) (hn : Nat.blt d n.sz = true) (k : QL P K n ops rest R ((d, v) :: s) A h) : QL P K n ops (o :: rest) R s A h :=
 fun a H => wpQuiet_step fun Kc hK => by
  rw [if_pos (by simp [Region.wanted, hg])]
  refine ⟨v, fun w hw => ?_, hK _ (k _ ?_)⟩
  ·unfold Oper.quietAt; rw [hx a w H hw]; exact ⟨rfl, rfl⟩
  ·rw [hd]; exact H.put v hn
theorem QL.c {o : Oper} {d : Nat} {v : Value} (hx : CF P K n s A h o v) (hg : o.guard = none) (hd : o.dst = some d) (hn : Nat.blt d n.sz = true) (k : QL P K n ops rest R ((d, v) :: s) A h) : QL P K n ops (o :: rest) R s A h :=
 fun a H => wpQuiet_step fun Kc hK => by
  rw [if_pos (by simp [Region.wanted, hg])]
  refine ⟨v, fun w hw => ?_, hK _ (k _ ?_)⟩
  ·obtain ⟨f, args, hr, hc⟩ := hx a w H hw
   unfold Oper.quietAt; rw [hr]
   exact ⟨rfl, hc.mono fun e w' ⟨he, hb⟩ => ⟨he, SH.ext hw hb⟩⟩
  ·rw [hd]; exact H.put v hn
theorem SH.drew {w : World} (S : SH K h w A) : SH K h { w with drawn := w.drawn + 1 } A := S.ext ((Below.refl _ _).drew)
end
section
variable {P : Program} {K : Kp} {n : Fr} {ops : Array Oper} {Q : Exit → Act → World → Prop} {s : St} {A A' : List Asrt} {h : FH} {l : List Oper} {c : Code} {ex : Exit}
theorem JL.cast (hA : A = A') (j : JL P K n ops l Q s A' h) : JL P K n ops l Q s A h := by subst hA; exact j
theorem J.cast (hA : A = A') (j : J P K n c Q s A' h) : J P K n c Q s A h := by subst hA; exact j
theorem E.cast (hA : A = A') (j : E K n Q ex s A' h) : E K n Q ex s A h := by subst hA; exact j
theorem SH.move {w : World} {X : Asrt} (S : SH K h w (X :: A)) (k : Nat) : SH K h w (A.set k X) := by
 obtain ⟨gs, p1, p2, p3, p4⟩ := S.parts
 cases gs with
 | nil => simp at p1
 | cons g0 gs =>
  have hl : gs.length = A.length := by simpa using p1
  refine ⟨S.kept, S.sub, S.fresh, gs.set k g0, by simp [hl], fun i g Y hi hY => ?_, fun i g hi => ?_, fun i j g g2 hij hi hj => ?_⟩
  ·rcases list_set_get hi with ⟨rfl, rfl, _⟩ | ⟨hne, hi'⟩
   ·rcases list_set_get hY with ⟨_, rfl, _⟩ | ⟨hne, _⟩
    ·exact p2 0 g Y rfl rfl
    ·exact absurd rfl hne
   ·rcases list_set_get hY with ⟨rfl, _, _⟩ | ⟨_, hY'⟩
    ·exact absurd rfl hne
    ·exact p2 (i + 1) g Y (by simpa using hi') (by simpa using hY')
  ·rcases list_set_get hi with ⟨rfl, rfl, _⟩ | ⟨hne, hi'⟩
   ·exact p3 0 g rfl
   ·exact p3 (i + 1) g (by simpa using hi')
  ·rcases list_set_get hi with ⟨rfl, rfl, _⟩ | ⟨hne, hi'⟩
   ·rcases list_set_get hj with ⟨rfl, rfl, _⟩ | ⟨hne2, hj'⟩
    ·exact absurd rfl hij
    ·exact p4 0 (j + 1) g g2 (by omega) rfl (by simpa using hj')
   ·rcases list_set_get hj with ⟨rfl, rfl, _⟩ | ⟨hne2, hj'⟩
    ·exact p4 (i + 1) 0 g g2 (by omega) (by simpa using hi') rfl
    ·exact p4 (i + 1) (j + 1) g g2 (by omega) (by simpa using hi') (by simpa using hj')
theorem JL.move {X : Asrt} (k : Nat) (j : JL P K n ops l Q s (A.set k X) h) : JL P K n ops l Q s (X :: A) h := fun a w H S => j a w H (S.move k)
theorem E.nilSl {Q : Exit → Act → World → Prop} (e : TypeId) (sz : Nat) (k : E K n Q ex s (OwnSl e sz none 0 0 [] :: A) h) : E K n Q ex s A h := fun a w H S =>
 k a w H (S.push (Below.refl _ _) (g := fun _ => none) ⟨by simp, .inl ⟨rfl, rfl, rfl, rfl⟩⟩ (fun _ _ x => by cases x) (fun _ x => absurd rfl x))
end
section
variable {P : Program} {K : Kp} {n : Fr} {ops : Array Oper} {Q : Exit → Act → World → Prop} {s : St} {A A' : List Asrt} {h : FH} {rest : List Oper}
theorem J.share {σ : Type} (G : σ → Prop) (S : σ → St) (M : σ → List Asrt) (F : σ → FH) {x r : Code} (hr : ∀ z, G z → J P K n r Q (S z) (M z) (F z))
  (hx : (∀ z, G z → J P K n r Q (S z) (M z) (F z)) → J P K n x (Exit.then (fun a w => WC P n.ro r Q a w) Q) s A h) : J P K n (.seq x r) Q s A h := .seq (hx hr)
theorem E.use {σ : Type} {G : σ → Prop} {S : σ → St} {M : σ → List Asrt} {F : σ → FH} {r : Code} (hj : ∀ z, G z → J P K n r Q (S z) (M z) (F z)) (z : σ) (hz : G z) (hs : SubSt (S z) s) (hm : M z = A) (hf : FH.le (F z) h) :
  E K n (Exit.then (fun a w => WC P n.ro r Q a w) Q) .normal s A h := by
 subst hm
 exact .seqN (.up hf (.sub hs (hj z hz)))
theorem SH.none {w : World} (S : SH K h w A) : SH K h w [] := by
 induction A with
 | nil => exact S
 | cons x r ih => exact ih S.drop
theorem SH.sel {w : World} {L L' R : List Asrt} (is : List Nat) (hn : is.Nodup) (hL : is.map (fun i => L[i]?) = L'.map some) (S : SH K h w (L ++ R)) : SH K h w (L' ++ R) := by
 obtain ⟨gs, p1, p2, p3, p4⟩ := S.parts
 have hlen : gs.length = L.length + R.length := by simpa using p1
 have hl : is.length = L'.length := by simpa using congrArg List.length hL
 have hin : ∀ (j i : Nat), is[j]? = some i → i < L.length ∧ L'[j]? = L[i]? := fun j i hj => by
  have h1 : (is.map (fun i => L[i]?))[j]? = some (L[i]?) := by simp [hj]
  rw [hL] at h1
  rw [List.getElem?_map] at h1
  cases h2 : L'[j]? with
  | none => rw [h2] at h1; cases h1
  | some x =>
   rw [h2] at h1
   have h3 : L[i]? = some x := (Option.some.inj h1).symm
   exact ⟨(List.getElem?_eq_some_iff.1 h3).1, h3.symm⟩
 have cut : ∀ (j : Nat) (g : FH), (is.map (fun i => gs.getD i (fun _ => Option.none)) ++ gs.drop L.length)[j]? = some g → ∃ k, k < gs.length ∧ gs[k]? = some g ∧ (L' ++ R)[j]? = (L ++ R)[k]? ∧ ((j < is.length ∧ is[j]? = some k) ∨ (is.length ≤ j ∧ k = L.length + (j - is.length))) := fun j g hj => by
  by_cases hlt : j < is.length
  ·rw [List.getElem?_append_left (by simpa using hlt)] at hj
   have hi : is[j]? = some is[j] := List.getElem?_eq_getElem hlt
   obtain ⟨q1, q2⟩ := hin j _ hi
   have hk : is[j] < gs.length := by omega
   refine ⟨is[j], hk, ?_, ?_, .inl ⟨hlt, hi⟩⟩
   ·simp only [List.getElem?_map, hi, Option.map_some] at hj
    rw [← hj]; simp [hk]
   ·rw [List.getElem?_append_left (by omega), List.getElem?_append_left q1, q2]
  ·rw [List.getElem?_append_right (by simp; omega)] at hj
   simp only [List.length_map, List.getElem?_drop] at hj
   refine ⟨L.length + (j - is.length), (List.getElem?_eq_some_iff.1 hj).1, hj, ?_, .inr ⟨by omega, rfl⟩⟩
   rw [List.getElem?_append_right (by omega), List.getElem?_append_right (by omega)]
   congr 1; omega
 refine ⟨S.kept, S.sub, S.fresh, is.map (fun i => gs.getD i (fun _ => Option.none)) ++ gs.drop L.length, by simp [hl, hlen], fun j g Y hj hY => ?_, fun j g hj => ?_, fun i j g g2 hij hi hj => ?_⟩
 ·obtain ⟨k, _, k2, k3, _⟩ := cut j g hj
  exact p2 k g Y k2 (by rw [← k3]; exact hY)
 ·obtain ⟨k, _, k2, _⟩ := cut j g hj
  exact p3 k g k2
 ·obtain ⟨k, _, k2, _, k4⟩ := cut i g hi
  obtain ⟨m, _, m2, _, m4⟩ := cut j g2 hj
  refine p4 k m g g2 (fun e => hij ?_) k2 m2
  rcases k4 with ⟨a1, a2⟩ | ⟨a1, a2⟩ <;> rcases m4 with ⟨b1, b2⟩ | ⟨b1, b2⟩
  ·rw [e] at a2
   have e1 := (List.getElem?_eq_some_iff.1 a2).2
   have e2 := (List.getElem?_eq_some_iff.1 b2).2
   exact (List.getElem_inj hn).1 (e1.trans e2.symm)
  ·have := (hin i k a2).1; omega
  ·have := (hin j m b2).1; omega
  ·omega
theorem J.sel {L L' R : List Asrt} (is : List Nat) {c : Code} (hA : A = L ++ R) (hn : is.Nodup) (hL : is.map (fun i => L[i]?) = L'.map some) (hA' : L' ++ R = A') (j : J P K n c Q s A' h) : J P K n c Q s A h := fun a w H S => by
 subst hA; subst hA'; exact j a w H (S.sel is hn hL)
theorem E.sel {L L' R : List Asrt} (is : List Nat) {ex : Exit} (hA : A = L ++ R) (hn : is.Nodup) (hL : is.map (fun i => L[i]?) = L'.map some) (hA' : L' ++ R = A') (j : E K n Q ex s A' h) : E K n Q ex s A h := fun a w H S => by
 subst hA; subst hA'; exact j a w H (S.sel is hn hL)
theorem sel_map {L : List Asrt} {is : List Nat} (hL : is.map (fun i => L[i]?) = (is.map (fun i => L.getD i tru)).map some) {w : World} {R : List Asrt} (hn : is.Nodup) (S : SH K h w (L ++ R)) : SH K h w (is.map (fun i => L.getD i tru) ++ R) := S.sel is hn hL
theorem J.sel0 (is : List Nat) {c : Code} (hn : is.Nodup) (hL : is.map (fun i => A[i]?) = (is.map (fun i => A.getD i tru)).map some) (j : J P K n c Q s (is.map (fun i => A.getD i tru)) h) : J P K n c Q s A h := fun a w H S => j a w H (by
 have := sel_map (R := []) hL hn (by rwa [List.append_nil])
 rwa [List.append_nil] at this)
theorem E.sel0 (is : List Nat) {ex : Exit} (hn : is.Nodup) (hL : is.map (fun i => A[i]?) = (is.map (fun i => A.getD i tru)).map some) (j : E K n Q ex s (is.map (fun i => A.getD i tru)) h) : E K n Q ex s A h := fun a w H S => j a w H (by
 have := sel_map (R := []) hL hn (by rwa [List.append_nil])
 rwa [List.append_nil] at this)
theorem bs2 {d : Nat} {ty : TypeId} {pos : String} {af : Array Edge} {t e : TypeId} {len sz by_ : Nat} {zs : List Value} {parts : Array (Nat × Operand)} {pv : List (Nat × Value)} {cs : Array Value} (ht : TSl P t e sz by_ zs)
  (hp : (parts.toList.map (fun p => (ev s p.2).map (fun v => (p.1, v)))) = pv.map some) (hz : zs.length = sz) (hlen : len * sz ≤ 1000) (hml : len ≤ 1000)
  (hf : Instr.fill (fun i => some (i * sz, sz)) (List.replicate len zs).flatten.toArray pv = some cs) (hc : cs.size = len * sz) (hn : Nat.blt d n.sz = true)
  (k : ∀ a, a ≠ none → JL P K n ops rest Q ((d, .slice a len len) :: s) (OwnSl e sz a len len cs.toList :: A) h) : JL P K n ops (⟨some d, .buildSlice t len parts, ty, pos, af, none⟩ :: rest) Q s A h :=
 bs ht hp hlen hml (by subst hz; rw [zfill]; exact hf) hc hn k
theorem look_len {k : Nat} {e : TypeId} {sz m c : Nat} {a : Option Addr} {cs : List Value} {w : World} (S : SH K h w A) (hk : A[k]? = some (OwnSl e sz a m c cs)) : m ≤ c := by
 obtain ⟨g, hx, _⟩ := S.upd hk
 exact hx.len
theorem J.freezeL {k : Nat} {e : TypeId} {sz m c : Nat} {a : Option Addr} {cs : List Value} {l : Code} (hk : A[k]? = some (OwnSl e sz a m c cs)) (kk : ∀ h', FH.le h h' → m ≤ c → RawSl h' a cs → J P K n l Q s (A.set k tru) h') : J P K n l Q s A h := fun ac w H S => by
 have hlen := look_len S hk
 obtain ⟨g, hx, hd, S'⟩ := S.freeze hk
 exact kk _ (FH.le_join_left h g) hlen (hx.cells.mono (FH.le_join_right hd)) ac w H S'
theorem JL.freezeL {k : Nat} {e : TypeId} {sz m c : Nat} {a : Option Addr} {cs : List Value} {l : List Oper} (hk : A[k]? = some (OwnSl e sz a m c cs)) (kk : ∀ h', FH.le h h' → m ≤ c → RawSl h' a cs → JL P K n ops l Q s (A.set k tru) h') : JL P K n ops l Q s A h := fun ac w H S => by
 have hlen := look_len S hk
 obtain ⟨g, hx, hd, S'⟩ := S.freeze hk
 exact kk _ (FH.le_join_left h g) hlen (hx.cells.mono (FH.le_join_right hd)) ac w H S'
end
section
variable {P : Program} {K : Kp} {m_ : Nat} {ro_ : Option (Option Nat)} {dl_ : List Nat} {ops : Array Oper} {Q : Exit → Act → World → Prop} {s : St} {A : List Asrt} {h : FH}
def JA (P : Program) (K : Kp) (n : Fr) (ops : Array Oper) (Q : Exit → Act → World → Prop) (X D C : List Nat) (val s0 : St) (A : List Asrt) (h : FH) : Prop :=
 dstOk ops (s0.map (·.1)) X = true → ∀ (fuel : Nat) (listed : Array Bool) (a : Act) (w : World) (sL : St), Known ops D C val s0 listed sL → listed.toList.count false ≤ fuel → Holds n sL a → SH K h w A → WA P n.ro ops Q fuel listed a w
def QA (P : Program) (K : Kp) (n : Fr) (ops : Array Oper) (val s0 : St) (A : List Asrt) (h : FH) (C : List Nat) : Prop :=
 ∀ i ∈ C, ∃ o d v si, ops[i]? = some o ∧ o.dst = some d ∧ Nat.blt d n.sz = true ∧ get val i = some v ∧ dl ops val o = si ∧ ((gdT ops si o ∧ ((∀ sL, VF P K n (si ++ (s0 ++ sL)) A h o v) ∨ (∀ sL, CF P K n (si ++ (s0 ++ sL)) A h o v))) ∨ (gdF ops si o ∧ v = undef))
section
variable {val s0 : St} {i d g t : Nat} {C : List Nat} {o : Oper} {u : Value} {want b : Bool}
theorem QA.nil : QA P K ⟨m_, ro_, dl_⟩ ops val s0 A h [] := fun i hi => by cases hi
theorem QA.cons (si : St) (ho : ops[i]? = some o) (hd : o.dst = some d) (hn : Nat.blt d m_ = true) (hv : get val i = some u) (hs : dl ops val o = si) (hx : (gdT ops si o ∧ ((∀ sL, VF P K ⟨m_, ro_, dl_⟩ (si ++ (s0 ++ sL)) A h o u) ∨ (∀ sL, CF P K ⟨m_, ro_, dl_⟩ (si ++ (s0 ++ sL)) A h o u))) ∨ (gdF ops si o ∧ u = undef)) (r : QA P K ⟨m_, ro_, dl_⟩ ops val s0 A h C) : QA P K ⟨m_, ro_, dl_⟩ ops val s0 A h (i :: C) := fun j hj => by
 rcases List.mem_cons.1 hj with rfl | hj
 ·exact ⟨o, d, u, si, ho, hd, hn, hv, hs, hx⟩
 ·exact r j hj
theorem QA.v (si : St) (ho : ops[i]? = some o) (hg : o.guard = none) (hd : o.dst = some d) (hn : Nat.blt d m_ = true) (hv : get val i = some u) (hs : dl ops val o = si) (hx : ∀ sL, VF P K ⟨m_, ro_, dl_⟩ (si ++ (s0 ++ sL)) A h o u) (r : QA P K ⟨m_, ro_, dl_⟩ ops val s0 A h C) : QA P K ⟨m_, ro_, dl_⟩ ops val s0 A h (i :: C) :=
 .cons si ho hd hn hv hs (.inl ⟨gdT_none hg, .inl hx⟩) r
theorem QA.c (si : St) (ho : ops[i]? = some o) (hg : o.guard = none) (hd : o.dst = some d) (hn : Nat.blt d m_ = true) (hv : get val i = some u) (hs : dl ops val o = si) (hx : ∀ sL, CF P K ⟨m_, ro_, dl_⟩ (si ++ (s0 ++ sL)) A h o u) (r : QA P K ⟨m_, ro_, dl_⟩ ops val s0 A h C) : QA P K ⟨m_, ro_, dl_⟩ ops val s0 A h (i :: C) :=
 .cons si ho hd hn hv hs (.inl ⟨gdT_none hg, .inr hx⟩) r
end
def After (P : Program) (K : Kp) (n : Fr) (ops : Array Oper) (Q : Exit → Act → World → Prop) (X D C : List Nat) (val s0 : St) (i : Nat) (o : Oper) (sL : St) : Act → World → Prop := fun a w =>
 ∃ (M C' : List Nat) (pre s1 : St) (A' : List Asrt) (h' : FH), ((∀ t v, get s1 t = some v → get s0 t = some v) ∧ (∀ d, o.dst = some d → ∀ p ∈ s1, Nat.beq p.1 d = false) ∧ dstOk ops (s1.map (·.1)) X = true) ∧ ancOk ops [i] M = true ∧ (∀ j ∈ C, j ∈ M ∨ j ∈ C') ∧ (∀ j, j ∈ D ∨ j ∈ C → get (pre ++ val) j = get val j) ∧
  (match o.dst with | some d => ∃ v, get (pre ++ val) i = some v ∧ Holds n ((d, v) :: sL) a | none => Holds n sL a) ∧ SH K h' w A' ∧ JA P K n ops Q X (i :: (M ++ D)) C' (pre ++ val) s1 A' h'
def HA (P : Program) (K : Kp) (n : Fr) (ops : Array Oper) (Q : Exit → Act → World → Prop) (X D C : List Nat) (val s0 : St) (A : List Asrt) (h : FH) (H : List Nat) : Prop :=
 ∀ i ∈ H, ∃ o si, ops[i]? = some o ∧ dl ops val o = si ∧ ∀ sL, (∀ t v, get (si ++ s0) t = some v → get sL t = some v) → JL P K n ops [o] (Exit.then (After P K n ops Q X D C val s0 i o sL) Q) (si ++ (s0 ++ sL)) A h
theorem HA.nil {X D C : List Nat} {val s0 : St} : HA P K ⟨m_, ro_, dl_⟩ ops Q X D C val s0 A h [] := fun i hi => by cases hi
theorem HA.cons {X D C H : List Nat} {val s0 : St} {i : Nat} {o : Oper} (si : St) (ho : ops[i]? = some o) (hs : dl ops val o = si) (hx : ∀ sL, (∀ t v, get (si ++ s0) t = some v → get sL t = some v) → JL P K ⟨m_, ro_, dl_⟩ ops [o] (Exit.then (After P K ⟨m_, ro_, dl_⟩ ops Q X D C val s0 i o sL) Q) (si ++ (s0 ++ sL)) A h) (r : HA P K ⟨m_, ro_, dl_⟩ ops Q X D C val s0 A h H) : HA P K ⟨m_, ro_, dl_⟩ ops Q X D C val s0 A h (i :: H) := fun j hj => by
 rcases List.mem_cons.1 hj with rfl | hj
 ·exact ⟨o, si, ho, hs, hx⟩
 ·exact r j hj
end
section
variable {P : Program} {K : Kp} {n : Fr} {ops : Array Oper} {Q : Exit → Act → World → Prop} {s : St} {A : List Asrt} {h : FH} {rest : List Oper} {fn : Func} {R : Ending → World → Prop}
end
theorem w_isNaN1 {h : FH} {w : World} (hs : Sub h w) (x : Int) (K : Bool → Prop) (hF : F_isNaN1 x K) : Calls Tryz.prog 98 #[.int .i64 x] w fun e w' => ∃ r : Bool, K r ∧ e = .returned (.bool r) ∧ Below w.heap.size w w' := by
 refine enter (args := [.int .i64 x]) Tryz.func98 rfl Tryz.ntmps98 rfl hs ?_
 refine .seq ?_
 refine .region ?_
 refine .v (asg rfl) rfl rfl rfl ?_
 refine .nil ?_
 refine .seqN ?_
 refine .seq ?_
 refine .region ?_
 refine .v (mv rfl) rfl rfl rfl ?_
 refine .v (mv rfl) rfl rfl rfl ?_
 refine .v (bi rfl rfl rfl) rfl rfl rfl ?_
 refine .v (asg rfl) rfl rfl rfl ?_
 refine .nil ?_
 refine .seqN ?_
 refine .ret ?_
 refine .res1 rfl (rvT rfl) (fun w' S => ⟨x != x, hF, rfl, S.below⟩)
theorem c_isNaN1 {h : FH} {w : World} (hs : Sub h w) (x : Int) : Calls Tryz.prog 98 #[.int .i64 x] w fun e w' => e = .returned (.bool (sp_isNaN1 x)) ∧ Below w.heap.size w w' :=
 (w_isNaN1 hs x (fun r => r = sp_isNaN1 x) (ok_isNaN1 x)).mono fun _ _ ⟨_, hk, he, hb⟩ => ⟨by rw [he, hk], hb⟩
theorem w_compare {h : FH} {w : World} (hs : Sub h w) (x : Int) (y : Int) (K : Int → Prop) (hF : F_compare x y K) : Calls Tryz.prog 76 #[.int .i64 x, .int .i64 y] w fun e w' => ∃ r : Int, K r ∧ e = .returned (.int .i64 r) ∧ Below w.heap.size w w' := by
 refine enter (args := [.int .i64 x, .int .i64 y]) Tryz.func76 rfl Tryz.ntmps76 rfl hs ?_
 refine .seq ?_
 refine .region ?_
 refine .v (asg rfl) rfl rfl rfl ?_
 refine .nil ?_
 refine .seqN ?_
 refine .seq ?_
 refine .region ?_
 refine .v (mv rfl) rfl rfl rfl ?_
 obtain ⟨r2, q1⟩ : ∃ y_ : Bool, y_ = sp_isNaN1 x := ⟨_, rfl⟩
 replace hF := hF r2 q1
 refine .c (cl (v := .bool r2) Tryz.call98 rfl rfl (fun w S => (by rw [q1]; exact c_isNaN1 S.sub x ))) rfl rfl rfl ?_
 refine .v (asg rfl) rfl rfl rfl ?_
 refine .nil ?_
 refine .seqN ?_
 refine .seq ?_
 refine .region ?_
 refine .v (mv rfl) rfl rfl rfl ?_
 obtain ⟨r3, q2⟩ : ∃ y_ : Bool, y_ = sp_isNaN1 y := ⟨_, rfl⟩
 replace hF := hF r3 q2
 refine .c (cl (v := .bool r3) Tryz.call98 rfl rfl (fun w S => (by rw [q2]; exact c_isNaN1 S.sub y ))) rfl rfl rfl ?_
 refine .v (asg rfl) rfl rfl rfl ?_
 refine .nil ?_
 refine .seqN ?_
 refine .seq ?_
 refine .seq ?_
 refine .region ?_
 refine .v (mv rfl) rfl rfl rfl ?_
 refine .nil ?_
 refine .seqN ?_
 refine .cond rfl (fun q6 => ?_) (fun q6 => ?_)
 ·replace hF := hF.1 q6
  refine .seq ?_
  refine .seq ?_
  refine .region ?_
  refine .v (mv rfl) rfl rfl rfl ?_
  refine .nil ?_
  refine .seqN ?_
  refine .cond rfl (fun q8 => ?_) (fun q8 => ?_)
  ·replace hF := hF.1 q8
   refine .seq ?_
   refine .region ?_
   refine .v (asg rfl) rfl rfl rfl ?_
   refine .nil ?_
   refine .seqN ?_
   refine .ret ?_
   refine .seqR ?_
   refine .seqR ?_
   refine .res1 rfl (rvT rfl) (fun w' S => ⟨0, hF, rfl, S.below⟩)
  replace hF := hF.2 q8
  refine .skip ?_
  refine .seqN ?_
  refine .seq ?_
  refine .region ?_
  refine .v (asg rfl) rfl rfl rfl ?_
  refine .nil ?_
  refine .seqN ?_
  refine .ret ?_
  refine .seqR ?_
  refine .res1 rfl (rvT rfl) (fun w' S => ⟨(-1), hF, rfl, S.below⟩)
 replace hF := hF.2 q6
 refine .skip ?_
 refine .seqN ?_
 refine .seq ?_
 refine .seq ?_
 refine .region ?_
 refine .v (mv rfl) rfl rfl rfl ?_
 refine .nil ?_
 refine .seqN ?_
 refine .cond rfl (fun q10 => ?_) (fun q10 => ?_)
 ·replace hF := hF.1 q10
  refine .seq ?_
  refine .region ?_
  refine .v (asg rfl) rfl rfl rfl ?_
  refine .nil ?_
  refine .seqN ?_
  refine .ret ?_
  refine .seqR ?_
  refine .res1 rfl (rvT rfl) (fun w' S => ⟨1, hF, rfl, S.below⟩)
 replace hF := hF.2 q10
 refine .skip ?_
 refine .seqN ?_
 refine .seq ?_
 refine .seq ?_
 refine .region ?_
 refine .v (mv rfl) rfl rfl rfl ?_
 refine .v (mv rfl) rfl rfl rfl ?_
 refine .v (bi rfl rfl rfl) rfl rfl rfl ?_
 refine .nil ?_
 refine .seqN ?_
 refine .cond rfl (fun q12 => ?_) (fun q12 => ?_)
 ·replace hF := hF.1 q12
  refine .seq ?_
  refine .region ?_
  refine .v (asg rfl) rfl rfl rfl ?_
  refine .nil ?_
  refine .seqN ?_
  refine .ret ?_
  refine .seqR ?_
  refine .res1 rfl (rvT rfl) (fun w' S => ⟨(-1), hF, rfl, S.below⟩)
 replace hF := hF.2 q12
 refine .skip ?_
 refine .seqN ?_
 refine .seq ?_
 refine .seq ?_
 refine .region ?_
 refine .v (mv rfl) rfl rfl rfl ?_
 refine .v (mv rfl) rfl rfl rfl ?_
 refine .v (bi rfl rfl rfl) rfl rfl rfl ?_
 refine .nil ?_
 refine .seqN ?_
 refine .cond rfl (fun q14 => ?_) (fun q14 => ?_)
 ·replace hF := hF.1 q14
  refine .seq ?_
  refine .region ?_
  refine .v (asg rfl) rfl rfl rfl ?_
  refine .nil ?_
  refine .seqN ?_
  refine .ret ?_
  refine .seqR ?_
  refine .res1 rfl (rvT rfl) (fun w' S => ⟨1, hF, rfl, S.below⟩)
 replace hF := hF.2 q14
 refine .skip ?_
 refine .seqN ?_
 refine .seq ?_
 refine .region ?_
 refine .v (asg rfl) rfl rfl rfl ?_
 refine .nil ?_
 refine .seqN ?_
 refine .ret ?_
 refine .res1 rfl (rvT rfl) (fun w' S => ⟨0, hF, rfl, S.below⟩)
theorem c_compare {h : FH} {w : World} (hs : Sub h w) (x : Int) (y : Int) : Calls Tryz.prog 76 #[.int .i64 x, .int .i64 y] w fun e w' => e = .returned (.int .i64 (sp_compare x y)) ∧ Below w.heap.size w w' :=
 (w_compare hs x y (fun r => r = sp_compare x y) (ok_compare x y)).mono fun _ _ ⟨_, hk, he, hb⟩ => ⟨by rw [he, hk], hb⟩
set_option maxHeartbeats 8000000 in
theorem w_scompare {h : FH} {w : World} (hs : Sub h w) (s1 : List Int) (as1 : Option Addr) (cs1 : Nat) (_q1 : RSl h as1 s1) (_q2 : s1.length ≤ cs1) (s2 : List Int) (as2 : Option Addr) (cs2 : Nat) (_q3 : RSl h as2 s2) (_q4 : s2.length ≤ cs2) (K : Int → Prop) (hF : F_scompare s1 s2 K) : Calls Tryz.prog 51 #[.slice as1 s1.length cs1, .slice as2 s2.length cs2] w fun e w' => ∃ r : Int, K r ∧ e = .returned (.int .i64 r) ∧ Below w.heap.size w w' := by
 refine enter (args := [.slice as1 s1.length cs1, .slice as2 s2.length cs2]) Tryz.func51 rfl Tryz.ntmps51 rfl hs ?_
 refine .seq ?_
 refine .region ?_
 refine .v (asg rfl) rfl rfl rfl ?_
 refine .nil ?_
 refine .seqN ?_
 refine .seq ?_
 refine .seq ?_
 refine .region ?_
 refine .v (mv rfl) rfl rfl rfl ?_
 refine .v (ln rfl tS22.is) rfl rfl rfl ?_
 refine .v (mv rfl) rfl rfl rfl ?_
 refine .nil ?_
 refine .seqN ?_
 refine .block ?_
 obtain ⟨I1, μ1, q112, q113⟩ := hF
 refine .loop' (σ := Int) (fun z => I1 z) (fun z => μ1 z) (fun z => [(0, .slice as1 s1.length cs1), (1, .slice as2 s2.length cs2), (9, .slice as1 s1.length cs1), (10, .int .i64 ((s1.length : Nat) : Int)), (11, .int .i64 z)]) (fun _ => []) (fun _ => h) 0 q112 (.cons rfl (.cons rfl (.cons rfl (.cons rfl (.cons rfl (.nil)))))) rfl (FH.le_refl _) ?_
 rintro t11 q112
 have hF := q113 t11 q112
 show J _ _ _ _ _ [(0, .slice as1 s1.length cs1), (1, .slice as2 s2.length cs2), (9, .slice as1 s1.length cs1), (10, .int .i64 ((s1.length : Nat) : Int)), (11, .int .i64 t11)] [] h
 refine .seq ?_
 refine .region ?_
 refine .v (bi rfl rfl rfl) rfl rfl rfl ?_
 refine .nil ?_
 refine .seqN ?_
 refine .seq ?_
 refine .cond rfl (fun q116 => ?_) (fun q116 => ?_)
 ·replace hF := hF.1 q116
  refine .skip ?_
  refine .seqN ?_
  refine .seq ?_
  refine .block ?_
  refine .seq ?_
  refine .region ?_
  refine .v (mv rfl) rfl rfl rfl ?_
  obtain ⟨q129, hF⟩ := hF
  refine .v (ix rfl rfl tS22 (_q1.ne (by decide) (inb_pos q129)) q129) rfl rfl rfl ?_
  refine .v (ld1 (v := .int .i64 (gt s1 t11)) rfl tO3 (cellH (_q1.elemF q129 (by decide) 0 _ rfl))) rfl rfl rfl ?_
  refine .v (asg rfl) rfl rfl rfl ?_
  refine .v (asg rfl) rfl rfl rfl ?_
  refine .nil ?_
  refine .seqN ?_
  refine .seq ?_
  refine .seq ?_
  refine .region ?_
  refine .v (mv rfl) rfl rfl rfl ?_
  refine .v (mv rfl) rfl rfl rfl ?_
  refine .v (ln rfl tS22.is) rfl rfl rfl ?_
  refine .v (bi rfl rfl rfl) rfl rfl rfl ?_
  refine .nil ?_
  refine .seqN ?_
  refine .cond rfl (fun q131 => ?_) (fun q131 => ?_)
  ·replace hF := hF.1 q131
   refine .seq ?_
   refine .region ?_
   refine .v (asg rfl) rfl rfl rfl ?_
   refine .nil ?_
   refine .seqN ?_
   refine .ret ?_
   refine .seqR ?_
   refine .blkR ?_
   refine .seqR ?_
   refine .seqR ?_
   refine .blkR ?_
   refine .seqR ?_
   refine .res1 rfl (rvT rfl) (fun w' S => ⟨1, hF, rfl, S.below⟩)
  replace hF := hF.2 q131
  refine .skip ?_
  refine .seqN ?_
  refine .seq ?_
  refine .region ?_
  refine .v (mv rfl) rfl rfl rfl ?_
  refine .v (mv rfl) rfl rfl rfl ?_
  obtain ⟨q132, hF⟩ := hF
  refine .v (ix rfl rfl tS22 (_q3.ne (by decide) (inb_pos q132)) q132) rfl rfl rfl ?_
  refine .v (ld1 (v := .int .i64 (gt s2 t11)) rfl tO3 (cellH (_q3.elemF q132 (by decide) 0 _ rfl))) rfl rfl rfl ?_
  refine .v (asg rfl) rfl rfl rfl ?_
  refine .nil ?_
  refine .seqN ?_
  refine .seq ?_
  refine .region ?_
  refine .v (mv rfl) rfl rfl rfl ?_
  refine .v (mv rfl) rfl rfl rfl ?_
  obtain ⟨r2, q133⟩ : ∃ y_ : Int, y_ = sp_compare (gt s1 t11) (gt s2 t11) := ⟨_, rfl⟩
  replace hF := hF r2 q133
  refine .c (cl (v := .int .i64 r2) Tryz.call76 rfl rfl (fun w S => (by rw [q133]; exact c_compare S.sub (gt s1 t11) (gt s2 t11) ))) rfl rfl rfl ?_
  refine .v (asg rfl) rfl rfl rfl ?_
  refine .nil ?_
  refine .seqN ?_
  refine .seq ?_
  refine .region ?_
  refine .v (mv rfl) rfl rfl rfl ?_
  refine .v (bi rfl rfl rfl) rfl rfl rfl ?_
  refine .nil ?_
  refine .seqN ?_
  refine .cond rfl (fun q134 => ?_) (fun q134 => ?_)
  ·replace hF := hF.1 q134
   refine .seq ?_
   refine .region ?_
   refine .v (mv rfl) rfl rfl rfl ?_
   refine .v (asg rfl) rfl rfl rfl ?_
   refine .nil ?_
   refine .seqN ?_
   refine .ret ?_
   refine .blkR ?_
   refine .seqR ?_
   refine .seqR ?_
   refine .blkR ?_
   refine .seqR ?_
   refine .res1 rfl (rvT rfl) (fun w' S => ⟨r2, hF, rfl, S.below⟩)
  replace hF := hF.2 q134
  refine .skip ?_
  refine .blkN ?_
  refine .seqN ?_
  refine .region ?_
  refine .v (bi rfl rfl rfl) rfl rfl rfl ?_
  refine .v (mv rfl) rfl rfl rfl ?_
  refine .nil ?_
  exact .round (IntKind.i64.wrap (t11 + 1)) hF.1 hF.2 (.cons rfl (.cons rfl (.cons rfl (.cons rfl (.cons rfl (.nil)))))) rfl (FH.le_refl _)
 replace hF := hF.2 q116
 refine .exit ?_
 refine .seqX ?_
 refine .seqX ?_
 refine .blkX ?_
 refine .seqN ?_
 refine .seq ?_
 refine .seq ?_
 refine .region ?_
 refine .v (mv rfl) rfl rfl rfl ?_
 refine .v (ln rfl tS22.is) rfl rfl rfl ?_
 refine .v (mv rfl) rfl rfl rfl ?_
 refine .v (ln rfl tS22.is) rfl rfl rfl ?_
 refine .v (bi rfl rfl rfl) rfl rfl rfl ?_
 refine .nil ?_
 refine .seqN ?_
 refine .cond rfl (fun q136 => ?_) (fun q136 => ?_)
 ·replace hF := hF.1 q136
  refine .seq ?_
  refine .region ?_
  refine .v (asg rfl) rfl rfl rfl ?_
  refine .nil ?_
  refine .seqN ?_
  refine .ret ?_
  refine .seqR ?_
  refine .res1 rfl (rvT rfl) (fun w' S => ⟨(-1), hF, rfl, S.below⟩)
 replace hF := hF.2 q136
 refine .skip ?_
 refine .seqN ?_
 refine .seq ?_
 refine .region ?_
 refine .v (asg rfl) rfl rfl rfl ?_
 refine .nil ?_
 refine .seqN ?_
 refine .ret ?_
 refine .res1 rfl (rvT rfl) (fun w' S => ⟨0, hF, rfl, S.below⟩)
theorem c_scompare {h : FH} {w : World} (hs : Sub h w) (s1 : List Int) (as1 : Option Addr) (cs1 : Nat) (_q1 : RSl h as1 s1) (_q2 : s1.length ≤ cs1) (s2 : List Int) (as2 : Option Addr) (cs2 : Nat) (_q3 : RSl h as2 s2) (_q4 : s2.length ≤ cs2) (hp : pre_scompare s1 s2) : Calls Tryz.prog 51 #[.slice as1 s1.length cs1, .slice as2 s2.length cs2] w fun e w' => e = .returned (.int .i64 (sp_scompare s1 s2)) ∧ Below w.heap.size w w' :=
 (w_scompare hs s1 as1 cs1 _q1 _q2 s2 as2 cs2 _q3 _q4 (fun r => r = sp_scompare s1 s2) (ok_scompare s1 s2 hp)).mono fun _ _ ⟨_, hk, he, hb⟩ => ⟨by rw [he, hk], hb⟩
theorem w_facts {h : FH} {w : World} (hs : Sub h w) (w_ : Int) (K : (List Int) → Prop) (hF : F_facts w_ K) : Calls Tryz.prog 52 #[.int .u32 w_] w fun e w' => ∃ (r : List Int) (z : Option Addr × Nat) (h1 : FH), K r ∧ e = .returned (.slice z.1 r.length z.2) ∧ FH.le h h1 ∧ (RSl h1 z.1 r ∧ r.length ≤ z.2) ∧ SH (Kp.all w h) h1 w' [] := by
 refine enter (args := [.int .u32 w_]) Tryz.func52 rfl Tryz.ntmps52 rfl hs ?_
 refine .seq ?_
 refine .region ?_
 refine .v (asg rfl) rfl rfl rfl ?_
 refine .nil ?_
 refine .seqN ?_
 refine .seq ?_
 refine .region ?_
 refine .v (asg rfl) rfl rfl rfl ?_
 refine .nil ?_
 refine .seqN ?_
 refine .seq ?_
 refine .seq ?_
 refine .region ?_
 refine .v (mv rfl) rfl rfl rfl ?_
 refine .nil ?_
 refine .seqN ?_
 refine .block ?_
 refine .nilSl 3 1 ?_
 refine .cast (A' := [OwnSl 3 1 none (([] : List Int).length) 0 (flL ([] : List Int))]) rfl ?_
 obtain ⟨I1, μ1, q73, q74⟩ := hF
 refine .loop' (σ := Int × List Int × Option Addr × Nat) (fun z => I1 z.1 z.2.1) (fun z => μ1 z.1 z.2.1) (fun z => [(0, .int .u32 w_), (3, .slice z.2.2.1 z.2.1.length z.2.2.2), (5, .int .i64 z.1)]) (fun z => [OwnSl 3 1 z.2.2.1 z.2.1.length z.2.2.2 (flL z.2.1)]) (fun _ => h) (0, ([] : List Int), none, 0) q73 (.cons rfl (.cons rfl (.cons rfl (.nil)))) rfl (FH.le_refl _) ?_
 rintro ⟨t5, out, aout, cout⟩ q73
 have hF := q74 t5 out q73
 show J _ _ _ _ _ [(0, .int .u32 w_), (3, .slice aout out.length cout), (5, .int .i64 t5)] [OwnSl 3 1 aout out.length cout (flL out)] h
 refine .seq ?_
 refine .region ?_
 refine .v (bi rfl rfl rfl) rfl rfl rfl ?_
 refine .nil ?_
 refine .seqN ?_
 refine .seq ?_
 refine .cond rfl (fun q77 => ?_) (fun q77 => ?_)
 ·replace hF := hF.1 q77
  refine .skip ?_
  refine .seqN ?_
  refine .share (σ := List Int × Option Addr × Nat) (fun z => F_facts_J1 out t5 I1 μ1 z.1) (fun z => [(0, .int .u32 w_), (3, .slice z.2.1 z.1.length z.2.2), (5, .int .i64 t5)]) (fun z => [OwnSl 3 1 z.2.1 z.1.length z.2.2 (flL z.1)]) (fun _ => h) ?_ (fun q84 => ?_)
  ·rintro ⟨out3, aout3, cout3⟩ hF
   show J _ _ _ _ _ [(0, .int .u32 w_), (3, .slice aout3 out3.length cout3), (5, .int .i64 t5)] [OwnSl 3 1 aout3 out3.length cout3 (flL out3)] h
   refine .region ?_
   refine .v (bi rfl rfl rfl) rfl rfl rfl ?_
   refine .v (mv rfl) rfl rfl rfl ?_
   refine .nil ?_
   exact .round (IntKind.i64.wrap (t5 + 1), out3, aout3, cout3) hF.1 hF.2 (.cons rfl (.cons rfl (.cons rfl (.nil)))) rfl (FH.le_refl _)
  refine .block ?_
  refine .seq ?_
  refine .region ?_
  refine .v (mv rfl) rfl rfl rfl ?_
  refine .v (asg rfl) rfl rfl rfl ?_
  refine .nil ?_
  refine .seqN ?_
  refine .seq ?_
  refine .region ?_
  refine .v (mv rfl) rfl rfl rfl ?_
  refine .v (mv rfl) rfl rfl rfl ?_
  obtain ⟨q85, hF⟩ := hF
  refine .v (bsh rfl rfl q85 rfl) rfl rfl rfl ?_
  obtain ⟨x, q86⟩ : ∃ y_ : Int, y_ = (bits .and .u32 (Int.fdiv w_ (2 ^ (min ((t5 : Int)).toNat (IntKind.bits .u32)))) 1) := ⟨_, rfl⟩
  replace hF := hF x q86
  refine .v (v := .int .u32 x) (by rw [q86]; exact bi rfl rfl rfl) rfl rfl rfl ?_
  refine .v (bi rfl rfl rfl) rfl rfl rfl ?_
  refine .nil ?_
  refine .seqN ?_
  refine .cond rfl (fun q87 => ?_) (fun q87 => ?_)
  ·replace hF := hF.1 q87
   refine .region ?_
   refine .v (mv rfl) rfl rfl rfl ?_
   refine .v (mv rfl) rfl rfl rfl ?_
   refine bs2 (cs := #[.int .i64 t5]) (pv := [(0, .int .i64 t5)]) tS22 rfl rfl (by decide) (by decide) rfl rfl rfl (fun a _ => ?_)
   refine .cast (A' := [OwnSl 3 1 a (([t5] : List Int).length) 1 (flL ([t5] : List Int)), OwnSl 3 1 aout out.length cout (flL out)]) rfl ?_
   obtain ⟨q89, hF⟩ := hF
   have q90 : out.length + ([t5] : List Int).length = ((out ++ ([t5] : List Int))).length := len_app rfl rfl
   refine app (k := 1) (news := flL ([t5] : List Int)) (cs' := flL (out ++ ([t5] : List Int))) (nm := ((out ++ ([t5] : List Int))).length) tS22 rfl (by decide) rfl rfl rfl (by rw [flL_len]; rfl) (srcS (k := 0) rfl) (flL_one _) (room_of q90 q89).1 (room_of q90 q89).2 q90 (flL_append _ _).symm rfl (fun a2 c => ?_)
   refine .cast (A' := [OwnSl 3 1 a (([t5] : List Int).length) 1 (flL ([t5] : List Int)), OwnSl 3 1 a2 ((out ++ ([t5] : List Int)).length) c (flL (out ++ ([t5] : List Int)))]) rfl ?_
   refine .v (asg rfl) rfl rfl rfl ?_
   refine .nil ?_
   refine .blkN ?_
   refine .sel0 [1] (by decide) rfl ?_
   exact .use q84 ((out ++ ([t5] : List Int)), a2, c) hF (.cons rfl (.cons rfl (.cons rfl (.nil)))) rfl (FH.le_refl _)
  replace hF := hF.2 q87
  refine .skip ?_
  refine .blkN ?_
  exact .use q84 (out, aout, cout) hF (.cons rfl (.cons rfl (.cons rfl (.nil)))) rfl (FH.le_refl _)
 replace hF := hF.2 q77
 refine .exit ?_
 refine .seqX ?_
 refine .seqX ?_
 refine .blkX ?_
 refine .seqN ?_
 refine .seq ?_
 refine .region ?_
 refine .v (mv rfl) rfl rfl rfl ?_
 refine .v (asg rfl) rfl rfl rfl ?_
 refine .nil ?_
 refine .seqN ?_
 refine .freezeL (k := 0) rfl (fun h1 le1 q92 q91 => ?_)
 refine .cast (A' := [tru]) rfl ?_
 refine .ret ?_
 refine .res1 rfl (rvT rfl) (fun w' S => ⟨out, (aout, cout), h1, hF, rfl, (le1), ⟨(RSl.of q91), (q92)⟩, S.none⟩)
theorem c_facts {h : FH} {w : World} (hs : Sub h w) (w_ : Int) (hp : pre_facts w_) : Calls Tryz.prog 52 #[.int .u32 w_] w fun e w' => ∃ (z : Option Addr × Nat) (h1 : FH), e = .returned (.slice z.1 (sp_facts w_).length z.2) ∧ FH.le h h1 ∧ (RSl h1 z.1 (sp_facts w_) ∧ (sp_facts w_).length ≤ z.2) ∧ SH (Kp.all w h) h1 w' [] :=
 (w_facts hs w_ (fun r => r = sp_facts w_) (ok_facts w_ hp)).mono fun _ _ ⟨r, z, h1, hk, he, hl, hf, hS⟩ => by subst hk; exact ⟨z, h1, he, hl, hf, hS⟩
theorem w_wcmp {h : FH} {w : World} (hs : Sub h w) (a : Int) (b : Int) (K : Int → Prop) (hF : F_wcmp a b K) : Calls Tryz.prog 50 #[.int .u32 a, .int .u32 b] w fun e w' => ∃ r : Int, K r ∧ e = .returned (.int .i64 r) ∧ Below w.heap.size w w' := by
 refine enter (args := [.int .u32 a, .int .u32 b]) Tryz.func50 rfl Tryz.ntmps50 rfl hs ?_
 refine .seq ?_
 refine .region ?_
 refine .v (asg rfl) rfl rfl rfl ?_
 refine .nil ?_
 refine .seqN ?_
 refine .seq ?_
 refine .region ?_
 refine .v (mv rfl) rfl rfl rfl ?_
 obtain ⟨q1, hF⟩ := hF
 obtain ⟨r2, q2⟩ : ∃ y_ : List Int, y_ = sp_facts a := ⟨_, rfl⟩
 replace hF := hF r2 q2
 refine clR (α := Option Addr × Nat) (Φ := fun h1 z => RSl h1 z.1 r2 ∧ r2.length ≤ z.2) (V := fun z => .slice z.1 r2.length z.2) Tryz.call52 rfl rfl (fun w S => (by rw [q2]; exact c_facts S.sub a q1)) rfl (fun z h1 le1 hz => ?_)
 obtain ⟨a2, c⟩ := z
 obtain ⟨q3, q4⟩ := hz
 refine .v (mv rfl) rfl rfl rfl ?_
 obtain ⟨q5, hF⟩ := hF
 obtain ⟨r3, q6⟩ : ∃ y_ : List Int, y_ = sp_facts b := ⟨_, rfl⟩
 replace hF := hF r3 q6
 refine clR (α := Option Addr × Nat) (Φ := fun h1 z => RSl h1 z.1 r3 ∧ r3.length ≤ z.2) (V := fun z => .slice z.1 r3.length z.2) Tryz.call52 rfl rfl (fun w S => (by rw [q6]; exact c_facts S.sub b q5)) rfl (fun z h2 le2 hz => ?_)
 obtain ⟨a3, c2⟩ := z
 obtain ⟨q7, q8⟩ := hz
 obtain ⟨q9, hF⟩ := hF
 obtain ⟨r4, q10⟩ : ∃ y_ : Int, y_ = sp_scompare r2 r3 := ⟨_, rfl⟩
 replace hF := hF r4 q10
 refine .c (cl (v := .int .i64 r4) Tryz.call51 rfl rfl (fun w S => (by rw [q10]; exact c_scompare S.sub r2 a2 c (q3.mono (le2)) q4 r3 a3 c2 q7 q8 q9))) rfl rfl rfl ?_
 refine .v (asg rfl) rfl rfl rfl ?_
 refine .nil ?_
 refine .seqN ?_
 refine .ret ?_
 refine .res1 rfl (rvT rfl) (fun w' S => ⟨r4, hF, rfl, S.below⟩)
theorem c_wcmp {h : FH} {w : World} (hs : Sub h w) (a : Int) (b : Int) (hp : pre_wcmp a b) : Calls Tryz.prog 50 #[.int .u32 a, .int .u32 b] w fun e w' => e = .returned (.int .i64 (sp_wcmp a b)) ∧ Below w.heap.size w w' :=
 (w_wcmp hs a b (fun r => r = sp_wcmp a b) (ok_wcmp a b hp)).mono fun _ _ ⟨_, hk, he, hb⟩ => ⟨by rw [he, hk], hb⟩
end Go.Proofs.YtimillpakjgnoaaGreatDoor.Pl.Pd

namespace Go.Proofs
open Go.Shelf
def YtimillpakjgnoaaGreatDoor.laysSR_ren : Go.Shelf.Ren := ⟨fun | 6 => 68 | 15 => 75 | 14 => 86 | 28 => 96 | 29 => 97 | 20 => 113 | 21 => 114 | 22 => 115 | 23 => 116 | 24 => 117 | 25 => 118 | 26 => 119 | 27 => 120 | 46 => 137 | 47 => 126 | 48 => 127 | 49 => 138 | 50 => 139 | 57 => 148 | n => n, fun | 22 => 35 | 24 => 22 | 25 => 94 | 3 => 3 | 39 => 138 | 0 => 0 | 53 => 60 | 55 => 148 | 4 => 4 | 46 => 152 | 45 => 151 | 50 => 122 | 5 => 5 | 9 => 9 | 66 => 185 | 70 => 189 | 76 => 213 | 77 => 214 | n => n, fun | n => n⟩
theorem YtimillpakjgnoaaGreatDoor.laysSR : Go.Proofs.SlLaysF.n6 Tryz.prog YtimillpakjgnoaaGreatDoor.laysSR_ren := {
  mixed := by kernel_rfl
  f6 := ⟨Tryz.f68.name, by decide, Tryz.func68.trans (congrArg some (by kernel_rfl))⟩
  f14 := ⟨Tryz.f86.name, by decide, Tryz.func86.trans (congrArg some (by kernel_rfl))⟩
  f15 := Tryz.func75.trans (congrArg some (by kernel_rfl))
  f20 := ⟨Tryz.f113.name, by decide, Tryz.func113.trans (congrArg some (by kernel_rfl))⟩
  f21 := ⟨Tryz.f114.name, by decide, Tryz.func114.trans (congrArg some (by kernel_rfl))⟩
  f22 := ⟨Tryz.f115.name, by decide, Tryz.func115.trans (congrArg some (by kernel_rfl))⟩
  f23 := ⟨Tryz.f116.name, by decide, Tryz.func116.trans (congrArg some (by kernel_rfl))⟩
  f24 := ⟨Tryz.f117.name, by decide, Tryz.func117.trans (congrArg some (by kernel_rfl))⟩
  f25 := ⟨Tryz.f118.name, by decide, Tryz.func118.trans (congrArg some (by kernel_rfl))⟩
  f26 := ⟨Tryz.f119.name, by decide, Tryz.func119.trans (congrArg some (by kernel_rfl))⟩
  f27 := ⟨Tryz.f120.name, by decide, Tryz.func120.trans (congrArg some (by kernel_rfl))⟩
  f28 := Tryz.func96.trans (congrArg some (by kernel_rfl))
  f29 := Tryz.func97.trans (congrArg some (by kernel_rfl))
  f46 := ⟨Tryz.f137.name, by decide, Tryz.func137.trans (congrArg some (by kernel_rfl))⟩
  f47 := Tryz.func126.trans (congrArg some (by kernel_rfl))
  f48 := Tryz.func127.trans (congrArg some (by kernel_rfl))
  f49 := ⟨Tryz.f138.name, by decide, Tryz.func138.trans (congrArg some (by kernel_rfl))⟩
  f50 := ⟨Tryz.f139.name, by decide, Tryz.func139.trans (congrArg some (by kernel_rfl))⟩
  f57 := ⟨Tryz.f148.name, by decide, Tryz.func148.trans (congrArg some (by kernel_rfl))⟩
  t0 := Tryz.underlying0
  a0 := Tryz.isAgg0
  z0 := Tryz.sizeOf0
  v0 := Tryz.zeroValue0
  t3 := Tryz.underlying3
  a3 := Tryz.isAgg3
  z3 := Tryz.sizeOf3
  v3 := Tryz.zeroValue3
  t4 := Tryz.underlying4
  a4 := Tryz.isAgg4
  z4 := Tryz.sizeOf4
  v4 := Tryz.zeroValue4
  t5 := Tryz.underlying5
  a5 := Tryz.isAgg5
  z5 := Tryz.sizeOf5
  v5 := Tryz.zeroValue5
  t9 := Tryz.underlying9
  a9 := Tryz.isAgg9
  z9 := Tryz.sizeOf9
  v9 := Tryz.zeroValue9
  t22 := Tryz.underlying35
  a22 := Tryz.isAgg35
  z22 := Tryz.sizeOf35
  v22 := Tryz.zeroValue35
  a24 := Tryz.isAgg22
  z24 := Tryz.sizeOf22
  t25 := Tryz.underlying94
  a25 := Tryz.isAgg94
  z25 := Tryz.sizeOf94
  v25 := Tryz.zeroValue94
  t39 := Tryz.underlying138
  a39 := Tryz.isAgg138
  z39 := Tryz.sizeOf138
  v39 := Tryz.zeroValue138
  t45 := Tryz.underlying151
  a45 := Tryz.isAgg151
  z45 := Tryz.sizeOf151
  v45 := Tryz.zeroValue151
  t46 := Tryz.underlying152
  a46 := Tryz.isAgg152
  z46 := Tryz.sizeOf152
  v46 := Tryz.zeroValue152
  t50 := Tryz.underlying122
  a50 := Tryz.isAgg122
  z50 := Tryz.sizeOf122
  v50 := Tryz.zeroValue122
  t53 := Tryz.underlying60
  a53 := Tryz.isAgg60
  z53 := Tryz.sizeOf60
  v53 := Tryz.zeroValue60
  t55 := Tryz.underlying148
  a55 := Tryz.isAgg148
  z55 := Tryz.sizeOf148
  v55 := Tryz.zeroValue148
  t66 := Tryz.underlying185
  a66 := Tryz.isAgg185
  z66 := Tryz.sizeOf185
  v66 := Tryz.zeroValue185
  t70 := Tryz.underlying189
  a70 := Tryz.isAgg189
  z70 := Tryz.sizeOf189
  v70 := Tryz.zeroValue189
  t76 := Tryz.underlying213
  a76 := Tryz.isAgg213
  z76 := Tryz.sizeOf213
  v76 := Tryz.zeroValue213
  t77 := Tryz.underlying214
  a77 := Tryz.isAgg214
  z77 := Tryz.sizeOf214
  v77 := Tryz.zeroValue214 }
end Go.Proofs
namespace Go.Proofs.YtimillpakjgnoaaGreatDoor.Pl
open Go Go.RowKit Go.Sort
theorem grow_of_drawn {W w' : World} (hb : Pd.Below W.heap.size W w') : ∃ q os', w' = grow (W.drewN q) os' := by
 refine ⟨w'.drawn - W.drawn, w'.heap.extract W.heap.size w'.heap.size, ?_⟩
 have h1 : w'.heap = W.heap ++ w'.heap.extract W.heap.size w'.heap.size := by
  refine Array.ext_getElem? fun i => ?_
  rw [Array.getElem?_append]
  split
  ·rename_i h; exact hb.block i h
  ·rename_i h
   rw [Array.getElem?_extract]
   split
   ·congr 1; omega
   ·exact Array.getElem?_eq_none (by omega)
 have h2 : w'.drawn = W.drawn + (w'.drawn - W.drawn) := by have h0 : W.drawn ≤ w'.drawn := hb.drawn; omega
 have h3 := hb.os
 have h4 := hb.tape
 have h5 := hb.output
 generalize w'.heap.extract W.heap.size w'.heap.size = os at h1
 generalize w'.drawn - W.drawn = q at h2
 cases w'
 simp only at h1 h2 h3 h4 h5
 subst h1; subst h2; subst h3; subst h4; subst h5
 rfl
theorem putG {w : World} {h : FH} {b c m sz q : Nat} {cur : Array Value} {e : TypeId} {ds : List Value} {os : Array Obj} (hs : Sub h w) (sg : Sub (FH.one b (.cells cur e (0, 0))) w) (hd : Disj h (FH.one b (.cells cur e (0, 0)))) (hmax : c ≤ maxLen) (hsz : cur.size = c * sz) (hds : ds.length = m * sz) (hm : m ≤ c) :
  SH (Kp.ex w h (FH.one b (.cells cur e (0, 0)))) h (grow (putRow id (Sort.ahead w q) b 0 ds.toArray) os) [OwnSl e sz (some ⟨b, 0, none⟩) m c ds] := by
 have hb : w.heap[b]? = some (.cells cur e (0, 0)) := sg b _ (FH.one_self _ _)
 have hlt : b < w.heap.size := sg.lt (FH.one_self _ _)
 have hheap : ∀ i, i < w.heap.size → (grow (putRow id (Sort.ahead w q) b 0 ds.toArray) os).heap[i]? = if b = i then some (.cells (putCells id 0 ds.toArray cur) e (0, 0)) else w.heap[i]? := fun i hi => by
  show ((w.heap.modify b (onCells (putCells id 0 ds.toArray))) ++ os)[i]? = _
  rw [Array.getElem?_append_left (by rw [Array.size_modify]; exact hi), Array.getElem?_modify]
  by_cases q : b = i
  ·subst q
   rw [if_pos rfl, if_pos rfl, hb]; rfl
  ·rw [if_neg q, if_neg q]
 have hsize : w.heap.size ≤ (grow (putRow id (Sort.ahead w q) b 0 ds.toArray) os).heap.size := by
  show w.heap.size ≤ ((w.heap.modify b (onCells (putCells id 0 ds.toArray))) ++ os).size
  rw [Array.size_append, Array.size_modify]; omega
 have hone : ∀ i, FH.one b (.cells cur e (0, 0)) i = none → b ≠ i := fun i g q => by
  subst q
  rw [FH.one_self] at g; cases g
 have hnb : ∀ i, h i ≠ none → b ≠ i := fun i hi => hone i ((hd i).resolve_left hi)
 refine ⟨⟨rfl, rfl, rfl, hsize, fun i hi => ?_, (by unfold dr; first | exact Nat.le_add_right _ _ | exact Nat.le_refl _)⟩, fun i o ho => ?_, fun i hi => .inl hi, [FH.one b (.cells (putCells id 0 ds.toArray cur) e (0, 0))], rfl, ?_, ?_, ?_⟩
 ·rw [hheap i hi.1, if_neg (hone i hi.2)]; rfl
 ·rw [hheap i (hs.lt ho), if_neg (hnb i (by rw [ho]; simp))]; exact hs i o ho
 ·intro i g X hi hX
  cases i with
  | succ i => simp at hi
  | zero =>
   simp at hi hX
   subst hi; subst hX
   have hle : m * sz ≤ c * sz := Nat.mul_le_mul_right sz hm
   refine ⟨hds, .inr ⟨b, _, rfl, rfl, hm, hmax, by simp [putCells, hsz], ?_⟩⟩
   refine List.ext_getElem? fun k => ?_
   rw [List.getElem?_take]
   by_cases g : k < m * sz
   ·have g2 : k < ds.length := by omega
    have g3 : k < cur.size := by omega
    rw [if_pos g, Array.getElem?_toList]
    simp [putCells, g2, g3]
   ·rw [if_neg g, List.getElem?_eq_none (by omega)]
 ·intro i g hi
  cases i with
  | succ i => simp at hi
  | zero =>
   simp at hi
   subst hi
   refine ⟨fun j => ?_, Sub.one ?_, fun j hj hk => ?_⟩
   ·by_cases g : h j = none
    ·exact .inl g
    ·exact .inr (by unfold FH.one; rw [if_neg (fun e => hnb j g e.symm)])
   ·rw [hheap b hlt, if_pos rfl]
   ·exact hone j hk.2 (FH.one_ne hj).symm
 ·intro i j g g' hij hi hj
  cases i with
  | succ i => simp at hi
  | zero => cases j with
   | zero => exact absurd rfl hij
   | succ j => simp at hj
theorem ownHoldsG {w : World} {b m : Nat} {cur : Array Value} {e : TypeId} {ds : List Value} (hb : w.heap[b]? = some (.cells cur e (0, 0))) (hl : ds.length = m) (ht : cur.toList.take m = ds) : Go.Sort.Holds id w b 0 ds.toArray := fun j hj => by
 have hj' : j < ds.length := by simpa using hj
 refine ⟨?_, ?_⟩
 ·unfold World.cell?
  rw [hb]
  show (if (none : Option _).isSome = true then none else cur[0 + j]?) = _
  have h1 := congrArg (fun l => l[j]?) ht
  simp only [List.getElem?_take, show j < m by omega, if_true] at h1
  rw [Array.getElem?_toList, List.getElem?_eq_getElem hj'] at h1
  rw [Nat.zero_add]
  simp [h1, hj']
 ·unfold World.frozen?
  rw [hb]
  simp
abbrev RowA (h : FH) := {p : List Int × Value // Rep.rep h p.1 [p.2] ∧ p.1.length ≤ 1000}
instance (h : FH) : Inhabited (RowA h) := ⟨⟨([], .slice none 0 0), ⟨none, 0, rfl, Nat.le_refl 0, RSl.nil_⟩, by simp⟩⟩
def encA {h : FH} (p : RowA h) : Value := p.1.2
def cfA {h : FH} (p q : RowA h) : Int := sp_scompare p.1.1 q.1.1
theorem rows_of {h : FH} : ∀ (l : Bel) (cs : List Value), RepL h l cs → (∀ x ∈ l, x.length ≤ 1000) → ∃ ds : List (RowA h), ds.map (·.1.1) = l ∧ ds.map encA = cs
 | [], cs, r, _ => ⟨[], rfl, (show cs = [] from r).symm⟩
 | x :: l, cs, ⟨c, r, e, h1, h2⟩, hx => by
  obtain ⟨ds, d1, d2⟩ := rows_of l r h2 fun y hy => hx y (List.mem_cons_of_mem _ hy)
  have hl := Rep.len h1
  match c, hl with
  | [v], _ => exact ⟨⟨(x, v), h1, hx x List.mem_cons_self⟩ :: ds, by rw [List.map_cons, d1], by rw [List.map_cons, d2, e]; rfl⟩
theorem rep_rows {h : FH} : ∀ ds : List (RowA h), RepL h (ds.map (·.1.1)) (ds.map encA)
 | [] => rfl
 | p :: ds => ⟨[p.1.2], ds.map encA, rfl, p.2.1, rep_rows ds⟩
theorem ltA {h : FH} (p q : RowA h) : ltOf cfA p q = sp_before p.1.1 q.1.1 := by
 unfold ltOf cfA
 rw [Bool.eq_iff_iff, decide_eq_true_eq]
 exact (scompare_before _ _).1
theorem swoA {h : FH} : SWO (ltOf (cfA (h := h))) := ⟨fun x => by rw [ltA]; exact before_irr _, fun x y z h1 h2 => by
 rw [ltA] at *; exact before_trans _ _ _ h1 h2, fun x y z h1 h2 => by
 rw [ltA] at *; exact nle_trans (y := y.1.1) h2 h1⟩
theorem putRow_map {α : Type} [Inhabited α] (enc : α → Value) (w : World) (b : Nat) (d : Array α) : putRow enc w b 0 d = putRow id w b 0 (d.map enc) := by
 unfold putRow
 congr 1
 funext c
 unfold putCells
 apply Array.ext
 ·simp
 ·intro i h1 h2
  simp only [Array.getElem_mapIdx, Array.size_map, id]
  split
  ·rename_i hi
   have hlt : i - 0 < d.size := by omega
   rw [getElem!_pos d _ hlt, getElem!_pos (d.map enc) _ (by simpa using hlt), Array.getElem_map]
  ·rfl
theorem holds_map {α : Type} [Inhabited α] (enc : α → Value) {w : World} {b : Nat} {d : Array α} (h : Go.Sort.Holds id w b 0 (d.map enc)) : Go.Sort.Holds enc w b 0 d := fun j hj => by
 have := h j (by simpa using hj)
 rwa [getElem!_pos (d.map enc) j (by simpa using hj), Array.getElem_map, ← getElem!_pos d j hj] at this
theorem c_sortR {h : FH} {w : World} (hs : Sub h w) (x : List (List Int)) (a : Option Addr) (c : Nat) {cs : List Value} (rep : RepL h x cs) {gX : FH} (ownX : OwnSl 22 1 a x.length c cs gX) (subX : Sub gX w) (disX : Disj h gX) (hp : pre_sortR x) :
  Calls Tryz.prog 68 #[.slice a x.length c, .func (.func 51) #[] #[]] w fun e w' => e = .returned (.tuple #[]) ∧ SH (Kp.ex w h gX) h w' [OwnPX h 22 1 a c (sp_sortR x)] := by
 have own0 := ownX
 obtain ⟨h1, ⟨rfl, h2, rfl, rfl⟩ | ⟨b, cur, rfl, rfl, h4, h5, h6, h7⟩⟩ := ownX
 ·have e : x = [] := List.length_eq_zero_iff.1 h2
  subst e
  refine (AnyF.slices_SortFunc_none { YtimillpakjgnoaaGreatDoor.laysSR with } none 0 _ w).mono fun e w' ⟨he, hw⟩ => ⟨he, ?_⟩
  subst hw
  rw [show sp_sortR [] = [] by simp [sp_sortR]]
  exact SH.startX (X := OwnPX h 22 1 none 0 ([] : Bel)) hs subX disX ⟨cs, rep, own0⟩
 ·obtain ⟨ds, d1, d2⟩ := rows_of x cs rep hp.2
  have hdl : ds.length = x.length := by rw [← d1, List.length_map]
  have hb := subX b _ (FH.one_self _ _)
  have hlt := subX.lt (FH.one_self _ _)
  have hnb : ∀ i, h i ≠ none → b ≠ i := fun i hi q => by
   subst q
   rcases disX b with g | g
   ·exact hi g
   ·rw [FH.one_self] at g; cases g
  have hcmp : CmpLays1 Tryz.prog 51 #[] (encA (h := h)) cfA b 0 ds.toArray.size w := fun m os dk _ u v => by
   have hsW : Sub h (sortWorld encA w b 0 m dk os) := fun i o ho => by
    have hi := hs.lt ho
    show ((w.heap.modify b (onCells (putCells encA 0 dk))) ++ os)[i]? = _
    rw [Array.getElem?_append_left (by rw [Array.size_modify]; exact hi), Array.getElem?_modify, if_neg (hnb i (by rw [ho]; simp))]
    exact hs i o ho
   obtain ⟨⟨u1, u2⟩, ⟨ua, uc, ue, ul, ur⟩, un⟩ := u
   obtain ⟨⟨v1, v2⟩, ⟨va, vc, ve, vl, vr⟩, vn⟩ := v
   simp only [List.cons.injEq, and_true] at ue ve
   subst ue; subst ve
   exact (Pd.c_scompare hsW u1 ua uc ur ul v1 va vc vr vl ⟨un, vn⟩).mono fun e w' ⟨he, hb⟩ => ⟨he, grow_of_drawn hb⟩
  have hH : Go.Sort.Holds encA w b 0 ds.toArray := holds_map encA (by
   rw [List.map_toArray, d2]
   exact ownHoldsG hb h1 h7)
  have hsz : ds.toArray.size = x.length := by simpa using hdl
  have key := Any.slices_SortFunc YtimillpakjgnoaaGreatDoor.laysSR (encA (h := h)) (fun p => by
   obtain ⟨⟨p1, p2⟩, ⟨pa, pc, pe, _⟩, _⟩ := p
   simp only [List.cons.injEq, and_true] at pe
   subst pe; rfl) cfA swoA 51 #[] b 0 c ds.toArray w Tryz.call51 hcmp hH hlt (by rw [hsz]; have := hp.1; omega)
  rw [hsz] at key
  refine key.mono fun e w' ⟨he, d', n, os, hp', hs', hw⟩ => ⟨he, ?_⟩
  subst hw
  obtain ⟨p1, _, p3⟩ := hp'
  have hx1 : d'.extract 0 x.length = d' := by rw [← hsz, ← p1]; exact Array.extract_size
  have hx2 : ds.toArray.extract 0 x.length = ds.toArray := by rw [← hsz]; exact Array.extract_size
  rw [hx1, hx2] at p3
  have hsort : sp_sortR x = d'.toList.map (·.1.1) := by
   refine sorted_perm _ _ (sortR_sorted x) ?_ ?_
   ·rw [List.pairwise_map, List.pairwise_iff_getElem]
    intro i j hi hj hij
    have hsz' : d'.size = x.length := by rw [p1, hsz]
    have hj' : j < d'.size := by simpa using hj
    have := hs' i j (Nat.zero_le _) hij (by omega)
    rw [ltA, getElem!_pos d' j hj', getElem!_pos d' i (by omega)] at this
    exact this
   ·refine (sortR_perm x).trans ?_
    have := (p3.map (fun p : RowA h => p.1.1)).symm
    rw [List.toList_toArray, d1] at this
    exact this
  have hrep := rep_rows d'.toList
  rw [← hsort] at hrep
  have hlen : (d'.toList.map (encA (h := h))).length = x.length * 1 := by
   rw [List.length_map, Array.length_toList, p1, hsz, Nat.mul_one]
  have big := putG (q := n) (os := os) (ds := d'.toList.map (encA (h := h))) (m := x.length) (sz := 1) hs subX disX h5 h6 hlen h4
  have hlen2 := sortR_len x
  unfold sortWorld
  rw [putRow_map]
  have e5 : d'.map (encA (h := h)) = (d'.toList.map encA).toArray := by
   apply Array.toList_inj.1; simp
  rw [e5]
  exact big.weaken (k := 0) (X := OwnSl 22 1 (some ⟨b, 0, none⟩) x.length c (d'.toList.map encA)) (Y := OwnPX h 22 1 (some ⟨b, 0, none⟩) c (sp_sortR x)) rfl fun g hx => ⟨_, hrep, by rw [hlen2]; exact hx⟩
end Go.Proofs.YtimillpakjgnoaaGreatDoor.Pl

