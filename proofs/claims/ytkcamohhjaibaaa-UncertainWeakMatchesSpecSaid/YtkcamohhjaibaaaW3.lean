/- The walks: from what each function asks to what it does; printed from the code. No condition. -/
import Derived.Test.YtkcamohhjaibaaaW2
namespace Go.Proofs.Ytkcamohhjaibaaa.Pl
open Go Go.RowKit
theorem w_choices {h : FH} {w : World} (hs : Sub h w) (u : Uncertain) (au : Option Addr) (cu : Nat) (_q1 : RSl h au u.network.links) (_q2 : u.network.links.length ≤ cu) (au2 : Option Addr) (cu2 : Nat) (_q3 : RSl h au2 u.contingent) (_q4 : u.contingent.length ≤ cu2) (K : Int → Prop) (hF : F_choices u K) : Calls Try.prog 8 #[.agg #[.int .i64 u.network.events, .slice au u.network.links.length cu, .slice au2 u.contingent.length cu2]] w fun e w' => ∃ r : Int, K r ∧ e = .returned (.int .i64 r) ∧ Below w.heap.size w w' := by
  refine enter (args := [.agg #[.int .i64 u.network.events, .slice au u.network.links.length cu, .slice au2 u.contingent.length cu2]]) Try.func8 rfl Try.ntmps8 rfl hs ?_
  refine .seq ?_
  refine .region ?_
  refine bx (vs := [.int .i64 u.network.events, .slice au u.network.links.length cu, .slice au2 u.contingent.length cu2]) rfl rfl rfl (fun pu => ?_)
  refine .v (asg rfl) rfl rfl rfl ?_
  refine .nil ?_
  refine .seqN ?_
  refine .seq ?_
  refine .region ?_
  refine .v (asg rfl) rfl rfl rfl ?_
  refine .nil ?_
  refine .seqN ?_
  refine .seq ?_
  refine .seq ?_
  refine .region ?_
  refine .v (asg rfl) rfl rfl rfl ?_
  refine .nil ?_
  refine .seqN ?_
  refine .block ?_
  obtain ⟨I1, μ1, q77, q78⟩ := hF
  refine .loop' (σ := Int × Int) (fun z => I1 z.1 z.2) (fun z => μ1 z.1 z.2) (fun z => [(1, .pointer (some pu)), (3, .int .i64 z.1), (4, .int .i64 z.2)]) (fun _ => [Box pu [.int .i64 u.network.events, .slice au u.network.links.length cu, .slice au2 u.contingent.length cu2]]) (fun _ => h) (1, 0) q77 (.cons rfl (.cons rfl (.cons rfl (.nil)))) rfl (FH.le_refl _) ?_
  rintro ⟨n_, i⟩ q77
  have hF := q78 n_ i q77
  show J _ _ _ _ _ [(1, .pointer (some pu)), (3, .int .i64 n_), (4, .int .i64 i)] [Box pu [.int .i64 u.network.events, .slice au u.network.links.length cu, .slice au2 u.contingent.length cu2]] h
  refine .seq ?_
  refine .seq ?_
  refine .region ?_
  refine .v (mv rfl) rfl rfl rfl ?_
  refine .v (fa rfl tF26_1) rfl rfl rfl ?_
  refine .v (ld1 rfl tO22 (cellB (off := 2) (k := 0) rfl rfl)) rfl rfl rfl ?_
  refine .v (ln rfl tS22.is) rfl rfl rfl ?_
  refine .v (bi rfl rfl rfl) rfl rfl rfl ?_
  refine .nil ?_
  refine .seqN ?_
  refine .cond rfl (fun q80 => ?_) (fun q80 => ?_)
  · replace hF := hF.1 q80
    refine .skip ?_
    refine .seqN ?_
    refine .seq ?_
    refine .block ?_
    refine .seq ?_
    refine .open_ (by kernel_rfl) (by kernel_rfl) ?_
    refine .v (mv rfl) rfl rfl rfl ?_
    refine .v (fa rfl tF26_1) rfl rfl rfl ?_
    refine .v (ld1 rfl tO22 (cellB (off := 2) (k := 0) rfl rfl)) rfl rfl rfl ?_
    refine .v (mv rfl) rfl rfl rfl ?_
    obtain ⟨q89, hF⟩ := hF
    refine .v (ix rfl rfl tS22 (_q3.ne (by decide) (inb_pos q89)) q89) rfl rfl rfl ?_
    refine .v (fa rfl tF48_3) rfl rfl rfl ?_
    refine .v (ld1 (v := .int .i64 ((gt u.contingent i).high)) rfl tO3 (cellH (_q3.elemF q89 (by decide) 3 _ rfl))) rfl rfl rfl ?_
    refine .v (fa rfl tF26_1) rfl rfl rfl ?_
    refine .v (ld1 rfl tO22 (cellB (off := 2) (k := 0) rfl rfl)) rfl rfl rfl ?_
    refine .v (mv rfl) rfl rfl rfl ?_
    refine .v (ix rfl rfl tS22 (_q3.ne (by decide) (inb_pos q89)) q89) rfl rfl rfl ?_
    refine .v (fa rfl tF48_2) rfl rfl rfl ?_
    refine .v (ld1 (v := .int .i64 ((gt u.contingent i).low)) rfl tO3 (cellH (_q3.elemF q89 (by decide) 2 _ rfl))) rfl rfl rfl ?_
    obtain ⟨x, q90⟩ : ∃ y_ : Int, y_ = (IntKind.i64.wrap (((gt u.contingent i).high) - ((gt u.contingent i).low))) := ⟨_, rfl⟩
    replace hF := hF x q90
    refine .v (v := .int .i64 x) (by rw [q90]; exact bi rfl rfl rfl) rfl rfl rfl ?_
    refine .v (bi rfl rfl rfl) rfl rfl rfl ?_
    refine .v (bi rfl rfl rfl) rfl rfl rfl ?_
    refine .v (asg rfl) rfl rfl rfl ?_
    refine .fin ?_
    refine .seqN ?_
    refine .seq ?_
    refine .region ?_
    refine .v (mv rfl) rfl rfl rfl ?_
    obtain ⟨x2, q91⟩ : ∃ y_ : Bool, y_ = (decide (1000 < (IntKind.i64.wrap (n_ * (IntKind.i64.wrap (x + 1)))))) := ⟨_, rfl⟩
    replace hF := hF x2 q91
    refine .v (v := .bool x2) (by rw [q91]; exact bi rfl rfl rfl) rfl rfl rfl ?_
    refine .nil ?_
    refine .seqN ?_
    refine .cond rfl (fun q92 => ?_) (fun q92 => ?_)
    · replace hF := hF.1 q92
      refine .seq ?_
      refine .region ?_
      refine .v (asg rfl) rfl rfl rfl ?_
      refine .nil ?_
      refine .seqN ?_
      refine .ret ?_
      refine .blkR ?_
      refine .seqR ?_
      refine .seqR ?_
      refine .blkR ?_
      refine .seqR ?_
      refine .res1 rfl (rvT rfl) (fun w' S => ⟨1000, hF, rfl, S.below⟩)
    replace hF := hF.2 q92
    refine .skip ?_
    refine .blkN ?_
    refine .seqN ?_
    refine .region ?_
    refine .v (mv rfl) rfl rfl rfl ?_
    refine .v (bi rfl rfl rfl) rfl rfl rfl ?_
    refine .v (asg rfl) rfl rfl rfl ?_
    refine .nil ?_
    exact .round (IntKind.i64.wrap (n_ * (IntKind.i64.wrap (x + 1))), IntKind.i64.wrap (i + 1)) hF.1 hF.2 (.cons rfl (.cons rfl (.cons rfl (.nil)))) rfl (FH.le_refl _)
  replace hF := hF.2 q80
  refine .exit ?_
  refine .seqX ?_
  refine .seqX ?_
  refine .blkX ?_
  refine .seqN ?_
  refine .seq ?_
  refine .region ?_
  refine .v (mv rfl) rfl rfl rfl ?_
  refine .v (asg rfl) rfl rfl rfl ?_
  refine .nil ?_
  refine .seqN ?_
  refine .ret ?_
  refine .res1 rfl (rvT rfl) (fun w' S => ⟨n_, hF, rfl, S.below⟩)

theorem c_choices {h : FH} {w : World} (hs : Sub h w) (u : Uncertain) (au : Option Addr) (cu : Nat) (_q1 : RSl h au u.network.links) (_q2 : u.network.links.length ≤ cu) (au2 : Option Addr) (cu2 : Nat) (_q3 : RSl h au2 u.contingent) (_q4 : u.contingent.length ≤ cu2) (hp : pre_choices u) : Calls Try.prog 8 #[.agg #[.int .i64 u.network.events, .slice au u.network.links.length cu, .slice au2 u.contingent.length cu2]] w fun e w' => e = .returned (.int .i64 (sp_choices u)) ∧ Below w.heap.size w w' :=
  (w_choices hs u au cu _q1 _q2 au2 cu2 _q3 _q4 (fun r => r = sp_choices u) (ok_choices u hp)).mono fun _ _ ⟨_, hk, he, hb⟩ => ⟨by rw [he, hk], hb⟩

theorem w_choice {h : FH} {w : World} (hs : Sub h w) (u : Uncertain) (au : Option Addr) (cu : Nat) (_q1 : RSl h au u.network.links) (_q2 : u.network.links.length ≤ cu) (au2 : Option Addr) (cu2 : Nat) (_q3 : RSl h au2 u.contingent) (_q4 : u.contingent.length ≤ cu2) (k : Int) (K : (List Int) → Prop) (hF : F_choice u k K) : Calls Try.prog 21 #[.agg #[.int .i64 u.network.events, .slice au u.network.links.length cu, .slice au2 u.contingent.length cu2], .int .i64 k] w fun e w' => ∃ (r : List Int) (z : Option Addr × Nat) (h1 : FH), K r ∧ e = .returned (.slice z.1 r.length z.2) ∧ FH.le h h1 ∧ (RSl h1 z.1 r ∧ r.length ≤ z.2) ∧ SH (Kp.all w h) h1 w' [] := by
  refine enter (args := [.agg #[.int .i64 u.network.events, .slice au u.network.links.length cu, .slice au2 u.contingent.length cu2], .int .i64 k]) Try.func21 rfl Try.ntmps21 rfl hs ?_
  refine .seq ?_
  refine .region ?_
  refine bx (vs := [.int .i64 u.network.events, .slice au u.network.links.length cu, .slice au2 u.contingent.length cu2]) rfl rfl rfl (fun pu => ?_)
  refine .v (asg rfl) rfl rfl rfl ?_
  refine .nil ?_
  refine .seqN ?_
  refine .seq ?_
  refine .region ?_
  refine .v (asg rfl) rfl rfl rfl ?_
  refine .nil ?_
  refine .seqN ?_
  refine .seq ?_
  refine .seq ?_
  refine .region ?_
  refine .v (asg rfl) rfl rfl rfl ?_
  refine .nil ?_
  refine .seqN ?_
  refine .block ?_
  refine .nilSl 3 1 ?_
  refine .cast (A' := [OwnSl 3 1 none (([] : List Int).length) 0 (flL ([] : List Int)), Box pu [.int .i64 u.network.events, .slice au u.network.links.length cu, .slice au2 u.contingent.length cu2]]) rfl ?_
  refine .sel0 [1, 0] (by decide) rfl ?_
  obtain ⟨I1, μ1, q167, q168⟩ := hF
  refine .loop' (σ := Int × Int × List Int × Option Addr × Nat) (fun z => I1 z.1 z.2.1 z.2.2.1) (fun z => μ1 z.1 z.2.1 z.2.2.1) (fun z => [(1, .int .i64 z.1), (2, .pointer (some pu)), (5, .slice z.2.2.2.1 z.2.2.1.length z.2.2.2.2), (6, .int .i64 z.2.1)]) (fun z => [Box pu [.int .i64 u.network.events, .slice au u.network.links.length cu, .slice au2 u.contingent.length cu2], OwnSl 3 1 z.2.2.2.1 z.2.2.1.length z.2.2.2.2 (flL z.2.2.1)]) (fun _ => h) (k, 0, ([] : List Int), none, 0) q167 (.cons rfl (.cons rfl (.cons rfl (.cons rfl (.nil))))) rfl (FH.le_refl _) ?_
  rintro ⟨k2, i, d, ad, cd⟩ q167
  have hF := q168 k2 i d q167
  show J _ _ _ _ _ [(1, .int .i64 k2), (2, .pointer (some pu)), (5, .slice ad d.length cd), (6, .int .i64 i)] [Box pu [.int .i64 u.network.events, .slice au u.network.links.length cu, .slice au2 u.contingent.length cu2], OwnSl 3 1 ad d.length cd (flL d)] h
  refine .seq ?_
  refine .seq ?_
  refine .region ?_
  refine .v (mv rfl) rfl rfl rfl ?_
  refine .v (fa rfl tF26_1) rfl rfl rfl ?_
  refine .v (ld1 rfl tO22 (cellB (off := 2) (k := 0) rfl rfl)) rfl rfl rfl ?_
  refine .v (ln rfl tS22.is) rfl rfl rfl ?_
  refine .v (bi rfl rfl rfl) rfl rfl rfl ?_
  refine .nil ?_
  refine .seqN ?_
  refine .cond rfl (fun q170 => ?_) (fun q170 => ?_)
  · replace hF := hF.1 q170
    refine .skip ?_
    refine .seqN ?_
    refine .seq ?_
    refine .block ?_
    refine .seq ?_
    refine .open_ (by kernel_rfl) (by kernel_rfl) ?_
    refine .v (fa rfl tF26_1) rfl rfl rfl ?_
    refine .v (ld1 rfl tO22 (cellB (off := 2) (k := 0) rfl rfl)) rfl rfl rfl ?_
    refine .v (mv rfl) rfl rfl rfl ?_
    obtain ⟨q191, hF⟩ := hF
    refine .v (ix rfl rfl tS22 (_q3.ne (by decide) (inb_pos q191)) q191) rfl rfl rfl ?_
    refine .v (fa rfl tF48_3) rfl rfl rfl ?_
    refine .v (ld1 (v := .int .i64 ((gt u.contingent i).high)) rfl tO3 (cellH (_q3.elemF q191 (by decide) 3 _ rfl))) rfl rfl rfl ?_
    refine .v (fa rfl tF26_1) rfl rfl rfl ?_
    refine .v (ld1 rfl tO22 (cellB (off := 2) (k := 0) rfl rfl)) rfl rfl rfl ?_
    refine .v (mv rfl) rfl rfl rfl ?_
    refine .v (ix rfl rfl tS22 (_q3.ne (by decide) (inb_pos q191)) q191) rfl rfl rfl ?_
    refine .v (fa rfl tF48_2) rfl rfl rfl ?_
    refine .v (ld1 (v := .int .i64 ((gt u.contingent i).low)) rfl tO3 (cellH (_q3.elemF q191 (by decide) 2 _ rfl))) rfl rfl rfl ?_
    obtain ⟨x, q192⟩ : ∃ y_ : Int, y_ = (IntKind.i64.wrap (((gt u.contingent i).high) - ((gt u.contingent i).low))) := ⟨_, rfl⟩
    replace hF := hF x q192
    refine .v (v := .int .i64 x) (by rw [q192]; exact bi rfl rfl rfl) rfl rfl rfl ?_
    refine .v (bi rfl rfl rfl) rfl rfl rfl ?_
    refine .v (asg rfl) rfl rfl rfl ?_
    refine .fin ?_
    refine .seqN ?_
    refine .seq ?_
    obtain ⟨q197, hF⟩ := hF
    refine .openA (s0 := [(1, .int .i64 k2), (2, .pointer (some pu)), (5, .slice ad d.length cd), (6, .int .i64 i), (7, .int .i64 (IntKind.i64.wrap (x + 1)))]) [0, 1, 2, 3, 4, 5, 6, 7, 8, 9, 10] [(0, .slice ad d.length cd), (1, .pointer (some (pu.add 2))), (2, .slice au2 u.contingent.length cu2), (3, .int .i64 i), (4, .pointer (some (ead au2 (i.toNat * 4)))), (5, .pointer (some ((ead au2 (i.toNat * 4)).add 2))), (6, .int .i64 ((gt u.contingent i).low)), (7, .int .i64 k2), (8, .int .i64 (IntKind.i64.wrap (x + 1))), (9, .int .i64 (Int.tmod k2 (IntKind.i64.wrap (x + 1)))), (10, .int .i64 (IntKind.i64.wrap (((gt u.contingent i).low) + (Int.tmod k2 (IntKind.i64.wrap (x + 1))))))] (by kernel_rfl) (.cons rfl (.cons rfl (.cons rfl (.cons rfl (.cons rfl (.nil)))))) [1, 2, 5, 6, 7] [13] rfl (by kernel_rfl) ?_
    refine .step [11] 11 rfl (by kernel_rfl) (by kernel_rfl) (.v [] rfl rfl rfl rfl rfl rfl (fun _ => mv rfl) (.v [] rfl rfl rfl rfl rfl rfl (fun _ => fa rfl tF26_1) (.v [(30, .pointer (some (pu.add 2)))] rfl rfl rfl rfl rfl rfl (fun _ => ld1 rfl tO22 (cellB (off := 2) (k := 0) rfl rfl)) (.v [] rfl rfl rfl rfl rfl rfl (fun _ => mv rfl) (.v [(31, .slice au2 u.contingent.length cu2), (32, .int .i64 i)] rfl rfl rfl rfl rfl rfl (fun _ => ix rfl rfl tS22 (_q3.ne (by decide) (inb_pos q191)) q191) (.v [(33, .pointer (some (ead au2 (i.toNat * 4))))] rfl rfl rfl rfl rfl rfl (fun _ => fa rfl tF48_2) (.v [(34, .pointer (some ((ead au2 (i.toNat * 4)).add 2)))] rfl rfl rfl rfl rfl rfl (fun _ => ld1 (v := .int .i64 ((gt u.contingent i).low)) rfl tO3 (cellH (_q3.elemF q191 (by decide) 2 _ rfl))) (.v [] rfl rfl rfl rfl rfl rfl (fun _ => mv rfl) (.v [] rfl rfl rfl rfl rfl rfl (fun _ => mv rfl) (.v [(36, .int .i64 k2), (37, .int .i64 (IntKind.i64.wrap (x + 1)))] rfl rfl rfl rfl rfl rfl (fun _ => br rfl rfl q197) (.v [(35, .int .i64 ((gt u.contingent i).low)), (38, .int .i64 (Int.tmod k2 (IntKind.i64.wrap (x + 1))))] rfl rfl rfl rfl rfl rfl (fun _ => bi rfl rfl rfl) (.nil)))))))))))) (.cons [(39, .int .i64 (IntKind.i64.wrap (((gt u.contingent i).low) + (Int.tmod k2 (IntKind.i64.wrap (x + 1))))))] rfl rfl (fun sL hL => ?_) (.nil))
    refine bs2 (cs := #[.int .i64 (IntKind.i64.wrap (((gt u.contingent i).low) + (Int.tmod k2 (IntKind.i64.wrap (x + 1)))))]) (pv := [(0, .int .i64 (IntKind.i64.wrap (((gt u.contingent i).low) + (Int.tmod k2 (IntKind.i64.wrap (x + 1))))))]) tS35 rfl rfl (by decide) (by decide) rfl rfl rfl (fun a _ => ?_)
    refine .cast (A' := [OwnSl 3 1 a (([IntKind.i64.wrap (((gt u.contingent i).low) + (Int.tmod k2 (IntKind.i64.wrap (x + 1))))] : List Int).length) 1 (flL ([IntKind.i64.wrap (((gt u.contingent i).low) + (Int.tmod k2 (IntKind.i64.wrap (x + 1))))] : List Int)), Box pu [.int .i64 u.network.events, .slice au u.network.links.length cu, .slice au2 u.contingent.length cu2], OwnSl 3 1 ad d.length cd (flL d)]) rfl ?_
    refine .nil ?_
    refine .ja (M := [10, 6, 9, 5, 7, 8, 4, 2, 3, 1]) (C' := [0]) (pre := [(11, .slice a (([IntKind.i64.wrap (((gt u.contingent i).low) + (Int.tmod k2 (IntKind.i64.wrap (x + 1))))] : List Int).length) 1)]) [(1, .int .i64 k2), (2, .pointer (some pu)), (5, .slice ad d.length cd), (6, .int .i64 i), (7, .int .i64 (IntKind.i64.wrap (x + 1)))] [1, 2, 5, 6, 7] hL rfl rfl rfl rfl rfl (.cons rfl (.cons rfl (.cons rfl (.cons rfl (.cons rfl (.nil)))))) rfl rfl (by kernel_rfl) ?_
    refine .step [12] 12 rfl (by kernel_rfl) (by kernel_rfl) (.v [] rfl rfl rfl rfl rfl rfl (fun _ => mv rfl) (.nil)) (.cons [(29, .slice ad d.length cd), (40, .slice a (([IntKind.i64.wrap (((gt u.contingent i).low) + (Int.tmod k2 (IntKind.i64.wrap (x + 1))))] : List Int).length) 1)] rfl rfl (fun sL hL => ?_) (.nil))
    obtain ⟨q199, hF⟩ := hF
    have q200 : d.length + ([IntKind.i64.wrap (((gt u.contingent i).low) + (Int.tmod k2 (IntKind.i64.wrap (x + 1))))] : List Int).length = ((d ++ ([IntKind.i64.wrap (((gt u.contingent i).low) + (Int.tmod k2 (IntKind.i64.wrap (x + 1))))] : List Int))).length := len_app rfl rfl
    refine app (k := 2) (news := flL ([IntKind.i64.wrap (((gt u.contingent i).low) + (Int.tmod k2 (IntKind.i64.wrap (x + 1))))] : List Int)) (cs' := flL (d ++ ([IntKind.i64.wrap (((gt u.contingent i).low) + (Int.tmod k2 (IntKind.i64.wrap (x + 1))))] : List Int))) (nm := ((d ++ ([IntKind.i64.wrap (((gt u.contingent i).low) + (Int.tmod k2 (IntKind.i64.wrap (x + 1))))] : List Int))).length) tS35 rfl (by decide) rfl rfl rfl (by rw [flL_len]; rfl) (srcS (k := 0) rfl) (flL_one _) (room_of q200 q199).1 (room_of q200 q199).2 q200 (flL_append _ _).symm rfl (fun a2 c => ?_)
    refine .cast (A' := [OwnSl 3 1 a (([IntKind.i64.wrap (((gt u.contingent i).low) + (Int.tmod k2 (IntKind.i64.wrap (x + 1))))] : List Int).length) 1 (flL ([IntKind.i64.wrap (((gt u.contingent i).low) + (Int.tmod k2 (IntKind.i64.wrap (x + 1))))] : List Int)), Box pu [.int .i64 u.network.events, .slice au u.network.links.length cu, .slice au2 u.contingent.length cu2], OwnSl 3 1 a2 ((d ++ ([IntKind.i64.wrap (((gt u.contingent i).low) + (Int.tmod k2 (IntKind.i64.wrap (x + 1))))] : List Int)).length) c (flL (d ++ ([IntKind.i64.wrap (((gt u.contingent i).low) + (Int.tmod k2 (IntKind.i64.wrap (x + 1))))] : List Int)))]) rfl ?_
    refine .nil ?_
    refine .ja (M := [0]) (C' := []) (pre := [(12, .slice a2 ((d ++ ([IntKind.i64.wrap (((gt u.contingent i).low) + (Int.tmod k2 (IntKind.i64.wrap (x + 1))))] : List Int)).length) c)]) [(1, .int .i64 k2), (2, .pointer (some pu)), (5, .slice ad d.length cd), (6, .int .i64 i), (7, .int .i64 (IntKind.i64.wrap (x + 1)))] [1, 2, 5, 6, 7] hL rfl rfl rfl rfl rfl (.cons rfl (.cons rfl (.cons rfl (.cons rfl (.cons rfl (.nil)))))) rfl rfl (by kernel_rfl) ?_
    refine .step [13] 13 rfl (by kernel_rfl) (by kernel_rfl) (.nil) (.cons [(41, .slice a2 ((d ++ ([IntKind.i64.wrap (((gt u.contingent i).low) + (Int.tmod k2 (IntKind.i64.wrap (x + 1))))] : List Int)).length) c), (41, .slice a2 ((d ++ ([IntKind.i64.wrap (((gt u.contingent i).low) + (Int.tmod k2 (IntKind.i64.wrap (x + 1))))] : List Int)).length) c), (29, .slice ad d.length cd), (30, .pointer (some (pu.add 2))), (31, .slice au2 u.contingent.length cu2), (32, .int .i64 i), (33, .pointer (some (ead au2 (i.toNat * 4)))), (34, .pointer (some ((ead au2 (i.toNat * 4)).add 2))), (35, .int .i64 ((gt u.contingent i).low)), (36, .int .i64 k2), (37, .int .i64 (IntKind.i64.wrap (x + 1))), (38, .int .i64 (Int.tmod k2 (IntKind.i64.wrap (x + 1)))), (39, .int .i64 (IntKind.i64.wrap (((gt u.contingent i).low) + (Int.tmod k2 (IntKind.i64.wrap (x + 1)))))), (40, .slice a (([IntKind.i64.wrap (((gt u.contingent i).low) + (Int.tmod k2 (IntKind.i64.wrap (x + 1))))] : List Int).length) 1), (41, .slice a2 ((d ++ ([IntKind.i64.wrap (((gt u.contingent i).low) + (Int.tmod k2 (IntKind.i64.wrap (x + 1))))] : List Int)).length) c)] rfl rfl (fun sL hL => ?_) (.nil))
    refine .v (asg rfl) rfl rfl rfl ?_
    refine .nil ?_
    refine .ja (M := []) (C' := []) (pre := [(13, .slice a2 ((d ++ ([IntKind.i64.wrap (((gt u.contingent i).low) + (Int.tmod k2 (IntKind.i64.wrap (x + 1))))] : List Int)).length) c)]) [(1, .int .i64 k2), (2, .pointer (some pu)), (6, .int .i64 i), (7, .int .i64 (IntKind.i64.wrap (x + 1)))] [1, 2, 6, 7] hL rfl rfl rfl rfl rfl (.cons rfl (.cons rfl (.cons rfl (.cons rfl (.nil))))) rfl rfl (by kernel_rfl) ?_
    refine .last [(29, .slice ad d.length cd), (30, .pointer (some (pu.add 2))), (31, .slice au2 u.contingent.length cu2), (32, .int .i64 i), (33, .pointer (some (ead au2 (i.toNat * 4)))), (34, .pointer (some ((ead au2 (i.toNat * 4)).add 2))), (35, .int .i64 ((gt u.contingent i).low)), (36, .int .i64 k2), (37, .int .i64 (IntKind.i64.wrap (x + 1))), (38, .int .i64 (Int.tmod k2 (IntKind.i64.wrap (x + 1)))), (39, .int .i64 (IntKind.i64.wrap (((gt u.contingent i).low) + (Int.tmod k2 (IntKind.i64.wrap (x + 1)))))), (40, .slice a (([IntKind.i64.wrap (((gt u.contingent i).low) + (Int.tmod k2 (IntKind.i64.wrap (x + 1))))] : List Int).length) 1), (41, .slice a2 ((d ++ ([IntKind.i64.wrap (((gt u.contingent i).low) + (Int.tmod k2 (IntKind.i64.wrap (x + 1))))] : List Int)).length) c), (5, .slice a2 ((d ++ ([IntKind.i64.wrap (((gt u.contingent i).low) + (Int.tmod k2 (IntKind.i64.wrap (x + 1))))] : List Int)).length) c)] rfl (by kernel_rfl) (.nil) rfl ?_
    refine .seqN ?_
    refine .region ?_
    refine .v (mv rfl) rfl rfl rfl ?_
    refine .v (mv rfl) rfl rfl rfl ?_
    refine .v (bq rfl rfl q197) rfl rfl rfl ?_
    refine .v (asg rfl) rfl rfl rfl ?_
    refine .nil ?_
    refine .blkN ?_
    refine .seqN ?_
    refine .region ?_
    refine .v (mv rfl) rfl rfl rfl ?_
    refine .v (bi rfl rfl rfl) rfl rfl rfl ?_
    refine .v (asg rfl) rfl rfl rfl ?_
    refine .nil ?_
    refine .sel0 [1, 2] (by decide) rfl ?_
    exact .round (IntKind.i64.wrap (Int.tdiv k2 (IntKind.i64.wrap (x + 1))), IntKind.i64.wrap (i + 1), (d ++ ([IntKind.i64.wrap (((gt u.contingent i).low) + (Int.tmod k2 (IntKind.i64.wrap (x + 1))))] : List Int)), a2, c) hF.1 hF.2 (.cons rfl (.cons rfl (.cons rfl (.cons rfl (.nil))))) rfl (FH.le_refl _)
  replace hF := hF.2 q170
  refine .exit ?_
  refine .seqX ?_
  refine .seqX ?_
  refine .blkX ?_
  refine .seqN ?_
  refine .seq ?_
  refine .region ?_
  refine .v (mv rfl) rfl rfl rfl ?_
  refine .v (asg rfl) rfl rfl rfl ?_
  refine .nil ?_
  refine .seqN ?_
  refine .freezeL (k := 1) rfl (fun h1 le1 q202 q201 => ?_)
  refine .cast (A' := [Box pu [.int .i64 u.network.events, .slice au u.network.links.length cu, .slice au2 u.contingent.length cu2], tru]) rfl ?_
  refine .ret ?_
  refine .res1 rfl (rvT rfl) (fun w' S => ⟨d, (ad, cd), h1, hF, rfl, (le1), ⟨(RSl.of q201), (q202)⟩, S.none⟩)

theorem c_choice {h : FH} {w : World} (hs : Sub h w) (u : Uncertain) (au : Option Addr) (cu : Nat) (_q1 : RSl h au u.network.links) (_q2 : u.network.links.length ≤ cu) (au2 : Option Addr) (cu2 : Nat) (_q3 : RSl h au2 u.contingent) (_q4 : u.contingent.length ≤ cu2) (k : Int) (hp : pre_choice u k) : Calls Try.prog 21 #[.agg #[.int .i64 u.network.events, .slice au u.network.links.length cu, .slice au2 u.contingent.length cu2], .int .i64 k] w fun e w' => ∃ (z : Option Addr × Nat) (h1 : FH), e = .returned (.slice z.1 (sp_choice u k).length z.2) ∧ FH.le h h1 ∧ (RSl h1 z.1 (sp_choice u k) ∧ (sp_choice u k).length ≤ z.2) ∧ SH (Kp.all w h) h1 w' [] :=
  (w_choice hs u au cu _q1 _q2 au2 cu2 _q3 _q4 k (fun r => r = sp_choice u k) (ok_choice u k hp)).mono fun _ _ ⟨r, z, h1, hk, he, hl, hf, hS⟩ => by subst hk; exact ⟨z, h1, he, hl, hf, hS⟩

set_option maxHeartbeats 8000000 in
theorem w_places {h : FH} {w : World} (hs : Sub h w) (u : Uncertain) (au : Option Addr) (cu : Nat) (_q1 : RSl h au u.network.links) (_q2 : u.network.links.length ≤ cu) (au2 : Option Addr) (cu2 : Nat) (_q3 : RSl h au2 u.contingent) (_q4 : u.contingent.length ≤ cu2) (K : (List Place) → Prop) (hF : F_places u K) : Calls Try.prog 23 #[.agg #[.int .i64 u.network.events, .slice au u.network.links.length cu, .slice au2 u.contingent.length cu2]] w fun e w' => ∃ (r : List Place) (z : Option Addr × Nat) (h1 : FH), K r ∧ e = .returned (.slice z.1 r.length z.2) ∧ FH.le h h1 ∧ (RSl h1 z.1 r ∧ r.length ≤ z.2) ∧ SH (Kp.all w h) h1 w' [] := by
  refine enter (args := [.agg #[.int .i64 u.network.events, .slice au u.network.links.length cu, .slice au2 u.contingent.length cu2]]) Try.func23 rfl Try.ntmps23 rfl hs ?_
  refine .seq ?_
  refine .region ?_
  refine bx (vs := [.int .i64 u.network.events, .slice au u.network.links.length cu, .slice au2 u.contingent.length cu2]) rfl rfl rfl (fun pu => ?_)
  refine .v (asg rfl) rfl rfl rfl ?_
  refine .nil ?_
  refine .seqN ?_
  refine .seq ?_
  refine .region ?_
  refine .v (asg rfl) rfl rfl rfl ?_
  refine .nil ?_
  refine .seqN ?_
  refine .seq ?_
  refine .seq ?_
  refine .region ?_
  refine .v (fa rfl tF26_0) rfl rfl rfl ?_
  refine .v (faa (p := pu) (o1 := 0) rfl tF24_0 rfl) rfl rfl rfl ?_
  refine .v (ld1 rfl tO3 (cellB (off := 0) (k := 0) rfl rfl)) rfl rfl rfl ?_
  refine .v (mv rfl) rfl rfl rfl ?_
  refine .nil ?_
  refine .seqN ?_
  refine .block ?_
  refine .nilSl 56 3 ?_
  refine .cast (A' := [OwnSl 56 3 none (([] : List Place).length) 0 (flL ([] : List Place)), Box pu [.int .i64 u.network.events, .slice au u.network.links.length cu, .slice au2 u.contingent.length cu2]]) rfl ?_
  refine .sel0 [1, 0] (by decide) rfl ?_
  obtain ⟨I1, μ1, q67, q68⟩ := hF
  refine .loop' (σ := Int × List Place × Option Addr × Nat) (fun z => I1 z.1 z.2.1) (fun z => μ1 z.1 z.2.1) (fun z => [(1, .pointer (some pu)), (3, .slice z.2.2.1 z.2.1.length z.2.2.2), (9, .int .i64 u.network.events), (10, .int .i64 z.1)]) (fun z => [Box pu [.int .i64 u.network.events, .slice au u.network.links.length cu, .slice au2 u.contingent.length cu2], OwnSl 56 3 z.2.2.1 z.2.1.length z.2.2.2 (flL z.2.1)]) (fun _ => h) (0, ([] : List Place), none, 0) q67 (.cons rfl (.cons rfl (.cons rfl (.cons rfl (.nil))))) rfl (FH.le_refl _) ?_
  rintro ⟨t10, out, aout, cout⟩ q67
  have hF := q68 t10 out q67
  show J _ _ _ _ _ [(1, .pointer (some pu)), (3, .slice aout out.length cout), (9, .int .i64 u.network.events), (10, .int .i64 t10)] [Box pu [.int .i64 u.network.events, .slice au u.network.links.length cu, .slice au2 u.contingent.length cu2], OwnSl 56 3 aout out.length cout (flL out)] h
  refine .seq ?_
  refine .region ?_
  refine .v (bi rfl rfl rfl) rfl rfl rfl ?_
  refine .nil ?_
  refine .seqN ?_
  refine .seq ?_
  refine .cond rfl (fun q71 => ?_) (fun q71 => ?_)
  · replace hF := hF.1 q71
    refine .skip ?_
    refine .seqN ?_
    refine .seq ?_
    refine .block ?_
    refine .seq ?_
    refine .region ?_
    refine .v (mv rfl) rfl rfl rfl ?_
    refine .v (asg rfl) rfl rfl rfl ?_
    refine .nil ?_
    refine .seqN ?_
    refine .region ?_
    refine .v (mv rfl) rfl rfl rfl ?_
    refine .v (mv rfl) rfl rfl rfl ?_
    refine .v (bld (cs := #[.int .i64 t10, .int .i64 0, .int .i64 0]) (pv := [(0, .int .i64 t10)]) tB56 rfl rfl) rfl rfl rfl ?_
    refine bs2 (cs := #[.int .i64 t10, .int .i64 0, .int .i64 0]) (pv := [(0, .agg #[.int .i64 t10, .int .i64 0, .int .i64 0])]) tS53 rfl rfl (by decide) (by decide) rfl rfl rfl (fun a _ => ?_)
    refine .cast (A' := [OwnSl 56 3 a (([(⟨t10, 0, 0⟩ : Place)] : List Place).length) 1 (flL ([(⟨t10, 0, 0⟩ : Place)] : List Place)), Box pu [.int .i64 u.network.events, .slice au u.network.links.length cu, .slice au2 u.contingent.length cu2], OwnSl 56 3 aout out.length cout (flL out)]) rfl ?_
    obtain ⟨q79, hF⟩ := hF
    have q80 : out.length + ([(⟨t10, 0, 0⟩ : Place)] : List Place).length = ((out ++ ([(⟨t10, 0, 0⟩ : Place)] : List Place))).length := len_app rfl rfl
    refine app (k := 2) (news := flL ([(⟨t10, 0, 0⟩ : Place)] : List Place)) (cs' := flL (out ++ ([(⟨t10, 0, 0⟩ : Place)] : List Place))) (nm := ((out ++ ([(⟨t10, 0, 0⟩ : Place)] : List Place))).length) tS53 rfl (by decide) rfl rfl rfl (by rw [flL_len]; rfl) (srcS (k := 0) rfl) (flL_one _) (room_of q80 q79).1 (room_of q80 q79).2 q80 (flL_append _ _).symm rfl (fun a2 c => ?_)
    refine .cast (A' := [OwnSl 56 3 a (([(⟨t10, 0, 0⟩ : Place)] : List Place).length) 1 (flL ([(⟨t10, 0, 0⟩ : Place)] : List Place)), Box pu [.int .i64 u.network.events, .slice au u.network.links.length cu, .slice au2 u.contingent.length cu2], OwnSl 56 3 a2 ((out ++ ([(⟨t10, 0, 0⟩ : Place)] : List Place)).length) c (flL (out ++ ([(⟨t10, 0, 0⟩ : Place)] : List Place)))]) rfl ?_
    refine .v (asg rfl) rfl rfl rfl ?_
    refine .nil ?_
    refine .blkN ?_
    refine .seqN ?_
    refine .region ?_
    refine .v (bi rfl rfl rfl) rfl rfl rfl ?_
    refine .v (mv rfl) rfl rfl rfl ?_
    refine .nil ?_
    refine .sel0 [1, 2] (by decide) rfl ?_
    exact .round (IntKind.i64.wrap (t10 + 1), (out ++ ([(⟨t10, 0, 0⟩ : Place)] : List Place)), a2, c) hF.1 hF.2 (.cons rfl (.cons rfl (.cons rfl (.cons rfl (.nil))))) rfl (FH.le_refl _)
  replace hF := hF.2 q71
  refine .exit ?_
  refine .seqX ?_
  refine .seqX ?_
  refine .blkX ?_
  refine .seqN ?_
  refine .seq ?_
  refine .seq ?_
  refine .region ?_
  refine .v (fa rfl tF26_1) rfl rfl rfl ?_
  refine .v (ld1 rfl tO22 (cellB (off := 2) (k := 0) rfl rfl)) rfl rfl rfl ?_
  refine .v (ln rfl tS22.is) rfl rfl rfl ?_
  refine .v (mv rfl) rfl rfl rfl ?_
  refine .nil ?_
  refine .seqN ?_
  refine .block ?_
  refine .sel0 [1] (by decide) rfl ?_
  obtain ⟨I2, μ2, q166, q167⟩ := hF
  refine .loop' (σ := Int × List Place) (fun z => I2 z.1 z.2 ∧ z.2.length = out.length) (fun z => μ2 z.1 z.2) (fun z => [(3, .slice aout out.length cout), (20, .slice au2 u.contingent.length cu2), (21, .int .i64 ((u.contingent.length : Nat) : Int)), (22, .int .i64 z.1)]) (fun z => [OwnSl 56 3 aout out.length cout (flL z.2)]) (fun _ => h) (0, out) ⟨q166, rfl⟩ (.cons rfl (.cons rfl (.cons rfl (.cons rfl (.nil))))) rfl (FH.le_refl _) ?_
  rintro ⟨t22, out3⟩ ⟨q166, q149⟩
  have hF := q167 t22 out3 q166
  show J _ _ _ _ _ [(3, .slice aout out.length cout), (20, .slice au2 u.contingent.length cu2), (21, .int .i64 ((u.contingent.length : Nat) : Int)), (22, .int .i64 t22)] [OwnSl 56 3 aout out.length cout (flL out3)] h
  refine .seq ?_
  refine .region ?_
  refine .v (bi rfl rfl rfl) rfl rfl rfl ?_
  refine .nil ?_
  refine .seqN ?_
  refine .seq ?_
  refine .cond rfl (fun q170 => ?_) (fun q170 => ?_)
  · replace hF := hF.1 q170
    refine .skip ?_
    refine .seqN ?_
    refine .seq ?_
    refine .block ?_
    refine .seq ?_
    refine .region ?_
    obtain ⟨q179, hF⟩ := hF
    refine .v (ix rfl rfl tS22 (_q3.ne (by decide) (inb_pos q179)) q179) rfl rfl rfl ?_
    refine .v (ldA (cs := [.int .i64 ((gt u.contingent t22).src), .int .i64 ((gt u.contingent t22).dst), .int .i64 ((gt u.contingent t22).low), .int .i64 ((gt u.contingent t22).high)]) rfl tA48 rfl (cellsH (_q3.elemF q179 (by decide)))) rfl rfl rfl ?_
    refine al tZ48 rfl (fun pl => ?_)
    refine st (p := pl) (off := 0) (k := 0) (vs := [.int .i64 ((gt u.contingent t22).src), .int .i64 ((gt u.contingent t22).dst), .int .i64 ((gt u.contingent t22).low), .int .i64 ((gt u.contingent t22).high)]) rfl rfl rfl (fun w => (tA48 w).2) rfl rfl rfl rfl ?_
    refine .cast (A' := [Box pl [.int .i64 ((gt u.contingent t22).src), .int .i64 ((gt u.contingent t22).dst), .int .i64 ((gt u.contingent t22).low), .int .i64 ((gt u.contingent t22).high)], OwnSl 56 3 aout out.length cout (flL out3)]) rfl ?_
    refine .nil ?_
    refine .seqN ?_
    refine .region ?_
    refine .v (mv rfl) rfl rfl rfl ?_
    refine .v (fa rfl tF48_1) rfl rfl rfl ?_
    refine .v (ld1 rfl tO3 (cellB (off := 1) (k := 0) rfl rfl)) rfl rfl rfl ?_
    refine .v (fa rfl tF48_0) rfl rfl rfl ?_
    refine .v (ld1 rfl tO3 (cellB (off := 0) (k := 0) rfl rfl)) rfl rfl rfl ?_
    refine .v (fa rfl tF48_2) rfl rfl rfl ?_
    refine .v (ld1 rfl tO3 (cellB (off := 2) (k := 0) rfl rfl)) rfl rfl rfl ?_
    refine .v (fa rfl tF48_3) rfl rfl rfl ?_
    refine .v (ld1 rfl tO3 (cellB (off := 3) (k := 0) rfl rfl)) rfl rfl rfl ?_
    refine .v (bld (cs := #[.int .i64 ((gt u.contingent t22).src), .int .i64 ((gt u.contingent t22).low), .int .i64 ((gt u.contingent t22).high)]) (pv := [(0, .int .i64 ((gt u.contingent t22).src)), (1, .int .i64 ((gt u.contingent t22).low)), (2, .int .i64 ((gt u.contingent t22).high))]) tB56 rfl rfl) rfl rfl rfl ?_
    obtain ⟨q180, hF⟩ := hF
    refine .v (ixS rfl rfl tS53 (k := 1) rfl (inb_n q180 q149)) rfl rfl rfl ?_
    obtain ⟨d, q181⟩ : ∃ y_ : List Place, y_ = (out3.set ((gt u.contingent t22).dst).toNat (⟨(gt u.contingent t22).src, (gt u.contingent t22).low, (gt u.contingent t22).high⟩ : Place)) := ⟨_, rfl⟩
    replace hF := hF d q181
    refine stS (k := 1) (cs' := flL d) rfl (fun _ => rfl) rfl rfl (fun w => (tA56 w).2) rfl rfl rfl (by rw [← q149]; exact inb_pos q180) (fl_room q180) (by rw [q181]; exact flL_set q180 (⟨(gt u.contingent t22).src, (gt u.contingent t22).low, (gt u.contingent t22).high⟩ : Place)) ?_
    have q182 : d.length = out.length := by rw [q181]; exact List.length_set.trans q149
    refine .cast (A' := [Box pl [.int .i64 ((gt u.contingent t22).src), .int .i64 ((gt u.contingent t22).dst), .int .i64 ((gt u.contingent t22).low), .int .i64 ((gt u.contingent t22).high)], OwnSl 56 3 aout out.length cout (flL d)]) rfl ?_
    refine .nil ?_
    refine .blkN ?_
    refine .seqN ?_
    refine .region ?_
    refine .v (bi rfl rfl rfl) rfl rfl rfl ?_
    refine .v (mv rfl) rfl rfl rfl ?_
    refine .nil ?_
    refine .sel0 [1] (by decide) rfl ?_
    exact .round (IntKind.i64.wrap (t22 + 1), d) ⟨hF.1, q182⟩ hF.2 (.cons rfl (.cons rfl (.cons rfl (.cons rfl (.nil))))) rfl (FH.le_refl _)
  replace hF := hF.2 q170
  refine .exit ?_
  refine .seqX ?_
  refine .seqX ?_
  refine .blkX ?_
  refine .seqN ?_
  refine .seq ?_
  refine .region ?_
  refine .v (mv rfl) rfl rfl rfl ?_
  refine .v (asg rfl) rfl rfl rfl ?_
  refine .nil ?_
  refine .seqN ?_
  refine .freezeL (k := 0) rfl (fun h1 le1 q184 q183 => ?_)
  refine .cast (A' := [tru]) rfl ?_
  refine .ret ?_
  refine .res1 rfl (rvT rfl) (fun w' S => ⟨out3, (aout, cout), h1, hF, (by simp only [q149]), (le1), ⟨(RSl.of q183), (by rw [q149]; exact q184)⟩, S.none⟩)

theorem c_places {h : FH} {w : World} (hs : Sub h w) (u : Uncertain) (au : Option Addr) (cu : Nat) (_q1 : RSl h au u.network.links) (_q2 : u.network.links.length ≤ cu) (au2 : Option Addr) (cu2 : Nat) (_q3 : RSl h au2 u.contingent) (_q4 : u.contingent.length ≤ cu2) (hp : pre_places u) : Calls Try.prog 23 #[.agg #[.int .i64 u.network.events, .slice au u.network.links.length cu, .slice au2 u.contingent.length cu2]] w fun e w' => ∃ (z : Option Addr × Nat) (h1 : FH), e = .returned (.slice z.1 (sp_places u).length z.2) ∧ FH.le h h1 ∧ (RSl h1 z.1 (sp_places u) ∧ (sp_places u).length ≤ z.2) ∧ SH (Kp.all w h) h1 w' [] :=
  (w_places hs u au cu _q1 _q2 au2 cu2 _q3 _q4 (fun r => r = sp_places u) (ok_places u hp)).mono fun _ _ ⟨r, z, h1, hk, he, hl, hf, hS⟩ => by subst hk; exact ⟨z, h1, he, hl, hf, hS⟩

set_option maxHeartbeats 8000000 in
theorem w_strong_ {h : FH} {w : World} (hs : Sub h w) (u : Uncertain) (au : Option Addr) (cu : Nat) (_q1 : RSl h au u.network.links) (_q2 : u.network.links.length ≤ cu) (au2 : Option Addr) (cu2 : Nat) (_q3 : RSl h au2 u.contingent) (_q4 : u.contingent.length ≤ cu2) (K : (Network × Bool) → Prop) (hF : F_strong_ u K) : Calls Try.prog 22 #[.agg #[.int .i64 u.network.events, .slice au u.network.links.length cu, .slice au2 u.contingent.length cu2]] w fun e w' => ∃ (r : Network × Bool) (z : Option Addr × Nat) (h1 : FH), K r ∧ e = .returned (.tuple #[.agg #[.int .i64 r.1.events, .slice z.1 r.1.links.length z.2], .bool r.2]) ∧ FH.le h h1 ∧ (RSl h1 z.1 r.1.links ∧ r.1.links.length ≤ z.2) ∧ SH (Kp.all w h) h1 w' [] := by
  refine enter (args := [.agg #[.int .i64 u.network.events, .slice au u.network.links.length cu, .slice au2 u.contingent.length cu2]]) Try.func22 rfl Try.ntmps22 rfl hs ?_
  refine .seq ?_
  refine .region ?_
  refine bx (vs := [.int .i64 u.network.events, .slice au u.network.links.length cu, .slice au2 u.contingent.length cu2]) rfl rfl rfl (fun pu => ?_)
  refine al tZ24 rfl (fun pv => ?_)
  refine .v (asg rfl) rfl rfl rfl ?_
  refine .nil ?_
  refine .seqN ?_
  refine .seq ?_
  refine .region ?_
  refine .v (ldA (cs := [.int .i64 u.network.events, .slice au u.network.links.length cu, .slice au2 u.contingent.length cu2]) rfl tA26 rfl (cellsB (off := 0) (k := 1) rfl (m := 3) rfl)) rfl rfl rfl ?_
  obtain ⟨q5, hF⟩ := hF
  obtain ⟨r2, q6⟩ : ∃ y_ : List Place, y_ = sp_places u := ⟨_, rfl⟩
  replace hF := hF r2 q6
  refine clR (α := Option Addr × Nat) (Φ := fun h1 z => RSl h1 z.1 r2 ∧ r2.length ≤ z.2) (V := fun z => .slice z.1 r2.length z.2) Try.call23 rfl rfl (fun w S => (by rw [q6]; exact c_places S.sub u au cu _q1 _q2 au2 cu2 _q3 _q4 q5)) rfl (fun z h1 le1 hz => ?_)
  obtain ⟨a, c⟩ := z
  obtain ⟨q7, q8⟩ := hz
  refine .v (asg rfl) rfl rfl rfl ?_
  refine .nil ?_
  refine .seqN ?_
  refine .seq ?_
  refine .region ?_
  refine .v (fa rfl tF26_0) rfl rfl rfl ?_
  refine .v (faa (p := pu) (o1 := 0) rfl tF24_0 rfl) rfl rfl rfl ?_
  refine .v (ld1 rfl tO3 (cellB (off := 0) (k := 1) rfl rfl)) rfl rfl rfl ?_
  refine .v (bld (cs := #[.int .i64 u.network.events, .slice none 0 0]) (pv := [(0, .int .i64 u.network.events)]) tB24 rfl rfl) rfl rfl rfl ?_
  refine al tZ24 rfl (fun pn => ?_)
  refine st (p := pn) (off := 0) (k := 0) (vs := [.int .i64 u.network.events, .slice none 0 0]) rfl rfl rfl (fun w => (tA24 w).2) rfl rfl rfl rfl ?_
  refine .cast (A' := [Box pn [.int .i64 u.network.events, .slice none 0 0], Box pv [.int .i64 0, .slice none 0 0], Box pu [.int .i64 u.network.events, .slice au u.network.links.length cu, .slice au2 u.contingent.length cu2]]) rfl ?_
  refine .nil ?_
  refine .seqN ?_
  refine .seq ?_
  refine .seq ?_
  refine .region ?_
  refine .v (fa rfl tF26_0) rfl rfl rfl ?_
  refine .v (faa (p := pu) (o1 := 0) rfl tF24_1 rfl) rfl rfl rfl ?_
  refine .v (ld1 rfl tO22 (cellB (off := 1) (k := 2) rfl rfl)) rfl rfl rfl ?_
  refine .v (ln rfl tS22.is) rfl rfl rfl ?_
  refine .v (mv rfl) rfl rfl rfl ?_
  refine .nil ?_
  refine .seqN ?_
  refine .block ?_
  refine .nilSl 48 4 ?_
  refine .cast (A' := [OwnSl 48 4 none (([] : List Link).length) 0 (flL ([] : List Link)), Box pn [.int .i64 u.network.events, .slice none 0 0], Box pv [.int .i64 0, .slice none 0 0], Box pu [.int .i64 u.network.events, .slice au u.network.links.length cu, .slice au2 u.contingent.length cu2]]) rfl ?_
  refine .sel0 [2, 1, 0] (by decide) rfl ?_
  obtain ⟨I1, μ1, q383, q384⟩ := hF
  refine .loop' (σ := Int × List Link × Option Addr × Nat) (fun z => I1 z.1 z.2.1) (fun z => μ1 z.1 z.2.1) (fun z => [(2, .pointer (some pv)), (4, .slice a r2.length c), (5, .pointer (some pn)), (20, .slice au u.network.links.length cu), (21, .int .i64 ((u.network.links.length : Nat) : Int)), (22, .int .i64 z.1)]) (fun z => [Box pv [.int .i64 0, .slice none 0 0], Box pn [.int .i64 u.network.events, .slice z.2.2.1 z.2.1.length z.2.2.2], OwnSl 48 4 z.2.2.1 z.2.1.length z.2.2.2 (flL z.2.1)]) (fun _ => h1) (0, ([] : List Link), none, 0) q383 (.cons rfl (.cons rfl (.cons rfl (.cons rfl (.cons rfl (.cons rfl (.nil))))))) rfl (FH.le_refl _) ?_
  rintro ⟨t22, l, al2, cl2⟩ q383
  have hF := q384 t22 l q383
  show J _ _ _ _ _ [(2, .pointer (some pv)), (4, .slice a r2.length c), (5, .pointer (some pn)), (20, .slice au u.network.links.length cu), (21, .int .i64 ((u.network.links.length : Nat) : Int)), (22, .int .i64 t22)] [Box pv [.int .i64 0, .slice none 0 0], Box pn [.int .i64 u.network.events, .slice al2 l.length cl2], OwnSl 48 4 al2 l.length cl2 (flL l)] h1
  refine .seq ?_
  refine .region ?_
  refine .v (bi rfl rfl rfl) rfl rfl rfl ?_
  refine .nil ?_
  refine .seqN ?_
  refine .seq ?_
  refine .cond rfl (fun q387 => ?_) (fun q387 => ?_)
  · replace hF := hF.1 q387
    refine .skip ?_
    refine .seqN ?_
    refine .share (σ := List Link × Option Addr × Nat) (fun z => F_strong__J1 l t22 I1 μ1 z.1) (fun _ => [(2, .pointer (some pv)), (4, .slice a r2.length c), (5, .pointer (some pn)), (20, .slice au u.network.links.length cu), (21, .int .i64 ((u.network.links.length : Nat) : Int)), (22, .int .i64 t22)]) (fun z => [Box pv [.int .i64 0, .slice none 0 0], Box pn [.int .i64 u.network.events, .slice z.2.1 z.1.length z.2.2], OwnSl 48 4 z.2.1 z.1.length z.2.2 (flL z.1)]) (fun _ => h1) ?_ (fun q428 => ?_)
    · rintro ⟨l3, al4, cl4⟩ hF
      show J _ _ _ _ _ [(2, .pointer (some pv)), (4, .slice a r2.length c), (5, .pointer (some pn)), (20, .slice au u.network.links.length cu), (21, .int .i64 ((u.network.links.length : Nat) : Int)), (22, .int .i64 t22)] [Box pv [.int .i64 0, .slice none 0 0], Box pn [.int .i64 u.network.events, .slice al4 l3.length cl4], OwnSl 48 4 al4 l3.length cl4 (flL l3)] h1
      refine .region ?_
      refine .v (bi rfl rfl rfl) rfl rfl rfl ?_
      refine .v (mv rfl) rfl rfl rfl ?_
      refine .nil ?_
      exact .round (IntKind.i64.wrap (t22 + 1), l3, al4, cl4) hF.1 hF.2 (.cons rfl (.cons rfl (.cons rfl (.cons rfl (.cons rfl (.cons rfl (.nil))))))) rfl (FH.le_refl _)
    refine .block ?_
    refine .seq ?_
    refine .region ?_
    obtain ⟨q429, hF⟩ := hF
    refine .v (ix rfl rfl tS22 (_q1.ne (by decide) (inb_pos q429)) q429) rfl rfl rfl ?_
    refine .v (ldA (cs := [.int .i64 ((gt u.network.links t22).src), .int .i64 ((gt u.network.links t22).dst), .int .i64 ((gt u.network.links t22).low), .int .i64 ((gt u.network.links t22).high)]) rfl tA48 rfl (cellsH ((_q1.mono (le1)).elemF q429 (by decide)))) rfl rfl rfl ?_
    refine al tZ48 rfl (fun pl => ?_)
    refine st (p := pl) (off := 0) (k := 0) (vs := [.int .i64 ((gt u.network.links t22).src), .int .i64 ((gt u.network.links t22).dst), .int .i64 ((gt u.network.links t22).low), .int .i64 ((gt u.network.links t22).high)]) rfl rfl rfl (fun w => (tA48 w).2) rfl rfl rfl rfl ?_
    refine .cast (A' := [Box pl [.int .i64 ((gt u.network.links t22).src), .int .i64 ((gt u.network.links t22).dst), .int .i64 ((gt u.network.links t22).low), .int .i64 ((gt u.network.links t22).high)], Box pv [.int .i64 0, .slice none 0 0], Box pn [.int .i64 u.network.events, .slice al2 l.length cl2], OwnSl 48 4 al2 l.length cl2 (flL l)]) rfl ?_
    refine .nil ?_
    refine .seqN ?_
    refine .share (σ := Addr × Addr) (fun _ => F_strong__J2 u K r2 l t22 I1 μ1) (fun z => [(2, .pointer (some pv)), (4, .slice a r2.length c), (5, .pointer (some pn)), (7, .pointer (some pl)), (8, .pointer (some z.1)), (9, .pointer (some z.2)), (20, .slice au u.network.links.length cu), (21, .int .i64 ((u.network.links.length : Nat) : Int)), (22, .int .i64 t22)]) (fun z => [Box pv [.int .i64 0, .slice none 0 0], Box pn [.int .i64 u.network.events, .slice al2 l.length cl2], Box pl [.int .i64 ((gt u.network.links t22).src), .int .i64 ((gt u.network.links t22).dst), .int .i64 ((gt u.network.links t22).low), .int .i64 ((gt u.network.links t22).high)], Box z.1 [.int .i64 ((gt r2 ((gt u.network.links t22).src)).base), .int .i64 ((gt r2 ((gt u.network.links t22).src)).low), .int .i64 ((gt r2 ((gt u.network.links t22).src)).high)], Box z.2 [.int .i64 ((gt r2 ((gt u.network.links t22).dst)).base), .int .i64 ((gt r2 ((gt u.network.links t22).dst)).low), .int .i64 ((gt r2 ((gt u.network.links t22).dst)).high)], OwnSl 48 4 al2 l.length cl2 (flL l)]) (fun _ => h1) ?_ (fun q432 => ?_)
    · rintro ⟨p, p2⟩ hF
      show J _ _ _ _ _ [(2, .pointer (some pv)), (4, .slice a r2.length c), (5, .pointer (some pn)), (7, .pointer (some pl)), (8, .pointer (some p)), (9, .pointer (some p2)), (20, .slice au u.network.links.length cu), (21, .int .i64 ((u.network.links.length : Nat) : Int)), (22, .int .i64 t22)] [Box pv [.int .i64 0, .slice none 0 0], Box pn [.int .i64 u.network.events, .slice al2 l.length cl2], Box pl [.int .i64 ((gt u.network.links t22).src), .int .i64 ((gt u.network.links t22).dst), .int .i64 ((gt u.network.links t22).low), .int .i64 ((gt u.network.links t22).high)], Box p [.int .i64 ((gt r2 ((gt u.network.links t22).src)).base), .int .i64 ((gt r2 ((gt u.network.links t22).src)).low), .int .i64 ((gt r2 ((gt u.network.links t22).src)).high)], Box p2 [.int .i64 ((gt r2 ((gt u.network.links t22).dst)).base), .int .i64 ((gt r2 ((gt u.network.links t22).dst)).low), .int .i64 ((gt r2 ((gt u.network.links t22).dst)).high)], OwnSl 48 4 al2 l.length cl2 (flL l)] h1
      refine .seq ?_
      refine .open_ (by kernel_rfl) (by kernel_rfl) ?_
      refine .v (fa rfl tF48_2) rfl rfl rfl ?_
      refine .v (ld1 rfl tO3 (cellB (off := 2) (k := 2) rfl rfl)) rfl rfl rfl ?_
      refine .v (fa rfl tF56_1) rfl rfl rfl ?_
      refine .v (ld1 rfl tO3 (cellB (off := 1) (k := 4) rfl rfl)) rfl rfl rfl ?_
      obtain ⟨x, q433⟩ : ∃ y_ : Int, y_ = (IntKind.i64.wrap (((gt u.network.links t22).low) - ((gt r2 ((gt u.network.links t22).dst)).low))) := ⟨_, rfl⟩
      replace hF := hF x q433
      refine .v (v := .int .i64 x) (by rw [q433]; exact bi rfl rfl rfl) rfl rfl rfl ?_
      refine .v (fa rfl tF56_2) rfl rfl rfl ?_
      refine .v (ld1 rfl tO3 (cellB (off := 2) (k := 3) rfl rfl)) rfl rfl rfl ?_
      obtain ⟨x2, q434⟩ : ∃ y_ : Int, y_ = (IntKind.i64.wrap (x + ((gt r2 ((gt u.network.links t22).src)).high))) := ⟨_, rfl⟩
      replace hF := hF x2 q434
      refine .v (v := .int .i64 x2) (by rw [q434]; exact bi rfl rfl rfl) rfl rfl rfl ?_
      refine .v (fa rfl tF48_3) rfl rfl rfl ?_
      refine .v (ld1 rfl tO3 (cellB (off := 3) (k := 2) rfl rfl)) rfl rfl rfl ?_
      refine .v (fa rfl tF56_2) rfl rfl rfl ?_
      refine .v (ld1 rfl tO3 (cellB (off := 2) (k := 4) rfl rfl)) rfl rfl rfl ?_
      obtain ⟨x3, q435⟩ : ∃ y_ : Int, y_ = (IntKind.i64.wrap (((gt u.network.links t22).high) - ((gt r2 ((gt u.network.links t22).dst)).high))) := ⟨_, rfl⟩
      replace hF := hF x3 q435
      refine .v (v := .int .i64 x3) (by rw [q435]; exact bi rfl rfl rfl) rfl rfl rfl ?_
      refine .v (fa rfl tF56_1) rfl rfl rfl ?_
      refine .v (ld1 rfl tO3 (cellB (off := 1) (k := 3) rfl rfl)) rfl rfl rfl ?_
      obtain ⟨x4, q436⟩ : ∃ y_ : Int, y_ = (IntKind.i64.wrap (x3 + ((gt r2 ((gt u.network.links t22).src)).low))) := ⟨_, rfl⟩
      replace hF := hF x4 q436
      refine .v (v := .int .i64 x4) (by rw [q436]; exact bi rfl rfl rfl) rfl rfl rfl ?_
      refine .v (asg rfl) rfl rfl rfl ?_
      refine .v (asg rfl) rfl rfl rfl ?_
      refine .fin ?_
      refine .seqN ?_
      refine .seq ?_
      refine .seq ?_
      refine .region ?_
      refine .v (fa rfl tF56_0) rfl rfl rfl ?_
      refine .v (ld1 rfl tO3 (cellB (off := 0) (k := 3) rfl rfl)) rfl rfl rfl ?_
      refine .v (fa rfl tF56_0) rfl rfl rfl ?_
      refine .v (ld1 rfl tO3 (cellB (off := 0) (k := 4) rfl rfl)) rfl rfl rfl ?_
      obtain ⟨x5, q437⟩ : ∃ y_ : Bool, y_ = (((gt r2 ((gt u.network.links t22).src)).base) == ((gt r2 ((gt u.network.links t22).dst)).base)) := ⟨_, rfl⟩
      replace hF := hF x5 q437
      refine .v (v := .bool x5) (by rw [q437]; exact bi rfl rfl rfl) rfl rfl rfl ?_
      refine .nil ?_
      refine .seqN ?_
      refine .cond rfl (fun q448 => ?_) (fun q448 => ?_)
      · replace hF := hF.1 q448
        refine .seq ?_
        refine .share (σ := Bool) (fun z => F_strong__J3 u K z l t22 I1 μ1) (fun z => [(2, .pointer (some pv)), (4, .slice a r2.length c), (5, .pointer (some pn)), (20, .slice au u.network.links.length cu), (21, .int .i64 ((u.network.links.length : Nat) : Int)), (22, .int .i64 t22), (62, .bool z)]) (fun _ => [Box pv [.int .i64 0, .slice none 0 0], Box pn [.int .i64 u.network.events, .slice al2 l.length cl2], OwnSl 48 4 al2 l.length cl2 (flL l)]) (fun _ => h1) ?_ (fun q450 => ?_)
        · rintro t62 hF
          show J _ _ _ _ _ [(2, .pointer (some pv)), (4, .slice a r2.length c), (5, .pointer (some pn)), (20, .slice au u.network.links.length cu), (21, .int .i64 ((u.network.links.length : Nat) : Int)), (22, .int .i64 t22), (62, .bool t62)] [Box pv [.int .i64 0, .slice none 0 0], Box pn [.int .i64 u.network.events, .slice al2 l.length cl2], OwnSl 48 4 al2 l.length cl2 (flL l)] h1
          refine .cond rfl (fun q454 => ?_) (fun q454 => ?_)
          · replace hF := hF.1 q454
            refine .seq ?_
            refine .region ?_
            refine .v (ldA (cs := [.int .i64 u.network.events, .slice al2 l.length cl2]) rfl tA24 rfl (cellsB (off := 0) (k := 1) rfl (m := 2) rfl)) rfl rfl rfl ?_
            refine st (p := pv) (off := 0) (k := 0) (vs := [.int .i64 u.network.events, .slice al2 l.length cl2]) rfl rfl rfl (fun w => (tA24 w).2) rfl rfl rfl rfl ?_
            refine .cast (A' := [Box pv [.int .i64 u.network.events, .slice al2 l.length cl2], Box pn [.int .i64 u.network.events, .slice al2 l.length cl2], OwnSl 48 4 al2 l.length cl2 (flL l)]) rfl ?_
            refine .v (asg rfl) rfl rfl rfl ?_
            refine .nil ?_
            refine .seqN ?_
            refine .freezeL (k := 2) rfl (fun h47 le47 q456 q455 => ?_)
            refine .cast (A' := [Box pv [.int .i64 u.network.events, .slice al2 l.length cl2], Box pn [.int .i64 u.network.events, .slice al2 l.length cl2], tru]) rfl ?_
            refine .ret ?_
            refine .seqR ?_
            refine .seqR ?_
            refine .blkR ?_
            refine .seqR ?_
            refine .seqR ?_
            refine .blkR ?_
            refine .seqR ?_
            refine .res2 rfl (rvC rfl tA24 (k := 0) rfl rfl) (rvT rfl) (fun w' S => ⟨((⟨u.network.events, l⟩ : Network), false), (al2, cl2), h47, hF, rfl, (FH.le_trans (le1) (le47)), ⟨(RSl.of q455), (q456)⟩, S.none⟩)
          replace hF := hF.2 q454
          refine .skip ?_
          refine .seqN ?_
          refine .exit ?_
          refine .seqX ?_
          refine .blkX ?_
          exact .use q428 (l, al2, cl2) hF (.cons rfl (.cons rfl (.cons rfl (.cons rfl (.cons rfl (.cons rfl (.nil))))))) rfl (FH.le_refl _)
        refine .region ?_
        refine .v (mv rfl) rfl rfl rfl ?_
        refine .v (bi rfl rfl rfl) rfl rfl rfl ?_
        refine .v (mv rfl) rfl rfl rfl ?_
        rcases Bool.eq_false_or_eq_true (decide (0 < x2)) with q457 | q457
        · replace hF := hF.1 q457
          refine .gS rfl rfl rfl q457 rfl rfl ?_
          refine .gS rfl rfl rfl q457 rfl rfl ?_
          refine .v (pkT rfl q457 rfl) rfl rfl rfl ?_
          refine .nil ?_
          refine .sel0 [0, 1, 5] (by decide) rfl ?_
          exact .use q450 true hF (.cons rfl (.cons rfl (.cons rfl (.cons rfl (.cons rfl (.cons rfl (.cons rfl (.nil)))))))) rfl (FH.le_refl _)
        replace hF := hF.2 q457
        refine .gv (mv rfl) rfl rfl rfl q457 rfl rfl ?_
        refine .gv (bi rfl rfl rfl) rfl rfl rfl q457 rfl rfl ?_
        refine .v (pkF rfl q457 rfl) rfl rfl rfl ?_
        refine .nil ?_
        refine .sel0 [0, 1, 5] (by decide) rfl ?_
        exact .use q450 (decide (x4 < 0)) hF (.cons rfl (.cons rfl (.cons rfl (.cons rfl (.cons rfl (.cons rfl (.cons rfl (.nil)))))))) rfl (FH.le_refl _)
      replace hF := hF.2 q448
      refine .skip ?_
      refine .seqN ?_
      refine .seq ?_
      refine .seq ?_
      refine .region ?_
      refine .v (mv rfl) rfl rfl rfl ?_
      refine .v (mv rfl) rfl rfl rfl ?_
      refine .v (bi rfl rfl rfl) rfl rfl rfl ?_
      refine .nil ?_
      refine .seqN ?_
      refine .cond rfl (fun q461 => ?_) (fun q461 => ?_)
      · replace hF := hF.1 q461
        refine .seq ?_
        refine .region ?_
        refine .v (ldA (cs := [.int .i64 u.network.events, .slice al2 l.length cl2]) rfl tA24 rfl (cellsB (off := 0) (k := 1) rfl (m := 2) rfl)) rfl rfl rfl ?_
        refine st (p := pv) (off := 0) (k := 0) (vs := [.int .i64 u.network.events, .slice al2 l.length cl2]) rfl rfl rfl (fun w => (tA24 w).2) rfl rfl rfl rfl ?_
        refine .cast (A' := [Box pv [.int .i64 u.network.events, .slice al2 l.length cl2], Box pn [.int .i64 u.network.events, .slice al2 l.length cl2], Box pl [.int .i64 ((gt u.network.links t22).src), .int .i64 ((gt u.network.links t22).dst), .int .i64 ((gt u.network.links t22).low), .int .i64 ((gt u.network.links t22).high)], Box p [.int .i64 ((gt r2 ((gt u.network.links t22).src)).base), .int .i64 ((gt r2 ((gt u.network.links t22).src)).low), .int .i64 ((gt r2 ((gt u.network.links t22).src)).high)], Box p2 [.int .i64 ((gt r2 ((gt u.network.links t22).dst)).base), .int .i64 ((gt r2 ((gt u.network.links t22).dst)).low), .int .i64 ((gt r2 ((gt u.network.links t22).dst)).high)], OwnSl 48 4 al2 l.length cl2 (flL l)]) rfl ?_
        refine .v (asg rfl) rfl rfl rfl ?_
        refine .nil ?_
        refine .seqN ?_
        refine .freezeL (k := 5) rfl (fun h49 le49 q463 q462 => ?_)
        refine .cast (A' := [Box pv [.int .i64 u.network.events, .slice al2 l.length cl2], Box pn [.int .i64 u.network.events, .slice al2 l.length cl2], Box pl [.int .i64 ((gt u.network.links t22).src), .int .i64 ((gt u.network.links t22).dst), .int .i64 ((gt u.network.links t22).low), .int .i64 ((gt u.network.links t22).high)], Box p [.int .i64 ((gt r2 ((gt u.network.links t22).src)).base), .int .i64 ((gt r2 ((gt u.network.links t22).src)).low), .int .i64 ((gt r2 ((gt u.network.links t22).src)).high)], Box p2 [.int .i64 ((gt r2 ((gt u.network.links t22).dst)).base), .int .i64 ((gt r2 ((gt u.network.links t22).dst)).low), .int .i64 ((gt r2 ((gt u.network.links t22).dst)).high)], tru]) rfl ?_
        refine .ret ?_
        refine .seqR ?_
        refine .blkR ?_
        refine .seqR ?_
        refine .seqR ?_
        refine .blkR ?_
        refine .seqR ?_
        refine .res2 rfl (rvC rfl tA24 (k := 0) rfl rfl) (rvT rfl) (fun w' S => ⟨((⟨u.network.events, l⟩ : Network), false), (al2, cl2), h49, hF, rfl, (FH.le_trans (le1) (le49)), ⟨(RSl.of q462), (q463)⟩, S.none⟩)
      replace hF := hF.2 q461
      refine .skip ?_
      refine .seqN ?_
      refine .region ?_
      refine .v (fa rfl tF24_1) rfl rfl rfl ?_
      refine .v (ld1 rfl tO22 (cellB (off := 1) (k := 1) rfl rfl)) rfl rfl rfl ?_
      refine .v (fa rfl tF56_0) rfl rfl rfl ?_
      refine .v (ld1 rfl tO3 (cellB (off := 0) (k := 3) rfl rfl)) rfl rfl rfl ?_
      refine .v (fa rfl tF56_0) rfl rfl rfl ?_
      refine .v (ld1 rfl tO3 (cellB (off := 0) (k := 4) rfl rfl)) rfl rfl rfl ?_
      refine .v (mv rfl) rfl rfl rfl ?_
      refine .v (mv rfl) rfl rfl rfl ?_
      refine .v (bld (cs := #[.int .i64 ((gt r2 ((gt u.network.links t22).src)).base), .int .i64 ((gt r2 ((gt u.network.links t22).dst)).base), .int .i64 x2, .int .i64 x4]) (pv := [(0, .int .i64 ((gt r2 ((gt u.network.links t22).src)).base)), (1, .int .i64 ((gt r2 ((gt u.network.links t22).dst)).base)), (2, .int .i64 x2), (3, .int .i64 x4)]) tB48 rfl rfl) rfl rfl rfl ?_
      refine bs2 (cs := #[.int .i64 ((gt r2 ((gt u.network.links t22).src)).base), .int .i64 ((gt r2 ((gt u.network.links t22).dst)).base), .int .i64 x2, .int .i64 x4]) (pv := [(0, .agg #[.int .i64 ((gt r2 ((gt u.network.links t22).src)).base), .int .i64 ((gt r2 ((gt u.network.links t22).dst)).base), .int .i64 x2, .int .i64 x4])]) tS22 rfl rfl (by decide) (by decide) rfl rfl rfl (fun a2 _ => ?_)
      refine .cast (A' := [OwnSl 48 4 a2 (([(⟨(gt r2 ((gt u.network.links t22).src)).base, (gt r2 ((gt u.network.links t22).dst)).base, x2, x4⟩ : Link)] : List Link).length) 1 (flL ([(⟨(gt r2 ((gt u.network.links t22).src)).base, (gt r2 ((gt u.network.links t22).dst)).base, x2, x4⟩ : Link)] : List Link)), Box pv [.int .i64 0, .slice none 0 0], Box pn [.int .i64 u.network.events, .slice al2 l.length cl2], Box pl [.int .i64 ((gt u.network.links t22).src), .int .i64 ((gt u.network.links t22).dst), .int .i64 ((gt u.network.links t22).low), .int .i64 ((gt u.network.links t22).high)], Box p [.int .i64 ((gt r2 ((gt u.network.links t22).src)).base), .int .i64 ((gt r2 ((gt u.network.links t22).src)).low), .int .i64 ((gt r2 ((gt u.network.links t22).src)).high)], Box p2 [.int .i64 ((gt r2 ((gt u.network.links t22).dst)).base), .int .i64 ((gt r2 ((gt u.network.links t22).dst)).low), .int .i64 ((gt r2 ((gt u.network.links t22).dst)).high)], OwnSl 48 4 al2 l.length cl2 (flL l)]) rfl ?_
      obtain ⟨q465, hF⟩ := hF
      have q466 : l.length + ([(⟨(gt r2 ((gt u.network.links t22).src)).base, (gt r2 ((gt u.network.links t22).dst)).base, x2, x4⟩ : Link)] : List Link).length = ((l ++ ([(⟨(gt r2 ((gt u.network.links t22).src)).base, (gt r2 ((gt u.network.links t22).dst)).base, x2, x4⟩ : Link)] : List Link))).length := len_app rfl rfl
      refine app (k := 6) (news := flL ([(⟨(gt r2 ((gt u.network.links t22).src)).base, (gt r2 ((gt u.network.links t22).dst)).base, x2, x4⟩ : Link)] : List Link)) (cs' := flL (l ++ ([(⟨(gt r2 ((gt u.network.links t22).src)).base, (gt r2 ((gt u.network.links t22).dst)).base, x2, x4⟩ : Link)] : List Link))) (nm := ((l ++ ([(⟨(gt r2 ((gt u.network.links t22).src)).base, (gt r2 ((gt u.network.links t22).dst)).base, x2, x4⟩ : Link)] : List Link))).length) tS22 rfl (by decide) rfl rfl rfl (by rw [flL_len]; rfl) (srcS (k := 0) rfl) (flL_one _) (room_of q466 q465).1 (room_of q466 q465).2 q466 (flL_append _ _).symm rfl (fun a3 c2 => ?_)
      refine .cast (A' := [OwnSl 48 4 a2 (([(⟨(gt r2 ((gt u.network.links t22).src)).base, (gt r2 ((gt u.network.links t22).dst)).base, x2, x4⟩ : Link)] : List Link).length) 1 (flL ([(⟨(gt r2 ((gt u.network.links t22).src)).base, (gt r2 ((gt u.network.links t22).dst)).base, x2, x4⟩ : Link)] : List Link)), Box pv [.int .i64 0, .slice none 0 0], Box pn [.int .i64 u.network.events, .slice al2 l.length cl2], Box pl [.int .i64 ((gt u.network.links t22).src), .int .i64 ((gt u.network.links t22).dst), .int .i64 ((gt u.network.links t22).low), .int .i64 ((gt u.network.links t22).high)], Box p [.int .i64 ((gt r2 ((gt u.network.links t22).src)).base), .int .i64 ((gt r2 ((gt u.network.links t22).src)).low), .int .i64 ((gt r2 ((gt u.network.links t22).src)).high)], Box p2 [.int .i64 ((gt r2 ((gt u.network.links t22).dst)).base), .int .i64 ((gt r2 ((gt u.network.links t22).dst)).low), .int .i64 ((gt r2 ((gt u.network.links t22).dst)).high)], OwnSl 48 4 a3 ((l ++ ([(⟨(gt r2 ((gt u.network.links t22).src)).base, (gt r2 ((gt u.network.links t22).dst)).base, x2, x4⟩ : Link)] : List Link)).length) c2 (flL (l ++ ([(⟨(gt r2 ((gt u.network.links t22).src)).base, (gt r2 ((gt u.network.links t22).dst)).base, x2, x4⟩ : Link)] : List Link)))]) rfl ?_
      refine .v (fa rfl tF24_1) rfl rfl rfl ?_
      refine st (p := pn) (off := 1) (k := 2) (vs := [.slice a3 ((l ++ ([(⟨(gt r2 ((gt u.network.links t22).src)).base, (gt r2 ((gt u.network.links t22).dst)).base, x2, x4⟩ : Link)] : List Link)).length) c2]) rfl rfl rfl (fun w => (tO22 w).2) rfl rfl rfl rfl ?_
      refine .cast (A' := [OwnSl 48 4 a2 (([(⟨(gt r2 ((gt u.network.links t22).src)).base, (gt r2 ((gt u.network.links t22).dst)).base, x2, x4⟩ : Link)] : List Link).length) 1 (flL ([(⟨(gt r2 ((gt u.network.links t22).src)).base, (gt r2 ((gt u.network.links t22).dst)).base, x2, x4⟩ : Link)] : List Link)), Box pv [.int .i64 0, .slice none 0 0], Box pn [.int .i64 u.network.events, .slice a3 ((l ++ ([(⟨(gt r2 ((gt u.network.links t22).src)).base, (gt r2 ((gt u.network.links t22).dst)).base, x2, x4⟩ : Link)] : List Link)).length) c2], Box pl [.int .i64 ((gt u.network.links t22).src), .int .i64 ((gt u.network.links t22).dst), .int .i64 ((gt u.network.links t22).low), .int .i64 ((gt u.network.links t22).high)], Box p [.int .i64 ((gt r2 ((gt u.network.links t22).src)).base), .int .i64 ((gt r2 ((gt u.network.links t22).src)).low), .int .i64 ((gt r2 ((gt u.network.links t22).src)).high)], Box p2 [.int .i64 ((gt r2 ((gt u.network.links t22).dst)).base), .int .i64 ((gt r2 ((gt u.network.links t22).dst)).low), .int .i64 ((gt r2 ((gt u.network.links t22).dst)).high)], OwnSl 48 4 a3 ((l ++ ([(⟨(gt r2 ((gt u.network.links t22).src)).base, (gt r2 ((gt u.network.links t22).dst)).base, x2, x4⟩ : Link)] : List Link)).length) c2 (flL (l ++ ([(⟨(gt r2 ((gt u.network.links t22).src)).base, (gt r2 ((gt u.network.links t22).dst)).base, x2, x4⟩ : Link)] : List Link)))]) rfl ?_
      refine .nil ?_
      refine .blkN ?_
      refine .sel0 [1, 2, 6] (by decide) rfl ?_
      exact .use q428 ((l ++ ([(⟨(gt r2 ((gt u.network.links t22).src)).base, (gt r2 ((gt u.network.links t22).dst)).base, x2, x4⟩ : Link)] : List Link)), a3, c2) hF (.cons rfl (.cons rfl (.cons rfl (.cons rfl (.cons rfl (.cons rfl (.nil))))))) rfl (FH.le_refl _)
    obtain ⟨q467, hF⟩ := hF
    obtain ⟨q468, hF⟩ := hF
    refine .openA (s0 := [(2, .pointer (some pv)), (4, .slice a r2.length c), (5, .pointer (some pn)), (7, .pointer (some pl)), (20, .slice au u.network.links.length cu), (21, .int .i64 ((u.network.links.length : Nat) : Int)), (22, .int .i64 t22)]) [0, 1, 2, 3, 4, 5, 6, 7, 8, 9] [(0, .slice a r2.length c), (1, .pointer (some (pl.add 0))), (2, .int .i64 ((gt u.network.links t22).src)), (3, .pointer (some (ead a (((gt u.network.links t22).src).toNat * 3)))), (4, .agg #[.int .i64 ((gt r2 ((gt u.network.links t22).src)).base), .int .i64 ((gt r2 ((gt u.network.links t22).src)).low), .int .i64 ((gt r2 ((gt u.network.links t22).src)).high)]), (5, .slice a r2.length c), (6, .pointer (some (pl.add 1))), (7, .int .i64 ((gt u.network.links t22).dst)), (8, .pointer (some (ead a (((gt u.network.links t22).dst).toNat * 3)))), (9, .agg #[.int .i64 ((gt r2 ((gt u.network.links t22).dst)).base), .int .i64 ((gt r2 ((gt u.network.links t22).dst)).low), .int .i64 ((gt r2 ((gt u.network.links t22).dst)).high)])] (by kernel_rfl) (.cons rfl (.cons rfl (.cons rfl (.cons rfl (.cons rfl (.cons rfl (.cons rfl (.nil)))))))) [2, 4, 5, 7, 20, 21, 22] [] rfl (by kernel_rfl) ?_
    refine .step [10, 11] 10 rfl (by kernel_rfl) (by kernel_rfl) (.v [] rfl rfl rfl rfl rfl rfl (fun _ => mv rfl) (.v [] rfl rfl rfl rfl rfl rfl (fun _ => fa rfl tF48_0) (.v [(27, .pointer (some (pl.add 0)))] rfl rfl rfl rfl rfl rfl (fun _ => ld1 rfl tO3 (cellB (off := 0) (k := 0) rfl rfl)) (.v [(26, .slice a r2.length c), (28, .int .i64 ((gt u.network.links t22).src))] rfl rfl rfl rfl rfl rfl (fun _ => ix rfl rfl tS53 (q7.ne (by decide) (inb_pos q467)) q467) (.v [(29, .pointer (some (ead a (((gt u.network.links t22).src).toNat * 3))))] rfl rfl rfl rfl rfl rfl (fun _ => ldA (cs := [.int .i64 ((gt r2 ((gt u.network.links t22).src)).base), .int .i64 ((gt r2 ((gt u.network.links t22).src)).low), .int .i64 ((gt r2 ((gt u.network.links t22).src)).high)]) rfl tA56 rfl (cellsH (q7.elemF q467 (by decide)))) (.v [] rfl rfl rfl rfl rfl rfl (fun _ => mv rfl) (.v [] rfl rfl rfl rfl rfl rfl (fun _ => fa rfl tF48_1) (.v [(32, .pointer (some (pl.add 1)))] rfl rfl rfl rfl rfl rfl (fun _ => ld1 rfl tO3 (cellB (off := 1) (k := 0) rfl rfl)) (.v [(31, .slice a r2.length c), (33, .int .i64 ((gt u.network.links t22).dst))] rfl rfl rfl rfl rfl rfl (fun _ => ix rfl rfl tS53 (q7.ne (by decide) (inb_pos q468)) q468) (.v [(34, .pointer (some (ead a (((gt u.network.links t22).dst).toNat * 3))))] rfl rfl rfl rfl rfl rfl (fun _ => ldA (cs := [.int .i64 ((gt r2 ((gt u.network.links t22).dst)).base), .int .i64 ((gt r2 ((gt u.network.links t22).dst)).low), .int .i64 ((gt r2 ((gt u.network.links t22).dst)).high)]) rfl tA56 rfl (cellsH (q7.elemF q468 (by decide)))) (.nil))))))))))) (.cons [] rfl rfl (fun sL hL => ?_) (.cons [] rfl rfl (fun sL hL => ?_) (.nil)))
    · refine al tZ56 rfl (fun px => ?_)
      refine .nil ?_
      refine .ja (M := []) (C' := [0, 1, 2, 3, 4, 5, 6, 7, 8, 9]) (pre := [(10, .pointer (some px))]) [(2, .pointer (some pv)), (4, .slice a r2.length c), (5, .pointer (some pn)), (7, .pointer (some pl)), (20, .slice au u.network.links.length cu), (21, .int .i64 ((u.network.links.length : Nat) : Int)), (22, .int .i64 t22)] [2, 4, 5, 7, 20, 21, 22] hL rfl rfl rfl rfl rfl (.cons rfl (.cons rfl (.cons rfl (.cons rfl (.cons rfl (.cons rfl (.cons rfl (.nil)))))))) rfl rfl (by kernel_rfl) ?_
      refine .step [11] 11 rfl (by kernel_rfl) (by kernel_rfl) (.v [] rfl rfl rfl rfl rfl rfl (fun _ => mv rfl) (.v [] rfl rfl rfl rfl rfl rfl (fun _ => fa rfl tF48_0) (.v [(27, .pointer (some (pl.add 0)))] rfl rfl rfl rfl rfl rfl (fun _ => ld1 rfl tO3 (cellB (off := 0) (k := 1) rfl rfl)) (.v [(26, .slice a r2.length c), (28, .int .i64 ((gt u.network.links t22).src))] rfl rfl rfl rfl rfl rfl (fun _ => ix rfl rfl tS53 (q7.ne (by decide) (inb_pos q467)) q467) (.v [(29, .pointer (some (ead a (((gt u.network.links t22).src).toNat * 3))))] rfl rfl rfl rfl rfl rfl (fun _ => ldA (cs := [.int .i64 ((gt r2 ((gt u.network.links t22).src)).base), .int .i64 ((gt r2 ((gt u.network.links t22).src)).low), .int .i64 ((gt r2 ((gt u.network.links t22).src)).high)]) rfl tA56 rfl (cellsH (q7.elemF q467 (by decide)))) (.v [] rfl rfl rfl rfl rfl rfl (fun _ => mv rfl) (.v [] rfl rfl rfl rfl rfl rfl (fun _ => fa rfl tF48_1) (.v [(32, .pointer (some (pl.add 1)))] rfl rfl rfl rfl rfl rfl (fun _ => ld1 rfl tO3 (cellB (off := 1) (k := 1) rfl rfl)) (.v [(31, .slice a r2.length c), (33, .int .i64 ((gt u.network.links t22).dst))] rfl rfl rfl rfl rfl rfl (fun _ => ix rfl rfl tS53 (q7.ne (by decide) (inb_pos q468)) q468) (.v [(34, .pointer (some (ead a (((gt u.network.links t22).dst).toNat * 3))))] rfl rfl rfl rfl rfl rfl (fun _ => ldA (cs := [.int .i64 ((gt r2 ((gt u.network.links t22).dst)).base), .int .i64 ((gt r2 ((gt u.network.links t22).dst)).low), .int .i64 ((gt r2 ((gt u.network.links t22).dst)).high)]) rfl tA56 rfl (cellsH (q7.elemF q468 (by decide)))) (.nil))))))))))) (.cons [] rfl rfl (fun sL hL => ?_) (.nil))
      refine al tZ56 rfl (fun py => ?_)
      refine .nil ?_
      refine .ja (M := []) (C' := [0, 1, 2, 3, 4, 5, 6, 7, 8, 9]) (pre := [(11, .pointer (some py))]) [(2, .pointer (some pv)), (4, .slice a r2.length c), (5, .pointer (some pn)), (7, .pointer (some pl)), (20, .slice au u.network.links.length cu), (21, .int .i64 ((u.network.links.length : Nat) : Int)), (22, .int .i64 t22)] [2, 4, 5, 7, 20, 21, 22] hL rfl rfl rfl rfl rfl (.cons rfl (.cons rfl (.cons rfl (.cons rfl (.cons rfl (.cons rfl (.cons rfl (.nil)))))))) rfl rfl (by kernel_rfl) ?_
      refine .step [12] 12 rfl (by kernel_rfl) (by kernel_rfl) (.v [] rfl rfl rfl rfl rfl rfl (fun _ => mv rfl) (.v [] rfl rfl rfl rfl rfl rfl (fun _ => fa rfl tF48_0) (.v [(27, .pointer (some (pl.add 0)))] rfl rfl rfl rfl rfl rfl (fun _ => ld1 rfl tO3 (cellB (off := 0) (k := 2) rfl rfl)) (.v [(26, .slice a r2.length c), (28, .int .i64 ((gt u.network.links t22).src))] rfl rfl rfl rfl rfl rfl (fun _ => ix rfl rfl tS53 (q7.ne (by decide) (inb_pos q467)) q467) (.v [(29, .pointer (some (ead a (((gt u.network.links t22).src).toNat * 3))))] rfl rfl rfl rfl rfl rfl (fun _ => ldA (cs := [.int .i64 ((gt r2 ((gt u.network.links t22).src)).base), .int .i64 ((gt r2 ((gt u.network.links t22).src)).low), .int .i64 ((gt r2 ((gt u.network.links t22).src)).high)]) rfl tA56 rfl (cellsH (q7.elemF q467 (by decide)))) (.v [] rfl rfl rfl rfl rfl rfl (fun _ => mv rfl) (.v [] rfl rfl rfl rfl rfl rfl (fun _ => fa rfl tF48_1) (.v [(32, .pointer (some (pl.add 1)))] rfl rfl rfl rfl rfl rfl (fun _ => ld1 rfl tO3 (cellB (off := 1) (k := 2) rfl rfl)) (.v [(31, .slice a r2.length c), (33, .int .i64 ((gt u.network.links t22).dst))] rfl rfl rfl rfl rfl rfl (fun _ => ix rfl rfl tS53 (q7.ne (by decide) (inb_pos q468)) q468) (.v [(34, .pointer (some (ead a (((gt u.network.links t22).dst).toNat * 3))))] rfl rfl rfl rfl rfl rfl (fun _ => ldA (cs := [.int .i64 ((gt r2 ((gt u.network.links t22).dst)).base), .int .i64 ((gt r2 ((gt u.network.links t22).dst)).low), .int .i64 ((gt r2 ((gt u.network.links t22).dst)).high)]) rfl tA56 rfl (cellsH (q7.elemF q468 (by decide)))) (.nil))))))))))) (.cons [(8, .pointer (some px)), (30, .agg #[.int .i64 ((gt r2 ((gt u.network.links t22).src)).base), .int .i64 ((gt r2 ((gt u.network.links t22).src)).low), .int .i64 ((gt r2 ((gt u.network.links t22).src)).high)]), (26, .slice a r2.length c), (27, .pointer (some (pl.add 0))), (28, .int .i64 ((gt u.network.links t22).src)), (29, .pointer (some (ead a (((gt u.network.links t22).src).toNat * 3)))), (30, .agg #[.int .i64 ((gt r2 ((gt u.network.links t22).src)).base), .int .i64 ((gt r2 ((gt u.network.links t22).src)).low), .int .i64 ((gt r2 ((gt u.network.links t22).src)).high)]), (8, .pointer (some px)), (9, .pointer (some py))] rfl rfl (fun sL hL => ?_) (.nil))
      refine st (p := px) (off := 0) (k := 1) (vs := [.int .i64 ((gt r2 ((gt u.network.links t22).src)).base), .int .i64 ((gt r2 ((gt u.network.links t22).src)).low), .int .i64 ((gt r2 ((gt u.network.links t22).src)).high)]) rfl rfl rfl (fun w => (tA56 w).2) rfl rfl rfl rfl ?_
      refine .cast (A' := [Box py [.int .i64 0, .int .i64 0, .int .i64 0], Box px [.int .i64 ((gt r2 ((gt u.network.links t22).src)).base), .int .i64 ((gt r2 ((gt u.network.links t22).src)).low), .int .i64 ((gt r2 ((gt u.network.links t22).src)).high)], Box pl [.int .i64 ((gt u.network.links t22).src), .int .i64 ((gt u.network.links t22).dst), .int .i64 ((gt u.network.links t22).low), .int .i64 ((gt u.network.links t22).high)], Box pv [.int .i64 0, .slice none 0 0], Box pn [.int .i64 u.network.events, .slice al2 l.length cl2], OwnSl 48 4 al2 l.length cl2 (flL l)]) rfl ?_
      refine .nil ?_
      refine .jaN (M := [4, 0, 1, 2, 3]) (C' := [5, 6, 7, 8, 9]) (pre := []) [2, 4, 5, 7, 20, 21, 22] hL rfl rfl rfl rfl rfl (by kernel_rfl) ?_
      refine .step [13] 13 rfl (by kernel_rfl) (by kernel_rfl) (.v [] rfl rfl rfl rfl rfl rfl (fun _ => mv rfl) (.v [] rfl rfl rfl rfl rfl rfl (fun _ => fa rfl tF48_1) (.v [(32, .pointer (some (pl.add 1)))] rfl rfl rfl rfl rfl rfl (fun _ => ld1 rfl tO3 (cellB (off := 1) (k := 2) rfl rfl)) (.v [(31, .slice a r2.length c), (33, .int .i64 ((gt u.network.links t22).dst))] rfl rfl rfl rfl rfl rfl (fun _ => ix rfl rfl tS53 (q7.ne (by decide) (inb_pos q468)) q468) (.v [(34, .pointer (some (ead a (((gt u.network.links t22).dst).toNat * 3))))] rfl rfl rfl rfl rfl rfl (fun _ => ldA (cs := [.int .i64 ((gt r2 ((gt u.network.links t22).dst)).base), .int .i64 ((gt r2 ((gt u.network.links t22).dst)).low), .int .i64 ((gt r2 ((gt u.network.links t22).dst)).high)]) rfl tA56 rfl (cellsH (q7.elemF q468 (by decide)))) (.nil)))))) (.cons [(9, .pointer (some py)), (35, .agg #[.int .i64 ((gt r2 ((gt u.network.links t22).dst)).base), .int .i64 ((gt r2 ((gt u.network.links t22).dst)).low), .int .i64 ((gt r2 ((gt u.network.links t22).dst)).high)]), (26, .slice a r2.length c), (27, .pointer (some (pl.add 0))), (28, .int .i64 ((gt u.network.links t22).src)), (29, .pointer (some (ead a (((gt u.network.links t22).src).toNat * 3)))), (30, .agg #[.int .i64 ((gt r2 ((gt u.network.links t22).src)).base), .int .i64 ((gt r2 ((gt u.network.links t22).src)).low), .int .i64 ((gt r2 ((gt u.network.links t22).src)).high)]), (31, .slice a r2.length c), (32, .pointer (some (pl.add 1))), (33, .int .i64 ((gt u.network.links t22).dst)), (34, .pointer (some (ead a (((gt u.network.links t22).dst).toNat * 3)))), (35, .agg #[.int .i64 ((gt r2 ((gt u.network.links t22).dst)).base), .int .i64 ((gt r2 ((gt u.network.links t22).dst)).low), .int .i64 ((gt r2 ((gt u.network.links t22).dst)).high)]), (8, .pointer (some px)), (9, .pointer (some py))] rfl rfl (fun sL hL => ?_) (.nil))
      refine st (p := py) (off := 0) (k := 0) (vs := [.int .i64 ((gt r2 ((gt u.network.links t22).dst)).base), .int .i64 ((gt r2 ((gt u.network.links t22).dst)).low), .int .i64 ((gt r2 ((gt u.network.links t22).dst)).high)]) rfl rfl rfl (fun w => (tA56 w).2) rfl rfl rfl rfl ?_
      refine .cast (A' := [Box py [.int .i64 ((gt r2 ((gt u.network.links t22).dst)).base), .int .i64 ((gt r2 ((gt u.network.links t22).dst)).low), .int .i64 ((gt r2 ((gt u.network.links t22).dst)).high)], Box px [.int .i64 ((gt r2 ((gt u.network.links t22).src)).base), .int .i64 ((gt r2 ((gt u.network.links t22).src)).low), .int .i64 ((gt r2 ((gt u.network.links t22).src)).high)], Box pl [.int .i64 ((gt u.network.links t22).src), .int .i64 ((gt u.network.links t22).dst), .int .i64 ((gt u.network.links t22).low), .int .i64 ((gt u.network.links t22).high)], Box pv [.int .i64 0, .slice none 0 0], Box pn [.int .i64 u.network.events, .slice al2 l.length cl2], OwnSl 48 4 al2 l.length cl2 (flL l)]) rfl ?_
      refine .nil ?_
      refine .jaN (M := [9, 5, 6, 7, 8]) (C' := []) (pre := []) [2, 4, 5, 7, 20, 21, 22] hL rfl rfl rfl rfl rfl (by kernel_rfl) ?_
      refine .last [(26, .slice a r2.length c), (27, .pointer (some (pl.add 0))), (28, .int .i64 ((gt u.network.links t22).src)), (29, .pointer (some (ead a (((gt u.network.links t22).src).toNat * 3)))), (30, .agg #[.int .i64 ((gt r2 ((gt u.network.links t22).src)).base), .int .i64 ((gt r2 ((gt u.network.links t22).src)).low), .int .i64 ((gt r2 ((gt u.network.links t22).src)).high)]), (31, .slice a r2.length c), (32, .pointer (some (pl.add 1))), (33, .int .i64 ((gt u.network.links t22).dst)), (34, .pointer (some (ead a (((gt u.network.links t22).dst).toNat * 3)))), (35, .agg #[.int .i64 ((gt r2 ((gt u.network.links t22).dst)).base), .int .i64 ((gt r2 ((gt u.network.links t22).dst)).low), .int .i64 ((gt r2 ((gt u.network.links t22).dst)).high)]), (8, .pointer (some px)), (9, .pointer (some py))] rfl (by kernel_rfl) (.nil) rfl ?_
      refine .sel0 [3, 4, 2, 1, 0, 5] (by decide) rfl ?_
      exact .use q432 (px, py) hF (.cons rfl (.cons rfl (.cons rfl (.cons rfl (.cons rfl (.cons rfl (.cons rfl (.cons rfl (.cons rfl (.nil)))))))))) rfl (FH.le_refl _)
    · refine al tZ56 rfl (fun py => ?_)
      refine .nil ?_
      refine .ja (M := []) (C' := [0, 1, 2, 3, 4, 5, 6, 7, 8, 9]) (pre := [(11, .pointer (some py))]) [(2, .pointer (some pv)), (4, .slice a r2.length c), (5, .pointer (some pn)), (7, .pointer (some pl)), (20, .slice au u.network.links.length cu), (21, .int .i64 ((u.network.links.length : Nat) : Int)), (22, .int .i64 t22)] [2, 4, 5, 7, 20, 21, 22] hL rfl rfl rfl rfl rfl (.cons rfl (.cons rfl (.cons rfl (.cons rfl (.cons rfl (.cons rfl (.cons rfl (.nil)))))))) rfl rfl (by kernel_rfl) ?_
      refine .step [10] 10 rfl (by kernel_rfl) (by kernel_rfl) (.v [] rfl rfl rfl rfl rfl rfl (fun _ => mv rfl) (.v [] rfl rfl rfl rfl rfl rfl (fun _ => fa rfl tF48_0) (.v [(27, .pointer (some (pl.add 0)))] rfl rfl rfl rfl rfl rfl (fun _ => ld1 rfl tO3 (cellB (off := 0) (k := 1) rfl rfl)) (.v [(26, .slice a r2.length c), (28, .int .i64 ((gt u.network.links t22).src))] rfl rfl rfl rfl rfl rfl (fun _ => ix rfl rfl tS53 (q7.ne (by decide) (inb_pos q467)) q467) (.v [(29, .pointer (some (ead a (((gt u.network.links t22).src).toNat * 3))))] rfl rfl rfl rfl rfl rfl (fun _ => ldA (cs := [.int .i64 ((gt r2 ((gt u.network.links t22).src)).base), .int .i64 ((gt r2 ((gt u.network.links t22).src)).low), .int .i64 ((gt r2 ((gt u.network.links t22).src)).high)]) rfl tA56 rfl (cellsH (q7.elemF q467 (by decide)))) (.v [] rfl rfl rfl rfl rfl rfl (fun _ => mv rfl) (.v [] rfl rfl rfl rfl rfl rfl (fun _ => fa rfl tF48_1) (.v [(32, .pointer (some (pl.add 1)))] rfl rfl rfl rfl rfl rfl (fun _ => ld1 rfl tO3 (cellB (off := 1) (k := 1) rfl rfl)) (.v [(31, .slice a r2.length c), (33, .int .i64 ((gt u.network.links t22).dst))] rfl rfl rfl rfl rfl rfl (fun _ => ix rfl rfl tS53 (q7.ne (by decide) (inb_pos q468)) q468) (.v [(34, .pointer (some (ead a (((gt u.network.links t22).dst).toNat * 3))))] rfl rfl rfl rfl rfl rfl (fun _ => ldA (cs := [.int .i64 ((gt r2 ((gt u.network.links t22).dst)).base), .int .i64 ((gt r2 ((gt u.network.links t22).dst)).low), .int .i64 ((gt r2 ((gt u.network.links t22).dst)).high)]) rfl tA56 rfl (cellsH (q7.elemF q468 (by decide)))) (.nil))))))))))) (.cons [] rfl rfl (fun sL hL => ?_) (.nil))
      refine al tZ56 rfl (fun px => ?_)
      refine .nil ?_
      refine .ja (M := []) (C' := [0, 1, 2, 3, 4, 5, 6, 7, 8, 9]) (pre := [(10, .pointer (some px))]) [(2, .pointer (some pv)), (4, .slice a r2.length c), (5, .pointer (some pn)), (7, .pointer (some pl)), (20, .slice au u.network.links.length cu), (21, .int .i64 ((u.network.links.length : Nat) : Int)), (22, .int .i64 t22)] [2, 4, 5, 7, 20, 21, 22] hL rfl rfl rfl rfl rfl (.cons rfl (.cons rfl (.cons rfl (.cons rfl (.cons rfl (.cons rfl (.cons rfl (.nil)))))))) rfl rfl (by kernel_rfl) ?_
      refine .step [12] 12 rfl (by kernel_rfl) (by kernel_rfl) (.v [] rfl rfl rfl rfl rfl rfl (fun _ => mv rfl) (.v [] rfl rfl rfl rfl rfl rfl (fun _ => fa rfl tF48_0) (.v [(27, .pointer (some (pl.add 0)))] rfl rfl rfl rfl rfl rfl (fun _ => ld1 rfl tO3 (cellB (off := 0) (k := 2) rfl rfl)) (.v [(26, .slice a r2.length c), (28, .int .i64 ((gt u.network.links t22).src))] rfl rfl rfl rfl rfl rfl (fun _ => ix rfl rfl tS53 (q7.ne (by decide) (inb_pos q467)) q467) (.v [(29, .pointer (some (ead a (((gt u.network.links t22).src).toNat * 3))))] rfl rfl rfl rfl rfl rfl (fun _ => ldA (cs := [.int .i64 ((gt r2 ((gt u.network.links t22).src)).base), .int .i64 ((gt r2 ((gt u.network.links t22).src)).low), .int .i64 ((gt r2 ((gt u.network.links t22).src)).high)]) rfl tA56 rfl (cellsH (q7.elemF q467 (by decide)))) (.v [] rfl rfl rfl rfl rfl rfl (fun _ => mv rfl) (.v [] rfl rfl rfl rfl rfl rfl (fun _ => fa rfl tF48_1) (.v [(32, .pointer (some (pl.add 1)))] rfl rfl rfl rfl rfl rfl (fun _ => ld1 rfl tO3 (cellB (off := 1) (k := 2) rfl rfl)) (.v [(31, .slice a r2.length c), (33, .int .i64 ((gt u.network.links t22).dst))] rfl rfl rfl rfl rfl rfl (fun _ => ix rfl rfl tS53 (q7.ne (by decide) (inb_pos q468)) q468) (.v [(34, .pointer (some (ead a (((gt u.network.links t22).dst).toNat * 3))))] rfl rfl rfl rfl rfl rfl (fun _ => ldA (cs := [.int .i64 ((gt r2 ((gt u.network.links t22).dst)).base), .int .i64 ((gt r2 ((gt u.network.links t22).dst)).low), .int .i64 ((gt r2 ((gt u.network.links t22).dst)).high)]) rfl tA56 rfl (cellsH (q7.elemF q468 (by decide)))) (.nil))))))))))) (.cons [(8, .pointer (some px)), (30, .agg #[.int .i64 ((gt r2 ((gt u.network.links t22).src)).base), .int .i64 ((gt r2 ((gt u.network.links t22).src)).low), .int .i64 ((gt r2 ((gt u.network.links t22).src)).high)]), (26, .slice a r2.length c), (27, .pointer (some (pl.add 0))), (28, .int .i64 ((gt u.network.links t22).src)), (29, .pointer (some (ead a (((gt u.network.links t22).src).toNat * 3)))), (30, .agg #[.int .i64 ((gt r2 ((gt u.network.links t22).src)).base), .int .i64 ((gt r2 ((gt u.network.links t22).src)).low), .int .i64 ((gt r2 ((gt u.network.links t22).src)).high)]), (8, .pointer (some px)), (9, .pointer (some py))] rfl rfl (fun sL hL => ?_) (.nil))
      refine st (p := px) (off := 0) (k := 0) (vs := [.int .i64 ((gt r2 ((gt u.network.links t22).src)).base), .int .i64 ((gt r2 ((gt u.network.links t22).src)).low), .int .i64 ((gt r2 ((gt u.network.links t22).src)).high)]) rfl rfl rfl (fun w => (tA56 w).2) rfl rfl rfl rfl ?_
      refine .cast (A' := [Box px [.int .i64 ((gt r2 ((gt u.network.links t22).src)).base), .int .i64 ((gt r2 ((gt u.network.links t22).src)).low), .int .i64 ((gt r2 ((gt u.network.links t22).src)).high)], Box py [.int .i64 0, .int .i64 0, .int .i64 0], Box pl [.int .i64 ((gt u.network.links t22).src), .int .i64 ((gt u.network.links t22).dst), .int .i64 ((gt u.network.links t22).low), .int .i64 ((gt u.network.links t22).high)], Box pv [.int .i64 0, .slice none 0 0], Box pn [.int .i64 u.network.events, .slice al2 l.length cl2], OwnSl 48 4 al2 l.length cl2 (flL l)]) rfl ?_
      refine .nil ?_
      refine .jaN (M := [4, 0, 1, 2, 3]) (C' := [5, 6, 7, 8, 9]) (pre := []) [2, 4, 5, 7, 20, 21, 22] hL rfl rfl rfl rfl rfl (by kernel_rfl) ?_
      refine .step [13] 13 rfl (by kernel_rfl) (by kernel_rfl) (.v [] rfl rfl rfl rfl rfl rfl (fun _ => mv rfl) (.v [] rfl rfl rfl rfl rfl rfl (fun _ => fa rfl tF48_1) (.v [(32, .pointer (some (pl.add 1)))] rfl rfl rfl rfl rfl rfl (fun _ => ld1 rfl tO3 (cellB (off := 1) (k := 2) rfl rfl)) (.v [(31, .slice a r2.length c), (33, .int .i64 ((gt u.network.links t22).dst))] rfl rfl rfl rfl rfl rfl (fun _ => ix rfl rfl tS53 (q7.ne (by decide) (inb_pos q468)) q468) (.v [(34, .pointer (some (ead a (((gt u.network.links t22).dst).toNat * 3))))] rfl rfl rfl rfl rfl rfl (fun _ => ldA (cs := [.int .i64 ((gt r2 ((gt u.network.links t22).dst)).base), .int .i64 ((gt r2 ((gt u.network.links t22).dst)).low), .int .i64 ((gt r2 ((gt u.network.links t22).dst)).high)]) rfl tA56 rfl (cellsH (q7.elemF q468 (by decide)))) (.nil)))))) (.cons [(9, .pointer (some py)), (35, .agg #[.int .i64 ((gt r2 ((gt u.network.links t22).dst)).base), .int .i64 ((gt r2 ((gt u.network.links t22).dst)).low), .int .i64 ((gt r2 ((gt u.network.links t22).dst)).high)]), (26, .slice a r2.length c), (27, .pointer (some (pl.add 0))), (28, .int .i64 ((gt u.network.links t22).src)), (29, .pointer (some (ead a (((gt u.network.links t22).src).toNat * 3)))), (30, .agg #[.int .i64 ((gt r2 ((gt u.network.links t22).src)).base), .int .i64 ((gt r2 ((gt u.network.links t22).src)).low), .int .i64 ((gt r2 ((gt u.network.links t22).src)).high)]), (31, .slice a r2.length c), (32, .pointer (some (pl.add 1))), (33, .int .i64 ((gt u.network.links t22).dst)), (34, .pointer (some (ead a (((gt u.network.links t22).dst).toNat * 3)))), (35, .agg #[.int .i64 ((gt r2 ((gt u.network.links t22).dst)).base), .int .i64 ((gt r2 ((gt u.network.links t22).dst)).low), .int .i64 ((gt r2 ((gt u.network.links t22).dst)).high)]), (8, .pointer (some px)), (9, .pointer (some py))] rfl rfl (fun sL hL => ?_) (.nil))
      refine st (p := py) (off := 0) (k := 1) (vs := [.int .i64 ((gt r2 ((gt u.network.links t22).dst)).base), .int .i64 ((gt r2 ((gt u.network.links t22).dst)).low), .int .i64 ((gt r2 ((gt u.network.links t22).dst)).high)]) rfl rfl rfl (fun w => (tA56 w).2) rfl rfl rfl rfl ?_
      refine .cast (A' := [Box px [.int .i64 ((gt r2 ((gt u.network.links t22).src)).base), .int .i64 ((gt r2 ((gt u.network.links t22).src)).low), .int .i64 ((gt r2 ((gt u.network.links t22).src)).high)], Box py [.int .i64 ((gt r2 ((gt u.network.links t22).dst)).base), .int .i64 ((gt r2 ((gt u.network.links t22).dst)).low), .int .i64 ((gt r2 ((gt u.network.links t22).dst)).high)], Box pl [.int .i64 ((gt u.network.links t22).src), .int .i64 ((gt u.network.links t22).dst), .int .i64 ((gt u.network.links t22).low), .int .i64 ((gt u.network.links t22).high)], Box pv [.int .i64 0, .slice none 0 0], Box pn [.int .i64 u.network.events, .slice al2 l.length cl2], OwnSl 48 4 al2 l.length cl2 (flL l)]) rfl ?_
      refine .nil ?_
      refine .jaN (M := [9, 5, 6, 7, 8]) (C' := []) (pre := []) [2, 4, 5, 7, 20, 21, 22] hL rfl rfl rfl rfl rfl (by kernel_rfl) ?_
      refine .last [(26, .slice a r2.length c), (27, .pointer (some (pl.add 0))), (28, .int .i64 ((gt u.network.links t22).src)), (29, .pointer (some (ead a (((gt u.network.links t22).src).toNat * 3)))), (30, .agg #[.int .i64 ((gt r2 ((gt u.network.links t22).src)).base), .int .i64 ((gt r2 ((gt u.network.links t22).src)).low), .int .i64 ((gt r2 ((gt u.network.links t22).src)).high)]), (31, .slice a r2.length c), (32, .pointer (some (pl.add 1))), (33, .int .i64 ((gt u.network.links t22).dst)), (34, .pointer (some (ead a (((gt u.network.links t22).dst).toNat * 3)))), (35, .agg #[.int .i64 ((gt r2 ((gt u.network.links t22).dst)).base), .int .i64 ((gt r2 ((gt u.network.links t22).dst)).low), .int .i64 ((gt r2 ((gt u.network.links t22).dst)).high)]), (8, .pointer (some px)), (9, .pointer (some py))] rfl (by kernel_rfl) (.nil) rfl ?_
      refine .sel0 [3, 4, 2, 0, 1, 5] (by decide) rfl ?_
      exact .use q432 (px, py) hF (.cons rfl (.cons rfl (.cons rfl (.cons rfl (.cons rfl (.cons rfl (.cons rfl (.cons rfl (.cons rfl (.nil)))))))))) rfl (FH.le_refl _)
  replace hF := hF.2 q387
  refine .exit ?_
  refine .seqX ?_
  refine .seqX ?_
  refine .blkX ?_
  refine .seqN ?_
  refine .seq ?_
  refine .region ?_
  refine .v (ldA (cs := [.int .i64 u.network.events, .slice al2 l.length cl2]) rfl tA24 rfl (cellsB (off := 0) (k := 1) rfl (m := 2) rfl)) rfl rfl rfl ?_
  refine st (p := pv) (off := 0) (k := 0) (vs := [.int .i64 u.network.events, .slice al2 l.length cl2]) rfl rfl rfl (fun w => (tA24 w).2) rfl rfl rfl rfl ?_
  refine .cast (A' := [Box pv [.int .i64 u.network.events, .slice al2 l.length cl2], Box pn [.int .i64 u.network.events, .slice al2 l.length cl2], OwnSl 48 4 al2 l.length cl2 (flL l)]) rfl ?_
  refine .v (asg rfl) rfl rfl rfl ?_
  refine .nil ?_
  refine .seqN ?_
  refine .freezeL (k := 2) rfl (fun h50 le50 q470 q469 => ?_)
  refine .cast (A' := [Box pv [.int .i64 u.network.events, .slice al2 l.length cl2], Box pn [.int .i64 u.network.events, .slice al2 l.length cl2], tru]) rfl ?_
  refine .ret ?_
  refine .res2 rfl (rvC rfl tA24 (k := 0) rfl rfl) (rvT rfl) (fun w' S => ⟨((⟨u.network.events, l⟩ : Network), true), (al2, cl2), h50, hF, rfl, (FH.le_trans (le1) (le50)), ⟨(RSl.of q469), (q470)⟩, S.none⟩)

theorem c_strong_ {h : FH} {w : World} (hs : Sub h w) (u : Uncertain) (au : Option Addr) (cu : Nat) (_q1 : RSl h au u.network.links) (_q2 : u.network.links.length ≤ cu) (au2 : Option Addr) (cu2 : Nat) (_q3 : RSl h au2 u.contingent) (_q4 : u.contingent.length ≤ cu2) (hp : pre_strong_ u) : Calls Try.prog 22 #[.agg #[.int .i64 u.network.events, .slice au u.network.links.length cu, .slice au2 u.contingent.length cu2]] w fun e w' => ∃ (z : Option Addr × Nat) (h1 : FH), e = .returned (.tuple #[.agg #[.int .i64 (sp_strong_ u).1.events, .slice z.1 (sp_strong_ u).1.links.length z.2], .bool (sp_strong_ u).2]) ∧ FH.le h h1 ∧ (RSl h1 z.1 (sp_strong_ u).1.links ∧ (sp_strong_ u).1.links.length ≤ z.2) ∧ SH (Kp.all w h) h1 w' [] :=
  (w_strong_ hs u au cu _q1 _q2 au2 cu2 _q3 _q4 (fun r => r = sp_strong_ u) (ok_strong_ u hp)).mono fun _ _ ⟨r, z, h1, hk, he, hl, hf, hS⟩ => by subst hk; exact ⟨z, h1, he, hl, hf, hS⟩

set_option maxHeartbeats 8000000 in
theorem w_strong {h : FH} {w : World} (hs : Sub h w) (u : Uncertain) (au : Option Addr) (cu : Nat) (_q1 : RSl h au u.network.links) (_q2 : u.network.links.length ≤ cu) (au2 : Option Addr) (cu2 : Nat) (_q3 : RSl h au2 u.contingent) (_q4 : u.contingent.length ≤ cu2) (K : (List Int × Bool × Fault) → Prop) (hF : F_strong u K) : Calls Try.prog 10 #[.agg #[.int .i64 u.network.events, .slice au u.network.links.length cu, .slice au2 u.contingent.length cu2]] w fun e w' => ∃ (r : List Int × Bool × Fault) (z : Option Addr × Nat) (h1 : FH), K r ∧ e = .returned (.tuple #[.slice z.1 r.1.length z.2, .bool r.2.1, .agg #[.int .i64 r.2.2.code, .int .i64 r.2.2.index]]) ∧ FH.le h h1 ∧ True ∧ SH (Kp.all w h) h1 w' [OwnSl 3 1 z.1 r.1.length z.2 (flL r.1)] := by
  refine enter (args := [.agg #[.int .i64 u.network.events, .slice au u.network.links.length cu, .slice au2 u.contingent.length cu2]]) Try.func10 rfl Try.ntmps10 rfl hs ?_
  refine .seq ?_
  refine .region ?_
  refine bx (vs := [.int .i64 u.network.events, .slice au u.network.links.length cu, .slice au2 u.contingent.length cu2]) rfl rfl rfl (fun pu => ?_)
  refine .v (asg rfl) rfl rfl rfl ?_
  refine .v (asg rfl) rfl rfl rfl ?_
  refine al tZ28 rfl (fun pv => ?_)
  refine .nil ?_
  refine .seqN ?_
  refine .seq ?_
  refine .seq ?_
  refine .region ?_
  refine .v (ldA (cs := [.int .i64 u.network.events, .slice au u.network.links.length cu, .slice au2 u.contingent.length cu2]) rfl tA26 rfl (cellsB (off := 0) (k := 1) rfl (m := 3) rfl)) rfl rfl rfl ?_
  obtain ⟨r2, q5⟩ : ∃ y_ : Fault, y_ = sp_uvalidate u := ⟨_, rfl⟩
  replace hF := hF r2 q5
  refine .c (cl (v := .agg #[.int .i64 r2.code, .int .i64 r2.index]) Try.call11 rfl rfl (fun w S => (by rw [q5]; exact c_uvalidate S.sub u au cu _q1 _q2 au2 cu2 _q3 _q4 ))) rfl rfl rfl ?_
  refine al tZ28 rfl (fun pf => ?_)
  refine st (p := pf) (off := 0) (k := 0) (vs := [.int .i64 r2.code, .int .i64 r2.index]) rfl rfl rfl (fun w => (tA28 w).2) rfl rfl rfl rfl ?_
  refine .cast (A' := [Box pf [.int .i64 r2.code, .int .i64 r2.index], Box pv [.int .i64 0, .int .i64 0], Box pu [.int .i64 u.network.events, .slice au u.network.links.length cu, .slice au2 u.contingent.length cu2]]) rfl ?_
  refine .nil ?_
  refine .seqN ?_
  refine .seq ?_
  refine .region ?_
  refine .v (ldA (cs := [.int .i64 r2.code, .int .i64 r2.index]) rfl tA28 rfl (cellsB (off := 0) (k := 0) rfl (m := 2) rfl)) rfl rfl rfl ?_
  refine .v (bld (cs := #[.int .i64 0, .int .i64 0]) (pv := []) tB28 rfl rfl) rfl rfl rfl ?_
  refine .v (ne2 tE28 rfl rfl) rfl rfl rfl ?_
  refine .nil ?_
  refine .seqN ?_
  refine .cond rfl (fun q7 => ?_) (fun q7 => ?_)
  · replace hF := hF.1 q7
    refine .seq ?_
    refine .openL (by kernel_rfl) rfl (by kernel_rfl) (by kernel_rfl) ?_
    refine .v (ldA (cs := [.int .i64 r2.code, .int .i64 r2.index]) rfl tA28 rfl (cellsB (off := 0) (k := 0) rfl (m := 2) rfl)) rfl rfl rfl ?_
    refine .v (asg rfl) rfl rfl rfl ?_
    refine .v (asg rfl) rfl rfl rfl ?_
    refine .tail ?_
    refine st (p := pv) (off := 0) (k := 1) (vs := [.int .i64 r2.code, .int .i64 r2.index]) rfl rfl rfl (fun w => (tA28 w).2) rfl rfl rfl rfl ?_
    refine .cast (A' := [Box pf [.int .i64 r2.code, .int .i64 r2.index], Box pv [.int .i64 r2.code, .int .i64 r2.index], Box pu [.int .i64 u.network.events, .slice au u.network.links.length cu, .slice au2 u.contingent.length cu2]]) rfl ?_
    refine .nil ?_
    refine .seqN ?_
    refine .nilSl 3 1 ?_
    refine .cast (A' := [OwnSl 3 1 none (([] : List Int).length) 0 (flL ([] : List Int)), Box pf [.int .i64 r2.code, .int .i64 r2.index], Box pv [.int .i64 r2.code, .int .i64 r2.index], Box pu [.int .i64 u.network.events, .slice au u.network.links.length cu, .slice au2 u.contingent.length cu2]]) rfl ?_
    refine .ret ?_
    refine .seqR ?_
    refine .res3 rfl (rvT rfl) (rvT rfl) (rvC rfl tA28 (k := 2) rfl rfl) (fun w' S => ⟨(([] : List Int), false, r2), (none, 0), h, hF, rfl, (FH.le_refl _), trivial, S.pick (k := 0) rfl⟩)
  replace hF := hF.2 q7
  refine .skip ?_
  refine .seqN ?_
  refine .seq ?_
  refine .region ?_
  refine .v (ldA (cs := [.int .i64 u.network.events, .slice au u.network.links.length cu, .slice au2 u.contingent.length cu2]) rfl tA26 rfl (cellsB (off := 0) (k := 2) rfl (m := 3) rfl)) rfl rfl rfl ?_
  obtain ⟨q8, hF⟩ := hF
  obtain ⟨r3, q9⟩ : ∃ y_ : Network × Bool, y_ = sp_strong_ u := ⟨_, rfl⟩
  replace hF := hF r3 q9
  refine clR (α := Option Addr × Nat) (Φ := fun h1 z => RSl h1 z.1 r3.1.links ∧ r3.1.links.length ≤ z.2) (V := fun z => .tuple #[.agg #[.int .i64 r3.1.events, .slice z.1 r3.1.links.length z.2], .bool r3.2]) Try.call22 rfl rfl (fun w S => (by rw [q9]; exact c_strong_ S.sub u au cu _q1 _q2 au2 cu2 _q3 _q4 q8)) rfl (fun z h1 le1 hz => ?_)
  obtain ⟨a, c⟩ := z
  obtain ⟨q10, q11⟩ := hz
  refine .v (mv rfl) rfl rfl rfl ?_
  refine .v (ext rfl rfl) rfl rfl rfl ?_
  refine .v (ext rfl rfl) rfl rfl rfl ?_
  refine al tZ24 rfl (fun pn => ?_)
  refine st (p := pn) (off := 0) (k := 0) (vs := [.int .i64 r3.1.events, .slice a r3.1.links.length c]) rfl rfl rfl (fun w => (tA24 w).2) rfl rfl rfl rfl ?_
  refine .cast (A' := [Box pn [.int .i64 r3.1.events, .slice a r3.1.links.length c], Box pf [.int .i64 r2.code, .int .i64 r2.index], Box pv [.int .i64 0, .int .i64 0], Box pu [.int .i64 u.network.events, .slice au u.network.links.length cu, .slice au2 u.contingent.length cu2]]) rfl ?_
  refine .v (asg rfl) rfl rfl rfl ?_
  refine .nil ?_
  refine .seqN ?_
  refine .seq ?_
  refine .seq ?_
  refine .region ?_
  refine .v (mv rfl) rfl rfl rfl ?_
  refine .v (nt rfl) rfl rfl rfl ?_
  refine .nil ?_
  refine .seqN ?_
  refine .cond rfl (fun q13 => ?_) (fun q13 => ?_)
  · replace hF := hF.1 q13
    refine .seq ?_
    refine .region ?_
    refine .v (bld (cs := #[.int .i64 0, .int .i64 0]) (pv := []) tB28 rfl rfl) rfl rfl rfl ?_
    refine .v (asg rfl) rfl rfl rfl ?_
    refine .v (asg rfl) rfl rfl rfl ?_
    refine st (p := pv) (off := 0) (k := 2) (vs := [.int .i64 0, .int .i64 0]) rfl rfl rfl (fun w => (tA28 w).2) rfl rfl rfl rfl ?_
    refine .cast (A' := [Box pn [.int .i64 r3.1.events, .slice a r3.1.links.length c], Box pf [.int .i64 r2.code, .int .i64 r2.index], Box pv [.int .i64 0, .int .i64 0], Box pu [.int .i64 u.network.events, .slice au u.network.links.length cu, .slice au2 u.contingent.length cu2]]) rfl ?_
    refine .nil ?_
    refine .seqN ?_
    refine .nilSl 3 1 ?_
    refine .cast (A' := [OwnSl 3 1 none (([] : List Int).length) 0 (flL ([] : List Int)), Box pn [.int .i64 r3.1.events, .slice a r3.1.links.length c], Box pf [.int .i64 r2.code, .int .i64 r2.index], Box pv [.int .i64 0, .int .i64 0], Box pu [.int .i64 u.network.events, .slice au u.network.links.length cu, .slice au2 u.contingent.length cu2]]) rfl ?_
    refine .ret ?_
    refine .seqR ?_
    refine .res3 rfl (rvT rfl) (rvT rfl) (rvC rfl tA28 (k := 3) rfl rfl) (fun w' S => ⟨(([] : List Int), false, (⟨0, 0⟩ : Fault)), (none, 0), h1, hF, rfl, (le1), trivial, S.pick (k := 0) rfl⟩)
  replace hF := hF.2 q13
  refine .skip ?_
  refine .seqN ?_
  refine .seq ?_
  refine .region ?_
  refine .v (ldA (cs := [.int .i64 r3.1.events, .slice a r3.1.links.length c]) rfl tA24 rfl (cellsB (off := 0) (k := 0) rfl (m := 2) rfl)) rfl rfl rfl ?_
  obtain ⟨q14, hF⟩ := hF
  obtain ⟨r4, q15⟩ : ∃ y_ : List (List Int) × Bool, y_ = sp_tighten r3.1 := ⟨_, rfl⟩
  replace hF := hF r4 q15
  refine clR (α := Option Addr × Nat) (Φ := fun h1 z => RSl h1 z.1 r4.1 ∧ r4.1.length ≤ z.2) (V := fun z => .tuple #[.slice z.1 r4.1.length z.2, .bool r4.2]) Try.call13 rfl rfl (fun w S => (by rw [q15]; exact c_tighten S.sub r3.1 a c q10 q11 q14)) rfl (fun z h2 le2 hz => ?_)
  obtain ⟨a2, c2⟩ := z
  obtain ⟨q16, q17⟩ := hz
  refine .v (mv rfl) rfl rfl rfl ?_
  refine .v (ext rfl rfl) rfl rfl rfl ?_
  refine .v (ext rfl rfl) rfl rfl rfl ?_
  refine .v (asg rfl) rfl rfl rfl ?_
  refine .v (asg rfl) rfl rfl rfl ?_
  refine .nil ?_
  refine .seqN ?_
  refine .seq ?_
  refine .seq ?_
  refine .region ?_
  refine .v (mv rfl) rfl rfl rfl ?_
  refine .v (nt rfl) rfl rfl rfl ?_
  refine .nil ?_
  refine .seqN ?_
  refine .cond rfl (fun q19 => ?_) (fun q19 => ?_)
  · replace hF := hF.1 q19
    refine .seq ?_
    refine .region ?_
    refine .v (bld (cs := #[.int .i64 0, .int .i64 0]) (pv := []) tB28 rfl rfl) rfl rfl rfl ?_
    refine .v (asg rfl) rfl rfl rfl ?_
    refine .v (asg rfl) rfl rfl rfl ?_
    refine st (p := pv) (off := 0) (k := 2) (vs := [.int .i64 0, .int .i64 0]) rfl rfl rfl (fun w => (tA28 w).2) rfl rfl rfl rfl ?_
    refine .cast (A' := [Box pn [.int .i64 r3.1.events, .slice a r3.1.links.length c], Box pf [.int .i64 r2.code, .int .i64 r2.index], Box pv [.int .i64 0, .int .i64 0], Box pu [.int .i64 u.network.events, .slice au u.network.links.length cu, .slice au2 u.contingent.length cu2]]) rfl ?_
    refine .nil ?_
    refine .seqN ?_
    refine .nilSl 3 1 ?_
    refine .cast (A' := [OwnSl 3 1 none (([] : List Int).length) 0 (flL ([] : List Int)), Box pn [.int .i64 r3.1.events, .slice a r3.1.links.length c], Box pf [.int .i64 r2.code, .int .i64 r2.index], Box pv [.int .i64 0, .int .i64 0], Box pu [.int .i64 u.network.events, .slice au u.network.links.length cu, .slice au2 u.contingent.length cu2]]) rfl ?_
    refine .ret ?_
    refine .seqR ?_
    refine .res3 rfl (rvT rfl) (rvT rfl) (rvC rfl tA28 (k := 3) rfl rfl) (fun w' S => ⟨(([] : List Int), false, (⟨0, 0⟩ : Fault)), (none, 0), h2, hF, rfl, (FH.le_trans (le1) (le2)), trivial, S.pick (k := 0) rfl⟩)
  replace hF := hF.2 q19
  refine .skip ?_
  refine .seqN ?_
  refine .seq ?_
  refine .region ?_
  refine .v (asg rfl) rfl rfl rfl ?_
  refine .nil ?_
  refine .seqN ?_
  refine .seq ?_
  refine .seq ?_
  refine .region ?_
  refine .v (ldA (cs := [.int .i64 u.network.events, .slice au u.network.links.length cu, .slice au2 u.contingent.length cu2]) rfl tA26 rfl (cellsB (off := 0) (k := 3) rfl (m := 3) rfl)) rfl rfl rfl ?_
  obtain ⟨q20, hF⟩ := hF
  obtain ⟨r5, q21⟩ : ∃ y_ : List Place, y_ = sp_places u := ⟨_, rfl⟩
  replace hF := hF r5 q21
  refine clR (α := Option Addr × Nat) (Φ := fun h1 z => RSl h1 z.1 r5 ∧ r5.length ≤ z.2) (V := fun z => .slice z.1 r5.length z.2) Try.call23 rfl rfl (fun w S => (by rw [q21]; exact c_places S.sub u au cu (_q1.mono (FH.le_trans (le1) (le2))) _q2 au2 cu2 (_q3.mono (FH.le_trans (le1) (le2))) _q4 q20)) rfl (fun z h3 le3 hz => ?_)
  obtain ⟨a3, c3⟩ := z
  obtain ⟨q22, q23⟩ := hz
  refine .v (ln rfl tS53.is) rfl rfl rfl ?_
  refine .v (mv rfl) rfl rfl rfl ?_
  refine .nil ?_
  refine .seqN ?_
  refine .block ?_
  refine .nilSl 3 1 ?_
  refine .cast (A' := [OwnSl 3 1 none (([] : List Int).length) 0 (flL ([] : List Int)), Box pn [.int .i64 r3.1.events, .slice a r3.1.links.length c], Box pf [.int .i64 r2.code, .int .i64 r2.index], Box pv [.int .i64 0, .int .i64 0], Box pu [.int .i64 u.network.events, .slice au u.network.links.length cu, .slice au2 u.contingent.length cu2]]) rfl ?_
  refine .sel0 [3, 0] (by decide) rfl ?_
  obtain ⟨I1, μ1, q176, q177⟩ := hF
  refine .loop' (σ := Int × List Int × Option Addr × Nat) (fun z => I1 z.1 z.2.1) (fun z => μ1 z.1 z.2.1) (fun z => [(4, .pointer (some pv)), (8, .slice a2 r4.1.length c2), (9, .slice z.2.2.1 z.2.1.length z.2.2.2), (35, .slice a3 r5.length c3), (36, .int .i64 ((r5.length : Nat) : Int)), (37, .int .i64 z.1)]) (fun z => [Box pv [.int .i64 0, .int .i64 0], OwnSl 3 1 z.2.2.1 z.2.1.length z.2.2.2 (flL z.2.1)]) (fun _ => h3) (0, ([] : List Int), none, 0) q176 (.cons rfl (.cons rfl (.cons rfl (.cons rfl (.cons rfl (.cons rfl (.nil))))))) rfl (FH.le_refl _) ?_
  rintro ⟨t37, out, aout, cout⟩ q176
  have hF := q177 t37 out q176
  show J _ _ _ _ _ [(4, .pointer (some pv)), (8, .slice a2 r4.1.length c2), (9, .slice aout out.length cout), (35, .slice a3 r5.length c3), (36, .int .i64 ((r5.length : Nat) : Int)), (37, .int .i64 t37)] [Box pv [.int .i64 0, .int .i64 0], OwnSl 3 1 aout out.length cout (flL out)] h3
  refine .seq ?_
  refine .region ?_
  refine .v (bi rfl rfl rfl) rfl rfl rfl ?_
  refine .nil ?_
  refine .seqN ?_
  refine .seq ?_
  refine .cond rfl (fun q180 => ?_) (fun q180 => ?_)
  · replace hF := hF.1 q180
    refine .skip ?_
    refine .seqN ?_
    refine .share (σ := List Int × Option Addr × Nat) (fun z => F_strong_J1 out t37 I1 μ1 z.1) (fun z => [(4, .pointer (some pv)), (8, .slice a2 r4.1.length c2), (9, .slice z.2.1 z.1.length z.2.2), (35, .slice a3 r5.length c3), (36, .int .i64 ((r5.length : Nat) : Int)), (37, .int .i64 t37)]) (fun z => [Box pv [.int .i64 0, .int .i64 0], OwnSl 3 1 z.2.1 z.1.length z.2.2 (flL z.1)]) (fun _ => h3) ?_ (fun q194 => ?_)
    · rintro ⟨out3, aout3, cout3⟩ hF
      show J _ _ _ _ _ [(4, .pointer (some pv)), (8, .slice a2 r4.1.length c2), (9, .slice aout3 out3.length cout3), (35, .slice a3 r5.length c3), (36, .int .i64 ((r5.length : Nat) : Int)), (37, .int .i64 t37)] [Box pv [.int .i64 0, .int .i64 0], OwnSl 3 1 aout3 out3.length cout3 (flL out3)] h3
      refine .region ?_
      refine .v (bi rfl rfl rfl) rfl rfl rfl ?_
      refine .v (mv rfl) rfl rfl rfl ?_
      refine .nil ?_
      exact .round (IntKind.i64.wrap (t37 + 1), out3, aout3, cout3) hF.1 hF.2 (.cons rfl (.cons rfl (.cons rfl (.cons rfl (.cons rfl (.cons rfl (.nil))))))) rfl (FH.le_refl _)
    refine .block ?_
    refine .seq ?_
    refine .region ?_
    refine .v (mv rfl) rfl rfl rfl ?_
    obtain ⟨q195, hF⟩ := hF
    refine .v (ix rfl rfl tS53 (q22.ne (by decide) (inb_pos q195)) q195) rfl rfl rfl ?_
    refine .v (ldA (cs := [.int .i64 ((gt r5 t37).base), .int .i64 ((gt r5 t37).low), .int .i64 ((gt r5 t37).high)]) rfl tA56 rfl (cellsH (q22.elemF q195 (by decide)))) rfl rfl rfl ?_
    refine al tZ56 rfl (fun px => ?_)
    refine .v (asg rfl) rfl rfl rfl ?_
    refine st (p := px) (off := 0) (k := 0) (vs := [.int .i64 ((gt r5 t37).base), .int .i64 ((gt r5 t37).low), .int .i64 ((gt r5 t37).high)]) rfl rfl rfl (fun w => (tA56 w).2) rfl rfl rfl rfl ?_
    refine .cast (A' := [Box px [.int .i64 ((gt r5 t37).base), .int .i64 ((gt r5 t37).low), .int .i64 ((gt r5 t37).high)], Box pv [.int .i64 0, .int .i64 0], OwnSl 3 1 aout out.length cout (flL out)]) rfl ?_
    refine .nil ?_
    refine .seqN ?_
    refine .seq ?_
    refine .region ?_
    refine .v (fa rfl tF56_0) rfl rfl rfl ?_
    refine .v (ld1 rfl tO3 (cellB (off := 0) (k := 0) rfl rfl)) rfl rfl rfl ?_
    refine .v (mv rfl) rfl rfl rfl ?_
    refine .v (bi rfl rfl rfl) rfl rfl rfl ?_
    refine .nil ?_
    refine .seqN ?_
    refine .cond rfl (fun q196 => ?_) (fun q196 => ?_)
    · replace hF := hF.1 q196
      refine .region ?_
      refine .v (mv rfl) rfl rfl rfl ?_
      refine .v (mv rfl) rfl rfl rfl ?_
      refine .v (mv rfl) rfl rfl rfl ?_
      obtain ⟨q197, hF⟩ := hF
      refine .v (ix rfl rfl tS40 (q16.ne (by decide) (inb_pos q197)) q197) rfl rfl rfl ?_
      obtain ⟨_, ⟨a4, c4, rfl, q198, q199⟩, q200⟩ := q16.elem q197
      refine .v (ld1 (v := .slice a4 ((gt r4.1 t37).length) c4) rfl tO35 (cellH ((fun q => (q200 q).mono (le3)) (by decide) 0 _ rfl))) rfl rfl rfl ?_
      obtain ⟨q201, hF⟩ := hF
      refine .v (ix rfl rfl tS35 (q199.ne (by decide) (inb_pos q201)) q201) rfl rfl rfl ?_
      refine .v (ld1 (v := .int .i64 (gt (gt r4.1 t37) (0 : Int))) rfl tO3 (cellH ((q199.mono (le3)).elemF q201 (by decide) 0 _ rfl))) rfl rfl rfl ?_
      refine .v (un rfl) rfl rfl rfl ?_
      refine bs2 (cs := #[.int .i64 (IntKind.i64.wrap (0 - (gt (gt r4.1 t37) (0 : Int))))]) (pv := [(0, .int .i64 (IntKind.i64.wrap (0 - (gt (gt r4.1 t37) (0 : Int)))))]) tS35 rfl rfl (by decide) (by decide) rfl rfl rfl (fun a5 _ => ?_)
      refine .cast (A' := [OwnSl 3 1 a5 (([IntKind.i64.wrap (0 - (gt (gt r4.1 t37) (0 : Int)))] : List Int).length) 1 (flL ([IntKind.i64.wrap (0 - (gt (gt r4.1 t37) (0 : Int)))] : List Int)), Box px [.int .i64 ((gt r5 t37).base), .int .i64 ((gt r5 t37).low), .int .i64 ((gt r5 t37).high)], Box pv [.int .i64 0, .int .i64 0], OwnSl 3 1 aout out.length cout (flL out)]) rfl ?_
      obtain ⟨q203, hF⟩ := hF
      have q204 : out.length + ([IntKind.i64.wrap (0 - (gt (gt r4.1 t37) (0 : Int)))] : List Int).length = ((out ++ ([IntKind.i64.wrap (0 - (gt (gt r4.1 t37) (0 : Int)))] : List Int))).length := len_app rfl rfl
      refine app (k := 3) (news := flL ([IntKind.i64.wrap (0 - (gt (gt r4.1 t37) (0 : Int)))] : List Int)) (cs' := flL (out ++ ([IntKind.i64.wrap (0 - (gt (gt r4.1 t37) (0 : Int)))] : List Int))) (nm := ((out ++ ([IntKind.i64.wrap (0 - (gt (gt r4.1 t37) (0 : Int)))] : List Int))).length) tS35 rfl (by decide) rfl rfl rfl (by rw [flL_len]; rfl) (srcS (k := 0) rfl) (flL_one _) (room_of q204 q203).1 (room_of q204 q203).2 q204 (flL_append _ _).symm rfl (fun a6 c5 => ?_)
      refine .cast (A' := [OwnSl 3 1 a5 (([IntKind.i64.wrap (0 - (gt (gt r4.1 t37) (0 : Int)))] : List Int).length) 1 (flL ([IntKind.i64.wrap (0 - (gt (gt r4.1 t37) (0 : Int)))] : List Int)), Box px [.int .i64 ((gt r5 t37).base), .int .i64 ((gt r5 t37).low), .int .i64 ((gt r5 t37).high)], Box pv [.int .i64 0, .int .i64 0], OwnSl 3 1 a6 ((out ++ ([IntKind.i64.wrap (0 - (gt (gt r4.1 t37) (0 : Int)))] : List Int)).length) c5 (flL (out ++ ([IntKind.i64.wrap (0 - (gt (gt r4.1 t37) (0 : Int)))] : List Int)))]) rfl ?_
      refine .v (asg rfl) rfl rfl rfl ?_
      refine .nil ?_
      refine .blkN ?_
      refine .sel0 [2, 3] (by decide) rfl ?_
      exact .use q194 ((out ++ ([IntKind.i64.wrap (0 - (gt (gt r4.1 t37) (0 : Int)))] : List Int)), a6, c5) hF (.cons rfl (.cons rfl (.cons rfl (.cons rfl (.cons rfl (.cons rfl (.nil))))))) rfl (FH.le_refl _)
    replace hF := hF.2 q196
    refine .region ?_
    refine .v (mv rfl) rfl rfl rfl ?_
    refine bs2 (cs := #[.int .i64 (-1)]) (pv := [(0, .int .i64 (-1))]) tS35 rfl rfl (by decide) (by decide) rfl rfl rfl (fun a7 _ => ?_)
    refine .cast (A' := [OwnSl 3 1 a7 (([(-1)] : List Int).length) 1 (flL ([(-1)] : List Int)), Box px [.int .i64 ((gt r5 t37).base), .int .i64 ((gt r5 t37).low), .int .i64 ((gt r5 t37).high)], Box pv [.int .i64 0, .int .i64 0], OwnSl 3 1 aout out.length cout (flL out)]) rfl ?_
    obtain ⟨q206, hF⟩ := hF
    have q207 : out.length + ([(-1)] : List Int).length = ((out ++ ([(-1)] : List Int))).length := len_app rfl rfl
    refine app (k := 3) (news := flL ([(-1)] : List Int)) (cs' := flL (out ++ ([(-1)] : List Int))) (nm := ((out ++ ([(-1)] : List Int))).length) tS35 rfl (by decide) rfl rfl rfl (by rw [flL_len]; rfl) (srcS (k := 0) rfl) (flL_one _) (room_of q207 q206).1 (room_of q207 q206).2 q207 (flL_append _ _).symm rfl (fun a8 c6 => ?_)
    refine .cast (A' := [OwnSl 3 1 a7 (([(-1)] : List Int).length) 1 (flL ([(-1)] : List Int)), Box px [.int .i64 ((gt r5 t37).base), .int .i64 ((gt r5 t37).low), .int .i64 ((gt r5 t37).high)], Box pv [.int .i64 0, .int .i64 0], OwnSl 3 1 a8 ((out ++ ([(-1)] : List Int)).length) c6 (flL (out ++ ([(-1)] : List Int)))]) rfl ?_
    refine .v (asg rfl) rfl rfl rfl ?_
    refine .nil ?_
    refine .blkN ?_
    refine .sel0 [2, 3] (by decide) rfl ?_
    exact .use q194 ((out ++ ([(-1)] : List Int)), a8, c6) hF (.cons rfl (.cons rfl (.cons rfl (.cons rfl (.cons rfl (.cons rfl (.nil))))))) rfl (FH.le_refl _)
  replace hF := hF.2 q180
  refine .exit ?_
  refine .seqX ?_
  refine .seqX ?_
  refine .blkX ?_
  refine .seqN ?_
  refine .seq ?_
  refine .region ?_
  refine .v (mv rfl) rfl rfl rfl ?_
  refine .v (bld (cs := #[.int .i64 0, .int .i64 0]) (pv := []) tB28 rfl rfl) rfl rfl rfl ?_
  refine .v (asg rfl) rfl rfl rfl ?_
  refine .v (asg rfl) rfl rfl rfl ?_
  refine st (p := pv) (off := 0) (k := 0) (vs := [.int .i64 0, .int .i64 0]) rfl rfl rfl (fun w => (tA28 w).2) rfl rfl rfl rfl ?_
  refine .cast (A' := [Box pv [.int .i64 0, .int .i64 0], OwnSl 3 1 aout out.length cout (flL out)]) rfl ?_
  refine .nil ?_
  refine .seqN ?_
  refine .ret ?_
  refine .res3 rfl (rvT rfl) (rvT rfl) (rvC rfl tA28 (k := 0) rfl rfl) (fun w' S => ⟨(out, true, (⟨0, 0⟩ : Fault)), (aout, cout), h3, hF, rfl, (FH.le_trans (FH.le_trans (le1) (le2)) (le3)), trivial, S.pick (k := 1) rfl⟩)

theorem c_strong {h : FH} {w : World} (hs : Sub h w) (u : Uncertain) (au : Option Addr) (cu : Nat) (_q1 : RSl h au u.network.links) (_q2 : u.network.links.length ≤ cu) (au2 : Option Addr) (cu2 : Nat) (_q3 : RSl h au2 u.contingent) (_q4 : u.contingent.length ≤ cu2) : Calls Try.prog 10 #[.agg #[.int .i64 u.network.events, .slice au u.network.links.length cu, .slice au2 u.contingent.length cu2]] w fun e w' => ∃ (z : Option Addr × Nat) (h0 h1 : FH), e = .returned (.tuple #[.slice z.1 (sp_strong u).1.length z.2, .bool (sp_strong u).2.1, .agg #[.int .i64 (sp_strong u).2.2.code, .int .i64 (sp_strong u).2.2.index]]) ∧ (True) ∧ FH.le h h1 ∧ SH (Kp.all w h0) h1 w' [OwnSl 3 1 z.1 (sp_strong u).1.length z.2 (flL (sp_strong u).1)] :=
  (w_strong hs u au cu _q1 _q2 au2 cu2 _q3 _q4 (fun r => r = sp_strong u) (ok_strong u)).mono fun _ _ ⟨r, z, h1, hk, he, hl, hψ, hS⟩ => by subst hk; exact ⟨z, h, h1, he, hψ, hl, hS⟩

theorem w_extremes {h : FH} {w : World} (hs : Sub h w) (u : Uncertain) (au : Option Addr) (cu : Nat) (_q1 : RSl h au u.network.links) (_q2 : u.network.links.length ≤ cu) (au2 : Option Addr) (cu2 : Nat) (_q3 : RSl h au2 u.contingent) (_q4 : u.contingent.length ≤ cu2) (K : Unit → Prop) (hF : F_extremes u K) : Calls Try.prog 12 #[.agg #[.int .i64 u.network.events, .slice au u.network.links.length cu, .slice au2 u.contingent.length cu2]] w fun e w' => ∃ (r : Unit) (z : Addr) (h1 : FH), K r ∧ e = .returned (.func (.func 29) #[] #[.pointer (some z)]) ∧ FH.le h h1 ∧ (CellsAt h1 z [.int .i64 u.network.events, .slice au u.network.links.length cu, .slice au2 u.contingent.length cu2]) ∧ SH (Kp.all w h) h1 w' [] := by
  refine enter (args := [.agg #[.int .i64 u.network.events, .slice au u.network.links.length cu, .slice au2 u.contingent.length cu2]]) Try.func12 rfl Try.ntmps12 rfl hs ?_
  refine .seq ?_
  refine .region ?_
  refine bx (vs := [.int .i64 u.network.events, .slice au u.network.links.length cu, .slice au2 u.contingent.length cu2]) rfl rfl rfl (fun pu => ?_)
  refine .v (asg rfl) rfl rfl rfl ?_
  refine .nil ?_
  refine .seqN ?_
  refine .seq ?_
  refine .region ?_
  refine .v (mkf (vf := []) (vc := [.pointer (some pu)]) rfl rfl) rfl rfl rfl ?_
  refine .v (asg rfl) rfl rfl rfl ?_
  refine .nil ?_
  refine .seqN ?_
  refine .freezeBx (k := 0) rfl (fun h1 le1 q5 => ?_)
  refine .cast (A' := [tru]) rfl ?_
  refine .ret ?_
  refine .res1 rfl (rvT rfl) (fun w' S => ⟨(), pu, h1, hF, rfl, (le1), (CellsAt.mono (FH.le_refl _) q5), S.none⟩)

theorem c_extremes {h : FH} {w : World} (hs : Sub h w) (u : Uncertain) (au : Option Addr) (cu : Nat) (_q1 : RSl h au u.network.links) (_q2 : u.network.links.length ≤ cu) (au2 : Option Addr) (cu2 : Nat) (_q3 : RSl h au2 u.contingent) (_q4 : u.contingent.length ≤ cu2) : Calls Try.prog 12 #[.agg #[.int .i64 u.network.events, .slice au u.network.links.length cu, .slice au2 u.contingent.length cu2]] w fun e w' => ∃ (z : Addr) (h1 : FH), e = .returned (.func (.func 29) #[] #[.pointer (some z)]) ∧ FH.le h h1 ∧ (CellsAt h1 z [.int .i64 u.network.events, .slice au u.network.links.length cu, .slice au2 u.contingent.length cu2]) ∧ SH (Kp.all w h) h1 w' [] :=
  (w_extremes hs u au cu _q1 _q2 au2 cu2 _q3 _q4 (fun r => r = sp_extremes u) (ok_extremes u)).mono fun _ _ ⟨r, z, h1, hk, he, hl, hf, hS⟩ => by subst hk; exact ⟨z, h1, he, hl, hf, hS⟩

set_option maxHeartbeats 8000000 in
theorem w_weak {h : FH} {w : World} (hs : Sub h w) (u : Uncertain) (au : Option Addr) (cu : Nat) (_q1 : RSl h au u.network.links) (_q2 : u.network.links.length ≤ cu) (au2 : Option Addr) (cu2 : Nat) (_q3 : RSl h au2 u.contingent) (_q4 : u.contingent.length ≤ cu2) (K : (Bool × Fault) → Prop) (hF : F_weak u K) : Calls Try.prog 5 #[.agg #[.int .i64 u.network.events, .slice au u.network.links.length cu, .slice au2 u.contingent.length cu2]] w fun e w' => ∃ r : Bool × Fault, K r ∧ e = .returned (.tuple #[.bool r.1, .agg #[.int .i64 r.2.code, .int .i64 r.2.index]]) ∧ Below w.heap.size w w' := by
  refine enterM (args := [.agg #[.int .i64 u.network.events, .slice au u.network.links.length cu, .slice au2 u.contingent.length cu2]]) Try.func5 rfl Try.ntmps5 rfl hs ?_
  refine .seq ?_
  refine .region ?_
  refine bx (vs := [.int .i64 u.network.events, .slice au u.network.links.length cu, .slice au2 u.contingent.length cu2]) rfl rfl rfl (fun pu => ?_)
  refine al tZ4 rfl (fun pv => ?_)
  refine al tZ28 rfl (fun pv2 => ?_)
  refine .nil ?_
  refine .seqN ?_
  refine .seq ?_
  refine .seq ?_
  refine .region ?_
  refine .v (ldA (cs := [.int .i64 u.network.events, .slice au u.network.links.length cu, .slice au2 u.contingent.length cu2]) rfl tA26 rfl (cellsB (off := 0) (k := 2) rfl (m := 3) rfl)) rfl rfl rfl ?_
  obtain ⟨r2, q5⟩ : ∃ y_ : Fault, y_ = sp_uvalidate u := ⟨_, rfl⟩
  replace hF := hF r2 q5
  refine .c (cl (v := .agg #[.int .i64 r2.code, .int .i64 r2.index]) Try.call11 rfl rfl (fun w S => (by rw [q5]; exact c_uvalidate S.sub u au cu _q1 _q2 au2 cu2 _q3 _q4 ))) rfl rfl rfl ?_
  refine al tZ28 rfl (fun pf => ?_)
  refine st (p := pf) (off := 0) (k := 0) (vs := [.int .i64 r2.code, .int .i64 r2.index]) rfl rfl rfl (fun w => (tA28 w).2) rfl rfl rfl rfl ?_
  refine .cast (A' := [Box pf [.int .i64 r2.code, .int .i64 r2.index], Box pv2 [.int .i64 0, .int .i64 0], Box pv [.bool false], Box pu [.int .i64 u.network.events, .slice au u.network.links.length cu, .slice au2 u.contingent.length cu2], MkA []]) rfl ?_
  refine .nil ?_
  refine .seqN ?_
  refine .seq ?_
  refine .region ?_
  refine .v (ldA (cs := [.int .i64 r2.code, .int .i64 r2.index]) rfl tA28 rfl (cellsB (off := 0) (k := 0) rfl (m := 2) rfl)) rfl rfl rfl ?_
  refine .v (bld (cs := #[.int .i64 0, .int .i64 0]) (pv := []) tB28 rfl rfl) rfl rfl rfl ?_
  refine .v (ne2 tE28 rfl rfl) rfl rfl rfl ?_
  refine .nil ?_
  refine .seqN ?_
  refine .cond rfl (fun q7 => ?_) (fun q7 => ?_)
  · replace hF := hF.1 q7
    refine .seq ?_
    refine .openA (s0 := [(2, .pointer (some pv)), (3, .pointer (some pv2)), (4, .pointer (some pf))]) [0] [(0, .agg #[.int .i64 r2.code, .int .i64 r2.index])] (by kernel_rfl) (.cons rfl (.cons rfl (.cons rfl (.nil)))) [2, 3, 4] [] rfl (by kernel_rfl) ?_
    refine .step [1] 1 rfl (by kernel_rfl) (by kernel_rfl) (.v [] rfl rfl rfl rfl rfl rfl (fun _ => ldA (cs := [.int .i64 r2.code, .int .i64 r2.index]) rfl tA28 rfl (cellsB (off := 0) (k := 0) rfl (m := 2) rfl)) (.nil)) (.cons [] rfl rfl (fun sL hL => ?_) (.nil))
    refine st (p := pv) (off := 0) (k := 2) (vs := [.bool false]) rfl rfl rfl (fun w => (tO4 w).2) rfl rfl rfl rfl ?_
    refine .cast (A' := [Box pf [.int .i64 r2.code, .int .i64 r2.index], Box pv2 [.int .i64 0, .int .i64 0], Box pv [.bool false], Box pu [.int .i64 u.network.events, .slice au u.network.links.length cu, .slice au2 u.contingent.length cu2], MkA []]) rfl ?_
    refine .nil ?_
    refine .jaN (M := []) (C' := [0]) (pre := []) [2, 3, 4] hL rfl rfl rfl rfl rfl (by kernel_rfl) ?_
    refine .step [2] 2 rfl (by kernel_rfl) (by kernel_rfl) (.v [] rfl rfl rfl rfl rfl rfl (fun _ => ldA (cs := [.int .i64 r2.code, .int .i64 r2.index]) rfl tA28 rfl (cellsB (off := 0) (k := 0) rfl (m := 2) rfl)) (.nil)) (.cons [(13, .agg #[.int .i64 r2.code, .int .i64 r2.index]), (13, .agg #[.int .i64 r2.code, .int .i64 r2.index])] rfl rfl (fun sL hL => ?_) (.nil))
    refine st (p := pv2) (off := 0) (k := 1) (vs := [.int .i64 r2.code, .int .i64 r2.index]) rfl rfl rfl (fun w => (tA28 w).2) rfl rfl rfl rfl ?_
    refine .cast (A' := [Box pf [.int .i64 r2.code, .int .i64 r2.index], Box pv2 [.int .i64 r2.code, .int .i64 r2.index], Box pv [.bool false], Box pu [.int .i64 u.network.events, .slice au u.network.links.length cu, .slice au2 u.contingent.length cu2], MkA []]) rfl ?_
    refine .nil ?_
    refine .jaN (M := [0]) (C' := []) (pre := []) [2, 3, 4] hL rfl rfl rfl rfl rfl (by kernel_rfl) ?_
    refine .last [(13, .agg #[.int .i64 r2.code, .int .i64 r2.index])] rfl (by kernel_rfl) (.nil) rfl ?_
    refine .seqN ?_
    refine .ret ?_
    refine .seqR ?_
    refine .resM (k := 4) rfl ?_
    refine .res2 rfl (rvC1 rfl tO4 (k := 2) rfl) (rvC rfl tA28 (k := 1) rfl rfl) (fun w' S => ⟨(false, r2), hF, rfl, S.below⟩)
  replace hF := hF.2 q7
  refine .skip ?_
  refine .seqN ?_
  refine .seq ?_
  refine .seq ?_
  refine .region ?_
  refine .v (ldA (cs := [.int .i64 u.network.events, .slice au u.network.links.length cu, .slice au2 u.contingent.length cu2]) rfl tA26 rfl (cellsB (off := 0) (k := 3) rfl (m := 3) rfl)) rfl rfl rfl ?_
  obtain ⟨r3, q8⟩ : ∃ y_ : Unit, y_ = sp_extremes u := ⟨_, rfl⟩
  replace hF := hF r3 q8
  refine clR (α := Addr) (Φ := fun h1 z => CellsAt h1 z [.int .i64 u.network.events, .slice au u.network.links.length cu, .slice au2 u.contingent.length cu2]) (V := fun z => .func (.func 29) #[] #[.pointer (some z)]) Try.call12 rfl rfl (fun w S => (by exact c_extremes S.sub u au cu _q1 _q2 au2 cu2 _q3 _q4 )) rfl (fun z h1 le1 hz => ?_)
  obtain ⟨p, rfl⟩ : ∃ y_, y_ = z := ⟨_, rfl⟩
  have q9 := hz
  refine .nil ?_
  refine .seqN ?_
  refine .block ?_
  refine .sub (s' := [(1, .pointer (some pu)), (2, .pointer (some pv)), (3, .pointer (some pv2)), (15, .func (.func 29) #[] #[.pointer (some p)])]) (.cons rfl (.cons rfl (.cons rfl (.cons rfl (.nil))))) ?_
  refine .rangeF (k := 4) (caps := [.pointer (some p)]) rfl rfl Try.func29 rfl Try.ntmps29 rfl Try.call29 (fun l D LA a q1429 q1430 => ?_)
  refine .cast (A' := [LA .ready none, Box pf [.int .i64 r2.code, .int .i64 r2.index], Box pv2 [.int .i64 0, .int .i64 0], Box pv [.bool false], Box pu [.int .i64 u.network.events, .slice au u.network.links.length cu, .slice au2 u.contingent.length cu2], MkA (D :: [])]) rfl ?_
  refine .seq ?_
  refine .region ?_
  refine .v (fa rfl tF26_1) rfl rfl rfl ?_
  refine .v (ld1 (v := .slice au2 u.contingent.length cu2) rfl tO22 (cellH (CellsAt.mono (FH.le_refl _) q9 2 _ rfl))) rfl rfl rfl ?_
  refine .v (ln rfl tS22.is) rfl rfl rfl ?_
  obtain ⟨q1431, hF⟩ := hF
  obtain ⟨x, q1432⟩ : ∃ y_ : Int, y_ = (IntKind.i64.wrap (1 * 2 ^ (min ((((u.contingent.length : Nat) : Int) : Int)).toNat (IntKind.bits .i64)))) := ⟨_, rfl⟩
  replace hF := hF x q1432
  refine .v (v := .int .i64 x) (by rw [q1432]; exact bsh rfl rfl q1431 rfl) rfl rfl rfl ?_
  refine .v (mv rfl) rfl rfl rfl ?_
  refine .nil ?_
  refine .seqN ?_
  refine .block ?_
  refine .sel0 [0, 4, 3, 2, 5] (by decide) rfl ?_
  obtain ⟨I1, μ1, q2375, q2376⟩ := hF
  refine .loop' (σ := Int) (fun z => I1 z) (fun z => μ1 z) (fun z => [(0, .func (.yield l) #[] #[]), (1, .pointer (some p)), (10, .int .i64 x), (11, .int .i64 z)]) (fun _ => [LA .ready none, Box pu [.int .i64 u.network.events, .slice au u.network.links.length cu, .slice au2 u.contingent.length cu2], Box pv [.bool false], Box pv2 [.int .i64 0, .int .i64 0], MkA (D :: [])]) (fun _ => h1) 0 q2375 (.cons rfl (.cons rfl (.cons rfl (.cons rfl (.nil))))) rfl (FH.le_refl _) ?_
  rintro t11 q2375
  have hF := q2376 t11 q2375
  show J _ _ _ _ _ [(0, .func (.yield l) #[] #[]), (1, .pointer (some p)), (10, .int .i64 x), (11, .int .i64 t11)] [LA .ready none, Box pu [.int .i64 u.network.events, .slice au u.network.links.length cu, .slice au2 u.contingent.length cu2], Box pv [.bool false], Box pv2 [.int .i64 0, .int .i64 0], MkA (D :: [])] h1
  refine .seq ?_
  refine .region ?_
  refine .v (bi rfl rfl rfl) rfl rfl rfl ?_
  refine .nil ?_
  refine .seqN ?_
  refine .seq ?_
  refine .cond rfl (fun q2379 => ?_) (fun q2379 => ?_)
  · replace hF := hF.1 q2379
    refine .skip ?_
    refine .seqN ?_
    refine .seq ?_
    refine .block ?_
    refine .seq ?_
    refine .region ?_
    refine .v (mv rfl) rfl rfl rfl ?_
    refine .v (asg rfl) rfl rfl rfl ?_
    refine .nil ?_
    refine .seqN ?_
    refine .seq ?_
    refine .region ?_
    refine .v (asg rfl) rfl rfl rfl ?_
    refine .nil ?_
    refine .seqN ?_
    refine .seq ?_
    refine .seq ?_
    refine .region ?_
    refine .v (fa rfl tF26_1) rfl rfl rfl ?_
    refine .v (ld1 (v := .slice au2 u.contingent.length cu2) rfl tO22 (cellH (CellsAt.mono (FH.le_refl _) q9 2 _ rfl))) rfl rfl rfl ?_
    refine .v (ln rfl tS22.is) rfl rfl rfl ?_
    refine .v (mv rfl) rfl rfl rfl ?_
    refine .nil ?_
    refine .seqN ?_
    refine .block ?_
    refine .nilSl 3 1 ?_
    refine .cast (A' := [OwnSl 3 1 none (([] : List Int).length) 0 (flL ([] : List Int)), LA .ready none, Box pu [.int .i64 u.network.events, .slice au u.network.links.length cu, .slice au2 u.contingent.length cu2], Box pv [.bool false], Box pv2 [.int .i64 0, .int .i64 0], MkA (D :: [])]) rfl ?_
    refine .sel0 [1, 0, 2, 3, 4, 5] (by decide) rfl ?_
    obtain ⟨I2, μ2, q2810, q2811⟩ := hF
    refine .loop' (σ := Int × List Int × Option Addr × Nat) (fun z => I2 z.1 z.2.1) (fun z => μ2 z.1 z.2.1) (fun z => [(0, .func (.yield l) #[] #[]), (1, .pointer (some p)), (3, .int .i64 t11), (4, .slice z.2.2.1 z.2.1.length z.2.2.2), (10, .int .i64 x), (11, .int .i64 t11), (15, .slice au2 u.contingent.length cu2), (16, .int .i64 ((u.contingent.length : Nat) : Int)), (17, .int .i64 z.1)]) (fun z => [LA .ready none, OwnSl 3 1 z.2.2.1 z.2.1.length z.2.2.2 (flL z.2.1), Box pu [.int .i64 u.network.events, .slice au u.network.links.length cu, .slice au2 u.contingent.length cu2], Box pv [.bool false], Box pv2 [.int .i64 0, .int .i64 0], MkA (D :: [])]) (fun _ => h1) (0, ([] : List Int), none, 0) q2810 (.cons rfl (.cons rfl (.cons rfl (.cons rfl (.cons rfl (.cons rfl (.cons rfl (.cons rfl (.cons rfl (.nil)))))))))) rfl (FH.le_refl _) ?_
    rintro ⟨t17, f, af, cf⟩ q2810
    have hF := q2811 t17 f q2810
    show J _ _ _ _ _ [(0, .func (.yield l) #[] #[]), (1, .pointer (some p)), (3, .int .i64 t11), (4, .slice af f.length cf), (10, .int .i64 x), (11, .int .i64 t11), (15, .slice au2 u.contingent.length cu2), (16, .int .i64 ((u.contingent.length : Nat) : Int)), (17, .int .i64 t17)] [LA .ready none, OwnSl 3 1 af f.length cf (flL f), Box pu [.int .i64 u.network.events, .slice au u.network.links.length cu, .slice au2 u.contingent.length cu2], Box pv [.bool false], Box pv2 [.int .i64 0, .int .i64 0], MkA (D :: [])] h1
    refine .seq ?_
    refine .region ?_
    refine .v (bi rfl rfl rfl) rfl rfl rfl ?_
    refine .nil ?_
    refine .seqN ?_
    refine .seq ?_
    refine .cond rfl (fun q2814 => ?_) (fun q2814 => ?_)
    · replace hF := hF.1 q2814
      refine .skip ?_
      refine .seqN ?_
      refine .share (σ := List Int × Option Addr × Nat) (fun z => F_weak_J1 f t17 I2 μ2 z.1) (fun z => [(0, .func (.yield l) #[] #[]), (1, .pointer (some p)), (3, .int .i64 t11), (4, .slice z.2.1 z.1.length z.2.2), (10, .int .i64 x), (11, .int .i64 t11), (15, .slice au2 u.contingent.length cu2), (16, .int .i64 ((u.contingent.length : Nat) : Int)), (17, .int .i64 t17)]) (fun z => [LA .ready none, OwnSl 3 1 z.2.1 z.1.length z.2.2 (flL z.1), Box pu [.int .i64 u.network.events, .slice au u.network.links.length cu, .slice au2 u.contingent.length cu2], Box pv [.bool false], Box pv2 [.int .i64 0, .int .i64 0], MkA (D :: [])]) (fun _ => h1) ?_ (fun q2825 => ?_)
      · rintro ⟨f3, af3, cf3⟩ hF
        show J _ _ _ _ _ [(0, .func (.yield l) #[] #[]), (1, .pointer (some p)), (3, .int .i64 t11), (4, .slice af3 f3.length cf3), (10, .int .i64 x), (11, .int .i64 t11), (15, .slice au2 u.contingent.length cu2), (16, .int .i64 ((u.contingent.length : Nat) : Int)), (17, .int .i64 t17)] [LA .ready none, OwnSl 3 1 af3 f3.length cf3 (flL f3), Box pu [.int .i64 u.network.events, .slice au u.network.links.length cu, .slice au2 u.contingent.length cu2], Box pv [.bool false], Box pv2 [.int .i64 0, .int .i64 0], MkA (D :: [])] h1
        refine .region ?_
        refine .v (bi rfl rfl rfl) rfl rfl rfl ?_
        refine .v (mv rfl) rfl rfl rfl ?_
        refine .nil ?_
        exact .round (IntKind.i64.wrap (t17 + 1), f3, af3, cf3) hF.1 hF.2 (.cons rfl (.cons rfl (.cons rfl (.cons rfl (.cons rfl (.cons rfl (.cons rfl (.cons rfl (.cons rfl (.nil)))))))))) rfl (FH.le_refl _)
      refine .block ?_
      refine .seq ?_
      refine .region ?_
      refine .v (mv rfl) rfl rfl rfl ?_
      obtain ⟨q2826, hF⟩ := hF
      refine .v (ix rfl rfl tS22 (_q3.ne (by decide) (inb_pos q2826)) q2826) rfl rfl rfl ?_
      refine .v (ldA (cs := [.int .i64 ((gt u.contingent t17).src), .int .i64 ((gt u.contingent t17).dst), .int .i64 ((gt u.contingent t17).low), .int .i64 ((gt u.contingent t17).high)]) rfl tA48 rfl (cellsH ((_q3.mono (le1)).elemF q2826 (by decide)))) rfl rfl rfl ?_
      refine al tZ48 rfl (fun p_ => ?_)
      refine .v (asg rfl) rfl rfl rfl ?_
      refine st (p := p_) (off := 0) (k := 0) (vs := [.int .i64 ((gt u.contingent t17).src), .int .i64 ((gt u.contingent t17).dst), .int .i64 ((gt u.contingent t17).low), .int .i64 ((gt u.contingent t17).high)]) rfl rfl rfl (fun w => (tA48 w).2) rfl rfl rfl rfl ?_
      refine .cast (A' := [Box p_ [.int .i64 ((gt u.contingent t17).src), .int .i64 ((gt u.contingent t17).dst), .int .i64 ((gt u.contingent t17).low), .int .i64 ((gt u.contingent t17).high)], LA .ready none, OwnSl 3 1 af f.length cf (flL f), Box pu [.int .i64 u.network.events, .slice au u.network.links.length cu, .slice au2 u.contingent.length cu2], Box pv [.bool false], Box pv2 [.int .i64 0, .int .i64 0], MkA (D :: [])]) rfl ?_
      refine .nil ?_
      refine .seqN ?_
      refine .seq ?_
      refine .region ?_
      refine .v (mv rfl) rfl rfl rfl ?_
      refine .v (mv rfl) rfl rfl rfl ?_
      obtain ⟨q2827, hF⟩ := hF
      refine .v (bsh rfl rfl q2827 rfl) rfl rfl rfl ?_
      obtain ⟨x2, q2828⟩ : ∃ y_ : Int, y_ = (bits .and .i64 (Int.fdiv t11 (2 ^ (min ((t17 : Int)).toNat (IntKind.bits .i64)))) 1) := ⟨_, rfl⟩
      replace hF := hF x2 q2828
      refine .v (v := .int .i64 x2) (by rw [q2828]; exact bi rfl rfl rfl) rfl rfl rfl ?_
      refine .v (bi rfl rfl rfl) rfl rfl rfl ?_
      refine .nil ?_
      refine .seqN ?_
      refine .cond rfl (fun q2829 => ?_) (fun q2829 => ?_)
      · replace hF := hF.1 q2829
        refine .region ?_
        refine .v (mv rfl) rfl rfl rfl ?_
        refine .v (fa rfl tF48_2) rfl rfl rfl ?_
        refine .v (ld1 rfl tO3 (cellB (off := 2) (k := 0) rfl rfl)) rfl rfl rfl ?_
        refine bs2 (cs := #[.int .i64 ((gt u.contingent t17).low)]) (pv := [(0, .int .i64 ((gt u.contingent t17).low))]) tS35 rfl rfl (by decide) (by decide) rfl rfl rfl (fun a2 _ => ?_)
        refine .cast (A' := [OwnSl 3 1 a2 (([(gt u.contingent t17).low] : List Int).length) 1 (flL ([(gt u.contingent t17).low] : List Int)), Box p_ [.int .i64 ((gt u.contingent t17).src), .int .i64 ((gt u.contingent t17).dst), .int .i64 ((gt u.contingent t17).low), .int .i64 ((gt u.contingent t17).high)], LA .ready none, OwnSl 3 1 af f.length cf (flL f), Box pu [.int .i64 u.network.events, .slice au u.network.links.length cu, .slice au2 u.contingent.length cu2], Box pv [.bool false], Box pv2 [.int .i64 0, .int .i64 0], MkA (D :: [])]) rfl ?_
        obtain ⟨q2831, hF⟩ := hF
        have q2832 : f.length + ([(gt u.contingent t17).low] : List Int).length = ((f ++ ([(gt u.contingent t17).low] : List Int))).length := len_app rfl rfl
        refine app (k := 3) (news := flL ([(gt u.contingent t17).low] : List Int)) (cs' := flL (f ++ ([(gt u.contingent t17).low] : List Int))) (nm := ((f ++ ([(gt u.contingent t17).low] : List Int))).length) tS35 rfl (by decide) rfl rfl rfl (by rw [flL_len]; rfl) (srcS (k := 0) rfl) (flL_one _) (room_of q2832 q2831).1 (room_of q2832 q2831).2 q2832 (flL_append _ _).symm rfl (fun a3 c => ?_)
        refine .cast (A' := [OwnSl 3 1 a2 (([(gt u.contingent t17).low] : List Int).length) 1 (flL ([(gt u.contingent t17).low] : List Int)), Box p_ [.int .i64 ((gt u.contingent t17).src), .int .i64 ((gt u.contingent t17).dst), .int .i64 ((gt u.contingent t17).low), .int .i64 ((gt u.contingent t17).high)], LA .ready none, OwnSl 3 1 a3 ((f ++ ([(gt u.contingent t17).low] : List Int)).length) c (flL (f ++ ([(gt u.contingent t17).low] : List Int))), Box pu [.int .i64 u.network.events, .slice au u.network.links.length cu, .slice au2 u.contingent.length cu2], Box pv [.bool false], Box pv2 [.int .i64 0, .int .i64 0], MkA (D :: [])]) rfl ?_
        refine .v (asg rfl) rfl rfl rfl ?_
        refine .nil ?_
        refine .blkN ?_
        refine .sel0 [2, 3, 4, 5, 6, 7] (by decide) rfl ?_
        exact .use q2825 ((f ++ ([(gt u.contingent t17).low] : List Int)), a3, c) hF (.cons rfl (.cons rfl (.cons rfl (.cons rfl (.cons rfl (.cons rfl (.cons rfl (.cons rfl (.cons rfl (.nil)))))))))) rfl (FH.le_refl _)
      replace hF := hF.2 q2829
      refine .region ?_
      refine .v (mv rfl) rfl rfl rfl ?_
      refine .v (fa rfl tF48_3) rfl rfl rfl ?_
      refine .v (ld1 rfl tO3 (cellB (off := 3) (k := 0) rfl rfl)) rfl rfl rfl ?_
      refine bs2 (cs := #[.int .i64 ((gt u.contingent t17).high)]) (pv := [(0, .int .i64 ((gt u.contingent t17).high))]) tS35 rfl rfl (by decide) (by decide) rfl rfl rfl (fun a4 _ => ?_)
      refine .cast (A' := [OwnSl 3 1 a4 (([(gt u.contingent t17).high] : List Int).length) 1 (flL ([(gt u.contingent t17).high] : List Int)), Box p_ [.int .i64 ((gt u.contingent t17).src), .int .i64 ((gt u.contingent t17).dst), .int .i64 ((gt u.contingent t17).low), .int .i64 ((gt u.contingent t17).high)], LA .ready none, OwnSl 3 1 af f.length cf (flL f), Box pu [.int .i64 u.network.events, .slice au u.network.links.length cu, .slice au2 u.contingent.length cu2], Box pv [.bool false], Box pv2 [.int .i64 0, .int .i64 0], MkA (D :: [])]) rfl ?_
      obtain ⟨q2834, hF⟩ := hF
      have q2835 : f.length + ([(gt u.contingent t17).high] : List Int).length = ((f ++ ([(gt u.contingent t17).high] : List Int))).length := len_app rfl rfl
      refine app (k := 3) (news := flL ([(gt u.contingent t17).high] : List Int)) (cs' := flL (f ++ ([(gt u.contingent t17).high] : List Int))) (nm := ((f ++ ([(gt u.contingent t17).high] : List Int))).length) tS35 rfl (by decide) rfl rfl rfl (by rw [flL_len]; rfl) (srcS (k := 0) rfl) (flL_one _) (room_of q2835 q2834).1 (room_of q2835 q2834).2 q2835 (flL_append _ _).symm rfl (fun a5 c2 => ?_)
      refine .cast (A' := [OwnSl 3 1 a4 (([(gt u.contingent t17).high] : List Int).length) 1 (flL ([(gt u.contingent t17).high] : List Int)), Box p_ [.int .i64 ((gt u.contingent t17).src), .int .i64 ((gt u.contingent t17).dst), .int .i64 ((gt u.contingent t17).low), .int .i64 ((gt u.contingent t17).high)], LA .ready none, OwnSl 3 1 a5 ((f ++ ([(gt u.contingent t17).high] : List Int)).length) c2 (flL (f ++ ([(gt u.contingent t17).high] : List Int))), Box pu [.int .i64 u.network.events, .slice au u.network.links.length cu, .slice au2 u.contingent.length cu2], Box pv [.bool false], Box pv2 [.int .i64 0, .int .i64 0], MkA (D :: [])]) rfl ?_
      refine .v (asg rfl) rfl rfl rfl ?_
      refine .nil ?_
      refine .blkN ?_
      refine .sel0 [2, 3, 4, 5, 6, 7] (by decide) rfl ?_
      exact .use q2825 ((f ++ ([(gt u.contingent t17).high] : List Int)), a5, c2) hF (.cons rfl (.cons rfl (.cons rfl (.cons rfl (.cons rfl (.cons rfl (.cons rfl (.cons rfl (.cons rfl (.nil)))))))))) rfl (FH.le_refl _)
    replace hF := hF.2 q2814
    refine .exit ?_
    refine .seqX ?_
    refine .seqX ?_
    refine .blkX ?_
    refine .seqN ?_
    refine .seq ?_
    refine .region ?_
    refine .v (mv rfl) rfl rfl rfl ?_
    refine .v (mv rfl) rfl rfl rfl ?_
    refine .freezeL (k := 1) rfl (fun h53 le53 q2837 q2836 => ?_)
    refine .cast (A' := [LA .ready none, tru, Box pu [.int .i64 u.network.events, .slice au u.network.links.length cu, .slice au2 u.contingent.length cu2], Box pv [.bool false], Box pv2 [.int .i64 0, .int .i64 0], MkA (D :: [])]) rfl ?_
    refine .yld (k := 0) (vs := [.slice af f.length cf]) q1429 rfl rfl rfl rfl rfl (fun aG q2838 => ?_)
    refine .sub (s' := [(1, .pointer (some pu)), (2, .pointer (some pv)), (3, .pointer (some pv2)), (16, .slice af f.length cf)]) (.cons rfl (.cons rfl (.cons rfl (.cons rfl (.nil))))) ?_
    refine .region ?_
    refine .v (asg rfl) rfl rfl rfl ?_
    refine .nil ?_
    refine .begin_ (k := 0) q1429 rfl ?_
    refine .cast (A' := [LA .busy none, tru, Box pu [.int .i64 u.network.events, .slice au u.network.links.length cu, .slice au2 u.contingent.length cu2], Box pv [.bool false], Box pv2 [.int .i64 0, .int .i64 0], MkA (D :: [])]) rfl ?_
    refine .block ?_
    refine .seq ?_
    refine .region ?_
    refine .v (ldA (cs := [.int .i64 u.network.events, .slice au u.network.links.length cu, .slice au2 u.contingent.length cu2]) rfl tA26 rfl (cellsB (off := 0) (k := 2) rfl (m := 3) rfl)) rfl rfl rfl ?_
    refine .v (mv rfl) rfl rfl rfl ?_
    obtain ⟨q2839, hF⟩ := hF
    obtain ⟨r4, q2840⟩ : ∃ y_ : Network, y_ = sp_with_ u f := ⟨_, rfl⟩
    replace hF := hF r4 q2840
    refine clR (α := Option Addr × Nat) (Φ := fun h1 z => RSl h1 z.1 r4.links ∧ r4.links.length ≤ z.2) (V := fun z => .agg #[.int .i64 r4.events, .slice z.1 r4.links.length z.2]) Try.call14 rfl rfl (fun w S => (by rw [q2840]; exact c_with_ S.sub u au cu (_q1.mono (FH.le_trans (le1) (le53))) _q2 au2 cu2 (_q3.mono (FH.le_trans (le1) (le53))) _q4 f af cf (RSl.of q2836) (q2837) q2839)) rfl (fun z h54 le54 hz => ?_)
    obtain ⟨a6, c3⟩ := z
    obtain ⟨q2841, q2842⟩ := hz
    obtain ⟨q2843, hF⟩ := hF
    obtain ⟨r5, q2844⟩ : ∃ y_ : List (List Int) × Bool, y_ = sp_tighten r4 := ⟨_, rfl⟩
    replace hF := hF r5 q2844
    refine clR (α := Option Addr × Nat) (Φ := fun h1 z => RSl h1 z.1 r5.1 ∧ r5.1.length ≤ z.2) (V := fun z => .tuple #[.slice z.1 r5.1.length z.2, .bool r5.2]) Try.call13 rfl rfl (fun w S => (by rw [q2844]; exact c_tighten S.sub r4 a6 c3 q2841 q2842 q2843)) rfl (fun z h55 le55 hz => ?_)
    obtain ⟨a7, c4⟩ := z
    obtain ⟨q2845, q2846⟩ := hz
    refine .v (mv rfl) rfl rfl rfl ?_
    refine .v (ext rfl rfl) rfl rfl rfl ?_
    refine .v (ext rfl rfl) rfl rfl rfl ?_
    refine .v (asg rfl) rfl rfl rfl ?_
    refine .v (asg rfl) rfl rfl rfl ?_
    refine .nil ?_
    refine .seqN ?_
    refine .seq ?_
    refine .region ?_
    refine .v (mv rfl) rfl rfl rfl ?_
    refine .v (nt rfl) rfl rfl rfl ?_
    refine .nil ?_
    refine .seqN ?_
    refine .cond rfl (fun q2847 => ?_) (fun q2847 => ?_)
    · replace hF := hF.1 q2847
      refine .seq ?_
      refine .region ?_
      refine .v (bld (cs := #[.int .i64 0, .int .i64 0]) (pv := []) tB28 rfl rfl) rfl rfl rfl ?_
      refine st (p := pv) (off := 0) (k := 3) (vs := [.bool false]) rfl rfl rfl (fun w => (tO4 w).2) rfl rfl rfl rfl ?_
      refine .cast (A' := [LA .busy none, tru, Box pu [.int .i64 u.network.events, .slice au u.network.links.length cu, .slice au2 u.contingent.length cu2], Box pv [.bool false], Box pv2 [.int .i64 0, .int .i64 0], MkA (D :: [])]) rfl ?_
      refine st (p := pv2) (off := 0) (k := 4) (vs := [.int .i64 0, .int .i64 0]) rfl rfl rfl (fun w => (tA28 w).2) rfl rfl rfl rfl ?_
      refine .cast (A' := [LA .busy none, tru, Box pu [.int .i64 u.network.events, .slice au u.network.links.length cu, .slice au2 u.contingent.length cu2], Box pv [.bool false], Box pv2 [.int .i64 0, .int .i64 0], MkA (D :: [])]) rfl ?_
      refine .nil ?_
      refine .seqN ?_
      refine .ret ?_
      refine .blkR ?_
      refine .rdR (k := 0) q1429 rfl q2838 rfl ?_
      refine .cast (A' := [LA .done (some .ret), tru, Box pu [.int .i64 u.network.events, .slice au u.network.links.length cu, .slice au2 u.contingent.length cu2], Box pv [.bool false], Box pv2 [.int .i64 0, .int .i64 0], MkA (D :: [])]) rfl ?_
      refine .v (nt rfl) rfl rfl rfl ?_
      refine .nil ?_
      refine .seqN ?_
      refine .cond rfl (fun _ => ?_) (fun e => absurd (e.symm.trans rfl) (by decide))
      refine .ret ?_
      refine .blkR ?_
      refine .seqR ?_
      refine .seqR ?_
      refine .blkR ?_
      refine .res0 (.inl rfl) rfl (range_jump (k := 0) q1429 rfl q1430 ?_)
      refine .cast (A' := [tru, tru, Box pu [.int .i64 u.network.events, .slice au u.network.links.length cu, .slice au2 u.contingent.length cu2], Box pv [.bool false], Box pv2 [.int .i64 0, .int .i64 0], MkA (D :: [])]) rfl ?_
      refine .ret ?_
      refine .blkR ?_
      refine .seqR ?_
      refine .resM (k := 5) rfl ?_
      refine .res2 rfl (rvC1 rfl tO4 (k := 3) rfl) (rvC rfl tA28 (k := 4) rfl rfl) (fun w' S => ⟨(false, (⟨0, 0⟩ : Fault)), hF, rfl, S.below⟩)
    replace hF := hF.2 q2847
    refine .skip ?_
    refine .blkN ?_
    refine .rdN (k := 0) q1429 rfl q2838 rfl ?_
    refine .cast (A' := [LA .ready none, tru, Box pu [.int .i64 u.network.events, .slice au u.network.links.length cu, .slice au2 u.contingent.length cu2], Box pv [.bool false], Box pv2 [.int .i64 0, .int .i64 0], MkA (D :: [])]) rfl ?_
    refine .v (nt rfl) rfl rfl rfl ?_
    refine .nil ?_
    refine .seqN ?_
    refine .cond rfl (fun e => absurd (e.symm.trans rfl) (by decide)) (fun _ => ?_)
    refine .skip ?_
    refine .blkN ?_
    refine .seqN ?_
    refine .region ?_
    refine .v (bi rfl rfl rfl) rfl rfl rfl ?_
    refine .v (mv rfl) rfl rfl rfl ?_
    refine .nil ?_
    refine .sel0 [0, 2, 3, 4, 5] (by decide) rfl ?_
    exact .round (IntKind.i64.wrap (t11 + 1)) hF.1 hF.2 (.cons rfl (.cons rfl (.cons rfl (.cons rfl (.nil))))) rfl (FH.le_trans (FH.le_trans (le53) (le54)) (le55))
  replace hF := hF.2 q2379
  refine .exit ?_
  refine .seqX ?_
  refine .seqX ?_
  refine .blkX ?_
  refine .res0 (.inr rfl) rfl (range_done (k := 0) q1429 rfl q1430 ?_)
  refine .cast (A' := [tru, Box pu [.int .i64 u.network.events, .slice au u.network.links.length cu, .slice au2 u.contingent.length cu2], Box pv [.bool false], Box pv2 [.int .i64 0, .int .i64 0], MkA (D :: [])]) rfl ?_
  refine .blkN ?_
  refine .seqN ?_
  refine .seq ?_
  refine .region ?_
  refine .v (bld (cs := #[.int .i64 0, .int .i64 0]) (pv := []) tB28 rfl rfl) rfl rfl rfl ?_
  refine st (p := pv) (off := 0) (k := 2) (vs := [.bool true]) rfl rfl rfl (fun w => (tO4 w).2) rfl rfl rfl rfl ?_
  refine .cast (A' := [tru, Box pu [.int .i64 u.network.events, .slice au u.network.links.length cu, .slice au2 u.contingent.length cu2], Box pv [.bool true], Box pv2 [.int .i64 0, .int .i64 0], MkA (D :: [])]) rfl ?_
  refine st (p := pv2) (off := 0) (k := 3) (vs := [.int .i64 0, .int .i64 0]) rfl rfl rfl (fun w => (tA28 w).2) rfl rfl rfl rfl ?_
  refine .cast (A' := [tru, Box pu [.int .i64 u.network.events, .slice au u.network.links.length cu, .slice au2 u.contingent.length cu2], Box pv [.bool true], Box pv2 [.int .i64 0, .int .i64 0], MkA (D :: [])]) rfl ?_
  refine .nil ?_
  refine .seqN ?_
  refine .ret ?_
  refine .resM (k := 4) rfl ?_
  refine .res2 rfl (rvC1 rfl tO4 (k := 2) rfl) (rvC rfl tA28 (k := 3) rfl rfl) (fun w' S => ⟨(true, (⟨0, 0⟩ : Fault)), hF, rfl, S.below⟩)

theorem c_weak {h : FH} {w : World} (hs : Sub h w) (u : Uncertain) (au : Option Addr) (cu : Nat) (_q1 : RSl h au u.network.links) (_q2 : u.network.links.length ≤ cu) (au2 : Option Addr) (cu2 : Nat) (_q3 : RSl h au2 u.contingent) (_q4 : u.contingent.length ≤ cu2) : Calls Try.prog 5 #[.agg #[.int .i64 u.network.events, .slice au u.network.links.length cu, .slice au2 u.contingent.length cu2]] w fun e w' => e = .returned (.tuple #[.bool (sp_weak u).1, .agg #[.int .i64 (sp_weak u).2.code, .int .i64 (sp_weak u).2.index]]) ∧ Below w.heap.size w w' :=
  (w_weak hs u au cu _q1 _q2 au2 cu2 _q3 _q4 (fun r => r = sp_weak u) (ok_weak u)).mono fun _ _ ⟨_, hk, he, hb⟩ => ⟨by rw [he, hk], hb⟩

theorem w_weakFor {h : FH} {w : World} (hs : Sub h w) (u : Uncertain) (au : Option Addr) (cu : Nat) (_q1 : RSl h au u.network.links) (_q2 : u.network.links.length ≤ cu) (au2 : Option Addr) (cu2 : Nat) (_q3 : RSl h au2 u.contingent) (_q4 : u.contingent.length ≤ cu2) (K : Bool → Prop) (hF : F_weakFor u K) : Calls Try.prog 9 #[.agg #[.int .i64 u.network.events, .slice au u.network.links.length cu, .slice au2 u.contingent.length cu2]] w fun e w' => ∃ r : Bool, K r ∧ e = .returned (.bool r) ∧ Below w.heap.size w w' := by
  refine enter (args := [.agg #[.int .i64 u.network.events, .slice au u.network.links.length cu, .slice au2 u.contingent.length cu2]]) Try.func9 rfl Try.ntmps9 rfl hs ?_
  refine .seq ?_
  refine .region ?_
  refine bx (vs := [.int .i64 u.network.events, .slice au u.network.links.length cu, .slice au2 u.contingent.length cu2]) rfl rfl rfl (fun pu => ?_)
  refine .v (asg rfl) rfl rfl rfl ?_
  refine .nil ?_
  refine .seqN ?_
  refine .seq ?_
  refine .seq ?_
  refine .region ?_
  refine .v (asg rfl) rfl rfl rfl ?_
  refine .nil ?_
  refine .seqN ?_
  refine .block ?_
  obtain ⟨I1, μ1, q402, q403⟩ := hF
  refine .loop' (σ := Int) (fun z => I1 z) (fun z => μ1 z) (fun z => [(1, .pointer (some pu)), (3, .int .i64 z)]) (fun _ => [Box pu [.int .i64 u.network.events, .slice au u.network.links.length cu, .slice au2 u.contingent.length cu2]]) (fun _ => h) 0 q402 (.cons rfl (.cons rfl (.nil))) rfl (FH.le_refl _) ?_
  rintro k q402
  have hF := q403 k q402
  show J _ _ _ _ _ [(1, .pointer (some pu)), (3, .int .i64 k)] [Box pu [.int .i64 u.network.events, .slice au u.network.links.length cu, .slice au2 u.contingent.length cu2]] h
  refine .seq ?_
  refine .seq ?_
  refine .region ?_
  refine .v (mv rfl) rfl rfl rfl ?_
  refine .v (ldA (cs := [.int .i64 u.network.events, .slice au u.network.links.length cu, .slice au2 u.contingent.length cu2]) rfl tA26 rfl (cellsB (off := 0) (k := 0) rfl (m := 3) rfl)) rfl rfl rfl ?_
  obtain ⟨q404, hF⟩ := hF
  obtain ⟨r2, q405⟩ : ∃ y_ : Int, y_ = sp_choices u := ⟨_, rfl⟩
  replace hF := hF r2 q405
  refine .c (cl (v := .int .i64 r2) Try.call8 rfl rfl (fun w S => (by rw [q405]; exact c_choices S.sub u au cu _q1 _q2 au2 cu2 _q3 _q4 q404))) rfl rfl rfl ?_
  refine .v (bi rfl rfl rfl) rfl rfl rfl ?_
  refine .nil ?_
  refine .seqN ?_
  refine .cond rfl (fun q407 => ?_) (fun q407 => ?_)
  · replace hF := hF.1 q407
    refine .skip ?_
    refine .seqN ?_
    refine .seq ?_
    refine .block ?_
    refine .seq ?_
    refine .openA (s0 := [(1, .pointer (some pu)), (3, .int .i64 k)]) [0, 1, 2] [(0, .agg #[.int .i64 u.network.events, .slice au u.network.links.length cu, .slice au2 u.contingent.length cu2]), (1, .agg #[.int .i64 u.network.events, .slice au u.network.links.length cu, .slice au2 u.contingent.length cu2]), (2, .int .i64 k)] (by kernel_rfl) (.cons rfl (.cons rfl (.nil))) [1, 3] [] rfl (by kernel_rfl) ?_
    refine .step [3] 3 rfl (by kernel_rfl) (by kernel_rfl) (.v [] rfl rfl rfl rfl rfl rfl (fun _ => ldA (cs := [.int .i64 u.network.events, .slice au u.network.links.length cu, .slice au2 u.contingent.length cu2]) rfl tA26 rfl (cellsB (off := 0) (k := 0) rfl (m := 3) rfl)) (.v [] rfl rfl rfl rfl rfl rfl (fun _ => ldA (cs := [.int .i64 u.network.events, .slice au u.network.links.length cu, .slice au2 u.contingent.length cu2]) rfl tA26 rfl (cellsB (off := 0) (k := 0) rfl (m := 3) rfl)) (.v [] rfl rfl rfl rfl rfl rfl (fun _ => mv rfl) (.nil)))) (.cons [(14, .agg #[.int .i64 u.network.events, .slice au u.network.links.length cu, .slice au2 u.contingent.length cu2]), (15, .int .i64 k)] rfl rfl (fun sL hL => ?_) (.nil))
    obtain ⟨q470, hF⟩ := hF
    obtain ⟨r3, q471⟩ : ∃ y_ : List Int, y_ = sp_choice u k := ⟨_, rfl⟩
    replace hF := hF r3 q471
    refine clR (α := Option Addr × Nat) (Φ := fun h1 z => RSl h1 z.1 r3 ∧ r3.length ≤ z.2) (V := fun z => .slice z.1 r3.length z.2) Try.call21 rfl rfl (fun w S => (by rw [q471]; exact c_choice S.sub u au cu _q1 _q2 au2 cu2 _q3 _q4 k q470)) rfl (fun z h106 le106 hz => ?_)
    obtain ⟨a, c⟩ := z
    obtain ⟨q472, q473⟩ := hz
    refine .nil ?_
    refine .ja (M := [1, 2]) (C' := [0]) (pre := [(3, .slice a r3.length c)]) [(1, .pointer (some pu)), (3, .int .i64 k)] [1, 3] hL rfl rfl rfl rfl rfl (.cons rfl (.cons rfl (.nil))) rfl rfl (by kernel_rfl) ?_
    refine .step [4] 4 rfl (by kernel_rfl) (by kernel_rfl) (.v [] rfl rfl rfl rfl rfl rfl (fun _ => ldA (cs := [.int .i64 u.network.events, .slice au u.network.links.length cu, .slice au2 u.contingent.length cu2]) rfl tA26 rfl (cellsB (off := 0) (k := 0) rfl (m := 3) rfl)) (.nil)) (.cons [(13, .agg #[.int .i64 u.network.events, .slice au u.network.links.length cu, .slice au2 u.contingent.length cu2]), (16, .slice a r3.length c), (16, .slice a r3.length c)] rfl rfl (fun sL hL => ?_) (.nil))
    obtain ⟨q474, hF⟩ := hF
    obtain ⟨r4, q475⟩ : ∃ y_ : Network, y_ = sp_with_ u r3 := ⟨_, rfl⟩
    replace hF := hF r4 q475
    refine clR (α := Option Addr × Nat) (Φ := fun h1 z => RSl h1 z.1 r4.links ∧ r4.links.length ≤ z.2) (V := fun z => .agg #[.int .i64 r4.events, .slice z.1 r4.links.length z.2]) Try.call20 rfl rfl (fun w S => (by rw [q475]; exact c_fixed S.sub u au cu (_q1.mono (le106)) _q2 au2 cu2 (_q3.mono (le106)) _q4 r3 a c q472 q473 q474)) rfl (fun z h107 le107 hz => ?_)
    obtain ⟨a2, c2⟩ := z
    obtain ⟨q476, q477⟩ := hz
    refine .nil ?_
    refine .ja (M := [0]) (C' := []) (pre := [(4, .agg #[.int .i64 r4.events, .slice a2 r4.links.length c2])]) [(1, .pointer (some pu)), (3, .int .i64 k)] [1, 3] hL rfl rfl rfl rfl rfl (.cons rfl (.cons rfl (.nil))) rfl rfl (by kernel_rfl) ?_
    refine .step [5] 5 rfl (by kernel_rfl) (by kernel_rfl) (.nil) (.cons [(17, .agg #[.int .i64 r4.events, .slice a2 r4.links.length c2]), (17, .agg #[.int .i64 r4.events, .slice a2 r4.links.length c2])] rfl rfl (fun sL hL => ?_) (.nil))
    obtain ⟨q478, hF⟩ := hF
    obtain ⟨r5, q479⟩ : ∃ y_ : List (List Int) × Bool, y_ = sp_tighten r4 := ⟨_, rfl⟩
    replace hF := hF r5 q479
    refine clR (α := Option Addr × Nat) (Φ := fun h1 z => RSl h1 z.1 r5.1 ∧ r5.1.length ≤ z.2) (V := fun z => .tuple #[.slice z.1 r5.1.length z.2, .bool r5.2]) Try.call19 rfl rfl (fun w S => (by rw [q479]; exact c_tightest S.sub r4 a2 c2 q476 q477 q478)) rfl (fun z h108 le108 hz => ?_)
    obtain ⟨a3, c3⟩ := z
    obtain ⟨q480, q481⟩ := hz
    refine .nil ?_
    refine .ja (M := []) (C' := [6, 7, 8, 9, 10]) (pre := [(5, .tuple #[.slice a3 r5.1.length c3, .bool r5.2]), (6, .tuple #[.slice a3 r5.1.length c3, .bool r5.2]), (7, .slice a3 r5.1.length c3), (8, .bool r5.2), (9, .slice a3 r5.1.length c3), (10, .bool r5.2)]) [(1, .pointer (some pu)), (3, .int .i64 k)] [1, 3] hL rfl rfl rfl rfl rfl (.cons rfl (.cons rfl (.nil))) rfl rfl (by kernel_rfl) ?_
    refine .last [(13, .agg #[.int .i64 u.network.events, .slice au u.network.links.length cu, .slice au2 u.contingent.length cu2]), (14, .agg #[.int .i64 u.network.events, .slice au u.network.links.length cu, .slice au2 u.contingent.length cu2]), (15, .int .i64 k), (16, .slice a r3.length c), (17, .agg #[.int .i64 r4.events, .slice a2 r4.links.length c2]), (18, .tuple #[.slice a3 r5.1.length c3, .bool r5.2]), (12, .tuple #[.slice a3 r5.1.length c3, .bool r5.2]), (19, .slice a3 r5.1.length c3), (20, .bool r5.2), (4, .slice a3 r5.1.length c3), (5, .bool r5.2)] rfl (by kernel_rfl) (.v [(18, .tuple #[.slice a3 r5.1.length c3, .bool r5.2])] rfl rfl rfl rfl rfl rfl (fun _ => mv rfl) (.v [(12, .tuple #[.slice a3 r5.1.length c3, .bool r5.2])] rfl rfl rfl rfl rfl rfl (fun _ => ext rfl rfl) (.v [(12, .tuple #[.slice a3 r5.1.length c3, .bool r5.2])] rfl rfl rfl rfl rfl rfl (fun _ => ext rfl rfl) (.v [(19, .slice a3 r5.1.length c3), (18, .tuple #[.slice a3 r5.1.length c3, .bool r5.2]), (13, .agg #[.int .i64 u.network.events, .slice au u.network.links.length cu, .slice au2 u.contingent.length cu2]), (14, .agg #[.int .i64 u.network.events, .slice au u.network.links.length cu, .slice au2 u.contingent.length cu2]), (15, .int .i64 k), (16, .slice a r3.length c), (17, .agg #[.int .i64 r4.events, .slice a2 r4.links.length c2]), (18, .tuple #[.slice a3 r5.1.length c3, .bool r5.2]), (12, .tuple #[.slice a3 r5.1.length c3, .bool r5.2]), (19, .slice a3 r5.1.length c3)] rfl rfl rfl rfl rfl rfl (fun _ => asg rfl) (.v [(20, .bool r5.2), (4, .slice a3 r5.1.length c3), (13, .agg #[.int .i64 u.network.events, .slice au u.network.links.length cu, .slice au2 u.contingent.length cu2]), (14, .agg #[.int .i64 u.network.events, .slice au u.network.links.length cu, .slice au2 u.contingent.length cu2]), (15, .int .i64 k), (16, .slice a r3.length c), (17, .agg #[.int .i64 r4.events, .slice a2 r4.links.length c2]), (18, .tuple #[.slice a3 r5.1.length c3, .bool r5.2]), (12, .tuple #[.slice a3 r5.1.length c3, .bool r5.2]), (19, .slice a3 r5.1.length c3), (20, .bool r5.2), (4, .slice a3 r5.1.length c3)] rfl rfl rfl rfl rfl rfl (fun _ => asg rfl) (.nil)))))) rfl ?_
    refine .seqN ?_
    refine .seq ?_
    refine .region ?_
    refine .v (mv rfl) rfl rfl rfl ?_
    refine .v (nt rfl) rfl rfl rfl ?_
    refine .nil ?_
    refine .seqN ?_
    refine .cond rfl (fun q482 => ?_) (fun q482 => ?_)
    · replace hF := hF.1 q482
      refine .seq ?_
      refine .region ?_
      refine .v (asg rfl) rfl rfl rfl ?_
      refine .nil ?_
      refine .seqN ?_
      refine .ret ?_
      refine .blkR ?_
      refine .seqR ?_
      refine .seqR ?_
      refine .blkR ?_
      refine .seqR ?_
      refine .res1 rfl (rvT rfl) (fun w' S => ⟨false, hF, rfl, S.below⟩)
    replace hF := hF.2 q482
    refine .skip ?_
    refine .blkN ?_
    refine .seqN ?_
    refine .region ?_
    refine .v (mv rfl) rfl rfl rfl ?_
    refine .v (bi rfl rfl rfl) rfl rfl rfl ?_
    refine .v (asg rfl) rfl rfl rfl ?_
    refine .nil ?_
    exact .round (IntKind.i64.wrap (k + 1)) hF.1 hF.2 (.cons rfl (.cons rfl (.nil))) rfl (FH.le_trans (FH.le_trans (le106) (le107)) (le108))
  replace hF := hF.2 q407
  refine .exit ?_
  refine .seqX ?_
  refine .seqX ?_
  refine .blkX ?_
  refine .seqN ?_
  refine .seq ?_
  refine .region ?_
  refine .v (asg rfl) rfl rfl rfl ?_
  refine .nil ?_
  refine .seqN ?_
  refine .ret ?_
  refine .res1 rfl (rvT rfl) (fun w' S => ⟨true, hF, rfl, S.below⟩)

theorem c_weakFor {h : FH} {w : World} (hs : Sub h w) (u : Uncertain) (au : Option Addr) (cu : Nat) (_q1 : RSl h au u.network.links) (_q2 : u.network.links.length ≤ cu) (au2 : Option Addr) (cu2 : Nat) (_q3 : RSl h au2 u.contingent) (_q4 : u.contingent.length ≤ cu2) (hp : pre_weakFor u) : Calls Try.prog 9 #[.agg #[.int .i64 u.network.events, .slice au u.network.links.length cu, .slice au2 u.contingent.length cu2]] w fun e w' => e = .returned (.bool (sp_weakFor u)) ∧ Below w.heap.size w w' :=
  (w_weakFor hs u au cu _q1 _q2 au2 cu2 _q3 _q4 (fun r => r = sp_weakFor u) (ok_weakFor u hp)).mono fun _ _ ⟨_, hk, he, hb⟩ => ⟨by rw [he, hk], hb⟩

end Go.Proofs.Ytkcamohhjaibaaa.Pl
