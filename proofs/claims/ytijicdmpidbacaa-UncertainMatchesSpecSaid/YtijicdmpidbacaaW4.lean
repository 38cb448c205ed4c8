/- The walks: from what each function asks to what it does; printed from the code. No condition. -/
import Derived.Test.YtijicdmpidbacaaW3
namespace Go.Proofs.Ytijicdmpidbacaa.Pl
open Go Go.RowKit
set_option maxHeartbeats 8000000 in
theorem w_strongTimes {h : FH} {w : World} (hs : Sub h w) (u : Uncertain) (au : Option Addr) (cu : Nat) (_q1 : RSl h au u.network.links) (_q2 : u.network.links.length ≤ cu) (au2 : Option Addr) (cu2 : Nat) (_q3 : RSl h au2 u.contingent) (_q4 : u.contingent.length ≤ cu2) (K : (List Int × Bool) → Prop) (hF : F_strongTimes u K) : Calls Try.prog 32 #[.agg #[.int .i64 u.network.events, .slice au u.network.links.length cu, .slice au2 u.contingent.length cu2]] w fun e w' => ∃ (r : List Int × Bool) (z : Option Addr × Nat) (h1 : FH), K r ∧ e = .returned (.tuple #[.slice z.1 r.1.length z.2, .bool r.2]) ∧ FH.le h h1 ∧ (RSl h1 z.1 r.1 ∧ r.1.length ≤ z.2) ∧ SH (Kp.all w h) h1 w' [] := by
  refine enter (args := [.agg #[.int .i64 u.network.events, .slice au u.network.links.length cu, .slice au2 u.contingent.length cu2]]) Try.func32 rfl Try.ntmps32 rfl hs ?_
  refine .seq ?_
  refine .region ?_
  refine bx (vs := [.int .i64 u.network.events, .slice au u.network.links.length cu, .slice au2 u.contingent.length cu2]) rfl rfl rfl (fun pu => ?_)
  refine .v (asg rfl) rfl rfl rfl ?_
  refine .v (asg rfl) rfl rfl rfl ?_
  refine .nil ?_
  refine .seqN ?_
  refine .seq ?_
  refine .region ?_
  refine .v (fa rfl tF51_0) rfl rfl rfl ?_
  refine .v (faa (p := pu) (o1 := 0) rfl tF24_0 rfl) rfl rfl rfl ?_
  refine .v (ld1 rfl tO3 (cellB (off := 0) (k := 0) rfl rfl)) rfl rfl rfl ?_
  obtain ⟨q5, hF⟩ := hF
  refine mk (m := (u.network.events).toNat) (cs' := flL (List.replicate (u.network.events).toNat (0 : Int))) tS32 rfl rfl (Int.toNat_of_nonneg q5.1).symm q5.2.1 q5.2.2 (flL_rep1 rfl _) rfl (fun a c => ?_)
  have q6 : (List.replicate (u.network.events).toNat (0 : Int)).length = (u.network.events).toNat := List.length_replicate
  refine .cast (A' := [OwnSl 3 1 a ((u.network.events).toNat) c (flL (List.replicate (u.network.events).toNat (0 : Int))), Box pu [.int .i64 u.network.events, .slice au u.network.links.length cu, .slice au2 u.contingent.length cu2]]) rfl ?_
  refine .v (asg rfl) rfl rfl rfl ?_
  refine .nil ?_
  refine .seqN ?_
  refine .seq ?_
  refine .seq ?_
  refine .region ?_
  refine .v (asg rfl) rfl rfl rfl ?_
  refine .nil ?_
  refine .seqN ?_
  refine .block ?_
  refine .sel0 [1, 0] (by decide) rfl ?_
  obtain ⟨I1, μ1, q13919, q13920⟩ := hF
  refine .loop' (σ := Bool × List Int) (fun z => I1 z.1 z.2 ∧ z.2.length = (u.network.events).toNat) (fun z => μ1 z.1 z.2) (fun z => [(1, .pointer (some pu)), (4, .slice a ((u.network.events).toNat) c), (5, .bool z.1)]) (fun z => [Box pu [.int .i64 u.network.events, .slice au u.network.links.length cu, .slice au2 u.contingent.length cu2], OwnSl 3 1 a ((u.network.events).toNat) c (flL z.2)]) (fun _ => h) (true, (List.replicate (u.network.events).toNat (0 : Int))) ⟨q13919, q6⟩ (.cons rfl (.cons rfl (.cons rfl (.nil)))) rfl (FH.le_refl _) ?_
  rintro ⟨again, times⟩ ⟨q13919, q11143⟩
  have hF := q13920 again times q13919
  show J _ _ _ _ _ [(1, .pointer (some pu)), (4, .slice a ((u.network.events).toNat) c), (5, .bool again)] [Box pu [.int .i64 u.network.events, .slice au u.network.links.length cu, .slice au2 u.contingent.length cu2], OwnSl 3 1 a ((u.network.events).toNat) c (flL times)] h
  refine .seq ?_
  refine .seq ?_
  refine .region ?_
  refine .v (mv rfl) rfl rfl rfl ?_
  refine .nil ?_
  refine .seqN ?_
  refine .cond rfl (fun q13922 => ?_) (fun q13922 => ?_)
  · replace hF := hF.1 q13922
    refine .skip ?_
    refine .seqN ?_
    refine .block ?_
    refine .seq ?_
    refine .region ?_
    refine .v (asg rfl) rfl rfl rfl ?_
    refine .nil ?_
    refine .seqN ?_
    refine .seq ?_
    refine .region ?_
    refine .v (asg rfl) rfl rfl rfl ?_
    refine .nil ?_
    refine .seqN ?_
    refine .block ?_
    obtain ⟨I2, μ2, q15771, q15772⟩ := hF
    refine .loop' (σ := Bool × Int × List Int) (fun z => I2 z.1 z.2.1 z.2.2 ∧ z.2.2.length = (u.network.events).toNat) (fun z => μ2 z.1 z.2.1 z.2.2) (fun z => [(1, .pointer (some pu)), (4, .slice a ((u.network.events).toNat) c), (5, .bool z.1), (6, .int .i64 z.2.1)]) (fun z => [Box pu [.int .i64 u.network.events, .slice au u.network.links.length cu, .slice au2 u.contingent.length cu2], OwnSl 3 1 a ((u.network.events).toNat) c (flL z.2.2)]) (fun _ => h) (false, 0, times) ⟨q15771, q11143⟩ (.cons rfl (.cons rfl (.cons rfl (.cons rfl (.nil))))) rfl (FH.le_refl _) ?_
    rintro ⟨again3, k, times3⟩ ⟨q15771, q14847⟩
    have hF := q15772 again3 k times3 q15771
    show J _ _ _ _ _ [(1, .pointer (some pu)), (4, .slice a ((u.network.events).toNat) c), (5, .bool again3), (6, .int .i64 k)] [Box pu [.int .i64 u.network.events, .slice au u.network.links.length cu, .slice au2 u.contingent.length cu2], OwnSl 3 1 a ((u.network.events).toNat) c (flL times3)] h
    refine .seq ?_
    refine .seq ?_
    refine .region ?_
    refine .v (mv rfl) rfl rfl rfl ?_
    refine .v (ldA (cs := [.int .i64 u.network.events, .slice au u.network.links.length cu, .slice au2 u.contingent.length cu2]) rfl tA51 rfl (cellsB (off := 0) (k := 0) rfl (m := 3) rfl)) rfl rfl rfl ?_
    obtain ⟨q15773, hF⟩ := hF
    obtain ⟨r2, q15774⟩ : ∃ y_ : Int, y_ = sp_choices u := ⟨_, rfl⟩
    replace hF := hF r2 q15774
    refine .c (cl (v := .int .i64 r2) Try.call31 rfl rfl (fun w S => (by rw [q15774]; exact c_choices S.sub u au cu _q1 _q2 au2 cu2 _q3 _q4 q15773))) rfl rfl rfl ?_
    refine .v (bi rfl rfl rfl) rfl rfl rfl ?_
    refine .nil ?_
    refine .seqN ?_
    refine .cond rfl (fun q15776 => ?_) (fun q15776 => ?_)
    · replace hF := hF.1 q15776
      refine .skip ?_
      refine .seqN ?_
      refine .seq ?_
      refine .block ?_
      refine .seq ?_
      refine .region ?_
      refine .v (asg rfl) rfl rfl rfl ?_
      refine .nil ?_
      refine .seqN ?_
      refine .block ?_
      obtain ⟨I3, μ3, q16593, q16594⟩ := hF
      refine .loop' (σ := Bool × Int × List Int) (fun z => I3 z.1 z.2.1 z.2.2 ∧ z.2.2.length = (u.network.events).toNat) (fun z => μ3 z.1 z.2.1 z.2.2) (fun z => [(1, .pointer (some pu)), (4, .slice a ((u.network.events).toNat) c), (5, .bool z.1), (6, .int .i64 k), (7, .int .i64 z.2.1)]) (fun z => [Box pu [.int .i64 u.network.events, .slice au u.network.links.length cu, .slice au2 u.contingent.length cu2], OwnSl 3 1 a ((u.network.events).toNat) c (flL z.2.2)]) (fun _ => h) (again3, 0, times3) ⟨q16593, q14847⟩ (.cons rfl (.cons rfl (.cons rfl (.cons rfl (.cons rfl (.nil)))))) rfl (FH.le_refl _) ?_
      rintro ⟨again5, i, times5⟩ ⟨q16593, q16491⟩
      have hF := q16594 again5 i times5 q16593
      show J _ _ _ _ _ [(1, .pointer (some pu)), (4, .slice a ((u.network.events).toNat) c), (5, .bool again5), (6, .int .i64 k), (7, .int .i64 i)] [Box pu [.int .i64 u.network.events, .slice au u.network.links.length cu, .slice au2 u.contingent.length cu2], OwnSl 3 1 a ((u.network.events).toNat) c (flL times5)] h
      refine .seq ?_
      refine .seq ?_
      refine .region ?_
      refine .v (mv rfl) rfl rfl rfl ?_
      refine .v (fa rfl tF51_0) rfl rfl rfl ?_
      refine .v (faa (p := pu) (o1 := 0) rfl tF24_1 rfl) rfl rfl rfl ?_
      refine .v (ld1 rfl tO22 (cellB (off := 1) (k := 0) rfl rfl)) rfl rfl rfl ?_
      refine .v (ln rfl tS22.is) rfl rfl rfl ?_
      refine .v (bi rfl rfl rfl) rfl rfl rfl ?_
      refine .nil ?_
      refine .seqN ?_
      refine .cond rfl (fun q16596 => ?_) (fun q16596 => ?_)
      · replace hF := hF.1 q16596
        refine .skip ?_
        refine .seqN ?_
        refine .share (σ := Bool × List Int) (fun z => F_strongTimes_J1 i I3 μ3 again5 times5 z.1 z.2 ∧ z.2.length = (u.network.events).toNat) (fun z => [(1, .pointer (some pu)), (4, .slice a ((u.network.events).toNat) c), (5, .bool z.1), (6, .int .i64 k), (7, .int .i64 i)]) (fun z => [Box pu [.int .i64 u.network.events, .slice au u.network.links.length cu, .slice au2 u.contingent.length cu2], OwnSl 3 1 a ((u.network.events).toNat) c (flL z.2)]) (fun _ => h) ?_ (fun q16646 => ?_)
        · rintro ⟨again7, times7⟩ ⟨hF, q16645⟩
          show J _ _ _ _ _ [(1, .pointer (some pu)), (4, .slice a ((u.network.events).toNat) c), (5, .bool again7), (6, .int .i64 k), (7, .int .i64 i)] [Box pu [.int .i64 u.network.events, .slice au u.network.links.length cu, .slice au2 u.contingent.length cu2], OwnSl 3 1 a ((u.network.events).toNat) c (flL times7)] h
          refine .region ?_
          refine .v (mv rfl) rfl rfl rfl ?_
          refine .v (bi rfl rfl rfl) rfl rfl rfl ?_
          refine .v (asg rfl) rfl rfl rfl ?_
          refine .nil ?_
          exact .round (again7, IntKind.i64.wrap (i + 1), times7) ⟨hF.1, q16645⟩ hF.2 (.cons rfl (.cons rfl (.cons rfl (.cons rfl (.cons rfl (.nil)))))) rfl (FH.le_refl _)
        refine .block ?_
        refine .seq ?_
        refine .region ?_
        refine .v (fa rfl tF51_0) rfl rfl rfl ?_
        refine .v (faa (p := pu) (o1 := 0) rfl tF24_1 rfl) rfl rfl rfl ?_
        refine .v (ld1 rfl tO22 (cellB (off := 1) (k := 0) rfl rfl)) rfl rfl rfl ?_
        refine .v (mv rfl) rfl rfl rfl ?_
        obtain ⟨q16647, hF⟩ := hF
        refine .v (ix rfl rfl tS22 (_q1.ne (by decide) (inb_pos q16647)) q16647) rfl rfl rfl ?_
        refine .v (ldA (cs := [.int .i64 ((gt u.network.links i).src), .int .i64 ((gt u.network.links i).dst), .int .i64 ((gt u.network.links i).low), .int .i64 ((gt u.network.links i).high)]) rfl tA35 rfl (cellsH (_q1.elemF q16647 (by decide)))) rfl rfl rfl ?_
        refine al tZ35 rfl (fun pl => ?_)
        refine st (p := pl) (off := 0) (k := 0) (vs := [.int .i64 ((gt u.network.links i).src), .int .i64 ((gt u.network.links i).dst), .int .i64 ((gt u.network.links i).low), .int .i64 ((gt u.network.links i).high)]) rfl rfl rfl (fun w => (tA35 w).2) rfl rfl rfl rfl ?_
        refine .cast (A' := [Box pl [.int .i64 ((gt u.network.links i).src), .int .i64 ((gt u.network.links i).dst), .int .i64 ((gt u.network.links i).low), .int .i64 ((gt u.network.links i).high)], Box pu [.int .i64 u.network.events, .slice au u.network.links.length cu, .slice au2 u.contingent.length cu2], OwnSl 3 1 a ((u.network.events).toNat) c (flL times5)]) rfl ?_
        refine .nil ?_
        refine .seqN ?_
        refine .seq ?_
        refine .openA (s0 := [(1, .pointer (some pu)), (4, .slice a ((u.network.events).toNat) c), (5, .bool again5), (6, .int .i64 k), (7, .int .i64 i), (8, .pointer (some pl))]) [0, 1, 2, 3] [(0, .agg #[.int .i64 u.network.events, .slice au u.network.links.length cu, .slice au2 u.contingent.length cu2]), (1, .slice a ((u.network.events).toNat) c), (2, .agg #[.int .i64 u.network.events, .slice au u.network.links.length cu, .slice au2 u.contingent.length cu2]), (3, .int .i64 k)] (by kernel_rfl) (.cons rfl (.cons rfl (.cons rfl (.cons rfl (.cons rfl (.cons rfl (.nil))))))) [1, 4, 5, 6, 7, 8] [] rfl (by kernel_rfl) ?_
        refine .step [4] 4 rfl (by kernel_rfl) (by kernel_rfl) (.v [] rfl rfl rfl rfl rfl rfl (fun _ => ldA (cs := [.int .i64 u.network.events, .slice au u.network.links.length cu, .slice au2 u.contingent.length cu2]) rfl tA51 rfl (cellsB (off := 0) (k := 1) rfl (m := 3) rfl)) (.v [] rfl rfl rfl rfl rfl rfl (fun _ => mv rfl) (.v [] rfl rfl rfl rfl rfl rfl (fun _ => ldA (cs := [.int .i64 u.network.events, .slice au u.network.links.length cu, .slice au2 u.contingent.length cu2]) rfl tA51 rfl (cellsB (off := 0) (k := 1) rfl (m := 3) rfl)) (.v [] rfl rfl rfl rfl rfl rfl (fun _ => mv rfl) (.nil))))) (.cons [(41, .agg #[.int .i64 u.network.events, .slice au u.network.links.length cu, .slice au2 u.contingent.length cu2]), (42, .int .i64 k)] rfl rfl (fun sL hL => ?_) (.nil))
        obtain ⟨q16654, hF⟩ := hF
        obtain ⟨r3, q16655⟩ : ∃ y_ : List Int, y_ = sp_choice u k := ⟨_, rfl⟩
        replace hF := hF r3 q16655
        refine clR (α := Option Addr × Nat) (Φ := fun h1 z => RSl h1 z.1 r3 ∧ r3.length ≤ z.2) (V := fun z => .slice z.1 r3.length z.2) Try.call53 rfl rfl (fun w S => (by rw [q16655]; exact c_choice S.sub u au cu _q1 _q2 au2 cu2 _q3 _q4 k q16654)) rfl (fun z h648 le648 hz => ?_)
        obtain ⟨a2, c2⟩ := z
        obtain ⟨q16656, q16657⟩ := hz
        refine .nil ?_
        refine .ja (M := [2, 3]) (C' := [0, 1]) (pre := [(4, .slice a2 r3.length c2)]) [(1, .pointer (some pu)), (4, .slice a ((u.network.events).toNat) c), (5, .bool again5), (6, .int .i64 k), (7, .int .i64 i), (8, .pointer (some pl))] [1, 4, 5, 6, 7, 8] hL rfl rfl rfl rfl rfl (.cons rfl (.cons rfl (.cons rfl (.cons rfl (.cons rfl (.cons rfl (.nil))))))) rfl rfl (by kernel_rfl) ?_
        refine .step [5] 5 rfl (by kernel_rfl) (by kernel_rfl) (.v [] rfl rfl rfl rfl rfl rfl (fun _ => ldA (cs := [.int .i64 u.network.events, .slice au u.network.links.length cu, .slice au2 u.contingent.length cu2]) rfl tA51 rfl (cellsB (off := 0) (k := 1) rfl (m := 3) rfl)) (.v [] rfl rfl rfl rfl rfl rfl (fun _ => mv rfl) (.nil))) (.cons [(39, .agg #[.int .i64 u.network.events, .slice au u.network.links.length cu, .slice au2 u.contingent.length cu2]), (40, .slice a ((u.network.events).toNat) c), (43, .slice a2 r3.length c2), (43, .slice a2 r3.length c2)] rfl rfl (fun sL hL => ?_) (.nil))
        obtain ⟨q16658, hF⟩ := hF
        obtain ⟨r4, q16659⟩ : ∃ y_ : List Int, y_ = sp_outcome u times5 r3 := ⟨_, rfl⟩
        replace hF := hF r4 q16659
        refine clO (α := Option Addr × Nat) (V := fun z => .slice z.1 r4.length z.2) (Ψ := fun z => True) (B := fun z => [OwnSl 3 1 z.1 r4.length z.2 (flL r4)]) Try.call44 rfl rfl (fun w S => (by rw [q16659]; obtain ⟨h_, hl_, hs_, hne_, hr_⟩ := look S (k := 2) rfl; rw [← q16491]; exact (c_outcome hs_ u au cu (RSl.mono hl_ (_q1.mono (le648))) _q2 au2 cu2 (RSl.mono hl_ (_q3.mono (le648))) _q4 times5 a c (RSl.of hr_) (by rw [q16491]; exact look_len S (k := 2) rfl) r3 a2 c2 (RSl.mono hl_ q16656) q16657 q16658).mono fun _ _ ⟨z, h0, h1, e1, e2, e3, e4⟩ => ⟨z, h0, h1, e1, e2, FH.le_trans hl_ e3, e4⟩)) rfl (fun z _ => ?_)
        obtain ⟨a3, c3⟩ := z
        refine .cast (A' := [OwnSl 3 1 a3 r4.length c3 (flL r4), Box pl [.int .i64 ((gt u.network.links i).src), .int .i64 ((gt u.network.links i).dst), .int .i64 ((gt u.network.links i).low), .int .i64 ((gt u.network.links i).high)], Box pu [.int .i64 u.network.events, .slice au u.network.links.length cu, .slice au2 u.contingent.length cu2], OwnSl 3 1 a ((u.network.events).toNat) c (flL times5)]) rfl ?_
        refine .nil ?_
        refine .ja (M := [0, 1]) (C' := [6]) (pre := [(5, .slice a3 r4.length c3), (6, .slice a3 r4.length c3)]) [(1, .pointer (some pu)), (4, .slice a ((u.network.events).toNat) c), (5, .bool again5), (6, .int .i64 k), (7, .int .i64 i), (8, .pointer (some pl))] [1, 4, 5, 6, 7, 8] hL rfl rfl rfl rfl rfl (.cons rfl (.cons rfl (.cons rfl (.cons rfl (.cons rfl (.cons rfl (.nil))))))) rfl rfl (by kernel_rfl) ?_
        refine .last [(39, .agg #[.int .i64 u.network.events, .slice au u.network.links.length cu, .slice au2 u.contingent.length cu2]), (40, .slice a ((u.network.events).toNat) c), (41, .agg #[.int .i64 u.network.events, .slice au u.network.links.length cu, .slice au2 u.contingent.length cu2]), (42, .int .i64 k), (43, .slice a2 r3.length c2), (44, .slice a3 r4.length c3), (9, .slice a3 r4.length c3)] rfl (by kernel_rfl) (.v [(44, .slice a3 r4.length c3), (44, .slice a3 r4.length c3), (39, .agg #[.int .i64 u.network.events, .slice au u.network.links.length cu, .slice au2 u.contingent.length cu2]), (40, .slice a ((u.network.events).toNat) c), (41, .agg #[.int .i64 u.network.events, .slice au u.network.links.length cu, .slice au2 u.contingent.length cu2]), (42, .int .i64 k), (43, .slice a2 r3.length c2), (44, .slice a3 r4.length c3)] rfl rfl rfl rfl rfl rfl (fun _ => asg rfl) (.nil)) rfl ?_
        refine .seqN ?_
        refine .seq ?_
        refine .open_ (by kernel_rfl) (by kernel_rfl) ?_
        refine .v (mv rfl) rfl rfl rfl ?_
        refine .v (fa rfl tF35_1) rfl rfl rfl ?_
        refine .v (ld1 rfl tO3 (cellB (off := 1) (k := 1) rfl rfl)) rfl rfl rfl ?_
        obtain ⟨q16660, hF⟩ := hF
        refine .v (ixS rfl rfl tS32 (k := 0) rfl q16660) rfl rfl rfl ?_
        refine .v (ld1 (v := .int .i64 (gt r4 ((gt u.network.links i).dst))) rfl tO3 (cellS (k := 0) rfl (flL_get q16660 (j := 0) rfl))) rfl rfl rfl ?_
        refine .v (mv rfl) rfl rfl rfl ?_
        refine .v (fa rfl tF35_0) rfl rfl rfl ?_
        refine .v (ld1 rfl tO3 (cellB (off := 0) (k := 1) rfl rfl)) rfl rfl rfl ?_
        obtain ⟨q16661, hF⟩ := hF
        refine .v (ixS rfl rfl tS32 (k := 0) rfl q16661) rfl rfl rfl ?_
        refine .v (ld1 (v := .int .i64 (gt r4 ((gt u.network.links i).src))) rfl tO3 (cellS (k := 0) rfl (flL_get q16661 (j := 0) rfl))) rfl rfl rfl ?_
        obtain ⟨x, q16662⟩ : ∃ y_ : Int, y_ = (IntKind.i64.wrap ((gt r4 ((gt u.network.links i).dst)) - (gt r4 ((gt u.network.links i).src)))) := ⟨_, rfl⟩
        replace hF := hF x q16662
        refine .v (v := .int .i64 x) (by rw [q16662]; exact bi rfl rfl rfl) rfl rfl rfl ?_
        refine .v (asg rfl) rfl rfl rfl ?_
        refine .fin ?_
        refine .seqN ?_
        refine .seq ?_
        refine .share (σ := Bool) (fun z => F_strongTimes_J2 u K x z i I3 μ3 again5 times5) (fun z => [(1, .pointer (some pu)), (4, .slice a ((u.network.events).toNat) c), (5, .bool again5), (6, .int .i64 k), (7, .int .i64 i), (8, .pointer (some pl)), (10, .int .i64 x), (65, .bool z)]) (fun _ => [Box pu [.int .i64 u.network.events, .slice au u.network.links.length cu, .slice au2 u.contingent.length cu2], OwnSl 3 1 a ((u.network.events).toNat) c (flL times5), Box pl [.int .i64 ((gt u.network.links i).src), .int .i64 ((gt u.network.links i).dst), .int .i64 ((gt u.network.links i).low), .int .i64 ((gt u.network.links i).high)]]) (fun _ => h648) ?_ (fun q16664 => ?_)
        · rintro t65 hF
          show J _ _ _ _ _ [(1, .pointer (some pu)), (4, .slice a ((u.network.events).toNat) c), (5, .bool again5), (6, .int .i64 k), (7, .int .i64 i), (8, .pointer (some pl)), (10, .int .i64 x), (65, .bool t65)] [Box pu [.int .i64 u.network.events, .slice au u.network.links.length cu, .slice au2 u.contingent.length cu2], OwnSl 3 1 a ((u.network.events).toNat) c (flL times5), Box pl [.int .i64 ((gt u.network.links i).src), .int .i64 ((gt u.network.links i).dst), .int .i64 ((gt u.network.links i).low), .int .i64 ((gt u.network.links i).high)]] h648
          refine .cond rfl (fun q16666 => ?_) (fun q16666 => ?_)
          · replace hF := hF.1 q16666
            refine .exit ?_
            refine .seqX ?_
            refine .blkX ?_
            refine .sel0 [0, 1] (by decide) rfl ?_
            exact .use q16646 (again5, times5) ⟨hF, q16491⟩ (.cons rfl (.cons rfl (.cons rfl (.cons rfl (.cons rfl (.nil)))))) rfl (le648)
          replace hF := hF.2 q16666
          refine .skip ?_
          refine .seqN ?_
          refine .seq ?_
          refine .region ?_
          refine .v (ldA (cs := [.int .i64 u.network.events, .slice au u.network.links.length cu, .slice au2 u.contingent.length cu2]) rfl tA51 rfl (cellsB (off := 0) (k := 0) rfl (m := 3) rfl)) rfl rfl rfl ?_
          refine .v (fa rfl tF35_1) rfl rfl rfl ?_
          refine .v (ld1 rfl tO3 (cellB (off := 1) (k := 2) rfl rfl)) rfl rfl rfl ?_
          obtain ⟨q16667, hF⟩ := hF
          obtain ⟨r5, q16668⟩ : ∃ y_ : Int, y_ = sp_baseOf u ((gt u.network.links i).dst) := ⟨_, rfl⟩
          replace hF := hF r5 q16668
          refine .c (cl (v := .int .i64 r5) Try.call54 rfl rfl (fun w S => (by rw [q16668]; exact c_baseOf S.sub u au cu (_q1.mono (le648)) _q2 au2 cu2 (_q3.mono (le648)) _q4 ((gt u.network.links i).dst) q16667))) rfl rfl rfl ?_
          refine .v (asg rfl) rfl rfl rfl ?_
          refine .nil ?_
          refine .seqN ?_
          refine .seq ?_
          refine .region ?_
          refine .v (fa rfl tF35_2) rfl rfl rfl ?_
          refine .v (ld1 rfl tO3 (cellB (off := 2) (k := 2) rfl rfl)) rfl rfl rfl ?_
          refine .v (mv rfl) rfl rfl rfl ?_
          refine .v (bi rfl rfl rfl) rfl rfl rfl ?_
          refine .v (asg rfl) rfl rfl rfl ?_
          refine .nil ?_
          refine .seqN ?_
          refine .seq ?_
          refine .seq ?_
          refine .region ?_
          refine .v (mv rfl) rfl rfl rfl ?_
          refine .v (fa rfl tF35_3) rfl rfl rfl ?_
          refine .v (ld1 rfl tO3 (cellB (off := 3) (k := 2) rfl rfl)) rfl rfl rfl ?_
          refine .v (bi rfl rfl rfl) rfl rfl rfl ?_
          refine .nil ?_
          refine .seqN ?_
          refine .shareT (σ := Int × Int) (fun z => F_strongTimes_J3 u K z.1 z.2 i I3 μ3 again5 times5) (fun z => [(1, .pointer (some pu)), (4, .slice a ((u.network.events).toNat) c), (6, .int .i64 k), (7, .int .i64 i), (8, .pointer (some pl)), (11, .int .i64 z.1), (12, .int .i64 z.2)]) (fun _ => [Box pu [.int .i64 u.network.events, .slice au u.network.links.length cu, .slice au2 u.contingent.length cu2], OwnSl 3 1 a ((u.network.events).toNat) c (flL times5), Box pl [.int .i64 ((gt u.network.links i).src), .int .i64 ((gt u.network.links i).dst), .int .i64 ((gt u.network.links i).low), .int .i64 ((gt u.network.links i).high)]]) (fun _ => h648) ?_ (fun q16672 => ?_)
          · rintro ⟨up, by_⟩ hF
            show J _ _ _ _ _ [(1, .pointer (some pu)), (4, .slice a ((u.network.events).toNat) c), (6, .int .i64 k), (7, .int .i64 i), (8, .pointer (some pl)), (11, .int .i64 up), (12, .int .i64 by_)] [Box pu [.int .i64 u.network.events, .slice au u.network.links.length cu, .slice au2 u.contingent.length cu2], OwnSl 3 1 a ((u.network.events).toNat) c (flL times5), Box pl [.int .i64 ((gt u.network.links i).src), .int .i64 ((gt u.network.links i).dst), .int .i64 ((gt u.network.links i).low), .int .i64 ((gt u.network.links i).high)]] h648
            refine .seq ?_
            refine .share (σ := Bool) (fun z => F_strongTimes_J4 K up by_ z i I3 μ3 again5 times5) (fun z => [(1, .pointer (some pu)), (4, .slice a ((u.network.events).toNat) c), (6, .int .i64 k), (7, .int .i64 i), (11, .int .i64 up), (12, .int .i64 by_), (107, .bool z)]) (fun _ => [Box pu [.int .i64 u.network.events, .slice au u.network.links.length cu, .slice au2 u.contingent.length cu2], OwnSl 3 1 a ((u.network.events).toNat) c (flL times5)]) (fun _ => h648) ?_ (fun q16679 => ?_)
            · rintro t107 hF
              show J _ _ _ _ _ [(1, .pointer (some pu)), (4, .slice a ((u.network.events).toNat) c), (6, .int .i64 k), (7, .int .i64 i), (11, .int .i64 up), (12, .int .i64 by_), (107, .bool t107)] [Box pu [.int .i64 u.network.events, .slice au u.network.links.length cu, .slice au2 u.contingent.length cu2], OwnSl 3 1 a ((u.network.events).toNat) c (flL times5)] h648
              refine .cond rfl (fun q16681 => ?_) (fun q16681 => ?_)
              · replace hF := hF.1 q16681
                refine .seq ?_
                refine .region ?_
                refine .v (asg rfl) rfl rfl rfl ?_
                refine .v (asg rfl) rfl rfl rfl ?_
                refine .nil ?_
                refine .seqN ?_
                refine .ret ?_
                refine .seqR ?_
                refine .blkR ?_
                refine .seqR ?_
                refine .seqR ?_
                refine .blkR ?_
                refine .blkR ?_
                refine .seqR ?_
                refine .seqR ?_
                refine .blkR ?_
                refine .blkR ?_
                refine .seqR ?_
                refine .blkR ?_
                refine .seqR ?_
                refine .res2 rfl (rvT rfl) (rvT rfl) (fun w' S => ⟨(([] : List Int), false), (none, 0), h648, hF, rfl, (le648), ⟨RSl.nil_, (Nat.le_refl 0)⟩, S.none⟩)
              replace hF := hF.2 q16681
              refine .skip ?_
              refine .seqN ?_
              refine .seq ?_
              refine .region ?_
              refine .v (mv rfl) rfl rfl rfl ?_
              refine .v (mv rfl) rfl rfl rfl ?_
              refine .v (mv rfl) rfl rfl rfl ?_
              refine .v (mv rfl) rfl rfl rfl ?_
              obtain ⟨q16682, hF⟩ := hF
              refine .v (ixS rfl rfl tS32 (k := 1) rfl (inb_n q16682 q16491)) rfl rfl rfl ?_
              refine .v (ld1 (v := .int .i64 (gt times5 up)) rfl tO3 (cellS (k := 1) rfl (flL_get q16682 (j := 0) rfl))) rfl rfl rfl ?_
              refine .v (mv rfl) rfl rfl rfl ?_
              refine .v (bi rfl rfl rfl) rfl rfl rfl ?_
              refine .v (ixS rfl rfl tS32 (k := 1) rfl (inb_n q16682 q16491)) rfl rfl rfl ?_
              obtain ⟨d, q16683⟩ : ∃ y_ : List Int, y_ = (times5.set (up).toNat (IntKind.i64.wrap ((gt times5 up) + by_))) := ⟨_, rfl⟩
              replace hF := hF d q16683
              refine stS (k := 1) (cs' := flL d) rfl (fun _ => rfl) rfl rfl (fun w => (tO3 w).2) rfl rfl rfl (by rw [← q16491]; exact inb_pos q16682) (fl_room q16682) (by rw [q16683]; exact flL_set q16682 (IntKind.i64.wrap ((gt times5 up) + by_))) ?_
              have q16684 : d.length = (u.network.events).toNat := by rw [q16683]; exact List.length_set.trans q16491
              refine .cast (A' := [Box pu [.int .i64 u.network.events, .slice au u.network.links.length cu, .slice au2 u.contingent.length cu2], OwnSl 3 1 a ((u.network.events).toNat) c (flL d)]) rfl ?_
              refine .nil ?_
              refine .seqN ?_
              refine .region ?_
              refine .v (asg rfl) rfl rfl rfl ?_
              refine .nil ?_
              refine .blkN ?_
              exact .use q16646 (true, d) ⟨hF, q16684⟩ (.cons rfl (.cons rfl (.cons rfl (.cons rfl (.cons rfl (.nil)))))) rfl (le648)
            refine .open_ (by kernel_rfl) (by kernel_rfl) ?_
            refine .v (mv rfl) rfl rfl rfl ?_
            refine .v (bi rfl rfl rfl) rfl rfl rfl ?_
            refine .v (mv rfl) rfl rfl rfl ?_
            rcases Bool.eq_false_or_eq_true (up == 0) with q16685 | q16685
            · replace hF := hF.1 q16685
              refine .gS rfl rfl rfl q16685 rfl rfl ?_
              refine .gS rfl rfl rfl q16685 rfl rfl ?_
              refine .gS rfl rfl rfl q16685 rfl rfl ?_
              refine .gS rfl rfl rfl q16685 rfl rfl ?_
              refine .gS rfl rfl rfl q16685 rfl rfl ?_
              refine .gS rfl rfl rfl q16685 rfl rfl ?_
              refine .gS rfl rfl rfl q16685 rfl rfl ?_
              refine .gS rfl rfl rfl q16685 rfl rfl ?_
              refine .gS rfl rfl rfl q16685 rfl rfl ?_
              refine .v (pkT rfl q16685 rfl) rfl rfl rfl ?_
              refine .v (mv rfl) rfl rfl rfl ?_
              refine .gS rfl rfl rfl rfl rfl rfl ?_
              refine .gS rfl rfl rfl rfl rfl rfl ?_
              refine .gS rfl rfl rfl rfl rfl rfl ?_
              refine .gS rfl rfl rfl rfl rfl rfl ?_
              refine .gS rfl rfl rfl rfl rfl rfl ?_
              refine .gS rfl rfl rfl rfl rfl rfl ?_
              refine .gS rfl rfl rfl rfl rfl rfl ?_
              refine .v (pkT rfl rfl rfl) rfl rfl rfl ?_
              refine .fin ?_
              refine .sel0 [0, 1] (by decide) rfl ?_
              exact .use q16679 true hF (.cons rfl (.cons rfl (.cons rfl (.cons rfl (.cons rfl (.cons rfl (.cons rfl (.nil)))))))) rfl (FH.le_refl _)
            replace hF := hF.2 q16685
            refine .gv (ldA (cs := [.int .i64 u.network.events, .slice au u.network.links.length cu, .slice au2 u.contingent.length cu2]) rfl tA51 rfl (cellsB (off := 0) (k := 0) rfl (m := 3) rfl)) rfl rfl rfl q16685 rfl rfl ?_
            refine .gv (fa rfl tF35_1) rfl rfl rfl q16685 rfl rfl ?_
            refine .gv (ld1 rfl tO3 (cellB (off := 1) (k := 2) rfl rfl)) rfl rfl rfl q16685 rfl rfl ?_
            obtain ⟨r6, q16686⟩ : ∃ y_ : Int, y_ = sp_baseOf u ((gt u.network.links i).dst) := ⟨_, rfl⟩
            replace hF := hF r6 q16686
            refine .gc (cl (v := .int .i64 r6) Try.call54 rfl rfl (fun w S => (by rw [q16686]; exact c_baseOf S.sub u au cu (_q1.mono (le648)) _q2 au2 cu2 (_q3.mono (le648)) _q4 ((gt u.network.links i).dst) q16667))) rfl rfl rfl q16685 rfl rfl ?_
            refine .gv (ldA (cs := [.int .i64 u.network.events, .slice au u.network.links.length cu, .slice au2 u.contingent.length cu2]) rfl tA51 rfl (cellsB (off := 0) (k := 0) rfl (m := 3) rfl)) rfl rfl rfl q16685 rfl rfl ?_
            refine .gv (fa rfl tF35_0) rfl rfl rfl q16685 rfl rfl ?_
            refine .gv (ld1 rfl tO3 (cellB (off := 0) (k := 2) rfl rfl)) rfl rfl rfl q16685 rfl rfl ?_
            obtain ⟨q16687, hF⟩ := hF
            obtain ⟨r7, q16688⟩ : ∃ y_ : Int, y_ = sp_baseOf u ((gt u.network.links i).src) := ⟨_, rfl⟩
            replace hF := hF r7 q16688
            refine .gc (cl (v := .int .i64 r7) Try.call54 rfl rfl (fun w S => (by rw [q16688]; exact c_baseOf S.sub u au cu (_q1.mono (le648)) _q2 au2 cu2 (_q3.mono (le648)) _q4 ((gt u.network.links i).src) q16687))) rfl rfl rfl q16685 rfl rfl ?_
            refine .gv (bi rfl rfl rfl) rfl rfl rfl q16685 rfl rfl ?_
            refine .v (pkF rfl q16685 rfl) rfl rfl rfl ?_
            refine .v (mv rfl) rfl rfl rfl ?_
            rcases Bool.eq_false_or_eq_true (r6 == r7) with q16689 | q16689
            · replace hF := hF.1 q16689
              refine .gS rfl rfl rfl q16689 rfl rfl ?_
              refine .gS rfl rfl rfl q16689 rfl rfl ?_
              refine .gS rfl rfl rfl q16689 rfl rfl ?_
              refine .gS rfl rfl rfl q16689 rfl rfl ?_
              refine .gS rfl rfl rfl q16689 rfl rfl ?_
              refine .gS rfl rfl rfl q16689 rfl rfl ?_
              refine .gS rfl rfl rfl q16689 rfl rfl ?_
              refine .v (pkT rfl q16689 rfl) rfl rfl rfl ?_
              refine .fin ?_
              refine .sel0 [0, 1] (by decide) rfl ?_
              exact .use q16679 true hF (.cons rfl (.cons rfl (.cons rfl (.cons rfl (.cons rfl (.cons rfl (.cons rfl (.nil)))))))) rfl (FH.le_refl _)
            replace hF := hF.2 q16689
            refine .gv (mv rfl) rfl rfl rfl q16689 rfl rfl ?_
            refine .gv (mv rfl) rfl rfl rfl q16689 rfl rfl ?_
            obtain ⟨q16690, hF⟩ := hF
            refine .gv (ixS rfl rfl tS32 (k := 1) rfl (inb_n q16690 q16491)) rfl rfl rfl q16689 rfl rfl ?_
            refine .gv (ld1 (v := .int .i64 (gt times5 up)) rfl tO3 (cellS (k := 1) rfl (flL_get q16690 (j := 0) rfl))) rfl rfl rfl q16689 rfl rfl ?_
            refine .gv (mv rfl) rfl rfl rfl q16689 rfl rfl ?_
            refine .gv (bi rfl rfl rfl) rfl rfl rfl q16689 rfl rfl ?_
            refine .gv (bi rfl rfl rfl) rfl rfl rfl q16689 rfl rfl ?_
            refine .v (pkF rfl q16689 rfl) rfl rfl rfl ?_
            refine .fin ?_
            refine .sel0 [0, 1] (by decide) rfl ?_
            exact .use q16679 (decide (100000 < (IntKind.i64.wrap ((gt times5 up) + by_)))) hF (.cons rfl (.cons rfl (.cons rfl (.cons rfl (.cons rfl (.cons rfl (.cons rfl (.nil)))))))) rfl (FH.le_refl _)
          refine .cond rfl (fun q16691 => ?_) (fun q16691 => ?_)
          · replace hF := hF.1 q16691
            refine .seq ?_
            refine .region ?_
            refine .v (ldA (cs := [.int .i64 u.network.events, .slice au u.network.links.length cu, .slice au2 u.contingent.length cu2]) rfl tA51 rfl (cellsB (off := 0) (k := 0) rfl (m := 3) rfl)) rfl rfl rfl ?_
            refine .v (fa rfl tF35_0) rfl rfl rfl ?_
            refine .v (ld1 rfl tO3 (cellB (off := 0) (k := 2) rfl rfl)) rfl rfl rfl ?_
            obtain ⟨q16692, hF⟩ := hF
            obtain ⟨r8, q16693⟩ : ∃ y_ : Int, y_ = sp_baseOf u ((gt u.network.links i).src) := ⟨_, rfl⟩
            replace hF := hF r8 q16693
            refine .c (cl (v := .int .i64 r8) Try.call54 rfl rfl (fun w S => (by rw [q16693]; exact c_baseOf S.sub u au cu (_q1.mono (le648)) _q2 au2 cu2 (_q3.mono (le648)) _q4 ((gt u.network.links i).src) q16692))) rfl rfl rfl ?_
            refine .v (asg rfl) rfl rfl rfl ?_
            refine .nil ?_
            refine .seqN ?_
            refine .region ?_
            refine .v (mv rfl) rfl rfl rfl ?_
            refine .v (fa rfl tF35_3) rfl rfl rfl ?_
            refine .v (ld1 rfl tO3 (cellB (off := 3) (k := 2) rfl rfl)) rfl rfl rfl ?_
            refine .v (bi rfl rfl rfl) rfl rfl rfl ?_
            refine .v (asg rfl) rfl rfl rfl ?_
            refine .nil ?_
            exact .use q16672 (r8, IntKind.i64.wrap (x - ((gt u.network.links i).high))) hF (.cons rfl (.cons rfl (.cons rfl (.cons rfl (.cons rfl (.cons rfl (.cons rfl (.nil)))))))) rfl (FH.le_refl _)
          replace hF := hF.2 q16691
          refine .skip ?_
          exact .use q16672 (r5, IntKind.i64.wrap (((gt u.network.links i).low) - x)) hF (.cons rfl (.cons rfl (.cons rfl (.cons rfl (.cons rfl (.cons rfl (.cons rfl (.nil)))))))) rfl (FH.le_refl _)
        refine .region ?_
        refine .v (mv rfl) rfl rfl rfl ?_
        refine .v (fa rfl tF35_2) rfl rfl rfl ?_
        refine .v (ld1 rfl tO3 (cellB (off := 2) (k := 1) rfl rfl)) rfl rfl rfl ?_
        refine .v (bi rfl rfl rfl) rfl rfl rfl ?_
        refine .v (mv rfl) rfl rfl rfl ?_
        rcases Bool.eq_false_or_eq_true (decide (((gt u.network.links i).low) ≤ x)) with q16694 | q16694
        · replace hF := hF.1 q16694
          refine .gv (mv rfl) rfl rfl rfl q16694 rfl rfl ?_
          refine .gv (fa rfl tF35_3) rfl rfl rfl q16694 rfl rfl ?_
          refine .gv (ld1 rfl tO3 (cellB (off := 3) (k := 1) rfl rfl)) rfl rfl rfl q16694 rfl rfl ?_
          refine .gv (bi rfl rfl rfl) rfl rfl rfl q16694 rfl rfl ?_
          refine .v (pkT rfl q16694 rfl) rfl rfl rfl ?_
          refine .nil ?_
          refine .sel0 [2, 3, 1] (by decide) rfl ?_
          exact .use q16664 (decide (x ≤ ((gt u.network.links i).high))) hF (.cons rfl (.cons rfl (.cons rfl (.cons rfl (.cons rfl (.cons rfl (.cons rfl (.cons rfl (.nil))))))))) rfl (FH.le_refl _)
        replace hF := hF.2 q16694
        refine .gS rfl rfl rfl q16694 rfl rfl ?_
        refine .gS rfl rfl rfl q16694 rfl rfl ?_
        refine .gS rfl rfl rfl q16694 rfl rfl ?_
        refine .gS rfl rfl rfl q16694 rfl rfl ?_
        refine .v (pkF rfl q16694 rfl) rfl rfl rfl ?_
        refine .nil ?_
        refine .sel0 [2, 3, 1] (by decide) rfl ?_
        exact .use q16664 false hF (.cons rfl (.cons rfl (.cons rfl (.cons rfl (.cons rfl (.cons rfl (.cons rfl (.cons rfl (.nil))))))))) rfl (FH.le_refl _)
      replace hF := hF.2 q16596
      refine .exit ?_
      refine .seqX ?_
      refine .seqX ?_
      refine .blkX ?_
      refine .blkN ?_
      refine .seqN ?_
      refine .region ?_
      refine .v (mv rfl) rfl rfl rfl ?_
      refine .v (bi rfl rfl rfl) rfl rfl rfl ?_
      refine .v (asg rfl) rfl rfl rfl ?_
      refine .nil ?_
      exact .round (again5, IntKind.i64.wrap (k + 1), times5) ⟨hF.1, q16491⟩ hF.2 (.cons rfl (.cons rfl (.cons rfl (.cons rfl (.nil))))) rfl (FH.le_refl _)
    replace hF := hF.2 q15776
    refine .exit ?_
    refine .seqX ?_
    refine .seqX ?_
    refine .blkX ?_
    refine .blkN ?_
    exact .round (again3, times3) ⟨hF.1, q14847⟩ hF.2 (.cons rfl (.cons rfl (.cons rfl (.nil)))) rfl (FH.le_refl _)
  replace hF := hF.2 q13922
  refine .exit ?_
  refine .seqX ?_
  refine .seqX ?_
  refine .blkX ?_
  refine .seqN ?_
  refine .seq ?_
  refine .seq ?_
  refine .region ?_
  refine .v (asg rfl) rfl rfl rfl ?_
  refine .nil ?_
  refine .seqN ?_
  refine .block ?_
  obtain ⟨I4, μ4, q16775, q16776⟩ := hF
  refine .loop' (σ := Int × List Int) (fun z => I4 z.1 z.2 ∧ z.2.length = (u.network.events).toNat) (fun z => μ4 z.1 z.2) (fun z => [(1, .pointer (some pu)), (4, .slice a ((u.network.events).toNat) c), (13, .int .i64 z.1)]) (fun z => [Box pu [.int .i64 u.network.events, .slice au u.network.links.length cu, .slice au2 u.contingent.length cu2], OwnSl 3 1 a ((u.network.events).toNat) c (flL z.2)]) (fun _ => h) (0, times) ⟨q16775, q11143⟩ (.cons rfl (.cons rfl (.cons rfl (.nil)))) rfl (FH.le_refl _) ?_
  rintro ⟨i3, times8⟩ ⟨q16775, q16759⟩
  have hF := q16776 i3 times8 q16775
  show J _ _ _ _ _ [(1, .pointer (some pu)), (4, .slice a ((u.network.events).toNat) c), (13, .int .i64 i3)] [Box pu [.int .i64 u.network.events, .slice au u.network.links.length cu, .slice au2 u.contingent.length cu2], OwnSl 3 1 a ((u.network.events).toNat) c (flL times8)] h
  refine .seq ?_
  refine .seq ?_
  refine .region ?_
  refine .v (mv rfl) rfl rfl rfl ?_
  refine .v (fa rfl tF51_1) rfl rfl rfl ?_
  refine .v (ld1 rfl tO22 (cellB (off := 2) (k := 0) rfl rfl)) rfl rfl rfl ?_
  refine .v (ln rfl tS22.is) rfl rfl rfl ?_
  refine .v (bi rfl rfl rfl) rfl rfl rfl ?_
  refine .nil ?_
  refine .seqN ?_
  refine .cond rfl (fun q16778 => ?_) (fun q16778 => ?_)
  · replace hF := hF.1 q16778
    refine .skip ?_
    refine .seqN ?_
    refine .seq ?_
    refine .block ?_
    refine .region ?_
    refine .v (mv rfl) rfl rfl rfl ?_
    refine .v (fa rfl tF51_1) rfl rfl rfl ?_
    refine .v (ld1 rfl tO22 (cellB (off := 2) (k := 0) rfl rfl)) rfl rfl rfl ?_
    refine .v (mv rfl) rfl rfl rfl ?_
    obtain ⟨q16787, hF⟩ := hF
    refine .v (ix rfl rfl tS22 (_q3.ne (by decide) (inb_pos q16787)) q16787) rfl rfl rfl ?_
    refine .v (fa rfl tF35_1) rfl rfl rfl ?_
    refine .v (ld1 (v := .int .i64 ((gt u.contingent i3).dst)) rfl tO3 (cellH (_q3.elemF q16787 (by decide) 1 _ rfl))) rfl rfl rfl ?_
    obtain ⟨q16788, hF⟩ := hF
    refine .v (ixS rfl rfl tS32 (k := 1) rfl (inb_n q16788 q16759)) rfl rfl rfl ?_
    obtain ⟨d2, q16789⟩ : ∃ y_ : List Int, y_ = (times8.set ((gt u.contingent i3).dst).toNat (-1)) := ⟨_, rfl⟩
    replace hF := hF d2 q16789
    refine stS (k := 1) (cs' := flL d2) rfl (fun _ => rfl) rfl rfl (fun w => (tO3 w).2) rfl rfl rfl (by rw [← q16759]; exact inb_pos q16788) (fl_room q16788) (by rw [q16789]; exact flL_set q16788 (-1)) ?_
    have q16790 : d2.length = (u.network.events).toNat := by rw [q16789]; exact List.length_set.trans q16759
    refine .cast (A' := [Box pu [.int .i64 u.network.events, .slice au u.network.links.length cu, .slice au2 u.contingent.length cu2], OwnSl 3 1 a ((u.network.events).toNat) c (flL d2)]) rfl ?_
    refine .nil ?_
    refine .blkN ?_
    refine .seqN ?_
    refine .region ?_
    refine .v (mv rfl) rfl rfl rfl ?_
    refine .v (bi rfl rfl rfl) rfl rfl rfl ?_
    refine .v (asg rfl) rfl rfl rfl ?_
    refine .nil ?_
    exact .round (IntKind.i64.wrap (i3 + 1), d2) ⟨hF.1, q16790⟩ hF.2 (.cons rfl (.cons rfl (.cons rfl (.nil)))) rfl (FH.le_refl _)
  replace hF := hF.2 q16778
  refine .exit ?_
  refine .seqX ?_
  refine .seqX ?_
  refine .blkX ?_
  refine .seqN ?_
  refine .seq ?_
  refine .region ?_
  refine .v (mv rfl) rfl rfl rfl ?_
  refine .v (asg rfl) rfl rfl rfl ?_
  refine .v (asg rfl) rfl rfl rfl ?_
  refine .nil ?_
  refine .seqN ?_
  refine .freezeL (k := 1) rfl (fun h649 le649 q16792 q16791 => ?_)
  refine .cast (A' := [Box pu [.int .i64 u.network.events, .slice au u.network.links.length cu, .slice au2 u.contingent.length cu2], tru]) rfl ?_
  refine .ret ?_
  refine .res2 rfl (rvT rfl) (rvT rfl) (fun w' S => ⟨(times8, true), (a, c), h649, hF, (by simp only [q16759]), (le649), ⟨(RSl.of q16791), (by rw [q16759]; exact q16792)⟩, S.none⟩)

theorem c_strongTimes {h : FH} {w : World} (hs : Sub h w) (u : Uncertain) (au : Option Addr) (cu : Nat) (_q1 : RSl h au u.network.links) (_q2 : u.network.links.length ≤ cu) (au2 : Option Addr) (cu2 : Nat) (_q3 : RSl h au2 u.contingent) (_q4 : u.contingent.length ≤ cu2) (hp : pre_strongTimes u) : Calls Try.prog 32 #[.agg #[.int .i64 u.network.events, .slice au u.network.links.length cu, .slice au2 u.contingent.length cu2]] w fun e w' => ∃ (z : Option Addr × Nat) (h1 : FH), e = .returned (.tuple #[.slice z.1 (sp_strongTimes u).1.length z.2, .bool (sp_strongTimes u).2]) ∧ FH.le h h1 ∧ (RSl h1 z.1 (sp_strongTimes u).1 ∧ (sp_strongTimes u).1.length ≤ z.2) ∧ SH (Kp.all w h) h1 w' [] :=
  (w_strongTimes hs u au cu _q1 _q2 au2 cu2 _q3 _q4 (fun r => r = sp_strongTimes u) (ok_strongTimes u hp)).mono fun _ _ ⟨r, z, h1, hk, he, hl, hf, hS⟩ => by subst hk; exact ⟨z, h1, he, hl, hf, hS⟩

theorem w_dispatch {h : FH} {w : World} (hs : Sub h w) (u : Uncertain) (au : Option Addr) (cu : Nat) (_q1 : RSl h au u.network.links) (_q2 : u.network.links.length ≤ cu) (au2 : Option Addr) (cu2 : Nat) (_q3 : RSl h au2 u.contingent) (_q4 : u.contingent.length ≤ cu2) (durations : List Int) (adurations : Option Addr) (cdurations : Nat) (_q5 : RSl h adurations durations) (_q6 : durations.length ≤ cdurations) (K : (List Int × Bool × Fault) → Prop) (hF : F_dispatch u durations K) : Calls Try.prog 36 #[.agg #[.int .i64 u.network.events, .slice au u.network.links.length cu, .slice au2 u.contingent.length cu2], .slice adurations durations.length cdurations] w fun e w' => ∃ (r : List Int × Bool × Fault) (z : Option Addr × Nat) (h1 : FH), K r ∧ e = .returned (.tuple #[.slice z.1 r.1.length z.2, .bool r.2.1, .agg #[.int .i64 r.2.2.code, .int .i64 r.2.2.index]]) ∧ FH.le h h1 ∧ (RSl h1 z.1 r.1 ∧ r.1.length ≤ z.2) ∧ SH (Kp.all w h) h1 w' [] := by
  refine enter (args := [.agg #[.int .i64 u.network.events, .slice au u.network.links.length cu, .slice au2 u.contingent.length cu2], .slice adurations durations.length cdurations]) Try.func36 rfl Try.ntmps36 rfl hs ?_
  refine .seq ?_
  refine .region ?_
  refine bx (vs := [.int .i64 u.network.events, .slice au u.network.links.length cu, .slice au2 u.contingent.length cu2]) rfl rfl rfl (fun pu => ?_)
  refine .v (asg rfl) rfl rfl rfl ?_
  refine .v (asg rfl) rfl rfl rfl ?_
  refine al tZ27 rfl (fun pv => ?_)
  refine .nil ?_
  refine .seqN ?_
  refine .seq ?_
  refine .seq ?_
  refine .region ?_
  refine .v (ldA (cs := [.int .i64 u.network.events, .slice au u.network.links.length cu, .slice au2 u.contingent.length cu2]) rfl tA51 rfl (cellsB (off := 0) (k := 1) rfl (m := 3) rfl)) rfl rfl rfl ?_
  refine .v (mv rfl) rfl rfl rfl ?_
  obtain ⟨r2, q7⟩ : ∃ y_ : Fault, y_ = sp_check u durations := ⟨_, rfl⟩
  replace hF := hF r2 q7
  refine .c (cl (v := .agg #[.int .i64 r2.code, .int .i64 r2.index]) Try.call57 rfl rfl (fun w S => (by rw [q7]; exact c_check S.sub u au cu _q1 _q2 au2 cu2 _q3 _q4 durations adurations cdurations _q5 _q6 ))) rfl rfl rfl ?_
  refine al tZ27 rfl (fun pf => ?_)
  refine st (p := pf) (off := 0) (k := 0) (vs := [.int .i64 r2.code, .int .i64 r2.index]) rfl rfl rfl (fun w => (tA27 w).2) rfl rfl rfl rfl ?_
  refine .cast (A' := [Box pf [.int .i64 r2.code, .int .i64 r2.index], Box pv [.int .i64 0, .int .i64 0], Box pu [.int .i64 u.network.events, .slice au u.network.links.length cu, .slice au2 u.contingent.length cu2]]) rfl ?_
  refine .nil ?_
  refine .seqN ?_
  refine .seq ?_
  refine .region ?_
  refine .v (ldA (cs := [.int .i64 r2.code, .int .i64 r2.index]) rfl tA27 rfl (cellsB (off := 0) (k := 0) rfl (m := 2) rfl)) rfl rfl rfl ?_
  refine .v (bld (cs := #[.int .i64 0, .int .i64 0]) (pv := []) tB27 rfl rfl) rfl rfl rfl ?_
  refine .v (ne2 tE27 rfl rfl) rfl rfl rfl ?_
  refine .nil ?_
  refine .seqN ?_
  refine .cond rfl (fun q9 => ?_) (fun q9 => ?_)
  · replace hF := hF.1 q9
    refine .seq ?_
    refine .openL (by kernel_rfl) rfl (by kernel_rfl) (by kernel_rfl) ?_
    refine .v (ldA (cs := [.int .i64 r2.code, .int .i64 r2.index]) rfl tA27 rfl (cellsB (off := 0) (k := 0) rfl (m := 2) rfl)) rfl rfl rfl ?_
    refine .v (asg rfl) rfl rfl rfl ?_
    refine .v (asg rfl) rfl rfl rfl ?_
    refine .tail ?_
    refine st (p := pv) (off := 0) (k := 1) (vs := [.int .i64 r2.code, .int .i64 r2.index]) rfl rfl rfl (fun w => (tA27 w).2) rfl rfl rfl rfl ?_
    refine .cast (A' := [Box pf [.int .i64 r2.code, .int .i64 r2.index], Box pv [.int .i64 r2.code, .int .i64 r2.index], Box pu [.int .i64 u.network.events, .slice au u.network.links.length cu, .slice au2 u.contingent.length cu2]]) rfl ?_
    refine .nil ?_
    refine .seqN ?_
    refine .ret ?_
    refine .seqR ?_
    refine .res3 rfl (rvT rfl) (rvT rfl) (rvC rfl tA27 (k := 1) rfl rfl) (fun w' S => ⟨(([] : List Int), false, r2), (none, 0), h, hF, rfl, (FH.le_refl _), ⟨RSl.nil_, (Nat.le_refl 0)⟩, S.none⟩)
  replace hF := hF.2 q9
  refine .skip ?_
  refine .seqN ?_
  refine .seq ?_
  refine .region ?_
  refine .v (ldA (cs := [.int .i64 u.network.events, .slice au u.network.links.length cu, .slice au2 u.contingent.length cu2]) rfl tA51 rfl (cellsB (off := 0) (k := 2) rfl (m := 3) rfl)) rfl rfl rfl ?_
  obtain ⟨r3, q10⟩ : ∃ y_ : List Int × Bool × Fault, y_ = sp_strong u := ⟨_, rfl⟩
  replace hF := hF r3 q10
  refine clO (α := Option Addr × Nat) (V := fun z => .tuple #[.slice z.1 r3.1.length z.2, .bool r3.2.1, .agg #[.int .i64 r3.2.2.code, .int .i64 r3.2.2.index]]) (Ψ := fun z => True) (B := fun z => [OwnSl 3 1 z.1 r3.1.length z.2 (flL r3.1)]) Try.call28 rfl rfl (fun w S => (by rw [q10]; exact c_strong S.sub u au cu _q1 _q2 au2 cu2 _q3 _q4 )) rfl (fun z _ => ?_)
  obtain ⟨a, c⟩ := z
  refine .cast (A' := [OwnSl 3 1 a r3.1.length c (flL r3.1), Box pf [.int .i64 r2.code, .int .i64 r2.index], Box pv [.int .i64 0, .int .i64 0], Box pu [.int .i64 u.network.events, .slice au u.network.links.length cu, .slice au2 u.contingent.length cu2]]) rfl ?_
  refine .v (mv rfl) rfl rfl rfl ?_
  refine .v (ext rfl rfl) rfl rfl rfl ?_
  refine .v (ext rfl rfl) rfl rfl rfl ?_
  refine .v (ext rfl rfl) rfl rfl rfl ?_
  refine al tZ27 rfl (fun pf2 => ?_)
  refine .v (asg rfl) rfl rfl rfl ?_
  refine .v (asg rfl) rfl rfl rfl ?_
  refine st (p := pf2) (off := 0) (k := 0) (vs := [.int .i64 r3.2.2.code, .int .i64 r3.2.2.index]) rfl rfl rfl (fun w => (tA27 w).2) rfl rfl rfl rfl ?_
  refine .cast (A' := [Box pf2 [.int .i64 r3.2.2.code, .int .i64 r3.2.2.index], OwnSl 3 1 a r3.1.length c (flL r3.1), Box pf [.int .i64 r2.code, .int .i64 r2.index], Box pv [.int .i64 0, .int .i64 0], Box pu [.int .i64 u.network.events, .slice au u.network.links.length cu, .slice au2 u.contingent.length cu2]]) rfl ?_
  refine .nil ?_
  refine .seqN ?_
  refine .seq ?_
  refine .seq ?_
  refine .region ?_
  refine .v (mv rfl) rfl rfl rfl ?_
  refine .v (nt rfl) rfl rfl rfl ?_
  refine .nil ?_
  refine .seqN ?_
  refine .cond rfl (fun q12 => ?_) (fun q12 => ?_)
  · replace hF := hF.1 q12
    refine .seq ?_
    refine .openL (by kernel_rfl) rfl (by kernel_rfl) (by kernel_rfl) ?_
    refine .v (ldA (cs := [.int .i64 r3.2.2.code, .int .i64 r3.2.2.index]) rfl tA27 rfl (cellsB (off := 0) (k := 0) rfl (m := 2) rfl)) rfl rfl rfl ?_
    refine .v (asg rfl) rfl rfl rfl ?_
    refine .v (asg rfl) rfl rfl rfl ?_
    refine .tail ?_
    refine st (p := pv) (off := 0) (k := 3) (vs := [.int .i64 r3.2.2.code, .int .i64 r3.2.2.index]) rfl rfl rfl (fun w => (tA27 w).2) rfl rfl rfl rfl ?_
    refine .cast (A' := [Box pf2 [.int .i64 r3.2.2.code, .int .i64 r3.2.2.index], OwnSl 3 1 a r3.1.length c (flL r3.1), Box pf [.int .i64 r2.code, .int .i64 r2.index], Box pv [.int .i64 r3.2.2.code, .int .i64 r3.2.2.index], Box pu [.int .i64 u.network.events, .slice au u.network.links.length cu, .slice au2 u.contingent.length cu2]]) rfl ?_
    refine .nil ?_
    refine .seqN ?_
    refine .ret ?_
    refine .seqR ?_
    refine .res3 rfl (rvT rfl) (rvT rfl) (rvC rfl tA27 (k := 3) rfl rfl) (fun w' S => ⟨(([] : List Int), false, r3.2.2), (none, 0), h, hF, rfl, (FH.le_refl _), ⟨RSl.nil_, (Nat.le_refl 0)⟩, S.none⟩)
  replace hF := hF.2 q12
  refine .skip ?_
  refine .seqN ?_
  refine .seq ?_
  refine .seq ?_
  refine .region ?_
  refine .v (fa rfl tF51_1) rfl rfl rfl ?_
  refine .v (ld1 rfl tO22 (cellB (off := 2) (k := 4) rfl rfl)) rfl rfl rfl ?_
  refine .v (ln rfl tS22.is) rfl rfl rfl ?_
  refine .v (mv rfl) rfl rfl rfl ?_
  refine .nil ?_
  refine .seqN ?_
  refine .block ?_
  refine .sel0 [3, 1, 0] (by decide) rfl ?_
  obtain ⟨I1, μ1, q143, q144⟩ := hF
  refine .loop' (σ := Int × List Int) (fun z => I1 z.1 z.2 ∧ z.2.length = r3.1.length) (fun z => μ1 z.1 z.2) (fun z => [(1, .slice adurations durations.length cdurations), (6, .pointer (some pv)), (8, .slice a r3.1.length c), (10, .pointer (some pf2)), (30, .slice au2 u.contingent.length cu2), (31, .int .i64 ((u.contingent.length : Nat) : Int)), (32, .int .i64 z.1)]) (fun z => [Box pv [.int .i64 0, .int .i64 0], OwnSl 3 1 a r3.1.length c (flL z.2), Box pf2 [.int .i64 r3.2.2.code, .int .i64 r3.2.2.index]]) (fun _ => h) (0, r3.1) ⟨q143, rfl⟩ (.cons rfl (.cons rfl (.cons rfl (.cons rfl (.cons rfl (.cons rfl (.cons rfl (.nil)))))))) rfl (FH.le_refl _) ?_
  rintro ⟨t32, out⟩ ⟨q143, q117⟩
  have hF := q144 t32 out q143
  show J _ _ _ _ _ [(1, .slice adurations durations.length cdurations), (6, .pointer (some pv)), (8, .slice a r3.1.length c), (10, .pointer (some pf2)), (30, .slice au2 u.contingent.length cu2), (31, .int .i64 ((u.contingent.length : Nat) : Int)), (32, .int .i64 t32)] [Box pv [.int .i64 0, .int .i64 0], OwnSl 3 1 a r3.1.length c (flL out), Box pf2 [.int .i64 r3.2.2.code, .int .i64 r3.2.2.index]] h
  refine .seq ?_
  refine .region ?_
  refine .v (bi rfl rfl rfl) rfl rfl rfl ?_
  refine .nil ?_
  refine .seqN ?_
  refine .seq ?_
  refine .cond rfl (fun q147 => ?_) (fun q147 => ?_)
  · replace hF := hF.1 q147
    refine .skip ?_
    refine .seqN ?_
    refine .seq ?_
    refine .block ?_
    refine .seq ?_
    refine .region ?_
    refine .v (mv rfl) rfl rfl rfl ?_
    obtain ⟨q162, hF⟩ := hF
    refine .v (ix rfl rfl tS22 (_q3.ne (by decide) (inb_pos q162)) q162) rfl rfl rfl ?_
    refine .v (ldA (cs := [.int .i64 ((gt u.contingent t32).src), .int .i64 ((gt u.contingent t32).dst), .int .i64 ((gt u.contingent t32).low), .int .i64 ((gt u.contingent t32).high)]) rfl tA35 rfl (cellsH (_q3.elemF q162 (by decide)))) rfl rfl rfl ?_
    refine al tZ35 rfl (fun pl => ?_)
    refine .v (asg rfl) rfl rfl rfl ?_
    refine st (p := pl) (off := 0) (k := 0) (vs := [.int .i64 ((gt u.contingent t32).src), .int .i64 ((gt u.contingent t32).dst), .int .i64 ((gt u.contingent t32).low), .int .i64 ((gt u.contingent t32).high)]) rfl rfl rfl (fun w => (tA35 w).2) rfl rfl rfl rfl ?_
    refine .cast (A' := [Box pl [.int .i64 ((gt u.contingent t32).src), .int .i64 ((gt u.contingent t32).dst), .int .i64 ((gt u.contingent t32).low), .int .i64 ((gt u.contingent t32).high)], Box pv [.int .i64 0, .int .i64 0], OwnSl 3 1 a r3.1.length c (flL out), Box pf2 [.int .i64 r3.2.2.code, .int .i64 r3.2.2.index]]) rfl ?_
    refine .nil ?_
    refine .seqN ?_
    refine .openL (by kernel_rfl) rfl (by kernel_rfl) (by kernel_rfl) ?_
    refine .v (mv rfl) rfl rfl rfl ?_
    refine .v (fa rfl tF35_1) rfl rfl rfl ?_
    refine .v (ld1 rfl tO3 (cellB (off := 1) (k := 0) rfl rfl)) rfl rfl rfl ?_
    refine .v (mv rfl) rfl rfl rfl ?_
    refine .v (fa rfl tF35_0) rfl rfl rfl ?_
    refine .v (ld1 rfl tO3 (cellB (off := 0) (k := 0) rfl rfl)) rfl rfl rfl ?_
    obtain ⟨q163, hF⟩ := hF
    refine .v (ixS rfl rfl tS32 (k := 2) rfl (inb_n q163 q117)) rfl rfl rfl ?_
    refine .v (ld1 (v := .int .i64 (gt out ((gt u.contingent t32).src))) rfl tO3 (cellS (k := 2) rfl (flL_get q163 (j := 0) rfl))) rfl rfl rfl ?_
    refine .v (mv rfl) rfl rfl rfl ?_
    refine .v (mv rfl) rfl rfl rfl ?_
    obtain ⟨q164, hF⟩ := hF
    refine .v (ix rfl rfl tS32 (_q5.ne (by decide) (inb_pos q164)) q164) rfl rfl rfl ?_
    refine .v (ld1 (v := .int .i64 (gt durations t32)) rfl tO3 (cellH (_q5.elemF q164 (by decide) 0 _ rfl))) rfl rfl rfl ?_
    obtain ⟨x, q165⟩ : ∃ y_ : Int, y_ = (IntKind.i64.wrap ((gt out ((gt u.contingent t32).src)) + (gt durations t32))) := ⟨_, rfl⟩
    replace hF := hF x q165
    refine .v (v := .int .i64 x) (by rw [q165]; exact bi rfl rfl rfl) rfl rfl rfl ?_
    obtain ⟨q166, hF⟩ := hF
    refine .v (ixS rfl rfl tS32 (k := 2) rfl (inb_n q166 q117)) rfl rfl rfl ?_
    refine .tail ?_
    obtain ⟨d, q167⟩ : ∃ y_ : List Int, y_ = (out.set ((gt u.contingent t32).dst).toNat x) := ⟨_, rfl⟩
    replace hF := hF d q167
    refine stS (k := 2) (cs' := flL d) rfl (fun _ => rfl) rfl rfl (fun w => (tO3 w).2) rfl rfl rfl (by rw [← q117]; exact inb_pos q166) (fl_room q166) (by rw [q167]; exact flL_set q166 x) ?_
    have q168 : d.length = r3.1.length := by rw [q167]; exact List.length_set.trans q117
    refine .cast (A' := [Box pl [.int .i64 ((gt u.contingent t32).src), .int .i64 ((gt u.contingent t32).dst), .int .i64 ((gt u.contingent t32).low), .int .i64 ((gt u.contingent t32).high)], Box pv [.int .i64 0, .int .i64 0], OwnSl 3 1 a r3.1.length c (flL d), Box pf2 [.int .i64 r3.2.2.code, .int .i64 r3.2.2.index]]) rfl ?_
    refine .nil ?_
    refine .blkN ?_
    refine .seqN ?_
    refine .region ?_
    refine .v (bi rfl rfl rfl) rfl rfl rfl ?_
    refine .v (mv rfl) rfl rfl rfl ?_
    refine .nil ?_
    refine .sel0 [1, 2, 3] (by decide) rfl ?_
    exact .round (IntKind.i64.wrap (t32 + 1), d) ⟨hF.1, q168⟩ hF.2 (.cons rfl (.cons rfl (.cons rfl (.cons rfl (.cons rfl (.cons rfl (.cons rfl (.nil)))))))) rfl (FH.le_refl _)
  replace hF := hF.2 q147
  refine .exit ?_
  refine .seqX ?_
  refine .seqX ?_
  refine .blkX ?_
  refine .seqN ?_
  refine .seq ?_
  refine .openL (by kernel_rfl) rfl (by kernel_rfl) (by kernel_rfl) ?_
  refine .v (mv rfl) rfl rfl rfl ?_
  refine .v (ldA (cs := [.int .i64 r3.2.2.code, .int .i64 r3.2.2.index]) rfl tA27 rfl (cellsB (off := 0) (k := 2) rfl (m := 2) rfl)) rfl rfl rfl ?_
  refine .v (asg rfl) rfl rfl rfl ?_
  refine .v (asg rfl) rfl rfl rfl ?_
  refine .tail ?_
  refine st (p := pv) (off := 0) (k := 0) (vs := [.int .i64 r3.2.2.code, .int .i64 r3.2.2.index]) rfl rfl rfl (fun w => (tA27 w).2) rfl rfl rfl rfl ?_
  refine .cast (A' := [Box pv [.int .i64 r3.2.2.code, .int .i64 r3.2.2.index], OwnSl 3 1 a r3.1.length c (flL out), Box pf2 [.int .i64 r3.2.2.code, .int .i64 r3.2.2.index]]) rfl ?_
  refine .nil ?_
  refine .seqN ?_
  refine .freezeL (k := 1) rfl (fun h1 le1 q170 q169 => ?_)
  refine .cast (A' := [Box pv [.int .i64 r3.2.2.code, .int .i64 r3.2.2.index], tru, Box pf2 [.int .i64 r3.2.2.code, .int .i64 r3.2.2.index]]) rfl ?_
  refine .ret ?_
  refine .res3 rfl (rvT rfl) (rvT rfl) (rvC rfl tA27 (k := 0) rfl rfl) (fun w' S => ⟨(out, true, r3.2.2), (a, c), h1, hF, (by simp only [q117]), (le1), ⟨(RSl.of q169), (by rw [q117]; exact q170)⟩, S.none⟩)

theorem c_dispatch {h : FH} {w : World} (hs : Sub h w) (u : Uncertain) (au : Option Addr) (cu : Nat) (_q1 : RSl h au u.network.links) (_q2 : u.network.links.length ≤ cu) (au2 : Option Addr) (cu2 : Nat) (_q3 : RSl h au2 u.contingent) (_q4 : u.contingent.length ≤ cu2) (durations : List Int) (adurations : Option Addr) (cdurations : Nat) (_q5 : RSl h adurations durations) (_q6 : durations.length ≤ cdurations) : Calls Try.prog 36 #[.agg #[.int .i64 u.network.events, .slice au u.network.links.length cu, .slice au2 u.contingent.length cu2], .slice adurations durations.length cdurations] w fun e w' => ∃ (z : Option Addr × Nat) (h1 : FH), e = .returned (.tuple #[.slice z.1 (sp_dispatch u durations).1.length z.2, .bool (sp_dispatch u durations).2.1, .agg #[.int .i64 (sp_dispatch u durations).2.2.code, .int .i64 (sp_dispatch u durations).2.2.index]]) ∧ FH.le h h1 ∧ (RSl h1 z.1 (sp_dispatch u durations).1 ∧ (sp_dispatch u durations).1.length ≤ z.2) ∧ SH (Kp.all w h) h1 w' [] :=
  (w_dispatch hs u au cu _q1 _q2 au2 cu2 _q3 _q4 durations adurations cdurations _q5 _q6 (fun r => r = sp_dispatch u durations) (ok_dispatch u durations)).mono fun _ _ ⟨r, z, h1, hk, he, hl, hf, hS⟩ => by subst hk; exact ⟨z, h1, he, hl, hf, hS⟩

theorem w_net {h : FH} {w : World} (hs : Sub h w) (a : Network) (aa : Option Addr) (ca : Nat) (_q1 : RSl h aa a.links) (_q2 : a.links.length ≤ ca) (b : Network) (ab : Option Addr) (cb : Nat) (_q3 : RSl h ab b.links) (_q4 : b.links.length ≤ cb) (K : Bool → Prop) (hF : F_net a b K) : Calls Try.prog 42 #[.agg #[.int .i64 a.events, .slice aa a.links.length ca], .agg #[.int .i64 b.events, .slice ab b.links.length cb]] w fun e w' => ∃ r : Bool, K r ∧ e = .returned (.bool r) ∧ Below w.heap.size w w' := by
  refine enter (args := [.agg #[.int .i64 a.events, .slice aa a.links.length ca], .agg #[.int .i64 b.events, .slice ab b.links.length cb]]) Try.func42 rfl Try.ntmps42 rfl hs ?_
  refine .seq ?_
  refine .region ?_
  refine bx (vs := [.int .i64 a.events, .slice aa a.links.length ca]) rfl rfl rfl (fun pa => ?_)
  refine bx (vs := [.int .i64 b.events, .slice ab b.links.length cb]) rfl rfl rfl (fun pb => ?_)
  refine .v (asg rfl) rfl rfl rfl ?_
  refine .nil ?_
  refine .seqN ?_
  refine .seq ?_
  refine .share (σ := Bool) (fun z => F_net_J1 a b K z) (fun z => [(2, .pointer (some pa)), (3, .pointer (some pb)), (19, .bool z)]) (fun _ => [Box pa [.int .i64 a.events, .slice aa a.links.length ca], Box pb [.int .i64 b.events, .slice ab b.links.length cb]]) (fun _ => h) ?_ (fun q6 => ?_)
  · rintro t19 hF
    show J _ _ _ _ _ [(2, .pointer (some pa)), (3, .pointer (some pb)), (19, .bool t19)] [Box pa [.int .i64 a.events, .slice aa a.links.length ca], Box pb [.int .i64 b.events, .slice ab b.links.length cb]] h
    refine .cond rfl (fun q8 => ?_) (fun q8 => ?_)
    · replace hF := hF.1 q8
      refine .seq ?_
      refine .region ?_
      refine .v (asg rfl) rfl rfl rfl ?_
      refine .nil ?_
      refine .seqN ?_
      refine .ret ?_
      refine .seqR ?_
      refine .res1 rfl (rvT rfl) (fun w' S => ⟨false, hF, rfl, S.below⟩)
    replace hF := hF.2 q8
    refine .skip ?_
    refine .seqN ?_
    refine .seq ?_
    refine .seq ?_
    refine .region ?_
    refine .v (asg rfl) rfl rfl rfl ?_
    refine .nil ?_
    refine .seqN ?_
    refine .block ?_
    obtain ⟨I1, μ1, q81, q82⟩ := hF
    refine .loop' (σ := Int) (fun z => I1 z) (fun z => μ1 z) (fun z => [(2, .pointer (some pa)), (3, .pointer (some pb)), (5, .int .i64 z)]) (fun _ => [Box pa [.int .i64 a.events, .slice aa a.links.length ca], Box pb [.int .i64 b.events, .slice ab b.links.length cb]]) (fun _ => h) 0 q81 (.cons rfl (.cons rfl (.cons rfl (.nil)))) rfl (FH.le_refl _) ?_
    rintro i q81
    have hF := q82 i q81
    show J _ _ _ _ _ [(2, .pointer (some pa)), (3, .pointer (some pb)), (5, .int .i64 i)] [Box pa [.int .i64 a.events, .slice aa a.links.length ca], Box pb [.int .i64 b.events, .slice ab b.links.length cb]] h
    refine .seq ?_
    refine .seq ?_
    refine .region ?_
    refine .v (mv rfl) rfl rfl rfl ?_
    refine .v (fa rfl tF24_1) rfl rfl rfl ?_
    refine .v (ld1 rfl tO22 (cellB (off := 1) (k := 0) rfl rfl)) rfl rfl rfl ?_
    refine .v (ln rfl tS22.is) rfl rfl rfl ?_
    refine .v (bi rfl rfl rfl) rfl rfl rfl ?_
    refine .nil ?_
    refine .seqN ?_
    refine .cond rfl (fun q84 => ?_) (fun q84 => ?_)
    · replace hF := hF.1 q84
      refine .skip ?_
      refine .seqN ?_
      refine .seq ?_
      refine .block ?_
      refine .seq ?_
      refine .open_ (by kernel_rfl) (by kernel_rfl) ?_
      refine .v (fa rfl tF24_1) rfl rfl rfl ?_
      refine .v (ld1 rfl tO22 (cellB (off := 1) (k := 0) rfl rfl)) rfl rfl rfl ?_
      refine .v (mv rfl) rfl rfl rfl ?_
      obtain ⟨q93, hF⟩ := hF
      refine .v (ix rfl rfl tS22 (_q1.ne (by decide) (inb_pos q93)) q93) rfl rfl rfl ?_
      refine .v (ldA (cs := [.int .i64 ((gt a.links i).src), .int .i64 ((gt a.links i).dst), .int .i64 ((gt a.links i).low), .int .i64 ((gt a.links i).high)]) rfl tA35 rfl (cellsH (_q1.elemF q93 (by decide)))) rfl rfl rfl ?_
      refine .v (fa rfl tF24_1) rfl rfl rfl ?_
      refine .v (ld1 rfl tO22 (cellB (off := 1) (k := 1) rfl rfl)) rfl rfl rfl ?_
      refine .v (mv rfl) rfl rfl rfl ?_
      obtain ⟨q94, hF⟩ := hF
      refine .v (ix rfl rfl tS22 (_q3.ne (by decide) (inb_pos q94)) q94) rfl rfl rfl ?_
      refine .v (ldA (cs := [.int .i64 ((gt b.links i).src), .int .i64 ((gt b.links i).dst), .int .i64 ((gt b.links i).low), .int .i64 ((gt b.links i).high)]) rfl tA35 rfl (cellsH (_q3.elemF q94 (by decide)))) rfl rfl rfl ?_
      obtain ⟨x, q95⟩ : ∃ y_ : Bool, y_ = (!(((((gt a.links i).src) == ((gt b.links i).src)) && (((gt a.links i).dst) == ((gt b.links i).dst))) && ((((gt a.links i).low) == ((gt b.links i).low)) && (((gt a.links i).high) == ((gt b.links i).high))))) := ⟨_, rfl⟩
      replace hF := hF x q95
      refine .v (v := .bool x) (by rw [q95]; exact ne4 tE35 rfl rfl) rfl rfl rfl ?_
      refine .fin ?_
      refine .seqN ?_
      refine .cond rfl (fun q96 => ?_) (fun q96 => ?_)
      · replace hF := hF.1 q96
        refine .seq ?_
        refine .region ?_
        refine .v (asg rfl) rfl rfl rfl ?_
        refine .nil ?_
        refine .seqN ?_
        refine .ret ?_
        refine .blkR ?_
        refine .seqR ?_
        refine .seqR ?_
        refine .blkR ?_
        refine .seqR ?_
        refine .res1 rfl (rvT rfl) (fun w' S => ⟨false, hF, rfl, S.below⟩)
      replace hF := hF.2 q96
      refine .skip ?_
      refine .blkN ?_
      refine .seqN ?_
      refine .region ?_
      refine .v (mv rfl) rfl rfl rfl ?_
      refine .v (bi rfl rfl rfl) rfl rfl rfl ?_
      refine .v (asg rfl) rfl rfl rfl ?_
      refine .nil ?_
      exact .round (IntKind.i64.wrap (i + 1)) hF.1 hF.2 (.cons rfl (.cons rfl (.cons rfl (.nil)))) rfl (FH.le_refl _)
    replace hF := hF.2 q84
    refine .exit ?_
    refine .seqX ?_
    refine .seqX ?_
    refine .blkX ?_
    refine .seqN ?_
    refine .seq ?_
    refine .region ?_
    refine .v (asg rfl) rfl rfl rfl ?_
    refine .nil ?_
    refine .seqN ?_
    refine .ret ?_
    refine .res1 rfl (rvT rfl) (fun w' S => ⟨true, hF, rfl, S.below⟩)
  refine .region ?_
  refine .v (fa rfl tF24_0) rfl rfl rfl ?_
  refine .v (ld1 rfl tO3 (cellB (off := 0) (k := 1) rfl rfl)) rfl rfl rfl ?_
  refine .v (fa rfl tF24_0) rfl rfl rfl ?_
  refine .v (ld1 rfl tO3 (cellB (off := 0) (k := 0) rfl rfl)) rfl rfl rfl ?_
  refine .v (bi rfl rfl rfl) rfl rfl rfl ?_
  refine .v (mv rfl) rfl rfl rfl ?_
  rcases Bool.eq_false_or_eq_true (a.events != b.events) with q97 | q97
  · replace hF := hF.1 q97
    refine .gS rfl rfl rfl q97 rfl rfl ?_
    refine .gS rfl rfl rfl q97 rfl rfl ?_
    refine .gS rfl rfl rfl q97 rfl rfl ?_
    refine .gS rfl rfl rfl q97 rfl rfl ?_
    refine .gS rfl rfl rfl q97 rfl rfl ?_
    refine .gS rfl rfl rfl q97 rfl rfl ?_
    refine .gS rfl rfl rfl q97 rfl rfl ?_
    refine .v (pkT rfl q97 rfl) rfl rfl rfl ?_
    refine .nil ?_
    refine .sel0 [1, 0] (by decide) rfl ?_
    exact .use q6 true hF (.cons rfl (.cons rfl (.cons rfl (.nil)))) rfl (FH.le_refl _)
  replace hF := hF.2 q97
  refine .gv (fa rfl tF24_1) rfl rfl rfl q97 rfl rfl ?_
  refine .gv (ld1 rfl tO22 (cellB (off := 1) (k := 1) rfl rfl)) rfl rfl rfl q97 rfl rfl ?_
  refine .gv (ln rfl tS22.is) rfl rfl rfl q97 rfl rfl ?_
  refine .gv (fa rfl tF24_1) rfl rfl rfl q97 rfl rfl ?_
  refine .gv (ld1 rfl tO22 (cellB (off := 1) (k := 0) rfl rfl)) rfl rfl rfl q97 rfl rfl ?_
  refine .gv (ln rfl tS22.is) rfl rfl rfl q97 rfl rfl ?_
  refine .gv (bi rfl rfl rfl) rfl rfl rfl q97 rfl rfl ?_
  refine .v (pkF rfl q97 rfl) rfl rfl rfl ?_
  refine .nil ?_
  refine .sel0 [1, 0] (by decide) rfl ?_
  exact .use q6 (((a.links.length : Nat) : Int) != ((b.links.length : Nat) : Int)) hF (.cons rfl (.cons rfl (.cons rfl (.nil)))) rfl (FH.le_refl _)

theorem c_net {h : FH} {w : World} (hs : Sub h w) (a : Network) (aa : Option Addr) (ca : Nat) (_q1 : RSl h aa a.links) (_q2 : a.links.length ≤ ca) (b : Network) (ab : Option Addr) (cb : Nat) (_q3 : RSl h ab b.links) (_q4 : b.links.length ≤ cb) (hp : pre_net a b) : Calls Try.prog 42 #[.agg #[.int .i64 a.events, .slice aa a.links.length ca], .agg #[.int .i64 b.events, .slice ab b.links.length cb]] w fun e w' => e = .returned (.bool (sp_net a b)) ∧ Below w.heap.size w w' :=
  (w_net hs a aa ca _q1 _q2 b ab cb _q3 _q4 (fun r => r = sp_net a b) (ok_net a b hp)).mono fun _ _ ⟨_, hk, he, hb⟩ => ⟨by rw [he, hk], hb⟩

theorem w_awaited {h : FH} {w : World} (hs : Sub h w) (K : Bool → Prop) (hF : F_awaited  K) : Calls Try.prog 30 #[] w fun e w' => ∃ r : Bool, K r ∧ e = .returned (.bool r) ∧ Below w.heap.size w w' := by
  refine enter (args := []) Try.func30 rfl Try.ntmps30 rfl hs ?_
  refine .seq ?_
  refine .region ?_
  refine .v (asg rfl) rfl rfl rfl ?_
  refine .nil ?_
  refine .seqN ?_
  refine .seq ?_
  refine .region ?_
  refine .v (bld (cs := #[.int .i64 1, .int .i64 2, .int .i64 0, .int .i64 9]) (pv := [(0, .int .i64 1), (1, .int .i64 2), (2, .int .i64 0), (3, .int .i64 9)]) tB35 rfl rfl) rfl rfl rfl ?_
  refine bs2 (cs := #[.int .i64 1, .int .i64 2, .int .i64 0, .int .i64 9]) (pv := [(0, .agg #[.int .i64 1, .int .i64 2, .int .i64 0, .int .i64 9])]) tS22 rfl rfl (by decide) (by decide) rfl rfl rfl (fun a _ => ?_)
  refine .cast (A' := [OwnSl 35 4 a (([(⟨1, 2, 0, 9⟩ : Link)] : List Link).length) 1 (flL ([(⟨1, 2, 0, 9⟩ : Link)] : List Link))]) rfl ?_
  refine .v (bld (cs := #[.int .i64 3, .slice a (([(⟨1, 2, 0, 9⟩ : Link)] : List Link).length) 1]) (pv := [(0, .int .i64 3), (1, .slice a (([(⟨1, 2, 0, 9⟩ : Link)] : List Link).length) 1)]) tB24 rfl rfl) rfl rfl rfl ?_
  refine .v (bld (cs := #[.int .i64 0, .int .i64 1, .int .i64 1, .int .i64 3]) (pv := [(0, .int .i64 0), (1, .int .i64 1), (2, .int .i64 1), (3, .int .i64 3)]) tB35 rfl rfl) rfl rfl rfl ?_
  refine bs2 (cs := #[.int .i64 0, .int .i64 1, .int .i64 1, .int .i64 3]) (pv := [(0, .agg #[.int .i64 0, .int .i64 1, .int .i64 1, .int .i64 3])]) tS22 rfl rfl (by decide) (by decide) rfl rfl rfl (fun a2 _ => ?_)
  refine .cast (A' := [OwnSl 35 4 a2 (([(⟨0, 1, 1, 3⟩ : Link)] : List Link).length) 1 (flL ([(⟨0, 1, 1, 3⟩ : Link)] : List Link)), OwnSl 35 4 a (([(⟨1, 2, 0, 9⟩ : Link)] : List Link).length) 1 (flL ([(⟨1, 2, 0, 9⟩ : Link)] : List Link))]) rfl ?_
  refine .v (bld (cs := #[.int .i64 3, .slice a (([(⟨1, 2, 0, 9⟩ : Link)] : List Link).length) 1, .slice a2 (([(⟨0, 1, 1, 3⟩ : Link)] : List Link).length) 1]) (pv := [(0, .agg #[.int .i64 3, .slice a (([(⟨1, 2, 0, 9⟩ : Link)] : List Link).length) 1]), (1, .slice a2 (([(⟨0, 1, 1, 3⟩ : Link)] : List Link).length) 1)]) tB51 rfl rfl) rfl rfl rfl ?_
  refine al tZ51 rfl (fun pu => ?_)
  refine st (p := pu) (off := 0) (k := 0) (vs := [.int .i64 3, .slice a (([(⟨1, 2, 0, 9⟩ : Link)] : List Link).length) 1, .slice a2 (([(⟨0, 1, 1, 3⟩ : Link)] : List Link).length) 1]) rfl rfl rfl (fun w => (tA51 w).2) rfl rfl rfl rfl ?_
  refine .cast (A' := [Box pu [.int .i64 3, .slice a (([(⟨1, 2, 0, 9⟩ : Link)] : List Link).length) 1, .slice a2 (([(⟨0, 1, 1, 3⟩ : Link)] : List Link).length) 1], OwnSl 35 4 a2 (([(⟨0, 1, 1, 3⟩ : Link)] : List Link).length) 1 (flL ([(⟨0, 1, 1, 3⟩ : Link)] : List Link)), OwnSl 35 4 a (([(⟨1, 2, 0, 9⟩ : Link)] : List Link).length) 1 (flL ([(⟨1, 2, 0, 9⟩ : Link)] : List Link))]) rfl ?_
  refine .nil ?_
  refine .seqN ?_
  refine .seq ?_
  refine .region ?_
  refine .v (ldA (cs := [.int .i64 3, .slice a (([(⟨1, 2, 0, 9⟩ : Link)] : List Link).length) 1, .slice a2 (([(⟨0, 1, 1, 3⟩ : Link)] : List Link).length) 1]) rfl tA51 rfl (cellsB (off := 0) (k := 0) rfl (m := 3) rfl)) rfl rfl rfl ?_
  refine .freezeL (k := 2) rfl (fun h1 le1 q4 q3 => ?_)
  refine .cast (A' := [Box pu [.int .i64 3, .slice a (([(⟨1, 2, 0, 9⟩ : Link)] : List Link).length) 1, .slice a2 (([(⟨0, 1, 1, 3⟩ : Link)] : List Link).length) 1], OwnSl 35 4 a2 (([(⟨0, 1, 1, 3⟩ : Link)] : List Link).length) 1 (flL ([(⟨0, 1, 1, 3⟩ : Link)] : List Link)), tru]) rfl ?_
  refine .freezeL (k := 1) rfl (fun h2 le2 q6 q5 => ?_)
  refine .cast (A' := [Box pu [.int .i64 3, .slice a (([(⟨1, 2, 0, 9⟩ : Link)] : List Link).length) 1, .slice a2 (([(⟨0, 1, 1, 3⟩ : Link)] : List Link).length) 1], tru, tru]) rfl ?_
  obtain ⟨r2, q7⟩ : ∃ y_ : List Int × Bool × Fault, y_ = sp_strong (⟨(⟨3, ([(⟨1, 2, 0, 9⟩ : Link)] : List Link)⟩ : Network), ([(⟨0, 1, 1, 3⟩ : Link)] : List Link)⟩ : Uncertain) := ⟨_, rfl⟩
  replace hF := hF r2 q7
  refine clO (α := Option Addr × Nat) (V := fun z => .tuple #[.slice z.1 r2.1.length z.2, .bool r2.2.1, .agg #[.int .i64 r2.2.2.code, .int .i64 r2.2.2.index]]) (Ψ := fun z => True) (B := fun z => [OwnSl 3 1 z.1 r2.1.length z.2 (flL r2.1)]) Try.call28 rfl rfl (fun w S => (by rw [q7]; exact c_strong S.sub (⟨(⟨3, ([(⟨1, 2, 0, 9⟩ : Link)] : List Link)⟩ : Network), ([(⟨0, 1, 1, 3⟩ : Link)] : List Link)⟩ : Uncertain) a 1 ((RSl.of q3).mono (le2)) (q4) a2 1 (RSl.of q5) (q6) )) rfl (fun z _ => ?_)
  obtain ⟨a3, c⟩ := z
  refine .cast (A' := [OwnSl 3 1 a3 r2.1.length c (flL r2.1), Box pu [.int .i64 3, .slice a (([(⟨1, 2, 0, 9⟩ : Link)] : List Link).length) 1, .slice a2 (([(⟨0, 1, 1, 3⟩ : Link)] : List Link).length) 1], tru, tru]) rfl ?_
  refine .v (mv rfl) rfl rfl rfl ?_
  refine .v (ext rfl rfl) rfl rfl rfl ?_
  refine .v (ext rfl rfl) rfl rfl rfl ?_
  refine .v (ext rfl rfl) rfl rfl rfl ?_
  refine al tZ27 rfl (fun pf => ?_)
  refine .v (asg rfl) rfl rfl rfl ?_
  refine .v (asg rfl) rfl rfl rfl ?_
  refine st (p := pf) (off := 0) (k := 0) (vs := [.int .i64 r2.2.2.code, .int .i64 r2.2.2.index]) rfl rfl rfl (fun w => (tA27 w).2) rfl rfl rfl rfl ?_
  refine .cast (A' := [Box pf [.int .i64 r2.2.2.code, .int .i64 r2.2.2.index], OwnSl 3 1 a3 r2.1.length c (flL r2.1), Box pu [.int .i64 3, .slice a (([(⟨1, 2, 0, 9⟩ : Link)] : List Link).length) 1, .slice a2 (([(⟨0, 1, 1, 3⟩ : Link)] : List Link).length) 1], tru, tru]) rfl ?_
  refine .nil ?_
  refine .seqN ?_
  refine .seq ?_
  refine .region ?_
  refine .v (fa rfl tF27_0) rfl rfl rfl ?_
  refine .v (ld1 rfl tO3 (cellB (off := 0) (k := 0) rfl rfl)) rfl rfl rfl ?_
  refine .v (bi rfl rfl rfl) rfl rfl rfl ?_
  refine .v (mv rfl) rfl rfl rfl ?_
  rcases Bool.eq_false_or_eq_true (r2.2.2.code == 0) with q17 | q17
  · replace hF := hF.1 q17
    refine .gv (mv rfl) rfl rfl rfl q17 rfl rfl ?_
    refine .v (pkT rfl q17 rfl) rfl rfl rfl ?_
    refine .v (mv rfl) rfl rfl rfl ?_
    rcases Bool.eq_false_or_eq_true (r2.2.1) with q18 | q18
    · replace hF := hF.1 q18
      refine .gv (mv rfl) rfl rfl rfl q18 rfl rfl ?_
      refine .gR rfl rfl rfl q18 ?_
      refine bs2 (cs := #[.int .i64 0, .int .i64 (-1), .int .i64 3]) (pv := [(0, .int .i64 0), (1, .int .i64 (-1)), (2, .int .i64 3)]) tS32 rfl rfl (by decide) (by decide) rfl rfl rfl (fun a4 _ => ?_)
      refine .cast (A' := [OwnSl 3 1 a4 (([0, (-1), 3] : List Int).length) 3 (flL ([0, (-1), 3] : List Int)), Box pf [.int .i64 r2.2.2.code, .int .i64 r2.2.2.index], OwnSl 3 1 a3 r2.1.length c (flL r2.1), Box pu [.int .i64 3, .slice a (([(⟨1, 2, 0, 9⟩ : Link)] : List Link).length) 1, .slice a2 (([(⟨0, 1, 1, 3⟩ : Link)] : List Link).length) 1], tru, tru]) rfl ?_
      refine .freezeL (k := 2) rfl (fun h5 le5 q21 q20 => ?_)
      refine .cast (A' := [OwnSl 3 1 a4 (([0, (-1), 3] : List Int).length) 3 (flL ([0, (-1), 3] : List Int)), Box pf [.int .i64 r2.2.2.code, .int .i64 r2.2.2.index], tru, Box pu [.int .i64 3, .slice a (([(⟨1, 2, 0, 9⟩ : Link)] : List Link).length) 1, .slice a2 (([(⟨0, 1, 1, 3⟩ : Link)] : List Link).length) 1], tru, tru]) rfl ?_
      refine .freezeL (k := 0) rfl (fun h6 le6 q23 q22 => ?_)
      refine .cast (A' := [tru, Box pf [.int .i64 r2.2.2.code, .int .i64 r2.2.2.index], tru, Box pu [.int .i64 3, .slice a (([(⟨1, 2, 0, 9⟩ : Link)] : List Link).length) 1, .slice a2 (([(⟨0, 1, 1, 3⟩ : Link)] : List Link).length) 1], tru, tru]) rfl ?_
      obtain ⟨q24, hF⟩ := hF
      obtain ⟨r3, q25⟩ : ∃ y_ : Bool, y_ = sp_numbers r2.1 ([0, (-1), 3] : List Int) := ⟨_, rfl⟩
      replace hF := hF r3 q25
      refine .gc (cl (v := .bool r3) Try.call33 rfl rfl (fun w S => (by rw [q25]; exact c_numbers S.sub r2.1 a3 c ((RSl.of q20).mono (le6)) (q21) ([0, (-1), 3] : List Int) a4 3 (RSl.of q22) (q23) q24))) rfl rfl rfl q18 rfl rfl ?_
      refine .v (pkT rfl q18 rfl) rfl rfl rfl ?_
      refine .v (asg rfl) rfl rfl rfl ?_
      refine .nil ?_
      refine .seqN ?_
      refine .ret ?_
      refine .res1 rfl (rvT rfl) (fun w' S => ⟨r3, hF, rfl, S.below⟩)
    replace hF := hF.2 q18
    refine .gS rfl rfl rfl q18 rfl rfl ?_
    refine .gS rfl rfl rfl q18 rfl rfl ?_
    refine .gS rfl rfl rfl q18 rfl rfl ?_
    refine .v (pkF rfl q18 rfl) rfl rfl rfl ?_
    refine .v (asg rfl) rfl rfl rfl ?_
    refine .nil ?_
    refine .seqN ?_
    refine .ret ?_
    refine .res1 rfl (rvT rfl) (fun w' S => ⟨false, hF, rfl, S.below⟩)
  replace hF := hF.2 q17
  refine .gS rfl rfl rfl q17 rfl rfl ?_
  refine .v (pkF rfl q17 rfl) rfl rfl rfl ?_
  refine .v (mv rfl) rfl rfl rfl ?_
  refine .gS rfl rfl rfl rfl rfl rfl ?_
  refine .gS rfl rfl rfl rfl rfl rfl ?_
  refine .gS rfl rfl rfl rfl rfl rfl ?_
  refine .v (pkF rfl rfl rfl) rfl rfl rfl ?_
  refine .v (asg rfl) rfl rfl rfl ?_
  refine .nil ?_
  refine .seqN ?_
  refine .ret ?_
  refine .res1 rfl (rvT rfl) (fun w' S => ⟨false, hF, rfl, S.below⟩)

theorem c_awaited {h : FH} {w : World} (hs : Sub h w) : Calls Try.prog 30 #[] w fun e w' => e = .returned (.bool (sp_awaited)) ∧ Below w.heap.size w w' :=
  (w_awaited hs  (fun r => r = sp_awaited) (ok_awaited )).mono fun _ _ ⟨_, hk, he, hb⟩ => ⟨by rw [he, hk], hb⟩

theorem w_fits1 {h : FH} {w : World} (hs : Sub h w) (l : Link) (x : List Int) (ax : Option Addr) (cx : Nat) (_q1 : RSl h ax x) (_q2 : x.length ≤ cx) (px : Addr) (_q3 : CellsAt h px [.slice ax x.length cx]) (K : Bool → Prop) (hF : F_fits1 l x K) : Calls Try.prog 66 #[.agg #[.int .i64 l.src, .int .i64 l.dst, .int .i64 l.low, .int .i64 l.high], .pointer (some px)] w fun e w' => ∃ r : Bool, K r ∧ e = .returned (.bool r) ∧ Below w.heap.size w w' := by
  refine enter (args := [.agg #[.int .i64 l.src, .int .i64 l.dst, .int .i64 l.low, .int .i64 l.high], .pointer (some px)]) Try.func66 rfl Try.ntmps66 rfl hs ?_
  refine .seq ?_
  refine .region ?_
  refine bx (vs := [.int .i64 l.src, .int .i64 l.dst, .int .i64 l.low, .int .i64 l.high]) rfl rfl rfl (fun pl => ?_)
  refine .v (asg rfl) rfl rfl rfl ?_
  refine .nil ?_
  refine .seqN ?_
  refine .seq ?_
  refine .open_ (by kernel_rfl) (by kernel_rfl) ?_
  refine .v (ld1 (v := .slice ax x.length cx) rfl tO32 (cellH (CellsAt.mono (FH.le_refl _) _q3 0 _ rfl))) rfl rfl rfl ?_
  refine .v (fa rfl tF35_1) rfl rfl rfl ?_
  refine .v (ld1 rfl tO3 (cellB (off := 1) (k := 0) rfl rfl)) rfl rfl rfl ?_
  obtain ⟨q4, hF⟩ := hF
  refine .v (ix rfl rfl tS32 (_q1.ne (by decide) (inb_pos q4)) q4) rfl rfl rfl ?_
  refine .v (ld1 (v := .int .i64 (gt x l.dst)) rfl tO3 (cellH (_q1.elemF q4 (by decide) 0 _ rfl))) rfl rfl rfl ?_
  refine .v (ld1 (v := .slice ax x.length cx) rfl tO32 (cellH (CellsAt.mono (FH.le_refl _) _q3 0 _ rfl))) rfl rfl rfl ?_
  refine .v (fa rfl tF35_0) rfl rfl rfl ?_
  refine .v (ld1 rfl tO3 (cellB (off := 0) (k := 0) rfl rfl)) rfl rfl rfl ?_
  obtain ⟨q5, hF⟩ := hF
  refine .v (ix rfl rfl tS32 (_q1.ne (by decide) (inb_pos q5)) q5) rfl rfl rfl ?_
  refine .v (ld1 (v := .int .i64 (gt x l.src)) rfl tO3 (cellH (_q1.elemF q5 (by decide) 0 _ rfl))) rfl rfl rfl ?_
  refine .v (bi rfl rfl rfl) rfl rfl rfl ?_
  refine .v (asg rfl) rfl rfl rfl ?_
  refine .fin ?_
  refine .seqN ?_
  refine .seq ?_
  refine .region ?_
  refine .v (mv rfl) rfl rfl rfl ?_
  refine .v (fa rfl tF35_2) rfl rfl rfl ?_
  refine .v (ld1 rfl tO3 (cellB (off := 2) (k := 0) rfl rfl)) rfl rfl rfl ?_
  obtain ⟨x2, q9⟩ : ∃ y_ : Bool, y_ = (decide ((IntKind.i64.wrap ((gt x l.dst) - (gt x l.src))) < l.low)) := ⟨_, rfl⟩
  replace hF := hF x2 q9
  refine .v (v := .bool x2) (by rw [q9]; exact bi rfl rfl rfl) rfl rfl rfl ?_
  refine .v (mv rfl) rfl rfl rfl ?_
  rcases Bool.eq_false_or_eq_true (x2) with q10 | q10
  · replace hF := hF.1 q10
    refine .gS rfl rfl rfl q10 rfl rfl ?_
    refine .gS rfl rfl rfl q10 rfl rfl ?_
    refine .gS rfl rfl rfl q10 rfl rfl ?_
    refine .gS rfl rfl rfl q10 rfl rfl ?_
    refine .v (pkT rfl q10 rfl) rfl rfl rfl ?_
    refine .v (asg rfl) rfl rfl rfl ?_
    refine .nil ?_
    refine .seqN ?_
    refine .ret ?_
    refine .res1 rfl (rvT rfl) (fun w' S => ⟨true, hF, rfl, S.below⟩)
  replace hF := hF.2 q10
  refine .gv (mv rfl) rfl rfl rfl q10 rfl rfl ?_
  refine .gv (fa rfl tF35_3) rfl rfl rfl q10 rfl rfl ?_
  refine .gv (ld1 rfl tO3 (cellB (off := 3) (k := 0) rfl rfl)) rfl rfl rfl q10 rfl rfl ?_
  obtain ⟨x3, q11⟩ : ∃ y_ : Bool, y_ = (decide (l.high < (IntKind.i64.wrap ((gt x l.dst) - (gt x l.src))))) := ⟨_, rfl⟩
  replace hF := hF x3 q11
  refine .gv (v := .bool x3) (by rw [q11]; exact bi rfl rfl rfl) rfl rfl rfl q10 rfl rfl ?_
  refine .v (pkF rfl q10 rfl) rfl rfl rfl ?_
  refine .v (asg rfl) rfl rfl rfl ?_
  refine .nil ?_
  refine .seqN ?_
  refine .ret ?_
  refine .res1 rfl (rvT rfl) (fun w' S => ⟨x3, hF, rfl, S.below⟩)

theorem c_fits1 {h : FH} {w : World} (hs : Sub h w) (l : Link) (x : List Int) (ax : Option Addr) (cx : Nat) (_q1 : RSl h ax x) (_q2 : x.length ≤ cx) (px : Addr) (_q3 : CellsAt h px [.slice ax x.length cx]) (hp : pre_fits1 l x) : Calls Try.prog 66 #[.agg #[.int .i64 l.src, .int .i64 l.dst, .int .i64 l.low, .int .i64 l.high], .pointer (some px)] w fun e w' => e = .returned (.bool (sp_fits1 l x)) ∧ Below w.heap.size w w' :=
  (w_fits1 hs l x ax cx _q1 _q2 px _q3 (fun r => r = sp_fits1 l x) (ok_fits1 l x hp)).mono fun _ _ ⟨_, hk, he, hb⟩ => ⟨by rw [he, hk], hb⟩

theorem w_fits {h : FH} {w : World} (hs : Sub h w) (n_ : Network) (an_ : Option Addr) (cn_ : Nat) (_q1 : RSl h an_ n_.links) (_q2 : n_.links.length ≤ cn_) (times : List Int) (atimes : Option Addr) (ctimes : Nat) (_q3 : RSl h atimes times) (_q4 : times.length ≤ ctimes) (K : Bool → Prop) (hF : F_fits n_ times K) : Calls Try.prog 47 #[.agg #[.int .i64 n_.events, .slice an_ n_.links.length cn_], .slice atimes times.length ctimes] w fun e w' => ∃ r : Bool, K r ∧ e = .returned (.bool r) ∧ Below w.heap.size w w' := by
  refine enter (args := [.agg #[.int .i64 n_.events, .slice an_ n_.links.length cn_], .slice atimes times.length ctimes]) Try.func47 rfl Try.ntmps47 rfl hs ?_
  refine .seq ?_
  refine .region ?_
  refine bx (vs := [.int .i64 n_.events, .slice an_ n_.links.length cn_]) rfl rfl rfl (fun pn => ?_)
  refine bx (vs := [.slice atimes times.length ctimes]) rfl rfl rfl (fun ptimes => ?_)
  refine .v (asg rfl) rfl rfl rfl ?_
  refine .nil ?_
  refine .seqN ?_
  refine .seq ?_
  refine .share (σ := Bool) (fun z => F_fits_J1 n_ times K z) (fun z => [(2, .pointer (some pn)), (3, .pointer (some ptimes)), (13, .bool z)]) (fun _ => [Box pn [.int .i64 n_.events, .slice an_ n_.links.length cn_], Box ptimes [.slice atimes times.length ctimes]]) (fun _ => h) ?_ (fun q9 => ?_)
  · rintro t13 hF
    show J _ _ _ _ _ [(2, .pointer (some pn)), (3, .pointer (some ptimes)), (13, .bool t13)] [Box pn [.int .i64 n_.events, .slice an_ n_.links.length cn_], Box ptimes [.slice atimes times.length ctimes]] h
    refine .cond rfl (fun q10 => ?_) (fun q10 => ?_)
    · replace hF := hF.1 q10
      refine .seq ?_
      refine .region ?_
      refine .v (asg rfl) rfl rfl rfl ?_
      refine .nil ?_
      refine .seqN ?_
      refine .ret ?_
      refine .seqR ?_
      refine .res1 rfl (rvT rfl) (fun w' S => ⟨false, hF, rfl, S.below⟩)
    replace hF := hF.2 q10
    refine .skip ?_
    refine .seqN ?_
    refine .seq ?_
    refine .region ?_
    refine .v (fa rfl tF24_1) rfl rfl rfl ?_
    refine .v (ld1 rfl tO22 (cellB (off := 1) (k := 0) rfl rfl)) rfl rfl rfl ?_
    refine .v (mkf (vf := []) (vc := [.pointer (some ptimes)]) rfl rfl) rfl rfl rfl ?_
    obtain ⟨q11, hF⟩ := hF
    obtain ⟨r2, q12⟩ : ∃ y_ : Bool, y_ = sp_any n_.links (fun y_ : Link => sp_fits1 y_ times) (fun y_ : Link => pre_fits1 y_ times) := ⟨_, rfl⟩
    replace hF := hF r2 q12
    refine .c (cl (v := .bool r2) Try.call60 rfl rfl (fun w S => (by rw [q12]; obtain ⟨h_, hl_, hs_, hb_⟩ := lookB S (k := 1) rfl; exact c_containsL hs_ n_.links an_ cn_ (RSl.mono hl_ _q1) _q2 (fun y_ : Link => sp_fits1 y_ times) (fun y_ : Link => pre_fits1 y_ times) 66 #[] #[.pointer (some ptimes)] Try.call66 (fun x w' hD hs' => c_fits1 hs' x times atimes ctimes (RSl.mono hl_ _q3) _q4 ptimes hb_ hD) q11))) rfl rfl rfl ?_
    refine .v (nt rfl) rfl rfl rfl ?_
    refine .v (asg rfl) rfl rfl rfl ?_
    refine .nil ?_
    refine .seqN ?_
    refine .ret ?_
    refine .res1 rfl (rvT rfl) (fun w' S => ⟨!r2, hF, rfl, S.below⟩)
  refine .region ?_
  refine .v (ld1 rfl tO32 (cellB (off := 0) (k := 0) rfl rfl)) rfl rfl rfl ?_
  obtain ⟨q13, hF⟩ := hF
  refine .v (ix rfl rfl tS32 (_q3.ne (by decide) (inb_pos q13)) q13) rfl rfl rfl ?_
  refine .v (ld1 (v := .int .i64 (gt times (0 : Int))) rfl tO3 (cellH (_q3.elemF q13 (by decide) 0 _ rfl))) rfl rfl rfl ?_
  refine .v (bi rfl rfl rfl) rfl rfl rfl ?_
  refine .v (mv rfl) rfl rfl rfl ?_
  rcases Bool.eq_false_or_eq_true ((gt times (0 : Int)) != 0) with q14 | q14
  · replace hF := hF.1 q14
    refine .gS rfl rfl rfl q14 rfl rfl ?_
    refine .gS rfl rfl rfl q14 rfl rfl ?_
    refine .gS rfl rfl rfl q14 rfl rfl ?_
    refine .v (pkT rfl q14 rfl) rfl rfl rfl ?_
    refine .nil ?_
    refine .sel0 [1, 0] (by decide) rfl ?_
    exact .use q9 true hF (.cons rfl (.cons rfl (.cons rfl (.nil)))) rfl (FH.le_refl _)
  replace hF := hF.2 q14
  refine .gv (ld1 rfl tO32 (cellB (off := 0) (k := 0) rfl rfl)) rfl rfl rfl q14 rfl rfl ?_
  obtain ⟨q15, hF⟩ := hF
  obtain ⟨r3, q16⟩ : ∃ y_ : Int, y_ = sp_min_ times := ⟨_, rfl⟩
  replace hF := hF r3 q16
  refine .gc (cl (v := .int .i64 r3) Try.call65 rfl rfl (fun w S => (by rw [q16]; exact c_min_ S.sub times atimes ctimes _q3 _q4 q15))) rfl rfl rfl q14 rfl rfl ?_
  refine .gv (bi rfl rfl rfl) rfl rfl rfl q14 rfl rfl ?_
  refine .v (pkF rfl q14 rfl) rfl rfl rfl ?_
  refine .nil ?_
  refine .sel0 [1, 0] (by decide) rfl ?_
  exact .use q9 (decide (r3 < 0)) hF (.cons rfl (.cons rfl (.cons rfl (.nil)))) rfl (FH.le_refl _)

theorem c_fits {h : FH} {w : World} (hs : Sub h w) (n_ : Network) (an_ : Option Addr) (cn_ : Nat) (_q1 : RSl h an_ n_.links) (_q2 : n_.links.length ≤ cn_) (times : List Int) (atimes : Option Addr) (ctimes : Nat) (_q3 : RSl h atimes times) (_q4 : times.length ≤ ctimes) (hp : pre_fits n_ times) : Calls Try.prog 47 #[.agg #[.int .i64 n_.events, .slice an_ n_.links.length cn_], .slice atimes times.length ctimes] w fun e w' => e = .returned (.bool (sp_fits n_ times)) ∧ Below w.heap.size w w' :=
  (w_fits hs n_ an_ cn_ _q1 _q2 times atimes ctimes _q3 _q4 (fun r => r = sp_fits n_ times) (ok_fits n_ times hp)).mono fun _ _ ⟨_, hk, he, hb⟩ => ⟨by rw [he, hk], hb⟩

theorem w_respects {h : FH} {w : World} (hs : Sub h w) (n_ : Network) (an_ : Option Addr) (cn_ : Nat) (_q1 : RSl h an_ n_.links) (_q2 : n_.links.length ≤ cn_) (times : List Int) (atimes : Option Addr) (ctimes : Nat) (_q3 : RSl h atimes times) (_q4 : times.length ≤ ctimes) (K : (Bool × Fault) → Prop) (hF : F_respects n_ times K) : Calls Try.prog 18 #[.agg #[.int .i64 n_.events, .slice an_ n_.links.length cn_], .slice atimes times.length ctimes] w fun e w' => ∃ r : Bool × Fault, K r ∧ e = .returned (.tuple #[.bool r.1, .agg #[.int .i64 r.2.code, .int .i64 r.2.index]]) ∧ Below w.heap.size w w' := by
  refine enter (args := [.agg #[.int .i64 n_.events, .slice an_ n_.links.length cn_], .slice atimes times.length ctimes]) Try.func18 rfl Try.ntmps18 rfl hs ?_
  refine .seq ?_
  refine .region ?_
  refine bx (vs := [.int .i64 n_.events, .slice an_ n_.links.length cn_]) rfl rfl rfl (fun pn => ?_)
  refine .v (asg rfl) rfl rfl rfl ?_
  refine al tZ27 rfl (fun pv => ?_)
  refine .nil ?_
  refine .seqN ?_
  refine .seq ?_
  refine .seq ?_
  refine .region ?_
  refine .v (ldA (cs := [.int .i64 n_.events, .slice an_ n_.links.length cn_]) rfl tA24 rfl (cellsB (off := 0) (k := 1) rfl (m := 2) rfl)) rfl rfl rfl ?_
  obtain ⟨r2, q5⟩ : ∃ y_ : Fault, y_ = sp_validate n_ := ⟨_, rfl⟩
  replace hF := hF r2 q5
  refine .c (cl (v := .agg #[.int .i64 r2.code, .int .i64 r2.index]) Try.call22 rfl rfl (fun w S => (by rw [q5]; exact c_validate S.sub n_ an_ cn_ _q1 _q2 ))) rfl rfl rfl ?_
  refine al tZ27 rfl (fun pf => ?_)
  refine st (p := pf) (off := 0) (k := 0) (vs := [.int .i64 r2.code, .int .i64 r2.index]) rfl rfl rfl (fun w => (tA27 w).2) rfl rfl rfl rfl ?_
  refine .cast (A' := [Box pf [.int .i64 r2.code, .int .i64 r2.index], Box pv [.int .i64 0, .int .i64 0], Box pn [.int .i64 n_.events, .slice an_ n_.links.length cn_]]) rfl ?_
  refine .nil ?_
  refine .seqN ?_
  refine .seq ?_
  refine .region ?_
  refine .v (ldA (cs := [.int .i64 r2.code, .int .i64 r2.index]) rfl tA27 rfl (cellsB (off := 0) (k := 0) rfl (m := 2) rfl)) rfl rfl rfl ?_
  refine .v (bld (cs := #[.int .i64 0, .int .i64 0]) (pv := []) tB27 rfl rfl) rfl rfl rfl ?_
  refine .v (ne2 tE27 rfl rfl) rfl rfl rfl ?_
  refine .nil ?_
  refine .seqN ?_
  refine .cond rfl (fun q6 => ?_) (fun q6 => ?_)
  · replace hF := hF.1 q6
    refine .seq ?_
    refine .openL (by kernel_rfl) rfl (by kernel_rfl) (by kernel_rfl) ?_
    refine .v (ldA (cs := [.int .i64 r2.code, .int .i64 r2.index]) rfl tA27 rfl (cellsB (off := 0) (k := 0) rfl (m := 2) rfl)) rfl rfl rfl ?_
    refine .v (asg rfl) rfl rfl rfl ?_
    refine .tail ?_
    refine st (p := pv) (off := 0) (k := 1) (vs := [.int .i64 r2.code, .int .i64 r2.index]) rfl rfl rfl (fun w => (tA27 w).2) rfl rfl rfl rfl ?_
    refine .cast (A' := [Box pf [.int .i64 r2.code, .int .i64 r2.index], Box pv [.int .i64 r2.code, .int .i64 r2.index], Box pn [.int .i64 n_.events, .slice an_ n_.links.length cn_]]) rfl ?_
    refine .nil ?_
    refine .seqN ?_
    refine .ret ?_
    refine .seqR ?_
    refine .res2 rfl (rvT rfl) (rvC rfl tA27 (k := 1) rfl rfl) (fun w' S => ⟨(false, r2), hF, rfl, S.below⟩)
  replace hF := hF.2 q6
  refine .skip ?_
  refine .seqN ?_
  refine .seq ?_
  refine .seq ?_
  refine .region ?_
  refine .v (mv rfl) rfl rfl rfl ?_
  refine .v (ln rfl tS32.is) rfl rfl rfl ?_
  refine .v (fa rfl tF24_0) rfl rfl rfl ?_
  refine .v (ld1 rfl tO3 (cellB (off := 0) (k := 2) rfl rfl)) rfl rfl rfl ?_
  refine .v (bi rfl rfl rfl) rfl rfl rfl ?_
  refine .nil ?_
  refine .seqN ?_
  refine .cond rfl (fun q7 => ?_) (fun q7 => ?_)
  · replace hF := hF.1 q7
    refine .seq ?_
    refine .region ?_
    refine .v (bld (cs := #[.int .i64 9, .int .i64 (-2)]) (pv := [(0, .int .i64 9), (1, .int .i64 (-2))]) tB27 rfl rfl) rfl rfl rfl ?_
    refine .v (asg rfl) rfl rfl rfl ?_
    refine st (p := pv) (off := 0) (k := 1) (vs := [.int .i64 9, .int .i64 (-2)]) rfl rfl rfl (fun w => (tA27 w).2) rfl rfl rfl rfl ?_
    refine .cast (A' := [Box pf [.int .i64 r2.code, .int .i64 r2.index], Box pv [.int .i64 9, .int .i64 (-2)], Box pn [.int .i64 n_.events, .slice an_ n_.links.length cn_]]) rfl ?_
    refine .nil ?_
    refine .seqN ?_
    refine .ret ?_
    refine .seqR ?_
    refine .res2 rfl (rvT rfl) (rvC rfl tA27 (k := 1) rfl rfl) (fun w' S => ⟨(false, (⟨9, (-2)⟩ : Fault)), hF, rfl, S.below⟩)
  replace hF := hF.2 q7
  refine .skip ?_
  refine .seqN ?_
  refine .seq ?_
  refine .seq ?_
  refine .region ?_
  refine .v (mv rfl) rfl rfl rfl ?_
  refine .v (ln rfl tS32.is) rfl rfl rfl ?_
  refine .v (mv rfl) rfl rfl rfl ?_
  refine .nil ?_
  refine .seqN ?_
  refine .block ?_
  refine .sel0 [2, 1] (by decide) rfl ?_
  obtain ⟨I1, μ1, q32, q33⟩ := hF
  refine .loop' (σ := Int) (fun z => I1 z) (fun z => μ1 z) (fun z => [(1, .slice atimes times.length ctimes), (2, .pointer (some pn)), (5, .pointer (some pv)), (21, .slice atimes times.length ctimes), (22, .int .i64 ((times.length : Nat) : Int)), (23, .int .i64 z)]) (fun _ => [Box pn [.int .i64 n_.events, .slice an_ n_.links.length cn_], Box pv [.int .i64 0, .int .i64 0]]) (fun _ => h) 0 q32 (.cons rfl (.cons rfl (.cons rfl (.cons rfl (.cons rfl (.cons rfl (.nil))))))) rfl (FH.le_refl _) ?_
  rintro t23 q32
  have hF := q33 t23 q32
  show J _ _ _ _ _ [(1, .slice atimes times.length ctimes), (2, .pointer (some pn)), (5, .pointer (some pv)), (21, .slice atimes times.length ctimes), (22, .int .i64 ((times.length : Nat) : Int)), (23, .int .i64 t23)] [Box pn [.int .i64 n_.events, .slice an_ n_.links.length cn_], Box pv [.int .i64 0, .int .i64 0]] h
  refine .seq ?_
  refine .region ?_
  refine .v (bi rfl rfl rfl) rfl rfl rfl ?_
  refine .nil ?_
  refine .seqN ?_
  refine .seq ?_
  refine .cond rfl (fun q35 => ?_) (fun q35 => ?_)
  · replace hF := hF.1 q35
    refine .skip ?_
    refine .seqN ?_
    refine .seq ?_
    refine .block ?_
    refine .seq ?_
    refine .region ?_
    refine .v (mv rfl) rfl rfl rfl ?_
    obtain ⟨q41, hF⟩ := hF
    refine .v (ix rfl rfl tS32 (_q3.ne (by decide) (inb_pos q41)) q41) rfl rfl rfl ?_
    refine .v (ld1 (v := .int .i64 (gt times t23)) rfl tO3 (cellH (_q3.elemF q41 (by decide) 0 _ rfl))) rfl rfl rfl ?_
    refine .v (asg rfl) rfl rfl rfl ?_
    refine .v (asg rfl) rfl rfl rfl ?_
    refine .nil ?_
    refine .seqN ?_
    refine .share (σ := Bool) (fun z => F_respects_J1 K z t23 I1 μ1) (fun z => [(1, .slice atimes times.length ctimes), (2, .pointer (some pn)), (5, .pointer (some pv)), (7, .int .i64 t23), (21, .slice atimes times.length ctimes), (22, .int .i64 ((times.length : Nat) : Int)), (23, .int .i64 t23), (33, .bool z)]) (fun _ => [Box pn [.int .i64 n_.events, .slice an_ n_.links.length cn_], Box pv [.int .i64 0, .int .i64 0]]) (fun _ => h) ?_ (fun q43 => ?_)
    · rintro t33 hF
      show J _ _ _ _ _ [(1, .slice atimes times.length ctimes), (2, .pointer (some pn)), (5, .pointer (some pv)), (7, .int .i64 t23), (21, .slice atimes times.length ctimes), (22, .int .i64 ((times.length : Nat) : Int)), (23, .int .i64 t23), (33, .bool t33)] [Box pn [.int .i64 n_.events, .slice an_ n_.links.length cn_], Box pv [.int .i64 0, .int .i64 0]] h
      refine .cond rfl (fun q44 => ?_) (fun q44 => ?_)
      · replace hF := hF.1 q44
        refine .seq ?_
        refine .region ?_
        refine .v (mv rfl) rfl rfl rfl ?_
        refine .v (bi rfl rfl rfl) rfl rfl rfl ?_
        refine .v (bld (cs := #[.int .i64 3, .int .i64 (IntKind.i64.wrap ((-3) - t23))]) (pv := [(0, .int .i64 3), (1, .int .i64 (IntKind.i64.wrap ((-3) - t23)))]) tB27 rfl rfl) rfl rfl rfl ?_
        refine .v (asg rfl) rfl rfl rfl ?_
        refine st (p := pv) (off := 0) (k := 1) (vs := [.int .i64 3, .int .i64 (IntKind.i64.wrap ((-3) - t23))]) rfl rfl rfl (fun w => (tA27 w).2) rfl rfl rfl rfl ?_
        refine .cast (A' := [Box pn [.int .i64 n_.events, .slice an_ n_.links.length cn_], Box pv [.int .i64 3, .int .i64 (IntKind.i64.wrap ((-3) - t23))]]) rfl ?_
        refine .nil ?_
        refine .seqN ?_
        refine .ret ?_
        refine .blkR ?_
        refine .seqR ?_
        refine .seqR ?_
        refine .blkR ?_
        refine .seqR ?_
        refine .res2 rfl (rvT rfl) (rvC rfl tA27 (k := 1) rfl rfl) (fun w' S => ⟨(false, (⟨3, IntKind.i64.wrap ((-3) - t23)⟩ : Fault)), hF, rfl, S.below⟩)
      replace hF := hF.2 q44
      refine .skip ?_
      refine .blkN ?_
      refine .seqN ?_
      refine .region ?_
      refine .v (bi rfl rfl rfl) rfl rfl rfl ?_
      refine .v (mv rfl) rfl rfl rfl ?_
      refine .nil ?_
      exact .round (IntKind.i64.wrap (t23 + 1)) hF.1 hF.2 (.cons rfl (.cons rfl (.cons rfl (.cons rfl (.cons rfl (.cons rfl (.nil))))))) rfl (FH.le_refl _)
    refine .region ?_
    refine .v (mv rfl) rfl rfl rfl ?_
    refine .v (bi rfl rfl rfl) rfl rfl rfl ?_
    refine .v (mv rfl) rfl rfl rfl ?_
    rcases Bool.eq_false_or_eq_true (decide ((gt times t23) < (-1000000))) with q45 | q45
    · replace hF := hF.1 q45
      refine .gS rfl rfl rfl q45 rfl rfl ?_
      refine .gS rfl rfl rfl q45 rfl rfl ?_
      refine .v (pkT rfl q45 rfl) rfl rfl rfl ?_
      refine .nil ?_
      exact .use q43 true hF (.cons rfl (.cons rfl (.cons rfl (.cons rfl (.cons rfl (.cons rfl (.cons rfl (.cons rfl (.nil))))))))) rfl (FH.le_refl _)
    replace hF := hF.2 q45
    refine .gv (mv rfl) rfl rfl rfl q45 rfl rfl ?_
    refine .gv (bi rfl rfl rfl) rfl rfl rfl q45 rfl rfl ?_
    refine .v (pkF rfl q45 rfl) rfl rfl rfl ?_
    refine .nil ?_
    exact .use q43 (decide (1000000 < (gt times t23))) hF (.cons rfl (.cons rfl (.cons rfl (.cons rfl (.cons rfl (.cons rfl (.cons rfl (.cons rfl (.nil))))))))) rfl (FH.le_refl _)
  replace hF := hF.2 q35
  refine .exit ?_
  refine .seqX ?_
  refine .seqX ?_
  refine .blkX ?_
  refine .seqN ?_
  refine .seq ?_
  refine .region ?_
  refine .v (ldA (cs := [.int .i64 n_.events, .slice an_ n_.links.length cn_]) rfl tA24 rfl (cellsB (off := 0) (k := 0) rfl (m := 2) rfl)) rfl rfl rfl ?_
  refine .v (mv rfl) rfl rfl rfl ?_
  obtain ⟨q46, hF⟩ := hF
  obtain ⟨r3, q47⟩ : ∃ y_ : Bool, y_ = sp_fits n_ times := ⟨_, rfl⟩
  replace hF := hF r3 q47
  refine .c (cl (v := .bool r3) Try.call47 rfl rfl (fun w S => (by rw [q47]; exact c_fits S.sub n_ an_ cn_ _q1 _q2 times atimes ctimes _q3 _q4 q46))) rfl rfl rfl ?_
  refine .v (bld (cs := #[.int .i64 0, .int .i64 0]) (pv := []) tB27 rfl rfl) rfl rfl rfl ?_
  refine .v (asg rfl) rfl rfl rfl ?_
  refine st (p := pv) (off := 0) (k := 1) (vs := [.int .i64 0, .int .i64 0]) rfl rfl rfl (fun w => (tA27 w).2) rfl rfl rfl rfl ?_
  refine .cast (A' := [Box pn [.int .i64 n_.events, .slice an_ n_.links.length cn_], Box pv [.int .i64 0, .int .i64 0]]) rfl ?_
  refine .nil ?_
  refine .seqN ?_
  refine .ret ?_
  refine .res2 rfl (rvT rfl) (rvC rfl tA27 (k := 1) rfl rfl) (fun w' S => ⟨(r3, (⟨0, 0⟩ : Fault)), hF, rfl, S.below⟩)

theorem c_respects {h : FH} {w : World} (hs : Sub h w) (n_ : Network) (an_ : Option Addr) (cn_ : Nat) (_q1 : RSl h an_ n_.links) (_q2 : n_.links.length ≤ cn_) (times : List Int) (atimes : Option Addr) (ctimes : Nat) (_q3 : RSl h atimes times) (_q4 : times.length ≤ ctimes) : Calls Try.prog 18 #[.agg #[.int .i64 n_.events, .slice an_ n_.links.length cn_], .slice atimes times.length ctimes] w fun e w' => e = .returned (.tuple #[.bool (sp_respects n_ times).1, .agg #[.int .i64 (sp_respects n_ times).2.code, .int .i64 (sp_respects n_ times).2.index]]) ∧ Below w.heap.size w w' :=
  (w_respects hs n_ an_ cn_ _q1 _q2 times atimes ctimes _q3 _q4 (fun r => r = sp_respects n_ times) (ok_respects n_ times)).mono fun _ _ ⟨_, hk, he, hb⟩ => ⟨by rw [he, hk], hb⟩

theorem w_lawStrongMatchesSpec {h : FH} {w : World} (hs : Sub h w) (u : Uncertain) (au : Option Addr) (cu : Nat) (_q1 : RSl h au u.network.links) (_q2 : u.network.links.length ≤ cu) (au2 : Option Addr) (cu2 : Nat) (_q3 : RSl h au2 u.contingent) (_q4 : u.contingent.length ≤ cu2) (K : Bool → Prop) (hF : F_lawStrongMatchesSpec u K) : Calls Try.prog 8 #[.agg #[.int .i64 u.network.events, .slice au u.network.links.length cu, .slice au2 u.contingent.length cu2]] w fun e w' => ∃ r : Bool, K r ∧ e = .returned (.bool r) ∧ Below w.heap.size w w' := by
  refine enter (args := [.agg #[.int .i64 u.network.events, .slice au u.network.links.length cu, .slice au2 u.contingent.length cu2]]) Try.func8 rfl Try.ntmps8 rfl hs ?_
  refine .seq ?_
  refine .region ?_
  refine bx (vs := [.int .i64 u.network.events, .slice au u.network.links.length cu, .slice au2 u.contingent.length cu2]) rfl rfl rfl (fun pu => ?_)
  refine .v (asg rfl) rfl rfl rfl ?_
  refine .nil ?_
  refine .seqN ?_
  refine .seq ?_
  refine .region ?_
  refine .v (ldA (cs := [.int .i64 u.network.events, .slice au u.network.links.length cu, .slice au2 u.contingent.length cu2]) rfl tA51 rfl (cellsB (off := 0) (k := 0) rfl (m := 3) rfl)) rfl rfl rfl ?_
  obtain ⟨r2, q5⟩ : ∃ y_ : List Int × Bool × Fault, y_ = sp_strong u := ⟨_, rfl⟩
  replace hF := hF r2 q5
  refine clO (α := Option Addr × Nat) (V := fun z => .tuple #[.slice z.1 r2.1.length z.2, .bool r2.2.1, .agg #[.int .i64 r2.2.2.code, .int .i64 r2.2.2.index]]) (Ψ := fun z => True) (B := fun z => [OwnSl 3 1 z.1 r2.1.length z.2 (flL r2.1)]) Try.call28 rfl rfl (fun w S => (by rw [q5]; exact c_strong S.sub u au cu _q1 _q2 au2 cu2 _q3 _q4 )) rfl (fun z _ => ?_)
  obtain ⟨a, c⟩ := z
  refine .cast (A' := [OwnSl 3 1 a r2.1.length c (flL r2.1), Box pu [.int .i64 u.network.events, .slice au u.network.links.length cu, .slice au2 u.contingent.length cu2]]) rfl ?_
  refine .v (mv rfl) rfl rfl rfl ?_
  refine .v (ext rfl rfl) rfl rfl rfl ?_
  refine .v (ext rfl rfl) rfl rfl rfl ?_
  refine .v (ext rfl rfl) rfl rfl rfl ?_
  refine al tZ27 rfl (fun pf => ?_)
  refine .v (asg rfl) rfl rfl rfl ?_
  refine .v (asg rfl) rfl rfl rfl ?_
  refine st (p := pf) (off := 0) (k := 0) (vs := [.int .i64 r2.2.2.code, .int .i64 r2.2.2.index]) rfl rfl rfl (fun w => (tA27 w).2) rfl rfl rfl rfl ?_
  refine .cast (A' := [Box pf [.int .i64 r2.2.2.code, .int .i64 r2.2.2.index], OwnSl 3 1 a r2.1.length c (flL r2.1), Box pu [.int .i64 u.network.events, .slice au u.network.links.length cu, .slice au2 u.contingent.length cu2]]) rfl ?_
  refine .nil ?_
  refine .seqN ?_
  refine .seq ?_
  refine .region ?_
  refine .v (ldA (cs := [.int .i64 u.network.events, .slice au u.network.links.length cu, .slice au2 u.contingent.length cu2]) rfl tA51 rfl (cellsB (off := 0) (k := 2) rfl (m := 3) rfl)) rfl rfl rfl ?_
  obtain ⟨r3, q6⟩ : ∃ y_ : Fault, y_ = sp_uvalidate u := ⟨_, rfl⟩
  replace hF := hF r3 q6
  refine .c (cl (v := .agg #[.int .i64 r3.code, .int .i64 r3.index]) Try.call29 rfl rfl (fun w S => (by rw [q6]; exact c_uncertainFault S.sub u au cu _q1 _q2 au2 cu2 _q3 _q4 ))) rfl rfl rfl ?_
  refine al tZ27 rfl (fun pe => ?_)
  refine st (p := pe) (off := 0) (k := 0) (vs := [.int .i64 r3.code, .int .i64 r3.index]) rfl rfl rfl (fun w => (tA27 w).2) rfl rfl rfl rfl ?_
  refine .cast (A' := [Box pe [.int .i64 r3.code, .int .i64 r3.index], Box pf [.int .i64 r2.2.2.code, .int .i64 r2.2.2.index], OwnSl 3 1 a r2.1.length c (flL r2.1), Box pu [.int .i64 u.network.events, .slice au u.network.links.length cu, .slice au2 u.contingent.length cu2]]) rfl ?_
  refine .nil ?_
  refine .seqN ?_
  refine .seq ?_
  refine .seq ?_
  refine .region ?_
  refine .v (fa rfl tF27_0) rfl rfl rfl ?_
  refine .v (ld1 rfl tO3 (cellB (off := 0) (k := 0) rfl rfl)) rfl rfl rfl ?_
  refine .v (bi rfl rfl rfl) rfl rfl rfl ?_
  refine .nil ?_
  refine .seqN ?_
  refine .cond rfl (fun q16 => ?_) (fun q16 => ?_)
  · replace hF := hF.1 q16
    refine .seq ?_
    refine .region ?_
    refine .v (ldA (cs := [.int .i64 r2.2.2.code, .int .i64 r2.2.2.index]) rfl tA27 rfl (cellsB (off := 0) (k := 1) rfl (m := 2) rfl)) rfl rfl rfl ?_
    refine .v (ldA (cs := [.int .i64 r3.code, .int .i64 r3.index]) rfl tA27 rfl (cellsB (off := 0) (k := 0) rfl (m := 2) rfl)) rfl rfl rfl ?_
    refine .v (eq2 tE27 rfl rfl) rfl rfl rfl ?_
    refine .v (mv rfl) rfl rfl rfl ?_
    rcases Bool.eq_false_or_eq_true ((r2.2.2.code == r3.code) && (r2.2.2.index == r3.index)) with q21 | q21
    · replace hF := hF.1 q21
      refine .gv (mv rfl) rfl rfl rfl q21 rfl rfl ?_
      refine .gv (nt rfl) rfl rfl rfl q21 rfl rfl ?_
      refine .v (pkT rfl q21 rfl) rfl rfl rfl ?_
      refine .v (mv rfl) rfl rfl rfl ?_
      rcases Bool.eq_false_or_eq_true (!r2.2.1) with q22 | q22
      · replace hF := hF.1 q22
        refine .gv (mv rfl) rfl rfl rfl q22 rfl rfl ?_
        refine .gv (ln rfl tS32.is) rfl rfl rfl q22 rfl rfl ?_
        refine .gv (bi rfl rfl rfl) rfl rfl rfl q22 rfl rfl ?_
        refine .v (pkT rfl q22 rfl) rfl rfl rfl ?_
        refine .v (mv rfl) rfl rfl rfl ?_
        rcases Bool.eq_false_or_eq_true (((r2.1.length : Nat) : Int) == 0) with q23 | q23
        · replace hF := hF.1 q23
          obtain ⟨r4, q24⟩ : ∃ y_ : Bool, y_ = sp_awaited := ⟨_, rfl⟩
          replace hF := hF r4 q24
          refine .gc (cl (v := .bool r4) Try.call30 rfl rfl (fun w S => (by rw [q24]; exact c_awaited S.sub  ))) rfl rfl rfl q23 rfl rfl ?_
          refine .v (pkT rfl q23 rfl) rfl rfl rfl ?_
          refine .v (asg rfl) rfl rfl rfl ?_
          refine .nil ?_
          refine .seqN ?_
          refine .ret ?_
          refine .seqR ?_
          refine .res1 rfl (rvT rfl) (fun w' S => ⟨r4, hF, rfl, S.below⟩)
        replace hF := hF.2 q23
        refine .gS rfl rfl rfl q23 rfl rfl ?_
        refine .v (pkF rfl q23 rfl) rfl rfl rfl ?_
        refine .v (asg rfl) rfl rfl rfl ?_
        refine .nil ?_
        refine .seqN ?_
        refine .ret ?_
        refine .seqR ?_
        refine .res1 rfl (rvT rfl) (fun w' S => ⟨false, hF, rfl, S.below⟩)
      replace hF := hF.2 q22
      refine .gS rfl rfl rfl q22 rfl rfl ?_
      refine .gS rfl rfl rfl q22 rfl rfl ?_
      refine .gS rfl rfl rfl q22 rfl rfl ?_
      refine .v (pkF rfl q22 rfl) rfl rfl rfl ?_
      refine .v (mv rfl) rfl rfl rfl ?_
      refine .gS rfl rfl rfl rfl rfl rfl ?_
      refine .v (pkF rfl rfl rfl) rfl rfl rfl ?_
      refine .v (asg rfl) rfl rfl rfl ?_
      refine .nil ?_
      refine .seqN ?_
      refine .ret ?_
      refine .seqR ?_
      refine .res1 rfl (rvT rfl) (fun w' S => ⟨false, hF, rfl, S.below⟩)
    replace hF := hF.2 q21
    refine .gS rfl rfl rfl q21 rfl rfl ?_
    refine .gS rfl rfl rfl q21 rfl rfl ?_
    refine .v (pkF rfl q21 rfl) rfl rfl rfl ?_
    refine .v (mv rfl) rfl rfl rfl ?_
    refine .gS rfl rfl rfl rfl rfl rfl ?_
    refine .gS rfl rfl rfl rfl rfl rfl ?_
    refine .gS rfl rfl rfl rfl rfl rfl ?_
    refine .v (pkF rfl rfl rfl) rfl rfl rfl ?_
    refine .v (mv rfl) rfl rfl rfl ?_
    refine .gS rfl rfl rfl rfl rfl rfl ?_
    refine .v (pkF rfl rfl rfl) rfl rfl rfl ?_
    refine .v (asg rfl) rfl rfl rfl ?_
    refine .nil ?_
    refine .seqN ?_
    refine .ret ?_
    refine .seqR ?_
    refine .res1 rfl (rvT rfl) (fun w' S => ⟨false, hF, rfl, S.below⟩)
  replace hF := hF.2 q16
  refine .skip ?_
  refine .seqN ?_
  refine .seq ?_
  refine .seq ?_
  refine .region ?_
  refine .v (fa rfl tF27_0) rfl rfl rfl ?_
  refine .v (ld1 rfl tO3 (cellB (off := 0) (k := 1) rfl rfl)) rfl rfl rfl ?_
  refine .v (bi rfl rfl rfl) rfl rfl rfl ?_
  refine .nil ?_
  refine .seqN ?_
  refine .cond rfl (fun q26 => ?_) (fun q26 => ?_)
  · replace hF := hF.1 q26
    refine .seq ?_
    refine .region ?_
    refine .v (asg rfl) rfl rfl rfl ?_
    refine .nil ?_
    refine .seqN ?_
    refine .ret ?_
    refine .seqR ?_
    refine .res1 rfl (rvT rfl) (fun w' S => ⟨false, hF, rfl, S.below⟩)
  replace hF := hF.2 q26
  refine .skip ?_
  refine .seqN ?_
  refine .seq ?_
  refine .seq ?_
  refine .region ?_
  refine .v (ldA (cs := [.int .i64 u.network.events, .slice au u.network.links.length cu, .slice au2 u.contingent.length cu2]) rfl tA51 rfl (cellsB (off := 0) (k := 3) rfl (m := 3) rfl)) rfl rfl rfl ?_
  obtain ⟨q27, hF⟩ := hF
  obtain ⟨r5, q28⟩ : ∃ y_ : Int, y_ = sp_choices u := ⟨_, rfl⟩
  replace hF := hF r5 q28
  refine .c (cl (v := .int .i64 r5) Try.call31 rfl rfl (fun w S => (by rw [q28]; exact c_choices S.sub u au cu _q1 _q2 au2 cu2 _q3 _q4 q27))) rfl rfl rfl ?_
  refine .v (bi rfl rfl rfl) rfl rfl rfl ?_
  refine .nil ?_
  refine .seqN ?_
  refine .cond rfl (fun q31 => ?_) (fun q31 => ?_)
  · replace hF := hF.1 q31
    refine .seq ?_
    refine .region ?_
    obtain ⟨r6, q32⟩ : ∃ y_ : Bool, y_ = sp_awaited := ⟨_, rfl⟩
    replace hF := hF r6 q32
    refine .c (cl (v := .bool r6) Try.call30 rfl rfl (fun w S => (by rw [q32]; exact c_awaited S.sub  ))) rfl rfl rfl ?_
    refine .v (asg rfl) rfl rfl rfl ?_
    refine .nil ?_
    refine .seqN ?_
    refine .ret ?_
    refine .seqR ?_
    refine .res1 rfl (rvT rfl) (fun w' S => ⟨r6, hF, rfl, S.below⟩)
  replace hF := hF.2 q31
  refine .skip ?_
  refine .seqN ?_
  refine .seq ?_
  refine .region ?_
  refine .v (ldA (cs := [.int .i64 u.network.events, .slice au u.network.links.length cu, .slice au2 u.contingent.length cu2]) rfl tA51 rfl (cellsB (off := 0) (k := 3) rfl (m := 3) rfl)) rfl rfl rfl ?_
  obtain ⟨q33, hF⟩ := hF
  obtain ⟨r7, q34⟩ : ∃ y_ : List Int × Bool, y_ = sp_strongTimes u := ⟨_, rfl⟩
  replace hF := hF r7 q34
  refine clR (α := Option Addr × Nat) (Φ := fun h1 z => RSl h1 z.1 r7.1 ∧ r7.1.length ≤ z.2) (V := fun z => .tuple #[.slice z.1 r7.1.length z.2, .bool r7.2]) Try.call32 rfl rfl (fun w S => (by rw [q34]; exact c_strongTimes S.sub u au cu _q1 _q2 au2 cu2 _q3 _q4 q33)) rfl (fun z h1 le1 hz => ?_)
  obtain ⟨a2, c2⟩ := z
  obtain ⟨q35, q36⟩ := hz
  refine .v (mv rfl) rfl rfl rfl ?_
  refine .v (ext rfl rfl) rfl rfl rfl ?_
  refine .v (ext rfl rfl) rfl rfl rfl ?_
  refine .v (asg rfl) rfl rfl rfl ?_
  refine .v (asg rfl) rfl rfl rfl ?_
  refine .nil ?_
  refine .seqN ?_
  refine .seq ?_
  refine .region ?_
  refine .v (mv rfl) rfl rfl rfl ?_
  refine .v (mv rfl) rfl rfl rfl ?_
  refine .v (beql Try.underlying4 rfl rfl) rfl rfl rfl ?_
  refine .v (mv rfl) rfl rfl rfl ?_
  rcases Bool.eq_false_or_eq_true (r2.2.1 == r7.2) with q42 | q42
  · replace hF := hF.1 q42
    refine .gv (mv rfl) rfl rfl rfl q42 rfl rfl ?_
    refine .gv (mv rfl) rfl rfl rfl q42 rfl rfl ?_
    obtain ⟨q43, hF⟩ := hF
    obtain ⟨r8, q44⟩ : ∃ y_ : Bool, y_ = sp_numbers r2.1 r7.1 := ⟨_, rfl⟩
    replace hF := hF r8 q44
    refine .gc (cl (v := .bool r8) Try.call33 rfl rfl (fun w S => (by rw [q44]; obtain ⟨h_, hl_, hs_, hne_, hr_⟩ := look S (k := 2) rfl; exact c_numbers hs_ r2.1 a c (RSl.of hr_) (look_len S (k := 2) rfl) r7.1 a2 c2 (RSl.mono hl_ q35) q36 q43))) rfl rfl rfl q42 rfl rfl ?_
    refine .v (pkT rfl q42 rfl) rfl rfl rfl ?_
    refine .v (mv rfl) rfl rfl rfl ?_
    rcases Bool.eq_false_or_eq_true (r8) with q45 | q45
    · replace hF := hF.1 q45
      obtain ⟨r9, q46⟩ : ∃ y_ : Bool, y_ = sp_awaited := ⟨_, rfl⟩
      replace hF := hF r9 q46
      refine .gc (cl (v := .bool r9) Try.call30 rfl rfl (fun w S => (by rw [q46]; exact c_awaited S.sub  ))) rfl rfl rfl q45 rfl rfl ?_
      refine .v (pkT rfl q45 rfl) rfl rfl rfl ?_
      refine .v (asg rfl) rfl rfl rfl ?_
      refine .nil ?_
      refine .seqN ?_
      refine .ret ?_
      refine .res1 rfl (rvT rfl) (fun w' S => ⟨r9, hF, rfl, S.below⟩)
    replace hF := hF.2 q45
    refine .gS rfl rfl rfl q45 rfl rfl ?_
    refine .v (pkF rfl q45 rfl) rfl rfl rfl ?_
    refine .v (asg rfl) rfl rfl rfl ?_
    refine .nil ?_
    refine .seqN ?_
    refine .ret ?_
    refine .res1 rfl (rvT rfl) (fun w' S => ⟨false, hF, rfl, S.below⟩)
  replace hF := hF.2 q42
  refine .gS rfl rfl rfl q42 rfl rfl ?_
  refine .gS rfl rfl rfl q42 rfl rfl ?_
  refine .gS rfl rfl rfl q42 rfl rfl ?_
  refine .v (pkF rfl q42 rfl) rfl rfl rfl ?_
  refine .v (mv rfl) rfl rfl rfl ?_
  refine .gS rfl rfl rfl rfl rfl rfl ?_
  refine .v (pkF rfl rfl rfl) rfl rfl rfl ?_
  refine .v (asg rfl) rfl rfl rfl ?_
  refine .nil ?_
  refine .seqN ?_
  refine .ret ?_
  refine .res1 rfl (rvT rfl) (fun w' S => ⟨false, hF, rfl, S.below⟩)

theorem c_lawStrongMatchesSpec {h : FH} {w : World} (hs : Sub h w) (u : Uncertain) (au : Option Addr) (cu : Nat) (_q1 : RSl h au u.network.links) (_q2 : u.network.links.length ≤ cu) (au2 : Option Addr) (cu2 : Nat) (_q3 : RSl h au2 u.contingent) (_q4 : u.contingent.length ≤ cu2) : Calls Try.prog 8 #[.agg #[.int .i64 u.network.events, .slice au u.network.links.length cu, .slice au2 u.contingent.length cu2]] w fun e w' => e = .returned (.bool (sp_lawStrongMatchesSpec u)) ∧ Below w.heap.size w w' :=
  (w_lawStrongMatchesSpec hs u au cu _q1 _q2 au2 cu2 _q3 _q4 (fun r => r = sp_lawStrongMatchesSpec u) (ok_lawStrongMatchesSpec u)).mono fun _ _ ⟨_, hk, he, hb⟩ => ⟨by rw [he, hk], hb⟩

set_option maxHeartbeats 8000000 in
theorem w_lawDispatchIsSteady {h : FH} {w : World} (hs : Sub h w) (u : Uncertain) (au : Option Addr) (cu : Nat) (_q1 : RSl h au u.network.links) (_q2 : u.network.links.length ≤ cu) (au2 : Option Addr) (cu2 : Nat) (_q3 : RSl h au2 u.contingent) (_q4 : u.contingent.length ≤ cu2) (d : List Int) (ad : Option Addr) (cd : Nat) (_q5 : RSl h ad d) (_q6 : d.length ≤ cd) (e_ : List Int) (ae_ : Option Addr) (ce_ : Nat) (_q7 : RSl h ae_ e_) (_q8 : e_.length ≤ ce_) (K : Bool → Prop) (hF : F_lawDispatchIsSteady u d e_ K) : Calls Try.prog 10 #[.agg #[.int .i64 u.network.events, .slice au u.network.links.length cu, .slice au2 u.contingent.length cu2], .slice ad d.length cd, .slice ae_ e_.length ce_] w fun e w' => ∃ r : Bool, K r ∧ e = .returned (.bool r) ∧ Below w.heap.size w w' := by
  refine enter (args := [.agg #[.int .i64 u.network.events, .slice au u.network.links.length cu, .slice au2 u.contingent.length cu2], .slice ad d.length cd, .slice ae_ e_.length ce_]) Try.func10 rfl Try.ntmps10 rfl hs ?_
  refine .seq ?_
  refine .region ?_
  refine bx (vs := [.int .i64 u.network.events, .slice au u.network.links.length cu, .slice au2 u.contingent.length cu2]) rfl rfl rfl (fun pu => ?_)
  refine .v (asg rfl) rfl rfl rfl ?_
  refine .nil ?_
  refine .seqN ?_
  refine .seq ?_
  refine .region ?_
  refine .v (ldA (cs := [.int .i64 u.network.events, .slice au u.network.links.length cu, .slice au2 u.contingent.length cu2]) rfl tA51 rfl (cellsB (off := 0) (k := 0) rfl (m := 3) rfl)) rfl rfl rfl ?_
  refine .v (mv rfl) rfl rfl rfl ?_
  obtain ⟨r2, q9⟩ : ∃ y_ : List Int × Bool × Fault, y_ = sp_dispatch u d := ⟨_, rfl⟩
  replace hF := hF r2 q9
  refine clR (α := Option Addr × Nat) (Φ := fun h1 z => RSl h1 z.1 r2.1 ∧ r2.1.length ≤ z.2) (V := fun z => .tuple #[.slice z.1 r2.1.length z.2, .bool r2.2.1, .agg #[.int .i64 r2.2.2.code, .int .i64 r2.2.2.index]]) Try.call36 rfl rfl (fun w S => (by rw [q9]; exact c_dispatch S.sub u au cu _q1 _q2 au2 cu2 _q3 _q4 d ad cd _q5 _q6 )) rfl (fun z h1 le1 hz => ?_)
  obtain ⟨a, c⟩ := z
  obtain ⟨q10, q11⟩ := hz
  refine .v (mv rfl) rfl rfl rfl ?_
  refine .v (ext rfl rfl) rfl rfl rfl ?_
  refine .v (ext rfl rfl) rfl rfl rfl ?_
  refine .v (ext rfl rfl) rfl rfl rfl ?_
  refine al tZ27 rfl (fun pf => ?_)
  refine .v (asg rfl) rfl rfl rfl ?_
  refine .v (asg rfl) rfl rfl rfl ?_
  refine st (p := pf) (off := 0) (k := 0) (vs := [.int .i64 r2.2.2.code, .int .i64 r2.2.2.index]) rfl rfl rfl (fun w => (tA27 w).2) rfl rfl rfl rfl ?_
  refine .cast (A' := [Box pf [.int .i64 r2.2.2.code, .int .i64 r2.2.2.index], Box pu [.int .i64 u.network.events, .slice au u.network.links.length cu, .slice au2 u.contingent.length cu2]]) rfl ?_
  refine .nil ?_
  refine .seqN ?_
  refine .seq ?_
  refine .region ?_
  refine .v (ldA (cs := [.int .i64 u.network.events, .slice au u.network.links.length cu, .slice au2 u.contingent.length cu2]) rfl tA51 rfl (cellsB (off := 0) (k := 1) rfl (m := 3) rfl)) rfl rfl rfl ?_
  refine .v (mv rfl) rfl rfl rfl ?_
  obtain ⟨r3, q12⟩ : ∃ y_ : List Int × Bool × Fault, y_ = sp_dispatch u e_ := ⟨_, rfl⟩
  replace hF := hF r3 q12
  refine clR (α := Option Addr × Nat) (Φ := fun h1 z => RSl h1 z.1 r3.1 ∧ r3.1.length ≤ z.2) (V := fun z => .tuple #[.slice z.1 r3.1.length z.2, .bool r3.2.1, .agg #[.int .i64 r3.2.2.code, .int .i64 r3.2.2.index]]) Try.call36 rfl rfl (fun w S => (by rw [q12]; exact c_dispatch S.sub u au cu (_q1.mono (le1)) _q2 au2 cu2 (_q3.mono (le1)) _q4 e_ ae_ ce_ (_q7.mono (le1)) _q8 )) rfl (fun z h2 le2 hz => ?_)
  obtain ⟨a2, c2⟩ := z
  obtain ⟨q13, q14⟩ := hz
  refine .v (mv rfl) rfl rfl rfl ?_
  refine .v (ext rfl rfl) rfl rfl rfl ?_
  refine .v (ext rfl rfl) rfl rfl rfl ?_
  refine .v (ext rfl rfl) rfl rfl rfl ?_
  refine al tZ27 rfl (fun pg => ?_)
  refine .v (asg rfl) rfl rfl rfl ?_
  refine .v (asg rfl) rfl rfl rfl ?_
  refine st (p := pg) (off := 0) (k := 0) (vs := [.int .i64 r3.2.2.code, .int .i64 r3.2.2.index]) rfl rfl rfl (fun w => (tA27 w).2) rfl rfl rfl rfl ?_
  refine .cast (A' := [Box pg [.int .i64 r3.2.2.code, .int .i64 r3.2.2.index], Box pf [.int .i64 r2.2.2.code, .int .i64 r2.2.2.index], Box pu [.int .i64 u.network.events, .slice au u.network.links.length cu, .slice au2 u.contingent.length cu2]]) rfl ?_
  refine .nil ?_
  refine .seqN ?_
  refine .seq ?_
  refine .share (σ := Bool) (fun z => F_lawDispatchIsSteady_J1 u K r2 r3 z) (fun z => [(3, .pointer (some pu)), (7, .slice a r2.1.length c), (8, .bool r2.2.1), (9, .pointer (some pf)), (10, .slice a2 r3.1.length c2), (11, .bool r3.2.1), (12, .pointer (some pg)), (45, .bool z)]) (fun _ => [Box pu [.int .i64 u.network.events, .slice au u.network.links.length cu, .slice au2 u.contingent.length cu2], Box pf [.int .i64 r2.2.2.code, .int .i64 r2.2.2.index], Box pg [.int .i64 r3.2.2.code, .int .i64 r3.2.2.index]]) (fun _ => h2) ?_ (fun q18 => ?_)
  · rintro t45 hF
    show J _ _ _ _ _ [(3, .pointer (some pu)), (7, .slice a r2.1.length c), (8, .bool r2.2.1), (9, .pointer (some pf)), (10, .slice a2 r3.1.length c2), (11, .bool r3.2.1), (12, .pointer (some pg)), (45, .bool t45)] [Box pu [.int .i64 u.network.events, .slice au u.network.links.length cu, .slice au2 u.contingent.length cu2], Box pf [.int .i64 r2.2.2.code, .int .i64 r2.2.2.index], Box pg [.int .i64 r3.2.2.code, .int .i64 r3.2.2.index]] h2
    refine .cond rfl (fun q32 => ?_) (fun q32 => ?_)
    · replace hF := hF.1 q32
      refine .seq ?_
      refine .region ?_
      refine .v (fa rfl tF27_0) rfl rfl rfl ?_
      refine .v (ld1 rfl tO3 (cellB (off := 0) (k := 1) rfl rfl)) rfl rfl rfl ?_
      refine .v (bi rfl rfl rfl) rfl rfl rfl ?_
      refine .v (mv rfl) rfl rfl rfl ?_
      rcases Bool.eq_false_or_eq_true (r2.2.2.code != 0) with q39 | q39
      · replace hF := hF.1 q39
        refine .gS rfl rfl rfl q39 rfl rfl ?_
        refine .gS rfl rfl rfl q39 rfl rfl ?_
        refine .gS rfl rfl rfl q39 rfl rfl ?_
        refine .v (pkT rfl q39 rfl) rfl rfl rfl ?_
        refine .v (mv rfl) rfl rfl rfl ?_
        refine .gS rfl rfl rfl rfl rfl rfl ?_
        refine .gS rfl rfl rfl rfl rfl rfl ?_
        refine .gS rfl rfl rfl rfl rfl rfl ?_
        refine .v (pkT rfl rfl rfl) rfl rfl rfl ?_
        refine .v (mv rfl) rfl rfl rfl ?_
        obtain ⟨r4, q40⟩ : ∃ y_ : Bool, y_ = sp_awaited := ⟨_, rfl⟩
        replace hF := hF r4 q40
        refine .gc (cl (v := .bool r4) Try.call30 rfl rfl (fun w S => (by rw [q40]; exact c_awaited S.sub  ))) rfl rfl rfl rfl rfl rfl ?_
        refine .v (pkT rfl rfl rfl) rfl rfl rfl ?_
        refine .v (asg rfl) rfl rfl rfl ?_
        refine .nil ?_
        refine .seqN ?_
        refine .ret ?_
        refine .seqR ?_
        refine .res1 rfl (rvT rfl) (fun w' S => ⟨r4, hF, rfl, S.below⟩)
      replace hF := hF.2 q39
      refine .gv (fa rfl tF27_0) rfl rfl rfl q39 rfl rfl ?_
      refine .gv (ld1 rfl tO3 (cellB (off := 0) (k := 2) rfl rfl)) rfl rfl rfl q39 rfl rfl ?_
      refine .gv (bi rfl rfl rfl) rfl rfl rfl q39 rfl rfl ?_
      refine .v (pkF rfl q39 rfl) rfl rfl rfl ?_
      refine .v (mv rfl) rfl rfl rfl ?_
      rcases Bool.eq_false_or_eq_true (r3.2.2.code != 0) with q41 | q41
      · replace hF := hF.1 q41
        refine .gS rfl rfl rfl q41 rfl rfl ?_
        refine .gS rfl rfl rfl q41 rfl rfl ?_
        refine .gS rfl rfl rfl q41 rfl rfl ?_
        refine .v (pkT rfl q41 rfl) rfl rfl rfl ?_
        refine .v (mv rfl) rfl rfl rfl ?_
        obtain ⟨r5, q42⟩ : ∃ y_ : Bool, y_ = sp_awaited := ⟨_, rfl⟩
        replace hF := hF r5 q42
        refine .gc (cl (v := .bool r5) Try.call30 rfl rfl (fun w S => (by rw [q42]; exact c_awaited S.sub  ))) rfl rfl rfl rfl rfl rfl ?_
        refine .v (pkT rfl rfl rfl) rfl rfl rfl ?_
        refine .v (asg rfl) rfl rfl rfl ?_
        refine .nil ?_
        refine .seqN ?_
        refine .ret ?_
        refine .seqR ?_
        refine .res1 rfl (rvT rfl) (fun w' S => ⟨r5, hF, rfl, S.below⟩)
      replace hF := hF.2 q41
      refine .gv (mv rfl) rfl rfl rfl q41 rfl rfl ?_
      refine .gv (mv rfl) rfl rfl rfl q41 rfl rfl ?_
      refine .gv (beql Try.underlying4 rfl rfl) rfl rfl rfl q41 rfl rfl ?_
      refine .v (pkF rfl q41 rfl) rfl rfl rfl ?_
      refine .v (mv rfl) rfl rfl rfl ?_
      rcases Bool.eq_false_or_eq_true (r2.2.1 == r3.2.1) with q43 | q43
      · replace hF := hF.1 q43
        obtain ⟨r6, q44⟩ : ∃ y_ : Bool, y_ = sp_awaited := ⟨_, rfl⟩
        replace hF := hF r6 q44
        refine .gc (cl (v := .bool r6) Try.call30 rfl rfl (fun w S => (by rw [q44]; exact c_awaited S.sub  ))) rfl rfl rfl q43 rfl rfl ?_
        refine .v (pkT rfl q43 rfl) rfl rfl rfl ?_
        refine .v (asg rfl) rfl rfl rfl ?_
        refine .nil ?_
        refine .seqN ?_
        refine .ret ?_
        refine .seqR ?_
        refine .res1 rfl (rvT rfl) (fun w' S => ⟨r6, hF, rfl, S.below⟩)
      replace hF := hF.2 q43
      refine .gS rfl rfl rfl q43 rfl rfl ?_
      refine .v (pkF rfl q43 rfl) rfl rfl rfl ?_
      refine .v (asg rfl) rfl rfl rfl ?_
      refine .nil ?_
      refine .seqN ?_
      refine .ret ?_
      refine .seqR ?_
      refine .res1 rfl (rvT rfl) (fun w' S => ⟨false, hF, rfl, S.below⟩)
    replace hF := hF.2 q32
    refine .skip ?_
    refine .seqN ?_
    refine .seq ?_
    refine .share (σ := Bool) (fun z => F_lawDispatchIsSteady_J2 u K r2 r3 z) (fun z => [(3, .pointer (some pu)), (7, .slice a r2.1.length c), (10, .slice a2 r3.1.length c2), (75, .bool z)]) (fun _ => [Box pu [.int .i64 u.network.events, .slice au u.network.links.length cu, .slice au2 u.contingent.length cu2]]) (fun _ => h2) ?_ (fun q46 => ?_)
    · rintro t75 hF
      show J _ _ _ _ _ [(3, .pointer (some pu)), (7, .slice a r2.1.length c), (10, .slice a2 r3.1.length c2), (75, .bool t75)] [Box pu [.int .i64 u.network.events, .slice au u.network.links.length cu, .slice au2 u.contingent.length cu2]] h2
      refine .cond rfl (fun q48 => ?_) (fun q48 => ?_)
      · replace hF := hF.1 q48
        refine .seq ?_
        refine .region ?_
        refine .v (asg rfl) rfl rfl rfl ?_
        refine .nil ?_
        refine .seqN ?_
        refine .ret ?_
        refine .seqR ?_
        refine .res1 rfl (rvT rfl) (fun w' S => ⟨false, hF, rfl, S.below⟩)
      replace hF := hF.2 q48
      refine .skip ?_
      refine .seqN ?_
      refine .seq ?_
      refine .seq ?_
      refine .region ?_
      refine .v (asg rfl) rfl rfl rfl ?_
      refine .nil ?_
      refine .seqN ?_
      refine .block ?_
      obtain ⟨I1, μ1, q811, q812⟩ := hF
      refine .loop' (σ := Int) (fun z => I1 z) (fun z => μ1 z) (fun z => [(3, .pointer (some pu)), (7, .slice a r2.1.length c), (10, .slice a2 r3.1.length c2), (13, .int .i64 z)]) (fun _ => [Box pu [.int .i64 u.network.events, .slice au u.network.links.length cu, .slice au2 u.contingent.length cu2]]) (fun _ => h2) 0 q811 (.cons rfl (.cons rfl (.cons rfl (.cons rfl (.nil))))) rfl (FH.le_refl _) ?_
      rintro i q811
      have hF := q812 i q811
      show J _ _ _ _ _ [(3, .pointer (some pu)), (7, .slice a r2.1.length c), (10, .slice a2 r3.1.length c2), (13, .int .i64 i)] [Box pu [.int .i64 u.network.events, .slice au u.network.links.length cu, .slice au2 u.contingent.length cu2]] h2
      refine .seq ?_
      refine .seq ?_
      refine .region ?_
      refine .v (mv rfl) rfl rfl rfl ?_
      refine .v (mv rfl) rfl rfl rfl ?_
      refine .v (ln rfl tS32.is) rfl rfl rfl ?_
      refine .v (bi rfl rfl rfl) rfl rfl rfl ?_
      refine .nil ?_
      refine .seqN ?_
      refine .cond rfl (fun q814 => ?_) (fun q814 => ?_)
      · replace hF := hF.1 q814
        refine .skip ?_
        refine .seqN ?_
        refine .seq ?_
        refine .block ?_
        refine .seq ?_
        refine .region ?_
        refine .v (asg rfl) rfl rfl rfl ?_
        refine .nil ?_
        refine .seqN ?_
        refine .seq ?_
        refine .seq ?_
        refine .region ?_
        refine .v (asg rfl) rfl rfl rfl ?_
        refine .nil ?_
        refine .seqN ?_
        refine .block ?_
        obtain ⟨I2, μ2, q948, q949⟩ := hF
        refine .loop' (σ := Bool × Int) (fun z => I2 z.1 z.2) (fun z => μ2 z.1 z.2) (fun z => [(3, .pointer (some pu)), (7, .slice a r2.1.length c), (10, .slice a2 r3.1.length c2), (13, .int .i64 i), (14, .bool z.1), (15, .int .i64 z.2)]) (fun _ => [Box pu [.int .i64 u.network.events, .slice au u.network.links.length cu, .slice au2 u.contingent.length cu2]]) (fun _ => h2) (false, 0) q948 (.cons rfl (.cons rfl (.cons rfl (.cons rfl (.cons rfl (.cons rfl (.nil))))))) rfl (FH.le_refl _) ?_
        rintro ⟨contingent, k⟩ q948
        have hF := q949 contingent k q948
        show J _ _ _ _ _ [(3, .pointer (some pu)), (7, .slice a r2.1.length c), (10, .slice a2 r3.1.length c2), (13, .int .i64 i), (14, .bool contingent), (15, .int .i64 k)] [Box pu [.int .i64 u.network.events, .slice au u.network.links.length cu, .slice au2 u.contingent.length cu2]] h2
        refine .seq ?_
        refine .seq ?_
        refine .region ?_
        refine .v (mv rfl) rfl rfl rfl ?_
        refine .v (fa rfl tF51_1) rfl rfl rfl ?_
        refine .v (ld1 rfl tO22 (cellB (off := 2) (k := 0) rfl rfl)) rfl rfl rfl ?_
        refine .v (ln rfl tS22.is) rfl rfl rfl ?_
        refine .v (bi rfl rfl rfl) rfl rfl rfl ?_
        refine .nil ?_
        refine .seqN ?_
        refine .cond rfl (fun q951 => ?_) (fun q951 => ?_)
        · replace hF := hF.1 q951
          refine .skip ?_
          refine .seqN ?_
          refine .share (σ := Bool) (fun z => F_lawDispatchIsSteady_J3 contingent k I2 μ2 z) (fun z => [(3, .pointer (some pu)), (7, .slice a r2.1.length c), (10, .slice a2 r3.1.length c2), (13, .int .i64 i), (14, .bool z), (15, .int .i64 k)]) (fun _ => [Box pu [.int .i64 u.network.events, .slice au u.network.links.length cu, .slice au2 u.contingent.length cu2]]) (fun _ => h2) ?_ (fun q954 => ?_)
          · rintro contingent3 hF
            show J _ _ _ _ _ [(3, .pointer (some pu)), (7, .slice a r2.1.length c), (10, .slice a2 r3.1.length c2), (13, .int .i64 i), (14, .bool contingent3), (15, .int .i64 k)] [Box pu [.int .i64 u.network.events, .slice au u.network.links.length cu, .slice au2 u.contingent.length cu2]] h2
            refine .region ?_
            refine .v (mv rfl) rfl rfl rfl ?_
            refine .v (bi rfl rfl rfl) rfl rfl rfl ?_
            refine .v (asg rfl) rfl rfl rfl ?_
            refine .nil ?_
            exact .round (contingent3, IntKind.i64.wrap (k + 1)) hF.1 hF.2 (.cons rfl (.cons rfl (.cons rfl (.cons rfl (.cons rfl (.cons rfl (.nil))))))) rfl (FH.le_refl _)
          refine .block ?_
          refine .region ?_
          refine .v (mv rfl) rfl rfl rfl ?_
          refine .v (mv rfl) rfl rfl rfl ?_
          rcases Bool.eq_false_or_eq_true (contingent) with q955 | q955
          · replace hF := hF.1 q955
            refine .gS rfl rfl rfl q955 rfl rfl ?_
            refine .gS rfl rfl rfl q955 rfl rfl ?_
            refine .gS rfl rfl rfl q955 rfl rfl ?_
            refine .gS rfl rfl rfl q955 rfl rfl ?_
            refine .gS rfl rfl rfl q955 rfl rfl ?_
            refine .gS rfl rfl rfl q955 rfl rfl ?_
            refine .gS rfl rfl rfl q955 rfl rfl ?_
            refine .gS rfl rfl rfl q955 rfl rfl ?_
            refine .v (pkT rfl q955 rfl) rfl rfl rfl ?_
            refine .v (asg rfl) rfl rfl rfl ?_
            refine .nil ?_
            refine .blkN ?_
            exact .use q954 true hF (.cons rfl (.cons rfl (.cons rfl (.cons rfl (.cons rfl (.cons rfl (.nil))))))) rfl (FH.le_refl _)
          replace hF := hF.2 q955
          refine .gv (fa rfl tF51_1) rfl rfl rfl q955 rfl rfl ?_
          refine .gv (ld1 rfl tO22 (cellB (off := 2) (k := 0) rfl rfl)) rfl rfl rfl q955 rfl rfl ?_
          refine .gv (mv rfl) rfl rfl rfl q955 rfl rfl ?_
          obtain ⟨q956, hF⟩ := hF
          refine .gv (ix rfl rfl tS22 (_q3.ne (by decide) (inb_pos q956)) q956) rfl rfl rfl q955 rfl rfl ?_
          refine .gv (fa rfl tF35_1) rfl rfl rfl q955 rfl rfl ?_
          refine .gv (ld1 (v := .int .i64 ((gt u.contingent k).dst)) rfl tO3 (cellH ((_q3.mono (FH.le_trans (le1) (le2))).elemF q956 (by decide) 1 _ rfl))) rfl rfl rfl q955 rfl rfl ?_
          refine .gv (mv rfl) rfl rfl rfl q955 rfl rfl ?_
          refine .gv (bi rfl rfl rfl) rfl rfl rfl q955 rfl rfl ?_
          refine .v (pkF rfl q955 rfl) rfl rfl rfl ?_
          refine .v (asg rfl) rfl rfl rfl ?_
          refine .nil ?_
          refine .blkN ?_
          exact .use q954 (((gt u.contingent k).dst) == i) hF (.cons rfl (.cons rfl (.cons rfl (.cons rfl (.cons rfl (.cons rfl (.nil))))))) rfl (FH.le_refl _)
        replace hF := hF.2 q951
        refine .exit ?_
        refine .seqX ?_
        refine .seqX ?_
        refine .blkX ?_
        refine .seqN ?_
        refine .share (σ := Bool) (fun z => F_lawDispatchIsSteady_J4 K z i I1 μ1) (fun z => [(3, .pointer (some pu)), (7, .slice a r2.1.length c), (10, .slice a2 r3.1.length c2), (13, .int .i64 i), (112, .bool z)]) (fun _ => [Box pu [.int .i64 u.network.events, .slice au u.network.links.length cu, .slice au2 u.contingent.length cu2]]) (fun _ => h2) ?_ (fun q960 => ?_)
        · rintro t112 hF
          show J _ _ _ _ _ [(3, .pointer (some pu)), (7, .slice a r2.1.length c), (10, .slice a2 r3.1.length c2), (13, .int .i64 i), (112, .bool t112)] [Box pu [.int .i64 u.network.events, .slice au u.network.links.length cu, .slice au2 u.contingent.length cu2]] h2
          refine .cond rfl (fun q961 => ?_) (fun q961 => ?_)
          · replace hF := hF.1 q961
            refine .seq ?_
            refine .region ?_
            refine .v (asg rfl) rfl rfl rfl ?_
            refine .nil ?_
            refine .seqN ?_
            refine .ret ?_
            refine .blkR ?_
            refine .seqR ?_
            refine .seqR ?_
            refine .blkR ?_
            refine .seqR ?_
            refine .res1 rfl (rvT rfl) (fun w' S => ⟨false, hF, rfl, S.below⟩)
          replace hF := hF.2 q961
          refine .skip ?_
          refine .blkN ?_
          refine .seqN ?_
          refine .region ?_
          refine .v (mv rfl) rfl rfl rfl ?_
          refine .v (bi rfl rfl rfl) rfl rfl rfl ?_
          refine .v (asg rfl) rfl rfl rfl ?_
          refine .nil ?_
          exact .round (IntKind.i64.wrap (i + 1)) hF.1 hF.2 (.cons rfl (.cons rfl (.cons rfl (.cons rfl (.nil))))) rfl (FH.le_refl _)
        refine .open_ (by kernel_rfl) (by kernel_rfl) ?_
        refine .v (mv rfl) rfl rfl rfl ?_
        refine .v (nt rfl) rfl rfl rfl ?_
        refine .v (mv rfl) rfl rfl rfl ?_
        rcases Bool.eq_false_or_eq_true (!contingent) with q962 | q962
        · replace hF := hF.1 q962
          refine .gv (mv rfl) rfl rfl rfl q962 rfl rfl ?_
          refine .gv (mv rfl) rfl rfl rfl q962 rfl rfl ?_
          obtain ⟨q963, hF⟩ := hF
          refine .gv (ix rfl rfl tS32 (q10.ne (by decide) (inb_pos q963)) q963) rfl rfl rfl q962 rfl rfl ?_
          refine .gv (ld1 (v := .int .i64 (gt r2.1 i)) rfl tO3 (cellH ((q10.mono (le2)).elemF q963 (by decide) 0 _ rfl))) rfl rfl rfl q962 rfl rfl ?_
          refine .gv (mv rfl) rfl rfl rfl q962 rfl rfl ?_
          refine .gv (mv rfl) rfl rfl rfl q962 rfl rfl ?_
          obtain ⟨q964, hF⟩ := hF
          refine .gv (ix rfl rfl tS32 (q13.ne (by decide) (inb_pos q964)) q964) rfl rfl rfl q962 rfl rfl ?_
          refine .gv (ld1 (v := .int .i64 (gt r3.1 i)) rfl tO3 (cellH (q13.elemF q964 (by decide) 0 _ rfl))) rfl rfl rfl q962 rfl rfl ?_
          refine .gv (bi rfl rfl rfl) rfl rfl rfl q962 rfl rfl ?_
          refine .v (pkT rfl q962 rfl) rfl rfl rfl ?_
          refine .fin ?_
          exact .use q960 ((gt r2.1 i) != (gt r3.1 i)) hF (.cons rfl (.cons rfl (.cons rfl (.cons rfl (.cons rfl (.nil)))))) rfl (FH.le_refl _)
        replace hF := hF.2 q962
        refine .gS rfl rfl rfl q962 rfl rfl ?_
        refine .gS rfl rfl rfl q962 rfl rfl ?_
        refine .gS rfl rfl rfl q962 rfl rfl ?_
        refine .gS rfl rfl rfl q962 rfl rfl ?_
        refine .gS rfl rfl rfl q962 rfl rfl ?_
        refine .gS rfl rfl rfl q962 rfl rfl ?_
        refine .gS rfl rfl rfl q962 rfl rfl ?_
        refine .gS rfl rfl rfl q962 rfl rfl ?_
        refine .gS rfl rfl rfl q962 rfl rfl ?_
        refine .v (pkF rfl q962 rfl) rfl rfl rfl ?_
        refine .fin ?_
        exact .use q960 false hF (.cons rfl (.cons rfl (.cons rfl (.cons rfl (.cons rfl (.nil)))))) rfl (FH.le_refl _)
      replace hF := hF.2 q814
      refine .exit ?_
      refine .seqX ?_
      refine .seqX ?_
      refine .blkX ?_
      refine .seqN ?_
      refine .seq ?_
      refine .region ?_
      obtain ⟨r7, q965⟩ : ∃ y_ : Bool, y_ = sp_awaited := ⟨_, rfl⟩
      replace hF := hF r7 q965
      refine .c (cl (v := .bool r7) Try.call30 rfl rfl (fun w S => (by rw [q965]; exact c_awaited S.sub  ))) rfl rfl rfl ?_
      refine .v (asg rfl) rfl rfl rfl ?_
      refine .nil ?_
      refine .seqN ?_
      refine .ret ?_
      refine .res1 rfl (rvT rfl) (fun w' S => ⟨r7, hF, rfl, S.below⟩)
    refine .region ?_
    refine .v (mv rfl) rfl rfl rfl ?_
    refine .v (ln rfl tS32.is) rfl rfl rfl ?_
    refine .v (fa rfl tF51_0) rfl rfl rfl ?_
    refine .v (faa (p := pu) (o1 := 0) rfl tF24_0 rfl) rfl rfl rfl ?_
    refine .v (ld1 rfl tO3 (cellB (off := 0) (k := 0) rfl rfl)) rfl rfl rfl ?_
    refine .v (bi rfl rfl rfl) rfl rfl rfl ?_
    refine .v (mv rfl) rfl rfl rfl ?_
    rcases Bool.eq_false_or_eq_true (((r2.1.length : Nat) : Int) != u.network.events) with q966 | q966
    · replace hF := hF.1 q966
      refine .gS rfl rfl rfl q966 rfl rfl ?_
      refine .gS rfl rfl rfl q966 rfl rfl ?_
      refine .gS rfl rfl rfl q966 rfl rfl ?_
      refine .gS rfl rfl rfl q966 rfl rfl ?_
      refine .gS rfl rfl rfl q966 rfl rfl ?_
      refine .gS rfl rfl rfl q966 rfl rfl ?_
      refine .v (pkT rfl q966 rfl) rfl rfl rfl ?_
      refine .nil ?_
      refine .sel0 [0] (by decide) rfl ?_
      exact .use q46 true hF (.cons rfl (.cons rfl (.cons rfl (.cons rfl (.nil))))) rfl (FH.le_refl _)
    replace hF := hF.2 q966
    refine .gv (mv rfl) rfl rfl rfl q966 rfl rfl ?_
    refine .gv (ln rfl tS32.is) rfl rfl rfl q966 rfl rfl ?_
    refine .gv (fa rfl tF51_0) rfl rfl rfl q966 rfl rfl ?_
    refine .gv (faa (p := pu) (o1 := 0) rfl tF24_0 rfl) rfl rfl rfl q966 rfl rfl ?_
    refine .gv (ld1 rfl tO3 (cellB (off := 0) (k := 0) rfl rfl)) rfl rfl rfl q966 rfl rfl ?_
    refine .gv (bi rfl rfl rfl) rfl rfl rfl q966 rfl rfl ?_
    refine .v (pkF rfl q966 rfl) rfl rfl rfl ?_
    refine .nil ?_
    refine .sel0 [0] (by decide) rfl ?_
    exact .use q46 (((r3.1.length : Nat) : Int) != u.network.events) hF (.cons rfl (.cons rfl (.cons rfl (.cons rfl (.nil))))) rfl (FH.le_refl _)
  refine .region ?_
  refine .v (fa rfl tF27_0) rfl rfl rfl ?_
  refine .v (ld1 rfl tO3 (cellB (off := 0) (k := 1) rfl rfl)) rfl rfl rfl ?_
  refine .v (bi rfl rfl rfl) rfl rfl rfl ?_
  refine .v (mv rfl) rfl rfl rfl ?_
  rcases Bool.eq_false_or_eq_true (r2.2.2.code != 0) with q967 | q967
  · replace hF := hF.1 q967
    refine .gS rfl rfl rfl q967 rfl rfl ?_
    refine .gS rfl rfl rfl q967 rfl rfl ?_
    refine .gS rfl rfl rfl q967 rfl rfl ?_
    refine .v (pkT rfl q967 rfl) rfl rfl rfl ?_
    refine .v (mv rfl) rfl rfl rfl ?_
    refine .gS rfl rfl rfl rfl rfl rfl ?_
    refine .gS rfl rfl rfl rfl rfl rfl ?_
    refine .v (pkT rfl rfl rfl) rfl rfl rfl ?_
    refine .v (mv rfl) rfl rfl rfl ?_
    refine .gS rfl rfl rfl rfl rfl rfl ?_
    refine .gS rfl rfl rfl rfl rfl rfl ?_
    refine .v (pkT rfl rfl rfl) rfl rfl rfl ?_
    refine .nil ?_
    refine .sel0 [2, 1, 0] (by decide) rfl ?_
    exact .use q18 true hF (.cons rfl (.cons rfl (.cons rfl (.cons rfl (.cons rfl (.cons rfl (.cons rfl (.cons rfl (.nil))))))))) rfl (FH.le_refl _)
  replace hF := hF.2 q967
  refine .gv (fa rfl tF27_0) rfl rfl rfl q967 rfl rfl ?_
  refine .gv (ld1 rfl tO3 (cellB (off := 0) (k := 0) rfl rfl)) rfl rfl rfl q967 rfl rfl ?_
  refine .gv (bi rfl rfl rfl) rfl rfl rfl q967 rfl rfl ?_
  refine .v (pkF rfl q967 rfl) rfl rfl rfl ?_
  refine .v (mv rfl) rfl rfl rfl ?_
  rcases Bool.eq_false_or_eq_true (r3.2.2.code != 0) with q968 | q968
  · replace hF := hF.1 q968
    refine .gS rfl rfl rfl q968 rfl rfl ?_
    refine .gS rfl rfl rfl q968 rfl rfl ?_
    refine .v (pkT rfl q968 rfl) rfl rfl rfl ?_
    refine .v (mv rfl) rfl rfl rfl ?_
    refine .gS rfl rfl rfl rfl rfl rfl ?_
    refine .gS rfl rfl rfl rfl rfl rfl ?_
    refine .v (pkT rfl rfl rfl) rfl rfl rfl ?_
    refine .nil ?_
    refine .sel0 [2, 1, 0] (by decide) rfl ?_
    exact .use q18 true hF (.cons rfl (.cons rfl (.cons rfl (.cons rfl (.cons rfl (.cons rfl (.cons rfl (.cons rfl (.nil))))))))) rfl (FH.le_refl _)
  replace hF := hF.2 q968
  refine .gv (mv rfl) rfl rfl rfl q968 rfl rfl ?_
  refine .gv (nt rfl) rfl rfl rfl q968 rfl rfl ?_
  refine .v (pkF rfl q968 rfl) rfl rfl rfl ?_
  refine .v (mv rfl) rfl rfl rfl ?_
  rcases Bool.eq_false_or_eq_true (!r2.2.1) with q969 | q969
  · replace hF := hF.1 q969
    refine .gS rfl rfl rfl q969 rfl rfl ?_
    refine .gS rfl rfl rfl q969 rfl rfl ?_
    refine .v (pkT rfl q969 rfl) rfl rfl rfl ?_
    refine .nil ?_
    refine .sel0 [2, 1, 0] (by decide) rfl ?_
    exact .use q18 true hF (.cons rfl (.cons rfl (.cons rfl (.cons rfl (.cons rfl (.cons rfl (.cons rfl (.cons rfl (.nil))))))))) rfl (FH.le_refl _)
  replace hF := hF.2 q969
  refine .gv (mv rfl) rfl rfl rfl q969 rfl rfl ?_
  refine .gv (nt rfl) rfl rfl rfl q969 rfl rfl ?_
  refine .v (pkF rfl q969 rfl) rfl rfl rfl ?_
  refine .nil ?_
  refine .sel0 [2, 1, 0] (by decide) rfl ?_
  exact .use q18 (!r3.2.1) hF (.cons rfl (.cons rfl (.cons rfl (.cons rfl (.cons rfl (.cons rfl (.cons rfl (.cons rfl (.nil))))))))) rfl (FH.le_refl _)

theorem c_lawDispatchIsSteady {h : FH} {w : World} (hs : Sub h w) (u : Uncertain) (au : Option Addr) (cu : Nat) (_q1 : RSl h au u.network.links) (_q2 : u.network.links.length ≤ cu) (au2 : Option Addr) (cu2 : Nat) (_q3 : RSl h au2 u.contingent) (_q4 : u.contingent.length ≤ cu2) (d : List Int) (ad : Option Addr) (cd : Nat) (_q5 : RSl h ad d) (_q6 : d.length ≤ cd) (e_ : List Int) (ae_ : Option Addr) (ce_ : Nat) (_q7 : RSl h ae_ e_) (_q8 : e_.length ≤ ce_) : Calls Try.prog 10 #[.agg #[.int .i64 u.network.events, .slice au u.network.links.length cu, .slice au2 u.contingent.length cu2], .slice ad d.length cd, .slice ae_ e_.length ce_] w fun e w' => e = .returned (.bool (sp_lawDispatchIsSteady u d e_)) ∧ Below w.heap.size w w' :=
  (w_lawDispatchIsSteady hs u au cu _q1 _q2 au2 cu2 _q3 _q4 d ad cd _q5 _q6 e_ ae_ ce_ _q7 _q8 (fun r => r = sp_lawDispatchIsSteady u d e_) (ok_lawDispatchIsSteady u d e_)).mono fun _ _ ⟨_, hk, he, hb⟩ => ⟨by rw [he, hk], hb⟩

set_option maxHeartbeats 8000000 in
theorem w_lawUncertainMatchesSpec {h : FH} {w : World} (hs : Sub h w) (u : Uncertain) (au : Option Addr) (cu : Nat) (_q1 : RSl h au u.network.links) (_q2 : u.network.links.length ≤ cu) (au2 : Option Addr) (cu2 : Nat) (_q3 : RSl h au2 u.contingent) (_q4 : u.contingent.length ≤ cu2) (d : List Int) (ad : Option Addr) (cd : Nat) (_q5 : RSl h ad d) (_q6 : d.length ≤ cd) (K : Bool → Prop) (hF : F_lawUncertainMatchesSpec u d K) : Calls Try.prog 13 #[.agg #[.int .i64 u.network.events, .slice au u.network.links.length cu, .slice au2 u.contingent.length cu2], .slice ad d.length cd] w fun e w' => ∃ r : Bool, K r ∧ e = .returned (.bool r) ∧ Below w.heap.size w w' := by
  refine enter (args := [.agg #[.int .i64 u.network.events, .slice au u.network.links.length cu, .slice au2 u.contingent.length cu2], .slice ad d.length cd]) Try.func13 rfl Try.ntmps13 rfl hs ?_
  refine .seq ?_
  refine .region ?_
  refine bx (vs := [.int .i64 u.network.events, .slice au u.network.links.length cu, .slice au2 u.contingent.length cu2]) rfl rfl rfl (fun pu => ?_)
  refine .v (asg rfl) rfl rfl rfl ?_
  refine .nil ?_
  refine .seqN ?_
  refine .seq ?_
  refine .region ?_
  refine .v (ldA (cs := [.int .i64 u.network.events, .slice au u.network.links.length cu, .slice au2 u.contingent.length cu2]) rfl tA51 rfl (cellsB (off := 0) (k := 0) rfl (m := 3) rfl)) rfl rfl rfl ?_
  refine .v (mv rfl) rfl rfl rfl ?_
  obtain ⟨r2, q7⟩ : ∃ y_ : Network × Fault, y_ = sp_fix u d := ⟨_, rfl⟩
  replace hF := hF r2 q7
  refine clR (α := Option Addr × Nat) (Φ := fun h1 z => RSl h1 z.1 r2.1.links ∧ r2.1.links.length ≤ z.2) (V := fun z => .tuple #[.agg #[.int .i64 r2.1.events, .slice z.1 r2.1.links.length z.2], .agg #[.int .i64 r2.2.code, .int .i64 r2.2.index]]) Try.call39 rfl rfl (fun w S => (by rw [q7]; exact c_fix S.sub u au cu _q1 _q2 au2 cu2 _q3 _q4 d ad cd _q5 _q6 )) rfl (fun z h1 le1 hz => ?_)
  obtain ⟨a, c⟩ := z
  obtain ⟨q8, q9⟩ := hz
  refine .v (mv rfl) rfl rfl rfl ?_
  refine .v (ext rfl rfl) rfl rfl rfl ?_
  refine .v (ext rfl rfl) rfl rfl rfl ?_
  refine al tZ24 rfl (fun pn => ?_)
  refine al tZ27 rfl (fun pf => ?_)
  refine st (p := pn) (off := 0) (k := 1) (vs := [.int .i64 r2.1.events, .slice a r2.1.links.length c]) rfl rfl rfl (fun w => (tA24 w).2) rfl rfl rfl rfl ?_
  refine .cast (A' := [Box pf [.int .i64 0, .int .i64 0], Box pn [.int .i64 r2.1.events, .slice a r2.1.links.length c], Box pu [.int .i64 u.network.events, .slice au u.network.links.length cu, .slice au2 u.contingent.length cu2]]) rfl ?_
  refine st (p := pf) (off := 0) (k := 0) (vs := [.int .i64 r2.2.code, .int .i64 r2.2.index]) rfl rfl rfl (fun w => (tA27 w).2) rfl rfl rfl rfl ?_
  refine .cast (A' := [Box pf [.int .i64 r2.2.code, .int .i64 r2.2.index], Box pn [.int .i64 r2.1.events, .slice a r2.1.links.length c], Box pu [.int .i64 u.network.events, .slice au u.network.links.length cu, .slice au2 u.contingent.length cu2]]) rfl ?_
  refine .nil ?_
  refine .seqN ?_
  refine .seq ?_
  refine .region ?_
  refine .v (ldA (cs := [.int .i64 u.network.events, .slice au u.network.links.length cu, .slice au2 u.contingent.length cu2]) rfl tA51 rfl (cellsB (off := 0) (k := 2) rfl (m := 3) rfl)) rfl rfl rfl ?_
  refine .v (mv rfl) rfl rfl rfl ?_
  obtain ⟨r3, q10⟩ : ∃ y_ : List Int × Bool × Fault, y_ = sp_dispatch u d := ⟨_, rfl⟩
  replace hF := hF r3 q10
  refine clR (α := Option Addr × Nat) (Φ := fun h1 z => RSl h1 z.1 r3.1 ∧ r3.1.length ≤ z.2) (V := fun z => .tuple #[.slice z.1 r3.1.length z.2, .bool r3.2.1, .agg #[.int .i64 r3.2.2.code, .int .i64 r3.2.2.index]]) Try.call36 rfl rfl (fun w S => (by rw [q10]; exact c_dispatch S.sub u au cu (_q1.mono (le1)) _q2 au2 cu2 (_q3.mono (le1)) _q4 d ad cd (_q5.mono (le1)) _q6 )) rfl (fun z h2 le2 hz => ?_)
  obtain ⟨a2, c2⟩ := z
  obtain ⟨q11, q12⟩ := hz
  refine .v (mv rfl) rfl rfl rfl ?_
  refine .v (ext rfl rfl) rfl rfl rfl ?_
  refine .v (ext rfl rfl) rfl rfl rfl ?_
  refine .v (ext rfl rfl) rfl rfl rfl ?_
  refine al tZ27 rfl (fun pg => ?_)
  refine .v (asg rfl) rfl rfl rfl ?_
  refine .v (asg rfl) rfl rfl rfl ?_
  refine st (p := pg) (off := 0) (k := 0) (vs := [.int .i64 r3.2.2.code, .int .i64 r3.2.2.index]) rfl rfl rfl (fun w => (tA27 w).2) rfl rfl rfl rfl ?_
  refine .cast (A' := [Box pg [.int .i64 r3.2.2.code, .int .i64 r3.2.2.index], Box pf [.int .i64 r2.2.code, .int .i64 r2.2.index], Box pn [.int .i64 r2.1.events, .slice a r2.1.links.length c], Box pu [.int .i64 u.network.events, .slice au u.network.links.length cu, .slice au2 u.contingent.length cu2]]) rfl ?_
  refine .nil ?_
  refine .seqN ?_
  refine .seq ?_
  refine .region ?_
  refine .v (ldA (cs := [.int .i64 u.network.events, .slice au u.network.links.length cu, .slice au2 u.contingent.length cu2]) rfl tA51 rfl (cellsB (off := 0) (k := 3) rfl (m := 3) rfl)) rfl rfl rfl ?_
  refine .v (mv rfl) rfl rfl rfl ?_
  obtain ⟨r4, q13⟩ : ∃ y_ : Fault, y_ = sp_check u d := ⟨_, rfl⟩
  replace hF := hF r4 q13
  refine .c (cl (v := .agg #[.int .i64 r4.code, .int .i64 r4.index]) Try.call40 rfl rfl (fun w S => (by rw [q13]; exact c_durationsFault S.sub u au cu (_q1.mono (FH.le_trans (le1) (le2))) _q2 au2 cu2 (_q3.mono (FH.le_trans (le1) (le2))) _q4 d ad cd (_q5.mono (FH.le_trans (le1) (le2))) _q6 ))) rfl rfl rfl ?_
  refine al tZ27 rfl (fun pe => ?_)
  refine st (p := pe) (off := 0) (k := 0) (vs := [.int .i64 r4.code, .int .i64 r4.index]) rfl rfl rfl (fun w => (tA27 w).2) rfl rfl rfl rfl ?_
  refine .cast (A' := [Box pe [.int .i64 r4.code, .int .i64 r4.index], Box pg [.int .i64 r3.2.2.code, .int .i64 r3.2.2.index], Box pf [.int .i64 r2.2.code, .int .i64 r2.2.index], Box pn [.int .i64 r2.1.events, .slice a r2.1.links.length c], Box pu [.int .i64 u.network.events, .slice au u.network.links.length cu, .slice au2 u.contingent.length cu2]]) rfl ?_
  refine .nil ?_
  refine .seqN ?_
  refine .seq ?_
  refine .share (σ := Bool) (fun z => F_lawUncertainMatchesSpec_J1 u d K r2 r3 r4 z) (fun z => [(1, .slice ad d.length cd), (2, .pointer (some pu)), (5, .pointer (some pn)), (6, .pointer (some pf)), (7, .slice a2 r3.1.length c2), (8, .bool r3.2.1), (10, .pointer (some pe)), (38, .bool z)]) (fun _ => [Box pu [.int .i64 u.network.events, .slice au u.network.links.length cu, .slice au2 u.contingent.length cu2], Box pn [.int .i64 r2.1.events, .slice a r2.1.links.length c], Box pf [.int .i64 r2.2.code, .int .i64 r2.2.index], Box pe [.int .i64 r4.code, .int .i64 r4.index]]) (fun _ => h2) ?_ (fun q17 => ?_)
  · rintro t38 hF
    show J _ _ _ _ _ [(1, .slice ad d.length cd), (2, .pointer (some pu)), (5, .pointer (some pn)), (6, .pointer (some pf)), (7, .slice a2 r3.1.length c2), (8, .bool r3.2.1), (10, .pointer (some pe)), (38, .bool t38)] [Box pu [.int .i64 u.network.events, .slice au u.network.links.length cu, .slice au2 u.contingent.length cu2], Box pn [.int .i64 r2.1.events, .slice a r2.1.links.length c], Box pf [.int .i64 r2.2.code, .int .i64 r2.2.index], Box pe [.int .i64 r4.code, .int .i64 r4.index]] h2
    refine .cond rfl (fun q19 => ?_) (fun q19 => ?_)
    · replace hF := hF.1 q19
      refine .seq ?_
      refine .region ?_
      refine .v (asg rfl) rfl rfl rfl ?_
      refine .nil ?_
      refine .seqN ?_
      refine .ret ?_
      refine .seqR ?_
      refine .res1 rfl (rvT rfl) (fun w' S => ⟨false, hF, rfl, S.below⟩)
    replace hF := hF.2 q19
    refine .skip ?_
    refine .seqN ?_
    refine .seq ?_
    refine .seq ?_
    refine .region ?_
    refine .v (fa rfl tF27_0) rfl rfl rfl ?_
    refine .v (ld1 rfl tO3 (cellB (off := 0) (k := 3) rfl rfl)) rfl rfl rfl ?_
    refine .v (bi rfl rfl rfl) rfl rfl rfl ?_
    refine .nil ?_
    refine .seqN ?_
    refine .cond rfl (fun q31 => ?_) (fun q31 => ?_)
    · replace hF := hF.1 q31
      refine .seq ?_
      refine .region ?_
      refine .v (ldA (cs := [.int .i64 r2.2.code, .int .i64 r2.2.index]) rfl tA27 rfl (cellsB (off := 0) (k := 2) rfl (m := 2) rfl)) rfl rfl rfl ?_
      refine .v (ldA (cs := [.int .i64 r4.code, .int .i64 r4.index]) rfl tA27 rfl (cellsB (off := 0) (k := 3) rfl (m := 2) rfl)) rfl rfl rfl ?_
      refine .v (eq2 tE27 rfl rfl) rfl rfl rfl ?_
      refine .v (mv rfl) rfl rfl rfl ?_
      rcases Bool.eq_false_or_eq_true ((r2.2.code == r4.code) && (r2.2.index == r4.index)) with q37 | q37
      · replace hF := hF.1 q37
        refine .gv (mv rfl) rfl rfl rfl q37 rfl rfl ?_
        refine .gv (nt rfl) rfl rfl rfl q37 rfl rfl ?_
        refine .v (pkT rfl q37 rfl) rfl rfl rfl ?_
        refine .v (mv rfl) rfl rfl rfl ?_
        rcases Bool.eq_false_or_eq_true (!r3.2.1) with q38 | q38
        · replace hF := hF.1 q38
          refine .gv (mv rfl) rfl rfl rfl q38 rfl rfl ?_
          refine .gv (ln rfl tS32.is) rfl rfl rfl q38 rfl rfl ?_
          refine .gv (fa rfl tF24_1) rfl rfl rfl q38 rfl rfl ?_
          refine .gv (ld1 rfl tO22 (cellB (off := 1) (k := 1) rfl rfl)) rfl rfl rfl q38 rfl rfl ?_
          refine .gv (ln rfl tS22.is) rfl rfl rfl q38 rfl rfl ?_
          obtain ⟨x, q39⟩ : ∃ y_ : Int, y_ = (IntKind.i64.wrap (((r3.1.length : Nat) : Int) + ((r2.1.links.length : Nat) : Int))) := ⟨_, rfl⟩
          replace hF := hF x q39
          refine .gv (v := .int .i64 x) (by rw [q39]; exact bi rfl rfl rfl) rfl rfl rfl q38 rfl rfl ?_
          refine .gv (fa rfl tF24_0) rfl rfl rfl q38 rfl rfl ?_
          refine .gv (ld1 rfl tO3 (cellB (off := 0) (k := 1) rfl rfl)) rfl rfl rfl q38 rfl rfl ?_
          refine .gv (bi rfl rfl rfl) rfl rfl rfl q38 rfl rfl ?_
          refine .gv (bi rfl rfl rfl) rfl rfl rfl q38 rfl rfl ?_
          refine .v (pkT rfl q38 rfl) rfl rfl rfl ?_
          refine .v (mv rfl) rfl rfl rfl ?_
          rcases Bool.eq_false_or_eq_true ((IntKind.i64.wrap (x + r2.1.events)) == 0) with q40 | q40
          · replace hF := hF.1 q40
            obtain ⟨r5, q41⟩ : ∃ y_ : Bool, y_ = sp_awaited := ⟨_, rfl⟩
            replace hF := hF r5 q41
            refine .gc (cl (v := .bool r5) Try.call30 rfl rfl (fun w S => (by rw [q41]; exact c_awaited S.sub  ))) rfl rfl rfl q40 rfl rfl ?_
            refine .v (pkT rfl q40 rfl) rfl rfl rfl ?_
            refine .v (asg rfl) rfl rfl rfl ?_
            refine .nil ?_
            refine .seqN ?_
            refine .ret ?_
            refine .seqR ?_
            refine .res1 rfl (rvT rfl) (fun w' S => ⟨r5, hF, rfl, S.below⟩)
          replace hF := hF.2 q40
          refine .gS rfl rfl rfl q40 rfl rfl ?_
          refine .v (pkF rfl q40 rfl) rfl rfl rfl ?_
          refine .v (asg rfl) rfl rfl rfl ?_
          refine .nil ?_
          refine .seqN ?_
          refine .ret ?_
          refine .seqR ?_
          refine .res1 rfl (rvT rfl) (fun w' S => ⟨false, hF, rfl, S.below⟩)
        replace hF := hF.2 q38
        refine .gS rfl rfl rfl q38 rfl rfl ?_
        refine .gS rfl rfl rfl q38 rfl rfl ?_
        refine .gS rfl rfl rfl q38 rfl rfl ?_
        refine .gS rfl rfl rfl q38 rfl rfl ?_
        refine .gS rfl rfl rfl q38 rfl rfl ?_
        refine .gS rfl rfl rfl q38 rfl rfl ?_
        refine .gS rfl rfl rfl q38 rfl rfl ?_
        refine .gS rfl rfl rfl q38 rfl rfl ?_
        refine .gS rfl rfl rfl q38 rfl rfl ?_
        refine .gS rfl rfl rfl q38 rfl rfl ?_
        refine .v (pkF rfl q38 rfl) rfl rfl rfl ?_
        refine .v (mv rfl) rfl rfl rfl ?_
        refine .gS rfl rfl rfl rfl rfl rfl ?_
        refine .v (pkF rfl rfl rfl) rfl rfl rfl ?_
        refine .v (asg rfl) rfl rfl rfl ?_
        refine .nil ?_
        refine .seqN ?_
        refine .ret ?_
        refine .seqR ?_
        refine .res1 rfl (rvT rfl) (fun w' S => ⟨false, hF, rfl, S.below⟩)
      replace hF := hF.2 q37
      refine .gS rfl rfl rfl q37 rfl rfl ?_
      refine .gS rfl rfl rfl q37 rfl rfl ?_
      refine .v (pkF rfl q37 rfl) rfl rfl rfl ?_
      refine .v (mv rfl) rfl rfl rfl ?_
      refine .gS rfl rfl rfl rfl rfl rfl ?_
      refine .gS rfl rfl rfl rfl rfl rfl ?_
      refine .gS rfl rfl rfl rfl rfl rfl ?_
      refine .gS rfl rfl rfl rfl rfl rfl ?_
      refine .gS rfl rfl rfl rfl rfl rfl ?_
      refine .gS rfl rfl rfl rfl rfl rfl ?_
      refine .gS rfl rfl rfl rfl rfl rfl ?_
      refine .gS rfl rfl rfl rfl rfl rfl ?_
      refine .gS rfl rfl rfl rfl rfl rfl ?_
      refine .gS rfl rfl rfl rfl rfl rfl ?_
      refine .v (pkF rfl rfl rfl) rfl rfl rfl ?_
      refine .v (mv rfl) rfl rfl rfl ?_
      refine .gS rfl rfl rfl rfl rfl rfl ?_
      refine .v (pkF rfl rfl rfl) rfl rfl rfl ?_
      refine .v (asg rfl) rfl rfl rfl ?_
      refine .nil ?_
      refine .seqN ?_
      refine .ret ?_
      refine .seqR ?_
      refine .res1 rfl (rvT rfl) (fun w' S => ⟨false, hF, rfl, S.below⟩)
    replace hF := hF.2 q31
    refine .skip ?_
    refine .seqN ?_
    refine .seq ?_
    refine .seq ?_
    refine .region ?_
    refine .v (fa rfl tF51_0) rfl rfl rfl ?_
    refine .v (faa (p := pu) (o1 := 0) rfl tF24_1 rfl) rfl rfl rfl ?_
    refine .v (ld1 rfl tO22 (cellB (off := 1) (k := 0) rfl rfl)) rfl rfl rfl ?_
    refine .v (ln rfl tS22.is) rfl rfl rfl ?_
    refine .v (mv rfl) rfl rfl rfl ?_
    refine .v (ln rfl tS32.is) rfl rfl rfl ?_
    obtain ⟨x2, q42⟩ : ∃ y_ : Int, y_ = (IntKind.i64.wrap (((u.network.links.length : Nat) : Int) + ((d.length : Nat) : Int))) := ⟨_, rfl⟩
    replace hF := hF x2 q42
    refine .v (v := .int .i64 x2) (by rw [q42]; exact bi rfl rfl rfl) rfl rfl rfl ?_
    refine .v (bi rfl rfl rfl) rfl rfl rfl ?_
    refine .nil ?_
    refine .seqN ?_
    refine .shareT (σ := Unit) (fun _ => F_lawUncertainMatchesSpec_J2 u d K r3) (fun _ => [(1, .slice ad d.length cd), (2, .pointer (some pu)), (7, .slice a2 r3.1.length c2), (8, .bool r3.2.1)]) (fun _ => [Box pu [.int .i64 u.network.events, .slice au u.network.links.length cu, .slice au2 u.contingent.length cu2]]) (fun _ => h2) ?_ (fun q68 => ?_)
    · rintro ⟨⟩ hF
      show J _ _ _ _ _ [(1, .slice ad d.length cd), (2, .pointer (some pu)), (7, .slice a2 r3.1.length c2), (8, .bool r3.2.1)] [Box pu [.int .i64 u.network.events, .slice au u.network.links.length cu, .slice au2 u.contingent.length cu2]] h2
      refine .seq ?_
      refine .seq ?_
      refine .region ?_
      refine .v (ldA (cs := [.int .i64 u.network.events, .slice au u.network.links.length cu, .slice au2 u.contingent.length cu2]) rfl tA51 rfl (cellsB (off := 0) (k := 0) rfl (m := 3) rfl)) rfl rfl rfl ?_
      obtain ⟨q69, hF⟩ := hF
      obtain ⟨r6, q70⟩ : ∃ y_ : Int, y_ = sp_choices u := ⟨_, rfl⟩
      replace hF := hF r6 q70
      refine .c (cl (v := .int .i64 r6) Try.call31 rfl rfl (fun w S => (by rw [q70]; exact c_choices S.sub u au cu (_q1.mono (FH.le_trans (le1) (le2))) _q2 au2 cu2 (_q3.mono (FH.le_trans (le1) (le2))) _q4 q69))) rfl rfl rfl ?_
      refine .v (bi rfl rfl rfl) rfl rfl rfl ?_
      refine .nil ?_
      refine .seqN ?_
      refine .cond rfl (fun q73 => ?_) (fun q73 => ?_)
      · replace hF := hF.1 q73
        refine .seq ?_
        refine .region ?_
        obtain ⟨r7, q74⟩ : ∃ y_ : Bool, y_ = sp_awaited := ⟨_, rfl⟩
        replace hF := hF r7 q74
        refine .c (cl (v := .bool r7) Try.call30 rfl rfl (fun w S => (by rw [q74]; exact c_awaited S.sub  ))) rfl rfl rfl ?_
        refine .v (asg rfl) rfl rfl rfl ?_
        refine .nil ?_
        refine .seqN ?_
        refine .ret ?_
        refine .seqR ?_
        refine .res1 rfl (rvT rfl) (fun w' S => ⟨r7, hF, rfl, S.below⟩)
      replace hF := hF.2 q73
      refine .skip ?_
      refine .seqN ?_
      refine .seq ?_
      refine .region ?_
      refine .v (ldA (cs := [.int .i64 u.network.events, .slice au u.network.links.length cu, .slice au2 u.contingent.length cu2]) rfl tA51 rfl (cellsB (off := 0) (k := 0) rfl (m := 3) rfl)) rfl rfl rfl ?_
      obtain ⟨q75, hF⟩ := hF
      obtain ⟨r8, q76⟩ : ∃ y_ : List Int × Bool, y_ = sp_strongTimes u := ⟨_, rfl⟩
      replace hF := hF r8 q76
      refine clR (α := Option Addr × Nat) (Φ := fun h1 z => RSl h1 z.1 r8.1 ∧ r8.1.length ≤ z.2) (V := fun z => .tuple #[.slice z.1 r8.1.length z.2, .bool r8.2]) Try.call32 rfl rfl (fun w S => (by rw [q76]; exact c_strongTimes S.sub u au cu (_q1.mono (FH.le_trans (le1) (le2))) _q2 au2 cu2 (_q3.mono (FH.le_trans (le1) (le2))) _q4 q75)) rfl (fun z h5 le5 hz => ?_)
      obtain ⟨a3, c3⟩ := z
      obtain ⟨q77, q78⟩ := hz
      refine .v (mv rfl) rfl rfl rfl ?_
      refine .v (ext rfl rfl) rfl rfl rfl ?_
      refine .v (ext rfl rfl) rfl rfl rfl ?_
      refine .v (asg rfl) rfl rfl rfl ?_
      refine .v (asg rfl) rfl rfl rfl ?_
      refine .nil ?_
      refine .seqN ?_
      refine .seq ?_
      refine .seq ?_
      refine .region ?_
      refine .v (mv rfl) rfl rfl rfl ?_
      refine .v (mv rfl) rfl rfl rfl ?_
      refine .v (bneq Try.underlying4 rfl rfl) rfl rfl rfl ?_
      refine .nil ?_
      refine .seqN ?_
      refine .cond rfl (fun q80 => ?_) (fun q80 => ?_)
      · replace hF := hF.1 q80
        refine .seq ?_
        refine .region ?_
        refine .v (asg rfl) rfl rfl rfl ?_
        refine .nil ?_
        refine .seqN ?_
        refine .ret ?_
        refine .seqR ?_
        refine .res1 rfl (rvT rfl) (fun w' S => ⟨false, hF, rfl, S.below⟩)
      replace hF := hF.2 q80
      refine .skip ?_
      refine .seqN ?_
      refine .seq ?_
      refine .region ?_
      refine .v (mv rfl) rfl rfl rfl ?_
      refine .v (nt rfl) rfl rfl rfl ?_
      refine .v (mv rfl) rfl rfl rfl ?_
      rcases Bool.eq_false_or_eq_true (!r8.2) with q98 | q98
      · replace hF := hF.1 q98
        refine .gv (mv rfl) rfl rfl rfl q98 rfl rfl ?_
        refine .gv (ln rfl tS32.is) rfl rfl rfl q98 rfl rfl ?_
        refine .gv (bi rfl rfl rfl) rfl rfl rfl q98 rfl rfl ?_
        refine .v (pkT rfl q98 rfl) rfl rfl rfl ?_
        refine .v (mv rfl) rfl rfl rfl ?_
        rcases Bool.eq_false_or_eq_true (((r3.1.length : Nat) : Int) == 0) with q99 | q99
        · replace hF := hF.1 q99
          refine .gS rfl rfl rfl q99 rfl rfl ?_
          refine .gS rfl rfl rfl q99 rfl rfl ?_
          refine .gU rfl rfl rfl rfl rfl ?_
          refine .gU rfl rfl rfl rfl rfl ?_
          refine .gU rfl rfl rfl rfl rfl ?_
          refine .gU rfl rfl rfl rfl rfl ?_
          refine .gU rfl rfl rfl rfl rfl ?_
          refine .gU rfl rfl rfl rfl rfl ?_
          refine .gS rfl rfl rfl q99 rfl rfl ?_
          refine .v (pkT rfl q99 rfl) rfl rfl rfl ?_
          refine .v (mv rfl) rfl rfl rfl ?_
          obtain ⟨r9, q100⟩ : ∃ y_ : Bool, y_ = sp_awaited := ⟨_, rfl⟩
          replace hF := hF r9 q100
          refine .gc (cl (v := .bool r9) Try.call30 rfl rfl (fun w S => (by rw [q100]; exact c_awaited S.sub  ))) rfl rfl rfl rfl rfl rfl ?_
          refine .v (pkT rfl rfl rfl) rfl rfl rfl ?_
          refine .v (asg rfl) rfl rfl rfl ?_
          refine .nil ?_
          refine .seqN ?_
          refine .ret ?_
          refine .res1 rfl (rvT rfl) (fun w' S => ⟨r9, hF, rfl, S.below⟩)
        replace hF := hF.2 q99
        refine .gv (mv rfl) rfl rfl rfl q99 rfl rfl ?_
        refine .gv (mv rfl) rfl rfl rfl q99 rfl rfl ?_
        rcases Bool.eq_false_or_eq_true (r8.2) with q101 | q101
        · replace hF := hF.1 q101
          refine .gv (mv rfl) rfl rfl rfl q101 rfl rfl ?_
          refine .gv (ldA (cs := [.int .i64 u.network.events, .slice au u.network.links.length cu, .slice au2 u.contingent.length cu2]) rfl tA51 rfl (cellsB (off := 0) (k := 0) rfl (m := 3) rfl)) rfl rfl rfl q101 rfl rfl ?_
          refine .gv (mv rfl) rfl rfl rfl q101 rfl rfl ?_
          refine .gv (mv rfl) rfl rfl rfl q101 rfl rfl ?_
          obtain ⟨q102, hF⟩ := hF
          obtain ⟨r10, q103⟩ : ∃ y_ : List Int, y_ = sp_outcome u r8.1 d := ⟨_, rfl⟩
          replace hF := hF r10 q103
          refine .gR rfl rfl rfl q101 ?_
          refine clO (α := Option Addr × Nat) (V := fun z => .slice z.1 r10.length z.2) (Ψ := fun z => True) (B := fun z => [OwnSl 3 1 z.1 r10.length z.2 (flL r10)]) Try.call44 rfl rfl (fun w S => (by rw [q103]; exact c_outcome S.sub u au cu (_q1.mono (FH.le_trans (FH.le_trans (le1) (le2)) (le5))) _q2 au2 cu2 (_q3.mono (FH.le_trans (FH.le_trans (le1) (le2)) (le5))) _q4 r8.1 a3 c3 q77 q78 d ad cd (_q5.mono (FH.le_trans (FH.le_trans (le1) (le2)) (le5))) _q6 q102)) rfl (fun z _ => ?_)
          obtain ⟨a4, c4⟩ := z
          refine .cast (A' := [OwnSl 3 1 a4 r10.length c4 (flL r10), Box pu [.int .i64 u.network.events, .slice au u.network.links.length cu, .slice au2 u.contingent.length cu2]]) rfl ?_
          obtain ⟨q104, hF⟩ := hF
          obtain ⟨r11, q105⟩ : ∃ y_ : Bool, y_ = sp_numbers r3.1 r10 := ⟨_, rfl⟩
          replace hF := hF r11 q105
          refine .gc (cl (v := .bool r11) Try.call33 rfl rfl (fun w S => (by rw [q105]; obtain ⟨h_, hl_, hs_, hne_, hr_⟩ := look S (k := 0) rfl; exact c_numbers hs_ r3.1 a2 c2 (RSl.mono hl_ (q11.mono (le5))) q12 r10 a4 c4 (RSl.of hr_) (look_len S (k := 0) rfl) q104))) rfl rfl rfl q101 rfl rfl ?_
          refine .gv (pkT rfl q101 rfl) rfl rfl rfl q99 rfl rfl ?_
          refine .v (pkF rfl q99 rfl) rfl rfl rfl ?_
          refine .v (mv rfl) rfl rfl rfl ?_
          rcases Bool.eq_false_or_eq_true (r11) with q106 | q106
          · replace hF := hF.1 q106
            obtain ⟨r12, q107⟩ : ∃ y_ : Bool, y_ = sp_awaited := ⟨_, rfl⟩
            replace hF := hF r12 q107
            refine .gc (cl (v := .bool r12) Try.call30 rfl rfl (fun w S => (by rw [q107]; exact c_awaited S.sub  ))) rfl rfl rfl q106 rfl rfl ?_
            refine .v (pkT rfl q106 rfl) rfl rfl rfl ?_
            refine .v (asg rfl) rfl rfl rfl ?_
            refine .nil ?_
            refine .seqN ?_
            refine .ret ?_
            refine .res1 rfl (rvT rfl) (fun w' S => ⟨r12, hF, rfl, S.below⟩)
          replace hF := hF.2 q106
          refine .gS rfl rfl rfl q106 rfl rfl ?_
          refine .v (pkF rfl q106 rfl) rfl rfl rfl ?_
          refine .v (asg rfl) rfl rfl rfl ?_
          refine .nil ?_
          refine .seqN ?_
          refine .ret ?_
          refine .res1 rfl (rvT rfl) (fun w' S => ⟨false, hF, rfl, S.below⟩)
        replace hF := hF.2 q101
        refine .gS rfl rfl rfl q101 rfl rfl ?_
        refine .gS rfl rfl rfl q101 rfl rfl ?_
        refine .gS rfl rfl rfl q101 rfl rfl ?_
        refine .gS rfl rfl rfl q101 rfl rfl ?_
        refine .gS rfl rfl rfl q101 rfl rfl ?_
        refine .gS rfl rfl rfl q101 rfl rfl ?_
        refine .gv (pkF rfl q101 rfl) rfl rfl rfl q99 rfl rfl ?_
        refine .v (pkF rfl q99 rfl) rfl rfl rfl ?_
        refine .v (mv rfl) rfl rfl rfl ?_
        refine .gS rfl rfl rfl rfl rfl rfl ?_
        refine .v (pkF rfl rfl rfl) rfl rfl rfl ?_
        refine .v (asg rfl) rfl rfl rfl ?_
        refine .nil ?_
        refine .seqN ?_
        refine .ret ?_
        refine .res1 rfl (rvT rfl) (fun w' S => ⟨false, hF, rfl, S.below⟩)
      replace hF := hF.2 q98
      refine .gS rfl rfl rfl q98 rfl rfl ?_
      refine .gS rfl rfl rfl q98 rfl rfl ?_
      refine .gS rfl rfl rfl q98 rfl rfl ?_
      refine .v (pkF rfl q98 rfl) rfl rfl rfl ?_
      refine .v (mv rfl) rfl rfl rfl ?_
      refine .gv (mv rfl) rfl rfl rfl rfl rfl rfl ?_
      refine .gv (mv rfl) rfl rfl rfl rfl rfl rfl ?_
      rcases Bool.eq_false_or_eq_true (r8.2) with q108 | q108
      · replace hF := hF.1 q108
        refine .gv (mv rfl) rfl rfl rfl q108 rfl rfl ?_
        refine .gv (ldA (cs := [.int .i64 u.network.events, .slice au u.network.links.length cu, .slice au2 u.contingent.length cu2]) rfl tA51 rfl (cellsB (off := 0) (k := 0) rfl (m := 3) rfl)) rfl rfl rfl q108 rfl rfl ?_
        refine .gv (mv rfl) rfl rfl rfl q108 rfl rfl ?_
        refine .gv (mv rfl) rfl rfl rfl q108 rfl rfl ?_
        obtain ⟨q109, hF⟩ := hF
        obtain ⟨r13, q110⟩ : ∃ y_ : List Int, y_ = sp_outcome u r8.1 d := ⟨_, rfl⟩
        replace hF := hF r13 q110
        refine .gR rfl rfl rfl q108 ?_
        refine clO (α := Option Addr × Nat) (V := fun z => .slice z.1 r13.length z.2) (Ψ := fun z => True) (B := fun z => [OwnSl 3 1 z.1 r13.length z.2 (flL r13)]) Try.call44 rfl rfl (fun w S => (by rw [q110]; exact c_outcome S.sub u au cu (_q1.mono (FH.le_trans (FH.le_trans (le1) (le2)) (le5))) _q2 au2 cu2 (_q3.mono (FH.le_trans (FH.le_trans (le1) (le2)) (le5))) _q4 r8.1 a3 c3 q77 q78 d ad cd (_q5.mono (FH.le_trans (FH.le_trans (le1) (le2)) (le5))) _q6 q109)) rfl (fun z _ => ?_)
        obtain ⟨a5, c5⟩ := z
        refine .cast (A' := [OwnSl 3 1 a5 r13.length c5 (flL r13), Box pu [.int .i64 u.network.events, .slice au u.network.links.length cu, .slice au2 u.contingent.length cu2]]) rfl ?_
        obtain ⟨q111, hF⟩ := hF
        obtain ⟨r14, q112⟩ : ∃ y_ : Bool, y_ = sp_numbers r3.1 r13 := ⟨_, rfl⟩
        replace hF := hF r14 q112
        refine .gc (cl (v := .bool r14) Try.call33 rfl rfl (fun w S => (by rw [q112]; obtain ⟨h_, hl_, hs_, hne_, hr_⟩ := look S (k := 0) rfl; exact c_numbers hs_ r3.1 a2 c2 (RSl.mono hl_ (q11.mono (le5))) q12 r13 a5 c5 (RSl.of hr_) (look_len S (k := 0) rfl) q111))) rfl rfl rfl q108 rfl rfl ?_
        refine .gv (pkT rfl q108 rfl) rfl rfl rfl rfl rfl rfl ?_
        refine .v (pkF rfl rfl rfl) rfl rfl rfl ?_
        refine .v (mv rfl) rfl rfl rfl ?_
        rcases Bool.eq_false_or_eq_true (r14) with q113 | q113
        · replace hF := hF.1 q113
          obtain ⟨r15, q114⟩ : ∃ y_ : Bool, y_ = sp_awaited := ⟨_, rfl⟩
          replace hF := hF r15 q114
          refine .gc (cl (v := .bool r15) Try.call30 rfl rfl (fun w S => (by rw [q114]; exact c_awaited S.sub  ))) rfl rfl rfl q113 rfl rfl ?_
          refine .v (pkT rfl q113 rfl) rfl rfl rfl ?_
          refine .v (asg rfl) rfl rfl rfl ?_
          refine .nil ?_
          refine .seqN ?_
          refine .ret ?_
          refine .res1 rfl (rvT rfl) (fun w' S => ⟨r15, hF, rfl, S.below⟩)
        replace hF := hF.2 q113
        refine .gS rfl rfl rfl q113 rfl rfl ?_
        refine .v (pkF rfl q113 rfl) rfl rfl rfl ?_
        refine .v (asg rfl) rfl rfl rfl ?_
        refine .nil ?_
        refine .seqN ?_
        refine .ret ?_
        refine .res1 rfl (rvT rfl) (fun w' S => ⟨false, hF, rfl, S.below⟩)
      replace hF := hF.2 q108
      refine .gS rfl rfl rfl q108 rfl rfl ?_
      refine .gS rfl rfl rfl q108 rfl rfl ?_
      refine .gS rfl rfl rfl q108 rfl rfl ?_
      refine .gS rfl rfl rfl q108 rfl rfl ?_
      refine .gS rfl rfl rfl q108 rfl rfl ?_
      refine .gS rfl rfl rfl q108 rfl rfl ?_
      refine .gv (pkF rfl q108 rfl) rfl rfl rfl rfl rfl rfl ?_
      refine .v (pkF rfl rfl rfl) rfl rfl rfl ?_
      refine .v (mv rfl) rfl rfl rfl ?_
      refine .gS rfl rfl rfl rfl rfl rfl ?_
      refine .v (pkF rfl rfl rfl) rfl rfl rfl ?_
      refine .v (asg rfl) rfl rfl rfl ?_
      refine .nil ?_
      refine .seqN ?_
      refine .ret ?_
      refine .res1 rfl (rvT rfl) (fun w' S => ⟨false, hF, rfl, S.below⟩)
    refine .cond rfl (fun q115 => ?_) (fun q115 => ?_)
    · replace hF := hF.1 q115
      refine .share (σ := Bool) (fun z => F_lawUncertainMatchesSpec_J3 u d K r3 z) (fun z => [(1, .slice ad d.length cd), (2, .pointer (some pu)), (7, .slice a2 r3.1.length c2), (8, .bool r3.2.1), (83, .bool z)]) (fun _ => [Box pu [.int .i64 u.network.events, .slice au u.network.links.length cu, .slice au2 u.contingent.length cu2]]) (fun _ => h2) ?_ (fun q119 => ?_)
      · rintro t83 hF
        show J _ _ _ _ _ [(1, .slice ad d.length cd), (2, .pointer (some pu)), (7, .slice a2 r3.1.length c2), (8, .bool r3.2.1), (83, .bool t83)] [Box pu [.int .i64 u.network.events, .slice au u.network.links.length cu, .slice au2 u.contingent.length cu2]] h2
        refine .cond rfl (fun q120 => ?_) (fun q120 => ?_)
        · replace hF := hF.1 q120
          refine .seq ?_
          refine .region ?_
          refine .v (asg rfl) rfl rfl rfl ?_
          refine .nil ?_
          refine .seqN ?_
          refine .ret ?_
          refine .seqR ?_
          refine .res1 rfl (rvT rfl) (fun w' S => ⟨false, hF, rfl, S.below⟩)
        replace hF := hF.2 q120
        refine .skip ?_
        exact .use q68 () hF (.cons rfl (.cons rfl (.cons rfl (.cons rfl (.nil))))) rfl (FH.le_refl _)
      refine .open_ (by kernel_rfl) (by kernel_rfl) ?_
      refine .v (ldA (cs := [.int .i64 r2.2.code, .int .i64 r2.2.index]) rfl tA27 rfl (cellsB (off := 0) (k := 2) rfl (m := 2) rfl)) rfl rfl rfl ?_
      obtain ⟨r16, q121⟩ : ∃ y_ : Fault, y_ = sp_at_ 10 (-1) := ⟨_, rfl⟩
      replace hF := hF r16 q121
      refine .c (cl (v := .agg #[.int .i64 r16.code, .int .i64 r16.index]) Try.call25 rfl rfl (fun w S => (by rw [q121]; exact c_at_ S.sub 10 (-1) ))) rfl rfl rfl ?_
      refine .v (ne2 tE27 rfl rfl) rfl rfl rfl ?_
      refine .v (mv rfl) rfl rfl rfl ?_
      rcases Bool.eq_false_or_eq_true (!((r2.2.code == r16.code) && (r2.2.index == r16.index))) with q122 | q122
      · replace hF := hF.1 q122
        refine .gS rfl rfl rfl q122 rfl rfl ?_
        refine .gS rfl rfl rfl q122 rfl rfl ?_
        refine .gS rfl rfl rfl q122 rfl rfl ?_
        refine .gS rfl rfl rfl q122 rfl rfl ?_
        refine .gS rfl rfl rfl q122 rfl rfl ?_
        refine .gS rfl rfl rfl q122 rfl rfl ?_
        refine .gS rfl rfl rfl q122 rfl rfl ?_
        refine .v (pkT rfl q122 rfl) rfl rfl rfl ?_
        refine .fin ?_
        refine .sel0 [0] (by decide) rfl ?_
        exact .use q119 true hF (.cons rfl (.cons rfl (.cons rfl (.cons rfl (.cons rfl (.nil)))))) rfl (FH.le_refl _)
      replace hF := hF.2 q122
      refine .gv (fa rfl tF24_1) rfl rfl rfl q122 rfl rfl ?_
      refine .gv (ld1 rfl tO22 (cellB (off := 1) (k := 1) rfl rfl)) rfl rfl rfl q122 rfl rfl ?_
      refine .gv (ln rfl tS22.is) rfl rfl rfl q122 rfl rfl ?_
      refine .gv (fa rfl tF24_0) rfl rfl rfl q122 rfl rfl ?_
      refine .gv (ld1 rfl tO3 (cellB (off := 0) (k := 1) rfl rfl)) rfl rfl rfl q122 rfl rfl ?_
      obtain ⟨x3, q123⟩ : ∃ y_ : Int, y_ = (IntKind.i64.wrap (((r2.1.links.length : Nat) : Int) + r2.1.events)) := ⟨_, rfl⟩
      replace hF := hF x3 q123
      refine .gv (v := .int .i64 x3) (by rw [q123]; exact bi rfl rfl rfl) rfl rfl rfl q122 rfl rfl ?_
      refine .gv (bi rfl rfl rfl) rfl rfl rfl q122 rfl rfl ?_
      refine .v (pkF rfl q122 rfl) rfl rfl rfl ?_
      refine .fin ?_
      refine .sel0 [0] (by decide) rfl ?_
      exact .use q119 (decide (0 < x3)) hF (.cons rfl (.cons rfl (.cons rfl (.cons rfl (.cons rfl (.nil)))))) rfl (FH.le_refl _)
    replace hF := hF.2 q115
    refine .share (σ := Bool) (fun z => F_lawUncertainMatchesSpec_J4 u d K r3 z) (fun z => [(1, .slice ad d.length cd), (2, .pointer (some pu)), (7, .slice a2 r3.1.length c2), (8, .bool r3.2.1), (94, .bool z)]) (fun _ => [Box pu [.int .i64 u.network.events, .slice au u.network.links.length cu, .slice au2 u.contingent.length cu2]]) (fun _ => h2) ?_ (fun q131 => ?_)
    · rintro t94 hF
      show J _ _ _ _ _ [(1, .slice ad d.length cd), (2, .pointer (some pu)), (7, .slice a2 r3.1.length c2), (8, .bool r3.2.1), (94, .bool t94)] [Box pu [.int .i64 u.network.events, .slice au u.network.links.length cu, .slice au2 u.contingent.length cu2]] h2
      refine .cond rfl (fun q132 => ?_) (fun q132 => ?_)
      · replace hF := hF.1 q132
        refine .seq ?_
        refine .region ?_
        refine .v (asg rfl) rfl rfl rfl ?_
        refine .nil ?_
        refine .seqN ?_
        refine .ret ?_
        refine .seqR ?_
        refine .res1 rfl (rvT rfl) (fun w' S => ⟨false, hF, rfl, S.below⟩)
      replace hF := hF.2 q132
      refine .skip ?_
      exact .use q68 () hF (.cons rfl (.cons rfl (.cons rfl (.cons rfl (.nil))))) rfl (FH.le_refl _)
    rcases Bool.eq_false_or_eq_true (r2.2.code != 0) with q133 | q133
    · replace hF := hF.1 q133
      refine .openA (s0 := [(1, .slice ad d.length cd), (2, .pointer (some pu)), (5, .pointer (some pn)), (6, .pointer (some pf)), (7, .slice a2 r3.1.length c2), (8, .bool r3.2.1)]) [0, 1, 2, 3, 4, 5, 6, 7, 8, 9, 10] [(0, .pointer (some (pf.add 0))), (1, .int .i64 r2.2.code), (2, .bool (r2.2.code != 0)), (3, .bool (r2.2.code != 0)), (4, undef), (5, undef), (6, undef), (7, undef), (8, undef), (9, undef), (10, .bool true)] (by kernel_rfl) (.cons rfl (.cons rfl (.cons rfl (.cons rfl (.cons rfl (.cons rfl (.nil))))))) [1, 2, 5, 6, 7, 8] [] rfl (by kernel_rfl) ?_
      refine .last [(84, .pointer (some (pf.add 0))), (85, .int .i64 r2.2.code), (86, .bool (r2.2.code != 0)), (87, .bool (r2.2.code != 0)), (88, undef), (89, undef), (90, undef), (91, undef), (92, undef), (93, undef), (94, .bool true)] rfl (by kernel_rfl) (.v [] rfl rfl rfl rfl rfl rfl (fun _ => fa rfl tF27_0) (.v [(84, .pointer (some (pf.add 0)))] rfl rfl rfl rfl rfl rfl (fun _ => ld1 rfl tO3 (cellB (off := 0) (k := 2) rfl rfl)) (.v [(85, .int .i64 r2.2.code)] rfl rfl rfl rfl rfl rfl (fun _ => bi rfl rfl rfl) (.v [(86, .bool (r2.2.code != 0))] rfl rfl rfl rfl rfl rfl (fun _ => mv rfl) (.gS [(87, .bool (r2.2.code != 0))] rfl rfl rfl rfl q133 rfl rfl rfl rfl (.gS [(87, .bool (r2.2.code != 0))] rfl rfl rfl rfl q133 rfl rfl rfl rfl (.gS [(87, .bool (r2.2.code != 0))] rfl rfl rfl rfl q133 rfl rfl rfl rfl (.gS [(89, undef), (90, undef), (87, .bool (r2.2.code != 0)), (87, .bool (r2.2.code != 0))] rfl rfl rfl rfl q133 rfl rfl rfl rfl (.gS [(88, undef), (91, undef), (91, undef), (87, .bool (r2.2.code != 0))] rfl rfl rfl rfl q133 rfl rfl rfl rfl (.gS [(92, undef), (87, .bool (r2.2.code != 0))] rfl rfl rfl rfl q133 rfl rfl rfl rfl (.v [(87, .bool (r2.2.code != 0)), (93, undef)] rfl rfl rfl rfl rfl rfl (fun _ => pkT rfl q133 rfl) (.nil)))))))))))) rfl ?_
      refine .sel0 [0] (by decide) rfl ?_
      exact .use q131 true hF (.cons rfl (.cons rfl (.cons rfl (.cons rfl (.cons rfl (.nil)))))) rfl (FH.le_refl _)
    replace hF := hF.2 q133
    refine .openA (s0 := [(1, .slice ad d.length cd), (2, .pointer (some pu)), (5, .pointer (some pn)), (6, .pointer (some pf)), (7, .slice a2 r3.1.length c2), (8, .bool r3.2.1)]) [0, 1, 2, 3, 4, 5, 6] [(0, .pointer (some (pf.add 0))), (1, .int .i64 r2.2.code), (2, .bool (r2.2.code != 0)), (3, .bool (r2.2.code != 0)), (4, .agg #[.int .i64 r2.1.events, .slice a r2.1.links.length c]), (5, .agg #[.int .i64 u.network.events, .slice au u.network.links.length cu, .slice au2 u.contingent.length cu2]), (6, .slice ad d.length cd)] (by kernel_rfl) (.cons rfl (.cons rfl (.cons rfl (.cons rfl (.cons rfl (.cons rfl (.nil))))))) [1, 2, 5, 6, 7, 8] [] rfl (by kernel_rfl) ?_
    refine .step [7] 7 rfl (by kernel_rfl) (by kernel_rfl) (.v [] rfl rfl rfl rfl rfl rfl (fun _ => fa rfl tF27_0) (.v [(84, .pointer (some (pf.add 0)))] rfl rfl rfl rfl rfl rfl (fun _ => ld1 rfl tO3 (cellB (off := 0) (k := 2) rfl rfl)) (.v [(85, .int .i64 r2.2.code)] rfl rfl rfl rfl rfl rfl (fun _ => bi rfl rfl rfl) (.v [(86, .bool (r2.2.code != 0))] rfl rfl rfl rfl rfl rfl (fun _ => mv rfl) (.gv [(87, .bool (r2.2.code != 0))] rfl rfl rfl rfl q133 rfl rfl rfl rfl (fun _ => ldA (cs := [.int .i64 r2.1.events, .slice a r2.1.links.length c]) rfl tA24 rfl (cellsB (off := 0) (k := 1) rfl (m := 2) rfl)) (.gv [(87, .bool (r2.2.code != 0))] rfl rfl rfl rfl q133 rfl rfl rfl rfl (fun _ => ldA (cs := [.int .i64 u.network.events, .slice au u.network.links.length cu, .slice au2 u.contingent.length cu2]) rfl tA51 rfl (cellsB (off := 0) (k := 0) rfl (m := 3) rfl)) (.gv [(87, .bool (r2.2.code != 0))] rfl rfl rfl rfl q133 rfl rfl rfl rfl (fun _ => mv rfl) (.nil)))))))) (.cons [(89, .agg #[.int .i64 u.network.events, .slice au u.network.links.length cu, .slice au2 u.contingent.length cu2]), (90, .slice ad d.length cd), (87, .bool (r2.2.code != 0)), (87, .bool (r2.2.code != 0))] rfl rfl (fun sL hL => ?_) (.nil))
    obtain ⟨q134, hF⟩ := hF
    obtain ⟨r17, q135⟩ : ∃ y_ : Network, y_ = sp_with_ u d := ⟨_, rfl⟩
    replace hF := hF r17 q135
    refine .gR rfl rfl rfl q133 ?_
    refine clR (α := Option Addr × Nat) (Φ := fun h1 z => RSl h1 z.1 r17.links ∧ r17.links.length ≤ z.2) (V := fun z => .agg #[.int .i64 r17.events, .slice z.1 r17.links.length z.2]) Try.call43 rfl rfl (fun w S => (by rw [q135]; exact c_fixed S.sub u au cu (_q1.mono (FH.le_trans (le1) (le2))) _q2 au2 cu2 (_q3.mono (FH.le_trans (le1) (le2))) _q4 d ad cd (_q5.mono (FH.le_trans (le1) (le2))) _q6 q134)) rfl (fun z h7 le7 hz => ?_)
    obtain ⟨a6, c6⟩ := z
    obtain ⟨q136, q137⟩ := hz
    refine .nil ?_
    obtain ⟨q138, hF⟩ := hF
    obtain ⟨r18, q139⟩ : ∃ y_ : Bool, y_ = sp_net r2.1 r17 := ⟨_, rfl⟩
    replace hF := hF r18 q139
    refine .ja (M := [5, 6, 3, 2, 1, 0]) (C' := [4, 8, 9, 10]) (pre := [(7, .agg #[.int .i64 r17.events, .slice a6 r17.links.length c6]), (8, .bool r18), (9, .bool (!r18)), (10, .bool (!r18))]) [(1, .slice ad d.length cd), (2, .pointer (some pu)), (5, .pointer (some pn)), (6, .pointer (some pf)), (7, .slice a2 r3.1.length c2), (8, .bool r3.2.1)] [1, 2, 5, 6, 7, 8] hL rfl rfl rfl rfl rfl (.cons rfl (.cons rfl (.cons rfl (.cons rfl (.cons rfl (.cons rfl (.nil))))))) rfl rfl (by kernel_rfl) ?_
    refine .last [(84, .pointer (some (pf.add 0))), (85, .int .i64 r2.2.code), (86, .bool (r2.2.code != 0)), (87, .bool (r2.2.code != 0)), (88, .agg #[.int .i64 r2.1.events, .slice a r2.1.links.length c]), (89, .agg #[.int .i64 u.network.events, .slice au u.network.links.length cu, .slice au2 u.contingent.length cu2]), (90, .slice ad d.length cd), (91, .agg #[.int .i64 r17.events, .slice a6 r17.links.length c6]), (92, .bool r18), (93, .bool (!r18)), (94, .bool (!r18))] rfl (by kernel_rfl) (.gv [(87, .bool (r2.2.code != 0))] rfl rfl rfl rfl q133 rfl rfl rfl rfl (fun _ => ldA (cs := [.int .i64 r2.1.events, .slice a r2.1.links.length c]) rfl tA24 rfl (cellsB (off := 0) (k := 1) rfl (m := 2) rfl)) (.gc [(88, .agg #[.int .i64 r2.1.events, .slice a r2.1.links.length c]), (91, .agg #[.int .i64 r17.events, .slice a6 r17.links.length c6]), (91, .agg #[.int .i64 r17.events, .slice a6 r17.links.length c6]), (87, .bool (r2.2.code != 0))] rfl rfl rfl rfl q133 rfl rfl rfl rfl (fun _ => cl (v := .bool r18) Try.call42 rfl rfl (fun w S => (by rw [q139]; exact c_net S.sub r2.1 a c (q8.mono (FH.le_trans (le2) (le7))) q9 r17 a6 c6 q136 q137 q138))) (.gv [(92, .bool r18), (87, .bool (r2.2.code != 0))] rfl rfl rfl rfl q133 rfl rfl rfl rfl (fun _ => nt rfl) (.v [(87, .bool (r2.2.code != 0)), (93, .bool (!r18))] rfl rfl rfl rfl rfl rfl (fun _ => pkF rfl q133 rfl) (.nil))))) rfl ?_
    refine .sel0 [0] (by decide) rfl ?_
    exact .use q131 (!r18) hF (.cons rfl (.cons rfl (.cons rfl (.cons rfl (.cons rfl (.nil)))))) rfl (le7)
  refine .open_ (by kernel_rfl) (by kernel_rfl) ?_
  refine .v (ldA (cs := [.int .i64 u.network.events, .slice au u.network.links.length cu, .slice au2 u.contingent.length cu2]) rfl tA51 rfl (cellsB (off := 0) (k := 4) rfl (m := 3) rfl)) rfl rfl rfl ?_
  obtain ⟨r19, q140⟩ : ∃ y_ : Fault, y_ = sp_uvalidate u := ⟨_, rfl⟩
  replace hF := hF r19 q140
  refine .c (cl (v := .agg #[.int .i64 r19.code, .int .i64 r19.index]) Try.call41 rfl rfl (fun w S => (by rw [q140]; exact c_uvalidate S.sub u au cu (_q1.mono (FH.le_trans (le1) (le2))) _q2 au2 cu2 (_q3.mono (FH.le_trans (le1) (le2))) _q4 ))) rfl rfl rfl ?_
  refine .v (ldA (cs := [.int .i64 u.network.events, .slice au u.network.links.length cu, .slice au2 u.contingent.length cu2]) rfl tA51 rfl (cellsB (off := 0) (k := 4) rfl (m := 3) rfl)) rfl rfl rfl ?_
  obtain ⟨r20, q141⟩ : ∃ y_ : Fault, y_ = sp_uvalidate u := ⟨_, rfl⟩
  replace hF := hF r20 q141
  refine .c (cl (v := .agg #[.int .i64 r20.code, .int .i64 r20.index]) Try.call29 rfl rfl (fun w S => (by rw [q141]; exact c_uncertainFault S.sub u au cu (_q1.mono (FH.le_trans (le1) (le2))) _q2 au2 cu2 (_q3.mono (FH.le_trans (le1) (le2))) _q4 ))) rfl rfl rfl ?_
  refine .v (ne2 tE27 rfl rfl) rfl rfl rfl ?_
  refine .v (mv rfl) rfl rfl rfl ?_
  rcases Bool.eq_false_or_eq_true (!((r19.code == r20.code) && (r19.index == r20.index))) with q142 | q142
  · replace hF := hF.1 q142
    refine .gS rfl rfl rfl q142 rfl rfl ?_
    refine .gS rfl rfl rfl q142 rfl rfl ?_
    refine .gS rfl rfl rfl q142 rfl rfl ?_
    refine .v (pkT rfl q142 rfl) rfl rfl rfl ?_
    refine .fin ?_
    refine .sel0 [4, 3, 2, 0] (by decide) rfl ?_
    exact .use q17 true hF (.cons rfl (.cons rfl (.cons rfl (.cons rfl (.cons rfl (.cons rfl (.cons rfl (.cons rfl (.nil))))))))) rfl (FH.le_refl _)
  replace hF := hF.2 q142
  refine .gv (ldA (cs := [.int .i64 r3.2.2.code, .int .i64 r3.2.2.index]) rfl tA27 rfl (cellsB (off := 0) (k := 1) rfl (m := 2) rfl)) rfl rfl rfl q142 rfl rfl ?_
  refine .gv (ldA (cs := [.int .i64 r4.code, .int .i64 r4.index]) rfl tA27 rfl (cellsB (off := 0) (k := 0) rfl (m := 2) rfl)) rfl rfl rfl q142 rfl rfl ?_
  refine .gv (ne2 tE27 rfl rfl) rfl rfl rfl q142 rfl rfl ?_
  refine .v (pkF rfl q142 rfl) rfl rfl rfl ?_
  refine .fin ?_
  refine .sel0 [4, 3, 2, 0] (by decide) rfl ?_
  exact .use q17 (!((r3.2.2.code == r4.code) && (r3.2.2.index == r4.index))) hF (.cons rfl (.cons rfl (.cons rfl (.cons rfl (.cons rfl (.cons rfl (.cons rfl (.cons rfl (.nil))))))))) rfl (FH.le_refl _)

theorem c_lawUncertainMatchesSpec {h : FH} {w : World} (hs : Sub h w) (u : Uncertain) (au : Option Addr) (cu : Nat) (_q1 : RSl h au u.network.links) (_q2 : u.network.links.length ≤ cu) (au2 : Option Addr) (cu2 : Nat) (_q3 : RSl h au2 u.contingent) (_q4 : u.contingent.length ≤ cu2) (d : List Int) (ad : Option Addr) (cd : Nat) (_q5 : RSl h ad d) (_q6 : d.length ≤ cd) : Calls Try.prog 13 #[.agg #[.int .i64 u.network.events, .slice au u.network.links.length cu, .slice au2 u.contingent.length cu2], .slice ad d.length cd] w fun e w' => e = .returned (.bool (sp_lawUncertainMatchesSpec u d)) ∧ Below w.heap.size w w' :=
  (w_lawUncertainMatchesSpec hs u au cu _q1 _q2 au2 cu2 _q3 _q4 d ad cd _q5 _q6 (fun r => r = sp_lawUncertainMatchesSpec u d) (ok_lawUncertainMatchesSpec u d)).mono fun _ _ ⟨_, hk, he, hb⟩ => ⟨by rw [he, hk], hb⟩

end Go.Proofs.Ytijicdmpidbacaa.Pl
