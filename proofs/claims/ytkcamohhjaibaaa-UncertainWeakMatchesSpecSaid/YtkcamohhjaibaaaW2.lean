/- The walks: from what each function asks to what it does; printed from the code. No condition. -/
import Derived.Test.YtkcamohhjaibaaaW1
namespace Go.Proofs.Ytkcamohhjaibaaa.Pl
open Go Go.RowKit
set_option maxHeartbeats 8000000 in
theorem w_tightest {h : FH} {w : World} (hs : Sub h w) (n_ : Network) (an_ : Option Addr) (cn_ : Nat) (_q1 : RSl h an_ n_.links) (_q2 : n_.links.length ≤ cn_) (K : (List (List Int) × Bool) → Prop) (hF : F_tightest n_ K) : Calls Try.prog 19 #[.agg #[.int .i64 n_.events, .slice an_ n_.links.length cn_]] w fun e w' => ∃ (r : List (List Int) × Bool) (z : Option Addr × Nat) (h1 : FH), K r ∧ e = .returned (.tuple #[.slice z.1 r.1.length z.2, .bool r.2]) ∧ FH.le h h1 ∧ (RSl h1 z.1 r.1 ∧ r.1.length ≤ z.2) ∧ SH (Kp.all w h) h1 w' [] := by
  refine enter (args := [.agg #[.int .i64 n_.events, .slice an_ n_.links.length cn_]]) Try.func19 rfl Try.ntmps19 rfl hs ?_
  refine .seq ?_
  refine .region ?_
  refine bx (vs := [.int .i64 n_.events, .slice an_ n_.links.length cn_]) rfl rfl rfl (fun pn => ?_)
  refine .v (asg rfl) rfl rfl rfl ?_
  refine .v (asg rfl) rfl rfl rfl ?_
  refine .nil ?_
  refine .seqN ?_
  refine .seq ?_
  refine .region ?_
  refine .v (asg rfl) rfl rfl rfl ?_
  refine .nil ?_
  refine .seqN ?_
  refine .seq ?_
  refine .seq ?_
  refine .region ?_
  refine .v (asg rfl) rfl rfl rfl ?_
  refine .nil ?_
  refine .seqN ?_
  refine .block ?_
  refine .nilSl 35 1 ?_
  refine .cast (A' := [OwnSl 35 1 none (([] : List (List Int)).length) 0 [], Box pn [.int .i64 n_.events, .slice an_ n_.links.length cn_]]) rfl ?_
  refine .sel0 [1, 0] (by decide) rfl ?_
  obtain ⟨I1, μ1, q319330, q319331⟩ := hF
  refine .loop' (σ := Int × List (List Int) × Option Addr × Nat × List Value × FH) (fun z => I1 z.1 z.2.1 ∧ RepL z.2.2.2.2.2 z.2.1 z.2.2.2.2.1 ∧ FH.le h z.2.2.2.2.2) (fun z => μ1 z.1 z.2.1) (fun z => [(1, .pointer (some pn)), (4, .slice z.2.2.1 z.2.1.length z.2.2.2.1), (5, .int .i64 z.1)]) (fun z => [Box pn [.int .i64 n_.events, .slice an_ n_.links.length cn_], OwnSl 35 1 z.2.2.1 z.2.1.length z.2.2.2.1 z.2.2.2.2.1]) (fun z => z.2.2.2.2.2) (0, ([] : List (List Int)), none, 0, [], h) ⟨q319330, (show RepL h ([] : List (List Int)) [] from rfl), (FH.le_refl _)⟩ (.cons rfl (.cons rfl (.cons rfl (.nil)))) rfl (FH.le_refl _) ?_
  rintro ⟨i, all, aall, call, csall, h19⟩ ⟨q319330, q255157, q255158⟩
  have hF := q319331 i all q319330
  show J _ _ _ _ _ [(1, .pointer (some pn)), (4, .slice aall all.length call), (5, .int .i64 i)] [Box pn [.int .i64 n_.events, .slice an_ n_.links.length cn_], OwnSl 35 1 aall all.length call csall] h19
  refine .seq ?_
  refine .seq ?_
  refine .region ?_
  refine .v (mv rfl) rfl rfl rfl ?_
  refine .v (fa rfl tF24_0) rfl rfl rfl ?_
  refine .v (ld1 rfl tO3 (cellB (off := 0) (k := 0) rfl rfl)) rfl rfl rfl ?_
  refine .v (bi rfl rfl rfl) rfl rfl rfl ?_
  refine .nil ?_
  refine .seqN ?_
  refine .cond rfl (fun q319333 => ?_) (fun q319333 => ?_)
  · replace hF := hF.1 q319333
    refine .skip ?_
    refine .seqN ?_
    refine .seq ?_
    refine .block ?_
    refine .seq ?_
    refine .region ?_
    refine .v (fa rfl tF24_0) rfl rfl rfl ?_
    refine .v (ld1 rfl tO3 (cellB (off := 0) (k := 0) rfl rfl)) rfl rfl rfl ?_
    obtain ⟨q362112, hF⟩ := hF
    refine mk (m := (n_.events).toNat) (cs' := flL (List.replicate (n_.events).toNat (0 : Int))) tS35 rfl rfl (Int.toNat_of_nonneg q362112.1).symm q362112.2.1 q362112.2.2 (flL_rep1 rfl _) rfl (fun a c => ?_)
    have q362113 : (List.replicate (n_.events).toNat (0 : Int)).length = (n_.events).toNat := List.length_replicate
    refine .cast (A' := [OwnSl 3 1 a ((n_.events).toNat) c (flL (List.replicate (n_.events).toNat (0 : Int))), Box pn [.int .i64 n_.events, .slice an_ n_.links.length cn_], OwnSl 35 1 aall all.length call csall]) rfl ?_
    refine .v (asg rfl) rfl rfl rfl ?_
    refine .nil ?_
    refine .seqN ?_
    refine .seq ?_
    refine .seq ?_
    refine .region ?_
    refine .v (asg rfl) rfl rfl rfl ?_
    refine .nil ?_
    refine .seqN ?_
    refine .block ?_
    refine .sel0 [1, 2, 0] (by decide) rfl ?_
    obtain ⟨I2, μ2, q362179, q362180⟩ := hF
    refine .loop' (σ := Int × List Int) (fun z => I2 z.1 z.2 ∧ z.2.length = (n_.events).toNat) (fun z => μ2 z.1 z.2) (fun z => [(1, .pointer (some pn)), (4, .slice aall all.length call), (5, .int .i64 i), (6, .slice a ((n_.events).toNat) c), (7, .int .i64 z.1)]) (fun z => [Box pn [.int .i64 n_.events, .slice an_ n_.links.length cn_], OwnSl 35 1 aall all.length call csall, OwnSl 3 1 a ((n_.events).toNat) c (flL z.2)]) (fun _ => h19) (0, (List.replicate (n_.events).toNat (0 : Int))) ⟨q362179, q362113⟩ (.cons rfl (.cons rfl (.cons rfl (.cons rfl (.cons rfl (.nil)))))) rfl (FH.le_refl _) ?_
    rintro ⟨j, row⟩ ⟨q362179, q362166⟩
    have hF := q362180 j row q362179
    show J _ _ _ _ _ [(1, .pointer (some pn)), (4, .slice aall all.length call), (5, .int .i64 i), (6, .slice a ((n_.events).toNat) c), (7, .int .i64 j)] [Box pn [.int .i64 n_.events, .slice an_ n_.links.length cn_], OwnSl 35 1 aall all.length call csall, OwnSl 3 1 a ((n_.events).toNat) c (flL row)] h19
    refine .seq ?_
    refine .seq ?_
    refine .region ?_
    refine .v (mv rfl) rfl rfl rfl ?_
    refine .v (fa rfl tF24_0) rfl rfl rfl ?_
    refine .v (ld1 rfl tO3 (cellB (off := 0) (k := 0) rfl rfl)) rfl rfl rfl ?_
    refine .v (bi rfl rfl rfl) rfl rfl rfl ?_
    refine .nil ?_
    refine .seqN ?_
    refine .cond rfl (fun q362182 => ?_) (fun q362182 => ?_)
    · replace hF := hF.1 q362182
      refine .skip ?_
      refine .seqN ?_
      refine .seq ?_
      refine .block ?_
      refine .region ?_
      refine .v (mv rfl) rfl rfl rfl ?_
      refine .v (mv rfl) rfl rfl rfl ?_
      obtain ⟨q362189, hF⟩ := hF
      refine .v (ixS rfl rfl tS35 (k := 2) rfl (inb_n q362189 q362166)) rfl rfl rfl ?_
      obtain ⟨d, q362190⟩ : ∃ y_ : List Int, y_ = (row.set (j).toNat 1000000000) := ⟨_, rfl⟩
      replace hF := hF d q362190
      refine stS (k := 2) (cs' := flL d) rfl (fun _ => rfl) rfl rfl (fun w => (tO3 w).2) rfl rfl rfl (by rw [← q362166]; exact inb_pos q362189) (fl_room q362189) (by rw [q362190]; exact flL_set q362189 1000000000) ?_
      have q362191 : d.length = (n_.events).toNat := by rw [q362190]; exact List.length_set.trans q362166
      refine .cast (A' := [Box pn [.int .i64 n_.events, .slice an_ n_.links.length cn_], OwnSl 35 1 aall all.length call csall, OwnSl 3 1 a ((n_.events).toNat) c (flL d)]) rfl ?_
      refine .nil ?_
      refine .blkN ?_
      refine .seqN ?_
      refine .region ?_
      refine .v (mv rfl) rfl rfl rfl ?_
      refine .v (bi rfl rfl rfl) rfl rfl rfl ?_
      refine .v (asg rfl) rfl rfl rfl ?_
      refine .nil ?_
      exact .round (IntKind.i64.wrap (j + 1), d) ⟨hF.1, q362191⟩ hF.2 (.cons rfl (.cons rfl (.cons rfl (.cons rfl (.cons rfl (.nil)))))) rfl (FH.le_refl _)
    replace hF := hF.2 q362182
    refine .exit ?_
    refine .seqX ?_
    refine .seqX ?_
    refine .blkX ?_
    refine .seqN ?_
    refine .seq ?_
    refine .region ?_
    refine .v (mv rfl) rfl rfl rfl ?_
    refine .v (mv rfl) rfl rfl rfl ?_
    obtain ⟨q362192, hF⟩ := hF
    refine .v (ixS rfl rfl tS35 (k := 2) rfl (inb_n q362192 q362166)) rfl rfl rfl ?_
    obtain ⟨d2, q362193⟩ : ∃ y_ : List Int, y_ = (row.set (i).toNat 0) := ⟨_, rfl⟩
    replace hF := hF d2 q362193
    refine stS (k := 2) (cs' := flL d2) rfl (fun _ => rfl) rfl rfl (fun w => (tO3 w).2) rfl rfl rfl (by rw [← q362166]; exact inb_pos q362192) (fl_room q362192) (by rw [q362193]; exact flL_set q362192 0) ?_
    have q362194 : d2.length = (n_.events).toNat := by rw [q362193]; exact List.length_set.trans q362166
    refine .cast (A' := [Box pn [.int .i64 n_.events, .slice an_ n_.links.length cn_], OwnSl 35 1 aall all.length call csall, OwnSl 3 1 a ((n_.events).toNat) c (flL d2)]) rfl ?_
    refine .nil ?_
    refine .seqN ?_
    refine .seq ?_
    refine .seq ?_
    refine .region ?_
    refine .v (asg rfl) rfl rfl rfl ?_
    refine .nil ?_
    refine .seqN ?_
    refine .block ?_
    obtain ⟨I3, μ3, q379945, q379946⟩ := hF
    refine .loop' (σ := Int × List Int) (fun z => I3 z.1 z.2 ∧ z.2.length = (n_.events).toNat) (fun z => μ3 z.1 z.2) (fun z => [(1, .pointer (some pn)), (4, .slice aall all.length call), (5, .int .i64 i), (6, .slice a ((n_.events).toNat) c), (8, .int .i64 z.1)]) (fun z => [Box pn [.int .i64 n_.events, .slice an_ n_.links.length cn_], OwnSl 35 1 aall all.length call csall, OwnSl 3 1 a ((n_.events).toNat) c (flL z.2)]) (fun _ => h19) (0, d2) ⟨q379945, q362194⟩ (.cons rfl (.cons rfl (.cons rfl (.cons rfl (.cons rfl (.nil)))))) rfl (FH.le_refl _) ?_
    rintro ⟨round, row3⟩ ⟨q379945, q376395⟩
    have hF := q379946 round row3 q379945
    show J _ _ _ _ _ [(1, .pointer (some pn)), (4, .slice aall all.length call), (5, .int .i64 i), (6, .slice a ((n_.events).toNat) c), (8, .int .i64 round)] [Box pn [.int .i64 n_.events, .slice an_ n_.links.length cn_], OwnSl 35 1 aall all.length call csall, OwnSl 3 1 a ((n_.events).toNat) c (flL row3)] h19
    refine .seq ?_
    refine .seq ?_
    refine .region ?_
    refine .v (mv rfl) rfl rfl rfl ?_
    refine .v (fa rfl tF24_0) rfl rfl rfl ?_
    refine .v (ld1 rfl tO3 (cellB (off := 0) (k := 0) rfl rfl)) rfl rfl rfl ?_
    refine .v (bi rfl rfl rfl) rfl rfl rfl ?_
    refine .nil ?_
    refine .seqN ?_
    refine .cond rfl (fun q379948 => ?_) (fun q379948 => ?_)
    · replace hF := hF.1 q379948
      refine .skip ?_
      refine .seqN ?_
      refine .seq ?_
      refine .block ?_
      refine .seq ?_
      refine .region ?_
      refine .v (asg rfl) rfl rfl rfl ?_
      refine .nil ?_
      refine .seqN ?_
      refine .block ?_
      obtain ⟨I4, μ4, q383101, q383102⟩ := hF
      refine .loop' (σ := Int × List Int) (fun z => I4 z.1 z.2 ∧ z.2.length = (n_.events).toNat) (fun z => μ4 z.1 z.2) (fun z => [(1, .pointer (some pn)), (4, .slice aall all.length call), (5, .int .i64 i), (6, .slice a ((n_.events).toNat) c), (8, .int .i64 round), (9, .int .i64 z.1)]) (fun z => [Box pn [.int .i64 n_.events, .slice an_ n_.links.length cn_], OwnSl 35 1 aall all.length call csall, OwnSl 3 1 a ((n_.events).toNat) c (flL z.2)]) (fun _ => h19) (0, row3) ⟨q383101, q376395⟩ (.cons rfl (.cons rfl (.cons rfl (.cons rfl (.cons rfl (.cons rfl (.nil))))))) rfl (FH.le_refl _) ?_
      rintro ⟨a2, row5⟩ ⟨q383101, q382707⟩
      have hF := q383102 a2 row5 q383101
      show J _ _ _ _ _ [(1, .pointer (some pn)), (4, .slice aall all.length call), (5, .int .i64 i), (6, .slice a ((n_.events).toNat) c), (8, .int .i64 round), (9, .int .i64 a2)] [Box pn [.int .i64 n_.events, .slice an_ n_.links.length cn_], OwnSl 35 1 aall all.length call csall, OwnSl 3 1 a ((n_.events).toNat) c (flL row5)] h19
      refine .seq ?_
      refine .seq ?_
      refine .region ?_
      refine .v (mv rfl) rfl rfl rfl ?_
      refine .v (fa rfl tF24_0) rfl rfl rfl ?_
      refine .v (ld1 rfl tO3 (cellB (off := 0) (k := 0) rfl rfl)) rfl rfl rfl ?_
      refine .v (bi rfl rfl rfl) rfl rfl rfl ?_
      refine .nil ?_
      refine .seqN ?_
      refine .cond rfl (fun q383104 => ?_) (fun q383104 => ?_)
      · replace hF := hF.1 q383104
        refine .skip ?_
        refine .seqN ?_
        refine .seq ?_
        refine .block ?_
        refine .seq ?_
        refine .region ?_
        refine .v (asg rfl) rfl rfl rfl ?_
        refine .nil ?_
        refine .seqN ?_
        refine .block ?_
        obtain ⟨I5, μ5, q383453, q383454⟩ := hF
        refine .loop' (σ := Int × List Int) (fun z => I5 z.1 z.2 ∧ z.2.length = (n_.events).toNat) (fun z => μ5 z.1 z.2) (fun z => [(1, .pointer (some pn)), (4, .slice aall all.length call), (5, .int .i64 i), (6, .slice a ((n_.events).toNat) c), (8, .int .i64 round), (9, .int .i64 a2), (10, .int .i64 z.1)]) (fun z => [Box pn [.int .i64 n_.events, .slice an_ n_.links.length cn_], OwnSl 35 1 aall all.length call csall, OwnSl 3 1 a ((n_.events).toNat) c (flL z.2)]) (fun _ => h19) (0, row5) ⟨q383453, q382707⟩ (.cons rfl (.cons rfl (.cons rfl (.cons rfl (.cons rfl (.cons rfl (.cons rfl (.nil)))))))) rfl (FH.le_refl _) ?_
        rintro ⟨b, row7⟩ ⟨q383453, q383411⟩
        have hF := q383454 b row7 q383453
        show J _ _ _ _ _ [(1, .pointer (some pn)), (4, .slice aall all.length call), (5, .int .i64 i), (6, .slice a ((n_.events).toNat) c), (8, .int .i64 round), (9, .int .i64 a2), (10, .int .i64 b)] [Box pn [.int .i64 n_.events, .slice an_ n_.links.length cn_], OwnSl 35 1 aall all.length call csall, OwnSl 3 1 a ((n_.events).toNat) c (flL row7)] h19
        refine .seq ?_
        refine .seq ?_
        refine .region ?_
        refine .v (mv rfl) rfl rfl rfl ?_
        refine .v (fa rfl tF24_0) rfl rfl rfl ?_
        refine .v (ld1 rfl tO3 (cellB (off := 0) (k := 0) rfl rfl)) rfl rfl rfl ?_
        refine .v (bi rfl rfl rfl) rfl rfl rfl ?_
        refine .nil ?_
        refine .seqN ?_
        refine .cond rfl (fun q383456 => ?_) (fun q383456 => ?_)
        · replace hF := hF.1 q383456
          refine .skip ?_
          refine .seqN ?_
          refine .share (σ := List Int) (fun z => F_tightest_J1 b I5 μ5 row7 z ∧ z.length = (n_.events).toNat) (fun _ => [(1, .pointer (some pn)), (4, .slice aall all.length call), (5, .int .i64 i), (6, .slice a ((n_.events).toNat) c), (8, .int .i64 round), (9, .int .i64 a2), (10, .int .i64 b)]) (fun z => [Box pn [.int .i64 n_.events, .slice an_ n_.links.length cn_], OwnSl 35 1 aall all.length call csall, OwnSl 3 1 a ((n_.events).toNat) c (flL z)]) (fun _ => h19) ?_ (fun q383476 => ?_)
          · rintro row9 ⟨hF, q383475⟩
            show J _ _ _ _ _ [(1, .pointer (some pn)), (4, .slice aall all.length call), (5, .int .i64 i), (6, .slice a ((n_.events).toNat) c), (8, .int .i64 round), (9, .int .i64 a2), (10, .int .i64 b)] [Box pn [.int .i64 n_.events, .slice an_ n_.links.length cn_], OwnSl 35 1 aall all.length call csall, OwnSl 3 1 a ((n_.events).toNat) c (flL row9)] h19
            refine .region ?_
            refine .v (mv rfl) rfl rfl rfl ?_
            refine .v (bi rfl rfl rfl) rfl rfl rfl ?_
            refine .v (asg rfl) rfl rfl rfl ?_
            refine .nil ?_
            exact .round (IntKind.i64.wrap (b + 1), row9) ⟨hF.1, q383475⟩ hF.2 (.cons rfl (.cons rfl (.cons rfl (.cons rfl (.cons rfl (.cons rfl (.cons rfl (.nil)))))))) rfl (FH.le_refl _)
          refine .block ?_
          refine .seq ?_
          refine .region ?_
          refine .v (ldA (cs := [.int .i64 n_.events, .slice an_ n_.links.length cn_]) rfl tA24 rfl (cellsB (off := 0) (k := 0) rfl (m := 2) rfl)) rfl rfl rfl ?_
          refine .v (mv rfl) rfl rfl rfl ?_
          refine .v (mv rfl) rfl rfl rfl ?_
          obtain ⟨q383477, hF⟩ := hF
          obtain ⟨r2, q383478⟩ : ∃ y_ : Int, y_ = sp_direct n_ a2 b := ⟨_, rfl⟩
          replace hF := hF r2 q383478
          refine .c (cl (v := .int .i64 r2) Try.call36 rfl rfl (fun w S => (by rw [q383478]; exact c_direct S.sub n_ an_ cn_ (_q1.mono (q255158)) _q2 a2 b q383477))) rfl rfl rfl ?_
          refine .v (asg rfl) rfl rfl rfl ?_
          refine .nil ?_
          refine .seqN ?_
          refine .share (σ := Bool) (fun z => F_tightest_J2 n_ K r2 z b I5 μ5 a2 row7 round) (fun z => [(1, .pointer (some pn)), (4, .slice aall all.length call), (5, .int .i64 i), (6, .slice a ((n_.events).toNat) c), (8, .int .i64 round), (9, .int .i64 a2), (10, .int .i64 b), (11, .int .i64 r2), (76, .bool z)]) (fun _ => [Box pn [.int .i64 n_.events, .slice an_ n_.links.length cn_], OwnSl 35 1 aall all.length call csall, OwnSl 3 1 a ((n_.events).toNat) c (flL row7)]) (fun _ => h19) ?_ (fun q383483 => ?_)
          · rintro t76 hF
            show J _ _ _ _ _ [(1, .pointer (some pn)), (4, .slice aall all.length call), (5, .int .i64 i), (6, .slice a ((n_.events).toNat) c), (8, .int .i64 round), (9, .int .i64 a2), (10, .int .i64 b), (11, .int .i64 r2), (76, .bool t76)] [Box pn [.int .i64 n_.events, .slice an_ n_.links.length cn_], OwnSl 35 1 aall all.length call csall, OwnSl 3 1 a ((n_.events).toNat) c (flL row7)] h19
            refine .cond rfl (fun q383484 => ?_) (fun q383484 => ?_)
            · replace hF := hF.1 q383484
              refine .seq ?_
              refine .seq ?_
              refine .region ?_
              refine .v (mv rfl) rfl rfl rfl ?_
              refine .v (fa rfl tF24_0) rfl rfl rfl ?_
              refine .v (ld1 rfl tO3 (cellB (off := 0) (k := 0) rfl rfl)) rfl rfl rfl ?_
              refine .v (bi rfl rfl rfl) rfl rfl rfl ?_
              refine .nil ?_
              refine .seqN ?_
              refine .cond rfl (fun q383486 => ?_) (fun q383486 => ?_)
              · replace hF := hF.1 q383486
                refine .seq ?_
                refine .region ?_
                refine .v (asg rfl) rfl rfl rfl ?_
                refine .v (asg rfl) rfl rfl rfl ?_
                refine .nil ?_
                refine .seqN ?_
                refine .ret ?_
                refine .seqR ?_
                refine .blkR ?_
                refine .seqR ?_
                refine .seqR ?_
                refine .blkR ?_
                refine .blkR ?_
                refine .seqR ?_
                refine .seqR ?_
                refine .blkR ?_
                refine .blkR ?_
                refine .seqR ?_
                refine .seqR ?_
                refine .blkR ?_
                refine .seqR ?_
                refine .blkR ?_
                refine .seqR ?_
                refine .seqR ?_
                refine .blkR ?_
                refine .seqR ?_
                refine .res2 rfl (rvT rfl) (rvT rfl) (fun w' S => ⟨(([] : List (List Int)), false), (none, 0), h19, hF, rfl, (q255158), ⟨RSl.nil_, (Nat.le_refl 0)⟩, S.none⟩)
              replace hF := hF.2 q383486
              refine .skip ?_
              refine .seqN ?_
              refine .region ?_
              refine .v (mv rfl) rfl rfl rfl ?_
              refine .v (mv rfl) rfl rfl rfl ?_
              refine .v (mv rfl) rfl rfl rfl ?_
              refine .v (mv rfl) rfl rfl rfl ?_
              obtain ⟨q383487, hF⟩ := hF
              refine .v (ixS rfl rfl tS35 (k := 2) rfl (inb_n q383487 q383411)) rfl rfl rfl ?_
              refine .v (ld1 (v := .int .i64 (gt row7 a2)) rfl tO3 (cellS (k := 2) rfl (flL_get q383487 (j := 0) rfl))) rfl rfl rfl ?_
              refine .v (mv rfl) rfl rfl rfl ?_
              refine .v (bi rfl rfl rfl) rfl rfl rfl ?_
              obtain ⟨q383488, hF⟩ := hF
              refine .v (ixS rfl rfl tS35 (k := 2) rfl (inb_n q383488 q383411)) rfl rfl rfl ?_
              obtain ⟨d3, q383489⟩ : ∃ y_ : List Int, y_ = (row7.set (b).toNat (IntKind.i64.wrap ((gt row7 a2) + r2))) := ⟨_, rfl⟩
              replace hF := hF d3 q383489
              refine stS (k := 2) (cs' := flL d3) rfl (fun _ => rfl) rfl rfl (fun w => (tO3 w).2) rfl rfl rfl (by rw [← q383411]; exact inb_pos q383488) (fl_room q383488) (by rw [q383489]; exact flL_set q383488 (IntKind.i64.wrap ((gt row7 a2) + r2))) ?_
              have q383490 : d3.length = (n_.events).toNat := by rw [q383489]; exact List.length_set.trans q383411
              refine .cast (A' := [Box pn [.int .i64 n_.events, .slice an_ n_.links.length cn_], OwnSl 35 1 aall all.length call csall, OwnSl 3 1 a ((n_.events).toNat) c (flL d3)]) rfl ?_
              refine .nil ?_
              refine .blkN ?_
              exact .use q383476 d3 ⟨hF, q383490⟩ (.cons rfl (.cons rfl (.cons rfl (.cons rfl (.cons rfl (.cons rfl (.cons rfl (.nil)))))))) rfl (FH.le_refl _)
            replace hF := hF.2 q383484
            refine .skip ?_
            refine .blkN ?_
            exact .use q383476 row7 ⟨hF, q383411⟩ (.cons rfl (.cons rfl (.cons rfl (.cons rfl (.cons rfl (.cons rfl (.cons rfl (.nil)))))))) rfl (FH.le_refl _)
          refine .open_ (by kernel_rfl) (by kernel_rfl) ?_
          refine .v (mv rfl) rfl rfl rfl ?_
          refine .v (mv rfl) rfl rfl rfl ?_
          obtain ⟨q383491, hF⟩ := hF
          refine .v (ixS rfl rfl tS35 (k := 2) rfl (inb_n q383491 q383411)) rfl rfl rfl ?_
          refine .v (ld1 (v := .int .i64 (gt row7 a2)) rfl tO3 (cellS (k := 2) rfl (flL_get q383491 (j := 0) rfl))) rfl rfl rfl ?_
          refine .v (bi rfl rfl rfl) rfl rfl rfl ?_
          refine .v (mv rfl) rfl rfl rfl ?_
          rcases Bool.eq_false_or_eq_true (decide ((gt row7 a2) < 1000000000)) with q383492 | q383492
          · replace hF := hF.1 q383492
            refine .gv (mv rfl) rfl rfl rfl q383492 rfl rfl ?_
            refine .gv (bi rfl rfl rfl) rfl rfl rfl q383492 rfl rfl ?_
            refine .v (pkT rfl q383492 rfl) rfl rfl rfl ?_
            refine .v (mv rfl) rfl rfl rfl ?_
            rcases Bool.eq_false_or_eq_true (decide (r2 < 1000000000)) with q383493 | q383493
            · replace hF := hF.1 q383493
              refine .gv (mv rfl) rfl rfl rfl q383493 rfl rfl ?_
              refine .gv (mv rfl) rfl rfl rfl q383493 rfl rfl ?_
              refine .gv (ixS rfl rfl tS35 (k := 2) rfl (inb_n q383491 q383411)) rfl rfl rfl q383493 rfl rfl ?_
              refine .gv (ld1 (v := .int .i64 (gt row7 a2)) rfl tO3 (cellS (k := 2) rfl (flL_get q383491 (j := 0) rfl))) rfl rfl rfl q383493 rfl rfl ?_
              refine .gv (mv rfl) rfl rfl rfl q383493 rfl rfl ?_
              refine .gv (bi rfl rfl rfl) rfl rfl rfl q383493 rfl rfl ?_
              refine .gv (mv rfl) rfl rfl rfl q383493 rfl rfl ?_
              refine .gv (mv rfl) rfl rfl rfl q383493 rfl rfl ?_
              obtain ⟨q383494, hF⟩ := hF
              refine .gv (ixS rfl rfl tS35 (k := 2) rfl (inb_n q383494 q383411)) rfl rfl rfl q383493 rfl rfl ?_
              refine .gv (ld1 (v := .int .i64 (gt row7 b)) rfl tO3 (cellS (k := 2) rfl (flL_get q383494 (j := 0) rfl))) rfl rfl rfl q383493 rfl rfl ?_
              refine .gv (bi rfl rfl rfl) rfl rfl rfl q383493 rfl rfl ?_
              refine .v (pkT rfl q383493 rfl) rfl rfl rfl ?_
              refine .fin ?_
              exact .use q383483 (decide ((IntKind.i64.wrap ((gt row7 a2) + r2)) < (gt row7 b))) hF (.cons rfl (.cons rfl (.cons rfl (.cons rfl (.cons rfl (.cons rfl (.cons rfl (.cons rfl (.cons rfl (.nil)))))))))) rfl (FH.le_refl _)
            replace hF := hF.2 q383493
            refine .gS rfl rfl rfl q383493 rfl rfl ?_
            refine .gS rfl rfl rfl q383493 rfl rfl ?_
            refine .gS rfl rfl rfl q383493 rfl rfl ?_
            refine .gS rfl rfl rfl q383493 rfl rfl ?_
            refine .gS rfl rfl rfl q383493 rfl rfl ?_
            refine .gS rfl rfl rfl q383493 rfl rfl ?_
            refine .gS rfl rfl rfl q383493 rfl rfl ?_
            refine .gS rfl rfl rfl q383493 rfl rfl ?_
            refine .gS rfl rfl rfl q383493 rfl rfl ?_
            refine .gS rfl rfl rfl q383493 rfl rfl ?_
            refine .gS rfl rfl rfl q383493 rfl rfl ?_
            refine .v (pkF rfl q383493 rfl) rfl rfl rfl ?_
            refine .fin ?_
            exact .use q383483 false hF (.cons rfl (.cons rfl (.cons rfl (.cons rfl (.cons rfl (.cons rfl (.cons rfl (.cons rfl (.cons rfl (.nil)))))))))) rfl (FH.le_refl _)
          replace hF := hF.2 q383492
          refine .gS rfl rfl rfl q383492 rfl rfl ?_
          refine .gS rfl rfl rfl q383492 rfl rfl ?_
          refine .v (pkF rfl q383492 rfl) rfl rfl rfl ?_
          refine .v (mv rfl) rfl rfl rfl ?_
          refine .gS rfl rfl rfl rfl rfl rfl ?_
          refine .gS rfl rfl rfl rfl rfl rfl ?_
          refine .gS rfl rfl rfl rfl rfl rfl ?_
          refine .gS rfl rfl rfl rfl rfl rfl ?_
          refine .gS rfl rfl rfl rfl rfl rfl ?_
          refine .gS rfl rfl rfl rfl rfl rfl ?_
          refine .gS rfl rfl rfl rfl rfl rfl ?_
          refine .gS rfl rfl rfl rfl rfl rfl ?_
          refine .gS rfl rfl rfl rfl rfl rfl ?_
          refine .gS rfl rfl rfl rfl rfl rfl ?_
          refine .gS rfl rfl rfl rfl rfl rfl ?_
          refine .v (pkF rfl rfl rfl) rfl rfl rfl ?_
          refine .fin ?_
          exact .use q383483 false hF (.cons rfl (.cons rfl (.cons rfl (.cons rfl (.cons rfl (.cons rfl (.cons rfl (.cons rfl (.cons rfl (.nil)))))))))) rfl (FH.le_refl _)
        replace hF := hF.2 q383456
        refine .exit ?_
        refine .seqX ?_
        refine .seqX ?_
        refine .blkX ?_
        refine .blkN ?_
        refine .seqN ?_
        refine .region ?_
        refine .v (mv rfl) rfl rfl rfl ?_
        refine .v (bi rfl rfl rfl) rfl rfl rfl ?_
        refine .v (asg rfl) rfl rfl rfl ?_
        refine .nil ?_
        exact .round (IntKind.i64.wrap (a2 + 1), row7) ⟨hF.1, q383411⟩ hF.2 (.cons rfl (.cons rfl (.cons rfl (.cons rfl (.cons rfl (.cons rfl (.nil))))))) rfl (FH.le_refl _)
      replace hF := hF.2 q383104
      refine .exit ?_
      refine .seqX ?_
      refine .seqX ?_
      refine .blkX ?_
      refine .blkN ?_
      refine .seqN ?_
      refine .region ?_
      refine .v (mv rfl) rfl rfl rfl ?_
      refine .v (bi rfl rfl rfl) rfl rfl rfl ?_
      refine .v (asg rfl) rfl rfl rfl ?_
      refine .nil ?_
      exact .round (IntKind.i64.wrap (round + 1), row5) ⟨hF.1, q382707⟩ hF.2 (.cons rfl (.cons rfl (.cons rfl (.cons rfl (.cons rfl (.nil)))))) rfl (FH.le_refl _)
    replace hF := hF.2 q379948
    refine .exit ?_
    refine .seqX ?_
    refine .seqX ?_
    refine .blkX ?_
    refine .seqN ?_
    refine .region ?_
    refine .v (mv rfl) rfl rfl rfl ?_
    refine .v (mv rfl) rfl rfl rfl ?_
    refine .freezeL (k := 2) rfl (fun h26 le26 q383496 q383495 => ?_)
    refine .cast (A' := [Box pn [.int .i64 n_.events, .slice an_ n_.links.length cn_], OwnSl 35 1 aall all.length call csall, tru]) rfl ?_
    refine bs2 (cs := #[.slice a ((n_.events).toNat) c]) (pv := [(0, .slice a ((n_.events).toNat) c)]) tS40 rfl rfl (by decide) (by decide) rfl rfl rfl (fun a4 _ => ?_)
    refine .cast (A' := [OwnSl 35 1 a4 (([row3] : List (List Int)).length) 1 [.slice a ((n_.events).toNat) c], Box pn [.int .i64 n_.events, .slice an_ n_.links.length cn_], OwnSl 35 1 aall all.length call csall, tru]) rfl ?_
    obtain ⟨q383498, hF⟩ := hF
    have q383499 : all.length + ([row3] : List (List Int)).length = ((all ++ ([row3] : List (List Int)))).length := len_app rfl rfl
    have q383500 := RepL.append (RepL.mono (le26) q255157) (show RepL h26 ([row3] : List (List Int)) [.slice a ((n_.events).toNat) c] from ⟨[.slice a ((n_.events).toNat) c], _, rfl, ⟨a, c, (by rw [q376395]), (by rw [q376395]; exact q383496), (RSl.of q383495)⟩, rfl⟩)
    refine app (k := 2) (news := [.slice a ((n_.events).toNat) c]) (cs' := (csall ++ [.slice a ((n_.events).toNat) c])) (nm := ((all ++ ([row3] : List (List Int)))).length) tS40 rfl (by decide) rfl rfl rfl (RepL.len (show RepL h26 ([row3] : List (List Int)) [.slice a ((n_.events).toNat) c] from ⟨[.slice a ((n_.events).toNat) c], _, rfl, ⟨a, c, (by rw [q376395]), (by rw [q376395]; exact q383496), (RSl.of q383495)⟩, rfl⟩)) (srcS (k := 0) rfl) (RepL.one (show RepL h26 ([row3] : List (List Int)) [.slice a ((n_.events).toNat) c] from ⟨[.slice a ((n_.events).toNat) c], _, rfl, ⟨a, c, (by rw [q376395]), (by rw [q376395]; exact q383496), (RSl.of q383495)⟩, rfl⟩)) (room_of q383499 q383498).1 (room_of q383499 q383498).2 q383499 rfl rfl (fun a5 c2 => ?_)
    refine .cast (A' := [OwnSl 35 1 a4 (([row3] : List (List Int)).length) 1 [.slice a ((n_.events).toNat) c], Box pn [.int .i64 n_.events, .slice an_ n_.links.length cn_], OwnSl 35 1 a5 ((all ++ ([row3] : List (List Int))).length) c2 (csall ++ [.slice a ((n_.events).toNat) c]), tru]) rfl ?_
    refine .v (asg rfl) rfl rfl rfl ?_
    refine .nil ?_
    refine .blkN ?_
    refine .seqN ?_
    refine .region ?_
    refine .v (mv rfl) rfl rfl rfl ?_
    refine .v (bi rfl rfl rfl) rfl rfl rfl ?_
    refine .v (asg rfl) rfl rfl rfl ?_
    refine .nil ?_
    refine .sel0 [1, 2] (by decide) rfl ?_
    exact .round (IntKind.i64.wrap (i + 1), (all ++ ([row3] : List (List Int))), a5, c2, (csall ++ [.slice a ((n_.events).toNat) c]), h26) ⟨hF.1, q383500, (FH.le_trans (q255158) (le26))⟩ hF.2 (.cons rfl (.cons rfl (.cons rfl (.nil)))) rfl (FH.le_refl _)
  replace hF := hF.2 q319333
  refine .exit ?_
  refine .seqX ?_
  refine .seqX ?_
  refine .blkX ?_
  refine .seqN ?_
  refine .seq ?_
  refine .region ?_
  refine .v (mv rfl) rfl rfl rfl ?_
  refine .v (asg rfl) rfl rfl rfl ?_
  refine .v (asg rfl) rfl rfl rfl ?_
  refine .nil ?_
  refine .seqN ?_
  refine .freezeL (k := 1) rfl (fun h27 le27 q383502 q383501 => ?_)
  refine .cast (A' := [Box pn [.int .i64 n_.events, .slice an_ n_.links.length cn_], tru]) rfl ?_
  refine .ret ?_
  refine .res2 rfl (rvT rfl) (rvT rfl) (fun w' S => ⟨(all, true), (aall, call), h27, hF, rfl, (FH.le_trans (q255158) (le27)), ⟨(show RSl h27 aall all from ⟨_, q255157.mono (le27), q383501⟩), (q383502)⟩, S.none⟩)

theorem c_tightest {h : FH} {w : World} (hs : Sub h w) (n_ : Network) (an_ : Option Addr) (cn_ : Nat) (_q1 : RSl h an_ n_.links) (_q2 : n_.links.length ≤ cn_) (hp : pre_tightest n_) : Calls Try.prog 19 #[.agg #[.int .i64 n_.events, .slice an_ n_.links.length cn_]] w fun e w' => ∃ (z : Option Addr × Nat) (h1 : FH), e = .returned (.tuple #[.slice z.1 (sp_tighten n_).1.length z.2, .bool (sp_tighten n_).2]) ∧ FH.le h h1 ∧ (RSl h1 z.1 (sp_tighten n_).1 ∧ (sp_tighten n_).1.length ≤ z.2) ∧ SH (Kp.all w h) h1 w' [] :=
  (w_tightest hs n_ an_ cn_ _q1 _q2 (fun r => r = sp_tighten n_) (ok_tightest n_ hp)).mono fun _ _ ⟨r, z, h1, hk, he, hl, hf, hS⟩ => by subst hk; exact ⟨z, h1, he, hl, hf, hS⟩

theorem w_uval1 {h : FH} {w : World} (hs : Sub h w) (k : Link) (x : Link) (px : Addr) (_q1 : CellsAt h px [.int .i64 x.src, .int .i64 x.dst, .int .i64 x.low, .int .i64 x.high]) (K : Bool → Prop) (hF : F_uval1 k x K) : Calls Try.prog 27 #[.agg #[.int .i64 k.src, .int .i64 k.dst, .int .i64 k.low, .int .i64 k.high], .pointer (some px)] w fun e w' => ∃ r : Bool, K r ∧ e = .returned (.bool r) ∧ Below w.heap.size w w' := by
  refine enter (args := [.agg #[.int .i64 k.src, .int .i64 k.dst, .int .i64 k.low, .int .i64 k.high], .pointer (some px)]) Try.func27 rfl Try.ntmps27 rfl hs ?_
  refine .seq ?_
  refine .region ?_
  refine bx (vs := [.int .i64 k.src, .int .i64 k.dst, .int .i64 k.low, .int .i64 k.high]) rfl rfl rfl (fun pk => ?_)
  refine .v (asg rfl) rfl rfl rfl ?_
  refine .nil ?_
  refine .seqN ?_
  refine .seq ?_
  refine .region ?_
  refine .v (fa rfl tF48_1) rfl rfl rfl ?_
  refine .v (ld1 rfl tO3 (cellB (off := 1) (k := 0) rfl rfl)) rfl rfl rfl ?_
  refine .v (fa rfl tF48_1) rfl rfl rfl ?_
  refine .v (ld1 (v := .int .i64 x.dst) rfl tO3 (cellH (CellsAt.mono (FH.le_refl _) _q1 1 _ rfl))) rfl rfl rfl ?_
  refine .v (bi rfl rfl rfl) rfl rfl rfl ?_
  refine .v (asg rfl) rfl rfl rfl ?_
  refine .nil ?_
  refine .seqN ?_
  refine .ret ?_
  refine .res1 rfl (rvT rfl) (fun w' S => ⟨k.dst == x.dst, hF, rfl, S.below⟩)

theorem c_uval1 {h : FH} {w : World} (hs : Sub h w) (k : Link) (x : Link) (px : Addr) (_q1 : CellsAt h px [.int .i64 x.src, .int .i64 x.dst, .int .i64 x.low, .int .i64 x.high]) : Calls Try.prog 27 #[.agg #[.int .i64 k.src, .int .i64 k.dst, .int .i64 k.low, .int .i64 k.high], .pointer (some px)] w fun e w' => e = .returned (.bool (sp_uval1 k x)) ∧ Below w.heap.size w w' :=
  (w_uval1 hs k x px _q1 (fun r => r = sp_uval1 k x) (ok_uval1 k x)).mono fun _ _ ⟨_, hk, he, hb⟩ => ⟨by rw [he, hk], hb⟩

theorem w_uval2 {h : FH} {w : World} (hs : Sub h w) (k : Link) (x : Link) (px : Addr) (_q1 : CellsAt h px [.int .i64 x.src, .int .i64 x.dst, .int .i64 x.low, .int .i64 x.high]) (K : Bool → Prop) (hF : F_uval2 k x K) : Calls Try.prog 28 #[.agg #[.int .i64 k.src, .int .i64 k.dst, .int .i64 k.low, .int .i64 k.high], .pointer (some px)] w fun e w' => ∃ r : Bool, K r ∧ e = .returned (.bool r) ∧ Below w.heap.size w w' := by
  refine enter (args := [.agg #[.int .i64 k.src, .int .i64 k.dst, .int .i64 k.low, .int .i64 k.high], .pointer (some px)]) Try.func28 rfl Try.ntmps28 rfl hs ?_
  refine .seq ?_
  refine .region ?_
  refine bx (vs := [.int .i64 k.src, .int .i64 k.dst, .int .i64 k.low, .int .i64 k.high]) rfl rfl rfl (fun pk => ?_)
  refine .v (asg rfl) rfl rfl rfl ?_
  refine .nil ?_
  refine .seqN ?_
  refine .seq ?_
  refine .region ?_
  refine .v (fa rfl tF48_1) rfl rfl rfl ?_
  refine .v (ld1 rfl tO3 (cellB (off := 1) (k := 0) rfl rfl)) rfl rfl rfl ?_
  refine .v (fa rfl tF48_0) rfl rfl rfl ?_
  refine .v (ld1 (v := .int .i64 x.src) rfl tO3 (cellH (CellsAt.mono (FH.le_refl _) _q1 0 _ rfl))) rfl rfl rfl ?_
  refine .v (bi rfl rfl rfl) rfl rfl rfl ?_
  refine .v (asg rfl) rfl rfl rfl ?_
  refine .nil ?_
  refine .seqN ?_
  refine .ret ?_
  refine .res1 rfl (rvT rfl) (fun w' S => ⟨k.dst == x.src, hF, rfl, S.below⟩)

theorem c_uval2 {h : FH} {w : World} (hs : Sub h w) (k : Link) (x : Link) (px : Addr) (_q1 : CellsAt h px [.int .i64 x.src, .int .i64 x.dst, .int .i64 x.low, .int .i64 x.high]) : Calls Try.prog 28 #[.agg #[.int .i64 k.src, .int .i64 k.dst, .int .i64 k.low, .int .i64 k.high], .pointer (some px)] w fun e w' => e = .returned (.bool (sp_uval2 k x)) ∧ Below w.heap.size w w' :=
  (w_uval2 hs k x px _q1 (fun r => r = sp_uval2 k x) (ok_uval2 k x)).mono fun _ _ ⟨_, hk, he, hb⟩ => ⟨by rw [he, hk], hb⟩

set_option maxHeartbeats 8000000 in
theorem w_uvalidate {h : FH} {w : World} (hs : Sub h w) (u : Uncertain) (au : Option Addr) (cu : Nat) (_q1 : RSl h au u.network.links) (_q2 : u.network.links.length ≤ cu) (au2 : Option Addr) (cu2 : Nat) (_q3 : RSl h au2 u.contingent) (_q4 : u.contingent.length ≤ cu2) (K : Fault → Prop) (hF : F_uvalidate u K) : Calls Try.prog 11 #[.agg #[.int .i64 u.network.events, .slice au u.network.links.length cu, .slice au2 u.contingent.length cu2]] w fun e w' => ∃ r : Fault, K r ∧ e = .returned (.agg #[.int .i64 r.code, .int .i64 r.index]) ∧ Below w.heap.size w w' := by
  refine enter (args := [.agg #[.int .i64 u.network.events, .slice au u.network.links.length cu, .slice au2 u.contingent.length cu2]]) Try.func11 rfl Try.ntmps11 rfl hs ?_
  refine .seq ?_
  refine .region ?_
  refine bx (vs := [.int .i64 u.network.events, .slice au u.network.links.length cu, .slice au2 u.contingent.length cu2]) rfl rfl rfl (fun pu => ?_)
  refine al tZ28 rfl (fun pv => ?_)
  refine .nil ?_
  refine .seqN ?_
  refine .seq ?_
  refine .seq ?_
  refine .region ?_
  refine .v (fa rfl tF26_0) rfl rfl rfl ?_
  refine .v (ldA (cs := [.int .i64 u.network.events, .slice au u.network.links.length cu]) rfl tA24 rfl (cellsB (off := 0) (k := 1) rfl (m := 2) rfl)) rfl rfl rfl ?_
  obtain ⟨r2, q5⟩ : ∃ y_ : Fault, y_ = sp_validate u.network := ⟨_, rfl⟩
  replace hF := hF r2 q5
  refine .c (cl (v := .agg #[.int .i64 r2.code, .int .i64 r2.index]) Try.call24 rfl rfl (fun w S => (by rw [q5]; exact c_validate S.sub u.network au cu _q1 _q2 ))) rfl rfl rfl ?_
  refine al tZ28 rfl (fun pf => ?_)
  refine st (p := pf) (off := 0) (k := 0) (vs := [.int .i64 r2.code, .int .i64 r2.index]) rfl rfl rfl (fun w => (tA28 w).2) rfl rfl rfl rfl ?_
  refine .cast (A' := [Box pf [.int .i64 r2.code, .int .i64 r2.index], Box pv [.int .i64 0, .int .i64 0], Box pu [.int .i64 u.network.events, .slice au u.network.links.length cu, .slice au2 u.contingent.length cu2]]) rfl ?_
  refine .nil ?_
  refine .seqN ?_
  refine .seq ?_
  refine .region ?_
  refine .v (ldA (cs := [.int .i64 r2.code, .int .i64 r2.index]) rfl tA28 rfl (cellsB (off := 0) (k := 0) rfl (m := 2) rfl)) rfl rfl rfl ?_
  refine .v (bld (cs := #[.int .i64 0, .int .i64 0]) (pv := []) tB28 rfl rfl) rfl rfl rfl ?_
  refine .v (ne2 tE28 rfl rfl) rfl rfl rfl ?_
  refine .nil ?_
  refine .seqN ?_
  refine .cond rfl (fun q7 => ?_) (fun q7 => ?_)
  · replace hF := hF.1 q7
    refine .seq ?_
    refine .region ?_
    refine .v (ldA (cs := [.int .i64 r2.code, .int .i64 r2.index]) rfl tA28 rfl (cellsB (off := 0) (k := 0) rfl (m := 2) rfl)) rfl rfl rfl ?_
    refine st (p := pv) (off := 0) (k := 1) (vs := [.int .i64 r2.code, .int .i64 r2.index]) rfl rfl rfl (fun w => (tA28 w).2) rfl rfl rfl rfl ?_
    refine .cast (A' := [Box pf [.int .i64 r2.code, .int .i64 r2.index], Box pv [.int .i64 r2.code, .int .i64 r2.index], Box pu [.int .i64 u.network.events, .slice au u.network.links.length cu, .slice au2 u.contingent.length cu2]]) rfl ?_
    refine .nil ?_
    refine .seqN ?_
    refine .ret ?_
    refine .seqR ?_
    refine .res1 rfl (rvC rfl tA28 (k := 1) rfl rfl) (fun w' S => ⟨r2, hF, rfl, S.below⟩)
  replace hF := hF.2 q7
  refine .skip ?_
  refine .seqN ?_
  refine .seq ?_
  refine .seq ?_
  refine .region ?_
  refine .v (fa rfl tF26_1) rfl rfl rfl ?_
  refine .v (ld1 rfl tO22 (cellB (off := 2) (k := 2) rfl rfl)) rfl rfl rfl ?_
  refine .v (ln rfl tS22.is) rfl rfl rfl ?_
  refine .v (bi rfl rfl rfl) rfl rfl rfl ?_
  refine .nil ?_
  refine .seqN ?_
  refine .cond rfl (fun q9 => ?_) (fun q9 => ?_)
  · replace hF := hF.1 q9
    refine .seq ?_
    refine .region ?_
    refine .v (bld (cs := #[.int .i64 2, .int .i64 (-2)]) (pv := [(0, .int .i64 2), (1, .int .i64 (-2))]) tB28 rfl rfl) rfl rfl rfl ?_
    refine st (p := pv) (off := 0) (k := 1) (vs := [.int .i64 2, .int .i64 (-2)]) rfl rfl rfl (fun w => (tA28 w).2) rfl rfl rfl rfl ?_
    refine .cast (A' := [Box pf [.int .i64 r2.code, .int .i64 r2.index], Box pv [.int .i64 2, .int .i64 (-2)], Box pu [.int .i64 u.network.events, .slice au u.network.links.length cu, .slice au2 u.contingent.length cu2]]) rfl ?_
    refine .nil ?_
    refine .seqN ?_
    refine .ret ?_
    refine .seqR ?_
    refine .res1 rfl (rvC rfl tA28 (k := 1) rfl rfl) (fun w' S => ⟨(⟨2, (-2)⟩ : Fault), hF, rfl, S.below⟩)
  replace hF := hF.2 q9
  refine .skip ?_
  refine .seqN ?_
  refine .seq ?_
  refine .seq ?_
  refine .region ?_
  refine .v (fa rfl tF26_1) rfl rfl rfl ?_
  refine .v (ld1 rfl tO22 (cellB (off := 2) (k := 2) rfl rfl)) rfl rfl rfl ?_
  refine .v (ln rfl tS22.is) rfl rfl rfl ?_
  refine .v (mv rfl) rfl rfl rfl ?_
  refine .nil ?_
  refine .seqN ?_
  refine .block ?_
  refine .sel0 [2, 1] (by decide) rfl ?_
  obtain ⟨I1, μ1, q267, q268⟩ := hF
  refine .loop' (σ := Int) (fun z => I1 z) (fun z => μ1 z) (fun z => [(1, .pointer (some pu)), (2, .pointer (some pv)), (22, .slice au2 u.contingent.length cu2), (23, .int .i64 ((u.contingent.length : Nat) : Int)), (24, .int .i64 z)]) (fun _ => [Box pu [.int .i64 u.network.events, .slice au u.network.links.length cu, .slice au2 u.contingent.length cu2], Box pv [.int .i64 0, .int .i64 0]]) (fun _ => h) 0 q267 (.cons rfl (.cons rfl (.cons rfl (.cons rfl (.cons rfl (.nil)))))) rfl (FH.le_refl _) ?_
  rintro t24 q267
  have hF := q268 t24 q267
  show J _ _ _ _ _ [(1, .pointer (some pu)), (2, .pointer (some pv)), (22, .slice au2 u.contingent.length cu2), (23, .int .i64 ((u.contingent.length : Nat) : Int)), (24, .int .i64 t24)] [Box pu [.int .i64 u.network.events, .slice au u.network.links.length cu, .slice au2 u.contingent.length cu2], Box pv [.int .i64 0, .int .i64 0]] h
  refine .seq ?_
  refine .region ?_
  refine .v (bi rfl rfl rfl) rfl rfl rfl ?_
  refine .nil ?_
  refine .seqN ?_
  refine .seq ?_
  refine .cond rfl (fun q271 => ?_) (fun q271 => ?_)
  · replace hF := hF.1 q271
    refine .skip ?_
    refine .seqN ?_
    refine .seq ?_
    refine .block ?_
    refine .seq ?_
    refine .region ?_
    refine .v (mv rfl) rfl rfl rfl ?_
    obtain ⟨q304, hF⟩ := hF
    refine .v (ix rfl rfl tS22 (_q3.ne (by decide) (inb_pos q304)) q304) rfl rfl rfl ?_
    refine .v (ldA (cs := [.int .i64 ((gt u.contingent t24).src), .int .i64 ((gt u.contingent t24).dst), .int .i64 ((gt u.contingent t24).low), .int .i64 ((gt u.contingent t24).high)]) rfl tA48 rfl (cellsH (_q3.elemF q304 (by decide)))) rfl rfl rfl ?_
    refine al tZ48 rfl (fun pl => ?_)
    refine .v (asg rfl) rfl rfl rfl ?_
    refine st (p := pl) (off := 0) (k := 0) (vs := [.int .i64 ((gt u.contingent t24).src), .int .i64 ((gt u.contingent t24).dst), .int .i64 ((gt u.contingent t24).low), .int .i64 ((gt u.contingent t24).high)]) rfl rfl rfl (fun w => (tA48 w).2) rfl rfl rfl rfl ?_
    refine .cast (A' := [Box pl [.int .i64 ((gt u.contingent t24).src), .int .i64 ((gt u.contingent t24).dst), .int .i64 ((gt u.contingent t24).low), .int .i64 ((gt u.contingent t24).high)], Box pu [.int .i64 u.network.events, .slice au u.network.links.length cu, .slice au2 u.contingent.length cu2], Box pv [.int .i64 0, .int .i64 0]]) rfl ?_
    refine .nil ?_
    refine .seqN ?_
    refine .seq ?_
    refine .region ?_
    refine .v (ldA (cs := [.int .i64 ((gt u.contingent t24).src), .int .i64 ((gt u.contingent t24).dst), .int .i64 ((gt u.contingent t24).low), .int .i64 ((gt u.contingent t24).high)]) rfl tA48 rfl (cellsB (off := 0) (k := 0) rfl (m := 4) rfl)) rfl rfl rfl ?_
    refine .v (fa rfl tF26_0) rfl rfl rfl ?_
    refine .v (faa (p := pu) (o1 := 0) rfl tF24_0 rfl) rfl rfl rfl ?_
    refine .v (ld1 rfl tO3 (cellB (off := 0) (k := 1) rfl rfl)) rfl rfl rfl ?_
    obtain ⟨r3, q305⟩ : ∃ y_ : Int, y_ = sp_linkCode (gt u.contingent t24) u.network.events := ⟨_, rfl⟩
    replace hF := hF r3 q305
    refine .c (cl (v := .int .i64 r3) Try.call25 rfl rfl (fun w S => (by rw [q305]; exact c_linkCode S.sub (gt u.contingent t24) u.network.events ))) rfl rfl rfl ?_
    refine .v (asg rfl) rfl rfl rfl ?_
    refine .nil ?_
    refine .seqN ?_
    refine .seq ?_
    refine .share (σ := Bool) (fun z => F_uvalidate_J1 u K r3 z t24 I1 μ1) (fun z => [(1, .pointer (some pu)), (2, .pointer (some pv)), (4, .int .i64 t24), (5, .pointer (some pl)), (6, .int .i64 r3), (22, .slice au2 u.contingent.length cu2), (23, .int .i64 ((u.contingent.length : Nat) : Int)), (24, .int .i64 t24), (45, .bool z)]) (fun _ => [Box pu [.int .i64 u.network.events, .slice au u.network.links.length cu, .slice au2 u.contingent.length cu2], Box pv [.int .i64 0, .int .i64 0], Box pl [.int .i64 ((gt u.contingent t24).src), .int .i64 ((gt u.contingent t24).dst), .int .i64 ((gt u.contingent t24).low), .int .i64 ((gt u.contingent t24).high)]]) (fun _ => h) ?_ (fun q308 => ?_)
    · rintro t45 hF
      show J _ _ _ _ _ [(1, .pointer (some pu)), (2, .pointer (some pv)), (4, .int .i64 t24), (5, .pointer (some pl)), (6, .int .i64 r3), (22, .slice au2 u.contingent.length cu2), (23, .int .i64 ((u.contingent.length : Nat) : Int)), (24, .int .i64 t24), (45, .bool t45)] [Box pu [.int .i64 u.network.events, .slice au u.network.links.length cu, .slice au2 u.contingent.length cu2], Box pv [.int .i64 0, .int .i64 0], Box pl [.int .i64 ((gt u.contingent t24).src), .int .i64 ((gt u.contingent t24).dst), .int .i64 ((gt u.contingent t24).low), .int .i64 ((gt u.contingent t24).high)]] h
      refine .shareT (σ := Int) (fun z => F_uvalidate_J2 u K z t24 I1 μ1) (fun z => [(1, .pointer (some pu)), (2, .pointer (some pv)), (4, .int .i64 t24), (5, .pointer (some pl)), (6, .int .i64 z), (22, .slice au2 u.contingent.length cu2), (23, .int .i64 ((u.contingent.length : Nat) : Int)), (24, .int .i64 t24)]) (fun _ => [Box pu [.int .i64 u.network.events, .slice au u.network.links.length cu, .slice au2 u.contingent.length cu2], Box pv [.int .i64 0, .int .i64 0], Box pl [.int .i64 ((gt u.contingent t24).src), .int .i64 ((gt u.contingent t24).dst), .int .i64 ((gt u.contingent t24).low), .int .i64 ((gt u.contingent t24).high)]]) (fun _ => h) ?_ (fun q310 => ?_)
      · rintro e_ hF
        show J _ _ _ _ _ [(1, .pointer (some pu)), (2, .pointer (some pv)), (4, .int .i64 t24), (5, .pointer (some pl)), (6, .int .i64 e_), (22, .slice au2 u.contingent.length cu2), (23, .int .i64 ((u.contingent.length : Nat) : Int)), (24, .int .i64 t24)] [Box pu [.int .i64 u.network.events, .slice au u.network.links.length cu, .slice au2 u.contingent.length cu2], Box pv [.int .i64 0, .int .i64 0], Box pl [.int .i64 ((gt u.contingent t24).src), .int .i64 ((gt u.contingent t24).dst), .int .i64 ((gt u.contingent t24).low), .int .i64 ((gt u.contingent t24).high)]] h
        refine .seq ?_
        refine .seq ?_
        refine .region ?_
        refine .v (mv rfl) rfl rfl rfl ?_
        refine .v (bi rfl rfl rfl) rfl rfl rfl ?_
        refine .nil ?_
        refine .seqN ?_
        refine .cond rfl (fun q312 => ?_) (fun q312 => ?_)
        · replace hF := hF.1 q312
          refine .seq ?_
          refine .region ?_
          refine .v (mv rfl) rfl rfl rfl ?_
          refine .v (mv rfl) rfl rfl rfl ?_
          refine .v (bi rfl rfl rfl) rfl rfl rfl ?_
          refine .v (bld (cs := #[.int .i64 e_, .int .i64 (IntKind.i64.wrap ((-3) - t24))]) (pv := [(0, .int .i64 e_), (1, .int .i64 (IntKind.i64.wrap ((-3) - t24)))]) tB28 rfl rfl) rfl rfl rfl ?_
          refine st (p := pv) (off := 0) (k := 1) (vs := [.int .i64 e_, .int .i64 (IntKind.i64.wrap ((-3) - t24))]) rfl rfl rfl (fun w => (tA28 w).2) rfl rfl rfl rfl ?_
          refine .cast (A' := [Box pu [.int .i64 u.network.events, .slice au u.network.links.length cu, .slice au2 u.contingent.length cu2], Box pv [.int .i64 e_, .int .i64 (IntKind.i64.wrap ((-3) - t24))], Box pl [.int .i64 ((gt u.contingent t24).src), .int .i64 ((gt u.contingent t24).dst), .int .i64 ((gt u.contingent t24).low), .int .i64 ((gt u.contingent t24).high)]]) rfl ?_
          refine .nil ?_
          refine .seqN ?_
          refine .ret ?_
          refine .seqR ?_
          refine .blkR ?_
          refine .seqR ?_
          refine .seqR ?_
          refine .blkR ?_
          refine .seqR ?_
          refine .res1 rfl (rvC rfl tA28 (k := 1) rfl rfl) (fun w' S => ⟨(⟨e_, IntKind.i64.wrap ((-3) - t24)⟩ : Fault), hF, rfl, S.below⟩)
        replace hF := hF.2 q312
        refine .skip ?_
        refine .seqN ?_
        refine .seq ?_
        refine .region ?_
        refine .v (fa rfl tF26_1) rfl rfl rfl ?_
        refine .v (ld1 rfl tO22 (cellB (off := 2) (k := 0) rfl rfl)) rfl rfl rfl ?_
        refine .v (mv rfl) rfl rfl rfl ?_
        obtain ⟨q313, hF⟩ := hF
        refine .v (slH tS22 rfl rfl q313.1 (take_len q313).symm (take_cap _q4)) rfl rfl rfl ?_
        refine .v (mkf (vf := []) (vc := [.pointer (some pl)]) rfl rfl) rfl rfl rfl ?_
        obtain ⟨q314, hF⟩ := hF
        obtain ⟨r4, q315⟩ : ∃ y_ : Bool, y_ = sp_any (u.contingent.take (t24).toNat) (fun y_ : Link => sp_uval1 y_ (gt u.contingent t24)) (fun _ : Link => True) := ⟨_, rfl⟩
        replace hF := hF r4 q315
        refine .c (cl (v := .bool r4) Try.call26 rfl rfl (fun w S => (by rw [q315]; obtain ⟨h_, hl_, hs_, hb_⟩ := lookB S (k := 2) rfl; exact c_containsL hs_ (u.contingent.take (t24).toNat) au2 cu2 (RSl.mono hl_ (RSl.take_ _q3)) (take_cap _q4) (fun y_ : Link => sp_uval1 y_ (gt u.contingent t24)) (fun _ : Link => True) 27 #[] #[.pointer (some pl)] Try.call27 (fun x w' hD hs' => c_uval1 hs' x (gt u.contingent t24) pl hb_) q314))) rfl rfl rfl ?_
        refine .nil ?_
        refine .seqN ?_
        refine .cond rfl (fun q316 => ?_) (fun q316 => ?_)
        · replace hF := hF.1 q316
          refine .seq ?_
          refine .region ?_
          refine .v (mv rfl) rfl rfl rfl ?_
          refine .v (bi rfl rfl rfl) rfl rfl rfl ?_
          refine .v (bld (cs := #[.int .i64 7, .int .i64 (IntKind.i64.wrap ((-3) - t24))]) (pv := [(0, .int .i64 7), (1, .int .i64 (IntKind.i64.wrap ((-3) - t24)))]) tB28 rfl rfl) rfl rfl rfl ?_
          refine st (p := pv) (off := 0) (k := 1) (vs := [.int .i64 7, .int .i64 (IntKind.i64.wrap ((-3) - t24))]) rfl rfl rfl (fun w => (tA28 w).2) rfl rfl rfl rfl ?_
          refine .cast (A' := [Box pu [.int .i64 u.network.events, .slice au u.network.links.length cu, .slice au2 u.contingent.length cu2], Box pv [.int .i64 7, .int .i64 (IntKind.i64.wrap ((-3) - t24))], Box pl [.int .i64 ((gt u.contingent t24).src), .int .i64 ((gt u.contingent t24).dst), .int .i64 ((gt u.contingent t24).low), .int .i64 ((gt u.contingent t24).high)]]) rfl ?_
          refine .nil ?_
          refine .seqN ?_
          refine .ret ?_
          refine .blkR ?_
          refine .seqR ?_
          refine .seqR ?_
          refine .blkR ?_
          refine .seqR ?_
          refine .res1 rfl (rvC rfl tA28 (k := 1) rfl rfl) (fun w' S => ⟨(⟨7, IntKind.i64.wrap ((-3) - t24)⟩ : Fault), hF, rfl, S.below⟩)
        replace hF := hF.2 q316
        refine .skip ?_
        refine .blkN ?_
        refine .seqN ?_
        refine .region ?_
        refine .v (bi rfl rfl rfl) rfl rfl rfl ?_
        refine .v (mv rfl) rfl rfl rfl ?_
        refine .nil ?_
        refine .sel0 [0, 1] (by decide) rfl ?_
        exact .round (IntKind.i64.wrap (t24 + 1)) hF.1 hF.2 (.cons rfl (.cons rfl (.cons rfl (.cons rfl (.cons rfl (.nil)))))) rfl (FH.le_refl _)
      refine .cond rfl (fun q317 => ?_) (fun q317 => ?_)
      · replace hF := hF.1 q317
        refine .region ?_
        refine .v (asg rfl) rfl rfl rfl ?_
        refine .nil ?_
        exact .use q310 5 hF (.cons rfl (.cons rfl (.cons rfl (.cons rfl (.cons rfl (.cons rfl (.cons rfl (.cons rfl (.nil))))))))) rfl (FH.le_refl _)
      replace hF := hF.2 q317
      refine .skip ?_
      exact .use q310 r3 hF (.cons rfl (.cons rfl (.cons rfl (.cons rfl (.cons rfl (.cons rfl (.cons rfl (.cons rfl (.nil))))))))) rfl (FH.le_refl _)
    refine .region ?_
    refine .v (mv rfl) rfl rfl rfl ?_
    refine .v (bi rfl rfl rfl) rfl rfl rfl ?_
    refine .v (mv rfl) rfl rfl rfl ?_
    rcases Bool.eq_false_or_eq_true (r3 == 0) with q318 | q318
    · replace hF := hF.1 q318
      refine .gv (fa rfl tF48_2) rfl rfl rfl q318 rfl rfl ?_
      refine .gv (ld1 rfl tO3 (cellB (off := 2) (k := 0) rfl rfl)) rfl rfl rfl q318 rfl rfl ?_
      refine .gv (bi rfl rfl rfl) rfl rfl rfl q318 rfl rfl ?_
      refine .gv (mv rfl) rfl rfl rfl q318 rfl rfl ?_
      rcases Bool.eq_false_or_eq_true (decide (((gt u.contingent t24).low) < 1)) with q319 | q319
      · replace hF := hF.1 q319
        refine .gS rfl rfl rfl q319 rfl rfl ?_
        refine .gS rfl rfl rfl q319 rfl rfl ?_
        refine .gS rfl rfl rfl q319 rfl rfl ?_
        refine .gv (pkT rfl q319 rfl) rfl rfl rfl q318 rfl rfl ?_
        refine .v (pkT rfl q318 rfl) rfl rfl rfl ?_
        refine .nil ?_
        refine .sel0 [1, 2, 0] (by decide) rfl ?_
        exact .use q308 true hF (.cons rfl (.cons rfl (.cons rfl (.cons rfl (.cons rfl (.cons rfl (.cons rfl (.cons rfl (.cons rfl (.nil)))))))))) rfl (FH.le_refl _)
      replace hF := hF.2 q319
      refine .gv (fa rfl tF48_1) rfl rfl rfl q319 rfl rfl ?_
      refine .gv (ld1 rfl tO3 (cellB (off := 1) (k := 0) rfl rfl)) rfl rfl rfl q319 rfl rfl ?_
      refine .gv (bi rfl rfl rfl) rfl rfl rfl q319 rfl rfl ?_
      refine .gv (pkF rfl q319 rfl) rfl rfl rfl q318 rfl rfl ?_
      refine .v (pkT rfl q318 rfl) rfl rfl rfl ?_
      refine .nil ?_
      refine .sel0 [1, 2, 0] (by decide) rfl ?_
      exact .use q308 (((gt u.contingent t24).dst) == 0) hF (.cons rfl (.cons rfl (.cons rfl (.cons rfl (.cons rfl (.cons rfl (.cons rfl (.cons rfl (.cons rfl (.nil)))))))))) rfl (FH.le_refl _)
    replace hF := hF.2 q318
    refine .gS rfl rfl rfl q318 rfl rfl ?_
    refine .gS rfl rfl rfl q318 rfl rfl ?_
    refine .gS rfl rfl rfl q318 rfl rfl ?_
    refine .gS rfl rfl rfl q318 rfl rfl ?_
    refine .gU rfl rfl rfl rfl rfl ?_
    refine .gU rfl rfl rfl rfl rfl ?_
    refine .gU rfl rfl rfl rfl rfl ?_
    refine .gS rfl rfl rfl q318 rfl rfl ?_
    refine .v (pkF rfl q318 rfl) rfl rfl rfl ?_
    refine .nil ?_
    refine .sel0 [1, 2, 0] (by decide) rfl ?_
    exact .use q308 false hF (.cons rfl (.cons rfl (.cons rfl (.cons rfl (.cons rfl (.cons rfl (.cons rfl (.cons rfl (.cons rfl (.nil)))))))))) rfl (FH.le_refl _)
  replace hF := hF.2 q271
  refine .exit ?_
  refine .seqX ?_
  refine .seqX ?_
  refine .blkX ?_
  refine .seqN ?_
  refine .seq ?_
  refine .seq ?_
  refine .region ?_
  refine .v (fa rfl tF26_1) rfl rfl rfl ?_
  refine .v (ld1 rfl tO22 (cellB (off := 2) (k := 0) rfl rfl)) rfl rfl rfl ?_
  refine .v (ln rfl tS22.is) rfl rfl rfl ?_
  refine .v (mv rfl) rfl rfl rfl ?_
  refine .nil ?_
  refine .seqN ?_
  refine .block ?_
  obtain ⟨I2, μ2, q397, q398⟩ := hF
  refine .loop' (σ := Int) (fun z => I2 z) (fun z => μ2 z) (fun z => [(1, .pointer (some pu)), (2, .pointer (some pv)), (63, .slice au2 u.contingent.length cu2), (64, .int .i64 ((u.contingent.length : Nat) : Int)), (65, .int .i64 z)]) (fun _ => [Box pu [.int .i64 u.network.events, .slice au u.network.links.length cu, .slice au2 u.contingent.length cu2], Box pv [.int .i64 0, .int .i64 0]]) (fun _ => h) 0 q397 (.cons rfl (.cons rfl (.cons rfl (.cons rfl (.cons rfl (.nil)))))) rfl (FH.le_refl _) ?_
  rintro t65 q397
  have hF := q398 t65 q397
  show J _ _ _ _ _ [(1, .pointer (some pu)), (2, .pointer (some pv)), (63, .slice au2 u.contingent.length cu2), (64, .int .i64 ((u.contingent.length : Nat) : Int)), (65, .int .i64 t65)] [Box pu [.int .i64 u.network.events, .slice au u.network.links.length cu, .slice au2 u.contingent.length cu2], Box pv [.int .i64 0, .int .i64 0]] h
  refine .seq ?_
  refine .region ?_
  refine .v (bi rfl rfl rfl) rfl rfl rfl ?_
  refine .nil ?_
  refine .seqN ?_
  refine .seq ?_
  refine .cond rfl (fun q401 => ?_) (fun q401 => ?_)
  · replace hF := hF.1 q401
    refine .skip ?_
    refine .seqN ?_
    refine .seq ?_
    refine .block ?_
    refine .seq ?_
    refine .region ?_
    refine .v (mv rfl) rfl rfl rfl ?_
    obtain ⟨q410, hF⟩ := hF
    refine .v (ix rfl rfl tS22 (_q3.ne (by decide) (inb_pos q410)) q410) rfl rfl rfl ?_
    refine .v (ldA (cs := [.int .i64 ((gt u.contingent t65).src), .int .i64 ((gt u.contingent t65).dst), .int .i64 ((gt u.contingent t65).low), .int .i64 ((gt u.contingent t65).high)]) rfl tA48 rfl (cellsH (_q3.elemF q410 (by decide)))) rfl rfl rfl ?_
    refine al tZ48 rfl (fun pl2 => ?_)
    refine .v (asg rfl) rfl rfl rfl ?_
    refine st (p := pl2) (off := 0) (k := 0) (vs := [.int .i64 ((gt u.contingent t65).src), .int .i64 ((gt u.contingent t65).dst), .int .i64 ((gt u.contingent t65).low), .int .i64 ((gt u.contingent t65).high)]) rfl rfl rfl (fun w => (tA48 w).2) rfl rfl rfl rfl ?_
    refine .cast (A' := [Box pl2 [.int .i64 ((gt u.contingent t65).src), .int .i64 ((gt u.contingent t65).dst), .int .i64 ((gt u.contingent t65).low), .int .i64 ((gt u.contingent t65).high)], Box pu [.int .i64 u.network.events, .slice au u.network.links.length cu, .slice au2 u.contingent.length cu2], Box pv [.int .i64 0, .int .i64 0]]) rfl ?_
    refine .nil ?_
    refine .seqN ?_
    refine .seq ?_
    refine .region ?_
    refine .v (fa rfl tF26_1) rfl rfl rfl ?_
    refine .v (ld1 rfl tO22 (cellB (off := 2) (k := 1) rfl rfl)) rfl rfl rfl ?_
    refine .v (mkf (vf := []) (vc := [.pointer (some pl2)]) rfl rfl) rfl rfl rfl ?_
    obtain ⟨q411, hF⟩ := hF
    obtain ⟨r5, q412⟩ : ∃ y_ : Bool, y_ = sp_any u.contingent (fun y_ : Link => sp_uval2 y_ (gt u.contingent t65)) (fun _ : Link => True) := ⟨_, rfl⟩
    replace hF := hF r5 q412
    refine .c (cl (v := .bool r5) Try.call26 rfl rfl (fun w S => (by rw [q412]; obtain ⟨h_, hl_, hs_, hb_⟩ := lookB S (k := 0) rfl; exact c_containsL hs_ u.contingent au2 cu2 (RSl.mono hl_ _q3) _q4 (fun y_ : Link => sp_uval2 y_ (gt u.contingent t65)) (fun _ : Link => True) 28 #[] #[.pointer (some pl2)] Try.call28 (fun x w' hD hs' => c_uval2 hs' x (gt u.contingent t65) pl2 hb_) q411))) rfl rfl rfl ?_
    refine .nil ?_
    refine .seqN ?_
    refine .cond rfl (fun q413 => ?_) (fun q413 => ?_)
    · replace hF := hF.1 q413
      refine .seq ?_
      refine .region ?_
      refine .v (mv rfl) rfl rfl rfl ?_
      refine .v (bi rfl rfl rfl) rfl rfl rfl ?_
      refine .v (bld (cs := #[.int .i64 8, .int .i64 (IntKind.i64.wrap ((-3) - t65))]) (pv := [(0, .int .i64 8), (1, .int .i64 (IntKind.i64.wrap ((-3) - t65)))]) tB28 rfl rfl) rfl rfl rfl ?_
      refine st (p := pv) (off := 0) (k := 2) (vs := [.int .i64 8, .int .i64 (IntKind.i64.wrap ((-3) - t65))]) rfl rfl rfl (fun w => (tA28 w).2) rfl rfl rfl rfl ?_
      refine .cast (A' := [Box pl2 [.int .i64 ((gt u.contingent t65).src), .int .i64 ((gt u.contingent t65).dst), .int .i64 ((gt u.contingent t65).low), .int .i64 ((gt u.contingent t65).high)], Box pu [.int .i64 u.network.events, .slice au u.network.links.length cu, .slice au2 u.contingent.length cu2], Box pv [.int .i64 8, .int .i64 (IntKind.i64.wrap ((-3) - t65))]]) rfl ?_
      refine .nil ?_
      refine .seqN ?_
      refine .ret ?_
      refine .blkR ?_
      refine .seqR ?_
      refine .seqR ?_
      refine .blkR ?_
      refine .seqR ?_
      refine .res1 rfl (rvC rfl tA28 (k := 2) rfl rfl) (fun w' S => ⟨(⟨8, IntKind.i64.wrap ((-3) - t65)⟩ : Fault), hF, rfl, S.below⟩)
    replace hF := hF.2 q413
    refine .skip ?_
    refine .blkN ?_
    refine .seqN ?_
    refine .region ?_
    refine .v (bi rfl rfl rfl) rfl rfl rfl ?_
    refine .v (mv rfl) rfl rfl rfl ?_
    refine .nil ?_
    refine .sel0 [1, 2] (by decide) rfl ?_
    exact .round (IntKind.i64.wrap (t65 + 1)) hF.1 hF.2 (.cons rfl (.cons rfl (.cons rfl (.cons rfl (.cons rfl (.nil)))))) rfl (FH.le_refl _)
  replace hF := hF.2 q401
  refine .exit ?_
  refine .seqX ?_
  refine .seqX ?_
  refine .blkX ?_
  refine .seqN ?_
  refine .seq ?_
  refine .region ?_
  refine .v (bld (cs := #[.int .i64 0, .int .i64 0]) (pv := []) tB28 rfl rfl) rfl rfl rfl ?_
  refine st (p := pv) (off := 0) (k := 1) (vs := [.int .i64 0, .int .i64 0]) rfl rfl rfl (fun w => (tA28 w).2) rfl rfl rfl rfl ?_
  refine .cast (A' := [Box pu [.int .i64 u.network.events, .slice au u.network.links.length cu, .slice au2 u.contingent.length cu2], Box pv [.int .i64 0, .int .i64 0]]) rfl ?_
  refine .nil ?_
  refine .seqN ?_
  refine .ret ?_
  refine .res1 rfl (rvC rfl tA28 (k := 1) rfl rfl) (fun w' S => ⟨(⟨0, 0⟩ : Fault), hF, rfl, S.below⟩)

theorem c_uvalidate {h : FH} {w : World} (hs : Sub h w) (u : Uncertain) (au : Option Addr) (cu : Nat) (_q1 : RSl h au u.network.links) (_q2 : u.network.links.length ≤ cu) (au2 : Option Addr) (cu2 : Nat) (_q3 : RSl h au2 u.contingent) (_q4 : u.contingent.length ≤ cu2) : Calls Try.prog 11 #[.agg #[.int .i64 u.network.events, .slice au u.network.links.length cu, .slice au2 u.contingent.length cu2]] w fun e w' => e = .returned (.agg #[.int .i64 (sp_uvalidate u).code, .int .i64 (sp_uvalidate u).index]) ∧ Below w.heap.size w w' :=
  (w_uvalidate hs u au cu _q1 _q2 au2 cu2 _q3 _q4 (fun r => r = sp_uvalidate u) (ok_uvalidate u)).mono fun _ _ ⟨_, hk, he, hb⟩ => ⟨by rw [he, hk], hb⟩

set_option maxHeartbeats 8000000 in
theorem w_uncertainFault {h : FH} {w : World} (hs : Sub h w) (u : Uncertain) (au : Option Addr) (cu : Nat) (_q1 : RSl h au u.network.links) (_q2 : u.network.links.length ≤ cu) (au2 : Option Addr) (cu2 : Nat) (_q3 : RSl h au2 u.contingent) (_q4 : u.contingent.length ≤ cu2) (K : Fault → Prop) (hF : F_uncertainFault u K) : Calls Try.prog 6 #[.agg #[.int .i64 u.network.events, .slice au u.network.links.length cu, .slice au2 u.contingent.length cu2]] w fun e w' => ∃ r : Fault, K r ∧ e = .returned (.agg #[.int .i64 r.code, .int .i64 r.index]) ∧ Below w.heap.size w w' := by
  refine enter (args := [.agg #[.int .i64 u.network.events, .slice au u.network.links.length cu, .slice au2 u.contingent.length cu2]]) Try.func6 rfl Try.ntmps6 rfl hs ?_
  refine .seq ?_
  refine .region ?_
  refine bx (vs := [.int .i64 u.network.events, .slice au u.network.links.length cu, .slice au2 u.contingent.length cu2]) rfl rfl rfl (fun pu => ?_)
  refine al tZ28 rfl (fun pv => ?_)
  refine .nil ?_
  refine .seqN ?_
  refine .seq ?_
  refine .seq ?_
  refine .region ?_
  refine .v (fa rfl tF26_0) rfl rfl rfl ?_
  refine .v (ldA (cs := [.int .i64 u.network.events, .slice au u.network.links.length cu]) rfl tA24 rfl (cellsB (off := 0) (k := 1) rfl (m := 2) rfl)) rfl rfl rfl ?_
  obtain ⟨r2, q5⟩ : ∃ y_ : Fault, y_ = sp_validate u.network := ⟨_, rfl⟩
  replace hF := hF r2 q5
  refine .c (cl (v := .agg #[.int .i64 r2.code, .int .i64 r2.index]) Try.call15 rfl rfl (fun w S => (by rw [q5]; exact c_networkFault S.sub u.network au cu _q1 _q2 ))) rfl rfl rfl ?_
  refine al tZ28 rfl (fun pf => ?_)
  refine st (p := pf) (off := 0) (k := 0) (vs := [.int .i64 r2.code, .int .i64 r2.index]) rfl rfl rfl (fun w => (tA28 w).2) rfl rfl rfl rfl ?_
  refine .cast (A' := [Box pf [.int .i64 r2.code, .int .i64 r2.index], Box pv [.int .i64 0, .int .i64 0], Box pu [.int .i64 u.network.events, .slice au u.network.links.length cu, .slice au2 u.contingent.length cu2]]) rfl ?_
  refine .nil ?_
  refine .seqN ?_
  refine .seq ?_
  refine .region ?_
  refine .v (fa rfl tF28_0) rfl rfl rfl ?_
  refine .v (ld1 rfl tO3 (cellB (off := 0) (k := 0) rfl rfl)) rfl rfl rfl ?_
  refine .v (bi rfl rfl rfl) rfl rfl rfl ?_
  refine .nil ?_
  refine .seqN ?_
  refine .cond rfl (fun q7 => ?_) (fun q7 => ?_)
  · replace hF := hF.1 q7
    refine .seq ?_
    refine .region ?_
    refine .v (ldA (cs := [.int .i64 r2.code, .int .i64 r2.index]) rfl tA28 rfl (cellsB (off := 0) (k := 0) rfl (m := 2) rfl)) rfl rfl rfl ?_
    refine st (p := pv) (off := 0) (k := 1) (vs := [.int .i64 r2.code, .int .i64 r2.index]) rfl rfl rfl (fun w => (tA28 w).2) rfl rfl rfl rfl ?_
    refine .cast (A' := [Box pf [.int .i64 r2.code, .int .i64 r2.index], Box pv [.int .i64 r2.code, .int .i64 r2.index], Box pu [.int .i64 u.network.events, .slice au u.network.links.length cu, .slice au2 u.contingent.length cu2]]) rfl ?_
    refine .nil ?_
    refine .seqN ?_
    refine .ret ?_
    refine .seqR ?_
    refine .res1 rfl (rvC rfl tA28 (k := 1) rfl rfl) (fun w' S => ⟨r2, hF, rfl, S.below⟩)
  replace hF := hF.2 q7
  refine .skip ?_
  refine .seqN ?_
  refine .seq ?_
  refine .region ?_
  refine .v (fa rfl tF26_1) rfl rfl rfl ?_
  refine .v (ld1 rfl tO22 (cellB (off := 2) (k := 2) rfl rfl)) rfl rfl rfl ?_
  refine .v (asg rfl) rfl rfl rfl ?_
  refine .nil ?_
  refine .seqN ?_
  refine .seq ?_
  refine .seq ?_
  refine .region ?_
  refine .v (mv rfl) rfl rfl rfl ?_
  refine .v (ln rfl tS22.is) rfl rfl rfl ?_
  refine .v (bi rfl rfl rfl) rfl rfl rfl ?_
  refine .nil ?_
  refine .seqN ?_
  refine .cond rfl (fun q10 => ?_) (fun q10 => ?_)
  · replace hF := hF.1 q10
    refine .seq ?_
    refine .region ?_
    obtain ⟨r3, q11⟩ : ∃ y_ : Fault, y_ = sp_at_ 2 (-2) := ⟨_, rfl⟩
    replace hF := hF r3 q11
    refine .c (cl (v := .agg #[.int .i64 r3.code, .int .i64 r3.index]) Try.call16 rfl rfl (fun w S => (by rw [q11]; exact c_at_ S.sub 2 (-2) ))) rfl rfl rfl ?_
    refine st (p := pv) (off := 0) (k := 1) (vs := [.int .i64 r3.code, .int .i64 r3.index]) rfl rfl rfl (fun w => (tA28 w).2) rfl rfl rfl rfl ?_
    refine .cast (A' := [Box pf [.int .i64 r2.code, .int .i64 r2.index], Box pv [.int .i64 r3.code, .int .i64 r3.index], Box pu [.int .i64 u.network.events, .slice au u.network.links.length cu, .slice au2 u.contingent.length cu2]]) rfl ?_
    refine .nil ?_
    refine .seqN ?_
    refine .ret ?_
    refine .seqR ?_
    refine .res1 rfl (rvC rfl tA28 (k := 1) rfl rfl) (fun w' S => ⟨r3, hF, rfl, S.below⟩)
  replace hF := hF.2 q10
  refine .skip ?_
  refine .seqN ?_
  refine .seq ?_
  refine .seq ?_
  refine .region ?_
  refine .v (asg rfl) rfl rfl rfl ?_
  refine .nil ?_
  refine .seqN ?_
  refine .block ?_
  refine .sel0 [2, 1] (by decide) rfl ?_
  obtain ⟨I1, μ1, q1629, q1630⟩ := hF
  refine .loop' (σ := Int) (fun z => I1 z) (fun z => μ1 z) (fun z => [(1, .pointer (some pu)), (2, .pointer (some pv)), (4, .slice au2 u.contingent.length cu2), (5, .int .i64 z)]) (fun _ => [Box pu [.int .i64 u.network.events, .slice au u.network.links.length cu, .slice au2 u.contingent.length cu2], Box pv [.int .i64 0, .int .i64 0]]) (fun _ => h) 0 q1629 (.cons rfl (.cons rfl (.cons rfl (.cons rfl (.nil))))) rfl (FH.le_refl _) ?_
  rintro i q1629
  have hF := q1630 i q1629
  show J _ _ _ _ _ [(1, .pointer (some pu)), (2, .pointer (some pv)), (4, .slice au2 u.contingent.length cu2), (5, .int .i64 i)] [Box pu [.int .i64 u.network.events, .slice au u.network.links.length cu, .slice au2 u.contingent.length cu2], Box pv [.int .i64 0, .int .i64 0]] h
  refine .seq ?_
  refine .seq ?_
  refine .region ?_
  refine .v (mv rfl) rfl rfl rfl ?_
  refine .v (mv rfl) rfl rfl rfl ?_
  refine .v (ln rfl tS22.is) rfl rfl rfl ?_
  refine .v (bi rfl rfl rfl) rfl rfl rfl ?_
  refine .nil ?_
  refine .seqN ?_
  refine .cond rfl (fun q1632 => ?_) (fun q1632 => ?_)
  · replace hF := hF.1 q1632
    refine .skip ?_
    refine .seqN ?_
    refine .seq ?_
    refine .block ?_
    refine .seq ?_
    refine .open_ (by kernel_rfl) (by kernel_rfl) ?_
    refine .v (mv rfl) rfl rfl rfl ?_
    refine .v (mv rfl) rfl rfl rfl ?_
    obtain ⟨q1847, hF⟩ := hF
    refine .v (ix rfl rfl tS22 (_q3.ne (by decide) (inb_pos q1847)) q1847) rfl rfl rfl ?_
    refine .v (ldA (cs := [.int .i64 ((gt u.contingent i).src), .int .i64 ((gt u.contingent i).dst), .int .i64 ((gt u.contingent i).low), .int .i64 ((gt u.contingent i).high)]) rfl tA48 rfl (cellsH (_q3.elemF q1847 (by decide)))) rfl rfl rfl ?_
    refine .v (fa rfl tF26_0) rfl rfl rfl ?_
    refine .v (faa (p := pu) (o1 := 0) rfl tF24_0 rfl) rfl rfl rfl ?_
    refine .v (ld1 rfl tO3 (cellB (off := 0) (k := 0) rfl rfl)) rfl rfl rfl ?_
    obtain ⟨q1848, hF⟩ := hF
    obtain ⟨r4, q1849⟩ : ∃ y_ : Int, y_ = sp_linkCode (gt u.contingent i) u.network.events := ⟨_, rfl⟩
    replace hF := hF r4 q1849
    refine .c (cl (v := .int .i64 r4) Try.call17 rfl rfl (fun w S => (by rw [q1849]; exact c_rLinkCode S.sub (gt u.contingent i) u.network.events q1848))) rfl rfl rfl ?_
    refine .v (asg rfl) rfl rfl rfl ?_
    refine .fin ?_
    refine .seqN ?_
    refine .seq ?_
    refine .share (σ := Bool) (fun z => F_uncertainFault_J1 u K r4 z i I1 μ1) (fun z => [(1, .pointer (some pu)), (2, .pointer (some pv)), (4, .slice au2 u.contingent.length cu2), (5, .int .i64 i), (6, .int .i64 r4), (54, .bool z)]) (fun _ => [Box pu [.int .i64 u.network.events, .slice au u.network.links.length cu, .slice au2 u.contingent.length cu2], Box pv [.int .i64 0, .int .i64 0]]) (fun _ => h) ?_ (fun q1852 => ?_)
    · rintro t54 hF
      show J _ _ _ _ _ [(1, .pointer (some pu)), (2, .pointer (some pv)), (4, .slice au2 u.contingent.length cu2), (5, .int .i64 i), (6, .int .i64 r4), (54, .bool t54)] [Box pu [.int .i64 u.network.events, .slice au u.network.links.length cu, .slice au2 u.contingent.length cu2], Box pv [.int .i64 0, .int .i64 0]] h
      refine .shareT (σ := Int) (fun z => F_uncertainFault_J2 u K z i I1 μ1) (fun z => [(1, .pointer (some pu)), (2, .pointer (some pv)), (4, .slice au2 u.contingent.length cu2), (5, .int .i64 i), (6, .int .i64 z)]) (fun _ => [Box pu [.int .i64 u.network.events, .slice au u.network.links.length cu, .slice au2 u.contingent.length cu2], Box pv [.int .i64 0, .int .i64 0]]) (fun _ => h) ?_ (fun q1854 => ?_)
      · rintro e_ hF
        show J _ _ _ _ _ [(1, .pointer (some pu)), (2, .pointer (some pv)), (4, .slice au2 u.contingent.length cu2), (5, .int .i64 i), (6, .int .i64 e_)] [Box pu [.int .i64 u.network.events, .slice au u.network.links.length cu, .slice au2 u.contingent.length cu2], Box pv [.int .i64 0, .int .i64 0]] h
        refine .seq ?_
        refine .seq ?_
        refine .region ?_
        refine .v (asg rfl) rfl rfl rfl ?_
        refine .nil ?_
        refine .seqN ?_
        refine .block ?_
        obtain ⟨I2, μ2, q1932, q1933⟩ := hF
        refine .loop' (σ := Int × Int) (fun z => I2 z.1 z.2) (fun z => μ2 z.1 z.2) (fun z => [(1, .pointer (some pu)), (2, .pointer (some pv)), (4, .slice au2 u.contingent.length cu2), (5, .int .i64 i), (6, .int .i64 z.1), (7, .int .i64 z.2)]) (fun _ => [Box pu [.int .i64 u.network.events, .slice au u.network.links.length cu, .slice au2 u.contingent.length cu2], Box pv [.int .i64 0, .int .i64 0]]) (fun _ => h) (e_, 0) q1932 (.cons rfl (.cons rfl (.cons rfl (.cons rfl (.cons rfl (.cons rfl (.nil))))))) rfl (FH.le_refl _) ?_
        rintro ⟨e_2, k⟩ q1932
        have hF := q1933 e_2 k q1932
        show J _ _ _ _ _ [(1, .pointer (some pu)), (2, .pointer (some pv)), (4, .slice au2 u.contingent.length cu2), (5, .int .i64 i), (6, .int .i64 e_2), (7, .int .i64 k)] [Box pu [.int .i64 u.network.events, .slice au u.network.links.length cu, .slice au2 u.contingent.length cu2], Box pv [.int .i64 0, .int .i64 0]] h
        refine .seq ?_
        refine .seq ?_
        refine .region ?_
        refine .v (mv rfl) rfl rfl rfl ?_
        refine .v (mv rfl) rfl rfl rfl ?_
        refine .v (bi rfl rfl rfl) rfl rfl rfl ?_
        refine .nil ?_
        refine .seqN ?_
        refine .cond rfl (fun q1935 => ?_) (fun q1935 => ?_)
        · replace hF := hF.1 q1935
          refine .skip ?_
          refine .seqN ?_
          refine .share (σ := Int) (fun z => F_uncertainFault_J3 e_2 k I2 μ2 z) (fun z => [(1, .pointer (some pu)), (2, .pointer (some pv)), (4, .slice au2 u.contingent.length cu2), (5, .int .i64 i), (6, .int .i64 z), (7, .int .i64 k)]) (fun _ => [Box pu [.int .i64 u.network.events, .slice au u.network.links.length cu, .slice au2 u.contingent.length cu2], Box pv [.int .i64 0, .int .i64 0]]) (fun _ => h) ?_ (fun q1942 => ?_)
          · rintro e_4 hF
            show J _ _ _ _ _ [(1, .pointer (some pu)), (2, .pointer (some pv)), (4, .slice au2 u.contingent.length cu2), (5, .int .i64 i), (6, .int .i64 e_4), (7, .int .i64 k)] [Box pu [.int .i64 u.network.events, .slice au u.network.links.length cu, .slice au2 u.contingent.length cu2], Box pv [.int .i64 0, .int .i64 0]] h
            refine .region ?_
            refine .v (mv rfl) rfl rfl rfl ?_
            refine .v (bi rfl rfl rfl) rfl rfl rfl ?_
            refine .v (asg rfl) rfl rfl rfl ?_
            refine .nil ?_
            exact .round (e_4, IntKind.i64.wrap (k + 1)) hF.1 hF.2 (.cons rfl (.cons rfl (.cons rfl (.cons rfl (.cons rfl (.cons rfl (.nil))))))) rfl (FH.le_refl _)
          refine .block ?_
          refine .share (σ := Bool) (fun z => F_uncertainFault_J4 z e_2 k I2 μ2) (fun z => [(1, .pointer (some pu)), (2, .pointer (some pv)), (4, .slice au2 u.contingent.length cu2), (5, .int .i64 i), (6, .int .i64 e_2), (7, .int .i64 k), (74, .bool z)]) (fun _ => [Box pu [.int .i64 u.network.events, .slice au u.network.links.length cu, .slice au2 u.contingent.length cu2], Box pv [.int .i64 0, .int .i64 0]]) (fun _ => h) ?_ (fun q1945 => ?_)
          · rintro t74 hF
            show J _ _ _ _ _ [(1, .pointer (some pu)), (2, .pointer (some pv)), (4, .slice au2 u.contingent.length cu2), (5, .int .i64 i), (6, .int .i64 e_2), (7, .int .i64 k), (74, .bool t74)] [Box pu [.int .i64 u.network.events, .slice au u.network.links.length cu, .slice au2 u.contingent.length cu2], Box pv [.int .i64 0, .int .i64 0]] h
            refine .cond rfl (fun q1946 => ?_) (fun q1946 => ?_)
            · replace hF := hF.1 q1946
              refine .region ?_
              refine .v (asg rfl) rfl rfl rfl ?_
              refine .nil ?_
              refine .blkN ?_
              exact .use q1942 7 hF (.cons rfl (.cons rfl (.cons rfl (.cons rfl (.cons rfl (.cons rfl (.nil))))))) rfl (FH.le_refl _)
            replace hF := hF.2 q1946
            refine .skip ?_
            refine .blkN ?_
            exact .use q1942 e_2 hF (.cons rfl (.cons rfl (.cons rfl (.cons rfl (.cons rfl (.cons rfl (.nil))))))) rfl (FH.le_refl _)
          refine .open_ (by kernel_rfl) (by kernel_rfl) ?_
          refine .v (mv rfl) rfl rfl rfl ?_
          refine .v (bi rfl rfl rfl) rfl rfl rfl ?_
          refine .v (mv rfl) rfl rfl rfl ?_
          rcases Bool.eq_false_or_eq_true (e_2 == 0) with q1947 | q1947
          · replace hF := hF.1 q1947
            refine .gv (mv rfl) rfl rfl rfl q1947 rfl rfl ?_
            refine .gv (mv rfl) rfl rfl rfl q1947 rfl rfl ?_
            obtain ⟨q1948, hF⟩ := hF
            refine .gv (ix rfl rfl tS22 (_q3.ne (by decide) (inb_pos q1948)) q1948) rfl rfl rfl q1947 rfl rfl ?_
            refine .gv (fa rfl tF48_1) rfl rfl rfl q1947 rfl rfl ?_
            refine .gv (ld1 (v := .int .i64 ((gt u.contingent k).dst)) rfl tO3 (cellH (_q3.elemF q1948 (by decide) 1 _ rfl))) rfl rfl rfl q1947 rfl rfl ?_
            refine .gv (mv rfl) rfl rfl rfl q1947 rfl rfl ?_
            refine .gv (mv rfl) rfl rfl rfl q1947 rfl rfl ?_
            refine .gv (ix rfl rfl tS22 (_q3.ne (by decide) (inb_pos q1847)) q1847) rfl rfl rfl q1947 rfl rfl ?_
            refine .gv (fa rfl tF48_1) rfl rfl rfl q1947 rfl rfl ?_
            refine .gv (ld1 (v := .int .i64 ((gt u.contingent i).dst)) rfl tO3 (cellH (_q3.elemF q1847 (by decide) 1 _ rfl))) rfl rfl rfl q1947 rfl rfl ?_
            refine .gv (bi rfl rfl rfl) rfl rfl rfl q1947 rfl rfl ?_
            refine .v (pkT rfl q1947 rfl) rfl rfl rfl ?_
            refine .fin ?_
            exact .use q1945 (((gt u.contingent k).dst) == ((gt u.contingent i).dst)) hF (.cons rfl (.cons rfl (.cons rfl (.cons rfl (.cons rfl (.cons rfl (.cons rfl (.nil)))))))) rfl (FH.le_refl _)
          replace hF := hF.2 q1947
          refine .gS rfl rfl rfl q1947 rfl rfl ?_
          refine .gS rfl rfl rfl q1947 rfl rfl ?_
          refine .gS rfl rfl rfl q1947 rfl rfl ?_
          refine .gS rfl rfl rfl q1947 rfl rfl ?_
          refine .gS rfl rfl rfl q1947 rfl rfl ?_
          refine .gS rfl rfl rfl q1947 rfl rfl ?_
          refine .gS rfl rfl rfl q1947 rfl rfl ?_
          refine .gS rfl rfl rfl q1947 rfl rfl ?_
          refine .gS rfl rfl rfl q1947 rfl rfl ?_
          refine .gS rfl rfl rfl q1947 rfl rfl ?_
          refine .gS rfl rfl rfl q1947 rfl rfl ?_
          refine .v (pkF rfl q1947 rfl) rfl rfl rfl ?_
          refine .fin ?_
          exact .use q1945 false hF (.cons rfl (.cons rfl (.cons rfl (.cons rfl (.cons rfl (.cons rfl (.cons rfl (.nil)))))))) rfl (FH.le_refl _)
        replace hF := hF.2 q1935
        refine .exit ?_
        refine .seqX ?_
        refine .seqX ?_
        refine .blkX ?_
        refine .seqN ?_
        refine .seq ?_
        refine .region ?_
        refine .v (mv rfl) rfl rfl rfl ?_
        refine .v (bi rfl rfl rfl) rfl rfl rfl ?_
        refine .nil ?_
        refine .seqN ?_
        refine .cond rfl (fun q1949 => ?_) (fun q1949 => ?_)
        · replace hF := hF.1 q1949
          refine .seq ?_
          refine .region ?_
          refine .v (mv rfl) rfl rfl rfl ?_
          refine .v (mv rfl) rfl rfl rfl ?_
          refine .v (bi rfl rfl rfl) rfl rfl rfl ?_
          obtain ⟨r5, q1950⟩ : ∃ y_ : Fault, y_ = sp_at_ e_2 (IntKind.i64.wrap ((-3) - i)) := ⟨_, rfl⟩
          replace hF := hF r5 q1950
          refine .c (cl (v := .agg #[.int .i64 r5.code, .int .i64 r5.index]) Try.call16 rfl rfl (fun w S => (by rw [q1950]; exact c_at_ S.sub e_2 (IntKind.i64.wrap ((-3) - i)) ))) rfl rfl rfl ?_
          refine st (p := pv) (off := 0) (k := 1) (vs := [.int .i64 r5.code, .int .i64 r5.index]) rfl rfl rfl (fun w => (tA28 w).2) rfl rfl rfl rfl ?_
          refine .cast (A' := [Box pu [.int .i64 u.network.events, .slice au u.network.links.length cu, .slice au2 u.contingent.length cu2], Box pv [.int .i64 r5.code, .int .i64 r5.index]]) rfl ?_
          refine .nil ?_
          refine .seqN ?_
          refine .ret ?_
          refine .blkR ?_
          refine .seqR ?_
          refine .seqR ?_
          refine .blkR ?_
          refine .seqR ?_
          refine .res1 rfl (rvC rfl tA28 (k := 1) rfl rfl) (fun w' S => ⟨r5, hF, rfl, S.below⟩)
        replace hF := hF.2 q1949
        refine .skip ?_
        refine .blkN ?_
        refine .seqN ?_
        refine .region ?_
        refine .v (mv rfl) rfl rfl rfl ?_
        refine .v (bi rfl rfl rfl) rfl rfl rfl ?_
        refine .v (asg rfl) rfl rfl rfl ?_
        refine .nil ?_
        exact .round (IntKind.i64.wrap (i + 1)) hF.1 hF.2 (.cons rfl (.cons rfl (.cons rfl (.cons rfl (.nil))))) rfl (FH.le_refl _)
      refine .cond rfl (fun q1951 => ?_) (fun q1951 => ?_)
      · replace hF := hF.1 q1951
        refine .region ?_
        refine .v (asg rfl) rfl rfl rfl ?_
        refine .nil ?_
        exact .use q1854 5 hF (.cons rfl (.cons rfl (.cons rfl (.cons rfl (.cons rfl (.nil)))))) rfl (FH.le_refl _)
      replace hF := hF.2 q1951
      refine .skip ?_
      exact .use q1854 r4 hF (.cons rfl (.cons rfl (.cons rfl (.cons rfl (.cons rfl (.nil)))))) rfl (FH.le_refl _)
    refine .region ?_
    refine .v (mv rfl) rfl rfl rfl ?_
    refine .v (bi rfl rfl rfl) rfl rfl rfl ?_
    refine .v (mv rfl) rfl rfl rfl ?_
    rcases Bool.eq_false_or_eq_true (r4 == 0) with q1952 | q1952
    · replace hF := hF.1 q1952
      refine .gv (mv rfl) rfl rfl rfl q1952 rfl rfl ?_
      refine .gv (mv rfl) rfl rfl rfl q1952 rfl rfl ?_
      refine .gv (ix rfl rfl tS22 (_q3.ne (by decide) (inb_pos q1847)) q1847) rfl rfl rfl q1952 rfl rfl ?_
      refine .gv (fa rfl tF48_2) rfl rfl rfl q1952 rfl rfl ?_
      refine .gv (ld1 (v := .int .i64 ((gt u.contingent i).low)) rfl tO3 (cellH (_q3.elemF q1847 (by decide) 2 _ rfl))) rfl rfl rfl q1952 rfl rfl ?_
      refine .gv (bi rfl rfl rfl) rfl rfl rfl q1952 rfl rfl ?_
      refine .gv (mv rfl) rfl rfl rfl q1952 rfl rfl ?_
      rcases Bool.eq_false_or_eq_true (decide (((gt u.contingent i).low) < 1)) with q1953 | q1953
      · replace hF := hF.1 q1953
        refine .gS rfl rfl rfl q1953 rfl rfl ?_
        refine .gS rfl rfl rfl q1953 rfl rfl ?_
        refine .gS rfl rfl rfl q1953 rfl rfl ?_
        refine .gS rfl rfl rfl q1953 rfl rfl ?_
        refine .gS rfl rfl rfl q1953 rfl rfl ?_
        refine .gS rfl rfl rfl q1953 rfl rfl ?_
        refine .gv (pkT rfl q1953 rfl) rfl rfl rfl q1952 rfl rfl ?_
        refine .v (pkT rfl q1952 rfl) rfl rfl rfl ?_
        refine .nil ?_
        exact .use q1852 true hF (.cons rfl (.cons rfl (.cons rfl (.cons rfl (.cons rfl (.cons rfl (.nil))))))) rfl (FH.le_refl _)
      replace hF := hF.2 q1953
      refine .gv (mv rfl) rfl rfl rfl q1953 rfl rfl ?_
      refine .gv (mv rfl) rfl rfl rfl q1953 rfl rfl ?_
      refine .gv (ix rfl rfl tS22 (_q3.ne (by decide) (inb_pos q1847)) q1847) rfl rfl rfl q1953 rfl rfl ?_
      refine .gv (fa rfl tF48_1) rfl rfl rfl q1953 rfl rfl ?_
      refine .gv (ld1 (v := .int .i64 ((gt u.contingent i).dst)) rfl tO3 (cellH (_q3.elemF q1847 (by decide) 1 _ rfl))) rfl rfl rfl q1953 rfl rfl ?_
      refine .gv (bi rfl rfl rfl) rfl rfl rfl q1953 rfl rfl ?_
      refine .gv (pkF rfl q1953 rfl) rfl rfl rfl q1952 rfl rfl ?_
      refine .v (pkT rfl q1952 rfl) rfl rfl rfl ?_
      refine .nil ?_
      exact .use q1852 (((gt u.contingent i).dst) == 0) hF (.cons rfl (.cons rfl (.cons rfl (.cons rfl (.cons rfl (.cons rfl (.nil))))))) rfl (FH.le_refl _)
    replace hF := hF.2 q1952
    refine .gS rfl rfl rfl q1952 rfl rfl ?_
    refine .gS rfl rfl rfl q1952 rfl rfl ?_
    refine .gS rfl rfl rfl q1952 rfl rfl ?_
    refine .gS rfl rfl rfl q1952 rfl rfl ?_
    refine .gS rfl rfl rfl q1952 rfl rfl ?_
    refine .gS rfl rfl rfl q1952 rfl rfl ?_
    refine .gS rfl rfl rfl q1952 rfl rfl ?_
    refine .gU rfl rfl rfl rfl rfl ?_
    refine .gU rfl rfl rfl rfl rfl ?_
    refine .gU rfl rfl rfl rfl rfl ?_
    refine .gU rfl rfl rfl rfl rfl ?_
    refine .gU rfl rfl rfl rfl rfl ?_
    refine .gU rfl rfl rfl rfl rfl ?_
    refine .gS rfl rfl rfl q1952 rfl rfl ?_
    refine .v (pkF rfl q1952 rfl) rfl rfl rfl ?_
    refine .nil ?_
    exact .use q1852 false hF (.cons rfl (.cons rfl (.cons rfl (.cons rfl (.cons rfl (.cons rfl (.nil))))))) rfl (FH.le_refl _)
  replace hF := hF.2 q1632
  refine .exit ?_
  refine .seqX ?_
  refine .seqX ?_
  refine .blkX ?_
  refine .seqN ?_
  refine .seq ?_
  refine .seq ?_
  refine .region ?_
  refine .v (asg rfl) rfl rfl rfl ?_
  refine .nil ?_
  refine .seqN ?_
  refine .block ?_
  refine .sel0 [1] (by decide) rfl ?_
  obtain ⟨I3, μ3, q2614, q2615⟩ := hF
  refine .loop' (σ := Int) (fun z => I3 z) (fun z => μ3 z) (fun z => [(2, .pointer (some pv)), (4, .slice au2 u.contingent.length cu2), (8, .int .i64 z)]) (fun _ => [Box pv [.int .i64 0, .int .i64 0]]) (fun _ => h) 0 q2614 (.cons rfl (.cons rfl (.cons rfl (.nil)))) rfl (FH.le_refl _) ?_
  rintro i3 q2614
  have hF := q2615 i3 q2614
  show J _ _ _ _ _ [(2, .pointer (some pv)), (4, .slice au2 u.contingent.length cu2), (8, .int .i64 i3)] [Box pv [.int .i64 0, .int .i64 0]] h
  refine .seq ?_
  refine .seq ?_
  refine .region ?_
  refine .v (mv rfl) rfl rfl rfl ?_
  refine .v (mv rfl) rfl rfl rfl ?_
  refine .v (ln rfl tS22.is) rfl rfl rfl ?_
  refine .v (bi rfl rfl rfl) rfl rfl rfl ?_
  refine .nil ?_
  refine .seqN ?_
  refine .cond rfl (fun q2617 => ?_) (fun q2617 => ?_)
  · replace hF := hF.1 q2617
    refine .skip ?_
    refine .seqN ?_
    refine .seq ?_
    refine .block ?_
    refine .seq ?_
    refine .region ?_
    refine .v (asg rfl) rfl rfl rfl ?_
    refine .nil ?_
    refine .seqN ?_
    refine .block ?_
    obtain ⟨I4, μ4, q2734, q2735⟩ := hF
    refine .loop' (σ := Int) (fun z => I4 z) (fun z => μ4 z) (fun z => [(2, .pointer (some pv)), (4, .slice au2 u.contingent.length cu2), (8, .int .i64 i3), (9, .int .i64 z)]) (fun _ => [Box pv [.int .i64 0, .int .i64 0]]) (fun _ => h) 0 q2734 (.cons rfl (.cons rfl (.cons rfl (.cons rfl (.nil))))) rfl (FH.le_refl _) ?_
    rintro k3 q2734
    have hF := q2735 k3 q2734
    show J _ _ _ _ _ [(2, .pointer (some pv)), (4, .slice au2 u.contingent.length cu2), (8, .int .i64 i3), (9, .int .i64 k3)] [Box pv [.int .i64 0, .int .i64 0]] h
    refine .seq ?_
    refine .seq ?_
    refine .region ?_
    refine .v (mv rfl) rfl rfl rfl ?_
    refine .v (mv rfl) rfl rfl rfl ?_
    refine .v (ln rfl tS22.is) rfl rfl rfl ?_
    refine .v (bi rfl rfl rfl) rfl rfl rfl ?_
    refine .nil ?_
    refine .seqN ?_
    refine .cond rfl (fun q2737 => ?_) (fun q2737 => ?_)
    · replace hF := hF.1 q2737
      refine .skip ?_
      refine .seqN ?_
      refine .seq ?_
      refine .block ?_
      refine .seq ?_
      refine .open_ (by kernel_rfl) (by kernel_rfl) ?_
      refine .v (mv rfl) rfl rfl rfl ?_
      refine .v (mv rfl) rfl rfl rfl ?_
      obtain ⟨q2746, hF⟩ := hF
      refine .v (ix rfl rfl tS22 (_q3.ne (by decide) (inb_pos q2746)) q2746) rfl rfl rfl ?_
      refine .v (fa rfl tF48_1) rfl rfl rfl ?_
      refine .v (ld1 (v := .int .i64 ((gt u.contingent k3).dst)) rfl tO3 (cellH (_q3.elemF q2746 (by decide) 1 _ rfl))) rfl rfl rfl ?_
      refine .v (mv rfl) rfl rfl rfl ?_
      refine .v (mv rfl) rfl rfl rfl ?_
      obtain ⟨q2747, hF⟩ := hF
      refine .v (ix rfl rfl tS22 (_q3.ne (by decide) (inb_pos q2747)) q2747) rfl rfl rfl ?_
      refine .v (fa rfl tF48_0) rfl rfl rfl ?_
      refine .v (ld1 (v := .int .i64 ((gt u.contingent i3).src)) rfl tO3 (cellH (_q3.elemF q2747 (by decide) 0 _ rfl))) rfl rfl rfl ?_
      refine .v (bi rfl rfl rfl) rfl rfl rfl ?_
      refine .fin ?_
      refine .seqN ?_
      refine .cond rfl (fun q2748 => ?_) (fun q2748 => ?_)
      · replace hF := hF.1 q2748
        refine .seq ?_
        refine .region ?_
        refine .v (mv rfl) rfl rfl rfl ?_
        refine .v (bi rfl rfl rfl) rfl rfl rfl ?_
        obtain ⟨r6, q2749⟩ : ∃ y_ : Fault, y_ = sp_at_ 8 (IntKind.i64.wrap ((-3) - i3)) := ⟨_, rfl⟩
        replace hF := hF r6 q2749
        refine .c (cl (v := .agg #[.int .i64 r6.code, .int .i64 r6.index]) Try.call16 rfl rfl (fun w S => (by rw [q2749]; exact c_at_ S.sub 8 (IntKind.i64.wrap ((-3) - i3)) ))) rfl rfl rfl ?_
        refine st (p := pv) (off := 0) (k := 0) (vs := [.int .i64 r6.code, .int .i64 r6.index]) rfl rfl rfl (fun w => (tA28 w).2) rfl rfl rfl rfl ?_
        refine .cast (A' := [Box pv [.int .i64 r6.code, .int .i64 r6.index]]) rfl ?_
        refine .nil ?_
        refine .seqN ?_
        refine .ret ?_
        refine .blkR ?_
        refine .seqR ?_
        refine .seqR ?_
        refine .blkR ?_
        refine .blkR ?_
        refine .seqR ?_
        refine .seqR ?_
        refine .blkR ?_
        refine .seqR ?_
        refine .res1 rfl (rvC rfl tA28 (k := 0) rfl rfl) (fun w' S => ⟨r6, hF, rfl, S.below⟩)
      replace hF := hF.2 q2748
      refine .skip ?_
      refine .blkN ?_
      refine .seqN ?_
      refine .region ?_
      refine .v (mv rfl) rfl rfl rfl ?_
      refine .v (bi rfl rfl rfl) rfl rfl rfl ?_
      refine .v (asg rfl) rfl rfl rfl ?_
      refine .nil ?_
      exact .round (IntKind.i64.wrap (k3 + 1)) hF.1 hF.2 (.cons rfl (.cons rfl (.cons rfl (.cons rfl (.nil))))) rfl (FH.le_refl _)
    replace hF := hF.2 q2737
    refine .exit ?_
    refine .seqX ?_
    refine .seqX ?_
    refine .blkX ?_
    refine .blkN ?_
    refine .seqN ?_
    refine .region ?_
    refine .v (mv rfl) rfl rfl rfl ?_
    refine .v (bi rfl rfl rfl) rfl rfl rfl ?_
    refine .v (asg rfl) rfl rfl rfl ?_
    refine .nil ?_
    exact .round (IntKind.i64.wrap (i3 + 1)) hF.1 hF.2 (.cons rfl (.cons rfl (.cons rfl (.nil)))) rfl (FH.le_refl _)
  replace hF := hF.2 q2617
  refine .exit ?_
  refine .seqX ?_
  refine .seqX ?_
  refine .blkX ?_
  refine .seqN ?_
  refine .seq ?_
  refine .region ?_
  refine .v (bld (cs := #[.int .i64 0, .int .i64 0]) (pv := []) tB28 rfl rfl) rfl rfl rfl ?_
  refine st (p := pv) (off := 0) (k := 0) (vs := [.int .i64 0, .int .i64 0]) rfl rfl rfl (fun w => (tA28 w).2) rfl rfl rfl rfl ?_
  refine .cast (A' := [Box pv [.int .i64 0, .int .i64 0]]) rfl ?_
  refine .nil ?_
  refine .seqN ?_
  refine .ret ?_
  refine .res1 rfl (rvC rfl tA28 (k := 0) rfl rfl) (fun w' S => ⟨(⟨0, 0⟩ : Fault), hF, rfl, S.below⟩)

theorem c_uncertainFault {h : FH} {w : World} (hs : Sub h w) (u : Uncertain) (au : Option Addr) (cu : Nat) (_q1 : RSl h au u.network.links) (_q2 : u.network.links.length ≤ cu) (au2 : Option Addr) (cu2 : Nat) (_q3 : RSl h au2 u.contingent) (_q4 : u.contingent.length ≤ cu2) : Calls Try.prog 6 #[.agg #[.int .i64 u.network.events, .slice au u.network.links.length cu, .slice au2 u.contingent.length cu2]] w fun e w' => e = .returned (.agg #[.int .i64 (sp_uvalidate u).code, .int .i64 (sp_uvalidate u).index]) ∧ Below w.heap.size w w' :=
  (w_uncertainFault hs u au cu _q1 _q2 au2 cu2 _q3 _q4 (fun r => r = sp_uvalidate u) (ok_uncertainFault u)).mono fun _ _ ⟨_, hk, he, hb⟩ => ⟨by rw [he, hk], hb⟩

theorem w_clone {h : FH} {w : World} (hs : Sub h w) (s_ : List Link) (as_ : Option Addr) (cs_ : Nat) (_q1 : RSl h as_ s_) (_q2 : s_.length ≤ cs_) (K : (List Link) → Prop) (hF : F_clone s_ K) : Calls Try.prog 34 #[.slice as_ s_.length cs_] w fun e w' => ∃ (r : List Link) (z : Option Addr × Nat) (h1 : FH), K r ∧ e = .returned (.slice z.1 r.length z.2) ∧ FH.le h h1 ∧ True ∧ SH (Kp.all w h) h1 w' [OwnSl 48 4 z.1 r.length z.2 (flL r)] := by
  refine enter (args := [.slice as_ s_.length cs_]) Try.func34 rfl Try.ntmps34 rfl hs ?_
  refine .seq ?_
  refine .region ?_
  refine .v (asg rfl) rfl rfl rfl ?_
  refine .nil ?_
  refine .seqN ?_
  refine .seq ?_
  refine .seq ?_
  refine .region ?_
  refine .v (mv rfl) rfl rfl rfl ?_
  refine .v (eqnil tS22.is rfl rfl) rfl rfl rfl ?_
  refine .nil ?_
  refine .seqN ?_
  refine .cond rfl (fun q4 => ?_) (fun _ => ?_)
  · replace hF := hF.1 (RSl.nil_of _q1 (by decide) q4)
    refine .seq ?_
    refine .region ?_
    refine .v (asg rfl) rfl rfl rfl ?_
    refine .nil ?_
    refine .seqN ?_
    refine .nilSl 48 4 ?_
    refine .cast (A' := [OwnSl 48 4 none (([] : List Link).length) 0 (flL ([] : List Link))]) rfl ?_
    refine .ret ?_
    refine .seqR ?_
    refine .res1 rfl (rvT rfl) (fun w' S => ⟨([] : List Link), (none, 0), h, hF, rfl, (FH.le_refl _), trivial, S.pick (k := 0) rfl⟩)
  replace hF := hF.2
  refine .skip ?_
  refine .seqN ?_
  refine .seq ?_
  refine .region ?_
  refine bs2 (cs := #[]) (pv := []) tS22 rfl rfl (by decide) (by decide) rfl rfl rfl (fun a _ => ?_)
  refine .cast (A' := [OwnSl 48 4 a (([] : List Link).length) 0 (flL ([] : List Link))]) rfl ?_
  refine .v (mv rfl) rfl rfl rfl ?_
  obtain ⟨q6, hF⟩ := hF
  have q7 : ([] : List Link).length + s_.length = ((([] : List Link) ++ s_)).length := len_app rfl rfl
  refine app (k := 0) (news := flL s_) (cs' := flL (([] : List Link) ++ s_)) (nm := ((([] : List Link) ++ s_)).length) tS22 rfl (by decide) rfl rfl rfl (by rw [flL_len]; rfl) (srcH (fun q => _q1.ne (by decide) q) (_q1.raw)) (flL_one _) (room_of q7 q6).1 (room_of q7 q6).2 q7 (flL_append _ _).symm rfl (fun a2 c => ?_)
  refine .cast (A' := [OwnSl 48 4 a2 ((([] : List Link) ++ s_).length) c (flL (([] : List Link) ++ s_))]) rfl ?_
  refine .v (asg rfl) rfl rfl rfl ?_
  refine .nil ?_
  refine .seqN ?_
  refine .ret ?_
  refine .res1 rfl (rvT rfl) (fun w' S => ⟨(([] : List Link) ++ s_), (a2, c), h, hF, rfl, (FH.le_refl _), trivial, S.pick (k := 0) rfl⟩)

theorem c_clone {h : FH} {w : World} (hs : Sub h w) (s_ : List Link) (as_ : Option Addr) (cs_ : Nat) (_q1 : RSl h as_ s_) (_q2 : s_.length ≤ cs_) (hp : pre_clone s_) : Calls Try.prog 34 #[.slice as_ s_.length cs_] w fun e w' => ∃ (z : Option Addr × Nat) (h0 h1 : FH), e = .returned (.slice z.1 (sp_clone s_).length z.2) ∧ (True) ∧ FH.le h h1 ∧ SH (Kp.all w h0) h1 w' [OwnSl 48 4 z.1 (sp_clone s_).length z.2 (flL (sp_clone s_))] :=
  (w_clone hs s_ as_ cs_ _q1 _q2 (fun r => r = sp_clone s_) (ok_clone s_ hp)).mono fun _ _ ⟨r, z, h1, hk, he, hl, hψ, hS⟩ => by subst hk; exact ⟨z, h, h1, he, hψ, hl, hS⟩

theorem w_with_ {h : FH} {w : World} (hs : Sub h w) (u : Uncertain) (au : Option Addr) (cu : Nat) (_q1 : RSl h au u.network.links) (_q2 : u.network.links.length ≤ cu) (au2 : Option Addr) (cu2 : Nat) (_q3 : RSl h au2 u.contingent) (_q4 : u.contingent.length ≤ cu2) (durations : List Int) (adurations : Option Addr) (cdurations : Nat) (_q5 : RSl h adurations durations) (_q6 : durations.length ≤ cdurations) (K : Network → Prop) (hF : F_with_ u durations K) : Calls Try.prog 14 #[.agg #[.int .i64 u.network.events, .slice au u.network.links.length cu, .slice au2 u.contingent.length cu2], .slice adurations durations.length cdurations] w fun e w' => ∃ (r : Network) (z : Option Addr × Nat) (h1 : FH), K r ∧ e = .returned (.agg #[.int .i64 r.events, .slice z.1 r.links.length z.2]) ∧ FH.le h h1 ∧ (RSl h1 z.1 r.links ∧ r.links.length ≤ z.2) ∧ SH (Kp.all w h) h1 w' [] := by
  refine enter (args := [.agg #[.int .i64 u.network.events, .slice au u.network.links.length cu, .slice au2 u.contingent.length cu2], .slice adurations durations.length cdurations]) Try.func14 rfl Try.ntmps14 rfl hs ?_
  refine .seq ?_
  refine .region ?_
  refine bx (vs := [.int .i64 u.network.events, .slice au u.network.links.length cu, .slice au2 u.contingent.length cu2]) rfl rfl rfl (fun pu => ?_)
  refine al tZ24 rfl (fun pv => ?_)
  refine .nil ?_
  refine .seqN ?_
  refine .share (σ := List Link × Addr × Option Addr × Nat) (fun z => F_with__J1 u durations K z.1) (fun z => [(1, .slice adurations durations.length cdurations), (2, .pointer (some pu)), (4, .pointer (some pv)), (5, .pointer (some z.2.1))]) (fun z => [Box pu [.int .i64 u.network.events, .slice au u.network.links.length cu, .slice au2 u.contingent.length cu2], Box pv [.int .i64 0, .slice none 0 0], Box z.2.1 [.int .i64 u.network.events, .slice z.2.2.1 z.1.length z.2.2.2], OwnSl 48 4 z.2.2.1 z.1.length z.2.2.2 (flL z.1)]) (fun _ => h) ?_ (fun q11 => ?_)
  · rintro ⟨l, p, al2, cl2⟩ hF
    show J _ _ _ _ _ [(1, .slice adurations durations.length cdurations), (2, .pointer (some pu)), (4, .pointer (some pv)), (5, .pointer (some p))] [Box pu [.int .i64 u.network.events, .slice au u.network.links.length cu, .slice au2 u.contingent.length cu2], Box pv [.int .i64 0, .slice none 0 0], Box p [.int .i64 u.network.events, .slice al2 l.length cl2], OwnSl 48 4 al2 l.length cl2 (flL l)] h
    refine .seq ?_
    refine .seq ?_
    refine .region ?_
    refine .v (fa rfl tF26_1) rfl rfl rfl ?_
    refine .v (ld1 rfl tO22 (cellB (off := 2) (k := 0) rfl rfl)) rfl rfl rfl ?_
    refine .v (ln rfl tS22.is) rfl rfl rfl ?_
    refine .v (mv rfl) rfl rfl rfl ?_
    refine .nil ?_
    refine .seqN ?_
    refine .block ?_
    refine .sel0 [1, 2, 3] (by decide) rfl ?_
    obtain ⟨I1, μ1, q104, q105⟩ := hF
    refine .loop' (σ := Int × List Link × Option Addr × Nat) (fun z => I1 z.1 z.2.1) (fun z => μ1 z.1 z.2.1) (fun z => [(1, .slice adurations durations.length cdurations), (4, .pointer (some pv)), (5, .pointer (some p)), (17, .slice au2 u.contingent.length cu2), (18, .int .i64 ((u.contingent.length : Nat) : Int)), (19, .int .i64 z.1)]) (fun z => [Box pv [.int .i64 0, .slice none 0 0], Box p [.int .i64 u.network.events, .slice z.2.2.1 z.2.1.length z.2.2.2], OwnSl 48 4 z.2.2.1 z.2.1.length z.2.2.2 (flL z.2.1)]) (fun _ => h) (0, l, al2, cl2) q104 (.cons rfl (.cons rfl (.cons rfl (.cons rfl (.cons rfl (.cons rfl (.nil))))))) rfl (FH.le_refl _) ?_
    rintro ⟨t19, l2, al3, cl3⟩ q104
    have hF := q105 t19 l2 q104
    show J _ _ _ _ _ [(1, .slice adurations durations.length cdurations), (4, .pointer (some pv)), (5, .pointer (some p)), (17, .slice au2 u.contingent.length cu2), (18, .int .i64 ((u.contingent.length : Nat) : Int)), (19, .int .i64 t19)] [Box pv [.int .i64 0, .slice none 0 0], Box p [.int .i64 u.network.events, .slice al3 l2.length cl3], OwnSl 48 4 al3 l2.length cl3 (flL l2)] h
    refine .seq ?_
    refine .region ?_
    refine .v (bi rfl rfl rfl) rfl rfl rfl ?_
    refine .nil ?_
    refine .seqN ?_
    refine .seq ?_
    refine .cond rfl (fun q108 => ?_) (fun q108 => ?_)
    · replace hF := hF.1 q108
      refine .skip ?_
      refine .seqN ?_
      refine .seq ?_
      refine .block ?_
      refine .seq ?_
      refine .region ?_
      refine .v (mv rfl) rfl rfl rfl ?_
      obtain ⟨q119, hF⟩ := hF
      refine .v (ix rfl rfl tS22 (_q3.ne (by decide) (inb_pos q119)) q119) rfl rfl rfl ?_
      refine .v (ldA (cs := [.int .i64 ((gt u.contingent t19).src), .int .i64 ((gt u.contingent t19).dst), .int .i64 ((gt u.contingent t19).low), .int .i64 ((gt u.contingent t19).high)]) rfl tA48 rfl (cellsH (_q3.elemF q119 (by decide)))) rfl rfl rfl ?_
      refine al tZ48 rfl (fun pl => ?_)
      refine .v (asg rfl) rfl rfl rfl ?_
      refine st (p := pl) (off := 0) (k := 0) (vs := [.int .i64 ((gt u.contingent t19).src), .int .i64 ((gt u.contingent t19).dst), .int .i64 ((gt u.contingent t19).low), .int .i64 ((gt u.contingent t19).high)]) rfl rfl rfl (fun w => (tA48 w).2) rfl rfl rfl rfl ?_
      refine .cast (A' := [Box pl [.int .i64 ((gt u.contingent t19).src), .int .i64 ((gt u.contingent t19).dst), .int .i64 ((gt u.contingent t19).low), .int .i64 ((gt u.contingent t19).high)], Box pv [.int .i64 0, .slice none 0 0], Box p [.int .i64 u.network.events, .slice al3 l2.length cl3], OwnSl 48 4 al3 l2.length cl3 (flL l2)]) rfl ?_
      refine .nil ?_
      refine .seqN ?_
      obtain ⟨q120, hF⟩ := hF
      refine .openA (s0 := [(1, .slice adurations durations.length cdurations), (4, .pointer (some pv)), (5, .pointer (some p)), (6, .int .i64 t19), (7, .pointer (some pl)), (17, .slice au2 u.contingent.length cu2), (18, .int .i64 ((u.contingent.length : Nat) : Int)), (19, .int .i64 t19)]) [0, 1, 2, 3, 4, 5, 6, 7, 8, 9, 10, 11, 12, 13, 14] [(0, .pointer (some (p.add 1))), (1, .slice al3 l2.length cl3), (2, .pointer (some (pl.add 0))), (3, .int .i64 ((gt u.contingent t19).src)), (4, .pointer (some (pl.add 1))), (5, .int .i64 ((gt u.contingent t19).dst)), (6, .slice adurations durations.length cdurations), (7, .int .i64 t19), (8, .pointer (some (ead adurations (t19.toNat * 1)))), (9, .int .i64 (gt durations t19)), (10, .slice adurations durations.length cdurations), (11, .int .i64 t19), (12, .pointer (some (ead adurations (t19.toNat * 1)))), (13, .int .i64 (gt durations t19)), (14, .agg #[.int .i64 ((gt u.contingent t19).src), .int .i64 ((gt u.contingent t19).dst), .int .i64 (gt durations t19), .int .i64 (gt durations t19)])] (by kernel_rfl) (.cons rfl (.cons rfl (.cons rfl (.cons rfl (.cons rfl (.cons rfl (.cons rfl (.cons rfl (.nil))))))))) [1, 4, 5, 6, 7, 17, 18, 19] [] rfl (by kernel_rfl) ?_
      refine .step [15] 15 rfl (by kernel_rfl) (by kernel_rfl) (.v [] rfl rfl rfl rfl rfl rfl (fun _ => fa rfl tF24_1) (.v [(24, .pointer (some (p.add 1)))] rfl rfl rfl rfl rfl rfl (fun _ => ld1 rfl tO22 (cellB (off := 1) (k := 2) rfl rfl)) (.v [] rfl rfl rfl rfl rfl rfl (fun _ => fa rfl tF48_0) (.v [(26, .pointer (some (pl.add 0)))] rfl rfl rfl rfl rfl rfl (fun _ => ld1 rfl tO3 (cellB (off := 0) (k := 0) rfl rfl)) (.v [] rfl rfl rfl rfl rfl rfl (fun _ => fa rfl tF48_1) (.v [(28, .pointer (some (pl.add 1)))] rfl rfl rfl rfl rfl rfl (fun _ => ld1 rfl tO3 (cellB (off := 1) (k := 0) rfl rfl)) (.v [] rfl rfl rfl rfl rfl rfl (fun _ => mv rfl) (.v [] rfl rfl rfl rfl rfl rfl (fun _ => mv rfl) (.v [(30, .slice adurations durations.length cdurations), (31, .int .i64 t19)] rfl rfl rfl rfl rfl rfl (fun _ => ix rfl rfl tS35 (_q5.ne (by decide) (inb_pos q120)) q120) (.v [(32, .pointer (some (ead adurations (t19.toNat * 1))))] rfl rfl rfl rfl rfl rfl (fun _ => ld1 (v := .int .i64 (gt durations t19)) rfl tO3 (cellH (_q5.elemF q120 (by decide) 0 _ rfl))) (.v [] rfl rfl rfl rfl rfl rfl (fun _ => mv rfl) (.v [] rfl rfl rfl rfl rfl rfl (fun _ => mv rfl) (.v [(34, .slice adurations durations.length cdurations), (35, .int .i64 t19)] rfl rfl rfl rfl rfl rfl (fun _ => ix rfl rfl tS35 (_q5.ne (by decide) (inb_pos q120)) q120) (.v [(36, .pointer (some (ead adurations (t19.toNat * 1))))] rfl rfl rfl rfl rfl rfl (fun _ => ld1 (v := .int .i64 (gt durations t19)) rfl tO3 (cellH (_q5.elemF q120 (by decide) 0 _ rfl))) (.v [(27, .int .i64 ((gt u.contingent t19).src)), (29, .int .i64 ((gt u.contingent t19).dst)), (33, .int .i64 (gt durations t19)), (37, .int .i64 (gt durations t19))] rfl rfl rfl rfl rfl rfl (fun _ => bld (cs := #[.int .i64 ((gt u.contingent t19).src), .int .i64 ((gt u.contingent t19).dst), .int .i64 (gt durations t19), .int .i64 (gt durations t19)]) (pv := [(0, .int .i64 ((gt u.contingent t19).src)), (1, .int .i64 ((gt u.contingent t19).dst)), (2, .int .i64 (gt durations t19)), (3, .int .i64 (gt durations t19))]) tB48 rfl rfl) (.nil)))))))))))))))) (.cons [(38, .agg #[.int .i64 ((gt u.contingent t19).src), .int .i64 ((gt u.contingent t19).dst), .int .i64 (gt durations t19), .int .i64 (gt durations t19)])] rfl rfl (fun sL hL => ?_) (.nil))
      refine bs2 (cs := #[.int .i64 ((gt u.contingent t19).src), .int .i64 ((gt u.contingent t19).dst), .int .i64 (gt durations t19), .int .i64 (gt durations t19)]) (pv := [(0, .agg #[.int .i64 ((gt u.contingent t19).src), .int .i64 ((gt u.contingent t19).dst), .int .i64 (gt durations t19), .int .i64 (gt durations t19)])]) tS22 rfl rfl (by decide) (by decide) rfl rfl rfl (fun a _ => ?_)
      refine .cast (A' := [OwnSl 48 4 a (([(⟨(gt u.contingent t19).src, (gt u.contingent t19).dst, (gt durations t19), (gt durations t19)⟩ : Link)] : List Link).length) 1 (flL ([(⟨(gt u.contingent t19).src, (gt u.contingent t19).dst, (gt durations t19), (gt durations t19)⟩ : Link)] : List Link)), Box pl [.int .i64 ((gt u.contingent t19).src), .int .i64 ((gt u.contingent t19).dst), .int .i64 ((gt u.contingent t19).low), .int .i64 ((gt u.contingent t19).high)], Box pv [.int .i64 0, .slice none 0 0], Box p [.int .i64 u.network.events, .slice al3 l2.length cl3], OwnSl 48 4 al3 l2.length cl3 (flL l2)]) rfl ?_
      refine .nil ?_
      refine .ja (M := [14, 3, 5, 9, 13, 2, 4, 8, 12, 6, 7, 10, 11]) (C' := [0, 1]) (pre := [(15, .slice a (([(⟨(gt u.contingent t19).src, (gt u.contingent t19).dst, (gt durations t19), (gt durations t19)⟩ : Link)] : List Link).length) 1)]) [(1, .slice adurations durations.length cdurations), (4, .pointer (some pv)), (5, .pointer (some p)), (6, .int .i64 t19), (7, .pointer (some pl)), (17, .slice au2 u.contingent.length cu2), (18, .int .i64 ((u.contingent.length : Nat) : Int)), (19, .int .i64 t19)] [1, 4, 5, 6, 7, 17, 18, 19] hL rfl rfl rfl rfl rfl (.cons rfl (.cons rfl (.cons rfl (.cons rfl (.cons rfl (.cons rfl (.cons rfl (.cons rfl (.nil))))))))) rfl rfl (by kernel_rfl) ?_
      refine .step [16] 16 rfl (by kernel_rfl) (by kernel_rfl) (.v [] rfl rfl rfl rfl rfl rfl (fun _ => fa rfl tF24_1) (.v [(24, .pointer (some (p.add 1)))] rfl rfl rfl rfl rfl rfl (fun _ => ld1 rfl tO22 (cellB (off := 1) (k := 3) rfl rfl)) (.nil))) (.cons [(25, .slice al3 l2.length cl3), (39, .slice a (([(⟨(gt u.contingent t19).src, (gt u.contingent t19).dst, (gt durations t19), (gt durations t19)⟩ : Link)] : List Link).length) 1)] rfl rfl (fun sL hL => ?_) (.nil))
      obtain ⟨q122, hF⟩ := hF
      have q123 : l2.length + ([(⟨(gt u.contingent t19).src, (gt u.contingent t19).dst, (gt durations t19), (gt durations t19)⟩ : Link)] : List Link).length = ((l2 ++ ([(⟨(gt u.contingent t19).src, (gt u.contingent t19).dst, (gt durations t19), (gt durations t19)⟩ : Link)] : List Link))).length := len_app rfl rfl
      refine app (k := 4) (news := flL ([(⟨(gt u.contingent t19).src, (gt u.contingent t19).dst, (gt durations t19), (gt durations t19)⟩ : Link)] : List Link)) (cs' := flL (l2 ++ ([(⟨(gt u.contingent t19).src, (gt u.contingent t19).dst, (gt durations t19), (gt durations t19)⟩ : Link)] : List Link))) (nm := ((l2 ++ ([(⟨(gt u.contingent t19).src, (gt u.contingent t19).dst, (gt durations t19), (gt durations t19)⟩ : Link)] : List Link))).length) tS22 rfl (by decide) rfl rfl rfl (by rw [flL_len]; rfl) (srcS (k := 0) rfl) (flL_one _) (room_of q123 q122).1 (room_of q123 q122).2 q123 (flL_append _ _).symm rfl (fun a2 c => ?_)
      refine .cast (A' := [OwnSl 48 4 a (([(⟨(gt u.contingent t19).src, (gt u.contingent t19).dst, (gt durations t19), (gt durations t19)⟩ : Link)] : List Link).length) 1 (flL ([(⟨(gt u.contingent t19).src, (gt u.contingent t19).dst, (gt durations t19), (gt durations t19)⟩ : Link)] : List Link)), Box pl [.int .i64 ((gt u.contingent t19).src), .int .i64 ((gt u.contingent t19).dst), .int .i64 ((gt u.contingent t19).low), .int .i64 ((gt u.contingent t19).high)], Box pv [.int .i64 0, .slice none 0 0], Box p [.int .i64 u.network.events, .slice al3 l2.length cl3], OwnSl 48 4 a2 ((l2 ++ ([(⟨(gt u.contingent t19).src, (gt u.contingent t19).dst, (gt durations t19), (gt durations t19)⟩ : Link)] : List Link)).length) c (flL (l2 ++ ([(⟨(gt u.contingent t19).src, (gt u.contingent t19).dst, (gt durations t19), (gt durations t19)⟩ : Link)] : List Link)))]) rfl ?_
      refine .nil ?_
      refine .ja (M := [1, 0]) (C' := [17]) (pre := [(16, .slice a2 ((l2 ++ ([(⟨(gt u.contingent t19).src, (gt u.contingent t19).dst, (gt durations t19), (gt durations t19)⟩ : Link)] : List Link)).length) c), (17, .pointer (some (p.add 1)))]) [(1, .slice adurations durations.length cdurations), (4, .pointer (some pv)), (5, .pointer (some p)), (6, .int .i64 t19), (7, .pointer (some pl)), (17, .slice au2 u.contingent.length cu2), (18, .int .i64 ((u.contingent.length : Nat) : Int)), (19, .int .i64 t19)] [1, 4, 5, 6, 7, 17, 18, 19] hL rfl rfl rfl rfl rfl (.cons rfl (.cons rfl (.cons rfl (.cons rfl (.cons rfl (.cons rfl (.cons rfl (.cons rfl (.nil))))))))) rfl rfl (by kernel_rfl) ?_
      refine .step [18] 18 rfl (by kernel_rfl) (by kernel_rfl) (.v [(24, .pointer (some (p.add 1))), (25, .slice al3 l2.length cl3), (26, .pointer (some (pl.add 0))), (27, .int .i64 ((gt u.contingent t19).src)), (28, .pointer (some (pl.add 1))), (29, .int .i64 ((gt u.contingent t19).dst)), (30, .slice adurations durations.length cdurations), (31, .int .i64 t19), (32, .pointer (some (ead adurations (t19.toNat * 1)))), (33, .int .i64 (gt durations t19)), (34, .slice adurations durations.length cdurations), (35, .int .i64 t19), (36, .pointer (some (ead adurations (t19.toNat * 1)))), (37, .int .i64 (gt durations t19)), (38, .agg #[.int .i64 ((gt u.contingent t19).src), .int .i64 ((gt u.contingent t19).dst), .int .i64 (gt durations t19), .int .i64 (gt durations t19)]), (39, .slice a (([(⟨(gt u.contingent t19).src, (gt u.contingent t19).dst, (gt durations t19), (gt durations t19)⟩ : Link)] : List Link).length) 1), (40, .slice a2 ((l2 ++ ([(⟨(gt u.contingent t19).src, (gt u.contingent t19).dst, (gt durations t19), (gt durations t19)⟩ : Link)] : List Link)).length) c)] rfl rfl rfl rfl rfl rfl (fun _ => fa rfl tF24_1) (.nil)) (.cons [(41, .pointer (some (p.add 1))), (40, .slice a2 ((l2 ++ ([(⟨(gt u.contingent t19).src, (gt u.contingent t19).dst, (gt durations t19), (gt durations t19)⟩ : Link)] : List Link)).length) c), (40, .slice a2 ((l2 ++ ([(⟨(gt u.contingent t19).src, (gt u.contingent t19).dst, (gt durations t19), (gt durations t19)⟩ : Link)] : List Link)).length) c), (24, .pointer (some (p.add 1))), (25, .slice al3 l2.length cl3), (26, .pointer (some (pl.add 0))), (27, .int .i64 ((gt u.contingent t19).src)), (28, .pointer (some (pl.add 1))), (29, .int .i64 ((gt u.contingent t19).dst)), (30, .slice adurations durations.length cdurations), (31, .int .i64 t19), (32, .pointer (some (ead adurations (t19.toNat * 1)))), (33, .int .i64 (gt durations t19)), (34, .slice adurations durations.length cdurations), (35, .int .i64 t19), (36, .pointer (some (ead adurations (t19.toNat * 1)))), (37, .int .i64 (gt durations t19)), (38, .agg #[.int .i64 ((gt u.contingent t19).src), .int .i64 ((gt u.contingent t19).dst), .int .i64 (gt durations t19), .int .i64 (gt durations t19)]), (39, .slice a (([(⟨(gt u.contingent t19).src, (gt u.contingent t19).dst, (gt durations t19), (gt durations t19)⟩ : Link)] : List Link).length) 1), (40, .slice a2 ((l2 ++ ([(⟨(gt u.contingent t19).src, (gt u.contingent t19).dst, (gt durations t19), (gt durations t19)⟩ : Link)] : List Link)).length) c)] rfl rfl (fun sL hL => ?_) (.nil))
      refine st (p := p) (off := 1) (k := 3) (vs := [.slice a2 ((l2 ++ ([(⟨(gt u.contingent t19).src, (gt u.contingent t19).dst, (gt durations t19), (gt durations t19)⟩ : Link)] : List Link)).length) c]) rfl rfl rfl (fun w => (tO22 w).2) rfl rfl rfl rfl ?_
      refine .cast (A' := [OwnSl 48 4 a (([(⟨(gt u.contingent t19).src, (gt u.contingent t19).dst, (gt durations t19), (gt durations t19)⟩ : Link)] : List Link).length) 1 (flL ([(⟨(gt u.contingent t19).src, (gt u.contingent t19).dst, (gt durations t19), (gt durations t19)⟩ : Link)] : List Link)), Box pl [.int .i64 ((gt u.contingent t19).src), .int .i64 ((gt u.contingent t19).dst), .int .i64 ((gt u.contingent t19).low), .int .i64 ((gt u.contingent t19).high)], Box pv [.int .i64 0, .slice none 0 0], Box p [.int .i64 u.network.events, .slice a2 ((l2 ++ ([(⟨(gt u.contingent t19).src, (gt u.contingent t19).dst, (gt durations t19), (gt durations t19)⟩ : Link)] : List Link)).length) c], OwnSl 48 4 a2 ((l2 ++ ([(⟨(gt u.contingent t19).src, (gt u.contingent t19).dst, (gt durations t19), (gt durations t19)⟩ : Link)] : List Link)).length) c (flL (l2 ++ ([(⟨(gt u.contingent t19).src, (gt u.contingent t19).dst, (gt durations t19), (gt durations t19)⟩ : Link)] : List Link)))]) rfl ?_
      refine .nil ?_
      refine .jaN (M := [17]) (C' := []) (pre := []) [1, 4, 5, 6, 7, 17, 18, 19] hL rfl rfl rfl rfl rfl (by kernel_rfl) ?_
      refine .last [(24, .pointer (some (p.add 1))), (25, .slice al3 l2.length cl3), (26, .pointer (some (pl.add 0))), (27, .int .i64 ((gt u.contingent t19).src)), (28, .pointer (some (pl.add 1))), (29, .int .i64 ((gt u.contingent t19).dst)), (30, .slice adurations durations.length cdurations), (31, .int .i64 t19), (32, .pointer (some (ead adurations (t19.toNat * 1)))), (33, .int .i64 (gt durations t19)), (34, .slice adurations durations.length cdurations), (35, .int .i64 t19), (36, .pointer (some (ead adurations (t19.toNat * 1)))), (37, .int .i64 (gt durations t19)), (38, .agg #[.int .i64 ((gt u.contingent t19).src), .int .i64 ((gt u.contingent t19).dst), .int .i64 (gt durations t19), .int .i64 (gt durations t19)]), (39, .slice a (([(⟨(gt u.contingent t19).src, (gt u.contingent t19).dst, (gt durations t19), (gt durations t19)⟩ : Link)] : List Link).length) 1), (40, .slice a2 ((l2 ++ ([(⟨(gt u.contingent t19).src, (gt u.contingent t19).dst, (gt durations t19), (gt durations t19)⟩ : Link)] : List Link)).length) c), (41, .pointer (some (p.add 1)))] rfl (by kernel_rfl) (.nil) rfl ?_
      refine .blkN ?_
      refine .seqN ?_
      refine .region ?_
      refine .v (bi rfl rfl rfl) rfl rfl rfl ?_
      refine .v (mv rfl) rfl rfl rfl ?_
      refine .nil ?_
      refine .sel0 [2, 3, 4] (by decide) rfl ?_
      exact .round (IntKind.i64.wrap (t19 + 1), (l2 ++ ([(⟨(gt u.contingent t19).src, (gt u.contingent t19).dst, (gt durations t19), (gt durations t19)⟩ : Link)] : List Link)), a2, c) hF.1 hF.2 (.cons rfl (.cons rfl (.cons rfl (.cons rfl (.cons rfl (.cons rfl (.nil))))))) rfl (FH.le_refl _)
    replace hF := hF.2 q108
    refine .exit ?_
    refine .seqX ?_
    refine .seqX ?_
    refine .blkX ?_
    refine .seqN ?_
    refine .seq ?_
    refine .region ?_
    refine .v (ldA (cs := [.int .i64 u.network.events, .slice al3 l2.length cl3]) rfl tA24 rfl (cellsB (off := 0) (k := 1) rfl (m := 2) rfl)) rfl rfl rfl ?_
    refine st (p := pv) (off := 0) (k := 0) (vs := [.int .i64 u.network.events, .slice al3 l2.length cl3]) rfl rfl rfl (fun w => (tA24 w).2) rfl rfl rfl rfl ?_
    refine .cast (A' := [Box pv [.int .i64 u.network.events, .slice al3 l2.length cl3], Box p [.int .i64 u.network.events, .slice al3 l2.length cl3], OwnSl 48 4 al3 l2.length cl3 (flL l2)]) rfl ?_
    refine .nil ?_
    refine .seqN ?_
    refine .freezeL (k := 2) rfl (fun h1 le1 q125 q124 => ?_)
    refine .cast (A' := [Box pv [.int .i64 u.network.events, .slice al3 l2.length cl3], Box p [.int .i64 u.network.events, .slice al3 l2.length cl3], tru]) rfl ?_
    refine .ret ?_
    refine .res1 rfl (rvC rfl tA24 (k := 0) rfl rfl) (fun w' S => ⟨(⟨u.network.events, l2⟩ : Network), (al3, cl3), h1, hF, rfl, (le1), ⟨(RSl.of q124), (q125)⟩, S.none⟩)
  refine .openA (s0 := [(1, .slice adurations durations.length cdurations), (2, .pointer (some pu)), (4, .pointer (some pv))]) [0, 1, 2, 3, 4, 5] [(0, .pointer (some (pu.add 0))), (1, .pointer (some (pu.add 0))), (2, .int .i64 u.network.events), (3, .pointer (some (pu.add 0))), (4, .pointer (some (pu.add 1))), (5, .slice au u.network.links.length cu)] (by kernel_rfl) (.cons rfl (.cons rfl (.cons rfl (.nil)))) [1, 2, 4] [] rfl (by kernel_rfl) ?_
  refine .step [6, 8] 6 rfl (by kernel_rfl) (by kernel_rfl) (.v [] rfl rfl rfl rfl rfl rfl (fun _ => fa rfl tF26_0) (.v [(8, .pointer (some (pu.add 0)))] rfl rfl rfl rfl rfl rfl (fun _ => faa (p := pu) (o1 := 0) rfl tF24_0 rfl) (.v [(9, .pointer (some (pu.add 0)))] rfl rfl rfl rfl rfl rfl (fun _ => ld1 rfl tO3 (cellB (off := 0) (k := 1) rfl rfl)) (.v [] rfl rfl rfl rfl rfl rfl (fun _ => fa rfl tF26_0) (.v [(11, .pointer (some (pu.add 0)))] rfl rfl rfl rfl rfl rfl (fun _ => faa (p := pu) (o1 := 0) rfl tF24_1 rfl) (.v [(12, .pointer (some (pu.add 1)))] rfl rfl rfl rfl rfl rfl (fun _ => ld1 rfl tO22 (cellB (off := 1) (k := 1) rfl rfl)) (.nil))))))) (.cons [(13, .slice au u.network.links.length cu)] rfl rfl (fun sL hL => ?_) (.cons [] rfl rfl (fun sL hL => ?_) (.nil)))
  · obtain ⟨q126, hF⟩ := hF
    obtain ⟨r2, q127⟩ : ∃ y_ : List Link, y_ = sp_clone u.network.links := ⟨_, rfl⟩
    replace hF := hF r2 q127
    refine clO (α := Option Addr × Nat) (V := fun z => .slice z.1 r2.length z.2) (Ψ := fun z => True) (B := fun z => [OwnSl 48 4 z.1 r2.length z.2 (flL r2)]) Try.call34 rfl rfl (fun w S => (by rw [q127]; exact c_clone S.sub u.network.links au cu _q1 _q2 q126)) rfl (fun z _ => ?_)
    obtain ⟨a3, c2⟩ := z
    refine .cast (A' := [OwnSl 48 4 a3 r2.length c2 (flL r2), Box pv [.int .i64 0, .slice none 0 0], Box pu [.int .i64 u.network.events, .slice au u.network.links.length cu, .slice au2 u.contingent.length cu2]]) rfl ?_
    refine .nil ?_
    refine .ja (M := [5, 4, 3]) (C' := [0, 1, 2, 7]) (pre := [(6, .slice a3 r2.length c2), (7, .agg #[.int .i64 u.network.events, .slice a3 r2.length c2])]) [(1, .slice adurations durations.length cdurations), (2, .pointer (some pu)), (4, .pointer (some pv))] [1, 2, 4] hL rfl rfl rfl rfl rfl (.cons rfl (.cons rfl (.cons rfl (.nil)))) rfl rfl (by kernel_rfl) ?_
    refine .step [8] 8 rfl (by kernel_rfl) (by kernel_rfl) (.v [] rfl rfl rfl rfl rfl rfl (fun _ => fa rfl tF26_0) (.v [(8, .pointer (some (pu.add 0)))] rfl rfl rfl rfl rfl rfl (fun _ => faa (p := pu) (o1 := 0) rfl tF24_0 rfl) (.v [(9, .pointer (some (pu.add 0)))] rfl rfl rfl rfl rfl rfl (fun _ => ld1 rfl tO3 (cellB (off := 0) (k := 2) rfl rfl)) (.v [(10, .int .i64 u.network.events), (14, .slice a3 r2.length c2)] rfl rfl rfl rfl rfl rfl (fun _ => bld (cs := #[.int .i64 u.network.events, .slice a3 r2.length c2]) (pv := [(0, .int .i64 u.network.events), (1, .slice a3 r2.length c2)]) tB24 rfl rfl) (.nil))))) (.cons [] rfl rfl (fun sL hL => ?_) (.nil))
    refine al tZ24 rfl (fun pn => ?_)
    refine .nil ?_
    refine .ja (M := []) (C' := [0, 1, 2, 7]) (pre := [(8, .pointer (some pn))]) [(1, .slice adurations durations.length cdurations), (2, .pointer (some pu)), (4, .pointer (some pv))] [1, 2, 4] hL rfl rfl rfl rfl rfl (.cons rfl (.cons rfl (.cons rfl (.nil)))) rfl rfl (by kernel_rfl) ?_
    refine .step [9] 9 rfl (by kernel_rfl) (by kernel_rfl) (.v [] rfl rfl rfl rfl rfl rfl (fun _ => fa rfl tF26_0) (.v [(8, .pointer (some (pu.add 0)))] rfl rfl rfl rfl rfl rfl (fun _ => faa (p := pu) (o1 := 0) rfl tF24_0 rfl) (.v [(9, .pointer (some (pu.add 0)))] rfl rfl rfl rfl rfl rfl (fun _ => ld1 rfl tO3 (cellB (off := 0) (k := 3) rfl rfl)) (.v [(10, .int .i64 u.network.events), (14, .slice a3 r2.length c2)] rfl rfl rfl rfl rfl rfl (fun _ => bld (cs := #[.int .i64 u.network.events, .slice a3 r2.length c2]) (pv := [(0, .int .i64 u.network.events), (1, .slice a3 r2.length c2)]) tB24 rfl rfl) (.nil))))) (.cons [(5, .pointer (some pn)), (15, .agg #[.int .i64 u.network.events, .slice a3 r2.length c2]), (14, .slice a3 r2.length c2), (8, .pointer (some (pu.add 0))), (9, .pointer (some (pu.add 0))), (10, .int .i64 u.network.events), (11, .pointer (some (pu.add 0))), (12, .pointer (some (pu.add 1))), (13, .slice au u.network.links.length cu), (14, .slice a3 r2.length c2), (15, .agg #[.int .i64 u.network.events, .slice a3 r2.length c2]), (5, .pointer (some pn))] rfl rfl (fun sL hL => ?_) (.nil))
    refine st (p := pn) (off := 0) (k := 0) (vs := [.int .i64 u.network.events, .slice a3 r2.length c2]) rfl rfl rfl (fun w => (tA24 w).2) rfl rfl rfl rfl ?_
    refine .cast (A' := [Box pn [.int .i64 u.network.events, .slice a3 r2.length c2], OwnSl 48 4 a3 r2.length c2 (flL r2), Box pv [.int .i64 0, .slice none 0 0], Box pu [.int .i64 u.network.events, .slice au u.network.links.length cu, .slice au2 u.contingent.length cu2]]) rfl ?_
    refine .nil ?_
    refine .jaN (M := [7, 0, 1, 2]) (C' := []) (pre := []) [1, 2, 4] hL rfl rfl rfl rfl rfl (by kernel_rfl) ?_
    refine .last [(8, .pointer (some (pu.add 0))), (9, .pointer (some (pu.add 0))), (10, .int .i64 u.network.events), (11, .pointer (some (pu.add 0))), (12, .pointer (some (pu.add 1))), (13, .slice au u.network.links.length cu), (14, .slice a3 r2.length c2), (15, .agg #[.int .i64 u.network.events, .slice a3 r2.length c2]), (5, .pointer (some pn))] rfl (by kernel_rfl) (.nil) rfl ?_
    refine .sel0 [3, 2, 0, 1] (by decide) rfl ?_
    exact .use q11 (r2, pn, a3, c2) hF (.cons rfl (.cons rfl (.cons rfl (.cons rfl (.nil))))) rfl (FH.le_refl _)
  · refine al tZ24 rfl (fun pn => ?_)
    refine .nil ?_
    refine .ja (M := []) (C' := [0, 1, 2, 3, 4, 5]) (pre := [(8, .pointer (some pn))]) [(1, .slice adurations durations.length cdurations), (2, .pointer (some pu)), (4, .pointer (some pv))] [1, 2, 4] hL rfl rfl rfl rfl rfl (.cons rfl (.cons rfl (.cons rfl (.nil)))) rfl rfl (by kernel_rfl) ?_
    refine .step [6] 6 rfl (by kernel_rfl) (by kernel_rfl) (.v [] rfl rfl rfl rfl rfl rfl (fun _ => fa rfl tF26_0) (.v [(8, .pointer (some (pu.add 0)))] rfl rfl rfl rfl rfl rfl (fun _ => faa (p := pu) (o1 := 0) rfl tF24_0 rfl) (.v [(9, .pointer (some (pu.add 0)))] rfl rfl rfl rfl rfl rfl (fun _ => ld1 rfl tO3 (cellB (off := 0) (k := 2) rfl rfl)) (.v [] rfl rfl rfl rfl rfl rfl (fun _ => fa rfl tF26_0) (.v [(11, .pointer (some (pu.add 0)))] rfl rfl rfl rfl rfl rfl (fun _ => faa (p := pu) (o1 := 0) rfl tF24_1 rfl) (.v [(12, .pointer (some (pu.add 1)))] rfl rfl rfl rfl rfl rfl (fun _ => ld1 rfl tO22 (cellB (off := 1) (k := 2) rfl rfl)) (.nil))))))) (.cons [(13, .slice au u.network.links.length cu)] rfl rfl (fun sL hL => ?_) (.nil))
    obtain ⟨q128, hF⟩ := hF
    obtain ⟨r2, q129⟩ : ∃ y_ : List Link, y_ = sp_clone u.network.links := ⟨_, rfl⟩
    replace hF := hF r2 q129
    refine clO (α := Option Addr × Nat) (V := fun z => .slice z.1 r2.length z.2) (Ψ := fun z => True) (B := fun z => [OwnSl 48 4 z.1 r2.length z.2 (flL r2)]) Try.call34 rfl rfl (fun w S => (by rw [q129]; exact c_clone S.sub u.network.links au cu _q1 _q2 q128)) rfl (fun z _ => ?_)
    obtain ⟨a3, c2⟩ := z
    refine .cast (A' := [OwnSl 48 4 a3 r2.length c2 (flL r2), Box pn [.int .i64 0, .slice none 0 0], Box pv [.int .i64 0, .slice none 0 0], Box pu [.int .i64 u.network.events, .slice au u.network.links.length cu, .slice au2 u.contingent.length cu2]]) rfl ?_
    refine .nil ?_
    refine .ja (M := [5, 4, 3]) (C' := [0, 1, 2, 7]) (pre := [(6, .slice a3 r2.length c2), (7, .agg #[.int .i64 u.network.events, .slice a3 r2.length c2])]) [(1, .slice adurations durations.length cdurations), (2, .pointer (some pu)), (4, .pointer (some pv))] [1, 2, 4] hL rfl rfl rfl rfl rfl (.cons rfl (.cons rfl (.cons rfl (.nil)))) rfl rfl (by kernel_rfl) ?_
    refine .step [9] 9 rfl (by kernel_rfl) (by kernel_rfl) (.v [] rfl rfl rfl rfl rfl rfl (fun _ => fa rfl tF26_0) (.v [(8, .pointer (some (pu.add 0)))] rfl rfl rfl rfl rfl rfl (fun _ => faa (p := pu) (o1 := 0) rfl tF24_0 rfl) (.v [(9, .pointer (some (pu.add 0)))] rfl rfl rfl rfl rfl rfl (fun _ => ld1 rfl tO3 (cellB (off := 0) (k := 3) rfl rfl)) (.v [(10, .int .i64 u.network.events), (14, .slice a3 r2.length c2)] rfl rfl rfl rfl rfl rfl (fun _ => bld (cs := #[.int .i64 u.network.events, .slice a3 r2.length c2]) (pv := [(0, .int .i64 u.network.events), (1, .slice a3 r2.length c2)]) tB24 rfl rfl) (.nil))))) (.cons [(5, .pointer (some pn)), (15, .agg #[.int .i64 u.network.events, .slice a3 r2.length c2]), (14, .slice a3 r2.length c2), (8, .pointer (some (pu.add 0))), (9, .pointer (some (pu.add 0))), (10, .int .i64 u.network.events), (11, .pointer (some (pu.add 0))), (12, .pointer (some (pu.add 1))), (13, .slice au u.network.links.length cu), (14, .slice a3 r2.length c2), (15, .agg #[.int .i64 u.network.events, .slice a3 r2.length c2]), (5, .pointer (some pn))] rfl rfl (fun sL hL => ?_) (.nil))
    refine st (p := pn) (off := 0) (k := 1) (vs := [.int .i64 u.network.events, .slice a3 r2.length c2]) rfl rfl rfl (fun w => (tA24 w).2) rfl rfl rfl rfl ?_
    refine .cast (A' := [OwnSl 48 4 a3 r2.length c2 (flL r2), Box pn [.int .i64 u.network.events, .slice a3 r2.length c2], Box pv [.int .i64 0, .slice none 0 0], Box pu [.int .i64 u.network.events, .slice au u.network.links.length cu, .slice au2 u.contingent.length cu2]]) rfl ?_
    refine .nil ?_
    refine .jaN (M := [7, 0, 1, 2]) (C' := []) (pre := []) [1, 2, 4] hL rfl rfl rfl rfl rfl (by kernel_rfl) ?_
    refine .last [(8, .pointer (some (pu.add 0))), (9, .pointer (some (pu.add 0))), (10, .int .i64 u.network.events), (11, .pointer (some (pu.add 0))), (12, .pointer (some (pu.add 1))), (13, .slice au u.network.links.length cu), (14, .slice a3 r2.length c2), (15, .agg #[.int .i64 u.network.events, .slice a3 r2.length c2]), (5, .pointer (some pn))] rfl (by kernel_rfl) (.nil) rfl ?_
    refine .sel0 [3, 2, 1, 0] (by decide) rfl ?_
    exact .use q11 (r2, pn, a3, c2) hF (.cons rfl (.cons rfl (.cons rfl (.cons rfl (.nil))))) rfl (FH.le_refl _)

theorem c_with_ {h : FH} {w : World} (hs : Sub h w) (u : Uncertain) (au : Option Addr) (cu : Nat) (_q1 : RSl h au u.network.links) (_q2 : u.network.links.length ≤ cu) (au2 : Option Addr) (cu2 : Nat) (_q3 : RSl h au2 u.contingent) (_q4 : u.contingent.length ≤ cu2) (durations : List Int) (adurations : Option Addr) (cdurations : Nat) (_q5 : RSl h adurations durations) (_q6 : durations.length ≤ cdurations) (hp : pre_with_ u durations) : Calls Try.prog 14 #[.agg #[.int .i64 u.network.events, .slice au u.network.links.length cu, .slice au2 u.contingent.length cu2], .slice adurations durations.length cdurations] w fun e w' => ∃ (z : Option Addr × Nat) (h1 : FH), e = .returned (.agg #[.int .i64 (sp_with_ u durations).events, .slice z.1 (sp_with_ u durations).links.length z.2]) ∧ FH.le h h1 ∧ (RSl h1 z.1 (sp_with_ u durations).links ∧ (sp_with_ u durations).links.length ≤ z.2) ∧ SH (Kp.all w h) h1 w' [] :=
  (w_with_ hs u au cu _q1 _q2 au2 cu2 _q3 _q4 durations adurations cdurations _q5 _q6 (fun r => r = sp_with_ u durations) (ok_with_ u durations hp)).mono fun _ _ ⟨r, z, h1, hk, he, hl, hf, hS⟩ => by subst hk; exact ⟨z, h1, he, hl, hf, hS⟩

theorem w_fixed {h : FH} {w : World} (hs : Sub h w) (u : Uncertain) (au : Option Addr) (cu : Nat) (_q1 : RSl h au u.network.links) (_q2 : u.network.links.length ≤ cu) (au2 : Option Addr) (cu2 : Nat) (_q3 : RSl h au2 u.contingent) (_q4 : u.contingent.length ≤ cu2) (d : List Int) (ad : Option Addr) (cd : Nat) (_q5 : RSl h ad d) (_q6 : d.length ≤ cd) (K : Network → Prop) (hF : F_fixed u d K) : Calls Try.prog 20 #[.agg #[.int .i64 u.network.events, .slice au u.network.links.length cu, .slice au2 u.contingent.length cu2], .slice ad d.length cd] w fun e w' => ∃ (r : Network) (z : Option Addr × Nat) (h1 : FH), K r ∧ e = .returned (.agg #[.int .i64 r.events, .slice z.1 r.links.length z.2]) ∧ FH.le h h1 ∧ (RSl h1 z.1 r.links ∧ r.links.length ≤ z.2) ∧ SH (Kp.all w h) h1 w' [] := by
  refine enter (args := [.agg #[.int .i64 u.network.events, .slice au u.network.links.length cu, .slice au2 u.contingent.length cu2], .slice ad d.length cd]) Try.func20 rfl Try.ntmps20 rfl hs ?_
  refine .seq ?_
  refine .region ?_
  refine bx (vs := [.int .i64 u.network.events, .slice au u.network.links.length cu, .slice au2 u.contingent.length cu2]) rfl rfl rfl (fun pu => ?_)
  refine al tZ24 rfl (fun pv => ?_)
  refine .nil ?_
  refine .seqN ?_
  refine .seq ?_
  refine .region ?_
  refine .v (fa rfl tF26_0) rfl rfl rfl ?_
  refine .v (faa (p := pu) (o1 := 0) rfl tF24_0 rfl) rfl rfl rfl ?_
  refine .v (ld1 rfl tO3 (cellB (off := 0) (k := 1) rfl rfl)) rfl rfl rfl ?_
  refine .v (bld (cs := #[.int .i64 u.network.events, .slice none 0 0]) (pv := [(0, .int .i64 u.network.events)]) tB24 rfl rfl) rfl rfl rfl ?_
  refine al tZ24 rfl (fun pn => ?_)
  refine st (p := pn) (off := 0) (k := 0) (vs := [.int .i64 u.network.events, .slice none 0 0]) rfl rfl rfl (fun w => (tA24 w).2) rfl rfl rfl rfl ?_
  refine .cast (A' := [Box pn [.int .i64 u.network.events, .slice none 0 0], Box pv [.int .i64 0, .slice none 0 0], Box pu [.int .i64 u.network.events, .slice au u.network.links.length cu, .slice au2 u.contingent.length cu2]]) rfl ?_
  refine .nil ?_
  refine .seqN ?_
  refine .seq ?_
  refine .region ?_
  refine .v (fa rfl tF24_1) rfl rfl rfl ?_
  refine .v (ld1 rfl tO22 (cellB (off := 1) (k := 0) rfl rfl)) rfl rfl rfl ?_
  refine .v (fa rfl tF26_0) rfl rfl rfl ?_
  refine .v (faa (p := pu) (o1 := 0) rfl tF24_1 rfl) rfl rfl rfl ?_
  refine .v (ld1 rfl tO22 (cellB (off := 1) (k := 2) rfl rfl)) rfl rfl rfl ?_
  refine .nilSl 48 4 ?_
  refine .cast (A' := [OwnSl 48 4 none (([] : List Link).length) 0 (flL ([] : List Link)), Box pn [.int .i64 u.network.events, .slice none 0 0], Box pv [.int .i64 0, .slice none 0 0], Box pu [.int .i64 u.network.events, .slice au u.network.links.length cu, .slice au2 u.contingent.length cu2]]) rfl ?_
  obtain ⟨q7, hF⟩ := hF
  have q8 : ([] : List Link).length + u.network.links.length = ((([] : List Link) ++ u.network.links)).length := len_app rfl rfl
  refine app (k := 0) (news := flL u.network.links) (cs' := flL (([] : List Link) ++ u.network.links)) (nm := ((([] : List Link) ++ u.network.links)).length) tS22 rfl (by decide) rfl rfl rfl (by rw [flL_len]; rfl) (srcH (fun q => _q1.ne (by decide) q) (_q1.raw)) (flL_one _) (room_of q8 q7).1 (room_of q8 q7).2 q8 (flL_append _ _).symm rfl (fun a c => ?_)
  refine .cast (A' := [OwnSl 48 4 a ((([] : List Link) ++ u.network.links).length) c (flL (([] : List Link) ++ u.network.links)), Box pn [.int .i64 u.network.events, .slice none 0 0], Box pv [.int .i64 0, .slice none 0 0], Box pu [.int .i64 u.network.events, .slice au u.network.links.length cu, .slice au2 u.contingent.length cu2]]) rfl ?_
  refine .v (fa rfl tF24_1) rfl rfl rfl ?_
  refine st (p := pn) (off := 1) (k := 1) (vs := [.slice a ((([] : List Link) ++ u.network.links).length) c]) rfl rfl rfl (fun w => (tO22 w).2) rfl rfl rfl rfl ?_
  refine .cast (A' := [OwnSl 48 4 a ((([] : List Link) ++ u.network.links).length) c (flL (([] : List Link) ++ u.network.links)), Box pn [.int .i64 u.network.events, .slice a ((([] : List Link) ++ u.network.links).length) c], Box pv [.int .i64 0, .slice none 0 0], Box pu [.int .i64 u.network.events, .slice au u.network.links.length cu, .slice au2 u.contingent.length cu2]]) rfl ?_
  refine .nil ?_
  refine .seqN ?_
  refine .seq ?_
  refine .seq ?_
  refine .region ?_
  refine .v (asg rfl) rfl rfl rfl ?_
  refine .nil ?_
  refine .seqN ?_
  refine .block ?_
  refine .sel0 [3, 2, 1, 0] (by decide) rfl ?_
  obtain ⟨I1, μ1, q96, q97⟩ := hF
  refine .loop' (σ := Int × List Link × Option Addr × Nat) (fun z => I1 z.1 z.2.1) (fun z => μ1 z.1 z.2.1) (fun z => [(1, .slice ad d.length cd), (2, .pointer (some pu)), (4, .pointer (some pv)), (5, .pointer (some pn)), (6, .int .i64 z.1)]) (fun z => [Box pu [.int .i64 u.network.events, .slice au u.network.links.length cu, .slice au2 u.contingent.length cu2], Box pv [.int .i64 0, .slice none 0 0], Box pn [.int .i64 u.network.events, .slice z.2.2.1 z.2.1.length z.2.2.2], OwnSl 48 4 z.2.2.1 z.2.1.length z.2.2.2 (flL z.2.1)]) (fun _ => h) (0, (([] : List Link) ++ u.network.links), a, c) q96 (.cons rfl (.cons rfl (.cons rfl (.cons rfl (.cons rfl (.nil)))))) rfl (FH.le_refl _) ?_
  rintro ⟨i, l, al2, cl2⟩ q96
  have hF := q97 i l q96
  show J _ _ _ _ _ [(1, .slice ad d.length cd), (2, .pointer (some pu)), (4, .pointer (some pv)), (5, .pointer (some pn)), (6, .int .i64 i)] [Box pu [.int .i64 u.network.events, .slice au u.network.links.length cu, .slice au2 u.contingent.length cu2], Box pv [.int .i64 0, .slice none 0 0], Box pn [.int .i64 u.network.events, .slice al2 l.length cl2], OwnSl 48 4 al2 l.length cl2 (flL l)] h
  refine .seq ?_
  refine .seq ?_
  refine .region ?_
  refine .v (mv rfl) rfl rfl rfl ?_
  refine .v (mv rfl) rfl rfl rfl ?_
  refine .v (ln rfl tS35.is) rfl rfl rfl ?_
  refine .v (bi rfl rfl rfl) rfl rfl rfl ?_
  refine .nil ?_
  refine .seqN ?_
  refine .cond rfl (fun q99 => ?_) (fun q99 => ?_)
  · replace hF := hF.1 q99
    refine .skip ?_
    refine .seqN ?_
    refine .seq ?_
    refine .block ?_
    obtain ⟨q110, hF⟩ := hF
    obtain ⟨q111, hF⟩ := hF
    refine .openA (s0 := [(1, .slice ad d.length cd), (2, .pointer (some pu)), (4, .pointer (some pv)), (5, .pointer (some pn)), (6, .int .i64 i)]) [0, 1, 2, 3, 4, 5, 6, 7, 8, 9, 10, 11, 12, 13, 14, 15, 16, 17, 18, 19, 20, 21, 22] [(0, .pointer (some (pn.add 1))), (1, .slice al2 l.length cl2), (2, .pointer (some (pu.add 2))), (3, .slice au2 u.contingent.length cu2), (4, .int .i64 i), (5, .pointer (some (ead au2 (i.toNat * 4)))), (6, .pointer (some ((ead au2 (i.toNat * 4)).add 0))), (7, .int .i64 ((gt u.contingent i).src)), (8, .pointer (some (pu.add 2))), (9, .slice au2 u.contingent.length cu2), (10, .int .i64 i), (11, .pointer (some (ead au2 (i.toNat * 4)))), (12, .pointer (some ((ead au2 (i.toNat * 4)).add 1))), (13, .int .i64 ((gt u.contingent i).dst)), (14, .slice ad d.length cd), (15, .int .i64 i), (16, .pointer (some (ead ad (i.toNat * 1)))), (17, .int .i64 (gt d i)), (18, .slice ad d.length cd), (19, .int .i64 i), (20, .pointer (some (ead ad (i.toNat * 1)))), (21, .int .i64 (gt d i)), (22, .agg #[.int .i64 ((gt u.contingent i).src), .int .i64 ((gt u.contingent i).dst), .int .i64 (gt d i), .int .i64 (gt d i)])] (by kernel_rfl) (.cons rfl (.cons rfl (.cons rfl (.cons rfl (.cons rfl (.nil)))))) [1, 2, 4, 5, 6] [] rfl (by kernel_rfl) ?_
    refine .step [23] 23 rfl (by kernel_rfl) (by kernel_rfl) (.v [] rfl rfl rfl rfl rfl rfl (fun _ => fa rfl tF24_1) (.v [(24, .pointer (some (pn.add 1)))] rfl rfl rfl rfl rfl rfl (fun _ => ld1 rfl tO22 (cellB (off := 1) (k := 2) rfl rfl)) (.v [] rfl rfl rfl rfl rfl rfl (fun _ => fa rfl tF26_1) (.v [(26, .pointer (some (pu.add 2)))] rfl rfl rfl rfl rfl rfl (fun _ => ld1 rfl tO22 (cellB (off := 2) (k := 0) rfl rfl)) (.v [] rfl rfl rfl rfl rfl rfl (fun _ => mv rfl) (.v [(27, .slice au2 u.contingent.length cu2), (28, .int .i64 i)] rfl rfl rfl rfl rfl rfl (fun _ => ix rfl rfl tS22 (_q3.ne (by decide) (inb_pos q110)) q110) (.v [(29, .pointer (some (ead au2 (i.toNat * 4))))] rfl rfl rfl rfl rfl rfl (fun _ => fa rfl tF48_0) (.v [(30, .pointer (some ((ead au2 (i.toNat * 4)).add 0)))] rfl rfl rfl rfl rfl rfl (fun _ => ld1 (v := .int .i64 ((gt u.contingent i).src)) rfl tO3 (cellH (_q3.elemF q110 (by decide) 0 _ rfl))) (.v [] rfl rfl rfl rfl rfl rfl (fun _ => fa rfl tF26_1) (.v [(32, .pointer (some (pu.add 2)))] rfl rfl rfl rfl rfl rfl (fun _ => ld1 rfl tO22 (cellB (off := 2) (k := 0) rfl rfl)) (.v [] rfl rfl rfl rfl rfl rfl (fun _ => mv rfl) (.v [(33, .slice au2 u.contingent.length cu2), (34, .int .i64 i)] rfl rfl rfl rfl rfl rfl (fun _ => ix rfl rfl tS22 (_q3.ne (by decide) (inb_pos q110)) q110) (.v [(35, .pointer (some (ead au2 (i.toNat * 4))))] rfl rfl rfl rfl rfl rfl (fun _ => fa rfl tF48_1) (.v [(36, .pointer (some ((ead au2 (i.toNat * 4)).add 1)))] rfl rfl rfl rfl rfl rfl (fun _ => ld1 (v := .int .i64 ((gt u.contingent i).dst)) rfl tO3 (cellH (_q3.elemF q110 (by decide) 1 _ rfl))) (.v [] rfl rfl rfl rfl rfl rfl (fun _ => mv rfl) (.v [] rfl rfl rfl rfl rfl rfl (fun _ => mv rfl) (.v [(38, .slice ad d.length cd), (39, .int .i64 i)] rfl rfl rfl rfl rfl rfl (fun _ => ix rfl rfl tS35 (_q5.ne (by decide) (inb_pos q111)) q111) (.v [(40, .pointer (some (ead ad (i.toNat * 1))))] rfl rfl rfl rfl rfl rfl (fun _ => ld1 (v := .int .i64 (gt d i)) rfl tO3 (cellH (_q5.elemF q111 (by decide) 0 _ rfl))) (.v [] rfl rfl rfl rfl rfl rfl (fun _ => mv rfl) (.v [] rfl rfl rfl rfl rfl rfl (fun _ => mv rfl) (.v [(42, .slice ad d.length cd), (43, .int .i64 i)] rfl rfl rfl rfl rfl rfl (fun _ => ix rfl rfl tS35 (_q5.ne (by decide) (inb_pos q111)) q111) (.v [(44, .pointer (some (ead ad (i.toNat * 1))))] rfl rfl rfl rfl rfl rfl (fun _ => ld1 (v := .int .i64 (gt d i)) rfl tO3 (cellH (_q5.elemF q111 (by decide) 0 _ rfl))) (.v [(31, .int .i64 ((gt u.contingent i).src)), (37, .int .i64 ((gt u.contingent i).dst)), (41, .int .i64 (gt d i)), (45, .int .i64 (gt d i))] rfl rfl rfl rfl rfl rfl (fun _ => bld (cs := #[.int .i64 ((gt u.contingent i).src), .int .i64 ((gt u.contingent i).dst), .int .i64 (gt d i), .int .i64 (gt d i)]) (pv := [(0, .int .i64 ((gt u.contingent i).src)), (1, .int .i64 ((gt u.contingent i).dst)), (2, .int .i64 (gt d i)), (3, .int .i64 (gt d i))]) tB48 rfl rfl) (.nil)))))))))))))))))))))))) (.cons [(46, .agg #[.int .i64 ((gt u.contingent i).src), .int .i64 ((gt u.contingent i).dst), .int .i64 (gt d i), .int .i64 (gt d i)])] rfl rfl (fun sL hL => ?_) (.nil))
    refine bs2 (cs := #[.int .i64 ((gt u.contingent i).src), .int .i64 ((gt u.contingent i).dst), .int .i64 (gt d i), .int .i64 (gt d i)]) (pv := [(0, .agg #[.int .i64 ((gt u.contingent i).src), .int .i64 ((gt u.contingent i).dst), .int .i64 (gt d i), .int .i64 (gt d i)])]) tS22 rfl rfl (by decide) (by decide) rfl rfl rfl (fun a2 _ => ?_)
    refine .cast (A' := [OwnSl 48 4 a2 (([(⟨(gt u.contingent i).src, (gt u.contingent i).dst, (gt d i), (gt d i)⟩ : Link)] : List Link).length) 1 (flL ([(⟨(gt u.contingent i).src, (gt u.contingent i).dst, (gt d i), (gt d i)⟩ : Link)] : List Link)), Box pu [.int .i64 u.network.events, .slice au u.network.links.length cu, .slice au2 u.contingent.length cu2], Box pv [.int .i64 0, .slice none 0 0], Box pn [.int .i64 u.network.events, .slice al2 l.length cl2], OwnSl 48 4 al2 l.length cl2 (flL l)]) rfl ?_
    refine .nil ?_
    refine .ja (M := [22, 7, 13, 17, 21, 6, 12, 16, 20, 5, 11, 14, 15, 18, 19, 3, 4, 9, 10, 2, 8]) (C' := [0, 1]) (pre := [(23, .slice a2 (([(⟨(gt u.contingent i).src, (gt u.contingent i).dst, (gt d i), (gt d i)⟩ : Link)] : List Link).length) 1)]) [(1, .slice ad d.length cd), (2, .pointer (some pu)), (4, .pointer (some pv)), (5, .pointer (some pn)), (6, .int .i64 i)] [1, 2, 4, 5, 6] hL rfl rfl rfl rfl rfl (.cons rfl (.cons rfl (.cons rfl (.cons rfl (.cons rfl (.nil)))))) rfl rfl (by kernel_rfl) ?_
    refine .step [24] 24 rfl (by kernel_rfl) (by kernel_rfl) (.v [] rfl rfl rfl rfl rfl rfl (fun _ => fa rfl tF24_1) (.v [(24, .pointer (some (pn.add 1)))] rfl rfl rfl rfl rfl rfl (fun _ => ld1 rfl tO22 (cellB (off := 1) (k := 3) rfl rfl)) (.nil))) (.cons [(25, .slice al2 l.length cl2), (47, .slice a2 (([(⟨(gt u.contingent i).src, (gt u.contingent i).dst, (gt d i), (gt d i)⟩ : Link)] : List Link).length) 1)] rfl rfl (fun sL hL => ?_) (.nil))
    obtain ⟨q113, hF⟩ := hF
    have q114 : l.length + ([(⟨(gt u.contingent i).src, (gt u.contingent i).dst, (gt d i), (gt d i)⟩ : Link)] : List Link).length = ((l ++ ([(⟨(gt u.contingent i).src, (gt u.contingent i).dst, (gt d i), (gt d i)⟩ : Link)] : List Link))).length := len_app rfl rfl
    refine app (k := 4) (news := flL ([(⟨(gt u.contingent i).src, (gt u.contingent i).dst, (gt d i), (gt d i)⟩ : Link)] : List Link)) (cs' := flL (l ++ ([(⟨(gt u.contingent i).src, (gt u.contingent i).dst, (gt d i), (gt d i)⟩ : Link)] : List Link))) (nm := ((l ++ ([(⟨(gt u.contingent i).src, (gt u.contingent i).dst, (gt d i), (gt d i)⟩ : Link)] : List Link))).length) tS22 rfl (by decide) rfl rfl rfl (by rw [flL_len]; rfl) (srcS (k := 0) rfl) (flL_one _) (room_of q114 q113).1 (room_of q114 q113).2 q114 (flL_append _ _).symm rfl (fun a3 c2 => ?_)
    refine .cast (A' := [OwnSl 48 4 a2 (([(⟨(gt u.contingent i).src, (gt u.contingent i).dst, (gt d i), (gt d i)⟩ : Link)] : List Link).length) 1 (flL ([(⟨(gt u.contingent i).src, (gt u.contingent i).dst, (gt d i), (gt d i)⟩ : Link)] : List Link)), Box pu [.int .i64 u.network.events, .slice au u.network.links.length cu, .slice au2 u.contingent.length cu2], Box pv [.int .i64 0, .slice none 0 0], Box pn [.int .i64 u.network.events, .slice al2 l.length cl2], OwnSl 48 4 a3 ((l ++ ([(⟨(gt u.contingent i).src, (gt u.contingent i).dst, (gt d i), (gt d i)⟩ : Link)] : List Link)).length) c2 (flL (l ++ ([(⟨(gt u.contingent i).src, (gt u.contingent i).dst, (gt d i), (gt d i)⟩ : Link)] : List Link)))]) rfl ?_
    refine .nil ?_
    refine .ja (M := [1, 0]) (C' := [25]) (pre := [(24, .slice a3 ((l ++ ([(⟨(gt u.contingent i).src, (gt u.contingent i).dst, (gt d i), (gt d i)⟩ : Link)] : List Link)).length) c2), (25, .pointer (some (pn.add 1)))]) [(1, .slice ad d.length cd), (2, .pointer (some pu)), (4, .pointer (some pv)), (5, .pointer (some pn)), (6, .int .i64 i)] [1, 2, 4, 5, 6] hL rfl rfl rfl rfl rfl (.cons rfl (.cons rfl (.cons rfl (.cons rfl (.cons rfl (.nil)))))) rfl rfl (by kernel_rfl) ?_
    refine .step [26] 26 rfl (by kernel_rfl) (by kernel_rfl) (.v [(24, .pointer (some (pn.add 1))), (25, .slice al2 l.length cl2), (26, .pointer (some (pu.add 2))), (27, .slice au2 u.contingent.length cu2), (28, .int .i64 i), (29, .pointer (some (ead au2 (i.toNat * 4)))), (30, .pointer (some ((ead au2 (i.toNat * 4)).add 0))), (31, .int .i64 ((gt u.contingent i).src)), (32, .pointer (some (pu.add 2))), (33, .slice au2 u.contingent.length cu2), (34, .int .i64 i), (35, .pointer (some (ead au2 (i.toNat * 4)))), (36, .pointer (some ((ead au2 (i.toNat * 4)).add 1))), (37, .int .i64 ((gt u.contingent i).dst)), (38, .slice ad d.length cd), (39, .int .i64 i), (40, .pointer (some (ead ad (i.toNat * 1)))), (41, .int .i64 (gt d i)), (42, .slice ad d.length cd), (43, .int .i64 i), (44, .pointer (some (ead ad (i.toNat * 1)))), (45, .int .i64 (gt d i)), (46, .agg #[.int .i64 ((gt u.contingent i).src), .int .i64 ((gt u.contingent i).dst), .int .i64 (gt d i), .int .i64 (gt d i)]), (47, .slice a2 (([(⟨(gt u.contingent i).src, (gt u.contingent i).dst, (gt d i), (gt d i)⟩ : Link)] : List Link).length) 1), (48, .slice a3 ((l ++ ([(⟨(gt u.contingent i).src, (gt u.contingent i).dst, (gt d i), (gt d i)⟩ : Link)] : List Link)).length) c2)] rfl rfl rfl rfl rfl rfl (fun _ => fa rfl tF24_1) (.nil)) (.cons [(49, .pointer (some (pn.add 1))), (48, .slice a3 ((l ++ ([(⟨(gt u.contingent i).src, (gt u.contingent i).dst, (gt d i), (gt d i)⟩ : Link)] : List Link)).length) c2), (48, .slice a3 ((l ++ ([(⟨(gt u.contingent i).src, (gt u.contingent i).dst, (gt d i), (gt d i)⟩ : Link)] : List Link)).length) c2), (24, .pointer (some (pn.add 1))), (25, .slice al2 l.length cl2), (26, .pointer (some (pu.add 2))), (27, .slice au2 u.contingent.length cu2), (28, .int .i64 i), (29, .pointer (some (ead au2 (i.toNat * 4)))), (30, .pointer (some ((ead au2 (i.toNat * 4)).add 0))), (31, .int .i64 ((gt u.contingent i).src)), (32, .pointer (some (pu.add 2))), (33, .slice au2 u.contingent.length cu2), (34, .int .i64 i), (35, .pointer (some (ead au2 (i.toNat * 4)))), (36, .pointer (some ((ead au2 (i.toNat * 4)).add 1))), (37, .int .i64 ((gt u.contingent i).dst)), (38, .slice ad d.length cd), (39, .int .i64 i), (40, .pointer (some (ead ad (i.toNat * 1)))), (41, .int .i64 (gt d i)), (42, .slice ad d.length cd), (43, .int .i64 i), (44, .pointer (some (ead ad (i.toNat * 1)))), (45, .int .i64 (gt d i)), (46, .agg #[.int .i64 ((gt u.contingent i).src), .int .i64 ((gt u.contingent i).dst), .int .i64 (gt d i), .int .i64 (gt d i)]), (47, .slice a2 (([(⟨(gt u.contingent i).src, (gt u.contingent i).dst, (gt d i), (gt d i)⟩ : Link)] : List Link).length) 1), (48, .slice a3 ((l ++ ([(⟨(gt u.contingent i).src, (gt u.contingent i).dst, (gt d i), (gt d i)⟩ : Link)] : List Link)).length) c2)] rfl rfl (fun sL hL => ?_) (.nil))
    refine st (p := pn) (off := 1) (k := 3) (vs := [.slice a3 ((l ++ ([(⟨(gt u.contingent i).src, (gt u.contingent i).dst, (gt d i), (gt d i)⟩ : Link)] : List Link)).length) c2]) rfl rfl rfl (fun w => (tO22 w).2) rfl rfl rfl rfl ?_
    refine .cast (A' := [OwnSl 48 4 a2 (([(⟨(gt u.contingent i).src, (gt u.contingent i).dst, (gt d i), (gt d i)⟩ : Link)] : List Link).length) 1 (flL ([(⟨(gt u.contingent i).src, (gt u.contingent i).dst, (gt d i), (gt d i)⟩ : Link)] : List Link)), Box pu [.int .i64 u.network.events, .slice au u.network.links.length cu, .slice au2 u.contingent.length cu2], Box pv [.int .i64 0, .slice none 0 0], Box pn [.int .i64 u.network.events, .slice a3 ((l ++ ([(⟨(gt u.contingent i).src, (gt u.contingent i).dst, (gt d i), (gt d i)⟩ : Link)] : List Link)).length) c2], OwnSl 48 4 a3 ((l ++ ([(⟨(gt u.contingent i).src, (gt u.contingent i).dst, (gt d i), (gt d i)⟩ : Link)] : List Link)).length) c2 (flL (l ++ ([(⟨(gt u.contingent i).src, (gt u.contingent i).dst, (gt d i), (gt d i)⟩ : Link)] : List Link)))]) rfl ?_
    refine .nil ?_
    refine .jaN (M := [25]) (C' := []) (pre := []) [1, 2, 4, 5, 6] hL rfl rfl rfl rfl rfl (by kernel_rfl) ?_
    refine .last [(24, .pointer (some (pn.add 1))), (25, .slice al2 l.length cl2), (26, .pointer (some (pu.add 2))), (27, .slice au2 u.contingent.length cu2), (28, .int .i64 i), (29, .pointer (some (ead au2 (i.toNat * 4)))), (30, .pointer (some ((ead au2 (i.toNat * 4)).add 0))), (31, .int .i64 ((gt u.contingent i).src)), (32, .pointer (some (pu.add 2))), (33, .slice au2 u.contingent.length cu2), (34, .int .i64 i), (35, .pointer (some (ead au2 (i.toNat * 4)))), (36, .pointer (some ((ead au2 (i.toNat * 4)).add 1))), (37, .int .i64 ((gt u.contingent i).dst)), (38, .slice ad d.length cd), (39, .int .i64 i), (40, .pointer (some (ead ad (i.toNat * 1)))), (41, .int .i64 (gt d i)), (42, .slice ad d.length cd), (43, .int .i64 i), (44, .pointer (some (ead ad (i.toNat * 1)))), (45, .int .i64 (gt d i)), (46, .agg #[.int .i64 ((gt u.contingent i).src), .int .i64 ((gt u.contingent i).dst), .int .i64 (gt d i), .int .i64 (gt d i)]), (47, .slice a2 (([(⟨(gt u.contingent i).src, (gt u.contingent i).dst, (gt d i), (gt d i)⟩ : Link)] : List Link).length) 1), (48, .slice a3 ((l ++ ([(⟨(gt u.contingent i).src, (gt u.contingent i).dst, (gt d i), (gt d i)⟩ : Link)] : List Link)).length) c2), (49, .pointer (some (pn.add 1)))] rfl (by kernel_rfl) (.nil) rfl ?_
    refine .blkN ?_
    refine .seqN ?_
    refine .region ?_
    refine .v (mv rfl) rfl rfl rfl ?_
    refine .v (bi rfl rfl rfl) rfl rfl rfl ?_
    refine .v (asg rfl) rfl rfl rfl ?_
    refine .nil ?_
    refine .sel0 [1, 2, 3, 4] (by decide) rfl ?_
    exact .round (IntKind.i64.wrap (i + 1), (l ++ ([(⟨(gt u.contingent i).src, (gt u.contingent i).dst, (gt d i), (gt d i)⟩ : Link)] : List Link)), a3, c2) hF.1 hF.2 (.cons rfl (.cons rfl (.cons rfl (.cons rfl (.cons rfl (.nil)))))) rfl (FH.le_refl _)
  replace hF := hF.2 q99
  refine .exit ?_
  refine .seqX ?_
  refine .seqX ?_
  refine .blkX ?_
  refine .seqN ?_
  refine .seq ?_
  refine .region ?_
  refine .v (ldA (cs := [.int .i64 u.network.events, .slice al2 l.length cl2]) rfl tA24 rfl (cellsB (off := 0) (k := 2) rfl (m := 2) rfl)) rfl rfl rfl ?_
  refine st (p := pv) (off := 0) (k := 1) (vs := [.int .i64 u.network.events, .slice al2 l.length cl2]) rfl rfl rfl (fun w => (tA24 w).2) rfl rfl rfl rfl ?_
  refine .cast (A' := [Box pu [.int .i64 u.network.events, .slice au u.network.links.length cu, .slice au2 u.contingent.length cu2], Box pv [.int .i64 u.network.events, .slice al2 l.length cl2], Box pn [.int .i64 u.network.events, .slice al2 l.length cl2], OwnSl 48 4 al2 l.length cl2 (flL l)]) rfl ?_
  refine .nil ?_
  refine .seqN ?_
  refine .freezeL (k := 3) rfl (fun h1 le1 q116 q115 => ?_)
  refine .cast (A' := [Box pu [.int .i64 u.network.events, .slice au u.network.links.length cu, .slice au2 u.contingent.length cu2], Box pv [.int .i64 u.network.events, .slice al2 l.length cl2], Box pn [.int .i64 u.network.events, .slice al2 l.length cl2], tru]) rfl ?_
  refine .ret ?_
  refine .res1 rfl (rvC rfl tA24 (k := 1) rfl rfl) (fun w' S => ⟨(⟨u.network.events, l⟩ : Network), (al2, cl2), h1, hF, rfl, (le1), ⟨(RSl.of q115), (q116)⟩, S.none⟩)

theorem c_fixed {h : FH} {w : World} (hs : Sub h w) (u : Uncertain) (au : Option Addr) (cu : Nat) (_q1 : RSl h au u.network.links) (_q2 : u.network.links.length ≤ cu) (au2 : Option Addr) (cu2 : Nat) (_q3 : RSl h au2 u.contingent) (_q4 : u.contingent.length ≤ cu2) (d : List Int) (ad : Option Addr) (cd : Nat) (_q5 : RSl h ad d) (_q6 : d.length ≤ cd) (hp : pre_fixed u d) : Calls Try.prog 20 #[.agg #[.int .i64 u.network.events, .slice au u.network.links.length cu, .slice au2 u.contingent.length cu2], .slice ad d.length cd] w fun e w' => ∃ (z : Option Addr × Nat) (h1 : FH), e = .returned (.agg #[.int .i64 (sp_with_ u d).events, .slice z.1 (sp_with_ u d).links.length z.2]) ∧ FH.le h h1 ∧ (RSl h1 z.1 (sp_with_ u d).links ∧ (sp_with_ u d).links.length ≤ z.2) ∧ SH (Kp.all w h) h1 w' [] :=
  (w_fixed hs u au cu _q1 _q2 au2 cu2 _q3 _q4 d ad cd _q5 _q6 (fun r => r = sp_with_ u d) (ok_fixed u d hp)).mono fun _ _ ⟨r, z, h1, hk, he, hl, hf, hS⟩ => by subst hk; exact ⟨z, h1, he, hl, hf, hS⟩

end Go.Proofs.Ytkcamohhjaibaaa.Pl
