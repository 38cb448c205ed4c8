/- The walks: from what each function asks to what it does; printed from the code. No condition. -/
import Derived.Test.YtijicdmpidbacaaW2
namespace Go.Proofs.Ytijicdmpidbacaa.Pl
open Go Go.RowKit
set_option maxHeartbeats 8000000 in
theorem w_lawMoreLinks {h : FH} {w : World} (hs : Sub h w) (n_ : Network) (an_ : Option Addr) (cn_ : Nat) (_q1 : RSl h an_ n_.links) (_q2 : n_.links.length ≤ cn_) (l : Link) (i : Int) (j : Int) (K : Bool → Prop) (hF : F_lawMoreLinks n_ l i j K) : Calls Try.prog 4 #[.agg #[.int .i64 n_.events, .slice an_ n_.links.length cn_], .agg #[.int .i64 l.src, .int .i64 l.dst, .int .i64 l.low, .int .i64 l.high], .int .i64 i, .int .i64 j] w fun e w' => ∃ r : Bool, K r ∧ e = .returned (.bool r) ∧ Below w.heap.size w w' := by
  refine enter (args := [.agg #[.int .i64 n_.events, .slice an_ n_.links.length cn_], .agg #[.int .i64 l.src, .int .i64 l.dst, .int .i64 l.low, .int .i64 l.high], .int .i64 i, .int .i64 j]) Try.func4 rfl Try.ntmps4 rfl hs ?_
  refine .seq ?_
  refine .region ?_
  refine bx (vs := [.int .i64 n_.events, .slice an_ n_.links.length cn_]) rfl rfl rfl (fun pn => ?_)
  refine bx (vs := [.int .i64 l.src, .int .i64 l.dst, .int .i64 l.low, .int .i64 l.high]) rfl rfl rfl (fun pl => ?_)
  refine .v (asg rfl) rfl rfl rfl ?_
  refine .nil ?_
  refine .seqN ?_
  refine .share (σ := Addr × Option Addr × Nat) (fun _ => F_lawMoreLinks_J1 n_ l i j K) (fun z => [(2, .int .i64 i), (3, .int .i64 j), (4, .pointer (some pn)), (9, .pointer (some z.1))]) (fun z => [Box pn [.int .i64 n_.events, .slice an_ n_.links.length cn_], Box z.1 [.int .i64 n_.events, .slice z.2.1 (((([] : List Link) ++ n_.links) ++ ([l] : List Link)).length) z.2.2], OwnSl 35 4 z.2.1 (((([] : List Link) ++ n_.links) ++ ([l] : List Link)).length) z.2.2 (flL ((([] : List Link) ++ n_.links) ++ ([l] : List Link)))]) (fun _ => h) ?_ (fun q69 => ?_)
  · rintro ⟨p, al2, cl2⟩ hF
    show J _ _ _ _ _ [(2, .int .i64 i), (3, .int .i64 j), (4, .pointer (some pn)), (9, .pointer (some p))] [Box pn [.int .i64 n_.events, .slice an_ n_.links.length cn_], Box p [.int .i64 n_.events, .slice al2 (((([] : List Link) ++ n_.links) ++ ([l] : List Link)).length) cl2], OwnSl 35 4 al2 (((([] : List Link) ++ n_.links) ++ ([l] : List Link)).length) cl2 (flL ((([] : List Link) ++ n_.links) ++ ([l] : List Link)))] h
    refine .seq ?_
    refine .region ?_
    refine .v (ldA (cs := [.int .i64 n_.events, .slice an_ n_.links.length cn_]) rfl tA24 rfl (cellsB (off := 0) (k := 0) rfl (m := 2) rfl)) rfl rfl rfl ?_
    obtain ⟨r2, q70⟩ : ∃ y_ : List (List Int) × Bool × Fault, y_ = sp_minimal n_ := ⟨_, rfl⟩
    replace hF := hF r2 q70
    refine clR (α := Option Addr × Nat) (Φ := fun h1 z => RSl h1 z.1 r2.1 ∧ r2.1.length ≤ z.2) (V := fun z => .tuple #[.slice z.1 r2.1.length z.2, .bool r2.2.1, .agg #[.int .i64 r2.2.2.code, .int .i64 r2.2.2.index]]) Try.call15 rfl rfl (fun w S => (by rw [q70]; exact c_minimal S.sub n_ an_ cn_ _q1 _q2 )) rfl (fun z h1 le1 hz => ?_)
    obtain ⟨a, c⟩ := z
    obtain ⟨q71, q72⟩ := hz
    refine .v (mv rfl) rfl rfl rfl ?_
    refine .v (ext rfl rfl) rfl rfl rfl ?_
    refine .v (ext rfl rfl) rfl rfl rfl ?_
    refine .v (ext rfl rfl) rfl rfl rfl ?_
    refine al tZ27 rfl (fun pf => ?_)
    refine .v (asg rfl) rfl rfl rfl ?_
    refine .v (asg rfl) rfl rfl rfl ?_
    refine st (p := pf) (off := 0) (k := 0) (vs := [.int .i64 r2.2.2.code, .int .i64 r2.2.2.index]) rfl rfl rfl (fun w => (tA27 w).2) rfl rfl rfl rfl ?_
    refine .cast (A' := [Box pf [.int .i64 r2.2.2.code, .int .i64 r2.2.2.index], Box pn [.int .i64 n_.events, .slice an_ n_.links.length cn_], Box p [.int .i64 n_.events, .slice al2 (((([] : List Link) ++ n_.links) ++ ([l] : List Link)).length) cl2], OwnSl 35 4 al2 (((([] : List Link) ++ n_.links) ++ ([l] : List Link)).length) cl2 (flL ((([] : List Link) ++ n_.links) ++ ([l] : List Link)))]) rfl ?_
    refine .nil ?_
    refine .seqN ?_
    refine .seq ?_
    refine .region ?_
    refine .v (ldA (cs := [.int .i64 n_.events, .slice al2 (((([] : List Link) ++ n_.links) ++ ([l] : List Link)).length) cl2]) rfl tA24 rfl (cellsB (off := 0) (k := 2) rfl (m := 2) rfl)) rfl rfl rfl ?_
    refine .freezeL (k := 3) rfl (fun h2 le2 q74 q73 => ?_)
    refine .cast (A' := [Box pf [.int .i64 r2.2.2.code, .int .i64 r2.2.2.index], Box pn [.int .i64 n_.events, .slice an_ n_.links.length cn_], Box p [.int .i64 n_.events, .slice al2 (((([] : List Link) ++ n_.links) ++ ([l] : List Link)).length) cl2], tru]) rfl ?_
    obtain ⟨r3, q75⟩ : ∃ y_ : List (List Int) × Bool × Fault, y_ = sp_minimal (⟨n_.events, ((([] : List Link) ++ n_.links) ++ ([l] : List Link))⟩ : Network) := ⟨_, rfl⟩
    replace hF := hF r3 q75
    refine clR (α := Option Addr × Nat) (Φ := fun h1 z => RSl h1 z.1 r3.1 ∧ r3.1.length ≤ z.2) (V := fun z => .tuple #[.slice z.1 r3.1.length z.2, .bool r3.2.1, .agg #[.int .i64 r3.2.2.code, .int .i64 r3.2.2.index]]) Try.call15 rfl rfl (fun w S => (by rw [q75]; exact c_minimal S.sub (⟨n_.events, ((([] : List Link) ++ n_.links) ++ ([l] : List Link))⟩ : Network) al2 cl2 (RSl.of q73) (q74) )) rfl (fun z h3 le3 hz => ?_)
    obtain ⟨a2, c2⟩ := z
    obtain ⟨q76, q77⟩ := hz
    refine .v (mv rfl) rfl rfl rfl ?_
    refine .v (ext rfl rfl) rfl rfl rfl ?_
    refine .v (ext rfl rfl) rfl rfl rfl ?_
    refine .v (ext rfl rfl) rfl rfl rfl ?_
    refine al tZ27 rfl (fun pg => ?_)
    refine .v (asg rfl) rfl rfl rfl ?_
    refine .v (asg rfl) rfl rfl rfl ?_
    refine st (p := pg) (off := 0) (k := 0) (vs := [.int .i64 r3.2.2.code, .int .i64 r3.2.2.index]) rfl rfl rfl (fun w => (tA27 w).2) rfl rfl rfl rfl ?_
    refine .cast (A' := [Box pg [.int .i64 r3.2.2.code, .int .i64 r3.2.2.index], Box pf [.int .i64 r2.2.2.code, .int .i64 r2.2.2.index], Box pn [.int .i64 n_.events, .slice an_ n_.links.length cn_], Box p [.int .i64 n_.events, .slice al2 (((([] : List Link) ++ n_.links) ++ ([l] : List Link)).length) cl2], tru]) rfl ?_
    refine .nil ?_
    refine .seqN ?_
    refine .seq ?_
    refine .share (σ := Bool) (fun z => F_lawMoreLinks_J2 n_ i j K r2 r3 z) (fun z => [(2, .int .i64 i), (3, .int .i64 j), (4, .pointer (some pn)), (10, .slice a r2.1.length c), (11, .bool r2.2.1), (13, .slice a2 r3.1.length c2), (65, .bool z)]) (fun _ => [Box pn [.int .i64 n_.events, .slice an_ n_.links.length cn_]]) (fun _ => h3) ?_ (fun q84 => ?_)
    · rintro t65 hF
      show J _ _ _ _ _ [(2, .int .i64 i), (3, .int .i64 j), (4, .pointer (some pn)), (10, .slice a r2.1.length c), (11, .bool r2.2.1), (13, .slice a2 r3.1.length c2), (65, .bool t65)] [Box pn [.int .i64 n_.events, .slice an_ n_.links.length cn_]] h3
      refine .cond rfl (fun q87 => ?_) (fun q87 => ?_)
      · replace hF := hF.1 q87
        refine .seq ?_
        refine .region ?_
        obtain ⟨r4, q88⟩ : ∃ y_ : Bool, y_ = sp_bounded := ⟨_, rfl⟩
        replace hF := hF r4 q88
        refine .c (cl (v := .bool r4) Try.call17 rfl rfl (fun w S => (by rw [q88]; exact c_bounded S.sub  ))) rfl rfl rfl ?_
        refine .v (asg rfl) rfl rfl rfl ?_
        refine .nil ?_
        refine .seqN ?_
        refine .ret ?_
        refine .seqR ?_
        refine .res1 rfl (rvT rfl) (fun w' S => ⟨r4, hF, rfl, S.below⟩)
      replace hF := hF.2 q87
      refine .skip ?_
      refine .seqN ?_
      refine .seq ?_
      refine .open_ (by kernel_rfl) (by kernel_rfl) ?_
      refine .v (mv rfl) rfl rfl rfl ?_
      refine .v (mv rfl) rfl rfl rfl ?_
      rcases Bool.eq_false_or_eq_true (r2.2.1) with q106 | q106
      · replace hF := hF.1 q106
        refine .gv (mv rfl) rfl rfl rfl q106 rfl rfl ?_
        refine .gv (ln rfl tS25.is) rfl rfl rfl q106 rfl rfl ?_
        refine .gv (fa rfl tF24_0) rfl rfl rfl q106 rfl rfl ?_
        refine .gv (ld1 rfl tO3 (cellB (off := 0) (k := 0) rfl rfl)) rfl rfl rfl q106 rfl rfl ?_
        refine .gv (bi rfl rfl rfl) rfl rfl rfl q106 rfl rfl ?_
        refine .v (pkT rfl q106 rfl) rfl rfl rfl ?_
        refine .v (mv rfl) rfl rfl rfl ?_
        rcases Bool.eq_false_or_eq_true (((r2.1.length : Nat) : Int) == n_.events) with q107 | q107
        · replace hF := hF.1 q107
          refine .gv (mv rfl) rfl rfl rfl q107 rfl rfl ?_
          refine .gv (ln rfl tS25.is) rfl rfl rfl q107 rfl rfl ?_
          refine .gv (fa rfl tF24_0) rfl rfl rfl q107 rfl rfl ?_
          refine .gv (ld1 rfl tO3 (cellB (off := 0) (k := 0) rfl rfl)) rfl rfl rfl q107 rfl rfl ?_
          refine .gv (bi rfl rfl rfl) rfl rfl rfl q107 rfl rfl ?_
          refine .v (pkT rfl q107 rfl) rfl rfl rfl ?_
          refine .v (mv rfl) rfl rfl rfl ?_
          rcases Bool.eq_false_or_eq_true (((r3.1.length : Nat) : Int) == n_.events) with q108 | q108
          · replace hF := hF.1 q108
            refine .gv (mv rfl) rfl rfl rfl q108 rfl rfl ?_
            refine .gv (mv rfl) rfl rfl rfl q108 rfl rfl ?_
            obtain ⟨q109, hF⟩ := hF
            refine .gv (ix rfl rfl tS25 (q71.ne (by decide) (inb_pos q109)) q109) rfl rfl rfl q108 rfl rfl ?_
            obtain ⟨_, ⟨a3, c3, rfl, q110, q111⟩, q112⟩ := q71.elem q109
            refine .gv (ld1 (v := .slice a3 ((gt r2.1 i).length) c3) rfl tO32 (cellH ((fun q => (q112 q).mono (FH.le_trans (le2) (le3))) (by decide) 0 _ rfl))) rfl rfl rfl q108 rfl rfl ?_
            refine .gv (ln rfl tS32.is) rfl rfl rfl q108 rfl rfl ?_
            refine .gv (fa rfl tF24_0) rfl rfl rfl q108 rfl rfl ?_
            refine .gv (ld1 rfl tO3 (cellB (off := 0) (k := 0) rfl rfl)) rfl rfl rfl q108 rfl rfl ?_
            refine .gv (bi rfl rfl rfl) rfl rfl rfl q108 rfl rfl ?_
            refine .v (pkT rfl q108 rfl) rfl rfl rfl ?_
            refine .v (mv rfl) rfl rfl rfl ?_
            rcases Bool.eq_false_or_eq_true ((((gt r2.1 i).length : Nat) : Int) == n_.events) with q113 | q113
            · replace hF := hF.1 q113
              refine .gv (mv rfl) rfl rfl rfl q113 rfl rfl ?_
              refine .gv (mv rfl) rfl rfl rfl q113 rfl rfl ?_
              obtain ⟨q114, hF⟩ := hF
              refine .gv (ix rfl rfl tS25 (q76.ne (by decide) (inb_pos q114)) q114) rfl rfl rfl q113 rfl rfl ?_
              obtain ⟨_, ⟨a4, c4, rfl, q115, q116⟩, q117⟩ := q76.elem q114
              refine .gv (ld1 (v := .slice a4 ((gt r3.1 i).length) c4) rfl tO32 (cellH (q117 (by decide) 0 _ rfl))) rfl rfl rfl q113 rfl rfl ?_
              refine .gv (ln rfl tS32.is) rfl rfl rfl q113 rfl rfl ?_
              refine .gv (fa rfl tF24_0) rfl rfl rfl q113 rfl rfl ?_
              refine .gv (ld1 rfl tO3 (cellB (off := 0) (k := 0) rfl rfl)) rfl rfl rfl q113 rfl rfl ?_
              refine .gv (bi rfl rfl rfl) rfl rfl rfl q113 rfl rfl ?_
              refine .v (pkT rfl q113 rfl) rfl rfl rfl ?_
              refine .v (mv rfl) rfl rfl rfl ?_
              rcases Bool.eq_false_or_eq_true ((((gt r3.1 i).length : Nat) : Int) == n_.events) with q118 | q118
              · replace hF := hF.1 q118
                refine .gv (mv rfl) rfl rfl rfl q118 rfl rfl ?_
                refine .gv (mv rfl) rfl rfl rfl q118 rfl rfl ?_
                refine .gv (ix rfl rfl tS25 (q76.ne (by decide) (inb_pos q114)) q114) rfl rfl rfl q118 rfl rfl ?_
                refine .gv (ld1 (v := .slice a4 ((gt r3.1 i).length) c4) rfl tO32 (cellH (q117 (by decide) 0 _ rfl))) rfl rfl rfl q118 rfl rfl ?_
                refine .gv (mv rfl) rfl rfl rfl q118 rfl rfl ?_
                obtain ⟨q119, hF⟩ := hF
                refine .gv (ix rfl rfl tS32 (q116.ne (by decide) (inb_pos q119)) q119) rfl rfl rfl q118 rfl rfl ?_
                refine .gv (ld1 (v := .int .i64 (gt (gt r3.1 i) j)) rfl tO3 (cellH (q116.elemF q119 (by decide) 0 _ rfl))) rfl rfl rfl q118 rfl rfl ?_
                refine .gv (mv rfl) rfl rfl rfl q118 rfl rfl ?_
                refine .gv (mv rfl) rfl rfl rfl q118 rfl rfl ?_
                refine .gv (ix rfl rfl tS25 (q71.ne (by decide) (inb_pos q109)) q109) rfl rfl rfl q118 rfl rfl ?_
                refine .gv (ld1 (v := .slice a3 ((gt r2.1 i).length) c3) rfl tO32 (cellH ((fun q => (q112 q).mono (FH.le_trans (le2) (le3))) (by decide) 0 _ rfl))) rfl rfl rfl q118 rfl rfl ?_
                refine .gv (mv rfl) rfl rfl rfl q118 rfl rfl ?_
                obtain ⟨q120, hF⟩ := hF
                refine .gv (ix rfl rfl tS32 (q111.ne (by decide) (inb_pos q120)) q120) rfl rfl rfl q118 rfl rfl ?_
                refine .gv (ld1 (v := .int .i64 (gt (gt r2.1 i) j)) rfl tO3 (cellH ((q111.mono (FH.le_trans (le2) (le3))).elemF q120 (by decide) 0 _ rfl))) rfl rfl rfl q118 rfl rfl ?_
                refine .gv (bi rfl rfl rfl) rfl rfl rfl q118 rfl rfl ?_
                refine .v (pkT rfl q118 rfl) rfl rfl rfl ?_
                refine .v (mv rfl) rfl rfl rfl ?_
                rcases Bool.eq_false_or_eq_true (decide ((gt (gt r3.1 i) j) ≤ (gt (gt r2.1 i) j))) with q121 | q121
                · replace hF := hF.1 q121
                  obtain ⟨r5, q122⟩ : ∃ y_ : Bool, y_ = sp_bounded := ⟨_, rfl⟩
                  replace hF := hF r5 q122
                  refine .gc (cl (v := .bool r5) Try.call17 rfl rfl (fun w S => (by rw [q122]; exact c_bounded S.sub  ))) rfl rfl rfl q121 rfl rfl ?_
                  refine .v (pkT rfl q121 rfl) rfl rfl rfl ?_
                  refine .v (asg rfl) rfl rfl rfl ?_
                  refine .fin ?_
                  refine .seqN ?_
                  refine .ret ?_
                  refine .res1 rfl (rvT rfl) (fun w' S => ⟨r5, hF, rfl, S.below⟩)
                replace hF := hF.2 q121
                refine .gS rfl rfl rfl q121 rfl rfl ?_
                refine .v (pkF rfl q121 rfl) rfl rfl rfl ?_
                refine .v (asg rfl) rfl rfl rfl ?_
                refine .fin ?_
                refine .seqN ?_
                refine .ret ?_
                refine .res1 rfl (rvT rfl) (fun w' S => ⟨false, hF, rfl, S.below⟩)
              replace hF := hF.2 q118
              refine .gS rfl rfl rfl q118 rfl rfl ?_
              refine .gS rfl rfl rfl q118 rfl rfl ?_
              refine .gS rfl rfl rfl q118 rfl rfl ?_
              refine .gS rfl rfl rfl q118 rfl rfl ?_
              refine .gS rfl rfl rfl q118 rfl rfl ?_
              refine .gS rfl rfl rfl q118 rfl rfl ?_
              refine .gS rfl rfl rfl q118 rfl rfl ?_
              refine .gS rfl rfl rfl q118 rfl rfl ?_
              refine .gS rfl rfl rfl q118 rfl rfl ?_
              refine .gS rfl rfl rfl q118 rfl rfl ?_
              refine .gS rfl rfl rfl q118 rfl rfl ?_
              refine .gS rfl rfl rfl q118 rfl rfl ?_
              refine .gS rfl rfl rfl q118 rfl rfl ?_
              refine .gS rfl rfl rfl q118 rfl rfl ?_
              refine .gS rfl rfl rfl q118 rfl rfl ?_
              refine .v (pkF rfl q118 rfl) rfl rfl rfl ?_
              refine .v (mv rfl) rfl rfl rfl ?_
              refine .gS rfl rfl rfl rfl rfl rfl ?_
              refine .v (pkF rfl rfl rfl) rfl rfl rfl ?_
              refine .v (asg rfl) rfl rfl rfl ?_
              refine .fin ?_
              refine .seqN ?_
              refine .ret ?_
              refine .res1 rfl (rvT rfl) (fun w' S => ⟨false, hF, rfl, S.below⟩)
            replace hF := hF.2 q113
            refine .gS rfl rfl rfl q113 rfl rfl ?_
            refine .gS rfl rfl rfl q113 rfl rfl ?_
            refine .gS rfl rfl rfl q113 rfl rfl ?_
            refine .gS rfl rfl rfl q113 rfl rfl ?_
            refine .gS rfl rfl rfl q113 rfl rfl ?_
            refine .gS rfl rfl rfl q113 rfl rfl ?_
            refine .gS rfl rfl rfl q113 rfl rfl ?_
            refine .gS rfl rfl rfl q113 rfl rfl ?_
            refine .v (pkF rfl q113 rfl) rfl rfl rfl ?_
            refine .v (mv rfl) rfl rfl rfl ?_
            refine .gS rfl rfl rfl rfl rfl rfl ?_
            refine .gS rfl rfl rfl rfl rfl rfl ?_
            refine .gS rfl rfl rfl rfl rfl rfl ?_
            refine .gS rfl rfl rfl rfl rfl rfl ?_
            refine .gS rfl rfl rfl rfl rfl rfl ?_
            refine .gS rfl rfl rfl rfl rfl rfl ?_
            refine .gS rfl rfl rfl rfl rfl rfl ?_
            refine .gS rfl rfl rfl rfl rfl rfl ?_
            refine .gS rfl rfl rfl rfl rfl rfl ?_
            refine .gS rfl rfl rfl rfl rfl rfl ?_
            refine .gS rfl rfl rfl rfl rfl rfl ?_
            refine .gS rfl rfl rfl rfl rfl rfl ?_
            refine .gS rfl rfl rfl rfl rfl rfl ?_
            refine .gS rfl rfl rfl rfl rfl rfl ?_
            refine .gS rfl rfl rfl rfl rfl rfl ?_
            refine .v (pkF rfl rfl rfl) rfl rfl rfl ?_
            refine .v (mv rfl) rfl rfl rfl ?_
            refine .gS rfl rfl rfl rfl rfl rfl ?_
            refine .v (pkF rfl rfl rfl) rfl rfl rfl ?_
            refine .v (asg rfl) rfl rfl rfl ?_
            refine .fin ?_
            refine .seqN ?_
            refine .ret ?_
            refine .res1 rfl (rvT rfl) (fun w' S => ⟨false, hF, rfl, S.below⟩)
          replace hF := hF.2 q108
          refine .gS rfl rfl rfl q108 rfl rfl ?_
          refine .gS rfl rfl rfl q108 rfl rfl ?_
          refine .gS rfl rfl rfl q108 rfl rfl ?_
          refine .gS rfl rfl rfl q108 rfl rfl ?_
          refine .gS rfl rfl rfl q108 rfl rfl ?_
          refine .gS rfl rfl rfl q108 rfl rfl ?_
          refine .gS rfl rfl rfl q108 rfl rfl ?_
          refine .gS rfl rfl rfl q108 rfl rfl ?_
          refine .v (pkF rfl q108 rfl) rfl rfl rfl ?_
          refine .v (mv rfl) rfl rfl rfl ?_
          refine .gS rfl rfl rfl rfl rfl rfl ?_
          refine .gS rfl rfl rfl rfl rfl rfl ?_
          refine .gS rfl rfl rfl rfl rfl rfl ?_
          refine .gS rfl rfl rfl rfl rfl rfl ?_
          refine .gS rfl rfl rfl rfl rfl rfl ?_
          refine .gS rfl rfl rfl rfl rfl rfl ?_
          refine .gS rfl rfl rfl rfl rfl rfl ?_
          refine .gS rfl rfl rfl rfl rfl rfl ?_
          refine .v (pkF rfl rfl rfl) rfl rfl rfl ?_
          refine .v (mv rfl) rfl rfl rfl ?_
          refine .gS rfl rfl rfl rfl rfl rfl ?_
          refine .gS rfl rfl rfl rfl rfl rfl ?_
          refine .gS rfl rfl rfl rfl rfl rfl ?_
          refine .gS rfl rfl rfl rfl rfl rfl ?_
          refine .gS rfl rfl rfl rfl rfl rfl ?_
          refine .gS rfl rfl rfl rfl rfl rfl ?_
          refine .gS rfl rfl rfl rfl rfl rfl ?_
          refine .gS rfl rfl rfl rfl rfl rfl ?_
          refine .gS rfl rfl rfl rfl rfl rfl ?_
          refine .gS rfl rfl rfl rfl rfl rfl ?_
          refine .gS rfl rfl rfl rfl rfl rfl ?_
          refine .gS rfl rfl rfl rfl rfl rfl ?_
          refine .gS rfl rfl rfl rfl rfl rfl ?_
          refine .gS rfl rfl rfl rfl rfl rfl ?_
          refine .gS rfl rfl rfl rfl rfl rfl ?_
          refine .v (pkF rfl rfl rfl) rfl rfl rfl ?_
          refine .v (mv rfl) rfl rfl rfl ?_
          refine .gS rfl rfl rfl rfl rfl rfl ?_
          refine .v (pkF rfl rfl rfl) rfl rfl rfl ?_
          refine .v (asg rfl) rfl rfl rfl ?_
          refine .fin ?_
          refine .seqN ?_
          refine .ret ?_
          refine .res1 rfl (rvT rfl) (fun w' S => ⟨false, hF, rfl, S.below⟩)
        replace hF := hF.2 q107
        refine .gS rfl rfl rfl q107 rfl rfl ?_
        refine .gS rfl rfl rfl q107 rfl rfl ?_
        refine .gS rfl rfl rfl q107 rfl rfl ?_
        refine .gS rfl rfl rfl q107 rfl rfl ?_
        refine .gS rfl rfl rfl q107 rfl rfl ?_
        refine .v (pkF rfl q107 rfl) rfl rfl rfl ?_
        refine .v (mv rfl) rfl rfl rfl ?_
        refine .gS rfl rfl rfl rfl rfl rfl ?_
        refine .gS rfl rfl rfl rfl rfl rfl ?_
        refine .gS rfl rfl rfl rfl rfl rfl ?_
        refine .gS rfl rfl rfl rfl rfl rfl ?_
        refine .gS rfl rfl rfl rfl rfl rfl ?_
        refine .gS rfl rfl rfl rfl rfl rfl ?_
        refine .gS rfl rfl rfl rfl rfl rfl ?_
        refine .gS rfl rfl rfl rfl rfl rfl ?_
        refine .v (pkF rfl rfl rfl) rfl rfl rfl ?_
        refine .v (mv rfl) rfl rfl rfl ?_
        refine .gS rfl rfl rfl rfl rfl rfl ?_
        refine .gS rfl rfl rfl rfl rfl rfl ?_
        refine .gS rfl rfl rfl rfl rfl rfl ?_
        refine .gS rfl rfl rfl rfl rfl rfl ?_
        refine .gS rfl rfl rfl rfl rfl rfl ?_
        refine .gS rfl rfl rfl rfl rfl rfl ?_
        refine .gS rfl rfl rfl rfl rfl rfl ?_
        refine .gS rfl rfl rfl rfl rfl rfl ?_
        refine .v (pkF rfl rfl rfl) rfl rfl rfl ?_
        refine .v (mv rfl) rfl rfl rfl ?_
        refine .gS rfl rfl rfl rfl rfl rfl ?_
        refine .gS rfl rfl rfl rfl rfl rfl ?_
        refine .gS rfl rfl rfl rfl rfl rfl ?_
        refine .gS rfl rfl rfl rfl rfl rfl ?_
        refine .gS rfl rfl rfl rfl rfl rfl ?_
        refine .gS rfl rfl rfl rfl rfl rfl ?_
        refine .gS rfl rfl rfl rfl rfl rfl ?_
        refine .gS rfl rfl rfl rfl rfl rfl ?_
        refine .gS rfl rfl rfl rfl rfl rfl ?_
        refine .gS rfl rfl rfl rfl rfl rfl ?_
        refine .gS rfl rfl rfl rfl rfl rfl ?_
        refine .gS rfl rfl rfl rfl rfl rfl ?_
        refine .gS rfl rfl rfl rfl rfl rfl ?_
        refine .gS rfl rfl rfl rfl rfl rfl ?_
        refine .gS rfl rfl rfl rfl rfl rfl ?_
        refine .v (pkF rfl rfl rfl) rfl rfl rfl ?_
        refine .v (mv rfl) rfl rfl rfl ?_
        refine .gS rfl rfl rfl rfl rfl rfl ?_
        refine .v (pkF rfl rfl rfl) rfl rfl rfl ?_
        refine .v (asg rfl) rfl rfl rfl ?_
        refine .fin ?_
        refine .seqN ?_
        refine .ret ?_
        refine .res1 rfl (rvT rfl) (fun w' S => ⟨false, hF, rfl, S.below⟩)
      replace hF := hF.2 q106
      refine .gS rfl rfl rfl q106 rfl rfl ?_
      refine .gS rfl rfl rfl q106 rfl rfl ?_
      refine .gS rfl rfl rfl q106 rfl rfl ?_
      refine .gS rfl rfl rfl q106 rfl rfl ?_
      refine .gS rfl rfl rfl q106 rfl rfl ?_
      refine .v (pkF rfl q106 rfl) rfl rfl rfl ?_
      refine .v (mv rfl) rfl rfl rfl ?_
      refine .gS rfl rfl rfl rfl rfl rfl ?_
      refine .gS rfl rfl rfl rfl rfl rfl ?_
      refine .gS rfl rfl rfl rfl rfl rfl ?_
      refine .gS rfl rfl rfl rfl rfl rfl ?_
      refine .gS rfl rfl rfl rfl rfl rfl ?_
      refine .v (pkF rfl rfl rfl) rfl rfl rfl ?_
      refine .v (mv rfl) rfl rfl rfl ?_
      refine .gS rfl rfl rfl rfl rfl rfl ?_
      refine .gS rfl rfl rfl rfl rfl rfl ?_
      refine .gS rfl rfl rfl rfl rfl rfl ?_
      refine .gS rfl rfl rfl rfl rfl rfl ?_
      refine .gS rfl rfl rfl rfl rfl rfl ?_
      refine .gS rfl rfl rfl rfl rfl rfl ?_
      refine .gS rfl rfl rfl rfl rfl rfl ?_
      refine .gS rfl rfl rfl rfl rfl rfl ?_
      refine .v (pkF rfl rfl rfl) rfl rfl rfl ?_
      refine .v (mv rfl) rfl rfl rfl ?_
      refine .gS rfl rfl rfl rfl rfl rfl ?_
      refine .gS rfl rfl rfl rfl rfl rfl ?_
      refine .gS rfl rfl rfl rfl rfl rfl ?_
      refine .gS rfl rfl rfl rfl rfl rfl ?_
      refine .gS rfl rfl rfl rfl rfl rfl ?_
      refine .gS rfl rfl rfl rfl rfl rfl ?_
      refine .gS rfl rfl rfl rfl rfl rfl ?_
      refine .gS rfl rfl rfl rfl rfl rfl ?_
      refine .v (pkF rfl rfl rfl) rfl rfl rfl ?_
      refine .v (mv rfl) rfl rfl rfl ?_
      refine .gS rfl rfl rfl rfl rfl rfl ?_
      refine .gS rfl rfl rfl rfl rfl rfl ?_
      refine .gS rfl rfl rfl rfl rfl rfl ?_
      refine .gS rfl rfl rfl rfl rfl rfl ?_
      refine .gS rfl rfl rfl rfl rfl rfl ?_
      refine .gS rfl rfl rfl rfl rfl rfl ?_
      refine .gS rfl rfl rfl rfl rfl rfl ?_
      refine .gS rfl rfl rfl rfl rfl rfl ?_
      refine .gS rfl rfl rfl rfl rfl rfl ?_
      refine .gS rfl rfl rfl rfl rfl rfl ?_
      refine .gS rfl rfl rfl rfl rfl rfl ?_
      refine .gS rfl rfl rfl rfl rfl rfl ?_
      refine .gS rfl rfl rfl rfl rfl rfl ?_
      refine .gS rfl rfl rfl rfl rfl rfl ?_
      refine .gS rfl rfl rfl rfl rfl rfl ?_
      refine .v (pkF rfl rfl rfl) rfl rfl rfl ?_
      refine .v (mv rfl) rfl rfl rfl ?_
      refine .gS rfl rfl rfl rfl rfl rfl ?_
      refine .v (pkF rfl rfl rfl) rfl rfl rfl ?_
      refine .v (asg rfl) rfl rfl rfl ?_
      refine .fin ?_
      refine .seqN ?_
      refine .ret ?_
      refine .res1 rfl (rvT rfl) (fun w' S => ⟨false, hF, rfl, S.below⟩)
    refine .region ?_
    refine .v (fa rfl tF27_0) rfl rfl rfl ?_
    refine .v (ld1 rfl tO3 (cellB (off := 0) (k := 1) rfl rfl)) rfl rfl rfl ?_
    refine .v (bi rfl rfl rfl) rfl rfl rfl ?_
    refine .v (mv rfl) rfl rfl rfl ?_
    rcases Bool.eq_false_or_eq_true (r2.2.2.code != 0) with q123 | q123
    · replace hF := hF.1 q123
      refine .gS rfl rfl rfl q123 rfl rfl ?_
      refine .gS rfl rfl rfl q123 rfl rfl ?_
      refine .gS rfl rfl rfl q123 rfl rfl ?_
      refine .v (pkT rfl q123 rfl) rfl rfl rfl ?_
      refine .v (mv rfl) rfl rfl rfl ?_
      refine .gS rfl rfl rfl rfl rfl rfl ?_
      refine .gS rfl rfl rfl rfl rfl rfl ?_
      refine .v (pkT rfl rfl rfl) rfl rfl rfl ?_
      refine .v (mv rfl) rfl rfl rfl ?_
      refine .gS rfl rfl rfl rfl rfl rfl ?_
      refine .gS rfl rfl rfl rfl rfl rfl ?_
      refine .gS rfl rfl rfl rfl rfl rfl ?_
      refine .gS rfl rfl rfl rfl rfl rfl ?_
      refine .gS rfl rfl rfl rfl rfl rfl ?_
      refine .gS rfl rfl rfl rfl rfl rfl ?_
      refine .v (pkT rfl rfl rfl) rfl rfl rfl ?_
      refine .v (mv rfl) rfl rfl rfl ?_
      refine .gS rfl rfl rfl rfl rfl rfl ?_
      refine .gS rfl rfl rfl rfl rfl rfl ?_
      refine .gS rfl rfl rfl rfl rfl rfl ?_
      refine .gS rfl rfl rfl rfl rfl rfl ?_
      refine .gS rfl rfl rfl rfl rfl rfl ?_
      refine .gS rfl rfl rfl rfl rfl rfl ?_
      refine .v (pkT rfl rfl rfl) rfl rfl rfl ?_
      refine .nil ?_
      refine .sel0 [2] (by decide) rfl ?_
      exact .use q84 true hF (.cons rfl (.cons rfl (.cons rfl (.cons rfl (.cons rfl (.cons rfl (.cons rfl (.nil)))))))) rfl (FH.le_refl _)
    replace hF := hF.2 q123
    refine .gv (fa rfl tF27_0) rfl rfl rfl q123 rfl rfl ?_
    refine .gv (ld1 rfl tO3 (cellB (off := 0) (k := 0) rfl rfl)) rfl rfl rfl q123 rfl rfl ?_
    refine .gv (bi rfl rfl rfl) rfl rfl rfl q123 rfl rfl ?_
    refine .v (pkF rfl q123 rfl) rfl rfl rfl ?_
    refine .v (mv rfl) rfl rfl rfl ?_
    rcases Bool.eq_false_or_eq_true (r3.2.2.code != 0) with q124 | q124
    · replace hF := hF.1 q124
      refine .gS rfl rfl rfl q124 rfl rfl ?_
      refine .gS rfl rfl rfl q124 rfl rfl ?_
      refine .v (pkT rfl q124 rfl) rfl rfl rfl ?_
      refine .v (mv rfl) rfl rfl rfl ?_
      refine .gS rfl rfl rfl rfl rfl rfl ?_
      refine .gS rfl rfl rfl rfl rfl rfl ?_
      refine .gS rfl rfl rfl rfl rfl rfl ?_
      refine .gS rfl rfl rfl rfl rfl rfl ?_
      refine .gS rfl rfl rfl rfl rfl rfl ?_
      refine .gS rfl rfl rfl rfl rfl rfl ?_
      refine .v (pkT rfl rfl rfl) rfl rfl rfl ?_
      refine .v (mv rfl) rfl rfl rfl ?_
      refine .gS rfl rfl rfl rfl rfl rfl ?_
      refine .gS rfl rfl rfl rfl rfl rfl ?_
      refine .gS rfl rfl rfl rfl rfl rfl ?_
      refine .gS rfl rfl rfl rfl rfl rfl ?_
      refine .gS rfl rfl rfl rfl rfl rfl ?_
      refine .gS rfl rfl rfl rfl rfl rfl ?_
      refine .v (pkT rfl rfl rfl) rfl rfl rfl ?_
      refine .nil ?_
      refine .sel0 [2] (by decide) rfl ?_
      exact .use q84 true hF (.cons rfl (.cons rfl (.cons rfl (.cons rfl (.cons rfl (.cons rfl (.cons rfl (.nil)))))))) rfl (FH.le_refl _)
    replace hF := hF.2 q124
    refine .gv (mv rfl) rfl rfl rfl q124 rfl rfl ?_
    refine .gv (nt rfl) rfl rfl rfl q124 rfl rfl ?_
    refine .v (pkF rfl q124 rfl) rfl rfl rfl ?_
    refine .v (mv rfl) rfl rfl rfl ?_
    rcases Bool.eq_false_or_eq_true (!r3.2.1) with q125 | q125
    · replace hF := hF.1 q125
      refine .gS rfl rfl rfl q125 rfl rfl ?_
      refine .gS rfl rfl rfl q125 rfl rfl ?_
      refine .gS rfl rfl rfl q125 rfl rfl ?_
      refine .gS rfl rfl rfl q125 rfl rfl ?_
      refine .gS rfl rfl rfl q125 rfl rfl ?_
      refine .gS rfl rfl rfl q125 rfl rfl ?_
      refine .v (pkT rfl q125 rfl) rfl rfl rfl ?_
      refine .v (mv rfl) rfl rfl rfl ?_
      refine .gS rfl rfl rfl rfl rfl rfl ?_
      refine .gS rfl rfl rfl rfl rfl rfl ?_
      refine .gS rfl rfl rfl rfl rfl rfl ?_
      refine .gS rfl rfl rfl rfl rfl rfl ?_
      refine .gS rfl rfl rfl rfl rfl rfl ?_
      refine .gS rfl rfl rfl rfl rfl rfl ?_
      refine .v (pkT rfl rfl rfl) rfl rfl rfl ?_
      refine .nil ?_
      refine .sel0 [2] (by decide) rfl ?_
      exact .use q84 true hF (.cons rfl (.cons rfl (.cons rfl (.cons rfl (.cons rfl (.cons rfl (.cons rfl (.nil)))))))) rfl (FH.le_refl _)
    replace hF := hF.2 q125
    refine .gv (mv rfl) rfl rfl rfl q125 rfl rfl ?_
    refine .gv (fa rfl tF24_0) rfl rfl rfl q125 rfl rfl ?_
    refine .gv (ld1 rfl tO3 (cellB (off := 0) (k := 2) rfl rfl)) rfl rfl rfl q125 rfl rfl ?_
    refine .gv (bi rfl rfl rfl) rfl rfl rfl q125 rfl rfl ?_
    obtain ⟨r6, q126⟩ : ∃ y_ : Bool, y_ = sp_in_ i 0 (IntKind.i64.wrap (n_.events - 1)) := ⟨_, rfl⟩
    replace hF := hF r6 q126
    refine .gc (cl (v := .bool r6) Try.call16 rfl rfl (fun w S => (by rw [q126]; exact c_in_ S.sub i 0 (IntKind.i64.wrap (n_.events - 1)) ))) rfl rfl rfl q125 rfl rfl ?_
    refine .gv (nt rfl) rfl rfl rfl q125 rfl rfl ?_
    refine .v (pkF rfl q125 rfl) rfl rfl rfl ?_
    refine .v (mv rfl) rfl rfl rfl ?_
    rcases Bool.eq_false_or_eq_true (!r6) with q127 | q127
    · replace hF := hF.1 q127
      refine .gS rfl rfl rfl q127 rfl rfl ?_
      refine .gS rfl rfl rfl q127 rfl rfl ?_
      refine .gS rfl rfl rfl q127 rfl rfl ?_
      refine .gS rfl rfl rfl q127 rfl rfl ?_
      refine .gS rfl rfl rfl q127 rfl rfl ?_
      refine .gS rfl rfl rfl q127 rfl rfl ?_
      refine .v (pkT rfl q127 rfl) rfl rfl rfl ?_
      refine .nil ?_
      refine .sel0 [2] (by decide) rfl ?_
      exact .use q84 true hF (.cons rfl (.cons rfl (.cons rfl (.cons rfl (.cons rfl (.cons rfl (.cons rfl (.nil)))))))) rfl (FH.le_refl _)
    replace hF := hF.2 q127
    refine .gv (mv rfl) rfl rfl rfl q127 rfl rfl ?_
    refine .gv (fa rfl tF24_0) rfl rfl rfl q127 rfl rfl ?_
    refine .gv (ld1 rfl tO3 (cellB (off := 0) (k := 2) rfl rfl)) rfl rfl rfl q127 rfl rfl ?_
    refine .gv (bi rfl rfl rfl) rfl rfl rfl q127 rfl rfl ?_
    obtain ⟨r7, q128⟩ : ∃ y_ : Bool, y_ = sp_in_ j 0 (IntKind.i64.wrap (n_.events - 1)) := ⟨_, rfl⟩
    replace hF := hF r7 q128
    refine .gc (cl (v := .bool r7) Try.call16 rfl rfl (fun w S => (by rw [q128]; exact c_in_ S.sub j 0 (IntKind.i64.wrap (n_.events - 1)) ))) rfl rfl rfl q127 rfl rfl ?_
    refine .gv (nt rfl) rfl rfl rfl q127 rfl rfl ?_
    refine .v (pkF rfl q127 rfl) rfl rfl rfl ?_
    refine .nil ?_
    refine .sel0 [2] (by decide) rfl ?_
    exact .use q84 (!r7) hF (.cons rfl (.cons rfl (.cons rfl (.cons rfl (.cons rfl (.cons rfl (.cons rfl (.nil)))))))) rfl (FH.le_refl _)
  refine .openA (s0 := [(2, .int .i64 i), (3, .int .i64 j), (4, .pointer (some pn)), (5, .pointer (some pl))]) [0, 1, 3, 4, 6] [(0, .pointer (some (pn.add 0))), (1, .int .i64 n_.events), (3, .pointer (some (pn.add 1))), (4, .slice an_ n_.links.length cn_), (6, .agg #[.int .i64 l.src, .int .i64 l.dst, .int .i64 l.low, .int .i64 l.high])] (by kernel_rfl) (.cons rfl (.cons rfl (.cons rfl (.cons rfl (.nil))))) [2, 3, 4, 5] [] rfl (by kernel_rfl) ?_
  refine .step [2, 7, 10] 2 rfl (by kernel_rfl) (by kernel_rfl) (.v [] rfl rfl rfl rfl rfl rfl (fun _ => fa rfl tF24_0) (.v [(16, .pointer (some (pn.add 0)))] rfl rfl rfl rfl rfl rfl (fun _ => ld1 rfl tO3 (cellB (off := 0) (k := 1) rfl rfl)) (.v [] rfl rfl rfl rfl rfl rfl (fun _ => fa rfl tF24_1) (.v [(19, .pointer (some (pn.add 1)))] rfl rfl rfl rfl rfl rfl (fun _ => ld1 rfl tO22 (cellB (off := 1) (k := 1) rfl rfl)) (.v [] rfl rfl rfl rfl rfl rfl (fun _ => ldA (cs := [.int .i64 l.src, .int .i64 l.dst, .int .i64 l.low, .int .i64 l.high]) rfl tA35 rfl (cellsB (off := 0) (k := 0) rfl (m := 4) rfl)) (.nil)))))) (.cons [] rfl rfl (fun sL hL => ?_) (.cons [(22, .agg #[.int .i64 l.src, .int .i64 l.dst, .int .i64 l.low, .int .i64 l.high])] rfl rfl (fun sL hL => ?_) (.cons [] rfl rfl (fun sL hL => ?_) (.nil))))
  · refine bs2 (cs := #[]) (pv := []) tS22 rfl rfl (by decide) (by decide) rfl rfl rfl (fun a5 _ => ?_)
    refine .cast (A' := [OwnSl 35 4 a5 (([] : List Link).length) 0 (flL ([] : List Link)), Box pl [.int .i64 l.src, .int .i64 l.dst, .int .i64 l.low, .int .i64 l.high], Box pn [.int .i64 n_.events, .slice an_ n_.links.length cn_]]) rfl ?_
    refine .nil ?_
    refine .ja (M := []) (C' := [0, 1, 3, 4, 6]) (pre := [(2, .slice a5 (([] : List Link).length) 0)]) [(2, .int .i64 i), (3, .int .i64 j), (4, .pointer (some pn)), (5, .pointer (some pl))] [2, 3, 4, 5] hL rfl rfl rfl rfl rfl (.cons rfl (.cons rfl (.cons rfl (.cons rfl (.nil))))) rfl rfl (by kernel_rfl) ?_
    refine .step [5, 7, 10] 5 rfl (by kernel_rfl) (by kernel_rfl) (.v [] rfl rfl rfl rfl rfl rfl (fun _ => fa rfl tF24_0) (.v [(16, .pointer (some (pn.add 0)))] rfl rfl rfl rfl rfl rfl (fun _ => ld1 rfl tO3 (cellB (off := 0) (k := 2) rfl rfl)) (.v [] rfl rfl rfl rfl rfl rfl (fun _ => fa rfl tF24_1) (.v [(19, .pointer (some (pn.add 1)))] rfl rfl rfl rfl rfl rfl (fun _ => ld1 rfl tO22 (cellB (off := 1) (k := 2) rfl rfl)) (.v [] rfl rfl rfl rfl rfl rfl (fun _ => ldA (cs := [.int .i64 l.src, .int .i64 l.dst, .int .i64 l.low, .int .i64 l.high]) rfl tA35 rfl (cellsB (off := 0) (k := 1) rfl (m := 4) rfl)) (.nil)))))) (.cons [(18, .slice a5 (([] : List Link).length) 0), (20, .slice an_ n_.links.length cn_)] rfl rfl (fun sL hL => ?_) (.cons [(22, .agg #[.int .i64 l.src, .int .i64 l.dst, .int .i64 l.low, .int .i64 l.high])] rfl rfl (fun sL hL => ?_) (.cons [] rfl rfl (fun sL hL => ?_) (.nil))))
    · obtain ⟨q130, hF⟩ := hF
      have q131 : ([] : List Link).length + n_.links.length = ((([] : List Link) ++ n_.links)).length := len_app rfl rfl
      refine app (k := 0) (news := flL n_.links) (cs' := flL (([] : List Link) ++ n_.links)) (nm := ((([] : List Link) ++ n_.links)).length) tS22 rfl (by decide) rfl rfl rfl (by rw [flL_len]; rfl) (srcH (fun q => _q1.ne (by decide) q) (_q1.raw)) (flL_one _) (room_of q131 q130).1 (room_of q131 q130).2 q131 (flL_append _ _).symm rfl (fun a6 c5 => ?_)
      refine .cast (A' := [OwnSl 35 4 a6 ((([] : List Link) ++ n_.links).length) c5 (flL (([] : List Link) ++ n_.links)), Box pl [.int .i64 l.src, .int .i64 l.dst, .int .i64 l.low, .int .i64 l.high], Box pn [.int .i64 n_.events, .slice an_ n_.links.length cn_]]) rfl ?_
      refine .nil ?_
      refine .ja (M := [4, 3]) (C' := [0, 1, 6]) (pre := [(5, .slice a6 ((([] : List Link) ++ n_.links).length) c5)]) [(2, .int .i64 i), (3, .int .i64 j), (4, .pointer (some pn)), (5, .pointer (some pl))] [2, 3, 4, 5] hL rfl rfl rfl rfl rfl (.cons rfl (.cons rfl (.cons rfl (.cons rfl (.nil))))) rfl rfl (by kernel_rfl) ?_
      refine .step [7, 10] 7 rfl (by kernel_rfl) (by kernel_rfl) (.v [] rfl rfl rfl rfl rfl rfl (fun _ => fa rfl tF24_0) (.v [(16, .pointer (some (pn.add 0)))] rfl rfl rfl rfl rfl rfl (fun _ => ld1 rfl tO3 (cellB (off := 0) (k := 2) rfl rfl)) (.v [] rfl rfl rfl rfl rfl rfl (fun _ => ldA (cs := [.int .i64 l.src, .int .i64 l.dst, .int .i64 l.low, .int .i64 l.high]) rfl tA35 rfl (cellsB (off := 0) (k := 1) rfl (m := 4) rfl)) (.nil)))) (.cons [(22, .agg #[.int .i64 l.src, .int .i64 l.dst, .int .i64 l.low, .int .i64 l.high])] rfl rfl (fun sL hL => ?_) (.cons [] rfl rfl (fun sL hL => ?_) (.nil)))
      · refine bs2 (cs := #[.int .i64 l.src, .int .i64 l.dst, .int .i64 l.low, .int .i64 l.high]) (pv := [(0, .agg #[.int .i64 l.src, .int .i64 l.dst, .int .i64 l.low, .int .i64 l.high])]) tS22 rfl rfl (by decide) (by decide) rfl rfl rfl (fun a7 _ => ?_)
        refine .cast (A' := [OwnSl 35 4 a7 (([l] : List Link).length) 1 (flL ([l] : List Link)), OwnSl 35 4 a6 ((([] : List Link) ++ n_.links).length) c5 (flL (([] : List Link) ++ n_.links)), Box pl [.int .i64 l.src, .int .i64 l.dst, .int .i64 l.low, .int .i64 l.high], Box pn [.int .i64 n_.events, .slice an_ n_.links.length cn_]]) rfl ?_
        refine .nil ?_
        refine .ja (M := [6]) (C' := [0, 1]) (pre := [(7, .slice a7 (([l] : List Link).length) 1)]) [(2, .int .i64 i), (3, .int .i64 j), (4, .pointer (some pn)), (5, .pointer (some pl))] [2, 3, 4, 5] hL rfl rfl rfl rfl rfl (.cons rfl (.cons rfl (.cons rfl (.cons rfl (.nil))))) rfl rfl (by kernel_rfl) ?_
        refine .step [8, 10] 8 rfl (by kernel_rfl) (by kernel_rfl) (.v [] rfl rfl rfl rfl rfl rfl (fun _ => fa rfl tF24_0) (.v [(16, .pointer (some (pn.add 0)))] rfl rfl rfl rfl rfl rfl (fun _ => ld1 rfl tO3 (cellB (off := 0) (k := 3) rfl rfl)) (.nil))) (.cons [(21, .slice a6 ((([] : List Link) ++ n_.links).length) c5), (23, .slice a7 (([l] : List Link).length) 1), (21, .slice a6 ((([] : List Link) ++ n_.links).length) c5)] rfl rfl (fun sL hL => ?_) (.cons [] rfl rfl (fun sL hL => ?_) (.nil)))
        · obtain ⟨q133, hF⟩ := hF
          have q134 : (([] : List Link) ++ n_.links).length + ([l] : List Link).length = (((([] : List Link) ++ n_.links) ++ ([l] : List Link))).length := len_app rfl rfl
          refine app (k := 1) (news := flL ([l] : List Link)) (cs' := flL ((([] : List Link) ++ n_.links) ++ ([l] : List Link))) (nm := (((([] : List Link) ++ n_.links) ++ ([l] : List Link))).length) tS22 rfl (by decide) rfl rfl rfl (by rw [flL_len]; rfl) (srcS (k := 0) rfl) (flL_one _) (room_of q134 q133).1 (room_of q134 q133).2 q134 (flL_append _ _).symm rfl (fun a8 c6 => ?_)
          refine .cast (A' := [OwnSl 35 4 a7 (([l] : List Link).length) 1 (flL ([l] : List Link)), OwnSl 35 4 a8 (((([] : List Link) ++ n_.links) ++ ([l] : List Link)).length) c6 (flL ((([] : List Link) ++ n_.links) ++ ([l] : List Link))), Box pl [.int .i64 l.src, .int .i64 l.dst, .int .i64 l.low, .int .i64 l.high], Box pn [.int .i64 n_.events, .slice an_ n_.links.length cn_]]) rfl ?_
          refine .nil ?_
          refine .ja (M := []) (C' := [0, 1, 9]) (pre := [(8, .slice a8 (((([] : List Link) ++ n_.links) ++ ([l] : List Link)).length) c6), (9, .agg #[.int .i64 n_.events, .slice a8 (((([] : List Link) ++ n_.links) ++ ([l] : List Link)).length) c6])]) [(2, .int .i64 i), (3, .int .i64 j), (4, .pointer (some pn)), (5, .pointer (some pl))] [2, 3, 4, 5] hL rfl rfl rfl rfl rfl (.cons rfl (.cons rfl (.cons rfl (.cons rfl (.nil))))) rfl rfl (by kernel_rfl) ?_
          refine .step [10] 10 rfl (by kernel_rfl) (by kernel_rfl) (.v [] rfl rfl rfl rfl rfl rfl (fun _ => fa rfl tF24_0) (.v [(16, .pointer (some (pn.add 0)))] rfl rfl rfl rfl rfl rfl (fun _ => ld1 rfl tO3 (cellB (off := 0) (k := 3) rfl rfl)) (.v [(17, .int .i64 n_.events), (24, .slice a8 (((([] : List Link) ++ n_.links) ++ ([l] : List Link)).length) c6)] rfl rfl rfl rfl rfl rfl (fun _ => bld (cs := #[.int .i64 n_.events, .slice a8 (((([] : List Link) ++ n_.links) ++ ([l] : List Link)).length) c6]) (pv := [(0, .int .i64 n_.events), (1, .slice a8 (((([] : List Link) ++ n_.links) ++ ([l] : List Link)).length) c6)]) tB24 rfl rfl) (.nil)))) (.cons [] rfl rfl (fun sL hL => ?_) (.nil))
          refine al tZ24 rfl (fun pm => ?_)
          refine .nil ?_
          refine .ja (M := []) (C' := [0, 1, 9]) (pre := [(10, .pointer (some pm))]) [(2, .int .i64 i), (3, .int .i64 j), (4, .pointer (some pn)), (5, .pointer (some pl))] [2, 3, 4, 5] hL rfl rfl rfl rfl rfl (.cons rfl (.cons rfl (.cons rfl (.cons rfl (.nil))))) rfl rfl (by kernel_rfl) ?_
          refine .step [11] 11 rfl (by kernel_rfl) (by kernel_rfl) (.v [] rfl rfl rfl rfl rfl rfl (fun _ => fa rfl tF24_0) (.v [(16, .pointer (some (pn.add 0)))] rfl rfl rfl rfl rfl rfl (fun _ => ld1 rfl tO3 (cellB (off := 0) (k := 4) rfl rfl)) (.v [(17, .int .i64 n_.events), (24, .slice a8 (((([] : List Link) ++ n_.links) ++ ([l] : List Link)).length) c6)] rfl rfl rfl rfl rfl rfl (fun _ => bld (cs := #[.int .i64 n_.events, .slice a8 (((([] : List Link) ++ n_.links) ++ ([l] : List Link)).length) c6]) (pv := [(0, .int .i64 n_.events), (1, .slice a8 (((([] : List Link) ++ n_.links) ++ ([l] : List Link)).length) c6)]) tB24 rfl rfl) (.nil)))) (.cons [(9, .pointer (some pm)), (25, .agg #[.int .i64 n_.events, .slice a8 (((([] : List Link) ++ n_.links) ++ ([l] : List Link)).length) c6]), (24, .slice a8 (((([] : List Link) ++ n_.links) ++ ([l] : List Link)).length) c6), (16, .pointer (some (pn.add 0))), (17, .int .i64 n_.events), (18, .slice a5 (([] : List Link).length) 0), (19, .pointer (some (pn.add 1))), (20, .slice an_ n_.links.length cn_), (21, .slice a6 ((([] : List Link) ++ n_.links).length) c5), (22, .agg #[.int .i64 l.src, .int .i64 l.dst, .int .i64 l.low, .int .i64 l.high]), (23, .slice a7 (([l] : List Link).length) 1), (24, .slice a8 (((([] : List Link) ++ n_.links) ++ ([l] : List Link)).length) c6), (25, .agg #[.int .i64 n_.events, .slice a8 (((([] : List Link) ++ n_.links) ++ ([l] : List Link)).length) c6]), (9, .pointer (some pm))] rfl rfl (fun sL hL => ?_) (.nil))
          refine st (p := pm) (off := 0) (k := 0) (vs := [.int .i64 n_.events, .slice a8 (((([] : List Link) ++ n_.links) ++ ([l] : List Link)).length) c6]) rfl rfl rfl (fun w => (tA24 w).2) rfl rfl rfl rfl ?_
          refine .cast (A' := [Box pm [.int .i64 n_.events, .slice a8 (((([] : List Link) ++ n_.links) ++ ([l] : List Link)).length) c6], OwnSl 35 4 a7 (([l] : List Link).length) 1 (flL ([l] : List Link)), OwnSl 35 4 a8 (((([] : List Link) ++ n_.links) ++ ([l] : List Link)).length) c6 (flL ((([] : List Link) ++ n_.links) ++ ([l] : List Link))), Box pl [.int .i64 l.src, .int .i64 l.dst, .int .i64 l.low, .int .i64 l.high], Box pn [.int .i64 n_.events, .slice an_ n_.links.length cn_]]) rfl ?_
          refine .nil ?_
          refine .jaN (M := [9, 0, 1]) (C' := []) (pre := []) [2, 3, 4, 5] hL rfl rfl rfl rfl rfl (by kernel_rfl) ?_
          refine .last [(16, .pointer (some (pn.add 0))), (17, .int .i64 n_.events), (18, .slice a5 (([] : List Link).length) 0), (19, .pointer (some (pn.add 1))), (20, .slice an_ n_.links.length cn_), (21, .slice a6 ((([] : List Link) ++ n_.links).length) c5), (22, .agg #[.int .i64 l.src, .int .i64 l.dst, .int .i64 l.low, .int .i64 l.high]), (23, .slice a7 (([l] : List Link).length) 1), (24, .slice a8 (((([] : List Link) ++ n_.links) ++ ([l] : List Link)).length) c6), (25, .agg #[.int .i64 n_.events, .slice a8 (((([] : List Link) ++ n_.links) ++ ([l] : List Link)).length) c6]), (9, .pointer (some pm))] rfl (by kernel_rfl) (.nil) rfl ?_
          refine .sel0 [4, 0, 2] (by decide) rfl ?_
          exact .use q69 (pm, a8, c6) hF (.cons rfl (.cons rfl (.cons rfl (.cons rfl (.nil))))) rfl (FH.le_refl _)
        · refine al tZ24 rfl (fun pm => ?_)
          refine .nil ?_
          refine .ja (M := []) (C' := [0, 1]) (pre := [(10, .pointer (some pm))]) [(2, .int .i64 i), (3, .int .i64 j), (4, .pointer (some pn)), (5, .pointer (some pl))] [2, 3, 4, 5] hL rfl rfl rfl rfl rfl (.cons rfl (.cons rfl (.cons rfl (.cons rfl (.nil))))) rfl rfl (by kernel_rfl) ?_
          refine .step [8] 8 rfl (by kernel_rfl) (by kernel_rfl) (.v [] rfl rfl rfl rfl rfl rfl (fun _ => fa rfl tF24_0) (.v [(16, .pointer (some (pn.add 0)))] rfl rfl rfl rfl rfl rfl (fun _ => ld1 rfl tO3 (cellB (off := 0) (k := 4) rfl rfl)) (.nil))) (.cons [(21, .slice a6 ((([] : List Link) ++ n_.links).length) c5), (23, .slice a7 (([l] : List Link).length) 1), (21, .slice a6 ((([] : List Link) ++ n_.links).length) c5)] rfl rfl (fun sL hL => ?_) (.nil))
          obtain ⟨q135, hF⟩ := hF
          have q136 : (([] : List Link) ++ n_.links).length + ([l] : List Link).length = (((([] : List Link) ++ n_.links) ++ ([l] : List Link))).length := len_app rfl rfl
          refine app (k := 2) (news := flL ([l] : List Link)) (cs' := flL ((([] : List Link) ++ n_.links) ++ ([l] : List Link))) (nm := (((([] : List Link) ++ n_.links) ++ ([l] : List Link))).length) tS22 rfl (by decide) rfl rfl rfl (by rw [flL_len]; rfl) (srcS (k := 1) rfl) (flL_one _) (room_of q136 q135).1 (room_of q136 q135).2 q136 (flL_append _ _).symm rfl (fun a8 c6 => ?_)
          refine .cast (A' := [Box pm [.int .i64 0, .slice none 0 0], OwnSl 35 4 a7 (([l] : List Link).length) 1 (flL ([l] : List Link)), OwnSl 35 4 a8 (((([] : List Link) ++ n_.links) ++ ([l] : List Link)).length) c6 (flL ((([] : List Link) ++ n_.links) ++ ([l] : List Link))), Box pl [.int .i64 l.src, .int .i64 l.dst, .int .i64 l.low, .int .i64 l.high], Box pn [.int .i64 n_.events, .slice an_ n_.links.length cn_]]) rfl ?_
          refine .nil ?_
          refine .ja (M := []) (C' := [0, 1, 9]) (pre := [(8, .slice a8 (((([] : List Link) ++ n_.links) ++ ([l] : List Link)).length) c6), (9, .agg #[.int .i64 n_.events, .slice a8 (((([] : List Link) ++ n_.links) ++ ([l] : List Link)).length) c6])]) [(2, .int .i64 i), (3, .int .i64 j), (4, .pointer (some pn)), (5, .pointer (some pl))] [2, 3, 4, 5] hL rfl rfl rfl rfl rfl (.cons rfl (.cons rfl (.cons rfl (.cons rfl (.nil))))) rfl rfl (by kernel_rfl) ?_
          refine .step [11] 11 rfl (by kernel_rfl) (by kernel_rfl) (.v [] rfl rfl rfl rfl rfl rfl (fun _ => fa rfl tF24_0) (.v [(16, .pointer (some (pn.add 0)))] rfl rfl rfl rfl rfl rfl (fun _ => ld1 rfl tO3 (cellB (off := 0) (k := 4) rfl rfl)) (.v [(17, .int .i64 n_.events), (24, .slice a8 (((([] : List Link) ++ n_.links) ++ ([l] : List Link)).length) c6)] rfl rfl rfl rfl rfl rfl (fun _ => bld (cs := #[.int .i64 n_.events, .slice a8 (((([] : List Link) ++ n_.links) ++ ([l] : List Link)).length) c6]) (pv := [(0, .int .i64 n_.events), (1, .slice a8 (((([] : List Link) ++ n_.links) ++ ([l] : List Link)).length) c6)]) tB24 rfl rfl) (.nil)))) (.cons [(9, .pointer (some pm)), (25, .agg #[.int .i64 n_.events, .slice a8 (((([] : List Link) ++ n_.links) ++ ([l] : List Link)).length) c6]), (24, .slice a8 (((([] : List Link) ++ n_.links) ++ ([l] : List Link)).length) c6), (16, .pointer (some (pn.add 0))), (17, .int .i64 n_.events), (18, .slice a5 (([] : List Link).length) 0), (19, .pointer (some (pn.add 1))), (20, .slice an_ n_.links.length cn_), (21, .slice a6 ((([] : List Link) ++ n_.links).length) c5), (22, .agg #[.int .i64 l.src, .int .i64 l.dst, .int .i64 l.low, .int .i64 l.high]), (23, .slice a7 (([l] : List Link).length) 1), (24, .slice a8 (((([] : List Link) ++ n_.links) ++ ([l] : List Link)).length) c6), (25, .agg #[.int .i64 n_.events, .slice a8 (((([] : List Link) ++ n_.links) ++ ([l] : List Link)).length) c6]), (9, .pointer (some pm))] rfl rfl (fun sL hL => ?_) (.nil))
          refine st (p := pm) (off := 0) (k := 0) (vs := [.int .i64 n_.events, .slice a8 (((([] : List Link) ++ n_.links) ++ ([l] : List Link)).length) c6]) rfl rfl rfl (fun w => (tA24 w).2) rfl rfl rfl rfl ?_
          refine .cast (A' := [Box pm [.int .i64 n_.events, .slice a8 (((([] : List Link) ++ n_.links) ++ ([l] : List Link)).length) c6], OwnSl 35 4 a7 (([l] : List Link).length) 1 (flL ([l] : List Link)), OwnSl 35 4 a8 (((([] : List Link) ++ n_.links) ++ ([l] : List Link)).length) c6 (flL ((([] : List Link) ++ n_.links) ++ ([l] : List Link))), Box pl [.int .i64 l.src, .int .i64 l.dst, .int .i64 l.low, .int .i64 l.high], Box pn [.int .i64 n_.events, .slice an_ n_.links.length cn_]]) rfl ?_
          refine .nil ?_
          refine .jaN (M := [9, 0, 1]) (C' := []) (pre := []) [2, 3, 4, 5] hL rfl rfl rfl rfl rfl (by kernel_rfl) ?_
          refine .last [(16, .pointer (some (pn.add 0))), (17, .int .i64 n_.events), (18, .slice a5 (([] : List Link).length) 0), (19, .pointer (some (pn.add 1))), (20, .slice an_ n_.links.length cn_), (21, .slice a6 ((([] : List Link) ++ n_.links).length) c5), (22, .agg #[.int .i64 l.src, .int .i64 l.dst, .int .i64 l.low, .int .i64 l.high]), (23, .slice a7 (([l] : List Link).length) 1), (24, .slice a8 (((([] : List Link) ++ n_.links) ++ ([l] : List Link)).length) c6), (25, .agg #[.int .i64 n_.events, .slice a8 (((([] : List Link) ++ n_.links) ++ ([l] : List Link)).length) c6]), (9, .pointer (some pm))] rfl (by kernel_rfl) (.nil) rfl ?_
          refine .sel0 [4, 0, 2] (by decide) rfl ?_
          exact .use q69 (pm, a8, c6) hF (.cons rfl (.cons rfl (.cons rfl (.cons rfl (.nil))))) rfl (FH.le_refl _)
      · refine al tZ24 rfl (fun pm => ?_)
        refine .nil ?_
        refine .ja (M := []) (C' := [0, 1, 6]) (pre := [(10, .pointer (some pm))]) [(2, .int .i64 i), (3, .int .i64 j), (4, .pointer (some pn)), (5, .pointer (some pl))] [2, 3, 4, 5] hL rfl rfl rfl rfl rfl (.cons rfl (.cons rfl (.cons rfl (.cons rfl (.nil))))) rfl rfl (by kernel_rfl) ?_
        refine .step [7] 7 rfl (by kernel_rfl) (by kernel_rfl) (.v [] rfl rfl rfl rfl rfl rfl (fun _ => fa rfl tF24_0) (.v [(16, .pointer (some (pn.add 0)))] rfl rfl rfl rfl rfl rfl (fun _ => ld1 rfl tO3 (cellB (off := 0) (k := 3) rfl rfl)) (.v [] rfl rfl rfl rfl rfl rfl (fun _ => ldA (cs := [.int .i64 l.src, .int .i64 l.dst, .int .i64 l.low, .int .i64 l.high]) rfl tA35 rfl (cellsB (off := 0) (k := 2) rfl (m := 4) rfl)) (.nil)))) (.cons [(22, .agg #[.int .i64 l.src, .int .i64 l.dst, .int .i64 l.low, .int .i64 l.high])] rfl rfl (fun sL hL => ?_) (.nil))
        refine bs2 (cs := #[.int .i64 l.src, .int .i64 l.dst, .int .i64 l.low, .int .i64 l.high]) (pv := [(0, .agg #[.int .i64 l.src, .int .i64 l.dst, .int .i64 l.low, .int .i64 l.high])]) tS22 rfl rfl (by decide) (by decide) rfl rfl rfl (fun a7 _ => ?_)
        refine .cast (A' := [OwnSl 35 4 a7 (([l] : List Link).length) 1 (flL ([l] : List Link)), Box pm [.int .i64 0, .slice none 0 0], OwnSl 35 4 a6 ((([] : List Link) ++ n_.links).length) c5 (flL (([] : List Link) ++ n_.links)), Box pl [.int .i64 l.src, .int .i64 l.dst, .int .i64 l.low, .int .i64 l.high], Box pn [.int .i64 n_.events, .slice an_ n_.links.length cn_]]) rfl ?_
        refine .nil ?_
        refine .ja (M := [6]) (C' := [0, 1]) (pre := [(7, .slice a7 (([l] : List Link).length) 1)]) [(2, .int .i64 i), (3, .int .i64 j), (4, .pointer (some pn)), (5, .pointer (some pl))] [2, 3, 4, 5] hL rfl rfl rfl rfl rfl (.cons rfl (.cons rfl (.cons rfl (.cons rfl (.nil))))) rfl rfl (by kernel_rfl) ?_
        refine .step [8] 8 rfl (by kernel_rfl) (by kernel_rfl) (.v [] rfl rfl rfl rfl rfl rfl (fun _ => fa rfl tF24_0) (.v [(16, .pointer (some (pn.add 0)))] rfl rfl rfl rfl rfl rfl (fun _ => ld1 rfl tO3 (cellB (off := 0) (k := 4) rfl rfl)) (.nil))) (.cons [(21, .slice a6 ((([] : List Link) ++ n_.links).length) c5), (23, .slice a7 (([l] : List Link).length) 1), (21, .slice a6 ((([] : List Link) ++ n_.links).length) c5)] rfl rfl (fun sL hL => ?_) (.nil))
        obtain ⟨q138, hF⟩ := hF
        have q139 : (([] : List Link) ++ n_.links).length + ([l] : List Link).length = (((([] : List Link) ++ n_.links) ++ ([l] : List Link))).length := len_app rfl rfl
        refine app (k := 2) (news := flL ([l] : List Link)) (cs' := flL ((([] : List Link) ++ n_.links) ++ ([l] : List Link))) (nm := (((([] : List Link) ++ n_.links) ++ ([l] : List Link))).length) tS22 rfl (by decide) rfl rfl rfl (by rw [flL_len]; rfl) (srcS (k := 0) rfl) (flL_one _) (room_of q139 q138).1 (room_of q139 q138).2 q139 (flL_append _ _).symm rfl (fun a8 c6 => ?_)
        refine .cast (A' := [OwnSl 35 4 a7 (([l] : List Link).length) 1 (flL ([l] : List Link)), Box pm [.int .i64 0, .slice none 0 0], OwnSl 35 4 a8 (((([] : List Link) ++ n_.links) ++ ([l] : List Link)).length) c6 (flL ((([] : List Link) ++ n_.links) ++ ([l] : List Link))), Box pl [.int .i64 l.src, .int .i64 l.dst, .int .i64 l.low, .int .i64 l.high], Box pn [.int .i64 n_.events, .slice an_ n_.links.length cn_]]) rfl ?_
        refine .nil ?_
        refine .ja (M := []) (C' := [0, 1, 9]) (pre := [(8, .slice a8 (((([] : List Link) ++ n_.links) ++ ([l] : List Link)).length) c6), (9, .agg #[.int .i64 n_.events, .slice a8 (((([] : List Link) ++ n_.links) ++ ([l] : List Link)).length) c6])]) [(2, .int .i64 i), (3, .int .i64 j), (4, .pointer (some pn)), (5, .pointer (some pl))] [2, 3, 4, 5] hL rfl rfl rfl rfl rfl (.cons rfl (.cons rfl (.cons rfl (.cons rfl (.nil))))) rfl rfl (by kernel_rfl) ?_
        refine .step [11] 11 rfl (by kernel_rfl) (by kernel_rfl) (.v [] rfl rfl rfl rfl rfl rfl (fun _ => fa rfl tF24_0) (.v [(16, .pointer (some (pn.add 0)))] rfl rfl rfl rfl rfl rfl (fun _ => ld1 rfl tO3 (cellB (off := 0) (k := 4) rfl rfl)) (.v [(17, .int .i64 n_.events), (24, .slice a8 (((([] : List Link) ++ n_.links) ++ ([l] : List Link)).length) c6)] rfl rfl rfl rfl rfl rfl (fun _ => bld (cs := #[.int .i64 n_.events, .slice a8 (((([] : List Link) ++ n_.links) ++ ([l] : List Link)).length) c6]) (pv := [(0, .int .i64 n_.events), (1, .slice a8 (((([] : List Link) ++ n_.links) ++ ([l] : List Link)).length) c6)]) tB24 rfl rfl) (.nil)))) (.cons [(9, .pointer (some pm)), (25, .agg #[.int .i64 n_.events, .slice a8 (((([] : List Link) ++ n_.links) ++ ([l] : List Link)).length) c6]), (24, .slice a8 (((([] : List Link) ++ n_.links) ++ ([l] : List Link)).length) c6), (16, .pointer (some (pn.add 0))), (17, .int .i64 n_.events), (18, .slice a5 (([] : List Link).length) 0), (19, .pointer (some (pn.add 1))), (20, .slice an_ n_.links.length cn_), (21, .slice a6 ((([] : List Link) ++ n_.links).length) c5), (22, .agg #[.int .i64 l.src, .int .i64 l.dst, .int .i64 l.low, .int .i64 l.high]), (23, .slice a7 (([l] : List Link).length) 1), (24, .slice a8 (((([] : List Link) ++ n_.links) ++ ([l] : List Link)).length) c6), (25, .agg #[.int .i64 n_.events, .slice a8 (((([] : List Link) ++ n_.links) ++ ([l] : List Link)).length) c6]), (9, .pointer (some pm))] rfl rfl (fun sL hL => ?_) (.nil))
        refine st (p := pm) (off := 0) (k := 1) (vs := [.int .i64 n_.events, .slice a8 (((([] : List Link) ++ n_.links) ++ ([l] : List Link)).length) c6]) rfl rfl rfl (fun w => (tA24 w).2) rfl rfl rfl rfl ?_
        refine .cast (A' := [OwnSl 35 4 a7 (([l] : List Link).length) 1 (flL ([l] : List Link)), Box pm [.int .i64 n_.events, .slice a8 (((([] : List Link) ++ n_.links) ++ ([l] : List Link)).length) c6], OwnSl 35 4 a8 (((([] : List Link) ++ n_.links) ++ ([l] : List Link)).length) c6 (flL ((([] : List Link) ++ n_.links) ++ ([l] : List Link))), Box pl [.int .i64 l.src, .int .i64 l.dst, .int .i64 l.low, .int .i64 l.high], Box pn [.int .i64 n_.events, .slice an_ n_.links.length cn_]]) rfl ?_
        refine .nil ?_
        refine .jaN (M := [9, 0, 1]) (C' := []) (pre := []) [2, 3, 4, 5] hL rfl rfl rfl rfl rfl (by kernel_rfl) ?_
        refine .last [(16, .pointer (some (pn.add 0))), (17, .int .i64 n_.events), (18, .slice a5 (([] : List Link).length) 0), (19, .pointer (some (pn.add 1))), (20, .slice an_ n_.links.length cn_), (21, .slice a6 ((([] : List Link) ++ n_.links).length) c5), (22, .agg #[.int .i64 l.src, .int .i64 l.dst, .int .i64 l.low, .int .i64 l.high]), (23, .slice a7 (([l] : List Link).length) 1), (24, .slice a8 (((([] : List Link) ++ n_.links) ++ ([l] : List Link)).length) c6), (25, .agg #[.int .i64 n_.events, .slice a8 (((([] : List Link) ++ n_.links) ++ ([l] : List Link)).length) c6]), (9, .pointer (some pm))] rfl (by kernel_rfl) (.nil) rfl ?_
        refine .sel0 [4, 1, 2] (by decide) rfl ?_
        exact .use q69 (pm, a8, c6) hF (.cons rfl (.cons rfl (.cons rfl (.cons rfl (.nil))))) rfl (FH.le_refl _)
    · refine bs2 (cs := #[.int .i64 l.src, .int .i64 l.dst, .int .i64 l.low, .int .i64 l.high]) (pv := [(0, .agg #[.int .i64 l.src, .int .i64 l.dst, .int .i64 l.low, .int .i64 l.high])]) tS22 rfl rfl (by decide) (by decide) rfl rfl rfl (fun a6 _ => ?_)
      refine .cast (A' := [OwnSl 35 4 a6 (([l] : List Link).length) 1 (flL ([l] : List Link)), OwnSl 35 4 a5 (([] : List Link).length) 0 (flL ([] : List Link)), Box pl [.int .i64 l.src, .int .i64 l.dst, .int .i64 l.low, .int .i64 l.high], Box pn [.int .i64 n_.events, .slice an_ n_.links.length cn_]]) rfl ?_
      refine .nil ?_
      refine .ja (M := [6]) (C' := [0, 1, 3, 4]) (pre := [(7, .slice a6 (([l] : List Link).length) 1)]) [(2, .int .i64 i), (3, .int .i64 j), (4, .pointer (some pn)), (5, .pointer (some pl))] [2, 3, 4, 5] hL rfl rfl rfl rfl rfl (.cons rfl (.cons rfl (.cons rfl (.cons rfl (.nil))))) rfl rfl (by kernel_rfl) ?_
      refine .step [5, 10] 5 rfl (by kernel_rfl) (by kernel_rfl) (.v [] rfl rfl rfl rfl rfl rfl (fun _ => fa rfl tF24_0) (.v [(16, .pointer (some (pn.add 0)))] rfl rfl rfl rfl rfl rfl (fun _ => ld1 rfl tO3 (cellB (off := 0) (k := 3) rfl rfl)) (.v [] rfl rfl rfl rfl rfl rfl (fun _ => fa rfl tF24_1) (.v [(19, .pointer (some (pn.add 1)))] rfl rfl rfl rfl rfl rfl (fun _ => ld1 rfl tO22 (cellB (off := 1) (k := 3) rfl rfl)) (.nil))))) (.cons [(18, .slice a5 (([] : List Link).length) 0), (20, .slice an_ n_.links.length cn_)] rfl rfl (fun sL hL => ?_) (.cons [] rfl rfl (fun sL hL => ?_) (.nil)))
      · obtain ⟨q141, hF⟩ := hF
        have q142 : ([] : List Link).length + n_.links.length = ((([] : List Link) ++ n_.links)).length := len_app rfl rfl
        refine app (k := 1) (news := flL n_.links) (cs' := flL (([] : List Link) ++ n_.links)) (nm := ((([] : List Link) ++ n_.links)).length) tS22 rfl (by decide) rfl rfl rfl (by rw [flL_len]; rfl) (srcH (fun q => _q1.ne (by decide) q) (_q1.raw)) (flL_one _) (room_of q142 q141).1 (room_of q142 q141).2 q142 (flL_append _ _).symm rfl (fun a7 c5 => ?_)
        refine .cast (A' := [OwnSl 35 4 a6 (([l] : List Link).length) 1 (flL ([l] : List Link)), OwnSl 35 4 a7 ((([] : List Link) ++ n_.links).length) c5 (flL (([] : List Link) ++ n_.links)), Box pl [.int .i64 l.src, .int .i64 l.dst, .int .i64 l.low, .int .i64 l.high], Box pn [.int .i64 n_.events, .slice an_ n_.links.length cn_]]) rfl ?_
        refine .nil ?_
        refine .ja (M := [4, 3]) (C' := [0, 1]) (pre := [(5, .slice a7 ((([] : List Link) ++ n_.links).length) c5)]) [(2, .int .i64 i), (3, .int .i64 j), (4, .pointer (some pn)), (5, .pointer (some pl))] [2, 3, 4, 5] hL rfl rfl rfl rfl rfl (.cons rfl (.cons rfl (.cons rfl (.cons rfl (.nil))))) rfl rfl (by kernel_rfl) ?_
        refine .step [8, 10] 8 rfl (by kernel_rfl) (by kernel_rfl) (.v [] rfl rfl rfl rfl rfl rfl (fun _ => fa rfl tF24_0) (.v [(16, .pointer (some (pn.add 0)))] rfl rfl rfl rfl rfl rfl (fun _ => ld1 rfl tO3 (cellB (off := 0) (k := 3) rfl rfl)) (.nil))) (.cons [(21, .slice a7 ((([] : List Link) ++ n_.links).length) c5), (23, .slice a6 (([l] : List Link).length) 1), (21, .slice a7 ((([] : List Link) ++ n_.links).length) c5)] rfl rfl (fun sL hL => ?_) (.cons [] rfl rfl (fun sL hL => ?_) (.nil)))
        · obtain ⟨q143, hF⟩ := hF
          have q144 : (([] : List Link) ++ n_.links).length + ([l] : List Link).length = (((([] : List Link) ++ n_.links) ++ ([l] : List Link))).length := len_app rfl rfl
          refine app (k := 1) (news := flL ([l] : List Link)) (cs' := flL ((([] : List Link) ++ n_.links) ++ ([l] : List Link))) (nm := (((([] : List Link) ++ n_.links) ++ ([l] : List Link))).length) tS22 rfl (by decide) rfl rfl rfl (by rw [flL_len]; rfl) (srcS (k := 0) rfl) (flL_one _) (room_of q144 q143).1 (room_of q144 q143).2 q144 (flL_append _ _).symm rfl (fun a8 c6 => ?_)
          refine .cast (A' := [OwnSl 35 4 a6 (([l] : List Link).length) 1 (flL ([l] : List Link)), OwnSl 35 4 a8 (((([] : List Link) ++ n_.links) ++ ([l] : List Link)).length) c6 (flL ((([] : List Link) ++ n_.links) ++ ([l] : List Link))), Box pl [.int .i64 l.src, .int .i64 l.dst, .int .i64 l.low, .int .i64 l.high], Box pn [.int .i64 n_.events, .slice an_ n_.links.length cn_]]) rfl ?_
          refine .nil ?_
          refine .ja (M := []) (C' := [0, 1, 9]) (pre := [(8, .slice a8 (((([] : List Link) ++ n_.links) ++ ([l] : List Link)).length) c6), (9, .agg #[.int .i64 n_.events, .slice a8 (((([] : List Link) ++ n_.links) ++ ([l] : List Link)).length) c6])]) [(2, .int .i64 i), (3, .int .i64 j), (4, .pointer (some pn)), (5, .pointer (some pl))] [2, 3, 4, 5] hL rfl rfl rfl rfl rfl (.cons rfl (.cons rfl (.cons rfl (.cons rfl (.nil))))) rfl rfl (by kernel_rfl) ?_
          refine .step [10] 10 rfl (by kernel_rfl) (by kernel_rfl) (.v [] rfl rfl rfl rfl rfl rfl (fun _ => fa rfl tF24_0) (.v [(16, .pointer (some (pn.add 0)))] rfl rfl rfl rfl rfl rfl (fun _ => ld1 rfl tO3 (cellB (off := 0) (k := 3) rfl rfl)) (.v [(17, .int .i64 n_.events), (24, .slice a8 (((([] : List Link) ++ n_.links) ++ ([l] : List Link)).length) c6)] rfl rfl rfl rfl rfl rfl (fun _ => bld (cs := #[.int .i64 n_.events, .slice a8 (((([] : List Link) ++ n_.links) ++ ([l] : List Link)).length) c6]) (pv := [(0, .int .i64 n_.events), (1, .slice a8 (((([] : List Link) ++ n_.links) ++ ([l] : List Link)).length) c6)]) tB24 rfl rfl) (.nil)))) (.cons [] rfl rfl (fun sL hL => ?_) (.nil))
          refine al tZ24 rfl (fun pm => ?_)
          refine .nil ?_
          refine .ja (M := []) (C' := [0, 1, 9]) (pre := [(10, .pointer (some pm))]) [(2, .int .i64 i), (3, .int .i64 j), (4, .pointer (some pn)), (5, .pointer (some pl))] [2, 3, 4, 5] hL rfl rfl rfl rfl rfl (.cons rfl (.cons rfl (.cons rfl (.cons rfl (.nil))))) rfl rfl (by kernel_rfl) ?_
          refine .step [11] 11 rfl (by kernel_rfl) (by kernel_rfl) (.v [] rfl rfl rfl rfl rfl rfl (fun _ => fa rfl tF24_0) (.v [(16, .pointer (some (pn.add 0)))] rfl rfl rfl rfl rfl rfl (fun _ => ld1 rfl tO3 (cellB (off := 0) (k := 4) rfl rfl)) (.v [(17, .int .i64 n_.events), (24, .slice a8 (((([] : List Link) ++ n_.links) ++ ([l] : List Link)).length) c6)] rfl rfl rfl rfl rfl rfl (fun _ => bld (cs := #[.int .i64 n_.events, .slice a8 (((([] : List Link) ++ n_.links) ++ ([l] : List Link)).length) c6]) (pv := [(0, .int .i64 n_.events), (1, .slice a8 (((([] : List Link) ++ n_.links) ++ ([l] : List Link)).length) c6)]) tB24 rfl rfl) (.nil)))) (.cons [(9, .pointer (some pm)), (25, .agg #[.int .i64 n_.events, .slice a8 (((([] : List Link) ++ n_.links) ++ ([l] : List Link)).length) c6]), (24, .slice a8 (((([] : List Link) ++ n_.links) ++ ([l] : List Link)).length) c6), (16, .pointer (some (pn.add 0))), (17, .int .i64 n_.events), (18, .slice a5 (([] : List Link).length) 0), (19, .pointer (some (pn.add 1))), (20, .slice an_ n_.links.length cn_), (21, .slice a7 ((([] : List Link) ++ n_.links).length) c5), (22, .agg #[.int .i64 l.src, .int .i64 l.dst, .int .i64 l.low, .int .i64 l.high]), (23, .slice a6 (([l] : List Link).length) 1), (24, .slice a8 (((([] : List Link) ++ n_.links) ++ ([l] : List Link)).length) c6), (25, .agg #[.int .i64 n_.events, .slice a8 (((([] : List Link) ++ n_.links) ++ ([l] : List Link)).length) c6]), (9, .pointer (some pm))] rfl rfl (fun sL hL => ?_) (.nil))
          refine st (p := pm) (off := 0) (k := 0) (vs := [.int .i64 n_.events, .slice a8 (((([] : List Link) ++ n_.links) ++ ([l] : List Link)).length) c6]) rfl rfl rfl (fun w => (tA24 w).2) rfl rfl rfl rfl ?_
          refine .cast (A' := [Box pm [.int .i64 n_.events, .slice a8 (((([] : List Link) ++ n_.links) ++ ([l] : List Link)).length) c6], OwnSl 35 4 a6 (([l] : List Link).length) 1 (flL ([l] : List Link)), OwnSl 35 4 a8 (((([] : List Link) ++ n_.links) ++ ([l] : List Link)).length) c6 (flL ((([] : List Link) ++ n_.links) ++ ([l] : List Link))), Box pl [.int .i64 l.src, .int .i64 l.dst, .int .i64 l.low, .int .i64 l.high], Box pn [.int .i64 n_.events, .slice an_ n_.links.length cn_]]) rfl ?_
          refine .nil ?_
          refine .jaN (M := [9, 0, 1]) (C' := []) (pre := []) [2, 3, 4, 5] hL rfl rfl rfl rfl rfl (by kernel_rfl) ?_
          refine .last [(16, .pointer (some (pn.add 0))), (17, .int .i64 n_.events), (18, .slice a5 (([] : List Link).length) 0), (19, .pointer (some (pn.add 1))), (20, .slice an_ n_.links.length cn_), (21, .slice a7 ((([] : List Link) ++ n_.links).length) c5), (22, .agg #[.int .i64 l.src, .int .i64 l.dst, .int .i64 l.low, .int .i64 l.high]), (23, .slice a6 (([l] : List Link).length) 1), (24, .slice a8 (((([] : List Link) ++ n_.links) ++ ([l] : List Link)).length) c6), (25, .agg #[.int .i64 n_.events, .slice a8 (((([] : List Link) ++ n_.links) ++ ([l] : List Link)).length) c6]), (9, .pointer (some pm))] rfl (by kernel_rfl) (.nil) rfl ?_
          refine .sel0 [4, 0, 2] (by decide) rfl ?_
          exact .use q69 (pm, a8, c6) hF (.cons rfl (.cons rfl (.cons rfl (.cons rfl (.nil))))) rfl (FH.le_refl _)
        · refine al tZ24 rfl (fun pm => ?_)
          refine .nil ?_
          refine .ja (M := []) (C' := [0, 1]) (pre := [(10, .pointer (some pm))]) [(2, .int .i64 i), (3, .int .i64 j), (4, .pointer (some pn)), (5, .pointer (some pl))] [2, 3, 4, 5] hL rfl rfl rfl rfl rfl (.cons rfl (.cons rfl (.cons rfl (.cons rfl (.nil))))) rfl rfl (by kernel_rfl) ?_
          refine .step [8] 8 rfl (by kernel_rfl) (by kernel_rfl) (.v [] rfl rfl rfl rfl rfl rfl (fun _ => fa rfl tF24_0) (.v [(16, .pointer (some (pn.add 0)))] rfl rfl rfl rfl rfl rfl (fun _ => ld1 rfl tO3 (cellB (off := 0) (k := 4) rfl rfl)) (.nil))) (.cons [(21, .slice a7 ((([] : List Link) ++ n_.links).length) c5), (23, .slice a6 (([l] : List Link).length) 1), (21, .slice a7 ((([] : List Link) ++ n_.links).length) c5)] rfl rfl (fun sL hL => ?_) (.nil))
          obtain ⟨q145, hF⟩ := hF
          have q146 : (([] : List Link) ++ n_.links).length + ([l] : List Link).length = (((([] : List Link) ++ n_.links) ++ ([l] : List Link))).length := len_app rfl rfl
          refine app (k := 2) (news := flL ([l] : List Link)) (cs' := flL ((([] : List Link) ++ n_.links) ++ ([l] : List Link))) (nm := (((([] : List Link) ++ n_.links) ++ ([l] : List Link))).length) tS22 rfl (by decide) rfl rfl rfl (by rw [flL_len]; rfl) (srcS (k := 1) rfl) (flL_one _) (room_of q146 q145).1 (room_of q146 q145).2 q146 (flL_append _ _).symm rfl (fun a8 c6 => ?_)
          refine .cast (A' := [Box pm [.int .i64 0, .slice none 0 0], OwnSl 35 4 a6 (([l] : List Link).length) 1 (flL ([l] : List Link)), OwnSl 35 4 a8 (((([] : List Link) ++ n_.links) ++ ([l] : List Link)).length) c6 (flL ((([] : List Link) ++ n_.links) ++ ([l] : List Link))), Box pl [.int .i64 l.src, .int .i64 l.dst, .int .i64 l.low, .int .i64 l.high], Box pn [.int .i64 n_.events, .slice an_ n_.links.length cn_]]) rfl ?_
          refine .nil ?_
          refine .ja (M := []) (C' := [0, 1, 9]) (pre := [(8, .slice a8 (((([] : List Link) ++ n_.links) ++ ([l] : List Link)).length) c6), (9, .agg #[.int .i64 n_.events, .slice a8 (((([] : List Link) ++ n_.links) ++ ([l] : List Link)).length) c6])]) [(2, .int .i64 i), (3, .int .i64 j), (4, .pointer (some pn)), (5, .pointer (some pl))] [2, 3, 4, 5] hL rfl rfl rfl rfl rfl (.cons rfl (.cons rfl (.cons rfl (.cons rfl (.nil))))) rfl rfl (by kernel_rfl) ?_
          refine .step [11] 11 rfl (by kernel_rfl) (by kernel_rfl) (.v [] rfl rfl rfl rfl rfl rfl (fun _ => fa rfl tF24_0) (.v [(16, .pointer (some (pn.add 0)))] rfl rfl rfl rfl rfl rfl (fun _ => ld1 rfl tO3 (cellB (off := 0) (k := 4) rfl rfl)) (.v [(17, .int .i64 n_.events), (24, .slice a8 (((([] : List Link) ++ n_.links) ++ ([l] : List Link)).length) c6)] rfl rfl rfl rfl rfl rfl (fun _ => bld (cs := #[.int .i64 n_.events, .slice a8 (((([] : List Link) ++ n_.links) ++ ([l] : List Link)).length) c6]) (pv := [(0, .int .i64 n_.events), (1, .slice a8 (((([] : List Link) ++ n_.links) ++ ([l] : List Link)).length) c6)]) tB24 rfl rfl) (.nil)))) (.cons [(9, .pointer (some pm)), (25, .agg #[.int .i64 n_.events, .slice a8 (((([] : List Link) ++ n_.links) ++ ([l] : List Link)).length) c6]), (24, .slice a8 (((([] : List Link) ++ n_.links) ++ ([l] : List Link)).length) c6), (16, .pointer (some (pn.add 0))), (17, .int .i64 n_.events), (18, .slice a5 (([] : List Link).length) 0), (19, .pointer (some (pn.add 1))), (20, .slice an_ n_.links.length cn_), (21, .slice a7 ((([] : List Link) ++ n_.links).length) c5), (22, .agg #[.int .i64 l.src, .int .i64 l.dst, .int .i64 l.low, .int .i64 l.high]), (23, .slice a6 (([l] : List Link).length) 1), (24, .slice a8 (((([] : List Link) ++ n_.links) ++ ([l] : List Link)).length) c6), (25, .agg #[.int .i64 n_.events, .slice a8 (((([] : List Link) ++ n_.links) ++ ([l] : List Link)).length) c6]), (9, .pointer (some pm))] rfl rfl (fun sL hL => ?_) (.nil))
          refine st (p := pm) (off := 0) (k := 0) (vs := [.int .i64 n_.events, .slice a8 (((([] : List Link) ++ n_.links) ++ ([l] : List Link)).length) c6]) rfl rfl rfl (fun w => (tA24 w).2) rfl rfl rfl rfl ?_
          refine .cast (A' := [Box pm [.int .i64 n_.events, .slice a8 (((([] : List Link) ++ n_.links) ++ ([l] : List Link)).length) c6], OwnSl 35 4 a6 (([l] : List Link).length) 1 (flL ([l] : List Link)), OwnSl 35 4 a8 (((([] : List Link) ++ n_.links) ++ ([l] : List Link)).length) c6 (flL ((([] : List Link) ++ n_.links) ++ ([l] : List Link))), Box pl [.int .i64 l.src, .int .i64 l.dst, .int .i64 l.low, .int .i64 l.high], Box pn [.int .i64 n_.events, .slice an_ n_.links.length cn_]]) rfl ?_
          refine .nil ?_
          refine .jaN (M := [9, 0, 1]) (C' := []) (pre := []) [2, 3, 4, 5] hL rfl rfl rfl rfl rfl (by kernel_rfl) ?_
          refine .last [(16, .pointer (some (pn.add 0))), (17, .int .i64 n_.events), (18, .slice a5 (([] : List Link).length) 0), (19, .pointer (some (pn.add 1))), (20, .slice an_ n_.links.length cn_), (21, .slice a7 ((([] : List Link) ++ n_.links).length) c5), (22, .agg #[.int .i64 l.src, .int .i64 l.dst, .int .i64 l.low, .int .i64 l.high]), (23, .slice a6 (([l] : List Link).length) 1), (24, .slice a8 (((([] : List Link) ++ n_.links) ++ ([l] : List Link)).length) c6), (25, .agg #[.int .i64 n_.events, .slice a8 (((([] : List Link) ++ n_.links) ++ ([l] : List Link)).length) c6]), (9, .pointer (some pm))] rfl (by kernel_rfl) (.nil) rfl ?_
          refine .sel0 [4, 0, 2] (by decide) rfl ?_
          exact .use q69 (pm, a8, c6) hF (.cons rfl (.cons rfl (.cons rfl (.cons rfl (.nil))))) rfl (FH.le_refl _)
      · refine al tZ24 rfl (fun pm => ?_)
        refine .nil ?_
        refine .ja (M := []) (C' := [0, 1, 3, 4]) (pre := [(10, .pointer (some pm))]) [(2, .int .i64 i), (3, .int .i64 j), (4, .pointer (some pn)), (5, .pointer (some pl))] [2, 3, 4, 5] hL rfl rfl rfl rfl rfl (.cons rfl (.cons rfl (.cons rfl (.cons rfl (.nil))))) rfl rfl (by kernel_rfl) ?_
        refine .step [5] 5 rfl (by kernel_rfl) (by kernel_rfl) (.v [] rfl rfl rfl rfl rfl rfl (fun _ => fa rfl tF24_0) (.v [(16, .pointer (some (pn.add 0)))] rfl rfl rfl rfl rfl rfl (fun _ => ld1 rfl tO3 (cellB (off := 0) (k := 4) rfl rfl)) (.v [] rfl rfl rfl rfl rfl rfl (fun _ => fa rfl tF24_1) (.v [(19, .pointer (some (pn.add 1)))] rfl rfl rfl rfl rfl rfl (fun _ => ld1 rfl tO22 (cellB (off := 1) (k := 4) rfl rfl)) (.nil))))) (.cons [(18, .slice a5 (([] : List Link).length) 0), (20, .slice an_ n_.links.length cn_)] rfl rfl (fun sL hL => ?_) (.nil))
        obtain ⟨q147, hF⟩ := hF
        have q148 : ([] : List Link).length + n_.links.length = ((([] : List Link) ++ n_.links)).length := len_app rfl rfl
        refine app (k := 2) (news := flL n_.links) (cs' := flL (([] : List Link) ++ n_.links)) (nm := ((([] : List Link) ++ n_.links)).length) tS22 rfl (by decide) rfl rfl rfl (by rw [flL_len]; rfl) (srcH (fun q => _q1.ne (by decide) q) (_q1.raw)) (flL_one _) (room_of q148 q147).1 (room_of q148 q147).2 q148 (flL_append _ _).symm rfl (fun a7 c5 => ?_)
        refine .cast (A' := [Box pm [.int .i64 0, .slice none 0 0], OwnSl 35 4 a6 (([l] : List Link).length) 1 (flL ([l] : List Link)), OwnSl 35 4 a7 ((([] : List Link) ++ n_.links).length) c5 (flL (([] : List Link) ++ n_.links)), Box pl [.int .i64 l.src, .int .i64 l.dst, .int .i64 l.low, .int .i64 l.high], Box pn [.int .i64 n_.events, .slice an_ n_.links.length cn_]]) rfl ?_
        refine .nil ?_
        refine .ja (M := [4, 3]) (C' := [0, 1]) (pre := [(5, .slice a7 ((([] : List Link) ++ n_.links).length) c5)]) [(2, .int .i64 i), (3, .int .i64 j), (4, .pointer (some pn)), (5, .pointer (some pl))] [2, 3, 4, 5] hL rfl rfl rfl rfl rfl (.cons rfl (.cons rfl (.cons rfl (.cons rfl (.nil))))) rfl rfl (by kernel_rfl) ?_
        refine .step [8] 8 rfl (by kernel_rfl) (by kernel_rfl) (.v [] rfl rfl rfl rfl rfl rfl (fun _ => fa rfl tF24_0) (.v [(16, .pointer (some (pn.add 0)))] rfl rfl rfl rfl rfl rfl (fun _ => ld1 rfl tO3 (cellB (off := 0) (k := 4) rfl rfl)) (.nil))) (.cons [(21, .slice a7 ((([] : List Link) ++ n_.links).length) c5), (23, .slice a6 (([l] : List Link).length) 1), (21, .slice a7 ((([] : List Link) ++ n_.links).length) c5)] rfl rfl (fun sL hL => ?_) (.nil))
        obtain ⟨q149, hF⟩ := hF
        have q150 : (([] : List Link) ++ n_.links).length + ([l] : List Link).length = (((([] : List Link) ++ n_.links) ++ ([l] : List Link))).length := len_app rfl rfl
        refine app (k := 2) (news := flL ([l] : List Link)) (cs' := flL ((([] : List Link) ++ n_.links) ++ ([l] : List Link))) (nm := (((([] : List Link) ++ n_.links) ++ ([l] : List Link))).length) tS22 rfl (by decide) rfl rfl rfl (by rw [flL_len]; rfl) (srcS (k := 1) rfl) (flL_one _) (room_of q150 q149).1 (room_of q150 q149).2 q150 (flL_append _ _).symm rfl (fun a8 c6 => ?_)
        refine .cast (A' := [Box pm [.int .i64 0, .slice none 0 0], OwnSl 35 4 a6 (([l] : List Link).length) 1 (flL ([l] : List Link)), OwnSl 35 4 a8 (((([] : List Link) ++ n_.links) ++ ([l] : List Link)).length) c6 (flL ((([] : List Link) ++ n_.links) ++ ([l] : List Link))), Box pl [.int .i64 l.src, .int .i64 l.dst, .int .i64 l.low, .int .i64 l.high], Box pn [.int .i64 n_.events, .slice an_ n_.links.length cn_]]) rfl ?_
        refine .nil ?_
        refine .ja (M := []) (C' := [0, 1, 9]) (pre := [(8, .slice a8 (((([] : List Link) ++ n_.links) ++ ([l] : List Link)).length) c6), (9, .agg #[.int .i64 n_.events, .slice a8 (((([] : List Link) ++ n_.links) ++ ([l] : List Link)).length) c6])]) [(2, .int .i64 i), (3, .int .i64 j), (4, .pointer (some pn)), (5, .pointer (some pl))] [2, 3, 4, 5] hL rfl rfl rfl rfl rfl (.cons rfl (.cons rfl (.cons rfl (.cons rfl (.nil))))) rfl rfl (by kernel_rfl) ?_
        refine .step [11] 11 rfl (by kernel_rfl) (by kernel_rfl) (.v [] rfl rfl rfl rfl rfl rfl (fun _ => fa rfl tF24_0) (.v [(16, .pointer (some (pn.add 0)))] rfl rfl rfl rfl rfl rfl (fun _ => ld1 rfl tO3 (cellB (off := 0) (k := 4) rfl rfl)) (.v [(17, .int .i64 n_.events), (24, .slice a8 (((([] : List Link) ++ n_.links) ++ ([l] : List Link)).length) c6)] rfl rfl rfl rfl rfl rfl (fun _ => bld (cs := #[.int .i64 n_.events, .slice a8 (((([] : List Link) ++ n_.links) ++ ([l] : List Link)).length) c6]) (pv := [(0, .int .i64 n_.events), (1, .slice a8 (((([] : List Link) ++ n_.links) ++ ([l] : List Link)).length) c6)]) tB24 rfl rfl) (.nil)))) (.cons [(9, .pointer (some pm)), (25, .agg #[.int .i64 n_.events, .slice a8 (((([] : List Link) ++ n_.links) ++ ([l] : List Link)).length) c6]), (24, .slice a8 (((([] : List Link) ++ n_.links) ++ ([l] : List Link)).length) c6), (16, .pointer (some (pn.add 0))), (17, .int .i64 n_.events), (18, .slice a5 (([] : List Link).length) 0), (19, .pointer (some (pn.add 1))), (20, .slice an_ n_.links.length cn_), (21, .slice a7 ((([] : List Link) ++ n_.links).length) c5), (22, .agg #[.int .i64 l.src, .int .i64 l.dst, .int .i64 l.low, .int .i64 l.high]), (23, .slice a6 (([l] : List Link).length) 1), (24, .slice a8 (((([] : List Link) ++ n_.links) ++ ([l] : List Link)).length) c6), (25, .agg #[.int .i64 n_.events, .slice a8 (((([] : List Link) ++ n_.links) ++ ([l] : List Link)).length) c6]), (9, .pointer (some pm))] rfl rfl (fun sL hL => ?_) (.nil))
        refine st (p := pm) (off := 0) (k := 0) (vs := [.int .i64 n_.events, .slice a8 (((([] : List Link) ++ n_.links) ++ ([l] : List Link)).length) c6]) rfl rfl rfl (fun w => (tA24 w).2) rfl rfl rfl rfl ?_
        refine .cast (A' := [Box pm [.int .i64 n_.events, .slice a8 (((([] : List Link) ++ n_.links) ++ ([l] : List Link)).length) c6], OwnSl 35 4 a6 (([l] : List Link).length) 1 (flL ([l] : List Link)), OwnSl 35 4 a8 (((([] : List Link) ++ n_.links) ++ ([l] : List Link)).length) c6 (flL ((([] : List Link) ++ n_.links) ++ ([l] : List Link))), Box pl [.int .i64 l.src, .int .i64 l.dst, .int .i64 l.low, .int .i64 l.high], Box pn [.int .i64 n_.events, .slice an_ n_.links.length cn_]]) rfl ?_
        refine .nil ?_
        refine .jaN (M := [9, 0, 1]) (C' := []) (pre := []) [2, 3, 4, 5] hL rfl rfl rfl rfl rfl (by kernel_rfl) ?_
        refine .last [(16, .pointer (some (pn.add 0))), (17, .int .i64 n_.events), (18, .slice a5 (([] : List Link).length) 0), (19, .pointer (some (pn.add 1))), (20, .slice an_ n_.links.length cn_), (21, .slice a7 ((([] : List Link) ++ n_.links).length) c5), (22, .agg #[.int .i64 l.src, .int .i64 l.dst, .int .i64 l.low, .int .i64 l.high]), (23, .slice a6 (([l] : List Link).length) 1), (24, .slice a8 (((([] : List Link) ++ n_.links) ++ ([l] : List Link)).length) c6), (25, .agg #[.int .i64 n_.events, .slice a8 (((([] : List Link) ++ n_.links) ++ ([l] : List Link)).length) c6]), (9, .pointer (some pm))] rfl (by kernel_rfl) (.nil) rfl ?_
        refine .sel0 [4, 0, 2] (by decide) rfl ?_
        exact .use q69 (pm, a8, c6) hF (.cons rfl (.cons rfl (.cons rfl (.cons rfl (.nil))))) rfl (FH.le_refl _)
    · refine al tZ24 rfl (fun pm => ?_)
      refine .nil ?_
      refine .ja (M := []) (C' := [0, 1, 3, 4, 6]) (pre := [(10, .pointer (some pm))]) [(2, .int .i64 i), (3, .int .i64 j), (4, .pointer (some pn)), (5, .pointer (some pl))] [2, 3, 4, 5] hL rfl rfl rfl rfl rfl (.cons rfl (.cons rfl (.cons rfl (.cons rfl (.nil))))) rfl rfl (by kernel_rfl) ?_
      refine .step [5, 7] 5 rfl (by kernel_rfl) (by kernel_rfl) (.v [] rfl rfl rfl rfl rfl rfl (fun _ => fa rfl tF24_0) (.v [(16, .pointer (some (pn.add 0)))] rfl rfl rfl rfl rfl rfl (fun _ => ld1 rfl tO3 (cellB (off := 0) (k := 3) rfl rfl)) (.v [] rfl rfl rfl rfl rfl rfl (fun _ => fa rfl tF24_1) (.v [(19, .pointer (some (pn.add 1)))] rfl rfl rfl rfl rfl rfl (fun _ => ld1 rfl tO22 (cellB (off := 1) (k := 3) rfl rfl)) (.v [] rfl rfl rfl rfl rfl rfl (fun _ => ldA (cs := [.int .i64 l.src, .int .i64 l.dst, .int .i64 l.low, .int .i64 l.high]) rfl tA35 rfl (cellsB (off := 0) (k := 2) rfl (m := 4) rfl)) (.nil)))))) (.cons [(18, .slice a5 (([] : List Link).length) 0), (20, .slice an_ n_.links.length cn_)] rfl rfl (fun sL hL => ?_) (.cons [(22, .agg #[.int .i64 l.src, .int .i64 l.dst, .int .i64 l.low, .int .i64 l.high])] rfl rfl (fun sL hL => ?_) (.nil)))
      · obtain ⟨q151, hF⟩ := hF
        have q152 : ([] : List Link).length + n_.links.length = ((([] : List Link) ++ n_.links)).length := len_app rfl rfl
        refine app (k := 1) (news := flL n_.links) (cs' := flL (([] : List Link) ++ n_.links)) (nm := ((([] : List Link) ++ n_.links)).length) tS22 rfl (by decide) rfl rfl rfl (by rw [flL_len]; rfl) (srcH (fun q => _q1.ne (by decide) q) (_q1.raw)) (flL_one _) (room_of q152 q151).1 (room_of q152 q151).2 q152 (flL_append _ _).symm rfl (fun a6 c5 => ?_)
        refine .cast (A' := [Box pm [.int .i64 0, .slice none 0 0], OwnSl 35 4 a6 ((([] : List Link) ++ n_.links).length) c5 (flL (([] : List Link) ++ n_.links)), Box pl [.int .i64 l.src, .int .i64 l.dst, .int .i64 l.low, .int .i64 l.high], Box pn [.int .i64 n_.events, .slice an_ n_.links.length cn_]]) rfl ?_
        refine .nil ?_
        refine .ja (M := [4, 3]) (C' := [0, 1, 6]) (pre := [(5, .slice a6 ((([] : List Link) ++ n_.links).length) c5)]) [(2, .int .i64 i), (3, .int .i64 j), (4, .pointer (some pn)), (5, .pointer (some pl))] [2, 3, 4, 5] hL rfl rfl rfl rfl rfl (.cons rfl (.cons rfl (.cons rfl (.cons rfl (.nil))))) rfl rfl (by kernel_rfl) ?_
        refine .step [7] 7 rfl (by kernel_rfl) (by kernel_rfl) (.v [] rfl rfl rfl rfl rfl rfl (fun _ => fa rfl tF24_0) (.v [(16, .pointer (some (pn.add 0)))] rfl rfl rfl rfl rfl rfl (fun _ => ld1 rfl tO3 (cellB (off := 0) (k := 3) rfl rfl)) (.v [] rfl rfl rfl rfl rfl rfl (fun _ => ldA (cs := [.int .i64 l.src, .int .i64 l.dst, .int .i64 l.low, .int .i64 l.high]) rfl tA35 rfl (cellsB (off := 0) (k := 2) rfl (m := 4) rfl)) (.nil)))) (.cons [(22, .agg #[.int .i64 l.src, .int .i64 l.dst, .int .i64 l.low, .int .i64 l.high])] rfl rfl (fun sL hL => ?_) (.nil))
        refine bs2 (cs := #[.int .i64 l.src, .int .i64 l.dst, .int .i64 l.low, .int .i64 l.high]) (pv := [(0, .agg #[.int .i64 l.src, .int .i64 l.dst, .int .i64 l.low, .int .i64 l.high])]) tS22 rfl rfl (by decide) (by decide) rfl rfl rfl (fun a7 _ => ?_)
        refine .cast (A' := [OwnSl 35 4 a7 (([l] : List Link).length) 1 (flL ([l] : List Link)), Box pm [.int .i64 0, .slice none 0 0], OwnSl 35 4 a6 ((([] : List Link) ++ n_.links).length) c5 (flL (([] : List Link) ++ n_.links)), Box pl [.int .i64 l.src, .int .i64 l.dst, .int .i64 l.low, .int .i64 l.high], Box pn [.int .i64 n_.events, .slice an_ n_.links.length cn_]]) rfl ?_
        refine .nil ?_
        refine .ja (M := [6]) (C' := [0, 1]) (pre := [(7, .slice a7 (([l] : List Link).length) 1)]) [(2, .int .i64 i), (3, .int .i64 j), (4, .pointer (some pn)), (5, .pointer (some pl))] [2, 3, 4, 5] hL rfl rfl rfl rfl rfl (.cons rfl (.cons rfl (.cons rfl (.cons rfl (.nil))))) rfl rfl (by kernel_rfl) ?_
        refine .step [8] 8 rfl (by kernel_rfl) (by kernel_rfl) (.v [] rfl rfl rfl rfl rfl rfl (fun _ => fa rfl tF24_0) (.v [(16, .pointer (some (pn.add 0)))] rfl rfl rfl rfl rfl rfl (fun _ => ld1 rfl tO3 (cellB (off := 0) (k := 4) rfl rfl)) (.nil))) (.cons [(21, .slice a6 ((([] : List Link) ++ n_.links).length) c5), (23, .slice a7 (([l] : List Link).length) 1), (21, .slice a6 ((([] : List Link) ++ n_.links).length) c5)] rfl rfl (fun sL hL => ?_) (.nil))
        obtain ⟨q154, hF⟩ := hF
        have q155 : (([] : List Link) ++ n_.links).length + ([l] : List Link).length = (((([] : List Link) ++ n_.links) ++ ([l] : List Link))).length := len_app rfl rfl
        refine app (k := 2) (news := flL ([l] : List Link)) (cs' := flL ((([] : List Link) ++ n_.links) ++ ([l] : List Link))) (nm := (((([] : List Link) ++ n_.links) ++ ([l] : List Link))).length) tS22 rfl (by decide) rfl rfl rfl (by rw [flL_len]; rfl) (srcS (k := 0) rfl) (flL_one _) (room_of q155 q154).1 (room_of q155 q154).2 q155 (flL_append _ _).symm rfl (fun a8 c6 => ?_)
        refine .cast (A' := [OwnSl 35 4 a7 (([l] : List Link).length) 1 (flL ([l] : List Link)), Box pm [.int .i64 0, .slice none 0 0], OwnSl 35 4 a8 (((([] : List Link) ++ n_.links) ++ ([l] : List Link)).length) c6 (flL ((([] : List Link) ++ n_.links) ++ ([l] : List Link))), Box pl [.int .i64 l.src, .int .i64 l.dst, .int .i64 l.low, .int .i64 l.high], Box pn [.int .i64 n_.events, .slice an_ n_.links.length cn_]]) rfl ?_
        refine .nil ?_
        refine .ja (M := []) (C' := [0, 1, 9]) (pre := [(8, .slice a8 (((([] : List Link) ++ n_.links) ++ ([l] : List Link)).length) c6), (9, .agg #[.int .i64 n_.events, .slice a8 (((([] : List Link) ++ n_.links) ++ ([l] : List Link)).length) c6])]) [(2, .int .i64 i), (3, .int .i64 j), (4, .pointer (some pn)), (5, .pointer (some pl))] [2, 3, 4, 5] hL rfl rfl rfl rfl rfl (.cons rfl (.cons rfl (.cons rfl (.cons rfl (.nil))))) rfl rfl (by kernel_rfl) ?_
        refine .step [11] 11 rfl (by kernel_rfl) (by kernel_rfl) (.v [] rfl rfl rfl rfl rfl rfl (fun _ => fa rfl tF24_0) (.v [(16, .pointer (some (pn.add 0)))] rfl rfl rfl rfl rfl rfl (fun _ => ld1 rfl tO3 (cellB (off := 0) (k := 4) rfl rfl)) (.v [(17, .int .i64 n_.events), (24, .slice a8 (((([] : List Link) ++ n_.links) ++ ([l] : List Link)).length) c6)] rfl rfl rfl rfl rfl rfl (fun _ => bld (cs := #[.int .i64 n_.events, .slice a8 (((([] : List Link) ++ n_.links) ++ ([l] : List Link)).length) c6]) (pv := [(0, .int .i64 n_.events), (1, .slice a8 (((([] : List Link) ++ n_.links) ++ ([l] : List Link)).length) c6)]) tB24 rfl rfl) (.nil)))) (.cons [(9, .pointer (some pm)), (25, .agg #[.int .i64 n_.events, .slice a8 (((([] : List Link) ++ n_.links) ++ ([l] : List Link)).length) c6]), (24, .slice a8 (((([] : List Link) ++ n_.links) ++ ([l] : List Link)).length) c6), (16, .pointer (some (pn.add 0))), (17, .int .i64 n_.events), (18, .slice a5 (([] : List Link).length) 0), (19, .pointer (some (pn.add 1))), (20, .slice an_ n_.links.length cn_), (21, .slice a6 ((([] : List Link) ++ n_.links).length) c5), (22, .agg #[.int .i64 l.src, .int .i64 l.dst, .int .i64 l.low, .int .i64 l.high]), (23, .slice a7 (([l] : List Link).length) 1), (24, .slice a8 (((([] : List Link) ++ n_.links) ++ ([l] : List Link)).length) c6), (25, .agg #[.int .i64 n_.events, .slice a8 (((([] : List Link) ++ n_.links) ++ ([l] : List Link)).length) c6]), (9, .pointer (some pm))] rfl rfl (fun sL hL => ?_) (.nil))
        refine st (p := pm) (off := 0) (k := 1) (vs := [.int .i64 n_.events, .slice a8 (((([] : List Link) ++ n_.links) ++ ([l] : List Link)).length) c6]) rfl rfl rfl (fun w => (tA24 w).2) rfl rfl rfl rfl ?_
        refine .cast (A' := [OwnSl 35 4 a7 (([l] : List Link).length) 1 (flL ([l] : List Link)), Box pm [.int .i64 n_.events, .slice a8 (((([] : List Link) ++ n_.links) ++ ([l] : List Link)).length) c6], OwnSl 35 4 a8 (((([] : List Link) ++ n_.links) ++ ([l] : List Link)).length) c6 (flL ((([] : List Link) ++ n_.links) ++ ([l] : List Link))), Box pl [.int .i64 l.src, .int .i64 l.dst, .int .i64 l.low, .int .i64 l.high], Box pn [.int .i64 n_.events, .slice an_ n_.links.length cn_]]) rfl ?_
        refine .nil ?_
        refine .jaN (M := [9, 0, 1]) (C' := []) (pre := []) [2, 3, 4, 5] hL rfl rfl rfl rfl rfl (by kernel_rfl) ?_
        refine .last [(16, .pointer (some (pn.add 0))), (17, .int .i64 n_.events), (18, .slice a5 (([] : List Link).length) 0), (19, .pointer (some (pn.add 1))), (20, .slice an_ n_.links.length cn_), (21, .slice a6 ((([] : List Link) ++ n_.links).length) c5), (22, .agg #[.int .i64 l.src, .int .i64 l.dst, .int .i64 l.low, .int .i64 l.high]), (23, .slice a7 (([l] : List Link).length) 1), (24, .slice a8 (((([] : List Link) ++ n_.links) ++ ([l] : List Link)).length) c6), (25, .agg #[.int .i64 n_.events, .slice a8 (((([] : List Link) ++ n_.links) ++ ([l] : List Link)).length) c6]), (9, .pointer (some pm))] rfl (by kernel_rfl) (.nil) rfl ?_
        refine .sel0 [4, 1, 2] (by decide) rfl ?_
        exact .use q69 (pm, a8, c6) hF (.cons rfl (.cons rfl (.cons rfl (.cons rfl (.nil))))) rfl (FH.le_refl _)
      · refine bs2 (cs := #[.int .i64 l.src, .int .i64 l.dst, .int .i64 l.low, .int .i64 l.high]) (pv := [(0, .agg #[.int .i64 l.src, .int .i64 l.dst, .int .i64 l.low, .int .i64 l.high])]) tS22 rfl rfl (by decide) (by decide) rfl rfl rfl (fun a6 _ => ?_)
        refine .cast (A' := [OwnSl 35 4 a6 (([l] : List Link).length) 1 (flL ([l] : List Link)), Box pm [.int .i64 0, .slice none 0 0], OwnSl 35 4 a5 (([] : List Link).length) 0 (flL ([] : List Link)), Box pl [.int .i64 l.src, .int .i64 l.dst, .int .i64 l.low, .int .i64 l.high], Box pn [.int .i64 n_.events, .slice an_ n_.links.length cn_]]) rfl ?_
        refine .nil ?_
        refine .ja (M := [6]) (C' := [0, 1, 3, 4]) (pre := [(7, .slice a6 (([l] : List Link).length) 1)]) [(2, .int .i64 i), (3, .int .i64 j), (4, .pointer (some pn)), (5, .pointer (some pl))] [2, 3, 4, 5] hL rfl rfl rfl rfl rfl (.cons rfl (.cons rfl (.cons rfl (.cons rfl (.nil))))) rfl rfl (by kernel_rfl) ?_
        refine .step [5] 5 rfl (by kernel_rfl) (by kernel_rfl) (.v [] rfl rfl rfl rfl rfl rfl (fun _ => fa rfl tF24_0) (.v [(16, .pointer (some (pn.add 0)))] rfl rfl rfl rfl rfl rfl (fun _ => ld1 rfl tO3 (cellB (off := 0) (k := 4) rfl rfl)) (.v [] rfl rfl rfl rfl rfl rfl (fun _ => fa rfl tF24_1) (.v [(19, .pointer (some (pn.add 1)))] rfl rfl rfl rfl rfl rfl (fun _ => ld1 rfl tO22 (cellB (off := 1) (k := 4) rfl rfl)) (.nil))))) (.cons [(18, .slice a5 (([] : List Link).length) 0), (20, .slice an_ n_.links.length cn_)] rfl rfl (fun sL hL => ?_) (.nil))
        obtain ⟨q157, hF⟩ := hF
        have q158 : ([] : List Link).length + n_.links.length = ((([] : List Link) ++ n_.links)).length := len_app rfl rfl
        refine app (k := 2) (news := flL n_.links) (cs' := flL (([] : List Link) ++ n_.links)) (nm := ((([] : List Link) ++ n_.links)).length) tS22 rfl (by decide) rfl rfl rfl (by rw [flL_len]; rfl) (srcH (fun q => _q1.ne (by decide) q) (_q1.raw)) (flL_one _) (room_of q158 q157).1 (room_of q158 q157).2 q158 (flL_append _ _).symm rfl (fun a7 c5 => ?_)
        refine .cast (A' := [OwnSl 35 4 a6 (([l] : List Link).length) 1 (flL ([l] : List Link)), Box pm [.int .i64 0, .slice none 0 0], OwnSl 35 4 a7 ((([] : List Link) ++ n_.links).length) c5 (flL (([] : List Link) ++ n_.links)), Box pl [.int .i64 l.src, .int .i64 l.dst, .int .i64 l.low, .int .i64 l.high], Box pn [.int .i64 n_.events, .slice an_ n_.links.length cn_]]) rfl ?_
        refine .nil ?_
        refine .ja (M := [4, 3]) (C' := [0, 1]) (pre := [(5, .slice a7 ((([] : List Link) ++ n_.links).length) c5)]) [(2, .int .i64 i), (3, .int .i64 j), (4, .pointer (some pn)), (5, .pointer (some pl))] [2, 3, 4, 5] hL rfl rfl rfl rfl rfl (.cons rfl (.cons rfl (.cons rfl (.cons rfl (.nil))))) rfl rfl (by kernel_rfl) ?_
        refine .step [8] 8 rfl (by kernel_rfl) (by kernel_rfl) (.v [] rfl rfl rfl rfl rfl rfl (fun _ => fa rfl tF24_0) (.v [(16, .pointer (some (pn.add 0)))] rfl rfl rfl rfl rfl rfl (fun _ => ld1 rfl tO3 (cellB (off := 0) (k := 4) rfl rfl)) (.nil))) (.cons [(21, .slice a7 ((([] : List Link) ++ n_.links).length) c5), (23, .slice a6 (([l] : List Link).length) 1), (21, .slice a7 ((([] : List Link) ++ n_.links).length) c5)] rfl rfl (fun sL hL => ?_) (.nil))
        obtain ⟨q159, hF⟩ := hF
        have q160 : (([] : List Link) ++ n_.links).length + ([l] : List Link).length = (((([] : List Link) ++ n_.links) ++ ([l] : List Link))).length := len_app rfl rfl
        refine app (k := 2) (news := flL ([l] : List Link)) (cs' := flL ((([] : List Link) ++ n_.links) ++ ([l] : List Link))) (nm := (((([] : List Link) ++ n_.links) ++ ([l] : List Link))).length) tS22 rfl (by decide) rfl rfl rfl (by rw [flL_len]; rfl) (srcS (k := 0) rfl) (flL_one _) (room_of q160 q159).1 (room_of q160 q159).2 q160 (flL_append _ _).symm rfl (fun a8 c6 => ?_)
        refine .cast (A' := [OwnSl 35 4 a6 (([l] : List Link).length) 1 (flL ([l] : List Link)), Box pm [.int .i64 0, .slice none 0 0], OwnSl 35 4 a8 (((([] : List Link) ++ n_.links) ++ ([l] : List Link)).length) c6 (flL ((([] : List Link) ++ n_.links) ++ ([l] : List Link))), Box pl [.int .i64 l.src, .int .i64 l.dst, .int .i64 l.low, .int .i64 l.high], Box pn [.int .i64 n_.events, .slice an_ n_.links.length cn_]]) rfl ?_
        refine .nil ?_
        refine .ja (M := []) (C' := [0, 1, 9]) (pre := [(8, .slice a8 (((([] : List Link) ++ n_.links) ++ ([l] : List Link)).length) c6), (9, .agg #[.int .i64 n_.events, .slice a8 (((([] : List Link) ++ n_.links) ++ ([l] : List Link)).length) c6])]) [(2, .int .i64 i), (3, .int .i64 j), (4, .pointer (some pn)), (5, .pointer (some pl))] [2, 3, 4, 5] hL rfl rfl rfl rfl rfl (.cons rfl (.cons rfl (.cons rfl (.cons rfl (.nil))))) rfl rfl (by kernel_rfl) ?_
        refine .step [11] 11 rfl (by kernel_rfl) (by kernel_rfl) (.v [] rfl rfl rfl rfl rfl rfl (fun _ => fa rfl tF24_0) (.v [(16, .pointer (some (pn.add 0)))] rfl rfl rfl rfl rfl rfl (fun _ => ld1 rfl tO3 (cellB (off := 0) (k := 4) rfl rfl)) (.v [(17, .int .i64 n_.events), (24, .slice a8 (((([] : List Link) ++ n_.links) ++ ([l] : List Link)).length) c6)] rfl rfl rfl rfl rfl rfl (fun _ => bld (cs := #[.int .i64 n_.events, .slice a8 (((([] : List Link) ++ n_.links) ++ ([l] : List Link)).length) c6]) (pv := [(0, .int .i64 n_.events), (1, .slice a8 (((([] : List Link) ++ n_.links) ++ ([l] : List Link)).length) c6)]) tB24 rfl rfl) (.nil)))) (.cons [(9, .pointer (some pm)), (25, .agg #[.int .i64 n_.events, .slice a8 (((([] : List Link) ++ n_.links) ++ ([l] : List Link)).length) c6]), (24, .slice a8 (((([] : List Link) ++ n_.links) ++ ([l] : List Link)).length) c6), (16, .pointer (some (pn.add 0))), (17, .int .i64 n_.events), (18, .slice a5 (([] : List Link).length) 0), (19, .pointer (some (pn.add 1))), (20, .slice an_ n_.links.length cn_), (21, .slice a7 ((([] : List Link) ++ n_.links).length) c5), (22, .agg #[.int .i64 l.src, .int .i64 l.dst, .int .i64 l.low, .int .i64 l.high]), (23, .slice a6 (([l] : List Link).length) 1), (24, .slice a8 (((([] : List Link) ++ n_.links) ++ ([l] : List Link)).length) c6), (25, .agg #[.int .i64 n_.events, .slice a8 (((([] : List Link) ++ n_.links) ++ ([l] : List Link)).length) c6]), (9, .pointer (some pm))] rfl rfl (fun sL hL => ?_) (.nil))
        refine st (p := pm) (off := 0) (k := 1) (vs := [.int .i64 n_.events, .slice a8 (((([] : List Link) ++ n_.links) ++ ([l] : List Link)).length) c6]) rfl rfl rfl (fun w => (tA24 w).2) rfl rfl rfl rfl ?_
        refine .cast (A' := [OwnSl 35 4 a6 (([l] : List Link).length) 1 (flL ([l] : List Link)), Box pm [.int .i64 n_.events, .slice a8 (((([] : List Link) ++ n_.links) ++ ([l] : List Link)).length) c6], OwnSl 35 4 a8 (((([] : List Link) ++ n_.links) ++ ([l] : List Link)).length) c6 (flL ((([] : List Link) ++ n_.links) ++ ([l] : List Link))), Box pl [.int .i64 l.src, .int .i64 l.dst, .int .i64 l.low, .int .i64 l.high], Box pn [.int .i64 n_.events, .slice an_ n_.links.length cn_]]) rfl ?_
        refine .nil ?_
        refine .jaN (M := [9, 0, 1]) (C' := []) (pre := []) [2, 3, 4, 5] hL rfl rfl rfl rfl rfl (by kernel_rfl) ?_
        refine .last [(16, .pointer (some (pn.add 0))), (17, .int .i64 n_.events), (18, .slice a5 (([] : List Link).length) 0), (19, .pointer (some (pn.add 1))), (20, .slice an_ n_.links.length cn_), (21, .slice a7 ((([] : List Link) ++ n_.links).length) c5), (22, .agg #[.int .i64 l.src, .int .i64 l.dst, .int .i64 l.low, .int .i64 l.high]), (23, .slice a6 (([l] : List Link).length) 1), (24, .slice a8 (((([] : List Link) ++ n_.links) ++ ([l] : List Link)).length) c6), (25, .agg #[.int .i64 n_.events, .slice a8 (((([] : List Link) ++ n_.links) ++ ([l] : List Link)).length) c6]), (9, .pointer (some pm))] rfl (by kernel_rfl) (.nil) rfl ?_
        refine .sel0 [4, 1, 2] (by decide) rfl ?_
        exact .use q69 (pm, a8, c6) hF (.cons rfl (.cons rfl (.cons rfl (.cons rfl (.nil))))) rfl (FH.le_refl _)
  · refine bs2 (cs := #[.int .i64 l.src, .int .i64 l.dst, .int .i64 l.low, .int .i64 l.high]) (pv := [(0, .agg #[.int .i64 l.src, .int .i64 l.dst, .int .i64 l.low, .int .i64 l.high])]) tS22 rfl rfl (by decide) (by decide) rfl rfl rfl (fun a5 _ => ?_)
    refine .cast (A' := [OwnSl 35 4 a5 (([l] : List Link).length) 1 (flL ([l] : List Link)), Box pl [.int .i64 l.src, .int .i64 l.dst, .int .i64 l.low, .int .i64 l.high], Box pn [.int .i64 n_.events, .slice an_ n_.links.length cn_]]) rfl ?_
    refine .nil ?_
    refine .ja (M := [6]) (C' := [0, 1, 3, 4]) (pre := [(7, .slice a5 (([l] : List Link).length) 1)]) [(2, .int .i64 i), (3, .int .i64 j), (4, .pointer (some pn)), (5, .pointer (some pl))] [2, 3, 4, 5] hL rfl rfl rfl rfl rfl (.cons rfl (.cons rfl (.cons rfl (.cons rfl (.nil))))) rfl rfl (by kernel_rfl) ?_
    refine .step [2, 10] 2 rfl (by kernel_rfl) (by kernel_rfl) (.v [] rfl rfl rfl rfl rfl rfl (fun _ => fa rfl tF24_0) (.v [(16, .pointer (some (pn.add 0)))] rfl rfl rfl rfl rfl rfl (fun _ => ld1 rfl tO3 (cellB (off := 0) (k := 2) rfl rfl)) (.v [] rfl rfl rfl rfl rfl rfl (fun _ => fa rfl tF24_1) (.v [(19, .pointer (some (pn.add 1)))] rfl rfl rfl rfl rfl rfl (fun _ => ld1 rfl tO22 (cellB (off := 1) (k := 2) rfl rfl)) (.nil))))) (.cons [] rfl rfl (fun sL hL => ?_) (.cons [] rfl rfl (fun sL hL => ?_) (.nil)))
    · refine bs2 (cs := #[]) (pv := []) tS22 rfl rfl (by decide) (by decide) rfl rfl rfl (fun a6 _ => ?_)
      refine .cast (A' := [OwnSl 35 4 a6 (([] : List Link).length) 0 (flL ([] : List Link)), OwnSl 35 4 a5 (([l] : List Link).length) 1 (flL ([l] : List Link)), Box pl [.int .i64 l.src, .int .i64 l.dst, .int .i64 l.low, .int .i64 l.high], Box pn [.int .i64 n_.events, .slice an_ n_.links.length cn_]]) rfl ?_
      refine .nil ?_
      refine .ja (M := []) (C' := [0, 1, 3, 4]) (pre := [(2, .slice a6 (([] : List Link).length) 0)]) [(2, .int .i64 i), (3, .int .i64 j), (4, .pointer (some pn)), (5, .pointer (some pl))] [2, 3, 4, 5] hL rfl rfl rfl rfl rfl (.cons rfl (.cons rfl (.cons rfl (.cons rfl (.nil))))) rfl rfl (by kernel_rfl) ?_
      refine .step [5, 10] 5 rfl (by kernel_rfl) (by kernel_rfl) (.v [] rfl rfl rfl rfl rfl rfl (fun _ => fa rfl tF24_0) (.v [(16, .pointer (some (pn.add 0)))] rfl rfl rfl rfl rfl rfl (fun _ => ld1 rfl tO3 (cellB (off := 0) (k := 3) rfl rfl)) (.v [] rfl rfl rfl rfl rfl rfl (fun _ => fa rfl tF24_1) (.v [(19, .pointer (some (pn.add 1)))] rfl rfl rfl rfl rfl rfl (fun _ => ld1 rfl tO22 (cellB (off := 1) (k := 3) rfl rfl)) (.nil))))) (.cons [(18, .slice a6 (([] : List Link).length) 0), (20, .slice an_ n_.links.length cn_)] rfl rfl (fun sL hL => ?_) (.cons [] rfl rfl (fun sL hL => ?_) (.nil)))
      · obtain ⟨q163, hF⟩ := hF
        have q164 : ([] : List Link).length + n_.links.length = ((([] : List Link) ++ n_.links)).length := len_app rfl rfl
        refine app (k := 0) (news := flL n_.links) (cs' := flL (([] : List Link) ++ n_.links)) (nm := ((([] : List Link) ++ n_.links)).length) tS22 rfl (by decide) rfl rfl rfl (by rw [flL_len]; rfl) (srcH (fun q => _q1.ne (by decide) q) (_q1.raw)) (flL_one _) (room_of q164 q163).1 (room_of q164 q163).2 q164 (flL_append _ _).symm rfl (fun a7 c5 => ?_)
        refine .cast (A' := [OwnSl 35 4 a7 ((([] : List Link) ++ n_.links).length) c5 (flL (([] : List Link) ++ n_.links)), OwnSl 35 4 a5 (([l] : List Link).length) 1 (flL ([l] : List Link)), Box pl [.int .i64 l.src, .int .i64 l.dst, .int .i64 l.low, .int .i64 l.high], Box pn [.int .i64 n_.events, .slice an_ n_.links.length cn_]]) rfl ?_
        refine .nil ?_
        refine .ja (M := [4, 3]) (C' := [0, 1]) (pre := [(5, .slice a7 ((([] : List Link) ++ n_.links).length) c5)]) [(2, .int .i64 i), (3, .int .i64 j), (4, .pointer (some pn)), (5, .pointer (some pl))] [2, 3, 4, 5] hL rfl rfl rfl rfl rfl (.cons rfl (.cons rfl (.cons rfl (.cons rfl (.nil))))) rfl rfl (by kernel_rfl) ?_
        refine .step [8, 10] 8 rfl (by kernel_rfl) (by kernel_rfl) (.v [] rfl rfl rfl rfl rfl rfl (fun _ => fa rfl tF24_0) (.v [(16, .pointer (some (pn.add 0)))] rfl rfl rfl rfl rfl rfl (fun _ => ld1 rfl tO3 (cellB (off := 0) (k := 3) rfl rfl)) (.nil))) (.cons [(21, .slice a7 ((([] : List Link) ++ n_.links).length) c5), (23, .slice a5 (([l] : List Link).length) 1), (21, .slice a7 ((([] : List Link) ++ n_.links).length) c5)] rfl rfl (fun sL hL => ?_) (.cons [] rfl rfl (fun sL hL => ?_) (.nil)))
        · obtain ⟨q165, hF⟩ := hF
          have q166 : (([] : List Link) ++ n_.links).length + ([l] : List Link).length = (((([] : List Link) ++ n_.links) ++ ([l] : List Link))).length := len_app rfl rfl
          refine app (k := 0) (news := flL ([l] : List Link)) (cs' := flL ((([] : List Link) ++ n_.links) ++ ([l] : List Link))) (nm := (((([] : List Link) ++ n_.links) ++ ([l] : List Link))).length) tS22 rfl (by decide) rfl rfl rfl (by rw [flL_len]; rfl) (srcS (k := 1) rfl) (flL_one _) (room_of q166 q165).1 (room_of q166 q165).2 q166 (flL_append _ _).symm rfl (fun a8 c6 => ?_)
          refine .cast (A' := [OwnSl 35 4 a8 (((([] : List Link) ++ n_.links) ++ ([l] : List Link)).length) c6 (flL ((([] : List Link) ++ n_.links) ++ ([l] : List Link))), OwnSl 35 4 a5 (([l] : List Link).length) 1 (flL ([l] : List Link)), Box pl [.int .i64 l.src, .int .i64 l.dst, .int .i64 l.low, .int .i64 l.high], Box pn [.int .i64 n_.events, .slice an_ n_.links.length cn_]]) rfl ?_
          refine .nil ?_
          refine .ja (M := []) (C' := [0, 1, 9]) (pre := [(8, .slice a8 (((([] : List Link) ++ n_.links) ++ ([l] : List Link)).length) c6), (9, .agg #[.int .i64 n_.events, .slice a8 (((([] : List Link) ++ n_.links) ++ ([l] : List Link)).length) c6])]) [(2, .int .i64 i), (3, .int .i64 j), (4, .pointer (some pn)), (5, .pointer (some pl))] [2, 3, 4, 5] hL rfl rfl rfl rfl rfl (.cons rfl (.cons rfl (.cons rfl (.cons rfl (.nil))))) rfl rfl (by kernel_rfl) ?_
          refine .step [10] 10 rfl (by kernel_rfl) (by kernel_rfl) (.v [] rfl rfl rfl rfl rfl rfl (fun _ => fa rfl tF24_0) (.v [(16, .pointer (some (pn.add 0)))] rfl rfl rfl rfl rfl rfl (fun _ => ld1 rfl tO3 (cellB (off := 0) (k := 3) rfl rfl)) (.v [(17, .int .i64 n_.events), (24, .slice a8 (((([] : List Link) ++ n_.links) ++ ([l] : List Link)).length) c6)] rfl rfl rfl rfl rfl rfl (fun _ => bld (cs := #[.int .i64 n_.events, .slice a8 (((([] : List Link) ++ n_.links) ++ ([l] : List Link)).length) c6]) (pv := [(0, .int .i64 n_.events), (1, .slice a8 (((([] : List Link) ++ n_.links) ++ ([l] : List Link)).length) c6)]) tB24 rfl rfl) (.nil)))) (.cons [] rfl rfl (fun sL hL => ?_) (.nil))
          refine al tZ24 rfl (fun pm => ?_)
          refine .nil ?_
          refine .ja (M := []) (C' := [0, 1, 9]) (pre := [(10, .pointer (some pm))]) [(2, .int .i64 i), (3, .int .i64 j), (4, .pointer (some pn)), (5, .pointer (some pl))] [2, 3, 4, 5] hL rfl rfl rfl rfl rfl (.cons rfl (.cons rfl (.cons rfl (.cons rfl (.nil))))) rfl rfl (by kernel_rfl) ?_
          refine .step [11] 11 rfl (by kernel_rfl) (by kernel_rfl) (.v [] rfl rfl rfl rfl rfl rfl (fun _ => fa rfl tF24_0) (.v [(16, .pointer (some (pn.add 0)))] rfl rfl rfl rfl rfl rfl (fun _ => ld1 rfl tO3 (cellB (off := 0) (k := 4) rfl rfl)) (.v [(17, .int .i64 n_.events), (24, .slice a8 (((([] : List Link) ++ n_.links) ++ ([l] : List Link)).length) c6)] rfl rfl rfl rfl rfl rfl (fun _ => bld (cs := #[.int .i64 n_.events, .slice a8 (((([] : List Link) ++ n_.links) ++ ([l] : List Link)).length) c6]) (pv := [(0, .int .i64 n_.events), (1, .slice a8 (((([] : List Link) ++ n_.links) ++ ([l] : List Link)).length) c6)]) tB24 rfl rfl) (.nil)))) (.cons [(9, .pointer (some pm)), (25, .agg #[.int .i64 n_.events, .slice a8 (((([] : List Link) ++ n_.links) ++ ([l] : List Link)).length) c6]), (24, .slice a8 (((([] : List Link) ++ n_.links) ++ ([l] : List Link)).length) c6), (16, .pointer (some (pn.add 0))), (17, .int .i64 n_.events), (18, .slice a6 (([] : List Link).length) 0), (19, .pointer (some (pn.add 1))), (20, .slice an_ n_.links.length cn_), (21, .slice a7 ((([] : List Link) ++ n_.links).length) c5), (22, .agg #[.int .i64 l.src, .int .i64 l.dst, .int .i64 l.low, .int .i64 l.high]), (23, .slice a5 (([l] : List Link).length) 1), (24, .slice a8 (((([] : List Link) ++ n_.links) ++ ([l] : List Link)).length) c6), (25, .agg #[.int .i64 n_.events, .slice a8 (((([] : List Link) ++ n_.links) ++ ([l] : List Link)).length) c6]), (9, .pointer (some pm))] rfl rfl (fun sL hL => ?_) (.nil))
          refine st (p := pm) (off := 0) (k := 0) (vs := [.int .i64 n_.events, .slice a8 (((([] : List Link) ++ n_.links) ++ ([l] : List Link)).length) c6]) rfl rfl rfl (fun w => (tA24 w).2) rfl rfl rfl rfl ?_
          refine .cast (A' := [Box pm [.int .i64 n_.events, .slice a8 (((([] : List Link) ++ n_.links) ++ ([l] : List Link)).length) c6], OwnSl 35 4 a8 (((([] : List Link) ++ n_.links) ++ ([l] : List Link)).length) c6 (flL ((([] : List Link) ++ n_.links) ++ ([l] : List Link))), OwnSl 35 4 a5 (([l] : List Link).length) 1 (flL ([l] : List Link)), Box pl [.int .i64 l.src, .int .i64 l.dst, .int .i64 l.low, .int .i64 l.high], Box pn [.int .i64 n_.events, .slice an_ n_.links.length cn_]]) rfl ?_
          refine .nil ?_
          refine .jaN (M := [9, 0, 1]) (C' := []) (pre := []) [2, 3, 4, 5] hL rfl rfl rfl rfl rfl (by kernel_rfl) ?_
          refine .last [(16, .pointer (some (pn.add 0))), (17, .int .i64 n_.events), (18, .slice a6 (([] : List Link).length) 0), (19, .pointer (some (pn.add 1))), (20, .slice an_ n_.links.length cn_), (21, .slice a7 ((([] : List Link) ++ n_.links).length) c5), (22, .agg #[.int .i64 l.src, .int .i64 l.dst, .int .i64 l.low, .int .i64 l.high]), (23, .slice a5 (([l] : List Link).length) 1), (24, .slice a8 (((([] : List Link) ++ n_.links) ++ ([l] : List Link)).length) c6), (25, .agg #[.int .i64 n_.events, .slice a8 (((([] : List Link) ++ n_.links) ++ ([l] : List Link)).length) c6]), (9, .pointer (some pm))] rfl (by kernel_rfl) (.nil) rfl ?_
          refine .sel0 [4, 0, 1] (by decide) rfl ?_
          exact .use q69 (pm, a8, c6) hF (.cons rfl (.cons rfl (.cons rfl (.cons rfl (.nil))))) rfl (FH.le_refl _)
        · refine al tZ24 rfl (fun pm => ?_)
          refine .nil ?_
          refine .ja (M := []) (C' := [0, 1]) (pre := [(10, .pointer (some pm))]) [(2, .int .i64 i), (3, .int .i64 j), (4, .pointer (some pn)), (5, .pointer (some pl))] [2, 3, 4, 5] hL rfl rfl rfl rfl rfl (.cons rfl (.cons rfl (.cons rfl (.cons rfl (.nil))))) rfl rfl (by kernel_rfl) ?_
          refine .step [8] 8 rfl (by kernel_rfl) (by kernel_rfl) (.v [] rfl rfl rfl rfl rfl rfl (fun _ => fa rfl tF24_0) (.v [(16, .pointer (some (pn.add 0)))] rfl rfl rfl rfl rfl rfl (fun _ => ld1 rfl tO3 (cellB (off := 0) (k := 4) rfl rfl)) (.nil))) (.cons [(21, .slice a7 ((([] : List Link) ++ n_.links).length) c5), (23, .slice a5 (([l] : List Link).length) 1), (21, .slice a7 ((([] : List Link) ++ n_.links).length) c5)] rfl rfl (fun sL hL => ?_) (.nil))
          obtain ⟨q167, hF⟩ := hF
          have q168 : (([] : List Link) ++ n_.links).length + ([l] : List Link).length = (((([] : List Link) ++ n_.links) ++ ([l] : List Link))).length := len_app rfl rfl
          refine app (k := 1) (news := flL ([l] : List Link)) (cs' := flL ((([] : List Link) ++ n_.links) ++ ([l] : List Link))) (nm := (((([] : List Link) ++ n_.links) ++ ([l] : List Link))).length) tS22 rfl (by decide) rfl rfl rfl (by rw [flL_len]; rfl) (srcS (k := 2) rfl) (flL_one _) (room_of q168 q167).1 (room_of q168 q167).2 q168 (flL_append _ _).symm rfl (fun a8 c6 => ?_)
          refine .cast (A' := [Box pm [.int .i64 0, .slice none 0 0], OwnSl 35 4 a8 (((([] : List Link) ++ n_.links) ++ ([l] : List Link)).length) c6 (flL ((([] : List Link) ++ n_.links) ++ ([l] : List Link))), OwnSl 35 4 a5 (([l] : List Link).length) 1 (flL ([l] : List Link)), Box pl [.int .i64 l.src, .int .i64 l.dst, .int .i64 l.low, .int .i64 l.high], Box pn [.int .i64 n_.events, .slice an_ n_.links.length cn_]]) rfl ?_
          refine .nil ?_
          refine .ja (M := []) (C' := [0, 1, 9]) (pre := [(8, .slice a8 (((([] : List Link) ++ n_.links) ++ ([l] : List Link)).length) c6), (9, .agg #[.int .i64 n_.events, .slice a8 (((([] : List Link) ++ n_.links) ++ ([l] : List Link)).length) c6])]) [(2, .int .i64 i), (3, .int .i64 j), (4, .pointer (some pn)), (5, .pointer (some pl))] [2, 3, 4, 5] hL rfl rfl rfl rfl rfl (.cons rfl (.cons rfl (.cons rfl (.cons rfl (.nil))))) rfl rfl (by kernel_rfl) ?_
          refine .step [11] 11 rfl (by kernel_rfl) (by kernel_rfl) (.v [] rfl rfl rfl rfl rfl rfl (fun _ => fa rfl tF24_0) (.v [(16, .pointer (some (pn.add 0)))] rfl rfl rfl rfl rfl rfl (fun _ => ld1 rfl tO3 (cellB (off := 0) (k := 4) rfl rfl)) (.v [(17, .int .i64 n_.events), (24, .slice a8 (((([] : List Link) ++ n_.links) ++ ([l] : List Link)).length) c6)] rfl rfl rfl rfl rfl rfl (fun _ => bld (cs := #[.int .i64 n_.events, .slice a8 (((([] : List Link) ++ n_.links) ++ ([l] : List Link)).length) c6]) (pv := [(0, .int .i64 n_.events), (1, .slice a8 (((([] : List Link) ++ n_.links) ++ ([l] : List Link)).length) c6)]) tB24 rfl rfl) (.nil)))) (.cons [(9, .pointer (some pm)), (25, .agg #[.int .i64 n_.events, .slice a8 (((([] : List Link) ++ n_.links) ++ ([l] : List Link)).length) c6]), (24, .slice a8 (((([] : List Link) ++ n_.links) ++ ([l] : List Link)).length) c6), (16, .pointer (some (pn.add 0))), (17, .int .i64 n_.events), (18, .slice a6 (([] : List Link).length) 0), (19, .pointer (some (pn.add 1))), (20, .slice an_ n_.links.length cn_), (21, .slice a7 ((([] : List Link) ++ n_.links).length) c5), (22, .agg #[.int .i64 l.src, .int .i64 l.dst, .int .i64 l.low, .int .i64 l.high]), (23, .slice a5 (([l] : List Link).length) 1), (24, .slice a8 (((([] : List Link) ++ n_.links) ++ ([l] : List Link)).length) c6), (25, .agg #[.int .i64 n_.events, .slice a8 (((([] : List Link) ++ n_.links) ++ ([l] : List Link)).length) c6]), (9, .pointer (some pm))] rfl rfl (fun sL hL => ?_) (.nil))
          refine st (p := pm) (off := 0) (k := 0) (vs := [.int .i64 n_.events, .slice a8 (((([] : List Link) ++ n_.links) ++ ([l] : List Link)).length) c6]) rfl rfl rfl (fun w => (tA24 w).2) rfl rfl rfl rfl ?_
          refine .cast (A' := [Box pm [.int .i64 n_.events, .slice a8 (((([] : List Link) ++ n_.links) ++ ([l] : List Link)).length) c6], OwnSl 35 4 a8 (((([] : List Link) ++ n_.links) ++ ([l] : List Link)).length) c6 (flL ((([] : List Link) ++ n_.links) ++ ([l] : List Link))), OwnSl 35 4 a5 (([l] : List Link).length) 1 (flL ([l] : List Link)), Box pl [.int .i64 l.src, .int .i64 l.dst, .int .i64 l.low, .int .i64 l.high], Box pn [.int .i64 n_.events, .slice an_ n_.links.length cn_]]) rfl ?_
          refine .nil ?_
          refine .jaN (M := [9, 0, 1]) (C' := []) (pre := []) [2, 3, 4, 5] hL rfl rfl rfl rfl rfl (by kernel_rfl) ?_
          refine .last [(16, .pointer (some (pn.add 0))), (17, .int .i64 n_.events), (18, .slice a6 (([] : List Link).length) 0), (19, .pointer (some (pn.add 1))), (20, .slice an_ n_.links.length cn_), (21, .slice a7 ((([] : List Link) ++ n_.links).length) c5), (22, .agg #[.int .i64 l.src, .int .i64 l.dst, .int .i64 l.low, .int .i64 l.high]), (23, .slice a5 (([l] : List Link).length) 1), (24, .slice a8 (((([] : List Link) ++ n_.links) ++ ([l] : List Link)).length) c6), (25, .agg #[.int .i64 n_.events, .slice a8 (((([] : List Link) ++ n_.links) ++ ([l] : List Link)).length) c6]), (9, .pointer (some pm))] rfl (by kernel_rfl) (.nil) rfl ?_
          refine .sel0 [4, 0, 1] (by decide) rfl ?_
          exact .use q69 (pm, a8, c6) hF (.cons rfl (.cons rfl (.cons rfl (.cons rfl (.nil))))) rfl (FH.le_refl _)
      · refine al tZ24 rfl (fun pm => ?_)
        refine .nil ?_
        refine .ja (M := []) (C' := [0, 1, 3, 4]) (pre := [(10, .pointer (some pm))]) [(2, .int .i64 i), (3, .int .i64 j), (4, .pointer (some pn)), (5, .pointer (some pl))] [2, 3, 4, 5] hL rfl rfl rfl rfl rfl (.cons rfl (.cons rfl (.cons rfl (.cons rfl (.nil))))) rfl rfl (by kernel_rfl) ?_
        refine .step [5] 5 rfl (by kernel_rfl) (by kernel_rfl) (.v [] rfl rfl rfl rfl rfl rfl (fun _ => fa rfl tF24_0) (.v [(16, .pointer (some (pn.add 0)))] rfl rfl rfl rfl rfl rfl (fun _ => ld1 rfl tO3 (cellB (off := 0) (k := 4) rfl rfl)) (.v [] rfl rfl rfl rfl rfl rfl (fun _ => fa rfl tF24_1) (.v [(19, .pointer (some (pn.add 1)))] rfl rfl rfl rfl rfl rfl (fun _ => ld1 rfl tO22 (cellB (off := 1) (k := 4) rfl rfl)) (.nil))))) (.cons [(18, .slice a6 (([] : List Link).length) 0), (20, .slice an_ n_.links.length cn_)] rfl rfl (fun sL hL => ?_) (.nil))
        obtain ⟨q169, hF⟩ := hF
        have q170 : ([] : List Link).length + n_.links.length = ((([] : List Link) ++ n_.links)).length := len_app rfl rfl
        refine app (k := 1) (news := flL n_.links) (cs' := flL (([] : List Link) ++ n_.links)) (nm := ((([] : List Link) ++ n_.links)).length) tS22 rfl (by decide) rfl rfl rfl (by rw [flL_len]; rfl) (srcH (fun q => _q1.ne (by decide) q) (_q1.raw)) (flL_one _) (room_of q170 q169).1 (room_of q170 q169).2 q170 (flL_append _ _).symm rfl (fun a7 c5 => ?_)
        refine .cast (A' := [Box pm [.int .i64 0, .slice none 0 0], OwnSl 35 4 a7 ((([] : List Link) ++ n_.links).length) c5 (flL (([] : List Link) ++ n_.links)), OwnSl 35 4 a5 (([l] : List Link).length) 1 (flL ([l] : List Link)), Box pl [.int .i64 l.src, .int .i64 l.dst, .int .i64 l.low, .int .i64 l.high], Box pn [.int .i64 n_.events, .slice an_ n_.links.length cn_]]) rfl ?_
        refine .nil ?_
        refine .ja (M := [4, 3]) (C' := [0, 1]) (pre := [(5, .slice a7 ((([] : List Link) ++ n_.links).length) c5)]) [(2, .int .i64 i), (3, .int .i64 j), (4, .pointer (some pn)), (5, .pointer (some pl))] [2, 3, 4, 5] hL rfl rfl rfl rfl rfl (.cons rfl (.cons rfl (.cons rfl (.cons rfl (.nil))))) rfl rfl (by kernel_rfl) ?_
        refine .step [8] 8 rfl (by kernel_rfl) (by kernel_rfl) (.v [] rfl rfl rfl rfl rfl rfl (fun _ => fa rfl tF24_0) (.v [(16, .pointer (some (pn.add 0)))] rfl rfl rfl rfl rfl rfl (fun _ => ld1 rfl tO3 (cellB (off := 0) (k := 4) rfl rfl)) (.nil))) (.cons [(21, .slice a7 ((([] : List Link) ++ n_.links).length) c5), (23, .slice a5 (([l] : List Link).length) 1), (21, .slice a7 ((([] : List Link) ++ n_.links).length) c5)] rfl rfl (fun sL hL => ?_) (.nil))
        obtain ⟨q171, hF⟩ := hF
        have q172 : (([] : List Link) ++ n_.links).length + ([l] : List Link).length = (((([] : List Link) ++ n_.links) ++ ([l] : List Link))).length := len_app rfl rfl
        refine app (k := 1) (news := flL ([l] : List Link)) (cs' := flL ((([] : List Link) ++ n_.links) ++ ([l] : List Link))) (nm := (((([] : List Link) ++ n_.links) ++ ([l] : List Link))).length) tS22 rfl (by decide) rfl rfl rfl (by rw [flL_len]; rfl) (srcS (k := 2) rfl) (flL_one _) (room_of q172 q171).1 (room_of q172 q171).2 q172 (flL_append _ _).symm rfl (fun a8 c6 => ?_)
        refine .cast (A' := [Box pm [.int .i64 0, .slice none 0 0], OwnSl 35 4 a8 (((([] : List Link) ++ n_.links) ++ ([l] : List Link)).length) c6 (flL ((([] : List Link) ++ n_.links) ++ ([l] : List Link))), OwnSl 35 4 a5 (([l] : List Link).length) 1 (flL ([l] : List Link)), Box pl [.int .i64 l.src, .int .i64 l.dst, .int .i64 l.low, .int .i64 l.high], Box pn [.int .i64 n_.events, .slice an_ n_.links.length cn_]]) rfl ?_
        refine .nil ?_
        refine .ja (M := []) (C' := [0, 1, 9]) (pre := [(8, .slice a8 (((([] : List Link) ++ n_.links) ++ ([l] : List Link)).length) c6), (9, .agg #[.int .i64 n_.events, .slice a8 (((([] : List Link) ++ n_.links) ++ ([l] : List Link)).length) c6])]) [(2, .int .i64 i), (3, .int .i64 j), (4, .pointer (some pn)), (5, .pointer (some pl))] [2, 3, 4, 5] hL rfl rfl rfl rfl rfl (.cons rfl (.cons rfl (.cons rfl (.cons rfl (.nil))))) rfl rfl (by kernel_rfl) ?_
        refine .step [11] 11 rfl (by kernel_rfl) (by kernel_rfl) (.v [] rfl rfl rfl rfl rfl rfl (fun _ => fa rfl tF24_0) (.v [(16, .pointer (some (pn.add 0)))] rfl rfl rfl rfl rfl rfl (fun _ => ld1 rfl tO3 (cellB (off := 0) (k := 4) rfl rfl)) (.v [(17, .int .i64 n_.events), (24, .slice a8 (((([] : List Link) ++ n_.links) ++ ([l] : List Link)).length) c6)] rfl rfl rfl rfl rfl rfl (fun _ => bld (cs := #[.int .i64 n_.events, .slice a8 (((([] : List Link) ++ n_.links) ++ ([l] : List Link)).length) c6]) (pv := [(0, .int .i64 n_.events), (1, .slice a8 (((([] : List Link) ++ n_.links) ++ ([l] : List Link)).length) c6)]) tB24 rfl rfl) (.nil)))) (.cons [(9, .pointer (some pm)), (25, .agg #[.int .i64 n_.events, .slice a8 (((([] : List Link) ++ n_.links) ++ ([l] : List Link)).length) c6]), (24, .slice a8 (((([] : List Link) ++ n_.links) ++ ([l] : List Link)).length) c6), (16, .pointer (some (pn.add 0))), (17, .int .i64 n_.events), (18, .slice a6 (([] : List Link).length) 0), (19, .pointer (some (pn.add 1))), (20, .slice an_ n_.links.length cn_), (21, .slice a7 ((([] : List Link) ++ n_.links).length) c5), (22, .agg #[.int .i64 l.src, .int .i64 l.dst, .int .i64 l.low, .int .i64 l.high]), (23, .slice a5 (([l] : List Link).length) 1), (24, .slice a8 (((([] : List Link) ++ n_.links) ++ ([l] : List Link)).length) c6), (25, .agg #[.int .i64 n_.events, .slice a8 (((([] : List Link) ++ n_.links) ++ ([l] : List Link)).length) c6]), (9, .pointer (some pm))] rfl rfl (fun sL hL => ?_) (.nil))
        refine st (p := pm) (off := 0) (k := 0) (vs := [.int .i64 n_.events, .slice a8 (((([] : List Link) ++ n_.links) ++ ([l] : List Link)).length) c6]) rfl rfl rfl (fun w => (tA24 w).2) rfl rfl rfl rfl ?_
        refine .cast (A' := [Box pm [.int .i64 n_.events, .slice a8 (((([] : List Link) ++ n_.links) ++ ([l] : List Link)).length) c6], OwnSl 35 4 a8 (((([] : List Link) ++ n_.links) ++ ([l] : List Link)).length) c6 (flL ((([] : List Link) ++ n_.links) ++ ([l] : List Link))), OwnSl 35 4 a5 (([l] : List Link).length) 1 (flL ([l] : List Link)), Box pl [.int .i64 l.src, .int .i64 l.dst, .int .i64 l.low, .int .i64 l.high], Box pn [.int .i64 n_.events, .slice an_ n_.links.length cn_]]) rfl ?_
        refine .nil ?_
        refine .jaN (M := [9, 0, 1]) (C' := []) (pre := []) [2, 3, 4, 5] hL rfl rfl rfl rfl rfl (by kernel_rfl) ?_
        refine .last [(16, .pointer (some (pn.add 0))), (17, .int .i64 n_.events), (18, .slice a6 (([] : List Link).length) 0), (19, .pointer (some (pn.add 1))), (20, .slice an_ n_.links.length cn_), (21, .slice a7 ((([] : List Link) ++ n_.links).length) c5), (22, .agg #[.int .i64 l.src, .int .i64 l.dst, .int .i64 l.low, .int .i64 l.high]), (23, .slice a5 (([l] : List Link).length) 1), (24, .slice a8 (((([] : List Link) ++ n_.links) ++ ([l] : List Link)).length) c6), (25, .agg #[.int .i64 n_.events, .slice a8 (((([] : List Link) ++ n_.links) ++ ([l] : List Link)).length) c6]), (9, .pointer (some pm))] rfl (by kernel_rfl) (.nil) rfl ?_
        refine .sel0 [4, 0, 1] (by decide) rfl ?_
        exact .use q69 (pm, a8, c6) hF (.cons rfl (.cons rfl (.cons rfl (.cons rfl (.nil))))) rfl (FH.le_refl _)
    · refine al tZ24 rfl (fun pm => ?_)
      refine .nil ?_
      refine .ja (M := []) (C' := [0, 1, 3, 4]) (pre := [(10, .pointer (some pm))]) [(2, .int .i64 i), (3, .int .i64 j), (4, .pointer (some pn)), (5, .pointer (some pl))] [2, 3, 4, 5] hL rfl rfl rfl rfl rfl (.cons rfl (.cons rfl (.cons rfl (.cons rfl (.nil))))) rfl rfl (by kernel_rfl) ?_
      refine .step [2] 2 rfl (by kernel_rfl) (by kernel_rfl) (.v [] rfl rfl rfl rfl rfl rfl (fun _ => fa rfl tF24_0) (.v [(16, .pointer (some (pn.add 0)))] rfl rfl rfl rfl rfl rfl (fun _ => ld1 rfl tO3 (cellB (off := 0) (k := 3) rfl rfl)) (.v [] rfl rfl rfl rfl rfl rfl (fun _ => fa rfl tF24_1) (.v [(19, .pointer (some (pn.add 1)))] rfl rfl rfl rfl rfl rfl (fun _ => ld1 rfl tO22 (cellB (off := 1) (k := 3) rfl rfl)) (.nil))))) (.cons [] rfl rfl (fun sL hL => ?_) (.nil))
      refine bs2 (cs := #[]) (pv := []) tS22 rfl rfl (by decide) (by decide) rfl rfl rfl (fun a6 _ => ?_)
      refine .cast (A' := [OwnSl 35 4 a6 (([] : List Link).length) 0 (flL ([] : List Link)), Box pm [.int .i64 0, .slice none 0 0], OwnSl 35 4 a5 (([l] : List Link).length) 1 (flL ([l] : List Link)), Box pl [.int .i64 l.src, .int .i64 l.dst, .int .i64 l.low, .int .i64 l.high], Box pn [.int .i64 n_.events, .slice an_ n_.links.length cn_]]) rfl ?_
      refine .nil ?_
      refine .ja (M := []) (C' := [0, 1, 3, 4]) (pre := [(2, .slice a6 (([] : List Link).length) 0)]) [(2, .int .i64 i), (3, .int .i64 j), (4, .pointer (some pn)), (5, .pointer (some pl))] [2, 3, 4, 5] hL rfl rfl rfl rfl rfl (.cons rfl (.cons rfl (.cons rfl (.cons rfl (.nil))))) rfl rfl (by kernel_rfl) ?_
      refine .step [5] 5 rfl (by kernel_rfl) (by kernel_rfl) (.v [] rfl rfl rfl rfl rfl rfl (fun _ => fa rfl tF24_0) (.v [(16, .pointer (some (pn.add 0)))] rfl rfl rfl rfl rfl rfl (fun _ => ld1 rfl tO3 (cellB (off := 0) (k := 4) rfl rfl)) (.v [] rfl rfl rfl rfl rfl rfl (fun _ => fa rfl tF24_1) (.v [(19, .pointer (some (pn.add 1)))] rfl rfl rfl rfl rfl rfl (fun _ => ld1 rfl tO22 (cellB (off := 1) (k := 4) rfl rfl)) (.nil))))) (.cons [(18, .slice a6 (([] : List Link).length) 0), (20, .slice an_ n_.links.length cn_)] rfl rfl (fun sL hL => ?_) (.nil))
      obtain ⟨q174, hF⟩ := hF
      have q175 : ([] : List Link).length + n_.links.length = ((([] : List Link) ++ n_.links)).length := len_app rfl rfl
      refine app (k := 0) (news := flL n_.links) (cs' := flL (([] : List Link) ++ n_.links)) (nm := ((([] : List Link) ++ n_.links)).length) tS22 rfl (by decide) rfl rfl rfl (by rw [flL_len]; rfl) (srcH (fun q => _q1.ne (by decide) q) (_q1.raw)) (flL_one _) (room_of q175 q174).1 (room_of q175 q174).2 q175 (flL_append _ _).symm rfl (fun a7 c5 => ?_)
      refine .cast (A' := [OwnSl 35 4 a7 ((([] : List Link) ++ n_.links).length) c5 (flL (([] : List Link) ++ n_.links)), Box pm [.int .i64 0, .slice none 0 0], OwnSl 35 4 a5 (([l] : List Link).length) 1 (flL ([l] : List Link)), Box pl [.int .i64 l.src, .int .i64 l.dst, .int .i64 l.low, .int .i64 l.high], Box pn [.int .i64 n_.events, .slice an_ n_.links.length cn_]]) rfl ?_
      refine .nil ?_
      refine .ja (M := [4, 3]) (C' := [0, 1]) (pre := [(5, .slice a7 ((([] : List Link) ++ n_.links).length) c5)]) [(2, .int .i64 i), (3, .int .i64 j), (4, .pointer (some pn)), (5, .pointer (some pl))] [2, 3, 4, 5] hL rfl rfl rfl rfl rfl (.cons rfl (.cons rfl (.cons rfl (.cons rfl (.nil))))) rfl rfl (by kernel_rfl) ?_
      refine .step [8] 8 rfl (by kernel_rfl) (by kernel_rfl) (.v [] rfl rfl rfl rfl rfl rfl (fun _ => fa rfl tF24_0) (.v [(16, .pointer (some (pn.add 0)))] rfl rfl rfl rfl rfl rfl (fun _ => ld1 rfl tO3 (cellB (off := 0) (k := 4) rfl rfl)) (.nil))) (.cons [(21, .slice a7 ((([] : List Link) ++ n_.links).length) c5), (23, .slice a5 (([l] : List Link).length) 1), (21, .slice a7 ((([] : List Link) ++ n_.links).length) c5)] rfl rfl (fun sL hL => ?_) (.nil))
      obtain ⟨q176, hF⟩ := hF
      have q177 : (([] : List Link) ++ n_.links).length + ([l] : List Link).length = (((([] : List Link) ++ n_.links) ++ ([l] : List Link))).length := len_app rfl rfl
      refine app (k := 0) (news := flL ([l] : List Link)) (cs' := flL ((([] : List Link) ++ n_.links) ++ ([l] : List Link))) (nm := (((([] : List Link) ++ n_.links) ++ ([l] : List Link))).length) tS22 rfl (by decide) rfl rfl rfl (by rw [flL_len]; rfl) (srcS (k := 2) rfl) (flL_one _) (room_of q177 q176).1 (room_of q177 q176).2 q177 (flL_append _ _).symm rfl (fun a8 c6 => ?_)
      refine .cast (A' := [OwnSl 35 4 a8 (((([] : List Link) ++ n_.links) ++ ([l] : List Link)).length) c6 (flL ((([] : List Link) ++ n_.links) ++ ([l] : List Link))), Box pm [.int .i64 0, .slice none 0 0], OwnSl 35 4 a5 (([l] : List Link).length) 1 (flL ([l] : List Link)), Box pl [.int .i64 l.src, .int .i64 l.dst, .int .i64 l.low, .int .i64 l.high], Box pn [.int .i64 n_.events, .slice an_ n_.links.length cn_]]) rfl ?_
      refine .nil ?_
      refine .ja (M := []) (C' := [0, 1, 9]) (pre := [(8, .slice a8 (((([] : List Link) ++ n_.links) ++ ([l] : List Link)).length) c6), (9, .agg #[.int .i64 n_.events, .slice a8 (((([] : List Link) ++ n_.links) ++ ([l] : List Link)).length) c6])]) [(2, .int .i64 i), (3, .int .i64 j), (4, .pointer (some pn)), (5, .pointer (some pl))] [2, 3, 4, 5] hL rfl rfl rfl rfl rfl (.cons rfl (.cons rfl (.cons rfl (.cons rfl (.nil))))) rfl rfl (by kernel_rfl) ?_
      refine .step [11] 11 rfl (by kernel_rfl) (by kernel_rfl) (.v [] rfl rfl rfl rfl rfl rfl (fun _ => fa rfl tF24_0) (.v [(16, .pointer (some (pn.add 0)))] rfl rfl rfl rfl rfl rfl (fun _ => ld1 rfl tO3 (cellB (off := 0) (k := 4) rfl rfl)) (.v [(17, .int .i64 n_.events), (24, .slice a8 (((([] : List Link) ++ n_.links) ++ ([l] : List Link)).length) c6)] rfl rfl rfl rfl rfl rfl (fun _ => bld (cs := #[.int .i64 n_.events, .slice a8 (((([] : List Link) ++ n_.links) ++ ([l] : List Link)).length) c6]) (pv := [(0, .int .i64 n_.events), (1, .slice a8 (((([] : List Link) ++ n_.links) ++ ([l] : List Link)).length) c6)]) tB24 rfl rfl) (.nil)))) (.cons [(9, .pointer (some pm)), (25, .agg #[.int .i64 n_.events, .slice a8 (((([] : List Link) ++ n_.links) ++ ([l] : List Link)).length) c6]), (24, .slice a8 (((([] : List Link) ++ n_.links) ++ ([l] : List Link)).length) c6), (16, .pointer (some (pn.add 0))), (17, .int .i64 n_.events), (18, .slice a6 (([] : List Link).length) 0), (19, .pointer (some (pn.add 1))), (20, .slice an_ n_.links.length cn_), (21, .slice a7 ((([] : List Link) ++ n_.links).length) c5), (22, .agg #[.int .i64 l.src, .int .i64 l.dst, .int .i64 l.low, .int .i64 l.high]), (23, .slice a5 (([l] : List Link).length) 1), (24, .slice a8 (((([] : List Link) ++ n_.links) ++ ([l] : List Link)).length) c6), (25, .agg #[.int .i64 n_.events, .slice a8 (((([] : List Link) ++ n_.links) ++ ([l] : List Link)).length) c6]), (9, .pointer (some pm))] rfl rfl (fun sL hL => ?_) (.nil))
      refine st (p := pm) (off := 0) (k := 1) (vs := [.int .i64 n_.events, .slice a8 (((([] : List Link) ++ n_.links) ++ ([l] : List Link)).length) c6]) rfl rfl rfl (fun w => (tA24 w).2) rfl rfl rfl rfl ?_
      refine .cast (A' := [OwnSl 35 4 a8 (((([] : List Link) ++ n_.links) ++ ([l] : List Link)).length) c6 (flL ((([] : List Link) ++ n_.links) ++ ([l] : List Link))), Box pm [.int .i64 n_.events, .slice a8 (((([] : List Link) ++ n_.links) ++ ([l] : List Link)).length) c6], OwnSl 35 4 a5 (([l] : List Link).length) 1 (flL ([l] : List Link)), Box pl [.int .i64 l.src, .int .i64 l.dst, .int .i64 l.low, .int .i64 l.high], Box pn [.int .i64 n_.events, .slice an_ n_.links.length cn_]]) rfl ?_
      refine .nil ?_
      refine .jaN (M := [9, 0, 1]) (C' := []) (pre := []) [2, 3, 4, 5] hL rfl rfl rfl rfl rfl (by kernel_rfl) ?_
      refine .last [(16, .pointer (some (pn.add 0))), (17, .int .i64 n_.events), (18, .slice a6 (([] : List Link).length) 0), (19, .pointer (some (pn.add 1))), (20, .slice an_ n_.links.length cn_), (21, .slice a7 ((([] : List Link) ++ n_.links).length) c5), (22, .agg #[.int .i64 l.src, .int .i64 l.dst, .int .i64 l.low, .int .i64 l.high]), (23, .slice a5 (([l] : List Link).length) 1), (24, .slice a8 (((([] : List Link) ++ n_.links) ++ ([l] : List Link)).length) c6), (25, .agg #[.int .i64 n_.events, .slice a8 (((([] : List Link) ++ n_.links) ++ ([l] : List Link)).length) c6]), (9, .pointer (some pm))] rfl (by kernel_rfl) (.nil) rfl ?_
      refine .sel0 [4, 1, 0] (by decide) rfl ?_
      exact .use q69 (pm, a8, c6) hF (.cons rfl (.cons rfl (.cons rfl (.cons rfl (.nil))))) rfl (FH.le_refl _)
  · refine al tZ24 rfl (fun pm => ?_)
    refine .nil ?_
    refine .ja (M := []) (C' := [0, 1, 3, 4, 6]) (pre := [(10, .pointer (some pm))]) [(2, .int .i64 i), (3, .int .i64 j), (4, .pointer (some pn)), (5, .pointer (some pl))] [2, 3, 4, 5] hL rfl rfl rfl rfl rfl (.cons rfl (.cons rfl (.cons rfl (.cons rfl (.nil))))) rfl rfl (by kernel_rfl) ?_
    refine .step [2, 7] 2 rfl (by kernel_rfl) (by kernel_rfl) (.v [] rfl rfl rfl rfl rfl rfl (fun _ => fa rfl tF24_0) (.v [(16, .pointer (some (pn.add 0)))] rfl rfl rfl rfl rfl rfl (fun _ => ld1 rfl tO3 (cellB (off := 0) (k := 2) rfl rfl)) (.v [] rfl rfl rfl rfl rfl rfl (fun _ => fa rfl tF24_1) (.v [(19, .pointer (some (pn.add 1)))] rfl rfl rfl rfl rfl rfl (fun _ => ld1 rfl tO22 (cellB (off := 1) (k := 2) rfl rfl)) (.v [] rfl rfl rfl rfl rfl rfl (fun _ => ldA (cs := [.int .i64 l.src, .int .i64 l.dst, .int .i64 l.low, .int .i64 l.high]) rfl tA35 rfl (cellsB (off := 0) (k := 1) rfl (m := 4) rfl)) (.nil)))))) (.cons [] rfl rfl (fun sL hL => ?_) (.cons [(22, .agg #[.int .i64 l.src, .int .i64 l.dst, .int .i64 l.low, .int .i64 l.high])] rfl rfl (fun sL hL => ?_) (.nil)))
    · refine bs2 (cs := #[]) (pv := []) tS22 rfl rfl (by decide) (by decide) rfl rfl rfl (fun a5 _ => ?_)
      refine .cast (A' := [OwnSl 35 4 a5 (([] : List Link).length) 0 (flL ([] : List Link)), Box pm [.int .i64 0, .slice none 0 0], Box pl [.int .i64 l.src, .int .i64 l.dst, .int .i64 l.low, .int .i64 l.high], Box pn [.int .i64 n_.events, .slice an_ n_.links.length cn_]]) rfl ?_
      refine .nil ?_
      refine .ja (M := []) (C' := [0, 1, 3, 4, 6]) (pre := [(2, .slice a5 (([] : List Link).length) 0)]) [(2, .int .i64 i), (3, .int .i64 j), (4, .pointer (some pn)), (5, .pointer (some pl))] [2, 3, 4, 5] hL rfl rfl rfl rfl rfl (.cons rfl (.cons rfl (.cons rfl (.cons rfl (.nil))))) rfl rfl (by kernel_rfl) ?_
      refine .step [5, 7] 5 rfl (by kernel_rfl) (by kernel_rfl) (.v [] rfl rfl rfl rfl rfl rfl (fun _ => fa rfl tF24_0) (.v [(16, .pointer (some (pn.add 0)))] rfl rfl rfl rfl rfl rfl (fun _ => ld1 rfl tO3 (cellB (off := 0) (k := 3) rfl rfl)) (.v [] rfl rfl rfl rfl rfl rfl (fun _ => fa rfl tF24_1) (.v [(19, .pointer (some (pn.add 1)))] rfl rfl rfl rfl rfl rfl (fun _ => ld1 rfl tO22 (cellB (off := 1) (k := 3) rfl rfl)) (.v [] rfl rfl rfl rfl rfl rfl (fun _ => ldA (cs := [.int .i64 l.src, .int .i64 l.dst, .int .i64 l.low, .int .i64 l.high]) rfl tA35 rfl (cellsB (off := 0) (k := 2) rfl (m := 4) rfl)) (.nil)))))) (.cons [(18, .slice a5 (([] : List Link).length) 0), (20, .slice an_ n_.links.length cn_)] rfl rfl (fun sL hL => ?_) (.cons [(22, .agg #[.int .i64 l.src, .int .i64 l.dst, .int .i64 l.low, .int .i64 l.high])] rfl rfl (fun sL hL => ?_) (.nil)))
      · obtain ⟨q179, hF⟩ := hF
        have q180 : ([] : List Link).length + n_.links.length = ((([] : List Link) ++ n_.links)).length := len_app rfl rfl
        refine app (k := 0) (news := flL n_.links) (cs' := flL (([] : List Link) ++ n_.links)) (nm := ((([] : List Link) ++ n_.links)).length) tS22 rfl (by decide) rfl rfl rfl (by rw [flL_len]; rfl) (srcH (fun q => _q1.ne (by decide) q) (_q1.raw)) (flL_one _) (room_of q180 q179).1 (room_of q180 q179).2 q180 (flL_append _ _).symm rfl (fun a6 c5 => ?_)
        refine .cast (A' := [OwnSl 35 4 a6 ((([] : List Link) ++ n_.links).length) c5 (flL (([] : List Link) ++ n_.links)), Box pm [.int .i64 0, .slice none 0 0], Box pl [.int .i64 l.src, .int .i64 l.dst, .int .i64 l.low, .int .i64 l.high], Box pn [.int .i64 n_.events, .slice an_ n_.links.length cn_]]) rfl ?_
        refine .nil ?_
        refine .ja (M := [4, 3]) (C' := [0, 1, 6]) (pre := [(5, .slice a6 ((([] : List Link) ++ n_.links).length) c5)]) [(2, .int .i64 i), (3, .int .i64 j), (4, .pointer (some pn)), (5, .pointer (some pl))] [2, 3, 4, 5] hL rfl rfl rfl rfl rfl (.cons rfl (.cons rfl (.cons rfl (.cons rfl (.nil))))) rfl rfl (by kernel_rfl) ?_
        refine .step [7] 7 rfl (by kernel_rfl) (by kernel_rfl) (.v [] rfl rfl rfl rfl rfl rfl (fun _ => fa rfl tF24_0) (.v [(16, .pointer (some (pn.add 0)))] rfl rfl rfl rfl rfl rfl (fun _ => ld1 rfl tO3 (cellB (off := 0) (k := 3) rfl rfl)) (.v [] rfl rfl rfl rfl rfl rfl (fun _ => ldA (cs := [.int .i64 l.src, .int .i64 l.dst, .int .i64 l.low, .int .i64 l.high]) rfl tA35 rfl (cellsB (off := 0) (k := 2) rfl (m := 4) rfl)) (.nil)))) (.cons [(22, .agg #[.int .i64 l.src, .int .i64 l.dst, .int .i64 l.low, .int .i64 l.high])] rfl rfl (fun sL hL => ?_) (.nil))
        refine bs2 (cs := #[.int .i64 l.src, .int .i64 l.dst, .int .i64 l.low, .int .i64 l.high]) (pv := [(0, .agg #[.int .i64 l.src, .int .i64 l.dst, .int .i64 l.low, .int .i64 l.high])]) tS22 rfl rfl (by decide) (by decide) rfl rfl rfl (fun a7 _ => ?_)
        refine .cast (A' := [OwnSl 35 4 a7 (([l] : List Link).length) 1 (flL ([l] : List Link)), OwnSl 35 4 a6 ((([] : List Link) ++ n_.links).length) c5 (flL (([] : List Link) ++ n_.links)), Box pm [.int .i64 0, .slice none 0 0], Box pl [.int .i64 l.src, .int .i64 l.dst, .int .i64 l.low, .int .i64 l.high], Box pn [.int .i64 n_.events, .slice an_ n_.links.length cn_]]) rfl ?_
        refine .nil ?_
        refine .ja (M := [6]) (C' := [0, 1]) (pre := [(7, .slice a7 (([l] : List Link).length) 1)]) [(2, .int .i64 i), (3, .int .i64 j), (4, .pointer (some pn)), (5, .pointer (some pl))] [2, 3, 4, 5] hL rfl rfl rfl rfl rfl (.cons rfl (.cons rfl (.cons rfl (.cons rfl (.nil))))) rfl rfl (by kernel_rfl) ?_
        refine .step [8] 8 rfl (by kernel_rfl) (by kernel_rfl) (.v [] rfl rfl rfl rfl rfl rfl (fun _ => fa rfl tF24_0) (.v [(16, .pointer (some (pn.add 0)))] rfl rfl rfl rfl rfl rfl (fun _ => ld1 rfl tO3 (cellB (off := 0) (k := 4) rfl rfl)) (.nil))) (.cons [(21, .slice a6 ((([] : List Link) ++ n_.links).length) c5), (23, .slice a7 (([l] : List Link).length) 1), (21, .slice a6 ((([] : List Link) ++ n_.links).length) c5)] rfl rfl (fun sL hL => ?_) (.nil))
        obtain ⟨q182, hF⟩ := hF
        have q183 : (([] : List Link) ++ n_.links).length + ([l] : List Link).length = (((([] : List Link) ++ n_.links) ++ ([l] : List Link))).length := len_app rfl rfl
        refine app (k := 1) (news := flL ([l] : List Link)) (cs' := flL ((([] : List Link) ++ n_.links) ++ ([l] : List Link))) (nm := (((([] : List Link) ++ n_.links) ++ ([l] : List Link))).length) tS22 rfl (by decide) rfl rfl rfl (by rw [flL_len]; rfl) (srcS (k := 0) rfl) (flL_one _) (room_of q183 q182).1 (room_of q183 q182).2 q183 (flL_append _ _).symm rfl (fun a8 c6 => ?_)
        refine .cast (A' := [OwnSl 35 4 a7 (([l] : List Link).length) 1 (flL ([l] : List Link)), OwnSl 35 4 a8 (((([] : List Link) ++ n_.links) ++ ([l] : List Link)).length) c6 (flL ((([] : List Link) ++ n_.links) ++ ([l] : List Link))), Box pm [.int .i64 0, .slice none 0 0], Box pl [.int .i64 l.src, .int .i64 l.dst, .int .i64 l.low, .int .i64 l.high], Box pn [.int .i64 n_.events, .slice an_ n_.links.length cn_]]) rfl ?_
        refine .nil ?_
        refine .ja (M := []) (C' := [0, 1, 9]) (pre := [(8, .slice a8 (((([] : List Link) ++ n_.links) ++ ([l] : List Link)).length) c6), (9, .agg #[.int .i64 n_.events, .slice a8 (((([] : List Link) ++ n_.links) ++ ([l] : List Link)).length) c6])]) [(2, .int .i64 i), (3, .int .i64 j), (4, .pointer (some pn)), (5, .pointer (some pl))] [2, 3, 4, 5] hL rfl rfl rfl rfl rfl (.cons rfl (.cons rfl (.cons rfl (.cons rfl (.nil))))) rfl rfl (by kernel_rfl) ?_
        refine .step [11] 11 rfl (by kernel_rfl) (by kernel_rfl) (.v [] rfl rfl rfl rfl rfl rfl (fun _ => fa rfl tF24_0) (.v [(16, .pointer (some (pn.add 0)))] rfl rfl rfl rfl rfl rfl (fun _ => ld1 rfl tO3 (cellB (off := 0) (k := 4) rfl rfl)) (.v [(17, .int .i64 n_.events), (24, .slice a8 (((([] : List Link) ++ n_.links) ++ ([l] : List Link)).length) c6)] rfl rfl rfl rfl rfl rfl (fun _ => bld (cs := #[.int .i64 n_.events, .slice a8 (((([] : List Link) ++ n_.links) ++ ([l] : List Link)).length) c6]) (pv := [(0, .int .i64 n_.events), (1, .slice a8 (((([] : List Link) ++ n_.links) ++ ([l] : List Link)).length) c6)]) tB24 rfl rfl) (.nil)))) (.cons [(9, .pointer (some pm)), (25, .agg #[.int .i64 n_.events, .slice a8 (((([] : List Link) ++ n_.links) ++ ([l] : List Link)).length) c6]), (24, .slice a8 (((([] : List Link) ++ n_.links) ++ ([l] : List Link)).length) c6), (16, .pointer (some (pn.add 0))), (17, .int .i64 n_.events), (18, .slice a5 (([] : List Link).length) 0), (19, .pointer (some (pn.add 1))), (20, .slice an_ n_.links.length cn_), (21, .slice a6 ((([] : List Link) ++ n_.links).length) c5), (22, .agg #[.int .i64 l.src, .int .i64 l.dst, .int .i64 l.low, .int .i64 l.high]), (23, .slice a7 (([l] : List Link).length) 1), (24, .slice a8 (((([] : List Link) ++ n_.links) ++ ([l] : List Link)).length) c6), (25, .agg #[.int .i64 n_.events, .slice a8 (((([] : List Link) ++ n_.links) ++ ([l] : List Link)).length) c6]), (9, .pointer (some pm))] rfl rfl (fun sL hL => ?_) (.nil))
        refine st (p := pm) (off := 0) (k := 2) (vs := [.int .i64 n_.events, .slice a8 (((([] : List Link) ++ n_.links) ++ ([l] : List Link)).length) c6]) rfl rfl rfl (fun w => (tA24 w).2) rfl rfl rfl rfl ?_
        refine .cast (A' := [OwnSl 35 4 a7 (([l] : List Link).length) 1 (flL ([l] : List Link)), OwnSl 35 4 a8 (((([] : List Link) ++ n_.links) ++ ([l] : List Link)).length) c6 (flL ((([] : List Link) ++ n_.links) ++ ([l] : List Link))), Box pm [.int .i64 n_.events, .slice a8 (((([] : List Link) ++ n_.links) ++ ([l] : List Link)).length) c6], Box pl [.int .i64 l.src, .int .i64 l.dst, .int .i64 l.low, .int .i64 l.high], Box pn [.int .i64 n_.events, .slice an_ n_.links.length cn_]]) rfl ?_
        refine .nil ?_
        refine .jaN (M := [9, 0, 1]) (C' := []) (pre := []) [2, 3, 4, 5] hL rfl rfl rfl rfl rfl (by kernel_rfl) ?_
        refine .last [(16, .pointer (some (pn.add 0))), (17, .int .i64 n_.events), (18, .slice a5 (([] : List Link).length) 0), (19, .pointer (some (pn.add 1))), (20, .slice an_ n_.links.length cn_), (21, .slice a6 ((([] : List Link) ++ n_.links).length) c5), (22, .agg #[.int .i64 l.src, .int .i64 l.dst, .int .i64 l.low, .int .i64 l.high]), (23, .slice a7 (([l] : List Link).length) 1), (24, .slice a8 (((([] : List Link) ++ n_.links) ++ ([l] : List Link)).length) c6), (25, .agg #[.int .i64 n_.events, .slice a8 (((([] : List Link) ++ n_.links) ++ ([l] : List Link)).length) c6]), (9, .pointer (some pm))] rfl (by kernel_rfl) (.nil) rfl ?_
        refine .sel0 [4, 2, 1] (by decide) rfl ?_
        exact .use q69 (pm, a8, c6) hF (.cons rfl (.cons rfl (.cons rfl (.cons rfl (.nil))))) rfl (FH.le_refl _)
      · refine bs2 (cs := #[.int .i64 l.src, .int .i64 l.dst, .int .i64 l.low, .int .i64 l.high]) (pv := [(0, .agg #[.int .i64 l.src, .int .i64 l.dst, .int .i64 l.low, .int .i64 l.high])]) tS22 rfl rfl (by decide) (by decide) rfl rfl rfl (fun a6 _ => ?_)
        refine .cast (A' := [OwnSl 35 4 a6 (([l] : List Link).length) 1 (flL ([l] : List Link)), OwnSl 35 4 a5 (([] : List Link).length) 0 (flL ([] : List Link)), Box pm [.int .i64 0, .slice none 0 0], Box pl [.int .i64 l.src, .int .i64 l.dst, .int .i64 l.low, .int .i64 l.high], Box pn [.int .i64 n_.events, .slice an_ n_.links.length cn_]]) rfl ?_
        refine .nil ?_
        refine .ja (M := [6]) (C' := [0, 1, 3, 4]) (pre := [(7, .slice a6 (([l] : List Link).length) 1)]) [(2, .int .i64 i), (3, .int .i64 j), (4, .pointer (some pn)), (5, .pointer (some pl))] [2, 3, 4, 5] hL rfl rfl rfl rfl rfl (.cons rfl (.cons rfl (.cons rfl (.cons rfl (.nil))))) rfl rfl (by kernel_rfl) ?_
        refine .step [5] 5 rfl (by kernel_rfl) (by kernel_rfl) (.v [] rfl rfl rfl rfl rfl rfl (fun _ => fa rfl tF24_0) (.v [(16, .pointer (some (pn.add 0)))] rfl rfl rfl rfl rfl rfl (fun _ => ld1 rfl tO3 (cellB (off := 0) (k := 4) rfl rfl)) (.v [] rfl rfl rfl rfl rfl rfl (fun _ => fa rfl tF24_1) (.v [(19, .pointer (some (pn.add 1)))] rfl rfl rfl rfl rfl rfl (fun _ => ld1 rfl tO22 (cellB (off := 1) (k := 4) rfl rfl)) (.nil))))) (.cons [(18, .slice a5 (([] : List Link).length) 0), (20, .slice an_ n_.links.length cn_)] rfl rfl (fun sL hL => ?_) (.nil))
        obtain ⟨q185, hF⟩ := hF
        have q186 : ([] : List Link).length + n_.links.length = ((([] : List Link) ++ n_.links)).length := len_app rfl rfl
        refine app (k := 1) (news := flL n_.links) (cs' := flL (([] : List Link) ++ n_.links)) (nm := ((([] : List Link) ++ n_.links)).length) tS22 rfl (by decide) rfl rfl rfl (by rw [flL_len]; rfl) (srcH (fun q => _q1.ne (by decide) q) (_q1.raw)) (flL_one _) (room_of q186 q185).1 (room_of q186 q185).2 q186 (flL_append _ _).symm rfl (fun a7 c5 => ?_)
        refine .cast (A' := [OwnSl 35 4 a6 (([l] : List Link).length) 1 (flL ([l] : List Link)), OwnSl 35 4 a7 ((([] : List Link) ++ n_.links).length) c5 (flL (([] : List Link) ++ n_.links)), Box pm [.int .i64 0, .slice none 0 0], Box pl [.int .i64 l.src, .int .i64 l.dst, .int .i64 l.low, .int .i64 l.high], Box pn [.int .i64 n_.events, .slice an_ n_.links.length cn_]]) rfl ?_
        refine .nil ?_
        refine .ja (M := [4, 3]) (C' := [0, 1]) (pre := [(5, .slice a7 ((([] : List Link) ++ n_.links).length) c5)]) [(2, .int .i64 i), (3, .int .i64 j), (4, .pointer (some pn)), (5, .pointer (some pl))] [2, 3, 4, 5] hL rfl rfl rfl rfl rfl (.cons rfl (.cons rfl (.cons rfl (.cons rfl (.nil))))) rfl rfl (by kernel_rfl) ?_
        refine .step [8] 8 rfl (by kernel_rfl) (by kernel_rfl) (.v [] rfl rfl rfl rfl rfl rfl (fun _ => fa rfl tF24_0) (.v [(16, .pointer (some (pn.add 0)))] rfl rfl rfl rfl rfl rfl (fun _ => ld1 rfl tO3 (cellB (off := 0) (k := 4) rfl rfl)) (.nil))) (.cons [(21, .slice a7 ((([] : List Link) ++ n_.links).length) c5), (23, .slice a6 (([l] : List Link).length) 1), (21, .slice a7 ((([] : List Link) ++ n_.links).length) c5)] rfl rfl (fun sL hL => ?_) (.nil))
        obtain ⟨q187, hF⟩ := hF
        have q188 : (([] : List Link) ++ n_.links).length + ([l] : List Link).length = (((([] : List Link) ++ n_.links) ++ ([l] : List Link))).length := len_app rfl rfl
        refine app (k := 1) (news := flL ([l] : List Link)) (cs' := flL ((([] : List Link) ++ n_.links) ++ ([l] : List Link))) (nm := (((([] : List Link) ++ n_.links) ++ ([l] : List Link))).length) tS22 rfl (by decide) rfl rfl rfl (by rw [flL_len]; rfl) (srcS (k := 0) rfl) (flL_one _) (room_of q188 q187).1 (room_of q188 q187).2 q188 (flL_append _ _).symm rfl (fun a8 c6 => ?_)
        refine .cast (A' := [OwnSl 35 4 a6 (([l] : List Link).length) 1 (flL ([l] : List Link)), OwnSl 35 4 a8 (((([] : List Link) ++ n_.links) ++ ([l] : List Link)).length) c6 (flL ((([] : List Link) ++ n_.links) ++ ([l] : List Link))), Box pm [.int .i64 0, .slice none 0 0], Box pl [.int .i64 l.src, .int .i64 l.dst, .int .i64 l.low, .int .i64 l.high], Box pn [.int .i64 n_.events, .slice an_ n_.links.length cn_]]) rfl ?_
        refine .nil ?_
        refine .ja (M := []) (C' := [0, 1, 9]) (pre := [(8, .slice a8 (((([] : List Link) ++ n_.links) ++ ([l] : List Link)).length) c6), (9, .agg #[.int .i64 n_.events, .slice a8 (((([] : List Link) ++ n_.links) ++ ([l] : List Link)).length) c6])]) [(2, .int .i64 i), (3, .int .i64 j), (4, .pointer (some pn)), (5, .pointer (some pl))] [2, 3, 4, 5] hL rfl rfl rfl rfl rfl (.cons rfl (.cons rfl (.cons rfl (.cons rfl (.nil))))) rfl rfl (by kernel_rfl) ?_
        refine .step [11] 11 rfl (by kernel_rfl) (by kernel_rfl) (.v [] rfl rfl rfl rfl rfl rfl (fun _ => fa rfl tF24_0) (.v [(16, .pointer (some (pn.add 0)))] rfl rfl rfl rfl rfl rfl (fun _ => ld1 rfl tO3 (cellB (off := 0) (k := 4) rfl rfl)) (.v [(17, .int .i64 n_.events), (24, .slice a8 (((([] : List Link) ++ n_.links) ++ ([l] : List Link)).length) c6)] rfl rfl rfl rfl rfl rfl (fun _ => bld (cs := #[.int .i64 n_.events, .slice a8 (((([] : List Link) ++ n_.links) ++ ([l] : List Link)).length) c6]) (pv := [(0, .int .i64 n_.events), (1, .slice a8 (((([] : List Link) ++ n_.links) ++ ([l] : List Link)).length) c6)]) tB24 rfl rfl) (.nil)))) (.cons [(9, .pointer (some pm)), (25, .agg #[.int .i64 n_.events, .slice a8 (((([] : List Link) ++ n_.links) ++ ([l] : List Link)).length) c6]), (24, .slice a8 (((([] : List Link) ++ n_.links) ++ ([l] : List Link)).length) c6), (16, .pointer (some (pn.add 0))), (17, .int .i64 n_.events), (18, .slice a5 (([] : List Link).length) 0), (19, .pointer (some (pn.add 1))), (20, .slice an_ n_.links.length cn_), (21, .slice a7 ((([] : List Link) ++ n_.links).length) c5), (22, .agg #[.int .i64 l.src, .int .i64 l.dst, .int .i64 l.low, .int .i64 l.high]), (23, .slice a6 (([l] : List Link).length) 1), (24, .slice a8 (((([] : List Link) ++ n_.links) ++ ([l] : List Link)).length) c6), (25, .agg #[.int .i64 n_.events, .slice a8 (((([] : List Link) ++ n_.links) ++ ([l] : List Link)).length) c6]), (9, .pointer (some pm))] rfl rfl (fun sL hL => ?_) (.nil))
        refine st (p := pm) (off := 0) (k := 2) (vs := [.int .i64 n_.events, .slice a8 (((([] : List Link) ++ n_.links) ++ ([l] : List Link)).length) c6]) rfl rfl rfl (fun w => (tA24 w).2) rfl rfl rfl rfl ?_
        refine .cast (A' := [OwnSl 35 4 a6 (([l] : List Link).length) 1 (flL ([l] : List Link)), OwnSl 35 4 a8 (((([] : List Link) ++ n_.links) ++ ([l] : List Link)).length) c6 (flL ((([] : List Link) ++ n_.links) ++ ([l] : List Link))), Box pm [.int .i64 n_.events, .slice a8 (((([] : List Link) ++ n_.links) ++ ([l] : List Link)).length) c6], Box pl [.int .i64 l.src, .int .i64 l.dst, .int .i64 l.low, .int .i64 l.high], Box pn [.int .i64 n_.events, .slice an_ n_.links.length cn_]]) rfl ?_
        refine .nil ?_
        refine .jaN (M := [9, 0, 1]) (C' := []) (pre := []) [2, 3, 4, 5] hL rfl rfl rfl rfl rfl (by kernel_rfl) ?_
        refine .last [(16, .pointer (some (pn.add 0))), (17, .int .i64 n_.events), (18, .slice a5 (([] : List Link).length) 0), (19, .pointer (some (pn.add 1))), (20, .slice an_ n_.links.length cn_), (21, .slice a7 ((([] : List Link) ++ n_.links).length) c5), (22, .agg #[.int .i64 l.src, .int .i64 l.dst, .int .i64 l.low, .int .i64 l.high]), (23, .slice a6 (([l] : List Link).length) 1), (24, .slice a8 (((([] : List Link) ++ n_.links) ++ ([l] : List Link)).length) c6), (25, .agg #[.int .i64 n_.events, .slice a8 (((([] : List Link) ++ n_.links) ++ ([l] : List Link)).length) c6]), (9, .pointer (some pm))] rfl (by kernel_rfl) (.nil) rfl ?_
        refine .sel0 [4, 2, 1] (by decide) rfl ?_
        exact .use q69 (pm, a8, c6) hF (.cons rfl (.cons rfl (.cons rfl (.cons rfl (.nil))))) rfl (FH.le_refl _)
    · refine bs2 (cs := #[.int .i64 l.src, .int .i64 l.dst, .int .i64 l.low, .int .i64 l.high]) (pv := [(0, .agg #[.int .i64 l.src, .int .i64 l.dst, .int .i64 l.low, .int .i64 l.high])]) tS22 rfl rfl (by decide) (by decide) rfl rfl rfl (fun a5 _ => ?_)
      refine .cast (A' := [OwnSl 35 4 a5 (([l] : List Link).length) 1 (flL ([l] : List Link)), Box pm [.int .i64 0, .slice none 0 0], Box pl [.int .i64 l.src, .int .i64 l.dst, .int .i64 l.low, .int .i64 l.high], Box pn [.int .i64 n_.events, .slice an_ n_.links.length cn_]]) rfl ?_
      refine .nil ?_
      refine .ja (M := [6]) (C' := [0, 1, 3, 4]) (pre := [(7, .slice a5 (([l] : List Link).length) 1)]) [(2, .int .i64 i), (3, .int .i64 j), (4, .pointer (some pn)), (5, .pointer (some pl))] [2, 3, 4, 5] hL rfl rfl rfl rfl rfl (.cons rfl (.cons rfl (.cons rfl (.cons rfl (.nil))))) rfl rfl (by kernel_rfl) ?_
      refine .step [2] 2 rfl (by kernel_rfl) (by kernel_rfl) (.v [] rfl rfl rfl rfl rfl rfl (fun _ => fa rfl tF24_0) (.v [(16, .pointer (some (pn.add 0)))] rfl rfl rfl rfl rfl rfl (fun _ => ld1 rfl tO3 (cellB (off := 0) (k := 3) rfl rfl)) (.v [] rfl rfl rfl rfl rfl rfl (fun _ => fa rfl tF24_1) (.v [(19, .pointer (some (pn.add 1)))] rfl rfl rfl rfl rfl rfl (fun _ => ld1 rfl tO22 (cellB (off := 1) (k := 3) rfl rfl)) (.nil))))) (.cons [] rfl rfl (fun sL hL => ?_) (.nil))
      refine bs2 (cs := #[]) (pv := []) tS22 rfl rfl (by decide) (by decide) rfl rfl rfl (fun a6 _ => ?_)
      refine .cast (A' := [OwnSl 35 4 a6 (([] : List Link).length) 0 (flL ([] : List Link)), OwnSl 35 4 a5 (([l] : List Link).length) 1 (flL ([l] : List Link)), Box pm [.int .i64 0, .slice none 0 0], Box pl [.int .i64 l.src, .int .i64 l.dst, .int .i64 l.low, .int .i64 l.high], Box pn [.int .i64 n_.events, .slice an_ n_.links.length cn_]]) rfl ?_
      refine .nil ?_
      refine .ja (M := []) (C' := [0, 1, 3, 4]) (pre := [(2, .slice a6 (([] : List Link).length) 0)]) [(2, .int .i64 i), (3, .int .i64 j), (4, .pointer (some pn)), (5, .pointer (some pl))] [2, 3, 4, 5] hL rfl rfl rfl rfl rfl (.cons rfl (.cons rfl (.cons rfl (.cons rfl (.nil))))) rfl rfl (by kernel_rfl) ?_
      refine .step [5] 5 rfl (by kernel_rfl) (by kernel_rfl) (.v [] rfl rfl rfl rfl rfl rfl (fun _ => fa rfl tF24_0) (.v [(16, .pointer (some (pn.add 0)))] rfl rfl rfl rfl rfl rfl (fun _ => ld1 rfl tO3 (cellB (off := 0) (k := 4) rfl rfl)) (.v [] rfl rfl rfl rfl rfl rfl (fun _ => fa rfl tF24_1) (.v [(19, .pointer (some (pn.add 1)))] rfl rfl rfl rfl rfl rfl (fun _ => ld1 rfl tO22 (cellB (off := 1) (k := 4) rfl rfl)) (.nil))))) (.cons [(18, .slice a6 (([] : List Link).length) 0), (20, .slice an_ n_.links.length cn_)] rfl rfl (fun sL hL => ?_) (.nil))
      obtain ⟨q191, hF⟩ := hF
      have q192 : ([] : List Link).length + n_.links.length = ((([] : List Link) ++ n_.links)).length := len_app rfl rfl
      refine app (k := 0) (news := flL n_.links) (cs' := flL (([] : List Link) ++ n_.links)) (nm := ((([] : List Link) ++ n_.links)).length) tS22 rfl (by decide) rfl rfl rfl (by rw [flL_len]; rfl) (srcH (fun q => _q1.ne (by decide) q) (_q1.raw)) (flL_one _) (room_of q192 q191).1 (room_of q192 q191).2 q192 (flL_append _ _).symm rfl (fun a7 c5 => ?_)
      refine .cast (A' := [OwnSl 35 4 a7 ((([] : List Link) ++ n_.links).length) c5 (flL (([] : List Link) ++ n_.links)), OwnSl 35 4 a5 (([l] : List Link).length) 1 (flL ([l] : List Link)), Box pm [.int .i64 0, .slice none 0 0], Box pl [.int .i64 l.src, .int .i64 l.dst, .int .i64 l.low, .int .i64 l.high], Box pn [.int .i64 n_.events, .slice an_ n_.links.length cn_]]) rfl ?_
      refine .nil ?_
      refine .ja (M := [4, 3]) (C' := [0, 1]) (pre := [(5, .slice a7 ((([] : List Link) ++ n_.links).length) c5)]) [(2, .int .i64 i), (3, .int .i64 j), (4, .pointer (some pn)), (5, .pointer (some pl))] [2, 3, 4, 5] hL rfl rfl rfl rfl rfl (.cons rfl (.cons rfl (.cons rfl (.cons rfl (.nil))))) rfl rfl (by kernel_rfl) ?_
      refine .step [8] 8 rfl (by kernel_rfl) (by kernel_rfl) (.v [] rfl rfl rfl rfl rfl rfl (fun _ => fa rfl tF24_0) (.v [(16, .pointer (some (pn.add 0)))] rfl rfl rfl rfl rfl rfl (fun _ => ld1 rfl tO3 (cellB (off := 0) (k := 4) rfl rfl)) (.nil))) (.cons [(21, .slice a7 ((([] : List Link) ++ n_.links).length) c5), (23, .slice a5 (([l] : List Link).length) 1), (21, .slice a7 ((([] : List Link) ++ n_.links).length) c5)] rfl rfl (fun sL hL => ?_) (.nil))
      obtain ⟨q193, hF⟩ := hF
      have q194 : (([] : List Link) ++ n_.links).length + ([l] : List Link).length = (((([] : List Link) ++ n_.links) ++ ([l] : List Link))).length := len_app rfl rfl
      refine app (k := 0) (news := flL ([l] : List Link)) (cs' := flL ((([] : List Link) ++ n_.links) ++ ([l] : List Link))) (nm := (((([] : List Link) ++ n_.links) ++ ([l] : List Link))).length) tS22 rfl (by decide) rfl rfl rfl (by rw [flL_len]; rfl) (srcS (k := 1) rfl) (flL_one _) (room_of q194 q193).1 (room_of q194 q193).2 q194 (flL_append _ _).symm rfl (fun a8 c6 => ?_)
      refine .cast (A' := [OwnSl 35 4 a8 (((([] : List Link) ++ n_.links) ++ ([l] : List Link)).length) c6 (flL ((([] : List Link) ++ n_.links) ++ ([l] : List Link))), OwnSl 35 4 a5 (([l] : List Link).length) 1 (flL ([l] : List Link)), Box pm [.int .i64 0, .slice none 0 0], Box pl [.int .i64 l.src, .int .i64 l.dst, .int .i64 l.low, .int .i64 l.high], Box pn [.int .i64 n_.events, .slice an_ n_.links.length cn_]]) rfl ?_
      refine .nil ?_
      refine .ja (M := []) (C' := [0, 1, 9]) (pre := [(8, .slice a8 (((([] : List Link) ++ n_.links) ++ ([l] : List Link)).length) c6), (9, .agg #[.int .i64 n_.events, .slice a8 (((([] : List Link) ++ n_.links) ++ ([l] : List Link)).length) c6])]) [(2, .int .i64 i), (3, .int .i64 j), (4, .pointer (some pn)), (5, .pointer (some pl))] [2, 3, 4, 5] hL rfl rfl rfl rfl rfl (.cons rfl (.cons rfl (.cons rfl (.cons rfl (.nil))))) rfl rfl (by kernel_rfl) ?_
      refine .step [11] 11 rfl (by kernel_rfl) (by kernel_rfl) (.v [] rfl rfl rfl rfl rfl rfl (fun _ => fa rfl tF24_0) (.v [(16, .pointer (some (pn.add 0)))] rfl rfl rfl rfl rfl rfl (fun _ => ld1 rfl tO3 (cellB (off := 0) (k := 4) rfl rfl)) (.v [(17, .int .i64 n_.events), (24, .slice a8 (((([] : List Link) ++ n_.links) ++ ([l] : List Link)).length) c6)] rfl rfl rfl rfl rfl rfl (fun _ => bld (cs := #[.int .i64 n_.events, .slice a8 (((([] : List Link) ++ n_.links) ++ ([l] : List Link)).length) c6]) (pv := [(0, .int .i64 n_.events), (1, .slice a8 (((([] : List Link) ++ n_.links) ++ ([l] : List Link)).length) c6)]) tB24 rfl rfl) (.nil)))) (.cons [(9, .pointer (some pm)), (25, .agg #[.int .i64 n_.events, .slice a8 (((([] : List Link) ++ n_.links) ++ ([l] : List Link)).length) c6]), (24, .slice a8 (((([] : List Link) ++ n_.links) ++ ([l] : List Link)).length) c6), (16, .pointer (some (pn.add 0))), (17, .int .i64 n_.events), (18, .slice a6 (([] : List Link).length) 0), (19, .pointer (some (pn.add 1))), (20, .slice an_ n_.links.length cn_), (21, .slice a7 ((([] : List Link) ++ n_.links).length) c5), (22, .agg #[.int .i64 l.src, .int .i64 l.dst, .int .i64 l.low, .int .i64 l.high]), (23, .slice a5 (([l] : List Link).length) 1), (24, .slice a8 (((([] : List Link) ++ n_.links) ++ ([l] : List Link)).length) c6), (25, .agg #[.int .i64 n_.events, .slice a8 (((([] : List Link) ++ n_.links) ++ ([l] : List Link)).length) c6]), (9, .pointer (some pm))] rfl rfl (fun sL hL => ?_) (.nil))
      refine st (p := pm) (off := 0) (k := 2) (vs := [.int .i64 n_.events, .slice a8 (((([] : List Link) ++ n_.links) ++ ([l] : List Link)).length) c6]) rfl rfl rfl (fun w => (tA24 w).2) rfl rfl rfl rfl ?_
      refine .cast (A' := [OwnSl 35 4 a8 (((([] : List Link) ++ n_.links) ++ ([l] : List Link)).length) c6 (flL ((([] : List Link) ++ n_.links) ++ ([l] : List Link))), OwnSl 35 4 a5 (([l] : List Link).length) 1 (flL ([l] : List Link)), Box pm [.int .i64 n_.events, .slice a8 (((([] : List Link) ++ n_.links) ++ ([l] : List Link)).length) c6], Box pl [.int .i64 l.src, .int .i64 l.dst, .int .i64 l.low, .int .i64 l.high], Box pn [.int .i64 n_.events, .slice an_ n_.links.length cn_]]) rfl ?_
      refine .nil ?_
      refine .jaN (M := [9, 0, 1]) (C' := []) (pre := []) [2, 3, 4, 5] hL rfl rfl rfl rfl rfl (by kernel_rfl) ?_
      refine .last [(16, .pointer (some (pn.add 0))), (17, .int .i64 n_.events), (18, .slice a6 (([] : List Link).length) 0), (19, .pointer (some (pn.add 1))), (20, .slice an_ n_.links.length cn_), (21, .slice a7 ((([] : List Link) ++ n_.links).length) c5), (22, .agg #[.int .i64 l.src, .int .i64 l.dst, .int .i64 l.low, .int .i64 l.high]), (23, .slice a5 (([l] : List Link).length) 1), (24, .slice a8 (((([] : List Link) ++ n_.links) ++ ([l] : List Link)).length) c6), (25, .agg #[.int .i64 n_.events, .slice a8 (((([] : List Link) ++ n_.links) ++ ([l] : List Link)).length) c6]), (9, .pointer (some pm))] rfl (by kernel_rfl) (.nil) rfl ?_
      refine .sel0 [4, 2, 0] (by decide) rfl ?_
      exact .use q69 (pm, a8, c6) hF (.cons rfl (.cons rfl (.cons rfl (.cons rfl (.nil))))) rfl (FH.le_refl _)

theorem c_lawMoreLinks {h : FH} {w : World} (hs : Sub h w) (n_ : Network) (an_ : Option Addr) (cn_ : Nat) (_q1 : RSl h an_ n_.links) (_q2 : n_.links.length ≤ cn_) (l : Link) (i : Int) (j : Int) (hp : pre_lawMoreLinks n_ l i j) : Calls Try.prog 4 #[.agg #[.int .i64 n_.events, .slice an_ n_.links.length cn_], .agg #[.int .i64 l.src, .int .i64 l.dst, .int .i64 l.low, .int .i64 l.high], .int .i64 i, .int .i64 j] w fun e w' => e = .returned (.bool (sp_lawMoreLinks n_ l i j)) ∧ Below w.heap.size w w' :=
  (w_lawMoreLinks hs n_ an_ cn_ _q1 _q2 l i j (fun r => r = sp_lawMoreLinks n_ l i j) (ok_lawMoreLinks n_ l i j hp)).mono fun _ _ ⟨_, hk, he, hb⟩ => ⟨by rw [he, hk], hb⟩

end Go.Proofs.Ytijicdmpidbacaa.Pl
